/- strconv.Atoi as a Sim, at every text: what it gives, and if there is an error. No condition beyond those that each theorem names. -/
import Derived.Test.YtgoglplnajofnaaGreatDoorEvShL
import Derived.Shelf.Strconv.AtoiAll
import Derived.LaidLaws
import Derived.Lib.LaidU8
import Derived.Lay
set_option linter.unusedVariables false
set_option linter.unusedSimpArgs false
namespace Go.Ev
open Go.Shelf Go.RowKit Go.Proofs
variable {T : TypeId → Type}

/-- A variable of the first world that holds an error, or none. -/
def IfAt (w : World) (g : Nat) : Prop := g < w.heap.size ∧ ∃ v, w.cell? ⟨g, 0, none⟩ = some v ∧ (v = .nilIface ∨ ∃ te pe, v = .iface te pe)

theorem IfAt.now {c : Cfg T} {η : Eta} {H : List (Obj T)} {w : World} {g : Nat} (h : IfAt c.w0 g) (hH : RelH (rc c) η H w) : ∃ v, w.cell? ⟨g, 0, none⟩ = some v ∧ (v = .nilIface ∨ ∃ te pe, v = .iface te pe) := by
  obtain ⟨h1, v, h2, h3⟩ := h
  exact ⟨v, (cell_congr (off := 0) (old_ok hH g h1).2).trans h2, h3⟩

/-- A listed variable that holds an error. -/
theorem ifat_reads {P : Program} {w : World} {name nm : String} {d : DataW Unit} {g : Nat} {t : TypeId} {ms : Array (String × TypeId)} (h : Lib.VarReads P w name (.iface nm d))
    (hg : P.globalNamed name = some g) (hty : (P.globals[g]?).map (·.type) = some t) (ht : P.underlying t = some (.interface ms)) : IfAt w g := by
  obtain ⟨g', t', cs, fuel, p, hg', ht', hvar, hd⟩ := h
  obtain rfl := Option.some.inj (hg.symm.trans hg')
  obtain rfl := Option.some.inj (hty.symm.trans ht')
  obtain ⟨fuel', u, v, hcs, _, _⟩ := iface_of_trod ht hd
  have hcell : w.cell? (at_ g 0) = some (.iface u v) := by
    have := World.var?_cell hg hvar 0
    rw [← Array.getElem?_toList, hcs] at this
    exact this
  exact ⟨cell_lt hcell, _, hcell, .inr ⟨_, _, rfl⟩⟩

/-- What strconv.Atoi gives, and if there is an error. -/
def atoiR (s : List UInt8) : Int × Bool := match Lib.atoiAll s with
  | .ok v => (v, false)
  | .syntax => (0, true)
  | .range => (Lib.atoiSat s, true)
def atoiS (s : List UInt8) : Option (Int × Bool) := cond (Nat.ble s.length 281474976710656) (some (atoiR s)) none

theorem one_s {c : Cfg T} {η : Eta} {w : World} {s : List UInt8} {xs : List Value} (h : RVs (rc c) η w [.d (.s s)] xs) : xs = [.string ⟨s.toArray⟩] := by
  simp only [RVs, RV] at h
  obtain ⟨x, _, rfl, hx, rfl⟩ := h
  cases hx; rfl

theorem below_evo {c : Cfg T} {η : Eta} {w w' : World} (hH : RelH (rc c) η [] w) (hb : Below w.heap.size w w') : Evo η η w w' ∧ RelH (rc c) η [] w' := by
  have hev : Evo η η w w' := ⟨hb.size, fun b hlt _ => hb.block b hlt, fun _ _ h => h, rfl, rfl, ⟨hb.os, hb.tape, hb.output⟩⟩
  exact ⟨hev, ⟨fun id r o h1 h2 => by simp at h2, fun id r b h1 h2 => Nat.lt_of_lt_of_le (hH.lt id r b h1 h2) hb.size, hH.inj, hH.nf, fun b h => Nat.lt_of_lt_of_le (hH.fl b h) hb.size, hH.oldEvo hev⟩⟩

theorem sim_atoi {c : Cfg T} {ρ : Ren} (L : LaysC.n172 c.P ρ) (he : IfAt c.w0 (ρ.g 15)) (hr : IfAt c.w0 (ρ.g 16)) {s : List UInt8} {r : Int × Bool} (h : atoiS s = some r) :
    Sim c (ρ.f 172) [.d (.s s)] [] [.d (.i .i64 r.1), .d (.ie r.2)] [] := by
  obtain ⟨h1, rfl⟩ := cond_someD h
  have h1 : s.length ≤ 281474976710656 := Nat.le_of_ble_eq_true h1
  refine ⟨⟨_, L.f172, rfl, rfl⟩, Nat.le_refl _, fun η w xs hH hfr hx => ?_⟩
  rw [one_s hx]
  cases ha : Lib.atoiAll s with
  | ok v =>
    refine (Any.strconv_Atoi_ok L ⟨s.toArray⟩ (by show s.toArray.size ≤ _; simp; omega) v (by simpa using ha) w).mono ?_
    rintro e w' ⟨rfl, hw⟩
    have hb : Below w.heap.size w w' := by
      rcases hw with rfl | ⟨t, rfl⟩
      · exact Below.refl _ _
      · exact Lib.bytesWorld_below _ _ _
    obtain ⟨h2, h3⟩ := below_evo hH hb
    refine ⟨_, η, rfl, ?_, h2, Keeps.refl η, h3, hfr⟩
    simp only [atoiR, ha, pack, RV, RVs]
    exact ⟨[.int .i64 v, .nilIface], rfl, _, _, rfl, .i _ _, _, _, rfl, .ie0, rfl⟩
  | «syntax» =>
    obtain ⟨ev, hv, hev⟩ := he.now hH
    refine (Any.strconv_Atoi_syntax L ⟨s.toArray⟩ (by show s.toArray.size ≤ _; simp; omega) (by simpa using ha) ev w hv hev).mono ?_
    rintro e w' ⟨N, rfl, -, -, hb⟩
    obtain ⟨h2, h3⟩ := below_evo hH hb
    refine ⟨_, η, rfl, ?_, h2, Keeps.refl η, h3, hfr⟩
    simp only [atoiR, ha, pack, RV, RVs]
    exact ⟨_, rfl, _, _, rfl, .i _ _, _, _, rfl, .ie1 _ _, rfl⟩
  | range =>
    obtain ⟨ev, hv, hev⟩ := hr.now hH
    refine (Any.strconv_Atoi_range L ⟨s.toArray⟩ (by show s.toArray.size ≤ _; simp; omega) (by simpa using ha) ev w hv hev).mono ?_
    rintro e w' ⟨N, rfl, -, -, hb⟩
    obtain ⟨h2, h3⟩ := below_evo hH hb
    refine ⟨_, η, rfl, ?_, h2, Keeps.refl η, h3, hfr⟩
    simp only [atoiR, ha, pack, RV, RVs]
    exact ⟨_, rfl, _, _, rfl, by simpa using VD.i _ _, _, _, rfl, .ie1 _ _, rfl⟩

end Go.Ev
