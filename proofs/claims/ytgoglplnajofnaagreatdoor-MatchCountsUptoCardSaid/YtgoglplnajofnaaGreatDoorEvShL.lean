/- A part of the evaluator of Go code over small heaps and of its proof: no condition beyond those that each theorem names. -/
import Derived.Test.YtgoglplnajofnaaGreatDoorEvBl
import Derived.Shelf.Strings.SlTrimAscii
import Derived.Shelf.Strings.Search3
set_option linter.unusedVariables false
set_option linter.unusedSimpArgs false
set_option linter.constructorNameAsVariable false
namespace Go.Ev
open Go.Shelf Go.RowKit Go.Proofs
variable {T : TypeId → Type}

/-- A function that has no memory of its caller's, from what it comes to in any world. -/
theorem pure_sim {c : Cfg T} {f : FuncId} {args res : List (V T)} {y : Value}
    (hf : ∃ fn, c.P.funcs[f]? = some fn ∧ (fn.name == "runtime.NumGoroutine") = false ∧ fn.body.isNone = false) (hy : ∀ η w, RV (rc c) η w (pack res) y)
    (hcall : ∀ (w : World) (xs : List Value) (η : Eta), RelH (rc c) η [] w → RVs (rc c) η w args xs → Calls c.P f xs.toArray w fun e w' => e = .returned y ∧ Below w.heap.size w w') :
    Sim c f args [] res [] := by
  refine ⟨hf, Nat.le_refl _, fun η w xs hH hfr hx => ?_⟩
  refine (hcall w xs η hH hx).mono ?_
  rintro e w' ⟨rfl, hb⟩
  have hev : Evo η η w w' := ⟨hb.size, fun b hlt _ => hb.block b hlt, fun _ _ h => h, rfl, rfl, ⟨hb.os, hb.tape, hb.output⟩⟩
  refine ⟨y, η, rfl, hy η w', hev, Keeps.refl η, ⟨fun id r o h1 h2 => by simp at h2, fun id r b h1 h2 => Nat.lt_of_lt_of_le (hH.lt id r b h1 h2) hb.size, hH.inj, hH.nf, fun b h => Nat.lt_of_lt_of_le (hH.fl b h) hb.size, hH.oldEvo hev⟩, hfr⟩

def asciiB (l : List UInt8) : Bool := l.all fun b => b.toNat.blt 128

theorem asciiB_ok {l : List UInt8} (h : asciiB l = true) (j : Nat) (b : UInt8) (hb : l[j]? = some b) : b.toNat < 128 := by
  have := List.all_eq_true.1 h b (List.mem_of_getElem? hb)
  simpa [Nat.blt_eq] using this

/-- How long a text may be that is searched. -/
def findMax : Nat := 4294967281

def trimL (s t : List UInt8) : Option (List UInt8) := cond (asciiB t && t.length.blt findMax) (some (s.dropWhile (t.contains ·))) none
def trimR (s t : List UInt8) : Option (List UInt8) := cond (asciiB t && t.length.blt findMax && s.length.blt 9223372036854775807) (some (Lib.trimRightS s t)) none
def trimB (s t : List UInt8) : Option (List UInt8) := cond (asciiB t && t.length.blt findMax && s.length.blt 9223372036854775807) (some (Lib.trimS s t)) none
def findS (s t : List UInt8) : Option Int := cond (s.length.blt findMax) (some (Lib.index s t)) none

theorem cond_someD {α : Type} {b : Bool} {x y : α} (h : cond b (some x) none = some y) : b = true ∧ x = y := by
  cases b with
  | true => exact ⟨rfl, by simpa using h⟩
  | false => cases h

theorem two_s {c : Cfg T} {η : Eta} {w : World} {s t : List UInt8} {xs : List Value} (h : RVs (rc c) η w [.d (.s s), .d (.s t)] xs) : xs = [.string ⟨s.toArray⟩, .string ⟨t.toArray⟩] := by
  simp only [RVs, RV] at h
  obtain ⟨x, _, rfl, hx, y, _, rfl, hy, rfl⟩ := h
  cases hx; cases hy; rfl

theorem sim_trimL {c : Cfg T} {ρ : Ren} (L : Lays.n161 c.P ρ) (h116 : (c.P.info? (ρ.t 116)).map (fun i => (i.zero, i.size)) = some (some (.agg (Array.replicate 256 (.bool false))), 256)) {s t r : List UInt8} (h : trimL s t = some r) :
    Sim c (ρ.f 161) [.d (.s s), .d (.s t)] [] [.d (.s r)] [] := by
  obtain ⟨h1, rfl⟩ := cond_someD h
  rw [Bool.and_eq_true] at h1
  refine pure_sim (y := .string ⟨(Lib.trimLeftS s t).toArray⟩) ⟨_, L.f161, rfl, rfl⟩ (fun η w => by simp only [pack, RV]; exact .s _) fun w xs η hH hx => ?_
  rw [two_s hx]
  exact Any.strings_TrimLeft_laid L h116 ⟨s.toArray⟩ ⟨t.toArray⟩ w (by have := h1.2; simp [findMax, Nat.blt_eq] at this; exact this) (fun j b hb => asciiB_ok h1.1 j b hb)

theorem sim_trimR {c : Cfg T} {ρ : Ren} (L : Lays.n162 c.P ρ) (h116 : (c.P.info? (ρ.t 116)).map (fun i => (i.zero, i.size)) = some (some (.agg (Array.replicate 256 (.bool false))), 256)) {s t r : List UInt8} (h : trimR s t = some r) :
    Sim c (ρ.f 162) [.d (.s s), .d (.s t)] [] [.d (.s r)] [] := by
  obtain ⟨h1, rfl⟩ := cond_someD h
  simp only [Bool.and_eq_true] at h1
  refine pure_sim (y := .string ⟨(Lib.trimRightS s t).toArray⟩) ⟨_, L.f162, rfl, rfl⟩ (fun η w => by simp only [pack, RV]; exact .s _) fun w xs η hH hx => ?_
  rw [two_s hx]
  exact Any.strings_TrimRight_laid L h116 ⟨s.toArray⟩ ⟨t.toArray⟩ w (by have := h1.2; simp [Nat.blt_eq] at this; exact Nat.le_of_lt this) (by have := h1.1.2; simp [findMax, Nat.blt_eq] at this; exact this) (fun j b hb => asciiB_ok h1.1.1 j b hb)

theorem sim_trimB {c : Cfg T} {ρ : Ren} (L : Lays.n160 c.P ρ) (h116 : (c.P.info? (ρ.t 116)).map (fun i => (i.zero, i.size)) = some (some (.agg (Array.replicate 256 (.bool false))), 256)) {s t r : List UInt8} (h : trimB s t = some r) :
    Sim c (ρ.f 160) [.d (.s s), .d (.s t)] [] [.d (.s r)] [] := by
  obtain ⟨h1, rfl⟩ := cond_someD h
  simp only [Bool.and_eq_true] at h1
  refine pure_sim (y := .string ⟨(Lib.trimS s t).toArray⟩) ⟨_, L.f160, rfl, rfl⟩ (fun η w => by simp only [pack, RV]; exact .s _) fun w xs η hH hx => ?_
  rw [two_s hx]
  exact Any.strings_Trim_laid L h116 ⟨s.toArray⟩ ⟨t.toArray⟩ w (by have := h1.2; simp [Nat.blt_eq] at this; exact Nat.le_of_lt this) (by have := h1.1.2; simp [findMax, Nat.blt_eq] at this; exact this) (fun j b hb => asciiB_ok h1.1.1 j b hb)

/-- A variable of the first world that holds a number. -/
def NumAt (w : World) (g : Nat) : Prop := g < w.heap.size ∧ ∃ m, w.cell? ⟨g, 0, none⟩ = some (.int .i64 m)

theorem NumAt.now {c : Cfg T} {η : Eta} {H : List (Obj T)} {w : World} {g : Nat} (h : NumAt c.w0 g) (hH : RelH (rc c) η H w) : ∃ m, w.cell? ⟨g, 0, none⟩ = some (.int .i64 m) := by
  obtain ⟨h1, m, h2⟩ := h
  refine ⟨m, ?_⟩
  have := cell_congr (off := 0) (old_ok hH g h1).2
  exact this.trans h2

theorem sim_findS {c : Cfg T} {ρ : Ren} (L : Lays.n143 c.P ρ) (hm : NumAt c.w0 (ρ.g 1)) {s t : List UInt8} {r : Int} (h : findS s t = some r) :
    Sim c (ρ.f 143) [.d (.s s), .d (.s t)] [] [.d (.i .i64 r)] [] := by
  obtain ⟨h1, rfl⟩ := cond_someD h
  refine pure_sim (y := .int .i64 (Lib.index s t)) ⟨_, L.f143, rfl, rfl⟩ (fun η w => by simp only [pack, RV]; exact .i _ _) fun w xs η hH hx => ?_
  rw [two_s hx]
  obtain ⟨m, hm'⟩ := hm.now hH
  refine (Any.strings_Index L ⟨s.toArray⟩ ⟨t.toArray⟩ m w (by simp [findMax, Nat.blt_eq] at h1; exact h1) hm').mono ?_
  rintro e w' ⟨rfl, rfl⟩
  exact ⟨rfl, Below.refl _ _⟩

end Go.Ev
