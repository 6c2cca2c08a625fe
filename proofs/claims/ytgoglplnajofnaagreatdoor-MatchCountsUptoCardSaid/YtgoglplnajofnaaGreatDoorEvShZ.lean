/- slices.Clone, as a Sim: of a list a list of one's own; no condition beyond those that each theorem names. -/
import Derived.Test.YtgoglplnajofnaaGreatDoorEvShL
import Derived.Shelf.SlicesE.Clone
set_option linter.unusedVariables false
namespace Go.Ev
open Go.Shelf Go.RowKit Go.Proofs
variable {T : TypeId → Type}

set_option maxHeartbeats 2000000 in
set_option maxRecDepth 100000 in
/-- The call at a slice that has a place, wherever that is. -/
theorem clone_at {P : Program} {ρ : Ren} (L : SlLaysE0.n41 P ρ) (i0 : TypeInfo) (z : Value) (size bytes : Nat) (hi : P.info? (ρ.t 23) = some i0) (hz0 : i0.zero = some z) (hz1 : i0.size = size) (hz2 : i0.bytes = bytes) (hzs : z.cells.size = size) (hsz : 0 < size)
    (z23 : ∀ w, (Go.sizeOf (ρ.t 23)).run P w = .ok size w) (ad : Addr) (n c : Nat) (news : List Value) (w : World) (hl : news.length = n * size) (hn : n ≤ maxLen) (hbig : n * bytes ≤ 140737488355328)
    (hc : ∀ j u, news[j]? = some u → w.cell? (ad.add j) = some u) (h1 : ∀ u ∈ news, u.oneCell' = true) :
    Calls P (ρ.f 41) #[.slice (some ad) n c] w fun e w' => ∃ v', e = .returned v' ∧ w'.ownsRow w.heap.size (ρ.t 23) size v' n news ∧ Below w.heap.size w w' := by
  have mixed := L.mixed; have t4 := L.t4; have a4 := L.a4; have z4 := L.z4; have v4 := L.v4; have t22 := L.t22; have a22 := L.a22; have z22 := L.z22; have v22 := L.v22
  have q22 : ∀ (w : World) (a : Option Addr) (n c n' c' : Nat), (binOp .eql (ρ.t 22) (.slice a n c) (.slice none n' c')).run P w = .ok (.bool a.isNone) w := fun w a n c n' c' => Lib.run_eql_slice_nil w _ _ a n c n' c' L.t22
  have u22 : ∀ w, Sem.run P (underlying (ρ.t 22)) w = .ok (TypeDesc.slice (ρ.t 23)) w := run_underlying t22
  have A : Aside (∀ j u, news[j]? = some u → w.cell? (ad.add j) = some u) := hc
  clear hc
  obtain ⟨_, _, FG⟩ := L.f41
  go_enter FG, SlBodyN.n41_ntmps ρ
  go_wp2_with (at_builtin; refine wpList_append_own _ rfl _ _ (ρ.t 22) rfl w.heap.size (ρ.t 23) i0 z size bytes t22 hi hz0 hz1 hz2 hzs hsz _ _ _ rfl (World.ownsRow_made w #[] 0 (Nat.le_refl _) (Nat.zero_le _) (by simp)) ad n c news rfl ?qc1 ?qc2 ?qc3 ?qc4 ?qc5 ?qc6 ?_)
  case qc1 => exact hl
  case qc2 =>
    intro j u hj
    exact Lib.cell?_alloc_some _ (A.out j u hj)
  case qc3 => exact h1
  case qc4 => rw [Nat.zero_add]; exact hn
  case qc5 => rw [Nat.zero_add]; exact hbig
  case qc6 => simp
  intro v' w1 hown hgrow hnil
  go_wp2
  go_ret
  refine ⟨v', rfl, by simpa using hown, ?_⟩
  exact ((Below.refl _ w).alloc (Nat.le_refl _) _).grown hgrow (by simp) (by intro k hk; simp [Value.ownBlock] at hk; omega)

/-- One new object, in a world that is behind. -/
theorem New.behind {R : Rc T} {η : Eta} {n : Nat} {w w' : World} {o : Obj T} {r : RO} (hf : Fresh η n 1) (hb : Below w.heap.size w w') (hr : ∀ b, r.has b → w.heap.size ≤ b ∧ b < w'.heap.size)
    (hrel : Evo η (put1 η n r) w w' → Keeps η (put1 η n r) → relObj R (put1 η n r) w' o r) : New R η (put1 η n r) n [o] w w' := by
  have hk : Keeps η (put1 η n r) := fun id r' hr' => by
    left; rw [put1_eq]; split
    · rename_i h; subst h; rw [hf id (Nat.le_refl _) (by omega)] at hr'; cases hr'
    · exact hr'
  have he : Evo η (put1 η n r) w w' := ⟨hb.size, fun b h _ => hb.block b h, fun b hlt ⟨id, r', hr', hh⟩ => by
    rw [put1_eq] at hr'; split at hr'
    · cases hr'; have := (hr b hh).1; omega
    · exact ⟨id, r', hr', hh⟩, rfl, rfl, ⟨hb.os, hb.tape, hb.output⟩⟩
  refine ⟨hb.size, fun b h => hb.block b h, ?_, ?_, ?_, ?_, rfl, rfl, ⟨hb.os, hb.tape, hb.output⟩⟩
  · intro id hid
    rw [put1_eq]; rw [if_neg (by simp at hid; omega)]
  · intro k o' r' ho hr'
    cases k with
    | zero => simp at ho; subst ho; simp [put1] at hr'; subst hr'; exact hrel he hk
    | succ k => simp at ho
  · intro k r' b hk' hr' hh
    have : k = 0 := by simpa using hk'
    subst this
    simp [put1] at hr'; subst hr'
    exact hr b hh
  · intro k k' _ _ _ hk1 hk2 _ _ _ _
    simp at hk1 hk2; omega

def cloneS {α : Type} (xs : List α) : Option (List α) := cond (Nat.blt xs.length most) (some xs) none

/-- slices.Clone: a list of one's own. -/
theorem sim_clone {c : Cfg T} (hc : CodOk (rc c)) {ρ : Ren} (L : SlLaysE0.n41 c.P ρ) {e : TypeId} (he : ρ.t 23 = e) (hk : c.cod.kn e = true)
    (hz : ((zeroCells (T := T) c.P e).any fun z => sizeT c.P e == some z.length && Nat.blt 0 z.length) = true) (hb : ((c.P.info? e).map (·.bytes)).any (fun b => Nat.ble b 16384) = true)
    {xs r : List (T e)} (h : cloneS xs = some r) : Sim c (ρ.f 41) [.d (.l e xs)] [] [.sl 0 none] [.arr e r] := by
  obtain ⟨h1, rfl⟩ := cond_someD h
  have hlen : xs.length < 4294967296 := by simpa [most, Nat.blt_eq] using h1
  cases hz1 : (zeroCells (T := T) c.P e) with
  | none => simp [hz1] at hz
  | some zero =>
  obtain ⟨i, z, hi, hzv, hzl⟩ := elem_info hz1
  have hsz : sizeT c.P e = some zero.length ∧ 0 < zero.length := by simpa [hz1, Nat.blt_eq] using hz
  have hsize : (rc c).sz e = zero.length := sizeT_cells hsz.1
  have hisz : i.size = zero.length := by have := hsz.1; simpa [sizeT, hi] using this
  have hby : i.bytes ≤ 16384 := by simpa [hi] using hb
  obtain ⟨nm, hnm, hf⟩ := L.f41
  refine ⟨⟨_, hf, hnm, rfl⟩, Nat.zero_le _, fun η w vs hH hfr hx => ?_⟩
  simp only [RVs, RV] at hx
  obtain ⟨x, vs', rfl, hx, rfl⟩ := hx
  obtain ⟨a, cap, rfl, hcap, hrd⟩ := hx.inv_l
  have hfr1 : Fresh η ([] : List (Obj T)).length 1 := fun id h1 _ => hfr id h1
  have none_case : ∀ w', Below w.heap.size w w' → xs = [] → ∃ v η', (Ending.returned (.slice none 0 0) : Ending) = endOf false v ∧ RV (rc c) η' w' (pack [V.sl 0 none]) v ∧ Evo η η' w w' ∧ Keeps η η' ∧ RelH (rc c) η' [Obj.arr e xs] w' ∧
      ∀ (id : Nat), [Obj.arr e xs].length ≤ id → η'.m id = none := by
    intro w' hb0 h0
    have hN : New (rc c) η (put1 η 0 (RO.arr e xs.length none 0)) ([] : List (Obj T)).length [Obj.arr e xs] w w' :=
      New.behind hfr1 hb0 (fun b hb' => hb'.elim) fun _ _ => ⟨none, 0, rfl, h0, rfl⟩
    refine ⟨_, put1 η 0 (RO.arr e xs.length none 0), rfl, ?_, hN.evo, hN.keeps hfr1, hN.relH hfr1 hH, fun id hid => ?_⟩
    · simp only [pack, RV]
      exact ⟨_, none, 0, 0, by rw [put1_eq, if_pos rfl, h0], rfl, .inr ⟨e, none, by simp, .inl rfl⟩⟩
    · rw [hN.keep id (by simp at hid ⊢; omega)]; exact hfr id (Nat.zero_le _)
  have hcells : ∃ ys : List Value, ys.length = xs.length * (rc c).sz e ∧ (∀ (i : Nat) (hi : i < xs.length), RVs (rc c) η w (ofDs (c.cod.enc e xs[i])) ((ys.drop (i * (rc c).sz e)).take ((rc c).sz e))) ∧
      ∀ ad, a = some ad → ∀ j u, ys[j]? = some u → w.cell? (ad.add j) = some u := by
    rcases hrd with rfl | ⟨b, o, rfl, h3, h4, harr⟩
    · exact ⟨[], by simp, fun i hi => absurd hi (by simp), fun _ _ j u hj => by simp at hj⟩
    · obtain ⟨ys, h5, h6, h7⟩ := rows_of_arr hc hk harr
      refine ⟨ys, h6, h7, fun ad had j u hj => ?_⟩
      cases had
      rw [show (at_ b o).add j = at_ b (o + j) from Addr.add_lit ..]; exact h5 j u hj
  obtain ⟨ys, hy1, hy2, hy3⟩ := hcells
  cases a with
  | none =>
    have h0 : xs = [] := by
      rcases hrd with h | ⟨b, o, h, _⟩
      · exact h
      · cases h
    refine (AnyE.slices_Clone_nil L xs.length cap w).mono ?_
    rintro e1 w' ⟨rfl, rfl⟩
    exact none_case w' (Below.refl _ _) h0
  | some ad =>
    have hbig : xs.length * i.bytes ≤ 140737488355328 := by
      have := Nat.mul_le_mul (Nat.le_of_lt hlen) hby
      omega
    refine (clone_at L i z ((rc c).sz e) i.bytes (by rw [he]; exact hi) hzv (by rw [hisz, hsize]) rfl (by rw [hzl, hsize]) (by rw [hsize]; exact hsz.2) (fun w0 => by rw [he, hsize]; exact run_size hsz.1 w0) ad xs.length cap ys w hy1
      (by unfold maxLen; omega) hbig (hy3 ad rfl) (all_ones (R := rc c) (η := η) (w := w) hy1 hy2)).mono ?_
    rintro e1 w' ⟨v', rfl, ⟨_, hown⟩, hb0⟩
    rcases hown with ⟨rfl, h0⟩ | ⟨g, cap', cur, rfl, hg1, hg2, hcap1, _, hcur, htake⟩
    · exact none_case w' hb0 (List.eq_nil_of_length_eq_zero h0)
    · have hglt : g < w'.heap.size := by
        rcases Nat.lt_or_ge g w'.heap.size with h' | h'
        · exact h'
        · rw [Array.getElem?_eq_none h'] at hg2; cases hg2
      have hN : New (rc c) η (put1 η 0 (RO.arr e xs.length (some (g, 0)) cap')) ([] : List (Obj T)).length [Obj.arr e xs] w w' := by
        refine New.behind hfr1 hb0 (fun b hb' => by cases hb'; exact ⟨hg1, hglt⟩) fun hev hkp => ⟨some (g, 0), cap', rfl, cur, _, (0, 0), hg2, by rw [hcur]; omega, hcap1, fun i _ => by simp, ?_⟩
        refine arr_of_rows hg2 fun i hi => ?_
        simp only [Nat.zero_add]
        have h5 := RVs.mono hev hkp _ _ (hy2 i hi)
        have hle : (i + 1) * (rc c).sz e ≤ xs.length * (rc c).sz e := Nat.mul_le_mul_right _ hi
        rw [Nat.add_mul, Nat.one_mul] at hle
        rw [← htake, List.drop_take, List.take_take, Nat.min_eq_left (by omega)] at h5
        exact h5
      refine ⟨_, put1 η 0 (RO.arr e xs.length (some (g, 0)) cap'), rfl, ?_, hN.evo, hN.keeps hfr1, hN.relH hfr1 hH, fun id hid => ?_⟩
      · simp only [pack, RV]
        exact ⟨_, _, _, _, by rw [put1_eq, if_pos rfl], rfl, .inr ⟨e, some (g, 0), rfl, .inl rfl⟩⟩
      · rw [hN.keep id (by simp at hid ⊢; omega)]; exact hfr id (Nat.zero_le _)

/-- The same at nil. -/
theorem sim_clone_ns {c : Cfg T} {ρ : Ren} (L : SlLaysE0.n41 c.P ρ) : Sim c (ρ.f 41) [.d .ns] [] [.d .ns] [] := by
  obtain ⟨nm, hnm, hf⟩ := L.f41
  refine pure_sim (y := .slice none 0 0) ⟨_, hf, hnm, rfl⟩ (fun η w => by simp only [pack, RV]; exact .ns) fun w xs η hH hx => ?_
  simp only [RVs, RV] at hx
  obtain ⟨x, vs', rfl, hx, rfl⟩ := hx
  cases hx
  refine (AnyE.slices_Clone_nil L 0 0 w).mono ?_
  rintro e w' ⟨rfl, rfl⟩
  exact ⟨rfl, Below.refl _ _⟩

end Go.Ev
