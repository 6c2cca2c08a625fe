/- strings.Builder's Grow at a builder that holds nothing, as a Sim: no condition beyond those that each theorem names. -/
import Derived.Test.YtpeepnieblmhmaaGreatDoorEvShG
set_option linter.unusedVariables false
set_option linter.unusedSimpArgs false
namespace Go.Ev
open Go.Shelf Go.RowKit Go.Proofs
variable {T : TypeId → Type}

section
variable {P : Program} {ρ : Ren}

theorem BlOut.after {T72 T5 : TypeId} {w w1 w2 : World} {b : Nat} {v : Value} {s : List UInt8} (hb : b < w.heap.size) (hs : w.heap.size ≤ w1.heap.size) (hr : Rest w w1) (hk : ∀ k, k ≠ b → w1.heap[k]? = w.heap[k]?) (h : BlOut T72 T5 w1 w2 b v s) : BlOut T72 T5 w w2 b v s := by
  obtain ⟨p', v', h1, h2, h3, h4, h5⟩ := h
  refine ⟨p', v', h1, Nat.le_trans hs h2, hr.trans h3, fun k hk1 hk2 hk3 => ?_, fun g hg => ?_⟩
  · rw [h4 k (by omega) hk2 hk3, hk k hk2]
  · rcases h5 g hg with h | h
    · exact .inl h
    · exact .inr (by omega)

set_option maxHeartbeats 2000000 in
set_option maxRecDepth 1000000 in
theorem run_Grow (L : BlP P ρ) (G : Lays.n241 P ρ) (F : P.funcs[ρ.f 165]? = some (Body.n165 ρ)) (X : Builder.Extra P ρ) (w : World) (b : Nat) (p v : Value) (n : Nat) (h : BlIn (ρ.t 72) (ρ.t 5) w b [] p v) (hn : n ≤ 70368744177664) :
    Calls P (ρ.f 165) #[.pointer (some ⟨b, 0, none⟩), .int .i64 n] w fun e w' => e = .returned (.tuple #[]) ∧ BlOut (ρ.t 72) (ρ.t 5) w w' b v [] := by
  obtain ⟨ao, cap, hv⟩ : ∃ ao cap, v = .slice ao 0 cap := by
    rcases h.own.2 with ⟨hv, h0⟩ | ⟨g, cap, cur, fz, hv, _⟩
    · exact ⟨none, 0, hv⟩
    · exact ⟨_, _, hv⟩
  subst hv
  have hcm : cap ≤ maxLen := by
    rcases h.own.2 with ⟨h1, _⟩ | ⟨g, cap', cur, fz, h1, _, _, _, _, h2, _⟩
    · cases h1; exact Nat.zero_le _
    · cases h1; exact h2
  unfold maxLen at hcm
  have hb0 : b < w.heap.size := (Array.getElem?_eq_some_iff.1 h.blk).1
  have mixed := L.mixed
  have t72 := L.t72; have a72 := L.a72; have z72 := L.z72; have v72 := L.v72; have u72 := run_underlying L.t72
  have t70 := L.t70; have a70 := L.a70; have z70 := L.z70; have v70 := L.v70; have u70 := run_underlying L.t70
  have t37 := L.t37; have a37 := L.a37; have z37 := L.z37; have v37 := L.v37; have u37 := run_underlying L.t37
  have t3 := L.t3; have a3 := L.a3; have z3 := L.z3; have v3 := L.v3; have u3 := run_underlying L.t3
  have t5 := X.t5; have a5 := X.a5; have z5 := X.z5; have v5 := X.v5; have u5 := run_underlying X.t5
  have e240 := L.enter
  have e241 : ∀ args w, (callFunc (ρ.f 241) args).run P w = .ok (.enter (ρ.f 241) args) w := enters_of G.f241 (by kernel_rfl) rfl
  have hchk := L.check w b [] p _ h
  go_enter F, Body.n165_ntmps ρ
  go_wp2_with (go_at_fn (ρ.f 240); refine hchk.mono ?_; rintro e w1 ⟨rfl, hin1, hs1, hr1, hk1⟩)
  have hblk1 := hin1.blk
  have c1 : w1.drew.cell? ⟨b, 1, none⟩ = some (.slice ao 0 cap) := by
    have : w1.drew.heap[b]? = _ := hblk1
    rw [Lib.cell_of_heap this]; rfl
  have hw1 : IntKind.i64.wrap ((cap : Int) - 0) = (cap : Int) := by rw [IntKind.wrap_i64]; omega
  have hin2 : BlOut (ρ.t 72) (ρ.t 5) w w1.drew b (.slice ao 0 cap) [] := BlOut.after hb0 hs1 hr1 hk1 (BlIn.drew hin1)
  have haft : ∀ w2, BlOut (ρ.t 72) (ρ.t 5) w1.drew w2 b (.slice ao 0 cap) [] → BlOut (ρ.t 72) (ρ.t 5) w w2 b (.slice ao 0 cap) [] := fun w2 h2 =>
    BlOut.after (w1 := w1.drew) hb0 hs1 ⟨hr1.os, hr1.tape, hr1.out⟩ hk1 h2
  go_region_o
  all_goals go_wp2_with (go_at_fn (ρ.f 241); refine (run_grow0 G X b n cap ao w1.drew hblk1 (by omega)).mono ?_; rintro e w2 ⟨rfl, h2⟩)
  all_goals first
    | (have h3 := haft _ h2; go_end0; exact ⟨rfl, h3⟩)
    | (go_end0; exact ⟨rfl, hin2⟩)

def growS (s : List UInt8) (n : Int) : Option (List UInt8) := cond (s == [] && decide (0 ≤ n ∧ n ≤ 70368744177664)) (some []) none

theorem sim_grow {c : Cfg T} {ρ : Ren} (L : BlP c.P ρ) (G : Lays.n241 c.P ρ) (F : c.P.funcs[ρ.f 165]? = some (Body.n165 ρ)) (X : Builder.Extra c.P ρ) (hb : c.bt = ρ.t 72) (hu : c.ut = ρ.t 5) {s s' : List UInt8} {n : Int} (h : growS s n = some s') :
    Sim c (ρ.f 165) [.bp 0, .d (.i .i64 n)] [.bl s] [] [.bl s'] := by
  unfold growS at h
  cases hg : (s == [] && decide (0 ≤ n ∧ n ≤ 70368744177664)) with
  | false => rw [hg] at h; cases h
  | true =>
    rw [hg] at h
    simp only [cond_true, Option.some.injEq] at h; subst h
    simp only [Bool.and_eq_true, decide_eq_true_eq, beq_iff_eq] at hg
    obtain ⟨rfl, h0, h1⟩ := hg
    refine bl_sim (y := .tuple #[]) ⟨_, F, rfl, rfl⟩ (fun η w => by simp only [pack, RV, RVs]; exact ⟨[], rfl, rfl⟩) fun w b p v xs η hin hx => ?_
    simp only [RVs, RV] at hx
    obtain ⟨x, _, rfl, hx, rfl⟩ := hx
    cases hx
    obtain ⟨m, rfl⟩ := Int.eq_ofNat_of_zero_le h0
    rw [hb, hu] at hin ⊢
    exact run_Grow L G F X w b p v m hin (by omega)
end

end Go.Ev
