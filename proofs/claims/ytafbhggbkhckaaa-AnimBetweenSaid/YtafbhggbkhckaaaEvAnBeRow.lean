/- AnimBetween says true, whatever the input, and the input reads as it did: proved; no condition. -/
import Derived.Test.YtafbhggbkhckaaaEvOpen
import Derived.Test.YtafbhggbkhckaaaEvAn
import Derived.Test.YtafbhggbkhckaaaEvAnB
import Derived.Test.YtafbhggbkhckaaaRows
set_option linter.unusedVariables false
set_option maxRecDepth 100000
namespace Go.Proofs.Ytafbhggbkhckaaa.AnimBetweenRow
open Go.ChangeShapes Go.WideShapes Go.ChangeAt Go.RowKit Go.Ev Go.Ev.An
open Go.ChangeMaps (open_string shut_string)
theorem own : ownKnob Try.prog.godebug = none := by kernel_rfl
theorem laidOut : laidOutB Try.prog = true := by kernel_rfl
def rl : List TypeId := [3]
noncomputable def c0 : Cfg T := cfg noTab
theorem okR0 : rl.all (okT c0 (inL rl)) = true := by kernel_rfl
theorem cod_ok : CodOk (rc c0) := (fine noTab (noTab_ok fun _ _ _ => rfl)).cod
theorem inv3 {ds : List (D T)} (h : Sh c0 3 ds) : ∃ (x0 : Int), ds = ([.i .i64 x0] : List (D T)) := by
  obtain ⟨n, rfl, _⟩ := h.int (Try.underlying3)
  exact ⟨n, rfl⟩
theorem full : ∀ t ds, inL rl t = true → c0.cod.kn t = true → Sh c0 t ds → ∃ x, c0.cod.enc t x = ds := by
  intro t ds hin hk h
  have hm := mem_of (l := knl) hk
  simp only [knl, List.mem_cons, List.not_mem_nil, or_false] at hm
  rcases hm with rfl | rfl | rfl
  · obtain ⟨x0, rfl⟩ := inv3 h
    exact ⟨x0, rfl⟩
  · exact absurd hin (by decide)
  · exact absurd hin (by decide)
theorem arg3 {W : World} {H : Type} {enc : TypeId × Value → H} {base b0 : Nat} {r : Reach} {spare : Nat → Bool} {held : Bool} {v : Value} {d : DataW H} {p : List MemPlace} (hv : Value.okWide c0.P W r b0 3 v) (h : DataW.Trod enc c0.P W base spare held 3 v d p) :
    ∃ (x0 : Int), RV (rc c0) eta0 W (.d (.i .i64 x0)) v := by
  obtain ⟨ds, h1, h2⟩ := open_arg (c := c0) (okR_of okR0) full cod_ok eta0_ok (t := 3) (by rfl) hv h
  obtain ⟨x0, rfl⟩ := inv3 h1
  refine ⟨x0, ?_⟩
  unfold argVal at h2
  rw [show c0.P.underlying 3 = _ from Try.underlying3] at h2
  exact h2
theorem walk {W : World} {v0 v1 v2 v3 : Value} {a0_0 : Int} {a1_0 : Int} {a2_0 : Int} {a3_0 : Int} (h0 : RV (rc c0) eta0 W (.d (.i .i64 a0_0)) v0) (h1 : RV (rc c0) eta0 W (.d (.i .i64 a1_0)) v1) (h2 : RV (rc c0) eta0 W (.d (.i .i64 a2_0)) v2) (h3 : RV (rc c0) eta0 W (.d (.i .i64 a3_0)) v3) :
    Calls Try.prog 7 #[v0, v1, v2, v3] W fun e W' => e = .returned (.bool true) ∧ Below W.heap.size W W' := by
  obtain ⟨k, hk⟩ := between_law a0_0 a1_0 a2_0 a3_0
  have hs := clerestorykeep2_AnimBetween.sim k (a0_0, a1_0, a2_0, a3_0) true hk
  refine law_call (c := cfg (tab18 k)) (xs := [v0, v1, v2, v3]) hs ?_
  simp only [io21, RVs]
  exact ⟨_, _, rfl, h0, _, _, rfl, h1, _, _, rfl, h2, _, _, rfl, h3, rfl⟩
set_option maxRecDepth 100000 in
theorem lifted (os : Os) (started : os.Started) (H : Type) (enc : TypeId × Value → H) :
    ReturnsInHanded {} Try.checked os 7 .any (Rows.animBetweenSpec.pre6 enc Try.prog Try.f7 Rows.animBetweenRow.domain false) (Rows.animBetweenSpec.post enc Try.prog Try.f7 false true false false) := by
  refine returnsInHanded_of_change_sized (C := Try.checked) own started (by kernel_rfl) Try.func7
    (ChangeSpec.witness6 (enc := enc) (C := Try.checked) false ⟨#[], #[.int .i64 0, .int .i64 0, .int .i64 0, .int .i64 0], []⟩ 8 (by kernel_rfl) (by kernel_rfl) (by kernel_rfl) (by kernel_rfl)) ?_
  intro W base args ds gs before hval0 hW hcnd hsz0 _
  have hval : ∀ (j : Nat) t v, Try.f7.params[j]? = some t → args[j]? = some v → Value.okWide Try.prog W .any base t v := hval0
  have hW' := hW
  obtain ⟨p, q, hA0, hV, rfl, hfz, hnd⟩ := hW
  have hA : DataW.TrodAll enc Try.prog W 0 (fun _ => true) true Try.f7.params.toList args.toList ds p := hA0
  rw [Try.params7] at hA hval
  obtain ⟨v0, vs0, d0, ds0, p0, q0, hargs, rfl, rfl, h0, s0⟩ := trodAll_cons hA
  obtain ⟨v1, vs1, d1, ds1, p1, q1, rfl, rfl, rfl, h1, s1⟩ := trodAll_cons s0
  obtain ⟨v2, vs2, d2, ds2, p2, q2, rfl, rfl, rfl, h2, s2⟩ := trodAll_cons s1
  obtain ⟨v3, vs3, d3, ds3, p3, q3, rfl, rfl, rfl, h3, s3⟩ := trodAll_cons s2
  obtain ⟨rfl, rfl, rfl⟩ := trodAll_nil s3
  obtain rfl : args = #[v0, v1, v2, v3] := by cases args; simp_all
  obtain ⟨rfl, rfl⟩ := trodVars_none hV
  have lt0 : ∀ x ∈ p0, x.block < W.heap.size := by obtain ⟨m, hm⟩ := h0; exact DataW.trod_lt m _ _ _ hm
  have lt1 : ∀ x ∈ p1, x.block < W.heap.size := by obtain ⟨m, hm⟩ := h1; exact DataW.trod_lt m _ _ _ hm
  have lt2 : ∀ x ∈ p2, x.block < W.heap.size := by obtain ⟨m, hm⟩ := h2; exact DataW.trod_lt m _ _ _ hm
  have lt3 : ∀ x ∈ p3, x.block < W.heap.size := by obtain ⟨m, hm⟩ := h3; exact DataW.trod_lt m _ _ _ hm
  obtain ⟨a0_0, y0⟩ := arg3 (hval 0 3 v0 rfl rfl) h0
  obtain ⟨a1_0, y1⟩ := arg3 (hval 1 3 v1 rfl rfl) h1
  obtain ⟨a2_0, y2⟩ := arg3 (hval 2 3 v2 rfl rfl) h2
  obtain ⟨a3_0, y3⟩ := arg3 (hval 3 3 v3 rfl rfl) h3
  clear hA0 hval0 hsz0
  refine (walk y0 y1 y2 y3).mono fun e W' ⟨he, bel⟩ => ?_
  subst he
  exact ⟨_, rfl, _, _, _, [], _, [], hW', trodAll_mk1 (shut_bool Try.underlying4 _), (trodAll_cons_mk (Below.trod laidOut (by kernel_rfl) (of_decide_eq_true (by kernel_rfl)) h0 bel lt0) (trodAll_cons_mk (Below.trod laidOut (by kernel_rfl) (of_decide_eq_true (by kernel_rfl)) h1 bel lt1) (trodAll_cons_mk (Below.trod laidOut (by kernel_rfl) (of_decide_eq_true (by kernel_rfl)) h2 bel lt2) (trodAll_cons_mk (Below.trod laidOut (by kernel_rfl) (of_decide_eq_true (by kernel_rfl)) h3 bel lt3) trodAll_mk0)))), rfl, bel.frame _, fun h => by cases h⟩
theorem over : Rows.animBetweenRow.holds Try.pinned (OpenSpec.ofChange Rows.animBetweenSpec) :=
  OpenClaim.holds_of_wide 7 Try.f7 rfl rfl rfl rfl rfl rfl rfl ⟨rfl, rfl, rfl, rfl, rfl⟩ rfl rfl rfl rfl rfl (by kernel_rfl) Try.func7 (by kernel_rfl)
    (of_decide_eq_true (by kernel_rfl)) (by unfold Func.isWrapper; first | (rw [if_pos (by decide +kernel)]; kernel_rfl) | (rw [if_neg (by decide +kernel)]; exact ⟨rfl, rfl⟩))
    (fun os started H enc _ => lifted os started H enc)
theorem proved : Rows.AnimBetweenSaid := over
end Go.Proofs.Ytafbhggbkhckaaa.AnimBetweenRow
namespace Go.Proofs.Ytafbhggbkhckaaa
theorem animBetween_holds : Rows.AnimBetweenSaid := AnimBetweenRow.proved
#print axioms animBetween_holds
end Go.Proofs.Ytafbhggbkhckaaa
