/- CascadeTotal says true, whatever the input, and the input reads as it did: proved; no condition. -/
import Derived.Test.YtafbhggbkhckaaaEvOpen
import Derived.Test.YtafbhggbkhckaaaEvCasLaw
import Derived.Test.YtafbhggbkhckaaaRows
set_option linter.unusedVariables false
namespace Go.Proofs.Ytafbhggbkhckaaa.CascadeTotalRow
open Go.ChangeShapes Go.WideShapes Go.ChangeAt Go.RowKit Go.Ev Go.Ev.Cas
open Go.ChangeMaps (open_string shut_string)
theorem own : ownKnob Try.prog.godebug = none := by kernel_rfl
theorem laidOut : laidOutB Try.prog = true := by kernel_rfl

def rl : List TypeId := [3, 4, 9, 23]
noncomputable def c0 : Cfg T := cfg noTab
theorem okR0 : rl.all (okT c0 (inL rl)) = true := by kernel_rfl
theorem cod_ok : CodOk (rc c0) := (fine0 noTab (noTab_ok fun _ _ _ => rfl)).cod
theorem u3 : c0.P.underlying 3 = some (.int .i64) := Try.underlying3
theorem u4 : c0.P.underlying 4 = some .bool := Try.underlying4
theorem u9 : c0.P.underlying 9 = some .string := Try.underlying9
theorem full : ∀ t ds, inL rl t = true → c0.cod.kn t = true → Sh c0 t ds → ∃ x, c0.cod.enc t x = ds := by
  intro t ds _ hk h
  have := kn3 hk
  subst this
  obtain ⟨n, rfl, _⟩ := h.int u3
  exact ⟨n, rfl⟩
theorem inv23 {ds : List (D T)} (h : Sh c0 23 ds) : ∃ g : G, gV g = .agg (ofDs ds) := by
  have hf := h.fields (fs := _) Try.underlying23
  obtain ⟨x0, r0, rfl, h0, x1, r1, rfl, h1, x2, r2, rfl, h2, x3, r3, rfl, h3, x4, r4, rfl, h4, x5, r5, rfl, h5, rfl⟩ := hf
  obtain ⟨n, rfl, _⟩ := h0.str u9
  obtain ⟨v, rfl, _⟩ := h1.str u9
  obtain ⟨o, rfl, _⟩ := h2.int u3
  obtain ⟨im, rfl⟩ := h3.bool u4
  obtain ⟨w, rfl, _⟩ := h4.int u3
  obtain ⟨p, rfl, _⟩ := h5.int u3
  exact ⟨⟨n, v, o, im, w, p⟩, rfl⟩

theorem arg23 {W : World} {H : Type} {enc : TypeId × Value → H} {base b0 : Nat} {r : Reach} {spare : Nat → Bool} {held : Bool} {v : Value} {d : DataW H} {p : List MemPlace} (hv : Value.okWide c0.P W r b0 23 v) (h : DataW.Trod enc c0.P W base spare held 23 v d p) :
    ∃ g : G, RV (rc c0) eta0 W (gV g) v := by
  obtain ⟨ds, h1, h2⟩ := open_arg (c := c0) (okR_of okR0) full cod_ok eta0_ok (t := 23) (by rfl) hv h
  obtain ⟨g, hg⟩ := inv23 h1
  refine ⟨g, ?_⟩
  rw [hg]
  have : argVal c0.P 23 ds = .agg (ofDs ds) := by unfold argVal; rw [show c0.P.underlying 23 = _ from Try.underlying23]
  rw [← this]; exact h2

theorem walk {W : World} {v0 v1 v2 : Value} {a b c : G} (h0 : RV (rc c0) eta0 W (gV a) v0) (h1 : RV (rc c0) eta0 W (gV b) v1) (h2 : RV (rc c0) eta0 W (gV c) v2) :
    Calls Try.prog 3 #[v0, v1, v2] W fun e W' => e = .returned (.bool true) ∧ Below W.heap.size W W' := by
  have hs := sim3 4 (a, b, c) true (total_true (a, b, c))
  refine law_call (c := cfg (t7 4)) (xs := [v0, v1, v2]) hs ?_
  simp only [ioGGG, RVs]
  exact ⟨_, _, rfl, h0, _, _, rfl, h1, _, _, rfl, h2, rfl⟩

set_option maxRecDepth 100000 in
theorem lifted (os : Os) (started : os.Started) (H : Type) (enc : TypeId × Value → H) :
    ReturnsInHanded {} Try.checked os 3 .any (Rows.cascadeTotalSpec.pre6 enc Try.prog Try.f3 Rows.cascadeTotalRow.domain false) (Rows.cascadeTotalSpec.post enc Try.prog Try.f3 false true false false) := by
  refine returnsInHanded_of_change_sized (C := Try.checked) own started (by kernel_rfl) Try.func3
    (ChangeSpec.witness6 (enc := enc) (C := Try.checked) false ⟨#[], #[.agg #[.string ByteArray.empty, .string ByteArray.empty, .int .i64 0, .bool false, .int .i64 0, .int .i64 0], .agg #[.string ByteArray.empty, .string ByteArray.empty, .int .i64 0, .bool false, .int .i64 0, .int .i64 0], .agg #[.string ByteArray.empty, .string ByteArray.empty, .int .i64 0, .bool false, .int .i64 0, .int .i64 0]], []⟩ 8 (by kernel_rfl) (by kernel_rfl) (by kernel_rfl) (by kernel_rfl)) ?_
  intro W base args ds gs before hval0 hW hcnd hsz0 _
  have hval : ∀ (j : Nat) t v, Try.f3.params[j]? = some t → args[j]? = some v → Value.okWide Try.prog W .any base t v := hval0
  have hW' := hW
  obtain ⟨p, q, hA0, hV, rfl, hfz, hnd⟩ := hW
  have hA : DataW.TrodAll enc Try.prog W 0 (fun _ => true) true Try.f3.params.toList args.toList ds p := hA0
  rw [Try.params3] at hA hval
  obtain ⟨v0, vs0, d0, ds0, p0, q0, hargs, rfl, rfl, h0, r0⟩ := trodAll_cons hA
  obtain ⟨v1, vs1, d1, ds1, p1, q1, rfl, rfl, rfl, h1, r1⟩ := trodAll_cons r0
  obtain ⟨v2, vs2, d2, ds2, p2, q2, rfl, rfl, rfl, h2, r2⟩ := trodAll_cons r1
  obtain ⟨rfl, rfl, rfl⟩ := trodAll_nil r2
  obtain rfl : args = #[v0, v1, v2] := by cases args; simp_all
  obtain ⟨rfl, rfl⟩ := trodVars_none hV
  have lt0 : ∀ x ∈ p0, x.block < W.heap.size := by obtain ⟨m, hm⟩ := h0; exact DataW.trod_lt m _ _ _ hm
  have lt1 : ∀ x ∈ p1, x.block < W.heap.size := by obtain ⟨m, hm⟩ := h1; exact DataW.trod_lt m _ _ _ hm
  have lt2 : ∀ x ∈ p2, x.block < W.heap.size := by obtain ⟨m, hm⟩ := h2; exact DataW.trod_lt m _ _ _ hm
  obtain ⟨g0, y0⟩ := arg23 (hval 0 23 v0 rfl rfl) h0
  obtain ⟨g1, y1⟩ := arg23 (hval 1 23 v1 rfl rfl) h1
  obtain ⟨g2, y2⟩ := arg23 (hval 2 23 v2 rfl rfl) h2
  clear hA0 hval0 hsz0
  refine (walk y0 y1 y2).mono fun e W' ⟨he, bel⟩ => ?_
  subst he
  exact ⟨_, rfl, _, _, _, [], _, [], hW', trodAll_mk1 (shut_bool Try.underlying4 _),
    (trodAll_cons_mk (Below.trod laidOut (by kernel_rfl) (of_decide_eq_true (by kernel_rfl)) h0 bel lt0) (trodAll_cons_mk (Below.trod laidOut (by kernel_rfl) (of_decide_eq_true (by kernel_rfl)) h1 bel lt1) (trodAll_cons_mk (Below.trod laidOut (by kernel_rfl) (of_decide_eq_true (by kernel_rfl)) h2 bel lt2) trodAll_mk0))), rfl, bel.frame _, fun h => by cases h⟩

theorem over : Rows.cascadeTotalRow.holds Try.pinned (OpenSpec.ofChange Rows.cascadeTotalSpec) :=
  OpenClaim.holds_of_wide 3 Try.f3 rfl rfl rfl rfl rfl rfl rfl ⟨rfl, rfl, rfl, rfl, rfl⟩ rfl rfl rfl rfl rfl (by kernel_rfl) Try.func3 (by kernel_rfl)
    (of_decide_eq_true (by kernel_rfl)) (by unfold Func.isWrapper; first | (rw [if_pos (by decide +kernel)]; kernel_rfl) | (rw [if_neg (by decide +kernel)]; exact ⟨rfl, rfl⟩))
    (fun os started H enc _ => lifted os started H enc)
theorem proved : Rows.CascadeTotalSaid := over
end Go.Proofs.Ytafbhggbkhckaaa.CascadeTotalRow
namespace Go.Proofs.Ytafbhggbkhckaaa
theorem cascadeTotal_holds : Rows.CascadeTotalSaid := CascadeTotalRow.proved
#print axioms cascadeTotal_holds
end Go.Proofs.Ytafbhggbkhckaaa
