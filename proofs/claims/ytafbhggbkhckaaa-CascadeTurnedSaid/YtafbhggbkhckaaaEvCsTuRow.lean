/- CascadeTurned says true, whatever the input, and the input reads as it did: proved; no condition. -/
import Derived.Test.YtafbhggbkhckaaaEvOpen
import Derived.Test.YtafbhggbkhckaaaEvCs
import Derived.Test.YtafbhggbkhckaaaEvCsA
import Derived.Test.YtafbhggbkhckaaaRows
set_option linter.unusedVariables false
set_option maxRecDepth 100000
namespace Go.Proofs.Ytafbhggbkhckaaa.CascadeTurnedRow
open Go.ChangeShapes Go.WideShapes Go.ChangeAt Go.RowKit Go.Ev Go.Ev.Cs
open Go.ChangeMaps (open_string shut_string)
theorem own : ownKnob Try.prog.godebug = none := by kernel_rfl
theorem laidOut : laidOutB Try.prog = true := by kernel_rfl
def rl : List TypeId := [9, 3, 4, 23, 34]
noncomputable def c0 : Cfg T := cfg noTab
theorem okR0 : rl.all (okT c0 (inL rl)) = true := by kernel_rfl
theorem cod_ok : CodOk (rc c0) := (fine noTab (noTab_ok fun _ _ _ => rfl)).cod
theorem inv9 {ds : List (D T)} (h : Sh c0 9 ds) : ∃ (x0 : List UInt8), ds = ([.s x0] : List (D T)) := by
  obtain ⟨n, rfl, _⟩ := h.str (Try.underlying9)
  exact ⟨n, rfl⟩
theorem inv3 {ds : List (D T)} (h : Sh c0 3 ds) : ∃ (x0 : Int), ds = ([.i .i64 x0] : List (D T)) := by
  obtain ⟨n, rfl, _⟩ := h.int (Try.underlying3)
  exact ⟨n, rfl⟩
theorem inv4 {ds : List (D T)} (h : Sh c0 4 ds) : ∃ (x0 : Bool), ds = ([.b x0] : List (D T)) := h.bool (Try.underlying4)
theorem inv23 {ds : List (D T)} (h : Sh c0 23 ds) : ∃ (x0 : List UInt8) (x1 : List UInt8) (x2 : Int) (x3 : Bool) (x4 : Int) (x5 : Int), ds = ([.s x0, .s x1, .i .i64 x2, .b x3, .i .i64 x4, .i .i64 x5] : List (D T)) := by
  obtain ⟨y0, r0, rfl, h0, y1, r1, rfl, h1, y2, r2, rfl, h2, y3, r3, rfl, h3, y4, r4, rfl, h4, y5, r5, rfl, h5, rfl⟩ := h.fields (fs := _) (Try.underlying23)
  obtain ⟨z0, rfl⟩ := inv9 h0
  obtain ⟨z1, rfl⟩ := inv9 h1
  obtain ⟨z2, rfl⟩ := inv3 h2
  obtain ⟨z3, rfl⟩ := inv4 h3
  obtain ⟨z4, rfl⟩ := inv3 h4
  obtain ⟨z5, rfl⟩ := inv3 h5
  exact ⟨z0, z1, z2, z3, z4, z5, rfl⟩
theorem inv34 {ds : List (D T)} (h : Sh c0 34 ds) : ∃ (x0 : List S23), ds = ([.l 23 x0] : List (D T)) := by
  obtain ⟨xs, rfl, _, _⟩ := h.slice (Try.underlying34)
  exact ⟨xs, rfl⟩
theorem full : ∀ t ds, inL rl t = true → c0.cod.kn t = true → Sh c0 t ds → ∃ x, c0.cod.enc t x = ds := by
  intro t ds hin hk h
  have hm := mem_of (l := knl) hk
  simp only [knl, List.mem_cons, List.not_mem_nil, or_false] at hm
  rcases hm with rfl | rfl
  · obtain ⟨x0, rfl⟩ := inv3 h
    exact ⟨x0, rfl⟩
  · obtain ⟨x0, x1, x2, x3, x4, x5, rfl⟩ := inv23 h
    exact ⟨(⟨x0, x1, x2, x3, x4, x5⟩ : S23), rfl⟩
theorem arg34 {W : World} {H : Type} {enc : TypeId × Value → H} {base b0 : Nat} {r : Reach} {spare : Nat → Bool} {held : Bool} {v : Value} {d : DataW H} {p : List MemPlace} (hv : Value.okWide c0.P W r b0 34 v) (h : DataW.Trod enc c0.P W base spare held 34 v d p) :
    ∃ (x0 : List S23), RV (rc c0) eta0 W (.d (.l 23 x0)) v := by
  obtain ⟨ds, h1, h2⟩ := open_arg (c := c0) (okR_of okR0) full cod_ok eta0_ok (t := 34) (by rfl) hv h
  obtain ⟨x0, rfl⟩ := inv34 h1
  refine ⟨x0, ?_⟩
  unfold argVal at h2
  rw [show c0.P.underlying 34 = _ from Try.underlying34] at h2
  exact h2
theorem walk {W : World} {v0 : Value} {a0_0 : List S23} (h0 : RV (rc c0) eta0 W (.d (.l 23 a0_0)) v0) :
    Calls Try.prog 5 #[v0] W fun e W' => e = .returned (.bool true) ∧ Below W.heap.size W W' := by
  obtain ⟨k, hk⟩ := turned_law a0_0
  have hs := clerestorykeep2_CascadeTurned.sim k a0_0 true hk
  refine law_call (c := cfg (tab9 k)) (xs := [v0]) hs ?_
  simp only [io8, RVs]
  exact ⟨_, _, rfl, h0, rfl⟩
set_option maxRecDepth 100000 in
theorem lifted (os : Os) (started : os.Started) (H : Type) (enc : TypeId × Value → H) :
    ReturnsInHanded {} Try.checked os 5 .any (Rows.cascadeTurnedSpec.pre6 enc Try.prog Try.f5 Rows.cascadeTurnedRow.domain false) (Rows.cascadeTurnedSpec.post enc Try.prog Try.f5 false true false false) := by
  refine returnsInHanded_of_change_sized (C := Try.checked) own started (by kernel_rfl) Try.func5
    (ChangeSpec.witness6 (enc := enc) (C := Try.checked) false ⟨#[], #[.slice none 0 0], []⟩ 8 (by kernel_rfl) (by kernel_rfl) (by kernel_rfl) (by kernel_rfl)) ?_
  intro W base args ds gs before hval0 hW hcnd hsz0 _
  have hval : ∀ (j : Nat) t v, Try.f5.params[j]? = some t → args[j]? = some v → Value.okWide Try.prog W .any base t v := hval0
  have hW' := hW
  obtain ⟨p, q, hA0, hV, rfl, hfz, hnd⟩ := hW
  have hA : DataW.TrodAll enc Try.prog W 0 (fun _ => true) true Try.f5.params.toList args.toList ds p := hA0
  rw [Try.params5] at hA hval
  obtain ⟨v0, vs0, d0, ds0, p0, q0, hargs, rfl, rfl, h0, s0⟩ := trodAll_cons hA
  obtain ⟨rfl, rfl, rfl⟩ := trodAll_nil s0
  obtain rfl : args = #[v0] := by cases args; simp_all
  obtain ⟨rfl, rfl⟩ := trodVars_none hV
  have lt0 : ∀ x ∈ p0, x.block < W.heap.size := by obtain ⟨m, hm⟩ := h0; exact DataW.trod_lt m _ _ _ hm
  obtain ⟨a0_0, y0⟩ := arg34 (hval 0 34 v0 rfl rfl) h0
  clear hA0 hval0 hsz0
  refine (walk y0).mono fun e W' ⟨he, bel⟩ => ?_
  subst he
  exact ⟨_, rfl, _, _, _, [], _, [], hW', trodAll_mk1 (shut_bool Try.underlying4 _), (trodAll_cons_mk (Below.trod laidOut (by kernel_rfl) (of_decide_eq_true (by kernel_rfl)) h0 bel lt0) trodAll_mk0), rfl, bel.frame _, fun h => by cases h⟩
theorem over : Rows.cascadeTurnedRow.holds Try.pinned (OpenSpec.ofChange Rows.cascadeTurnedSpec) :=
  OpenClaim.holds_of_wide 5 Try.f5 rfl rfl rfl rfl rfl rfl rfl ⟨rfl, rfl, rfl, rfl, rfl⟩ rfl rfl rfl rfl rfl (by kernel_rfl) Try.func5 (by kernel_rfl)
    (of_decide_eq_true (by kernel_rfl)) (by unfold Func.isWrapper; first | (rw [if_pos (by decide +kernel)]; kernel_rfl) | (rw [if_neg (by decide +kernel)]; exact ⟨rfl, rfl⟩))
    (fun os started H enc _ => lifted os started H enc)
theorem proved : Rows.CascadeTurnedSaid := over
end Go.Proofs.Ytafbhggbkhckaaa.CascadeTurnedRow
namespace Go.Proofs.Ytafbhggbkhckaaa
theorem cascadeTurned_holds : Rows.CascadeTurnedSaid := CascadeTurnedRow.proved
#print axioms cascadeTurned_holds
end Go.Proofs.Ytafbhggbkhckaaa
