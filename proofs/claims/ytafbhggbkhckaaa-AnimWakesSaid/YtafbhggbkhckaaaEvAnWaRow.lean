/- AnimWakes says true, whatever the input, and the input reads as it did: proved; no condition. -/
import Derived.Test.YtafbhggbkhckaaaEvOpen
import Derived.Test.YtafbhggbkhckaaaEvAn
import Derived.Test.YtafbhggbkhckaaaEvAnF
import Derived.Test.YtafbhggbkhckaaaRows
set_option linter.unusedVariables false
set_option maxRecDepth 100000
namespace Go.Proofs.Ytafbhggbkhckaaa.AnimWakesRow
open Go.ChangeShapes Go.WideShapes Go.ChangeAt Go.RowKit Go.Ev Go.Ev.An
open Go.ChangeMaps (open_string shut_string)
theorem own : ownKnob Try.prog.godebug = none := by kernel_rfl
theorem laidOut : laidOutB Try.prog = true := by kernel_rfl
def rl : List TypeId := [3, 4, 27, 29, 39, 53, 48, 50, 43]
noncomputable def c0 : Cfg T := cfg noTab
theorem okR0 : rl.all (okT c0 (inL rl)) = true := by kernel_rfl
theorem cod_ok : CodOk (rc c0) := (fine noTab (noTab_ok fun _ _ _ => rfl)).cod
theorem inv3 {ds : List (D T)} (h : Sh c0 3 ds) : ∃ (x0 : Int), ds = ([.i .i64 x0] : List (D T)) := by
  obtain ⟨n, rfl, _⟩ := h.int (Try.underlying3)
  exact ⟨n, rfl⟩
theorem inv4 {ds : List (D T)} (h : Sh c0 4 ds) : ∃ (x0 : Bool), ds = ([.b x0] : List (D T)) := h.bool (Try.underlying4)
theorem inv27 {ds : List (D T)} (h : Sh c0 27 ds) : ∃ (x0 : Int) (x1 : Int) (x2 : Int) (x3 : Int), ds = ([.i .i64 x0, .i .i64 x1, .i .i64 x2, .i .i64 x3] : List (D T)) := by
  obtain ⟨ps, rfl, hl, hp⟩ := h.array (Try.underlying27)
  match ps, hl, hp with
  | [y0, y1, y2, y3], _, hp =>
    obtain ⟨z0, rfl⟩ := inv3 (hp y0 (by simp))
    obtain ⟨z1, rfl⟩ := inv3 (hp y1 (by simp))
    obtain ⟨z2, rfl⟩ := inv3 (hp y2 (by simp))
    obtain ⟨z3, rfl⟩ := inv3 (hp y3 (by simp))
    exact ⟨z0, z1, z2, z3, rfl⟩
theorem inv29 {ds : List (D T)} (h : Sh c0 29 ds) : ∃ (x0 : Int) (x1 : Int) (x2 : Int) (x3 : Int) (x4 : Int) (x5 : Int), ds = ([.i .i64 x0, .i .i64 x1, .i .i64 x2, .i .i64 x3, .i .i64 x4, .i .i64 x5] : List (D T)) := by
  obtain ⟨y0, r0, rfl, h0, y1, r1, rfl, h1, y2, r2, rfl, h2, rfl⟩ := h.fields (fs := _) (Try.underlying29)
  obtain ⟨z0, rfl⟩ := inv3 h0
  obtain ⟨z1, z2, z3, z4, rfl⟩ := inv27 h1
  obtain ⟨z5, rfl⟩ := inv3 h2
  exact ⟨z0, z1, z2, z3, z4, z5, rfl⟩
theorem inv39 {ds : List (D T)} (h : Sh c0 39 ds) : ∃ (x0 : Int) (x1 : Int), ds = ([.i .i64 x0, .i .i64 x1] : List (D T)) := by
  obtain ⟨y0, r0, rfl, h0, y1, r1, rfl, h1, rfl⟩ := h.fields (fs := _) (Try.underlying39)
  obtain ⟨z0, rfl⟩ := inv3 h0
  obtain ⟨z1, rfl⟩ := inv3 h1
  exact ⟨z0, z1, rfl⟩
theorem inv53 {ds : List (D T)} (h : Sh c0 53 ds) : ∃ (x0 : Int) (x1 : Int) (x2 : Int), ds = ([.i .i64 x0, .i .i64 x1, .i .i64 x2] : List (D T)) := by
  obtain ⟨y0, r0, rfl, h0, y1, r1, rfl, h1, rfl⟩ := h.fields (fs := _) (Try.underlying53)
  obtain ⟨z0, rfl⟩ := inv3 h0
  obtain ⟨z1, z2, rfl⟩ := inv39 h1
  exact ⟨z0, z1, z2, rfl⟩
theorem inv48 {ds : List (D T)} (h : Sh c0 48 ds) : ∃ (x0 : List S53), ds = ([.l 53 x0] : List (D T)) := by
  obtain ⟨xs, rfl, _, _⟩ := h.slice (Try.underlying48)
  exact ⟨xs, rfl⟩
theorem inv50 {ds : List (D T)} (h : Sh c0 50 ds) : ∃ (x0 : Int) (x1 : Int) (x2 : Int) (x3 : Bool) (x4 : Bool) (x5 : Int) (x6 : Int) (x7 : Int) (x8 : Int) (x9 : Int) (x10 : Int) (x11 : List S53), ds = ([.i .i64 x0, .i .i64 x1, .i .i64 x2, .b x3, .b x4, .i .i64 x5, .i .i64 x6, .i .i64 x7, .i .i64 x8, .i .i64 x9, .i .i64 x10, .l 53 x11] : List (D T)) := by
  obtain ⟨y0, r0, rfl, h0, y1, r1, rfl, h1, y2, r2, rfl, h2, y3, r3, rfl, h3, y4, r4, rfl, h4, y5, r5, rfl, h5, y6, r6, rfl, h6, rfl⟩ := h.fields (fs := _) (Try.underlying50)
  obtain ⟨z0, rfl⟩ := inv3 h0
  obtain ⟨z1, rfl⟩ := inv3 h1
  obtain ⟨z2, rfl⟩ := inv3 h2
  obtain ⟨z3, rfl⟩ := inv4 h3
  obtain ⟨z4, rfl⟩ := inv4 h4
  obtain ⟨z5, z6, z7, z8, z9, z10, rfl⟩ := inv29 h5
  obtain ⟨z11, rfl⟩ := inv48 h6
  exact ⟨z0, z1, z2, z3, z4, z5, z6, z7, z8, z9, z10, z11, rfl⟩
theorem inv43 {ds : List (D T)} (h : Sh c0 43 ds) : ∃ (x0 : List S50), ds = ([.l 50 x0] : List (D T)) := by
  obtain ⟨xs, rfl, _, _⟩ := h.slice (Try.underlying43)
  exact ⟨xs, rfl⟩
theorem full : ∀ t ds, inL rl t = true → c0.cod.kn t = true → Sh c0 t ds → ∃ x, c0.cod.enc t x = ds := by
  intro t ds hin hk h
  have hm := mem_of (l := knl) hk
  simp only [knl, List.mem_cons, List.not_mem_nil, or_false] at hm
  rcases hm with rfl | rfl | rfl
  · obtain ⟨x0, rfl⟩ := inv3 h
    exact ⟨x0, rfl⟩
  · obtain ⟨x0, x1, x2, rfl⟩ := inv53 h
    exact ⟨(⟨x0, x1, x2⟩ : S53), rfl⟩
  · obtain ⟨x0, x1, x2, x3, x4, x5, x6, x7, x8, x9, x10, x11, rfl⟩ := inv50 h
    exact ⟨(⟨x0, x1, x2, x3, x4, x5, x6, x7, x8, x9, x10, x11⟩ : S50), rfl⟩
theorem arg43 {W : World} {H : Type} {enc : TypeId × Value → H} {base b0 : Nat} {r : Reach} {spare : Nat → Bool} {held : Bool} {v : Value} {d : DataW H} {p : List MemPlace} (hv : Value.okWide c0.P W r b0 43 v) (h : DataW.Trod enc c0.P W base spare held 43 v d p) :
    ∃ (x0 : List S50), RV (rc c0) eta0 W (.d (.l 50 x0)) v := by
  obtain ⟨ds, h1, h2⟩ := open_arg (c := c0) (okR_of okR0) full cod_ok eta0_ok (t := 43) (by rfl) hv h
  obtain ⟨x0, rfl⟩ := inv43 h1
  refine ⟨x0, ?_⟩
  unfold argVal at h2
  rw [show c0.P.underlying 43 = _ from Try.underlying43] at h2
  exact h2
theorem arg39 {W : World} {H : Type} {enc : TypeId × Value → H} {base b0 : Nat} {r : Reach} {spare : Nat → Bool} {held : Bool} {v : Value} {d : DataW H} {p : List MemPlace} (hv : Value.okWide c0.P W r b0 39 v) (h : DataW.Trod enc c0.P W base spare held 39 v d p) :
    ∃ (x0 : Int) (x1 : Int), RV (rc c0) eta0 W (.agg [.d (.i .i64 x0), .d (.i .i64 x1)]) v := by
  obtain ⟨ds, h1, h2⟩ := open_arg (c := c0) (okR_of okR0) full cod_ok eta0_ok (t := 39) (by rfl) hv h
  obtain ⟨x0, x1, rfl⟩ := inv39 h1
  refine ⟨x0, x1, ?_⟩
  unfold argVal at h2
  rw [show c0.P.underlying 39 = _ from Try.underlying39] at h2
  exact h2
theorem arg3 {W : World} {H : Type} {enc : TypeId × Value → H} {base b0 : Nat} {r : Reach} {spare : Nat → Bool} {held : Bool} {v : Value} {d : DataW H} {p : List MemPlace} (hv : Value.okWide c0.P W r b0 3 v) (h : DataW.Trod enc c0.P W base spare held 3 v d p) :
    ∃ (x0 : Int), RV (rc c0) eta0 W (.d (.i .i64 x0)) v := by
  obtain ⟨ds, h1, h2⟩ := open_arg (c := c0) (okR_of okR0) full cod_ok eta0_ok (t := 3) (by rfl) hv h
  obtain ⟨x0, rfl⟩ := inv3 h1
  refine ⟨x0, ?_⟩
  unfold argVal at h2
  rw [show c0.P.underlying 3 = _ from Try.underlying3] at h2
  exact h2
theorem walk {W : World} {v0 v1 v2 v3 : Value} {a0_0 : List S50} {a1_0 : Int} {a1_1 : Int} {a2_0 : Int} {a3_0 : Int} (h0 : RV (rc c0) eta0 W (.d (.l 50 a0_0)) v0) (h1 : RV (rc c0) eta0 W (.agg [.d (.i .i64 a1_0), .d (.i .i64 a1_1)]) v1) (h2 : RV (rc c0) eta0 W (.d (.i .i64 a2_0)) v2) (h3 : RV (rc c0) eta0 W (.d (.i .i64 a3_0)) v3) :
    Calls Try.prog 11 #[v0, v1, v2, v3] W fun e W' => e = .returned (.bool true) ∧ Below W.heap.size W W' := by
  obtain ⟨k, hk⟩ := wakes_law a0_0 a1_0 a1_1 a2_0 a3_0
  have hs := clerestorykeep2_AnimWakes.sim k (a0_0, a1_0, a1_1, a2_0, a3_0) true hk
  refine law_call (c := cfg (tab31 k)) (xs := [v0, v1, v2, v3]) hs ?_
  simp only [io37, RVs]
  exact ⟨_, _, rfl, h0, _, _, rfl, h1, _, _, rfl, h2, _, _, rfl, h3, rfl⟩
set_option maxRecDepth 100000 in
theorem lifted (os : Os) (started : os.Started) (H : Type) (enc : TypeId × Value → H) :
    ReturnsInHanded {} Try.checked os 11 .any (Rows.animWakesSpec.pre6 enc Try.prog Try.f11 Rows.animWakesRow.domain false) (Rows.animWakesSpec.post enc Try.prog Try.f11 false true false false) := by
  refine returnsInHanded_of_change_sized (C := Try.checked) own started (by kernel_rfl) Try.func11
    (ChangeSpec.witness6 (enc := enc) (C := Try.checked) false ⟨#[], #[.slice none 0 0, .agg #[.int .i64 0, .int .i64 0], .int .i64 0, .int .i64 0], []⟩ 8 (by kernel_rfl) (by kernel_rfl) (by kernel_rfl) (by kernel_rfl)) ?_
  intro W base args ds gs before hval0 hW hcnd hsz0 _
  have hval : ∀ (j : Nat) t v, Try.f11.params[j]? = some t → args[j]? = some v → Value.okWide Try.prog W .any base t v := hval0
  have hW' := hW
  obtain ⟨p, q, hA0, hV, rfl, hfz, hnd⟩ := hW
  have hA : DataW.TrodAll enc Try.prog W 0 (fun _ => true) true Try.f11.params.toList args.toList ds p := hA0
  rw [Try.params11] at hA hval
  obtain ⟨v0, vs0, d0, ds0, p0, q0, hargs, rfl, rfl, h0, s0⟩ := trodAll_cons hA
  obtain ⟨v1, vs1, d1, ds1, p1, q1, rfl, rfl, rfl, h1, s1⟩ := trodAll_cons s0
  obtain ⟨v2, vs2, d2, ds2, p2, q2, rfl, rfl, rfl, h2, s2⟩ := trodAll_cons s1
  obtain ⟨v3, vs3, d3, ds3, p3, q3, rfl, rfl, rfl, h3, s3⟩ := trodAll_cons s2
  obtain ⟨rfl, rfl, rfl⟩ := trodAll_nil s3
  obtain rfl : args = #[v0, v1, v2, v3] := by cases args; simp_all
  obtain ⟨rfl, rfl⟩ := trodVars_none hV
  have lt0 : ∀ x ∈ p0, x.block < W.heap.size := by obtain ⟨m, hm⟩ := h0; exact DataW.trod_lt m _ _ _ hm
  have lt1 : ∀ x ∈ p1, x.block < W.heap.size := by obtain ⟨m, hm⟩ := h1; exact DataW.trod_lt m _ _ _ hm
  have lt2 : ∀ x ∈ p2, x.block < W.heap.size := by obtain ⟨m, hm⟩ := h2; exact DataW.trod_lt m _ _ _ hm
  have lt3 : ∀ x ∈ p3, x.block < W.heap.size := by obtain ⟨m, hm⟩ := h3; exact DataW.trod_lt m _ _ _ hm
  obtain ⟨a0_0, y0⟩ := arg43 (hval 0 43 v0 rfl rfl) h0
  obtain ⟨a1_0, a1_1, y1⟩ := arg39 (hval 1 39 v1 rfl rfl) h1
  obtain ⟨a2_0, y2⟩ := arg3 (hval 2 3 v2 rfl rfl) h2
  obtain ⟨a3_0, y3⟩ := arg3 (hval 3 3 v3 rfl rfl) h3
  clear hA0 hval0 hsz0
  refine (walk y0 y1 y2 y3).mono fun e W' ⟨he, bel⟩ => ?_
  subst he
  exact ⟨_, rfl, _, _, _, [], _, [], hW', trodAll_mk1 (shut_bool Try.underlying4 _), (trodAll_cons_mk (Below.trod laidOut (by kernel_rfl) (of_decide_eq_true (by kernel_rfl)) h0 bel lt0) (trodAll_cons_mk (Below.trod laidOut (by kernel_rfl) (of_decide_eq_true (by kernel_rfl)) h1 bel lt1) (trodAll_cons_mk (Below.trod laidOut (by kernel_rfl) (of_decide_eq_true (by kernel_rfl)) h2 bel lt2) (trodAll_cons_mk (Below.trod laidOut (by kernel_rfl) (of_decide_eq_true (by kernel_rfl)) h3 bel lt3) trodAll_mk0)))), rfl, bel.frame _, fun h => by cases h⟩
theorem over : Rows.animWakesRow.holds Try.pinned (OpenSpec.ofChange Rows.animWakesSpec) :=
  OpenClaim.holds_of_wide 11 Try.f11 rfl rfl rfl rfl rfl rfl rfl ⟨rfl, rfl, rfl, rfl, rfl⟩ rfl rfl rfl rfl rfl (by kernel_rfl) Try.func11 (by kernel_rfl)
    (of_decide_eq_true (by kernel_rfl)) (by unfold Func.isWrapper; first | (rw [if_pos (by decide +kernel)]; kernel_rfl) | (rw [if_neg (by decide +kernel)]; exact ⟨rfl, rfl⟩))
    (fun os started H enc _ => lifted os started H enc)
theorem proved : Rows.AnimWakesSaid := over
end Go.Proofs.Ytafbhggbkhckaaa.AnimWakesRow
namespace Go.Proofs.Ytafbhggbkhckaaa
theorem animWakes_holds : Rows.AnimWakesSaid := AnimWakesRow.proved
#print axioms animWakes_holds
end Go.Proofs.Ytafbhggbkhckaaa
