/- RuleWithin says true, whatever the input, and the input reads as it did: proved; no condition. -/
import Derived.Test.YtdnnaneifaoooaaDoorEvRow
import Derived.Test.YtdnnaneifaoooaaDoorEvRbS
import Derived.Test.YtdnnaneifaoooaaDoorEvRbK
import Derived.Test.YtdnnaneifaoooaaDoorCards
import Derived.Test.YtdnnaneifaoooaaDoorTie
set_option linter.unusedVariables false
set_option maxRecDepth 100000
namespace Go.Proofs.YtdnnaneifaoooaaDoor.RuleWithinRow
open Go.ChangeShapes Go.WideShapes Go.ChangeAt Go.RowKit Go.Ev Go.Ev.Rb
open Go.ChangeMaps (open_string shut_string)
theorem own : ownKnob Tryd.prog.godebug = none := by kernel_rfl
theorem laidOut : laidOutB Tryd.prog = true := by kernel_rfl
def rl : List TypeId := [9, 3]
noncomputable def c0 (w0 : World) : Cfg T := cfg w0 noTab
theorem okR0 (w0 : World) : rl.all (okT (c0 w0) (inL rl)) = true := by kernel_rfl
theorem cod_ok {w0 : World} (hw : Wd w0) : CodOk (rc (c0 w0)) := (fine w0 hw noTab (noTab_ok fun _ _ _ => rfl)).cod
def laid : List (String × DataW Unit) := Rows.ruleWithinRow.laid
theorem wd {W : World} (hL : laidMetH Tryd.prog laid W) (hS : W.ShapedOpen Tryd.prog) : Wd W := by
  have hL' := hL
  rw [MakeChecks.laidMetH_plain _ _ _ (by kernel_rfl)] at hL'
  refine ⟨fun g ds h => ?_, ?_, ?_⟩
  · have h' : gv g = some ds := h
    cases h'
  · obtain ⟨m, hm⟩ := cell_of_shapedOpen_int (g := Sh.ren143.g 1) (zero := #[.int .i64 0]) hS (by decide) (by kernel_rfl) rfl (by kernel_rfl) (by kernel_rfl) Tryd.underlying3
    exact ⟨cell_lt (off := 0) hm, m, hm⟩
  · have h := Go.Lib.laidMet.reads hL' (n := "unicode.asciiFold") (d := Rows.laid_unicode_asciiFold) (by unfold laid Rows.ruleWithinRow; simp only [List.mem_cons]; repeat (first | exact .inl rfl | exact .inl trivial | apply Or.inr))
    exact tab_reads (k := .u16) (zs := afTab) (g := 6) (t := 207) (e := 206) (n := 128) ((by kernel_rfl : (Rows.laid_unicode_asciiFold : DataW Unit) = Lib.tabData .u16 afTab) ▸ h) (by kernel_rfl) (by kernel_rfl) Tryd.underlying207 Tryd.underlying206 (by kernel_rfl) (by kernel_rfl)
theorem inv9 {w0 : World} {ds : List (D T)} (h : Sh (c0 w0) 9 ds) : ∃ (x0 : List UInt8), ds = ([.s x0] : List (D T)) := by
  obtain ⟨n, rfl, _⟩ := h.str (Tryd.underlying9)
  exact ⟨n, rfl⟩
theorem inv3 {w0 : World} {ds : List (D T)} (h : Sh (c0 w0) 3 ds) : ∃ (x0 : Int), ds = ([.i .i64 x0] : List (D T)) := by
  obtain ⟨n, rfl, _⟩ := h.int (Tryd.underlying3)
  exact ⟨n, rfl⟩
theorem full (w0 : World) : ∀ t ds, inL rl t = true → (c0 w0).cod.kn t = true → Sh (c0 w0) t ds → ∃ x, (c0 w0).cod.enc t x = ds := by
  intro t ds hin hk h
  have hm := mem_of (l := knl) hk
  simp only [knl, List.mem_cons, List.not_mem_nil, or_false] at hm
  rcases hm with rfl | rfl | rfl | rfl | rfl
  · exact absurd hin (by decide)
  · obtain ⟨x0, rfl⟩ := inv9 h
    exact ⟨x0, rfl⟩
  · exact absurd hin (by decide)
  · exact absurd hin (by decide)
  · exact absurd hin (by decide)
theorem arg9 {W : World} {H : Type} {enc : TypeId × Value → H} {base b0 : Nat} {r : Reach} {spare : Nat → Bool} {held : Bool} {v : Value} {d : DataW H} {p : List MemPlace} (hw : Wd W) (hv : Value.okWide Tryd.prog W r b0 9 v) (h : DataW.Trod enc Tryd.prog W base spare held 9 v d p) :
    ∃ (x0 : List UInt8), RV (rc (c0 W)) eta0 W (.d (.s x0)) v := by
  obtain ⟨ds, h1, h2⟩ := open_arg (c := c0 W) (okR_of (okR0 W)) (full W) (cod_ok hw) eta0_ok (t := 9) (by rfl) hv h
  obtain ⟨x0, rfl⟩ := inv9 h1
  refine ⟨x0, ?_⟩
  unfold argVal at h2
  rw [show (c0 W).P.underlying 9 = _ from Tryd.underlying9] at h2
  exact h2
theorem arg3 {W : World} {H : Type} {enc : TypeId × Value → H} {base b0 : Nat} {r : Reach} {spare : Nat → Bool} {held : Bool} {v : Value} {d : DataW H} {p : List MemPlace} (hw : Wd W) (hv : Value.okWide Tryd.prog W r b0 3 v) (h : DataW.Trod enc Tryd.prog W base spare held 3 v d p) :
    ∃ (x0 : Int), RV (rc (c0 W)) eta0 W (.d (.i .i64 x0)) v := by
  obtain ⟨ds, h1, h2⟩ := open_arg (c := c0 W) (okR_of (okR0 W)) (full W) (cod_ok hw) eta0_ok (t := 3) (by rfl) hv h
  obtain ⟨x0, rfl⟩ := inv3 h1
  refine ⟨x0, ?_⟩
  unfold argVal at h2
  rw [show (c0 W).P.underlying 3 = _ from Tryd.underlying3] at h2
  exact h2
theorem walk {W : World} (hw : Wd W) {v0 v1 : Value} {a0_0 : List UInt8} {a1_0 : Int} (h0 : RV (rc (c0 W)) eta0 W (.d (.s a0_0)) v0) (h1 : RV (rc (c0 W)) eta0 W (.d (.i .i64 a1_0)) v1) :
    Calls Tryd.prog 5 #[v0, v1] W fun e W' => e = .returned (.bool true) ∧ Below W.heap.size W W' := by
  obtain ⟨k, hk⟩ := within_ex a0_0 a1_0
  have hs := clerestorykeep2_RuleWithin.sim W hw k (a0_0, a1_0) true hk
  refine law_call (c := cfg W (tab65 k)) (xs := [v0, v1]) (.inr rfl) hs ?_
  simp only [io13, RVs]
  exact ⟨_, _, rfl, h0, _, _, rfl, h1, rfl⟩
set_option maxRecDepth 100000 in
theorem lifted (os : Os) (started : os.Started) (H : Type) (enc : TypeId × Value → H) :
    ReturnsInHanded {} Tryd.checked os 5 .any (fun w args => (Rows.ruleWithinSpec.pre enc Tryd.prog Tryd.f5 [] false w args ∧ laidMetH Tryd.prog laid w) ∧ sizedMet enc Tryd.prog Tryd.f5 (OpenSpec.ofChange Rows.ruleWithinSpec) false w args) (Rows.ruleWithinSpec.post enc Tryd.prog Tryd.f5 false true false false) := by
  refine returns_laid (C := Tryd.checked) (X := fun w _ => laidMetH Tryd.prog laid w) (fun _ _ _ hh h => h.of_heap hh) own started (by kernel_rfl) Tryd.func5
    (ChangeSpec.witness_shaped (enc := enc) (C := Tryd.checked) (os := os) (X := fun w _ => laidMetH Tryd.prog laid w) false (World.laidAll Tryd.prog os laid) #[.string ByteArray.empty, .int .i64 0] 8 (World.laidAll_os _ _ _)
      (World.shaped_of_ZipB (by kernel_rfl) (by kernel_rfl)) (by kernel_rfl) (by kernel_rfl) (by kernel_rfl)
      (by rw [MakeChecks.laidMetH_plain _ _ _ (by kernel_rfl)]; exact laidMet_laidAll _ (by kernel_rfl) (by kernel_rfl))) ?_
  intro W base args ds gs before hval0 hW hL hS
  have hw := wd hL hS
  have hval : ∀ (j : Nat) t v, Tryd.f5.params[j]? = some t → args[j]? = some v → Value.okWide Tryd.prog W .any base t v := hval0
  have hW' := hW
  obtain ⟨p, q, hA0, hV, rfl, hfz, hnd⟩ := hW
  have hA : DataW.TrodAll enc Tryd.prog W 0 (fun _ => true) true Tryd.f5.params.toList args.toList ds p := hA0
  rw [Tryd.params5] at hA hval
  obtain ⟨v0, vs0, d0, ds0, p0, q0, hargs, rfl, rfl, h0, s0⟩ := trodAll_cons hA
  obtain ⟨v1, vs1, d1, ds1, p1, q1, rfl, rfl, rfl, h1, s1⟩ := trodAll_cons s0
  obtain ⟨rfl, rfl, rfl⟩ := trodAll_nil s1
  obtain rfl : args = #[v0, v1] := by cases args; simp_all
  obtain ⟨rfl, rfl⟩ := trodVars_none hV
  have lt0 : ∀ x ∈ p0, x.block < W.heap.size := by obtain ⟨m, hm⟩ := h0; exact DataW.trod_lt m _ _ _ hm
  have lt1 : ∀ x ∈ p1, x.block < W.heap.size := by obtain ⟨m, hm⟩ := h1; exact DataW.trod_lt m _ _ _ hm
  obtain ⟨a0_0, y0⟩ := arg9 hw (hval 0 9 v0 rfl rfl) h0
  obtain ⟨a1_0, y1⟩ := arg3 hw (hval 1 3 v1 rfl rfl) h1
  clear hA0 hval0
  refine (walk hw y0 y1).mono fun e W' ⟨he, bel⟩ => ?_
  subst he
  exact ⟨_, rfl, _, _, _, [], _, [], hW', trodAll_mk1 (shut_bool Tryd.underlying4 _), (trodAll_cons_mk (Below.trod laidOut (by kernel_rfl) (of_decide_eq_true (by kernel_rfl)) h0 bel lt0) (trodAll_cons_mk (Below.trod laidOut (by kernel_rfl) (of_decide_eq_true (by kernel_rfl)) h1 bel lt1) trodAll_mk0)), rfl, bel.frame _, fun h => by cases h⟩
theorem over : Rows.ruleWithinRow.holds Tryd.pinned (OpenSpec.ofChange Rows.ruleWithinSpec) :=
  OpenClaim.holds_of_wide 5 Tryd.f5 rfl rfl rfl rfl rfl rfl rfl ⟨rfl, rfl, rfl, rfl, rfl⟩ rfl rfl rfl rfl rfl (by kernel_rfl) Tryd.func5 (by kernel_rfl)
    (of_decide_eq_true (by kernel_rfl)) (by unfold Func.isWrapper; first | (rw [if_pos (by decide +kernel)]; kernel_rfl) | (rw [if_neg (by decide +kernel)]; exact ⟨rfl, rfl⟩))
    (fun os started H enc _ => lifted os started H enc)
theorem proved : Rows.RuleWithinSaid := over

theorem card : Rows.RuleWithinCardSaid :=
  Claim7.holds_tied_plain_at .later [] [.data, .data, .data, .pinned, .pinned] true (true, "89218b48a76b2333ee7b3f3e3297b4fb443a7c508082fd5667d2c09785b7f80a") true over (fun _ h => by cases h) (by kernel_rfl) (fun _ h => by cases h) ruleWithin_row_tie rfl ⟨rfl, rfl⟩ (by kernel_rfl) rfl
    (fun f fn hf hfn => by
      obtain rfl : f = 5 := Option.some.inj ((show Tryd.prog.funcNamed "clerestory/clerestorykeep2.RuleWithin" = some 5 by kernel_rfl).symm.trans hf) |>.symm
      obtain rfl : fn = Tryd.f5 := (Option.some.inj (Tryd.func5.symm.trans hfn)).symm
      exact ⟨by kernel_rfl, fun j t ht => by
        rw [Tryd.params5] at ht
        have hm : t ∈ [9, 3] := by simpa using Array.mem_of_getElem? ht
        have hall : ([9, 3].all fun u => !Tryd.prog.wantsStandIn u) = true := by kernel_rfl
        exact (show Tryd.prog.wantsStandIn t = false by simpa using List.all_eq_true.1 hall t hm)⟩)
    (by kernel_rfl)
end Go.Proofs.YtdnnaneifaoooaaDoor.RuleWithinRow
namespace Go.Proofs.YtdnnaneifaoooaaDoor
theorem ruleWithin_card_holds : Rows.RuleWithinCardSaid := RuleWithinRow.card
#print axioms ruleWithin_card_holds
end Go.Proofs.YtdnnaneifaoooaaDoor
