/- CalcBack says true, whatever the input, and the input reads as it did: proved; no condition. -/
import Derived.Test.YtdnnaneifaoooaaDoorEvRow
import Derived.Test.YtdnnaneifaoooaaDoorEvCk
import Derived.Test.YtdnnaneifaoooaaDoorEvCkE
import Derived.Test.YtdnnaneifaoooaaDoorCards
import Derived.Test.YtdnnaneifaoooaaDoorTie
set_option linter.unusedVariables false
set_option maxRecDepth 100000
namespace Go.Proofs.YtdnnaneifaoooaaDoor.CalcBackRow
open Go.ChangeShapes Go.WideShapes Go.ChangeAt Go.RowKit Go.Ev Go.Ev.Ck
open Go.ChangeMaps (open_string shut_string)
theorem own : ownKnob Tryd.prog.godebug = none := by kernel_rfl
theorem laidOut : laidOutB Tryd.prog = true := by kernel_rfl
def rl : List TypeId := [9]
noncomputable def c0 (w0 : World) : Cfg T := cfg w0 noTab
theorem okR0 (w0 : World) : rl.all (okT (c0 w0) (inL rl)) = true := by kernel_rfl
theorem cod_ok {w0 : World} (hw : Wd w0) : CodOk (rc (c0 w0)) := (fine w0 hw noTab (noTab_ok fun _ _ _ => rfl)).cod
def laid : List (String × DataW Unit) := Rows.calcBackRow.laid
theorem wd {W : World} (hL : laidMetH Tryd.prog laid W) (hS : W.ShapedOpen Tryd.prog) : Wd W := by
  have hL' := hL
  rw [MakeChecks.laidMetH_plain _ _ _ (by kernel_rfl)] at hL'
  refine ⟨fun g ds h => ?_, ?_, ?_⟩
  · have h' : gv g = some ds := h
    unfold gv at h'
    split at h'
    · cases h'
      exact strs_gv (c := cfg W noTab) (n := "clerestory/dim.units") (g := 1) (t := 31) (e := 9) (ls := g1_0) (xs := g1_0) (Go.Lib.laidMet.reads hL' (by unfold laid Rows.calcBackRow; simp only [List.mem_cons]; repeat (first | exact .inl rfl | exact .inl trivial | apply Or.inr))) (by kernel_rfl) (by kernel_rfl) Tryd.underlying31 Tryd.underlying9 (by kernel_rfl) rfl
    · cases h'
  · obtain ⟨m, hm⟩ := cell_of_shapedOpen_int (g := Sh.ren143.g 1) (zero := #[.int .i64 0]) hS (by decide) (by kernel_rfl) rfl (by kernel_rfl) (by kernel_rfl) Tryd.underlying3
    exact ⟨cell_lt (off := 0) hm, m, hm⟩
  · have h := Go.Lib.laidMet.reads hL' (n := "internal/strconv.uint64pow10") (d := Rows.laid_internal_strconv_uint64pow10) (by unfold laid Rows.calcBackRow; simp only [List.mem_cons]; repeat (first | exact .inl rfl | exact .inl trivial | apply Or.inr))
    exact tab_reads (k := .u64) (zs := Lib.pow10Tab) (g := 5) (t := 195) (e := 100) (n := 20) ((by kernel_rfl : (Rows.laid_internal_strconv_uint64pow10 : DataW Unit) = Lib.tabData .u64 Lib.pow10Tab) ▸ h) (by kernel_rfl) (by kernel_rfl) Tryd.underlying195 Tryd.underlying100 (by kernel_rfl) (by kernel_rfl)
theorem inv9 {w0 : World} {ds : List (D T)} (h : Sh (c0 w0) 9 ds) : ∃ (x0 : List UInt8), ds = ([.s x0] : List (D T)) := by
  obtain ⟨n, rfl, _⟩ := h.str (Tryd.underlying9)
  exact ⟨n, rfl⟩
theorem full (w0 : World) : ∀ t ds, inL rl t = true → (c0 w0).cod.kn t = true → Sh (c0 w0) t ds → ∃ x, (c0 w0).cod.enc t x = ds := by
  intro t ds hin hk h
  have hm := mem_of (l := knl) hk
  simp only [knl, List.mem_cons, List.not_mem_nil, or_false] at hm
  rcases hm with rfl | rfl | rfl | rfl | rfl
  · exact absurd hin (by decide)
  · obtain ⟨x0, rfl⟩ := inv9 h
    exact ⟨x0, rfl⟩
  · exact absurd hin (by decide)
  · exact absurd hin (by decide)
  · exact absurd hin (by decide)
theorem arg9 {W : World} {H : Type} {enc : TypeId × Value → H} {base b0 : Nat} {r : Reach} {spare : Nat → Bool} {held : Bool} {v : Value} {d : DataW H} {p : List MemPlace} (hw : Wd W) (hv : Value.okWide Tryd.prog W r b0 9 v) (h : DataW.Trod enc Tryd.prog W base spare held 9 v d p) :
    ∃ (x0 : List UInt8), RV (rc (c0 W)) eta0 W (.d (.s x0)) v := by
  obtain ⟨ds, h1, h2⟩ := open_arg (c := c0 W) (okR_of (okR0 W)) (full W) (cod_ok hw) eta0_ok (t := 9) (by rfl) hv h
  obtain ⟨x0, rfl⟩ := inv9 h1
  refine ⟨x0, ?_⟩
  unfold argVal at h2
  rw [show (c0 W).P.underlying 9 = _ from Tryd.underlying9] at h2
  exact h2
theorem walk {W : World} (hw : Wd W) {v0 : Value} {a0_0 : List UInt8} (h0 : RV (rc (c0 W)) eta0 W (.d (.s a0_0)) v0) :
    Calls Tryd.prog 8 #[v0] W fun e W' => e = .returned (.bool true) ∧ Below W.heap.size W W' := by
  obtain ⟨k, hk⟩ := back_ex a0_0
  have hs := clerestorykeep2_CalcBack.sim W hw k a0_0 true hk
  refine law_call (c := cfg W (tab51 k)) (xs := [v0]) (.inr rfl) hs ?_
  simp only [io1, RVs]
  exact ⟨_, _, rfl, h0, rfl⟩
set_option maxRecDepth 100000 in
theorem lifted (os : Os) (started : os.Started) (H : Type) (enc : TypeId × Value → H) :
    ReturnsInHanded {} Tryd.checked os 8 .any (fun w args => (Rows.calcBackSpec.pre enc Tryd.prog Tryd.f8 [] false w args ∧ laidMetH Tryd.prog laid w) ∧ sizedMet enc Tryd.prog Tryd.f8 (OpenSpec.ofChange Rows.calcBackSpec) false w args) (Rows.calcBackSpec.post enc Tryd.prog Tryd.f8 false true false false) := by
  refine returns_laid (C := Tryd.checked) (X := fun w _ => laidMetH Tryd.prog laid w) (fun _ _ _ hh h => h.of_heap hh) own started (by kernel_rfl) Tryd.func8
    (ChangeSpec.witness_shaped (enc := enc) (C := Tryd.checked) (os := os) (X := fun w _ => laidMetH Tryd.prog laid w) false (World.laidAll Tryd.prog os laid) #[.string ByteArray.empty] 8 (World.laidAll_os _ _ _)
      (World.shaped_of_ZipB (by kernel_rfl) (by kernel_rfl)) (by kernel_rfl) (by kernel_rfl) (by kernel_rfl)
      (by rw [MakeChecks.laidMetH_plain _ _ _ (by kernel_rfl)]; exact laidMet_laidAll _ (by kernel_rfl) (by kernel_rfl))) ?_
  intro W base args ds gs before hval0 hW hL hS
  have hw := wd hL hS
  have hval : ∀ (j : Nat) t v, Tryd.f8.params[j]? = some t → args[j]? = some v → Value.okWide Tryd.prog W .any base t v := hval0
  have hW' := hW
  obtain ⟨p, q, hA0, hV, rfl, hfz, hnd⟩ := hW
  have hA : DataW.TrodAll enc Tryd.prog W 0 (fun _ => true) true Tryd.f8.params.toList args.toList ds p := hA0
  rw [Tryd.params8] at hA hval
  obtain ⟨v0, vs0, d0, ds0, p0, q0, hargs, rfl, rfl, h0, s0⟩ := trodAll_cons hA
  obtain ⟨rfl, rfl, rfl⟩ := trodAll_nil s0
  obtain rfl : args = #[v0] := by cases args; simp_all
  obtain ⟨rfl, rfl⟩ := trodVars_none hV
  have lt0 : ∀ x ∈ p0, x.block < W.heap.size := by obtain ⟨m, hm⟩ := h0; exact DataW.trod_lt m _ _ _ hm
  obtain ⟨a0_0, y0⟩ := arg9 hw (hval 0 9 v0 rfl rfl) h0
  clear hA0 hval0
  refine (walk hw y0).mono fun e W' ⟨he, bel⟩ => ?_
  subst he
  exact ⟨_, rfl, _, _, _, [], _, [], hW', trodAll_mk1 (shut_bool Tryd.underlying4 _), (trodAll_cons_mk (Below.trod laidOut (by kernel_rfl) (of_decide_eq_true (by kernel_rfl)) h0 bel lt0) trodAll_mk0), rfl, bel.frame _, fun h => by cases h⟩
theorem over : Rows.calcBackRow.holds Tryd.pinned (OpenSpec.ofChange Rows.calcBackSpec) :=
  OpenClaim.holds_of_wide 8 Tryd.f8 rfl rfl rfl rfl rfl rfl rfl ⟨rfl, rfl, rfl, rfl, rfl⟩ rfl rfl rfl rfl rfl (by kernel_rfl) Tryd.func8 (by kernel_rfl)
    (of_decide_eq_true (by kernel_rfl)) (by unfold Func.isWrapper; first | (rw [if_pos (by decide +kernel)]; kernel_rfl) | (rw [if_neg (by decide +kernel)]; exact ⟨rfl, rfl⟩))
    (fun os started H enc _ => lifted os started H enc)
theorem proved : Rows.CalcBackSaid := over

theorem card : Rows.CalcBackCardSaid :=
  Claim7.holds_tied_plain_at .later [] [.data, .data, .data, .data, .widerDeep, .pinned] true (true, "89218b48a76b2333ee7b3f3e3297b4fb443a7c508082fd5667d2c09785b7f80a") true over (fun _ h => by cases h) (by kernel_rfl) (fun _ h => by cases h) calcBack_row_tie rfl ⟨rfl, rfl⟩ (by kernel_rfl) rfl
    (fun f fn hf hfn => by
      obtain rfl : f = 8 := Option.some.inj ((show Tryd.prog.funcNamed "clerestory/clerestorykeep2.CalcBack" = some 8 by kernel_rfl).symm.trans hf) |>.symm
      obtain rfl : fn = Tryd.f8 := (Option.some.inj (Tryd.func8.symm.trans hfn)).symm
      exact ⟨by kernel_rfl, fun j t ht => by
        rw [Tryd.params8] at ht
        have hm : t ∈ [9] := by simpa using Array.mem_of_getElem? ht
        have hall : ([9].all fun u => !Tryd.prog.wantsStandIn u) = true := by kernel_rfl
        exact (show Tryd.prog.wantsStandIn t = false by simpa using List.all_eq_true.1 hall t hm)⟩)
    (by kernel_rfl)
end Go.Proofs.YtdnnaneifaoooaaDoor.CalcBackRow
namespace Go.Proofs.YtdnnaneifaoooaaDoor
theorem calcBack_card_holds : Rows.CalcBackCardSaid := CalcBackRow.card
#print axioms calcBack_card_holds
end Go.Proofs.YtdnnaneifaoooaaDoor
