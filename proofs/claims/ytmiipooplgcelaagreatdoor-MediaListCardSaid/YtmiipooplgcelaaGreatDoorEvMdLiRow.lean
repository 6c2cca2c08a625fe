/- MediaList says true, whatever the input, and the input reads as it did: proved; no condition. -/
import Derived.Test.YtmiipooplgcelaaGreatDoorEvRow
import Derived.Test.YtmiipooplgcelaaGreatDoorEvMd
import Derived.Test.YtmiipooplgcelaaGreatDoorEvMdF
import Derived.Test.YtmiipooplgcelaaGreatDoorCards
import Derived.Test.YtmiipooplgcelaaGreatDoorTie
set_option linter.unusedVariables false
set_option maxRecDepth 100000
namespace Go.Proofs.YtmiipooplgcelaaGreatDoor.MediaListRow
open Go.ChangeShapes Go.WideShapes Go.ChangeAt Go.RowKit Go.Ev Go.Ev.Md
open Go.ChangeMaps (open_string shut_string)
theorem own : ownKnob Tryz.prog.godebug = none := by kernel_rfl
theorem laidOut : laidOutB Tryz.prog = true := by kernel_rfl
def rl : List TypeId := [9, 3, 4, 31]
noncomputable def c0 (w0 : World) : Cfg T := cfg w0 noTab
theorem okR0 (w0 : World) : rl.all (okT (c0 w0) (inL rl)) = true := by kernel_rfl
theorem cod_ok {w0 : World} (hw : Wd w0) : CodOk (rc (c0 w0)) := (fine w0 hw noTab (noTab_ok fun _ _ _ => rfl)).cod
def laid : List (String × DataW Unit) := Rows.mediaListRow.laid
theorem wd {W : World} (hL : laidMetH Tryz.prog laid W) (hS : W.ShapedOpen Tryz.prog) : Wd W := by
  have hL' := hL
  rw [MakeChecks.laidMetH_plain _ _ _ (by kernel_rfl)] at hL'
  refine ⟨fun g ds h => ?_, ?_, ?_, ?_, ?_⟩
  · have h' : gv g = some ds := h
    unfold gv at h'
    split at h'
    · cases h'
      exact arrs_gv (c := cfg W noTab) (name := "clerestory/media.words") (g := 0) (t := 61) (e := 9) (n := 12) (ls := [g0_0, g0_1, g0_2, g0_3, g0_4, g0_5, g0_6, g0_7, g0_8, g0_9, g0_10, g0_11]) (Go.Lib.laidMet.reads hL' (by unfold laid Rows.mediaListRow; simp only [List.mem_cons]; repeat (first | exact .inl rfl | exact .inl trivial | apply Or.inr))) (by kernel_rfl) (by kernel_rfl) Tryz.underlying61 Tryz.underlying9 (by kernel_rfl) (by kernel_rfl) (by decide)
    · cases h'
  · obtain ⟨m, hm⟩ := cell_of_shapedOpen_int (g := Sh.ren143.g 1) (zero := #[.int .i64 0]) hS (by decide) (by kernel_rfl) rfl (by kernel_rfl) (by kernel_rfl) Tryz.underlying3
    exact ⟨cell_lt (off := 0) hm, m, hm⟩
  · have h := Go.Lib.laidMet.reads hL' (n := "internal/strconv.uint64pow10") (d := Rows.laid_internal_strconv_uint64pow10) (by unfold laid Rows.mediaListRow; simp only [List.mem_cons]; repeat (first | exact .inl rfl | exact .inl trivial | apply Or.inr))
    exact tab_reads (k := .u64) (zs := Lib.pow10Tab) (g := 6) (t := 136) (e := 117) (n := 20) ((by kernel_rfl : (Rows.laid_internal_strconv_uint64pow10 : DataW Unit) = Lib.tabData .u64 Lib.pow10Tab) ▸ h) (by kernel_rfl) (by kernel_rfl) Tryz.underlying136 Tryz.underlying117 (by kernel_rfl) (by kernel_rfl)
  · exact ifat_reads (name := "strconv.ErrSyntax") (Go.Lib.laidMet.reads hL' (by unfold laid Rows.mediaListRow; simp only [List.mem_cons]; repeat (first | exact .inl rfl | exact .inl trivial | apply Or.inr))) (by kernel_rfl) (by kernel_rfl) Tryz.underlying70
  · exact ifat_reads (name := "strconv.ErrRange") (Go.Lib.laidMet.reads hL' (by unfold laid Rows.mediaListRow; simp only [List.mem_cons]; repeat (first | exact .inl rfl | exact .inl trivial | apply Or.inr))) (by kernel_rfl) (by kernel_rfl) Tryz.underlying70
theorem inv9 {w0 : World} {ds : List (D T)} (h : Sh (c0 w0) 9 ds) : ∃ (x0 : List UInt8), ds = ([.s x0] : List (D T)) := by
  obtain ⟨n, rfl, _⟩ := h.str (Tryz.underlying9)
  exact ⟨n, rfl⟩
theorem inv3 {w0 : World} {ds : List (D T)} (h : Sh (c0 w0) 3 ds) : ∃ (x0 : Int), ds = ([.i .i64 x0] : List (D T)) := by
  obtain ⟨n, rfl, _⟩ := h.int (Tryz.underlying3)
  exact ⟨n, rfl⟩
theorem inv4 {w0 : World} {ds : List (D T)} (h : Sh (c0 w0) 4 ds) : ∃ (x0 : Bool), ds = ([.b x0] : List (D T)) := h.bool (Tryz.underlying4)
theorem inv31 {w0 : World} {ds : List (D T)} (h : Sh (c0 w0) 31 ds) : ∃ (x0 : Int) (x1 : Int) (x2 : Bool) (x3 : Bool), ds = ([.i .i64 x0, .i .i64 x1, .b x2, .b x3] : List (D T)) := by
  obtain ⟨y0, r0, rfl, h0, y1, r1, rfl, h1, y2, r2, rfl, h2, y3, r3, rfl, h3, rfl⟩ := h.fields (fs := _) (Tryz.underlying31)
  obtain ⟨z0, rfl⟩ := inv3 h0
  obtain ⟨z1, rfl⟩ := inv3 h1
  obtain ⟨z2, rfl⟩ := inv4 h2
  obtain ⟨z3, rfl⟩ := inv4 h3
  exact ⟨z0, z1, z2, z3, rfl⟩
theorem full (w0 : World) : ∀ t ds, inL rl t = true → (c0 w0).cod.kn t = true → Sh (c0 w0) t ds → ∃ x, (c0 w0).cod.enc t x = ds := by
  intro t ds hin hk h
  have hm := mem_of (l := knl) hk
  simp only [knl, List.mem_cons, List.not_mem_nil, or_false] at hm
  rcases hm with rfl | rfl | rfl | rfl | rfl | rfl
  · exact absurd hin (by decide)
  · obtain ⟨x0, rfl⟩ := inv9 h
    exact ⟨x0, rfl⟩
  · exact absurd hin (by decide)
  · exact absurd hin (by decide)
  · exact absurd hin (by decide)
  · exact absurd hin (by decide)
theorem arg9 {W : World} {H : Type} {enc : TypeId × Value → H} {base b0 : Nat} {r : Reach} {spare : Nat → Bool} {held : Bool} {v : Value} {d : DataW H} {p : List MemPlace} (hw : Wd W) (hv : Value.okWide Tryz.prog W r b0 9 v) (h : DataW.Trod enc Tryz.prog W base spare held 9 v d p) :
    ∃ (x0 : List UInt8), RV (rc (c0 W)) eta0 W (.d (.s x0)) v := by
  obtain ⟨ds, h1, h2⟩ := open_arg (c := c0 W) (okR_of (okR0 W)) (full W) (cod_ok hw) eta0_ok (t := 9) (by rfl) hv h
  obtain ⟨x0, rfl⟩ := inv9 h1
  refine ⟨x0, ?_⟩
  unfold argVal at h2
  rw [show (c0 W).P.underlying 9 = _ from Tryz.underlying9] at h2
  exact h2
theorem arg31 {W : World} {H : Type} {enc : TypeId × Value → H} {base b0 : Nat} {r : Reach} {spare : Nat → Bool} {held : Bool} {v : Value} {d : DataW H} {p : List MemPlace} (hw : Wd W) (hv : Value.okWide Tryz.prog W r b0 31 v) (h : DataW.Trod enc Tryz.prog W base spare held 31 v d p) :
    ∃ (x0 : Int) (x1 : Int) (x2 : Bool) (x3 : Bool), RV (rc (c0 W)) eta0 W (.agg [.d (.i .i64 x0), .d (.i .i64 x1), .d (.b x2), .d (.b x3)]) v := by
  obtain ⟨ds, h1, h2⟩ := open_arg (c := c0 W) (okR_of (okR0 W)) (full W) (cod_ok hw) eta0_ok (t := 31) (by rfl) hv h
  obtain ⟨x0, x1, x2, x3, rfl⟩ := inv31 h1
  refine ⟨x0, x1, x2, x3, ?_⟩
  unfold argVal at h2
  rw [show (c0 W).P.underlying 31 = _ from Tryz.underlying31] at h2
  exact h2
theorem walk {W : World} (hw : Wd W) {v0 v1 v2 : Value} {a0_0 : List UInt8} {a1_0 : List UInt8} {a2_0 : Int} {a2_1 : Int} {a2_2 : Bool} {a2_3 : Bool} (h0 : RV (rc (c0 W)) eta0 W (.d (.s a0_0)) v0) (h1 : RV (rc (c0 W)) eta0 W (.d (.s a1_0)) v1) (h2 : RV (rc (c0 W)) eta0 W (.agg [.d (.i .i64 a2_0), .d (.i .i64 a2_1), .d (.b a2_2), .d (.b a2_3)]) v2) :
    Calls Tryz.prog 6 #[v0, v1, v2] W fun e W' => e = .returned (.bool true) ∧ Below W.heap.size W W' := by
  obtain ⟨k, hk⟩ := list_ex a0_0 a1_0 a2_0 a2_1 a2_2 a2_3
  have hs := clerestorykeep2_MediaList.sim W hw k (a0_0, a1_0, a2_0, a2_1, a2_2, a2_3) true hk
  refine law_call (c := cfg W (tab54 k)) (xs := [v0, v1, v2]) (.inr rfl) hs ?_
  simp only [io92, RVs]
  exact ⟨_, _, rfl, h0, _, _, rfl, h1, _, _, rfl, h2, rfl⟩
set_option maxRecDepth 100000 in
theorem lifted (os : Os) (started : os.Started) (H : Type) (enc : TypeId × Value → H) :
    ReturnsInHanded {} Tryz.checked os 6 .any (fun w args => (Rows.mediaListSpec.pre enc Tryz.prog Tryz.f6 [] false w args ∧ laidMetH Tryz.prog laid w) ∧ sizedMet enc Tryz.prog Tryz.f6 (OpenSpec.ofChange Rows.mediaListSpec) false w args) (Rows.mediaListSpec.post enc Tryz.prog Tryz.f6 false true false false) := by
  refine returns_laid (C := Tryz.checked) (X := fun w _ => laidMetH Tryz.prog laid w) (fun _ _ _ hh h => h.of_heap hh) own started (by kernel_rfl) Tryz.func6
    (ChangeSpec.witness_shaped (enc := enc) (C := Tryz.checked) (os := os) (X := fun w _ => laidMetH Tryz.prog laid w) false (World.laidAll Tryz.prog os laid) #[.string ByteArray.empty, .string ByteArray.empty, .agg #[.int .i64 0, .int .i64 0, .bool false, .bool false]] 8 (World.laidAll_os _ _ _)
      (World.shaped_of_ZipB (by kernel_rfl) (by kernel_rfl)) (by kernel_rfl) (by kernel_rfl) (by kernel_rfl)
      (by rw [MakeChecks.laidMetH_plain _ _ _ (by kernel_rfl)]; exact laidMet_laidAll _ (by kernel_rfl) (by kernel_rfl))) ?_
  intro W base args ds gs before hval0 hW hL hS
  have hw := wd hL hS
  have hval : ∀ (j : Nat) t v, Tryz.f6.params[j]? = some t → args[j]? = some v → Value.okWide Tryz.prog W .any base t v := hval0
  have hW' := hW
  obtain ⟨p, q, hA0, hV, rfl, hfz, hnd⟩ := hW
  have hA : DataW.TrodAll enc Tryz.prog W 0 (fun _ => true) true Tryz.f6.params.toList args.toList ds p := hA0
  rw [Tryz.params6] at hA hval
  obtain ⟨v0, vs0, d0, ds0, p0, q0, hargs, rfl, rfl, h0, s0⟩ := trodAll_cons hA
  obtain ⟨v1, vs1, d1, ds1, p1, q1, rfl, rfl, rfl, h1, s1⟩ := trodAll_cons s0
  obtain ⟨v2, vs2, d2, ds2, p2, q2, rfl, rfl, rfl, h2, s2⟩ := trodAll_cons s1
  obtain ⟨rfl, rfl, rfl⟩ := trodAll_nil s2
  obtain rfl : args = #[v0, v1, v2] := by cases args; simp_all
  obtain ⟨rfl, rfl⟩ := trodVars_none hV
  have lt0 : ∀ x ∈ p0, x.block < W.heap.size := by obtain ⟨m, hm⟩ := h0; exact DataW.trod_lt m _ _ _ hm
  have lt1 : ∀ x ∈ p1, x.block < W.heap.size := by obtain ⟨m, hm⟩ := h1; exact DataW.trod_lt m _ _ _ hm
  have lt2 : ∀ x ∈ p2, x.block < W.heap.size := by obtain ⟨m, hm⟩ := h2; exact DataW.trod_lt m _ _ _ hm
  obtain ⟨a0_0, y0⟩ := arg9 hw (hval 0 9 v0 rfl rfl) h0
  obtain ⟨a1_0, y1⟩ := arg9 hw (hval 1 9 v1 rfl rfl) h1
  obtain ⟨a2_0, a2_1, a2_2, a2_3, y2⟩ := arg31 hw (hval 2 31 v2 rfl rfl) h2
  clear hA0 hval0
  refine (walk hw y0 y1 y2).mono fun e W' ⟨he, bel⟩ => ?_
  subst he
  exact ⟨_, rfl, _, _, _, [], _, [], hW', trodAll_mk1 (shut_bool Tryz.underlying4 _), (trodAll_cons_mk (Below.trod laidOut (by kernel_rfl) (of_decide_eq_true (by kernel_rfl)) h0 bel lt0) (trodAll_cons_mk (Below.trod laidOut (by kernel_rfl) (of_decide_eq_true (by kernel_rfl)) h1 bel lt1) (trodAll_cons_mk (Below.trod laidOut (by kernel_rfl) (of_decide_eq_true (by kernel_rfl)) h2 bel lt2) trodAll_mk0))), rfl, bel.frame _, fun h => by cases h⟩
theorem over : Rows.mediaListRow.holds Tryz.pinned (OpenSpec.ofChange Rows.mediaListSpec) :=
  OpenClaim.holds_of_wide 6 Tryz.f6 rfl rfl rfl rfl rfl rfl rfl ⟨rfl, rfl, rfl, rfl, rfl⟩ rfl rfl rfl rfl rfl (by kernel_rfl) Tryz.func6 (by kernel_rfl)
    (of_decide_eq_true (by kernel_rfl)) (by unfold Func.isWrapper; first | (rw [if_pos (by decide +kernel)]; kernel_rfl) | (rw [if_neg (by decide +kernel)]; exact ⟨rfl, rfl⟩))
    (fun os started H enc _ => lifted os started H enc)
theorem proved : Rows.MediaListSaid := over

theorem card : Rows.MediaListCardSaid :=
  Claim7.holds_tied_plain_at .later [] [.data, .data, .data, .data, .sentinel, .sentinel, .data, .pinned] true (true, "2f43d7ae7b41f6c5107e5e8f582219c5deebd60afd2d2cb785d1e926ec1cb96d") true over (fun _ h => by cases h) (by kernel_rfl) (fun _ h => by cases h) mediaList_row_tie rfl ⟨rfl, rfl⟩ (by kernel_rfl) rfl
    (fun f fn hf hfn => by
      obtain rfl : f = 6 := Option.some.inj ((show Tryz.prog.funcNamed "clerestory/clerestorykeep2.MediaList" = some 6 by kernel_rfl).symm.trans hf) |>.symm
      obtain rfl : fn = Tryz.f6 := (Option.some.inj (Tryz.func6.symm.trans hfn)).symm
      exact ⟨by kernel_rfl, fun j t ht => by
        rw [Tryz.params6] at ht
        have hm : t ∈ [9, 9, 31] := by simpa using Array.mem_of_getElem? ht
        have hall : ([9, 9, 31].all fun u => !Tryz.prog.wantsStandIn u) = true := by kernel_rfl
        exact (show Tryz.prog.wantsStandIn t = false by simpa using List.all_eq_true.1 hall t hm)⟩)
    (by kernel_rfl)
end Go.Proofs.YtmiipooplgcelaaGreatDoor.MediaListRow
namespace Go.Proofs.YtmiipooplgcelaaGreatDoor
theorem mediaList_card_holds : Rows.MediaListCardSaid := MediaListRow.card
#print axioms mediaList_card_holds
end Go.Proofs.YtmiipooplgcelaaGreatDoor
