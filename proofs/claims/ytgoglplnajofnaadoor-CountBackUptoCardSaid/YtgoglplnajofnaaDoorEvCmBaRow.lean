/- CountBack says true, whatever the input of a bulk of at most 1048576, and the input reads as it did: proved. Its conditions: that bulk. -/
import Derived.Test.YtgoglplnajofnaaDoorEvRow
import Derived.Test.YtgoglplnajofnaaDoorEvUp
import Derived.Test.YtgoglplnajofnaaDoorEvCm
import Derived.Test.YtgoglplnajofnaaDoorEvCmA
import Derived.Test.YtgoglplnajofnaaDoorCards
import Derived.Test.YtgoglplnajofnaaDoorTie
import Derived.Deep.DeepHandedRow
set_option linter.unusedVariables false
set_option maxRecDepth 100000
namespace Go.Proofs.YtgoglplnajofnaaDoor.CountBackUptoRow
open Go.ChangeShapes Go.WideShapes Go.ChangeAt Go.RowKit Go.Ev Go.Ev.Cm
open Go.ChangeMaps (open_string shut_string)
theorem own : ownKnob Tryd.prog.godebug = none := by kernel_rfl
theorem laidOut : laidOutB Tryd.prog = true := by kernel_rfl
def rl : List TypeId := [3, 9]
noncomputable def c0 (w0 : World) : Cfg T := cfg w0 noTab
theorem okR0 (w0 : World) : rl.all (okT (c0 w0) (inL rl)) = true := by kernel_rfl
theorem cod_ok {w0 : World} (hw : Wd w0) : CodOk (rc (c0 w0)) := (fine w0 hw noTab (noTab_ok fun _ _ _ => rfl)).cod
theorem bkAll {H : Type} : ∀ (l : List (DataW H)) (d : DataW H), d ∈ l → Rows.uptoBulk d ≤ Rows.uptoBulkAll l
  | [], d, h => by cases h
  | x :: r, d, h => by
    rw [Rows.uptoBulkAll]
    rcases List.mem_cons.1 h with rfl | h
    · omega
    · have := bkAll r d h; omega
theorem one_le {H : Type} (d : DataW H) : 1 ≤ Rows.uptoBulk d := by
  cases d with
  | lit l => cases l <;> simp [Rows.uptoBulk]
  | _ => simp [Rows.uptoBulk]
theorem lenAll {H : Type} : ∀ (l : List (DataW H)), l.length ≤ Rows.uptoBulkAll l
  | [] => Nat.zero_le _
  | x :: r => by
    rw [Rows.uptoBulkAll, List.length_cons]
    have := lenAll r; have := one_le x; omega
theorem bk {H : Type} : Bk (Rows.uptoBulk (H := H)) where
  str s := by simp [Rows.uptoBulk]
  len xs r := by rw [Rows.uptoBulk]; have := lenAll xs; omega
  el xs r x h := by rw [Rows.uptoBulk]; have := bkAll xs x h; omega
  part xs x h := by rw [Rows.uptoBulk]; have := bkAll xs x h; omega
def laid : List (String × DataW Unit) := Rows.countBackUptoRow.laid
theorem wd {W : World} (hL : laidMetH Tryd.prog laid W) (hS : W.ShapedOpen Tryd.prog) : Wd W := by
  have hL' := hL
  rw [MakeChecks.laidMetH_plain _ _ _ (by kernel_rfl)] at hL'
  refine ⟨fun g ds h => ?_, ?_, ?_, ?_, ?_, ?_⟩
  · have h' : gv g = some ds := h
    cases h'
  · have h := Go.Lib.laidMet.reads hL' (n := "internal/strconv.uint64pow10") (d := Rows.laid_internal_strconv_uint64pow10) (by unfold laid Rows.countBackUptoRow; simp only [List.mem_cons]; repeat (first | exact .inl rfl | exact .inl trivial | apply Or.inr))
    exact tab_reads (k := .u64) (zs := Lib.pow10Tab) (g := 6) (t := 101) (e := 68) (n := 20) ((by kernel_rfl : (Rows.laid_internal_strconv_uint64pow10 : DataW Unit) = Lib.tabData .u64 Lib.pow10Tab) ▸ h) (by kernel_rfl) (by kernel_rfl) Tryd.underlying101 Tryd.underlying68 (by kernel_rfl) (by kernel_rfl)
  · exact ifat_reads (name := "strconv.ErrSyntax") (Go.Lib.laidMet.reads hL' (by unfold laid Rows.countBackUptoRow; simp only [List.mem_cons]; repeat (first | exact .inl rfl | exact .inl trivial | apply Or.inr))) (by kernel_rfl) (by kernel_rfl) Tryd.underlying33
  · exact ifat_reads (name := "strconv.ErrRange") (Go.Lib.laidMet.reads hL' (by unfold laid Rows.countBackUptoRow; simp only [List.mem_cons]; repeat (first | exact .inl rfl | exact .inl trivial | apply Or.inr))) (by kernel_rfl) (by kernel_rfl) Tryd.underlying33
  · exact Proofs.caseVar_of_reads Sh.l274 Sh.t206 Sh.ext274 (((by kernel_rfl : (Rows.laid_unicode_CaseRanges : DataW Unit) = Lib.caseData) ▸ (Go.Lib.laidMet.reads hL' (n := "unicode.CaseRanges") (d := Rows.laid_unicode_CaseRanges) (by unfold laid Rows.countBackUptoRow; simp only [List.mem_cons]; repeat (first | exact .inl rfl | exact .inl trivial | apply Or.inr)))))
  · exact Proofs.utf8Tabs_of_reads Sh.l260 Sh.ext260 (((by kernel_rfl : (Rows.laid_unicode_utf8_first : DataW Unit) = Lib.firstData) ▸ (Go.Lib.laidMet.reads hL' (n := "unicode/utf8.first") (d := Rows.laid_unicode_utf8_first) (by unfold laid Rows.countBackUptoRow; simp only [List.mem_cons]; repeat (first | exact .inl rfl | exact .inl trivial | apply Or.inr))))) (((by kernel_rfl : (Rows.laid_unicode_utf8_acceptRanges : DataW Unit) = Lib.acceptData) ▸ (Go.Lib.laidMet.reads hL' (n := "unicode/utf8.acceptRanges") (d := Rows.laid_unicode_utf8_acceptRanges) (by unfold laid Rows.countBackUptoRow; simp only [List.mem_cons]; repeat (first | exact .inl rfl | exact .inl trivial | apply Or.inr)))))
theorem sinv3 {w0 : World} {ds : List (D T)} (h : Sh (c0 w0) 3 ds) : ∃ (x0 : Int), ds = ([.i .i64 x0] : List (D T)) := by
  obtain ⟨n, rfl, _⟩ := h.int (Tryd.underlying3)
  exact ⟨n, rfl⟩
theorem sinv9 {w0 : World} {ds : List (D T)} (h : Sh (c0 w0) 9 ds) : ∃ (x0 : List UInt8), ds = ([.s x0] : List (D T)) := by
  obtain ⟨n, rfl, _⟩ := h.str (Tryd.underlying9)
  exact ⟨n, rfl⟩
theorem inv3 {w0 : World} {ds : List (D T)} (h : ShN (c0 w0) 1048576 3 ds) : ∃ (x0 : Int), ds = ([.i .i64 x0] : List (D T)) ∧ True := by
  obtain ⟨n, rfl, _⟩ := h.int (Tryd.underlying3)
  exact ⟨n, rfl, trivial⟩
theorem inv9 {w0 : World} {ds : List (D T)} (h : ShN (c0 w0) 1048576 9 ds) : ∃ (x0 : List UInt8), ds = ([.s x0] : List (D T)) ∧ x0.length ≤ 1048576 := by
  obtain ⟨n, rfl, hl⟩ := h.str (Tryd.underlying9)
  exact ⟨n, rfl, hl⟩
theorem full (w0 : World) : ∀ t ds, inL rl t = true → (c0 w0).cod.kn t = true → Sh (c0 w0) t ds → ∃ x, (c0 w0).cod.enc t x = ds := by
  intro t ds hin hk h
  have hm := mem_of (l := knl) hk
  simp only [knl, List.mem_cons, List.not_mem_nil, or_false] at hm
  rcases hm with rfl | rfl | rfl
  · obtain ⟨x0, rfl⟩ := sinv3 h
    exact ⟨x0, rfl⟩
  · exact absurd hin (by decide)
  · exact absurd hin (by decide)
theorem arg3 {W : World} {H : Type} {enc : TypeId × Value → H} {base b0 : Nat} {r : Reach} {spare : Nat → Bool} {held : Bool} {v : Value} {d : DataW H} {p : List MemPlace} (hw : Wd W) (hb : Rows.uptoBulk d ≤ 1048576) (hv : Value.okWide Tryd.prog W r b0 3 v) (h : DataW.Trod enc Tryd.prog W base spare held 3 v d p) :
    ∃ (x0 : Int), (True) ∧ RV (rc (c0 W)) eta0 W (.d (.i .i64 x0)) v := by
  obtain ⟨ds, h1, h2⟩ := open_argN (c := c0 W) (N := 1048576) (bulk := Rows.uptoBulk) (okR_of (okR0 W)) (full W) (cod_ok hw) eta0_ok bk (by decide) (t := 3) (by rfl) hv h hb
  obtain ⟨x0, rfl, hf⟩ := inv3 h1
  refine ⟨x0, hf, ?_⟩
  unfold argVal at h2
  rw [show (c0 W).P.underlying 3 = _ from Tryd.underlying3] at h2
  exact h2
theorem arg9 {W : World} {H : Type} {enc : TypeId × Value → H} {base b0 : Nat} {r : Reach} {spare : Nat → Bool} {held : Bool} {v : Value} {d : DataW H} {p : List MemPlace} (hw : Wd W) (hb : Rows.uptoBulk d ≤ 1048576) (hv : Value.okWide Tryd.prog W r b0 9 v) (h : DataW.Trod enc Tryd.prog W base spare held 9 v d p) :
    ∃ (x0 : List UInt8), (x0.length ≤ 1048576) ∧ RV (rc (c0 W)) eta0 W (.d (.s x0)) v := by
  obtain ⟨ds, h1, h2⟩ := open_argN (c := c0 W) (N := 1048576) (bulk := Rows.uptoBulk) (okR_of (okR0 W)) (full W) (cod_ok hw) eta0_ok bk (by decide) (t := 9) (by rfl) hv h hb
  obtain ⟨x0, rfl, hf⟩ := inv9 h1
  refine ⟨x0, hf, ?_⟩
  unfold argVal at h2
  rw [show (c0 W).P.underlying 9 = _ from Tryd.underlying9] at h2
  exact h2
theorem walk {W : World} (hw : Wd W) {v0 v1 v2 : Value} {a0_0 : Int} {a1_0 : Int} {a2_0 : List UInt8} (bd0 : True) (bd1 : True) (bd2 : a2_0.length ≤ 1048576) (h0 : RV (rc (c0 W)) eta0 W (.d (.i .i64 a0_0)) v0) (h1 : RV (rc (c0 W)) eta0 W (.d (.i .i64 a1_0)) v1) (h2 : RV (rc (c0 W)) eta0 W (.d (.s a2_0)) v2) :
    Calls Tryd.prog 3 #[v0, v1, v2] W fun e W' => e = .returned (.bool true) ∧ Below W.heap.size W W' := by
  obtain ⟨k, hk⟩ := Go.Ev.Cm.law_ex a0_0 a1_0 a2_0 bd0 bd1 bd2
  have hs := clerestorykeep2_CountBack.sim W hw k (a0_0, a1_0, a2_0) true hk
  refine law_call (c := cfg W (tab18 k)) (xs := [v0, v1, v2]) (.inr rfl) hs ?_
  simp only [io24, RVs]
  exact ⟨_, _, rfl, h0, _, _, rfl, h1, _, _, rfl, h2, rfl⟩
theorem reads (os : Os) {H : Type} (enc : TypeId × Value → H) : ∃ places, DataW.whole enc Tryd.prog ((World.laidAll Tryd.prog os laid).forCall (fun _ _ => 0) ⟨#[], #[.int .i64 0, .int .i64 0, .string ByteArray.empty], []⟩).memory Tryd.f3.params.toList Rows.countBackSpec.vars false #[.int .i64 0, .int .i64 0, .string ByteArray.empty].toList 8 = some ([.lit (.int .i64 0), .lit (.int .i64 0), .lit (.string [])], [], places) :=
  ⟨[], by kernel_rfl⟩
set_option maxRecDepth 100000 in
theorem lifted (os : Os) (started : os.Started) (H : Type) (enc : TypeId × Value → H) (F : Stop.Interp) :
    ReturnsInHanded {} Tryd.checked os 3 .any ((Rows.OpenSpec.upto Rows.countBackSpec).preRow enc Tryd.prog Tryd.f3 Rows.countBackUptoRow.domain false Rows.countBackUptoRow.laid) (((Rows.OpenSpec.upto Rows.countBackSpec).at F).post enc Tryd.prog Tryd.f3 false true false false) := by
  obtain ⟨places, hx⟩ := reads os enc
  refine returnsInHanded_of_row (C := Tryd.checked) (s := Rows.OpenSpec.upto Rows.countBackSpec) own started (by kernel_rfl) Tryd.func3
    (witness_upto (enc := enc) (C := Tryd.checked) (os := os) false (World.laidAll Tryd.prog os laid) #[.int .i64 0, .int .i64 0, .string ByteArray.empty] (World.laidAll_os _ _ _)
      (World.shaped_of_ZipB (by kernel_rfl) (by kernel_rfl)) (by kernel_rfl)
      (OpenSpec.preRow_of_cond 8 hx (by kernel_rfl) (fun k hk => by cases hk; kernel_rfl) (by kernel_rfl)
        (by rw [MakeChecks.laidMetH_plain _ _ _ (by kernel_rfl)]; exact laidMet_laidAll _ (by kernel_rfl) (by kernel_rfl)))) ?_
  intro W base args ds gs before hval0 hW _ hcond _ hL hS _
  have hw := wd hL hS
  have hval : ∀ (j : Nat) t v, Tryd.f3.params[j]? = some t → args[j]? = some v → Value.okWide Tryd.prog W .any base t v := hval0
  have hW' := hW
  obtain ⟨p, q, hA0, hV, rfl, hfz, hnd⟩ := hW
  have hA : DataW.TrodAll enc Tryd.prog W 0 (fun _ => true) true Tryd.f3.params.toList args.toList ds p := hA0
  rw [Tryd.params3] at hA hval
  obtain ⟨v0, vs0, d0, ds0, p0, q0, hargs, rfl, rfl, h0, s0⟩ := trodAll_cons hA
  obtain ⟨v1, vs1, d1, ds1, p1, q1, rfl, rfl, rfl, h1, s1⟩ := trodAll_cons s0
  obtain ⟨v2, vs2, d2, ds2, p2, q2, rfl, rfl, rfl, h2, s2⟩ := trodAll_cons s1
  obtain ⟨rfl, rfl, rfl⟩ := trodAll_nil s2
  obtain rfl : args = #[v0, v1, v2] := by cases args; simp_all
  obtain ⟨rfl, rfl⟩ := trodVars_none hV
  have lt0 : ∀ x ∈ p0, x.block < W.heap.size := by obtain ⟨m, hm⟩ := h0; exact DataW.trod_lt m _ _ _ hm
  have lt1 : ∀ x ∈ p1, x.block < W.heap.size := by obtain ⟨m, hm⟩ := h1; exact DataW.trod_lt m _ _ _ hm
  have lt2 : ∀ x ∈ p2, x.block < W.heap.size := by obtain ⟨m, hm⟩ := h2; exact DataW.trod_lt m _ _ _ hm
  have hb : Rows.uptoBulkAll ([d0, d1, d2] ++ []) ≤ 1048576 := of_decide_eq_true (hcond _ rfl)
  obtain ⟨a0_0, bd0, y0⟩ := arg3 hw (Nat.le_trans (bkAll _ _ (by simp)) hb) (hval 0 3 v0 rfl rfl) h0
  obtain ⟨a1_0, bd1, y1⟩ := arg3 hw (Nat.le_trans (bkAll _ _ (by simp)) hb) (hval 1 3 v1 rfl rfl) h1
  obtain ⟨a2_0, bd2, y2⟩ := arg9 hw (Nat.le_trans (bkAll _ _ (by simp)) hb) (hval 2 9 v2 rfl rfl) h2
  clear hA0 hval0
  refine (walk hw bd0 bd1 bd2 y0 y1 y2).mono fun e W' ⟨he, bel⟩ => ?_
  subst he
  exact ⟨_, rfl, _, _, _, [], _, [], hW', trodAll_mk1 (shut_bool Tryd.underlying4 _), (trodAll_cons_mk (Below.trod laidOut (by kernel_rfl) (of_decide_eq_true (by kernel_rfl)) h0 bel lt0) (trodAll_cons_mk (Below.trod laidOut (by kernel_rfl) (of_decide_eq_true (by kernel_rfl)) h1 bel lt1) (trodAll_cons_mk (Below.trod laidOut (by kernel_rfl) (of_decide_eq_true (by kernel_rfl)) h2 bel lt2) trodAll_mk0))), rfl, bel.frame _, fun h => by cases h⟩
theorem over : Rows.countBackUptoRow.holds Tryd.pinned (Rows.OpenSpec.upto Rows.countBackSpec) :=
  OpenClaim.holds_of_cond 3 Tryd.f3 rfl rfl rfl rfl rfl rfl rfl ⟨rfl, rfl, rfl, rfl, rfl⟩ rfl rfl rfl rfl rfl (by kernel_rfl) Tryd.func3 (by kernel_rfl)
    (of_decide_eq_true (by kernel_rfl)) (by unfold Func.isWrapper; first | (rw [if_pos (by decide +kernel)]; kernel_rfl) | (rw [if_neg (by decide +kernel)]; exact ⟨rfl, rfl⟩))
    (fun os started H enc _ F => by rw [OpenClaim.pre_eq_preRow]; exact lifted os started H enc F)
theorem proved : Rows.CountBackUptoSaid := over

theorem card : Rows.CountBackUptoCardSaid :=
  Claim7.holds_tied_plain_at .later [] [.data, .data, .data, .data, .sentinel, .sentinel, .pinned, .pinned] true (true, "461fc3c560df5cec6c43007308595b35796d59af84feafbfed9dd202d2d56df4") true over (fun _ h => by cases h) (by kernel_rfl) (fun _ h => by cases h) countBackUpto_row_tie rfl ⟨rfl, rfl⟩ (by kernel_rfl) rfl
    (fun f fn hf hfn => by
      obtain rfl : f = 3 := Option.some.inj ((show Tryd.prog.funcNamed "clerestory/clerestorykeep2.CountBack" = some 3 by kernel_rfl).symm.trans hf) |>.symm
      obtain rfl : fn = Tryd.f3 := (Option.some.inj (Tryd.func3.symm.trans hfn)).symm
      exact ⟨by kernel_rfl, fun j t ht => by
        rw [Tryd.params3] at ht
        have hm : t ∈ [3, 3, 9] := by simpa using Array.mem_of_getElem? ht
        have hall : ([3, 3, 9].all fun u => !Tryd.prog.wantsStandIn u) = true := by kernel_rfl
        exact (show Tryd.prog.wantsStandIn t = false by simpa using List.all_eq_true.1 hall t hm)⟩)
    (by kernel_rfl)
end Go.Proofs.YtgoglplnajofnaaDoor.CountBackUptoRow
namespace Go.Proofs.YtgoglplnajofnaaDoor
theorem countBackUpto_card_holds : Rows.CountBackUptoCardSaid := CountBackUptoRow.card
#print axioms countBackUpto_card_holds
end Go.Proofs.YtgoglplnajofnaaDoor
