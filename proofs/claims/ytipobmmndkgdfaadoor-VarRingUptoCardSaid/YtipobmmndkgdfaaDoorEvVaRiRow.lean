/- VarRing says true, whatever the input of a bulk of at most 1048576, and the input reads as it did: proved. Its conditions: that bulk. -/
import Derived.Test.YtipobmmndkgdfaaDoorEvRow
import Derived.Test.YtipobmmndkgdfaaDoorEvUp
import Derived.Test.YtipobmmndkgdfaaDoorEvVaS
import Derived.Test.YtipobmmndkgdfaaDoorEvVaH
import Derived.Test.YtipobmmndkgdfaaDoorCards
import Derived.Test.YtipobmmndkgdfaaDoorTie
import Derived.Deep.DeepHandedRow
set_option linter.unusedVariables false
set_option maxRecDepth 100000
namespace Go.Proofs.YtipobmmndkgdfaaDoor.VarRingUptoRow
open Go.ChangeShapes Go.WideShapes Go.ChangeAt Go.RowKit Go.Ev Go.Ev.Va
open Go.ChangeMaps (open_string shut_string)
theorem own : ownKnob Tryd.prog.godebug = none := by kernel_rfl
theorem laidOut : laidOutB Tryd.prog = true := by kernel_rfl
def rl : List TypeId := [9, 27, 22, 3]
noncomputable def c0 (w0 : World) : Cfg T := cfg w0 noTab
theorem okR0 (w0 : World) : rl.all (okT (c0 w0) (inL rl)) = true := by kernel_rfl
theorem cod_ok {w0 : World} (hw : Wd w0) : CodOk (rc (c0 w0)) := (fine w0 hw noTab (noTab_ok fun _ _ _ => rfl)).cod
theorem bkAll {H : Type} : ∀ (l : List (DataW H)) (d : DataW H), d ∈ l → Rows.uptoBulk d ≤ Rows.uptoBulkAll l
  | [], d, h => by cases h
  | x :: r, d, h => by
    rw [Rows.uptoBulkAll]
    rcases List.mem_cons.1 h with rfl | h
    · omega
    · have := bkAll r d h; omega
theorem one_le {H : Type} (d : DataW H) : 1 ≤ Rows.uptoBulk d := by
  cases d with
  | lit l => cases l <;> simp [Rows.uptoBulk]
  | _ => simp [Rows.uptoBulk]
theorem lenAll {H : Type} : ∀ (l : List (DataW H)), l.length ≤ Rows.uptoBulkAll l
  | [] => Nat.zero_le _
  | x :: r => by
    rw [Rows.uptoBulkAll, List.length_cons]
    have := lenAll r; have := one_le x; omega
theorem bk {H : Type} : Bk (Rows.uptoBulk (H := H)) where
  str s := by simp [Rows.uptoBulk]
  len xs r := by rw [Rows.uptoBulk]; have := lenAll xs; omega
  el xs r x h := by rw [Rows.uptoBulk]; have := bkAll xs x h; omega
  part xs x h := by rw [Rows.uptoBulk]; have := bkAll xs x h; omega
def laid : List (String × DataW Unit) := Rows.varRingUptoRow.laid
theorem wd {W : World} (hL : laidMetH Tryd.prog laid W) (hS : W.ShapedOpen Tryd.prog) : Wd W := by
  have hL' := hL
  rw [MakeChecks.laidMetH_plain _ _ _ (by kernel_rfl)] at hL'
  refine ⟨fun g ds h => ?_, ?_, ?_⟩
  · have h' : gv g = some ds := h
    cases h'
  · obtain ⟨m, hm⟩ := cell_of_shapedOpen_int (g := Sh.ren143.g 1) (zero := #[.int .i64 0]) hS (by decide) (by kernel_rfl) rfl (by kernel_rfl) (by kernel_rfl) Tryd.underlying3
    exact ⟨cell_lt (off := 0) hm, m, hm⟩
  · have h := Go.Lib.laidMet.reads hL' (n := "unicode.asciiFold") (d := Rows.laid_unicode_asciiFold) (by unfold laid Rows.varRingUptoRow; simp only [List.mem_cons]; repeat (first | exact .inl rfl | exact .inl trivial | apply Or.inr))
    exact tab_reads (k := .u16) (zs := afTab) (g := 0) (t := 103) (e := 102) (n := 128) ((by kernel_rfl : (Rows.laid_unicode_asciiFold : DataW Unit) = Lib.tabData .u16 afTab) ▸ h) (by kernel_rfl) (by kernel_rfl) Tryd.underlying103 Tryd.underlying102 (by kernel_rfl) (by kernel_rfl)
theorem sinv9 {w0 : World} {ds : List (D T)} (h : Sh (c0 w0) 9 ds) : ∃ (x0 : List UInt8), ds = ([.s x0] : List (D T)) := by
  obtain ⟨n, rfl, _⟩ := h.str (Tryd.underlying9)
  exact ⟨n, rfl⟩
theorem sinv27 {w0 : World} {ds : List (D T)} (h : Sh (c0 w0) 27 ds) : ∃ (x0 : List UInt8) (x1 : List UInt8), ds = ([.s x0, .s x1] : List (D T)) := by
  obtain ⟨y0, r0, rfl, h0, y1, r1, rfl, h1, rfl⟩ := h.fields (fs := _) (Tryd.underlying27)
  obtain ⟨z0, rfl⟩ := sinv9 h0
  obtain ⟨z1, rfl⟩ := sinv9 h1
  exact ⟨z0, z1, rfl⟩
theorem sinv22 {w0 : World} {ds : List (D T)} (h : Sh (c0 w0) 22 ds) : ∃ (x0 : List S27), ds = ([.l 27 x0] : List (D T)) := by
  obtain ⟨xs, rfl, _, _⟩ := h.slice (Tryd.underlying22)
  exact ⟨xs, rfl⟩
theorem sinv3 {w0 : World} {ds : List (D T)} (h : Sh (c0 w0) 3 ds) : ∃ (x0 : Int), ds = ([.i .i64 x0] : List (D T)) := by
  obtain ⟨n, rfl, _⟩ := h.int (Tryd.underlying3)
  exact ⟨n, rfl⟩
theorem inv9 {w0 : World} {ds : List (D T)} (h : ShN (c0 w0) 1048576 9 ds) : ∃ (x0 : List UInt8), ds = ([.s x0] : List (D T)) ∧ x0.length ≤ 1048576 := by
  obtain ⟨n, rfl, hl⟩ := h.str (Tryd.underlying9)
  exact ⟨n, rfl, hl⟩
theorem inv27 {w0 : World} {ds : List (D T)} (h : ShN (c0 w0) 1048576 27 ds) : ∃ (x0 : List UInt8) (x1 : List UInt8), ds = ([.s x0, .s x1] : List (D T)) ∧ x0.length ≤ 1048576 ∧ x1.length ≤ 1048576 := by
  obtain ⟨y0, r0, rfl, h0, y1, r1, rfl, h1, rfl⟩ := h.fields (fs := _) (Tryd.underlying27)
  obtain ⟨z0, rfl, f0⟩ := inv9 h0
  obtain ⟨z1, rfl, f1⟩ := inv9 h1
  exact ⟨z0, z1, rfl, by simp only [and_assoc, true_and, and_true] at *; simp_all⟩
theorem el27 {w0 : World} (y0 : S27) (h : ShN (c0 w0) 1048576 27 ((c0 w0).cod.enc 27 y0)) : y0.Name.length ≤ 1048576 ∧ y0.Value.length ≤ 1048576 := by
  obtain ⟨x0, x1, he, hf⟩ := inv27 h
  have he' : ([.s y0.Name, .s y0.Value] : List (D T)) = [.s x0, .s x1] := he
  simp only [List.cons.injEq, D.s.injEq, D.i.injEq, D.b.injEq, D.l.injEq, heq_eq_eq, true_and, and_true] at he'
  obtain ⟨rfl, rfl⟩ := he'
  exact hf
theorem inv22 {w0 : World} {ds : List (D T)} (h : ShN (c0 w0) 1048576 22 ds) : ∃ (x0 : List S27), ds = ([.l 27 x0] : List (D T)) ∧ (x0.length ≤ 1048576 ∧ ∀ y0 ∈ x0, y0.Name.length ≤ 1048576 ∧ y0.Value.length ≤ 1048576) := by
  obtain ⟨xs, rfl, hx, hl⟩ := h.slice (Tryd.underlying22)
  exact ⟨xs, rfl, hl, fun y hy => el27 y (hx y hy)⟩
theorem inv3 {w0 : World} {ds : List (D T)} (h : ShN (c0 w0) 1048576 3 ds) : ∃ (x0 : Int), ds = ([.i .i64 x0] : List (D T)) ∧ True := by
  obtain ⟨n, rfl, _⟩ := h.int (Tryd.underlying3)
  exact ⟨n, rfl, trivial⟩
theorem full (w0 : World) : ∀ t ds, inL rl t = true → (c0 w0).cod.kn t = true → Sh (c0 w0) t ds → ∃ x, (c0 w0).cod.enc t x = ds := by
  intro t ds hin hk h
  have hm := mem_of (l := knl) hk
  simp only [knl, List.mem_cons, List.not_mem_nil, or_false] at hm
  rcases hm with rfl | rfl | rfl | rfl | rfl | rfl
  · exact absurd hin (by decide)
  · obtain ⟨x0, rfl⟩ := sinv9 h
    exact ⟨x0, rfl⟩
  · obtain ⟨x0, x1, rfl⟩ := sinv27 h
    exact ⟨(⟨x0, x1⟩ : S27), rfl⟩
  · obtain ⟨x0, rfl⟩ := sinv22 h
    exact ⟨x0, rfl⟩
  · exact absurd hin (by decide)
  · exact absurd hin (by decide)
theorem arg22 {W : World} {H : Type} {enc : TypeId × Value → H} {base b0 : Nat} {r : Reach} {spare : Nat → Bool} {held : Bool} {v : Value} {d : DataW H} {p : List MemPlace} (hw : Wd W) (hb : Rows.uptoBulk d ≤ 1048576) (hv : Value.okWide Tryd.prog W r b0 22 v) (h : DataW.Trod enc Tryd.prog W base spare held 22 v d p) :
    ∃ (x0 : List S27), ((x0.length ≤ 1048576 ∧ ∀ y0 ∈ x0, y0.Name.length ≤ 1048576 ∧ y0.Value.length ≤ 1048576)) ∧ RV (rc (c0 W)) eta0 W (.d (.l 27 x0)) v := by
  obtain ⟨ds, h1, h2⟩ := open_argN (c := c0 W) (N := 1048576) (bulk := Rows.uptoBulk) (okR_of (okR0 W)) (full W) (cod_ok hw) eta0_ok bk (by decide) (t := 22) (by rfl) hv h hb
  obtain ⟨x0, rfl, hf⟩ := inv22 h1
  refine ⟨x0, hf, ?_⟩
  unfold argVal at h2
  rw [show (c0 W).P.underlying 22 = _ from Tryd.underlying22] at h2
  exact h2
theorem arg3 {W : World} {H : Type} {enc : TypeId × Value → H} {base b0 : Nat} {r : Reach} {spare : Nat → Bool} {held : Bool} {v : Value} {d : DataW H} {p : List MemPlace} (hw : Wd W) (hb : Rows.uptoBulk d ≤ 1048576) (hv : Value.okWide Tryd.prog W r b0 3 v) (h : DataW.Trod enc Tryd.prog W base spare held 3 v d p) :
    ∃ (x0 : Int), (True) ∧ RV (rc (c0 W)) eta0 W (.d (.i .i64 x0)) v := by
  obtain ⟨ds, h1, h2⟩ := open_argN (c := c0 W) (N := 1048576) (bulk := Rows.uptoBulk) (okR_of (okR0 W)) (full W) (cod_ok hw) eta0_ok bk (by decide) (t := 3) (by rfl) hv h hb
  obtain ⟨x0, rfl, hf⟩ := inv3 h1
  refine ⟨x0, hf, ?_⟩
  unfold argVal at h2
  rw [show (c0 W).P.underlying 3 = _ from Tryd.underlying3] at h2
  exact h2
theorem walk {W : World} (hw : Wd W) {v0 v1 : Value} {a0_0 : List S27} {a1_0 : Int} (bd0 : (a0_0.length ≤ 1048576 ∧ ∀ y0 ∈ a0_0, y0.Name.length ≤ 1048576 ∧ y0.Value.length ≤ 1048576)) (bd1 : True) (h0 : RV (rc (c0 W)) eta0 W (.d (.l 27 a0_0)) v0) (h1 : RV (rc (c0 W)) eta0 W (.d (.i .i64 a1_0)) v1) :
    Calls Tryd.prog 4 #[v0, v1] W fun e W' => e = .returned (.bool true) ∧ Below W.heap.size W W' := by
  obtain ⟨k, hk⟩ := Go.Ev.Va.ring_ex a0_0 a1_0 bd0 bd1
  have hs := clerestorykeep2_VarRing.sim W hw k (a0_0, a1_0) true hk
  refine law_call (c := cfg W (tab64 k)) (xs := [v0, v1]) (.inr rfl) hs ?_
  simp only [io108, RVs]
  exact ⟨_, _, rfl, h0, _, _, rfl, h1, rfl⟩
theorem reads (os : Os) {H : Type} (enc : TypeId × Value → H) : ∃ places, DataW.whole enc Tryd.prog ((World.laidAll Tryd.prog os laid).forCall (fun _ _ => 0) ⟨#[], #[.slice none 0 0, .int .i64 0], []⟩).memory Tryd.f4.params.toList Rows.varRingSpec.vars false #[.slice none 0 0, .int .i64 0].toList 8 = some ([.nil, .lit (.int .i64 0)], [], places) :=
  ⟨[], by kernel_rfl⟩
set_option maxRecDepth 100000 in
theorem lifted (os : Os) (started : os.Started) (H : Type) (enc : TypeId × Value → H) (F : Stop.Interp) :
    ReturnsInHanded {} Tryd.checked os 4 .any ((Rows.OpenSpec.upto Rows.varRingSpec).preRow enc Tryd.prog Tryd.f4 Rows.varRingUptoRow.domain false Rows.varRingUptoRow.laid) (((Rows.OpenSpec.upto Rows.varRingSpec).at F).post enc Tryd.prog Tryd.f4 false true false false) := by
  obtain ⟨places, hx⟩ := reads os enc
  refine returnsInHanded_of_row (C := Tryd.checked) (s := Rows.OpenSpec.upto Rows.varRingSpec) own started (by kernel_rfl) Tryd.func4
    (witness_upto (enc := enc) (C := Tryd.checked) (os := os) false (World.laidAll Tryd.prog os laid) #[.slice none 0 0, .int .i64 0] (World.laidAll_os _ _ _)
      (World.shaped_of_ZipB (by kernel_rfl) (by kernel_rfl)) (by kernel_rfl)
      (OpenSpec.preRow_of_cond 8 hx (by kernel_rfl) (fun k hk => by cases hk; kernel_rfl) (by kernel_rfl)
        (by rw [MakeChecks.laidMetH_plain _ _ _ (by kernel_rfl)]; exact laidMet_laidAll _ (by kernel_rfl) (by kernel_rfl)))) ?_
  intro W base args ds gs before hval0 hW _ hcond _ hL hS _
  have hw := wd hL hS
  have hval : ∀ (j : Nat) t v, Tryd.f4.params[j]? = some t → args[j]? = some v → Value.okWide Tryd.prog W .any base t v := hval0
  have hW' := hW
  obtain ⟨p, q, hA0, hV, rfl, hfz, hnd⟩ := hW
  have hA : DataW.TrodAll enc Tryd.prog W 0 (fun _ => true) true Tryd.f4.params.toList args.toList ds p := hA0
  rw [Tryd.params4] at hA hval
  obtain ⟨v0, vs0, d0, ds0, p0, q0, hargs, rfl, rfl, h0, s0⟩ := trodAll_cons hA
  obtain ⟨v1, vs1, d1, ds1, p1, q1, rfl, rfl, rfl, h1, s1⟩ := trodAll_cons s0
  obtain ⟨rfl, rfl, rfl⟩ := trodAll_nil s1
  obtain rfl : args = #[v0, v1] := by cases args; simp_all
  obtain ⟨rfl, rfl⟩ := trodVars_none hV
  have lt0 : ∀ x ∈ p0, x.block < W.heap.size := by obtain ⟨m, hm⟩ := h0; exact DataW.trod_lt m _ _ _ hm
  have lt1 : ∀ x ∈ p1, x.block < W.heap.size := by obtain ⟨m, hm⟩ := h1; exact DataW.trod_lt m _ _ _ hm
  have hb : Rows.uptoBulkAll ([d0, d1] ++ []) ≤ 1048576 := of_decide_eq_true (hcond _ rfl)
  obtain ⟨a0_0, bd0, y0⟩ := arg22 hw (Nat.le_trans (bkAll _ _ (by simp)) hb) (hval 0 22 v0 rfl rfl) h0
  obtain ⟨a1_0, bd1, y1⟩ := arg3 hw (Nat.le_trans (bkAll _ _ (by simp)) hb) (hval 1 3 v1 rfl rfl) h1
  clear hA0 hval0
  refine (walk hw bd0 bd1 y0 y1).mono fun e W' ⟨he, bel⟩ => ?_
  subst he
  exact ⟨_, rfl, _, _, _, [], _, [], hW', trodAll_mk1 (shut_bool Tryd.underlying4 _), (trodAll_cons_mk (Below.trod laidOut (by kernel_rfl) (of_decide_eq_true (by kernel_rfl)) h0 bel lt0) (trodAll_cons_mk (Below.trod laidOut (by kernel_rfl) (of_decide_eq_true (by kernel_rfl)) h1 bel lt1) trodAll_mk0)), rfl, bel.frame _, fun h => by cases h⟩
theorem over : Rows.varRingUptoRow.holds Tryd.pinned (Rows.OpenSpec.upto Rows.varRingSpec) :=
  OpenClaim.holds_of_cond 4 Tryd.f4 rfl rfl rfl rfl rfl rfl rfl ⟨rfl, rfl, rfl, rfl, rfl⟩ rfl rfl rfl rfl rfl (by kernel_rfl) Tryd.func4 (by kernel_rfl)
    (of_decide_eq_true (by kernel_rfl)) (by unfold Func.isWrapper; first | (rw [if_pos (by decide +kernel)]; kernel_rfl) | (rw [if_neg (by decide +kernel)]; exact ⟨rfl, rfl⟩))
    (fun os started H enc _ F => by rw [OpenClaim.pre_eq_preRow]; exact lifted os started H enc F)
theorem proved : Rows.VarRingUptoSaid := over

theorem card : Rows.VarRingUptoCardSaid :=
  Claim7.holds_tied_plain_at .later [] [.data, .data, .data, .pinned, .pinned] true (true, "4c60918c8002ec7a909d6d9982a0ccd7d6da959eb754bda69e28b6ac4024af56") false over (fun _ h => by cases h) (by kernel_rfl) (fun _ h => by cases h) varRingUpto_row_tie rfl ⟨rfl, rfl⟩ (by kernel_rfl) rfl
    (fun f fn hf hfn => by
      obtain rfl : f = 4 := Option.some.inj ((show Tryd.prog.funcNamed "clerestory/clerestorykeep2.VarRing" = some 4 by kernel_rfl).symm.trans hf) |>.symm
      obtain rfl : fn = Tryd.f4 := (Option.some.inj (Tryd.func4.symm.trans hfn)).symm
      exact ⟨by kernel_rfl, fun j t ht => by
        rw [Tryd.params4] at ht
        have hm : t ∈ [22, 3] := by simpa using Array.mem_of_getElem? ht
        have hall : ([22, 3].all fun u => !Tryd.prog.wantsStandIn u) = true := by kernel_rfl
        exact (show Tryd.prog.wantsStandIn t = false by simpa using List.all_eq_true.1 hall t hm)⟩)
    (by kernel_rfl)
end Go.Proofs.YtipobmmndkgdfaaDoor.VarRingUptoRow
namespace Go.Proofs.YtipobmmndkgdfaaDoor
theorem varRingUpto_card_holds : Rows.VarRingUptoCardSaid := VarRingUptoRow.card
#print axioms varRingUpto_card_holds
end Go.Proofs.YtipobmmndkgdfaaDoor
