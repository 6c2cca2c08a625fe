/- VarPlain says true, whatever the input, and the input reads as it did: proved; no condition. -/
import Derived.Test.YtahodlnphioepaaDoorEvRow
import Derived.Test.YtahodlnphioepaaDoorEvSz
import Derived.Test.YtahodlnphioepaaDoorEvVp
import Derived.Test.YtahodlnphioepaaDoorEvVpW
import Derived.Test.YtahodlnphioepaaDoorCards
import Derived.Test.YtahodlnphioepaaDoorTie
set_option linter.unusedVariables false
set_option maxRecDepth 100000
namespace Go.Proofs.YtahodlnphioepaaDoor.VarPlainRow
open Go.ChangeShapes Go.WideShapes Go.ChangeAt Go.RowKit Go.Ev Go.Ev.Vp
open Go.ChangeMaps (open_string shut_string)
theorem own : ownKnob Tryd.prog.godebug = none := by kernel_rfl
theorem laidOut : laidOutB Tryd.prog = true := by kernel_rfl
def rl : List TypeId := [9]
noncomputable def c0 (w0 : World) : Cfg T := cfg w0 noTab
theorem okR0 (w0 : World) : rl.all (okT (c0 w0) (inL rl)) = true := by kernel_rfl
theorem cod_ok {w0 : World} (hw : Wd w0) : CodOk (rc (c0 w0)) := (fine w0 hw noTab (noTab_ok fun _ _ _ => rfl)).cod
def laid : List (String × DataW Unit) := Rows.varPlainRow.laid
theorem wd {W : World} (hL : laidMetH Tryd.prog laid W) (hS : W.ShapedOpen Tryd.prog) : Wd W := by
  have hL' := hL
  rw [MakeChecks.laidMetH_plain _ _ _ (by kernel_rfl)] at hL'
  refine ⟨fun g ds h => ?_, ?_, ?_⟩
  · have h' : gv g = some ds := h
    cases h'
  · obtain ⟨m, hm⟩ := cell_of_shapedOpen_int (g := Sh.ren143.g 1) (zero := #[.int .i64 0]) hS (by decide) (by kernel_rfl) rfl (by kernel_rfl) (by kernel_rfl) Tryd.underlying3
    exact ⟨cell_lt (off := 0) hm, m, hm⟩
  · have h := Go.Lib.laidMet.reads hL' (n := "unicode.asciiFold") (d := Rows.laid_unicode_asciiFold) (by unfold laid Rows.varPlainRow; simp only [List.mem_cons]; repeat (first | exact .inl rfl | exact .inl trivial | apply Or.inr))
    exact tab_reads (k := .u16) (zs := afTab) (g := 2) (t := 168) (e := 167) (n := 128) ((by kernel_rfl : (Rows.laid_unicode_asciiFold : DataW Unit) = Lib.tabData .u16 afTab) ▸ h) (by kernel_rfl) (by kernel_rfl) Tryd.underlying168 Tryd.underlying167 (by kernel_rfl) (by kernel_rfl)
theorem inv9 {w0 : World} {ds : List (D T)} (h : Sh (c0 w0) 9 ds) : ∃ (x0 : List UInt8), ds = ([.s x0] : List (D T)) := by
  obtain ⟨n, rfl, _⟩ := h.str (Tryd.underlying9)
  exact ⟨n, rfl⟩
theorem full (w0 : World) : ∀ t ds, inL rl t = true → (c0 w0).cod.kn t = true → Sh (c0 w0) t ds → ∃ x, (c0 w0).cod.enc t x = ds := by
  intro t ds hin hk h
  have hm := mem_of (l := knl) hk
  simp only [knl, List.mem_cons, List.not_mem_nil, or_false] at hm
  rcases hm with rfl | rfl | rfl | rfl
  · exact absurd hin (by decide)
  · obtain ⟨x0, rfl⟩ := inv9 h
    exact ⟨x0, rfl⟩
  · exact absurd hin (by decide)
  · exact absurd hin (by decide)
theorem arg9 {W : World} {H : Type} {enc : TypeId × Value → H} {base b0 : Nat} {r : Reach} {spare : Nat → Bool} {held : Bool} {v : Value} {d : DataW H} {p : List MemPlace} (hw : Wd W) (hv : Value.okWide Tryd.prog W r b0 9 v) (h : DataW.Trod enc Tryd.prog W base spare held 9 v d p) :
    ∃ (x0 : List UInt8), RV (rc (c0 W)) eta0 W (.d (.s x0)) v := by
  obtain ⟨ds, h1, h2⟩ := open_arg (c := c0 W) (okR_of (okR0 W)) (full W) (cod_ok hw) eta0_ok (t := 9) (by rfl) hv h
  obtain ⟨x0, rfl⟩ := inv9 h1
  refine ⟨x0, ?_⟩
  unfold argVal at h2
  rw [show (c0 W).P.underlying 9 = _ from Tryd.underlying9] at h2
  exact h2
theorem walk {W : World} (hw : Wd W) {v0 v1 v2 : Value} {a0_0 : List UInt8} {a1_0 : List UInt8} {a2_0 : List UInt8} (bd0 : a0_0.length ≤ reachBytes) (bd1 : a1_0.length ≤ reachBytes) (bd2 : a2_0.length ≤ reachBytes) (h0 : RV (rc (c0 W)) eta0 W (.d (.s a0_0)) v0) (h1 : RV (rc (c0 W)) eta0 W (.d (.s a1_0)) v1) (h2 : RV (rc (c0 W)) eta0 W (.d (.s a2_0)) v2) :
    Calls Tryd.prog 6 #[v0, v1, v2] W fun e W' => e = .returned (.bool true) ∧ Below W.heap.size W W' := by
  obtain ⟨k, hk⟩ := Go.Ev.Vp.plain_ex a0_0 a1_0 a2_0 bd0 bd1 bd2
  have hs := clerestorykeep2_VarPlain.sim W hw k (a0_0, a1_0, a2_0) true hk
  refine law_call (c := cfg W (tab38 k)) (xs := [v0, v1, v2]) (.inr rfl) hs ?_
  simp only [io53, RVs]
  exact ⟨_, _, rfl, h0, _, _, rfl, h1, _, _, rfl, h2, rfl⟩
set_option maxRecDepth 100000 in
theorem lifted (os : Os) (started : os.Started) (H : Type) (enc : TypeId × Value → H) :
    ReturnsInHanded {} Tryd.checked os 6 .any (fun w args => (Rows.varPlainSpec.pre enc Tryd.prog Tryd.f6 [] false w args ∧ laidMetH Tryd.prog laid w) ∧ sizedMet enc Tryd.prog Tryd.f6 (OpenSpec.ofChange Rows.varPlainSpec) false w args) (Rows.varPlainSpec.post enc Tryd.prog Tryd.f6 false true false false) := by
  refine returns_sized (C := Tryd.checked) (X := fun w _ => laidMetH Tryd.prog laid w) (fun _ _ _ hh h => h.of_heap hh) own started (by kernel_rfl) Tryd.func6
    (ChangeSpec.witness_shaped (enc := enc) (C := Tryd.checked) (os := os) (X := fun w _ => laidMetH Tryd.prog laid w) false (World.laidAll Tryd.prog os laid) #[.string ByteArray.empty, .string ByteArray.empty, .string ByteArray.empty] 8 (World.laidAll_os _ _ _)
      (World.shaped_of_ZipB (by kernel_rfl) (by kernel_rfl)) (by kernel_rfl) (by kernel_rfl) (by kernel_rfl)
      (by rw [MakeChecks.laidMetH_plain _ _ _ (by kernel_rfl)]; exact laidMet_laidAll _ (by kernel_rfl) (by kernel_rfl))) ?_
  intro W base args ds gs before hval0 hW hL hS hsz
  have hw := wd hL hS
  have hval : ∀ (j : Nat) t v, Tryd.f6.params[j]? = some t → args[j]? = some v → Value.okWide Tryd.prog W .any base t v := hval0
  have hW' := hW
  obtain ⟨p, q, hA0, hV, rfl, hfz, hnd⟩ := hW
  have hA : DataW.TrodAll enc Tryd.prog W 0 (fun _ => true) true Tryd.f6.params.toList args.toList ds p := hA0
  rw [Tryd.params6] at hA hval
  obtain ⟨v0, vs0, d0, ds0, p0, q0, hargs, rfl, rfl, h0, s0⟩ := trodAll_cons hA
  obtain ⟨v1, vs1, d1, ds1, p1, q1, rfl, rfl, rfl, h1, s1⟩ := trodAll_cons s0
  obtain ⟨v2, vs2, d2, ds2, p2, q2, rfl, rfl, rfl, h2, s2⟩ := trodAll_cons s1
  obtain ⟨rfl, rfl, rfl⟩ := trodAll_nil s2
  obtain rfl : args = #[v0, v1, v2] := by cases args; simp_all
  obtain ⟨rfl, rfl⟩ := trodVars_none hV
  have lt0 : ∀ x ∈ p0, x.block < W.heap.size := by obtain ⟨m, hm⟩ := h0; exact DataW.trod_lt m _ _ _ hm
  have lt1 : ∀ x ∈ p1, x.block < W.heap.size := by obtain ⟨m, hm⟩ := h1; exact DataW.trod_lt m _ _ _ hm
  have lt2 : ∀ x ∈ p2, x.block < W.heap.size := by obtain ⟨m, hm⟩ := h2; exact DataW.trod_lt m _ _ _ hm
  obtain ⟨a0_0, y0⟩ := arg9 hw (hval 0 9 v0 rfl rfl) h0
  obtain ⟨a1_0, y1⟩ := arg9 hw (hval 1 9 v1 rfl rfl) h1
  obtain ⟨a2_0, y2⟩ := arg9 hw (hval 2 9 v2 rfl rfl) h2
  rw [Tryd.params6] at hsz
  replace hsz : ((d0.weights Tryd.prog 9 ++ (d1.weights Tryd.prog 9 ++ (d2.weights Tryd.prog 9 ++ _)))).all (· ≤ reachBytes) = true := hsz
  obtain ⟨bd0, hsz⟩ := str_len Tryd.underlying9 h0 y0 hsz
  obtain ⟨bd1, hsz⟩ := str_len Tryd.underlying9 h1 y1 hsz
  obtain ⟨bd2, hsz⟩ := str_len Tryd.underlying9 h2 y2 hsz
  clear hA0 hval0
  refine (walk hw bd0 bd1 bd2 y0 y1 y2).mono fun e W' ⟨he, bel⟩ => ?_
  subst he
  exact ⟨_, rfl, _, _, _, [], _, [], hW', trodAll_mk1 (shut_bool Tryd.underlying4 _), (trodAll_cons_mk (Below.trod laidOut (by kernel_rfl) (of_decide_eq_true (by kernel_rfl)) h0 bel lt0) (trodAll_cons_mk (Below.trod laidOut (by kernel_rfl) (of_decide_eq_true (by kernel_rfl)) h1 bel lt1) (trodAll_cons_mk (Below.trod laidOut (by kernel_rfl) (of_decide_eq_true (by kernel_rfl)) h2 bel lt2) trodAll_mk0))), rfl, bel.frame _, fun h => by cases h⟩
theorem over : Rows.varPlainRow.holds Tryd.pinned (OpenSpec.ofChange Rows.varPlainSpec) :=
  OpenClaim.holds_of_wide 6 Tryd.f6 rfl rfl rfl rfl rfl rfl rfl ⟨rfl, rfl, rfl, rfl, rfl⟩ rfl rfl rfl rfl rfl (by kernel_rfl) Tryd.func6 (by kernel_rfl)
    (of_decide_eq_true (by kernel_rfl)) (by unfold Func.isWrapper; first | (rw [if_pos (by decide +kernel)]; kernel_rfl) | (rw [if_neg (by decide +kernel)]; exact ⟨rfl, rfl⟩))
    (fun os started H enc _ => lifted os started H enc)
theorem proved : Rows.VarPlainSaid := over

theorem card : Rows.VarPlainCardSaid :=
  Claim7.holds_tied_plain_at .later [] [.data, .data, .data, .pinned, .pinned] true (true, "738328bcdb50a25b13282af5bda5539fd67deb5ad6e507dd1bdc4dea5adf778f") false over (fun _ h => by cases h) (by kernel_rfl) (fun _ h => by cases h) varPlain_row_tie rfl ⟨rfl, rfl⟩ (by kernel_rfl) rfl
    (fun f fn hf hfn => by
      obtain rfl : f = 6 := Option.some.inj ((show Tryd.prog.funcNamed "clerestory/clerestorykeep2.VarPlain" = some 6 by kernel_rfl).symm.trans hf) |>.symm
      obtain rfl : fn = Tryd.f6 := (Option.some.inj (Tryd.func6.symm.trans hfn)).symm
      exact ⟨by kernel_rfl, fun j t ht => by
        rw [Tryd.params6] at ht
        have hm : t ∈ [9, 9, 9] := by simpa using Array.mem_of_getElem? ht
        have hall : ([9, 9, 9].all fun u => !Tryd.prog.wantsStandIn u) = true := by kernel_rfl
        exact (show Tryd.prog.wantsStandIn t = false by simpa using List.all_eq_true.1 hall t hm)⟩)
    (by kernel_rfl)
end Go.Proofs.YtahodlnphioepaaDoor.VarPlainRow
namespace Go.Proofs.YtahodlnphioepaaDoor
theorem varPlain_card_holds : Rows.VarPlainCardSaid := VarPlainRow.card
#print axioms varPlain_card_holds
end Go.Proofs.YtahodlnphioepaaDoor
