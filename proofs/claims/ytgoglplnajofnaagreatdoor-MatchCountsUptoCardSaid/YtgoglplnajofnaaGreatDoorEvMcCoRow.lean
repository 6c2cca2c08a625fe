/- MatchCounts says true, whatever the input of a bulk of at most 1048576, and the input reads as it did: proved. Its conditions: that bulk. -/
import Derived.Test.YtgoglplnajofnaaGreatDoorEvRow
import Derived.Test.YtgoglplnajofnaaGreatDoorEvUp
import Derived.Test.YtgoglplnajofnaaGreatDoorEvMcS
import Derived.Test.YtgoglplnajofnaaGreatDoorEvMcC
import Derived.Test.YtgoglplnajofnaaGreatDoorCards
import Derived.Test.YtgoglplnajofnaaGreatDoorTie
import Derived.Deep.DeepHandedRow
set_option linter.unusedVariables false
set_option maxRecDepth 100000
namespace Go.Proofs.YtgoglplnajofnaaGreatDoor.MatchCountsUptoRow
open Go.ChangeShapes Go.WideShapes Go.ChangeAt Go.RowKit Go.Ev Go.Ev.Mc
open Go.ChangeMaps (open_string shut_string)
theorem own : ownKnob Tryz.prog.godebug = none := by kernel_rfl
theorem laidOut : laidOutB Tryz.prog = true := by kernel_rfl
def rl : List TypeId := [3, 9, 89, 28, 29, 31, 22, 4, 24]
noncomputable def c0 (w0 : World) : Cfg T := cfg w0 noTab
theorem okR0 (w0 : World) : rl.all (okT (c0 w0) (inL rl)) = true := by kernel_rfl
theorem cod_ok {w0 : World} (hw : Wd w0) : CodOk (rc (c0 w0)) := (fine w0 hw noTab (noTab_ok fun _ _ _ => rfl)).cod
theorem bkAll {H : Type} : ∀ (l : List (DataW H)) (d : DataW H), d ∈ l → Rows.uptoBulk d ≤ Rows.uptoBulkAll l
  | [], d, h => by cases h
  | x :: r, d, h => by
    rw [Rows.uptoBulkAll]
    rcases List.mem_cons.1 h with rfl | h
    · omega
    · have := bkAll r d h; omega
theorem one_le {H : Type} (d : DataW H) : 1 ≤ Rows.uptoBulk d := by
  cases d with
  | lit l => cases l <;> simp [Rows.uptoBulk]
  | _ => simp [Rows.uptoBulk]
theorem lenAll {H : Type} : ∀ (l : List (DataW H)), l.length ≤ Rows.uptoBulkAll l
  | [] => Nat.zero_le _
  | x :: r => by
    rw [Rows.uptoBulkAll, List.length_cons]
    have := lenAll r; have := one_le x; omega
theorem bk {H : Type} : Bk (Rows.uptoBulk (H := H)) where
  str s := by simp [Rows.uptoBulk]
  len xs r := by rw [Rows.uptoBulk]; have := lenAll xs; omega
  el xs r x h := by rw [Rows.uptoBulk]; have := bkAll xs x h; omega
  part xs x h := by rw [Rows.uptoBulk]; have := bkAll xs x h; omega
def laid : List (String × DataW Unit) := Rows.matchCountsUptoRow.laid
theorem wd {W : World} (hL : laidMetH Tryz.prog laid W) (hS : W.ShapedOpen Tryz.prog) : Wd W := by
  have hL' := hL
  rw [MakeChecks.laidMetH_plain _ _ _ (by kernel_rfl)] at hL'
  refine ⟨fun g ds h => ?_, ?_, ?_, ?_⟩
  · have h' : gv g = some ds := h
    cases h'
  · obtain ⟨m, hm⟩ := cell_of_shapedOpen_int (g := Sh.ren143.g 1) (zero := #[.int .i64 0]) hS (by decide) (by kernel_rfl) rfl (by kernel_rfl) (by kernel_rfl) Tryz.underlying3
    exact ⟨cell_lt (off := 0) hm, m, hm⟩
  · exact ifat_reads (name := "strconv.ErrSyntax") (Go.Lib.laidMet.reads hL' (by unfold laid Rows.matchCountsUptoRow; simp only [List.mem_cons]; repeat (first | exact .inl rfl | exact .inl trivial | apply Or.inr))) (by kernel_rfl) (by kernel_rfl) Tryz.underlying141
  · exact ifat_reads (name := "strconv.ErrRange") (Go.Lib.laidMet.reads hL' (by unfold laid Rows.matchCountsUptoRow; simp only [List.mem_cons]; repeat (first | exact .inl rfl | exact .inl trivial | apply Or.inr))) (by kernel_rfl) (by kernel_rfl) Tryz.underlying141
theorem sinv3 {w0 : World} {ds : List (D T)} (h : Sh (c0 w0) 3 ds) : ∃ (x0 : Int), ds = ([.i .i64 x0] : List (D T)) := by
  obtain ⟨n, rfl, _⟩ := h.int (Tryz.underlying3)
  exact ⟨n, rfl⟩
theorem sinv9 {w0 : World} {ds : List (D T)} (h : Sh (c0 w0) 9 ds) : ∃ (x0 : List UInt8), ds = ([.s x0] : List (D T)) := by
  obtain ⟨n, rfl, _⟩ := h.str (Tryz.underlying9)
  exact ⟨n, rfl⟩
theorem sinv89 {w0 : World} {ds : List (D T)} (h : Sh (c0 w0) 89 ds) : ∃ (x0 : List UInt8) (x1 : List UInt8), ds = ([.s x0, .s x1] : List (D T)) := by
  obtain ⟨y0, r0, rfl, h0, y1, r1, rfl, h1, rfl⟩ := h.fields (fs := _) (Tryz.underlying89)
  obtain ⟨z0, rfl⟩ := sinv9 h0
  obtain ⟨z1, rfl⟩ := sinv9 h1
  exact ⟨z0, z1, rfl⟩
theorem sinv28 {w0 : World} {ds : List (D T)} (h : Sh (c0 w0) 28 ds) : ∃ (x0 : List S89), ds = ([.l 89 x0] : List (D T)) := by
  obtain ⟨xs, rfl, _, _⟩ := h.slice (Tryz.underlying28)
  exact ⟨xs, rfl⟩
theorem sinv29 {w0 : World} {ds : List (D T)} (h : Sh (c0 w0) 29 ds) : ∃ (x0 : List Int), ds = ([.l 3 x0] : List (D T)) := by
  obtain ⟨xs, rfl, _, _⟩ := h.slice (Tryz.underlying29)
  exact ⟨xs, rfl⟩
theorem sinv31 {w0 : World} {ds : List (D T)} (h : Sh (c0 w0) 31 ds) : ∃ (x0 : Int) (x1 : List UInt8) (x2 : List S89) (x3 : List UInt8) (x4 : Int) (x5 : List Int), ds = ([.i .i64 x0, .s x1, .l 89 x2, .s x3, .i .i64 x4, .l 3 x5] : List (D T)) := by
  obtain ⟨y0, r0, rfl, h0, y1, r1, rfl, h1, y2, r2, rfl, h2, y3, r3, rfl, h3, y4, r4, rfl, h4, y5, r5, rfl, h5, rfl⟩ := h.fields (fs := _) (Tryz.underlying31)
  obtain ⟨z0, rfl⟩ := sinv3 h0
  obtain ⟨z1, rfl⟩ := sinv9 h1
  obtain ⟨z2, rfl⟩ := sinv28 h2
  obtain ⟨z3, rfl⟩ := sinv9 h3
  obtain ⟨z4, rfl⟩ := sinv3 h4
  obtain ⟨z5, rfl⟩ := sinv29 h5
  exact ⟨z0, z1, z2, z3, z4, z5, rfl⟩
theorem sinv22 {w0 : World} {ds : List (D T)} (h : Sh (c0 w0) 22 ds) : ∃ (x0 : List S31), ds = ([.l 31 x0] : List (D T)) := by
  obtain ⟨xs, rfl, _, _⟩ := h.slice (Tryz.underlying22)
  exact ⟨xs, rfl⟩
theorem sinv4 {w0 : World} {ds : List (D T)} (h : Sh (c0 w0) 4 ds) : ∃ (x0 : Bool), ds = ([.b x0] : List (D T)) := h.bool (Tryz.underlying4)
theorem sinv24 {w0 : World} {ds : List (D T)} (h : Sh (c0 w0) 24 ds) : ∃ (x0 : List S31) (x1 : Bool), ds = ([.l 31 x0, .b x1] : List (D T)) := by
  obtain ⟨y0, r0, rfl, h0, y1, r1, rfl, h1, rfl⟩ := h.fields (fs := _) (Tryz.underlying24)
  obtain ⟨z0, rfl⟩ := sinv22 h0
  obtain ⟨z1, rfl⟩ := sinv4 h1
  exact ⟨z0, z1, rfl⟩
theorem inv3 {w0 : World} {ds : List (D T)} (h : ShN (c0 w0) 1048576 3 ds) : ∃ (x0 : Int), ds = ([.i .i64 x0] : List (D T)) ∧ True := by
  obtain ⟨n, rfl, _⟩ := h.int (Tryz.underlying3)
  exact ⟨n, rfl, trivial⟩
theorem el3 {w0 : World} (y0 : Int) (h : ShN (c0 w0) 1048576 3 ((c0 w0).cod.enc 3 y0)) : True := by
  obtain ⟨x0, he, hf⟩ := inv3 h
  have he' : ([.i .i64 y0] : List (D T)) = [.i .i64 x0] := he
  simp only [List.cons.injEq, D.s.injEq, D.i.injEq, D.b.injEq, D.l.injEq, heq_eq_eq, true_and, and_true] at he'
  cases he'
  exact hf
theorem inv9 {w0 : World} {ds : List (D T)} (h : ShN (c0 w0) 1048576 9 ds) : ∃ (x0 : List UInt8), ds = ([.s x0] : List (D T)) ∧ x0.length ≤ 1048576 := by
  obtain ⟨n, rfl, hl⟩ := h.str (Tryz.underlying9)
  exact ⟨n, rfl, hl⟩
theorem inv89 {w0 : World} {ds : List (D T)} (h : ShN (c0 w0) 1048576 89 ds) : ∃ (x0 : List UInt8) (x1 : List UInt8), ds = ([.s x0, .s x1] : List (D T)) ∧ x0.length ≤ 1048576 ∧ x1.length ≤ 1048576 := by
  obtain ⟨y0, r0, rfl, h0, y1, r1, rfl, h1, rfl⟩ := h.fields (fs := _) (Tryz.underlying89)
  obtain ⟨z0, rfl, f0⟩ := inv9 h0
  obtain ⟨z1, rfl, f1⟩ := inv9 h1
  exact ⟨z0, z1, rfl, ⟨f0, f1⟩⟩
theorem el89 {w0 : World} (y0 : S89) (h : ShN (c0 w0) 1048576 89 ((c0 w0).cod.enc 89 y0)) : y0.Name.length ≤ 1048576 ∧ y0.Value.length ≤ 1048576 := by
  obtain ⟨x0, x1, he, hf⟩ := inv89 h
  have he' : ([.s y0.Name, .s y0.Value] : List (D T)) = [.s x0, .s x1] := he
  simp only [List.cons.injEq, D.s.injEq, D.i.injEq, D.b.injEq, D.l.injEq, heq_eq_eq, true_and, and_true] at he'
  obtain ⟨e0, e1⟩ := he'
  cases e0
  cases e1
  exact hf
theorem inv28 {w0 : World} {ds : List (D T)} (h : ShN (c0 w0) 1048576 28 ds) : ∃ (x0 : List S89), ds = ([.l 89 x0] : List (D T)) ∧ (x0.length ≤ 1048576 ∧ ∀ y0 ∈ x0, y0.Name.length ≤ 1048576 ∧ y0.Value.length ≤ 1048576) := by
  obtain ⟨xs, rfl, hx, hl⟩ := h.slice (Tryz.underlying28)
  exact ⟨xs, rfl, hl, fun y hy => el89 y (hx y hy)⟩
theorem inv29 {w0 : World} {ds : List (D T)} (h : ShN (c0 w0) 1048576 29 ds) : ∃ (x0 : List Int), ds = ([.l 3 x0] : List (D T)) ∧ (x0.length ≤ 1048576 ∧ ∀ y0 ∈ x0, True) := by
  obtain ⟨xs, rfl, hx, hl⟩ := h.slice (Tryz.underlying29)
  exact ⟨xs, rfl, hl, fun y hy => el3 y (hx y hy)⟩
theorem inv31 {w0 : World} {ds : List (D T)} (h : ShN (c0 w0) 1048576 31 ds) : ∃ (x0 : Int) (x1 : List UInt8) (x2 : List S89) (x3 : List UInt8) (x4 : Int) (x5 : List Int), ds = ([.i .i64 x0, .s x1, .l 89 x2, .s x3, .i .i64 x4, .l 3 x5] : List (D T)) ∧ x1.length ≤ 1048576 ∧ (x2.length ≤ 1048576 ∧ ∀ y0 ∈ x2, y0.Name.length ≤ 1048576 ∧ y0.Value.length ≤ 1048576) ∧ x3.length ≤ 1048576 ∧ (x5.length ≤ 1048576 ∧ ∀ y0 ∈ x5, True) := by
  obtain ⟨y0, r0, rfl, h0, y1, r1, rfl, h1, y2, r2, rfl, h2, y3, r3, rfl, h3, y4, r4, rfl, h4, y5, r5, rfl, h5, rfl⟩ := h.fields (fs := _) (Tryz.underlying31)
  obtain ⟨z0, rfl, f0⟩ := inv3 h0
  obtain ⟨z1, rfl, f1⟩ := inv9 h1
  obtain ⟨z2, rfl, f2⟩ := inv28 h2
  obtain ⟨z3, rfl, f3⟩ := inv9 h3
  obtain ⟨z4, rfl, f4⟩ := inv3 h4
  obtain ⟨z5, rfl, f5⟩ := inv29 h5
  exact ⟨z0, z1, z2, z3, z4, z5, rfl, ⟨f1, f2, f3, f5⟩⟩
theorem el31 {w0 : World} (y0 : S31) (h : ShN (c0 w0) 1048576 31 ((c0 w0).cod.enc 31 y0)) : y0.Name.length ≤ 1048576 ∧ (y0.Attrs.length ≤ 1048576 ∧ ∀ y1 ∈ y0.Attrs, y1.Name.length ≤ 1048576 ∧ y1.Value.length ≤ 1048576) ∧ y0.Text.length ≤ 1048576 ∧ (y0.Kids.length ≤ 1048576 ∧ ∀ y1 ∈ y0.Kids, True) := by
  obtain ⟨x0, x1, x2, x3, x4, x5, he, hf⟩ := inv31 h
  have he' : ([.i .i64 y0.Kind, .s y0.Name, .l 89 y0.Attrs, .s y0.Text, .i .i64 y0.Parent, .l 3 y0.Kids] : List (D T)) = [.i .i64 x0, .s x1, .l 89 x2, .s x3, .i .i64 x4, .l 3 x5] := he
  simp only [List.cons.injEq, D.s.injEq, D.i.injEq, D.b.injEq, D.l.injEq, heq_eq_eq, true_and, and_true] at he'
  obtain ⟨e0, e1, e2, e3, e4, e5⟩ := he'
  cases e0
  cases e1
  cases e2
  cases e3
  cases e4
  cases e5
  exact hf
theorem inv22 {w0 : World} {ds : List (D T)} (h : ShN (c0 w0) 1048576 22 ds) : ∃ (x0 : List S31), ds = ([.l 31 x0] : List (D T)) ∧ (x0.length ≤ 1048576 ∧ ∀ y0 ∈ x0, y0.Name.length ≤ 1048576 ∧ (y0.Attrs.length ≤ 1048576 ∧ ∀ y1 ∈ y0.Attrs, y1.Name.length ≤ 1048576 ∧ y1.Value.length ≤ 1048576) ∧ y0.Text.length ≤ 1048576 ∧ (y0.Kids.length ≤ 1048576 ∧ ∀ y1 ∈ y0.Kids, True)) := by
  obtain ⟨xs, rfl, hx, hl⟩ := h.slice (Tryz.underlying22)
  exact ⟨xs, rfl, hl, fun y hy => el31 y (hx y hy)⟩
theorem inv4 {w0 : World} {ds : List (D T)} (h : ShN (c0 w0) 1048576 4 ds) : ∃ (x0 : Bool), ds = ([.b x0] : List (D T)) ∧ True := by
  obtain ⟨n, rfl⟩ := h.bool (Tryz.underlying4)
  exact ⟨n, rfl, trivial⟩
theorem inv24 {w0 : World} {ds : List (D T)} (h : ShN (c0 w0) 1048576 24 ds) : ∃ (x0 : List S31) (x1 : Bool), ds = ([.l 31 x0, .b x1] : List (D T)) ∧ (x0.length ≤ 1048576 ∧ ∀ y0 ∈ x0, y0.Name.length ≤ 1048576 ∧ (y0.Attrs.length ≤ 1048576 ∧ ∀ y1 ∈ y0.Attrs, y1.Name.length ≤ 1048576 ∧ y1.Value.length ≤ 1048576) ∧ y0.Text.length ≤ 1048576 ∧ (y0.Kids.length ≤ 1048576 ∧ ∀ y1 ∈ y0.Kids, True)) := by
  obtain ⟨y0, r0, rfl, h0, y1, r1, rfl, h1, rfl⟩ := h.fields (fs := _) (Tryz.underlying24)
  obtain ⟨z0, rfl, f0⟩ := inv22 h0
  obtain ⟨z1, rfl, f1⟩ := inv4 h1
  exact ⟨z0, z1, rfl, f0⟩
theorem full (w0 : World) : ∀ t ds, inL rl t = true → (c0 w0).cod.kn t = true → Sh (c0 w0) t ds → ∃ x, (c0 w0).cod.enc t x = ds := by
  intro t ds hin hk h
  have hm := mem_of (l := knl) hk
  simp only [knl, List.mem_cons, List.not_mem_nil, or_false] at hm
  rcases hm with rfl | rfl | rfl | rfl | rfl | rfl | rfl | rfl | rfl | rfl
  · obtain ⟨x0, rfl⟩ := sinv3 h
    exact ⟨x0, rfl⟩
  · obtain ⟨x0, rfl⟩ := sinv4 h
    exact ⟨x0, rfl⟩
  · exact absurd hin (by decide)
  · obtain ⟨x0, rfl⟩ := sinv9 h
    exact ⟨x0, rfl⟩
  · obtain ⟨x0, x1, rfl⟩ := sinv89 h
    exact ⟨(⟨x0, x1⟩ : S89), rfl⟩
  · obtain ⟨x0, x1, x2, x3, x4, x5, rfl⟩ := sinv31 h
    exact ⟨(⟨x0, x1, x2, x3, x4, x5⟩ : S31), rfl⟩
  · exact absurd hin (by decide)
  · exact absurd hin (by decide)
  · exact absurd hin (by decide)
  · exact absurd hin (by decide)
theorem arg24 {W : World} {H : Type} {enc : TypeId × Value → H} {base b0 : Nat} {r : Reach} {spare : Nat → Bool} {held : Bool} {v : Value} {d : DataW H} {p : List MemPlace} (hw : Wd W) (hb : Rows.uptoBulk d ≤ 1048576) (hv : Value.okWide Tryz.prog W r b0 24 v) (h : DataW.Trod enc Tryz.prog W base spare held 24 v d p) :
    ∃ (x0 : List S31) (x1 : Bool), ((x0.length ≤ 1048576 ∧ ∀ y0 ∈ x0, y0.Name.length ≤ 1048576 ∧ (y0.Attrs.length ≤ 1048576 ∧ ∀ y1 ∈ y0.Attrs, y1.Name.length ≤ 1048576 ∧ y1.Value.length ≤ 1048576) ∧ y0.Text.length ≤ 1048576 ∧ (y0.Kids.length ≤ 1048576 ∧ ∀ y1 ∈ y0.Kids, True))) ∧ RV (rc (c0 W)) eta0 W (.agg [.d (.l 31 x0), .d (.b x1)]) v := by
  obtain ⟨ds, h1, h2⟩ := open_argN (c := c0 W) (N := 1048576) (bulk := Rows.uptoBulk) (okR_of (okR0 W)) (full W) (cod_ok hw) eta0_ok bk (by decide) (t := 24) (by rfl) hv h hb
  obtain ⟨x0, x1, rfl, hf⟩ := inv24 h1
  refine ⟨x0, x1, hf, ?_⟩
  unfold argVal at h2
  rw [show (c0 W).P.underlying 24 = _ from Tryz.underlying24] at h2
  exact h2
theorem arg3 {W : World} {H : Type} {enc : TypeId × Value → H} {base b0 : Nat} {r : Reach} {spare : Nat → Bool} {held : Bool} {v : Value} {d : DataW H} {p : List MemPlace} (hw : Wd W) (hb : Rows.uptoBulk d ≤ 1048576) (hv : Value.okWide Tryz.prog W r b0 3 v) (h : DataW.Trod enc Tryz.prog W base spare held 3 v d p) :
    ∃ (x0 : Int), (True) ∧ RV (rc (c0 W)) eta0 W (.d (.i .i64 x0)) v := by
  obtain ⟨ds, h1, h2⟩ := open_argN (c := c0 W) (N := 1048576) (bulk := Rows.uptoBulk) (okR_of (okR0 W)) (full W) (cod_ok hw) eta0_ok bk (by decide) (t := 3) (by rfl) hv h hb
  obtain ⟨x0, rfl, hf⟩ := inv3 h1
  refine ⟨x0, hf, ?_⟩
  unfold argVal at h2
  rw [show (c0 W).P.underlying 3 = _ from Tryz.underlying3] at h2
  exact h2
theorem walk {W : World} (hw : Wd W) {v0 v1 : Value} {a0_0 : List S31} {a0_1 : Bool} {a1_0 : Int} (bd0 : (a0_0.length ≤ 1048576 ∧ ∀ y0 ∈ a0_0, y0.Name.length ≤ 1048576 ∧ (y0.Attrs.length ≤ 1048576 ∧ ∀ y1 ∈ y0.Attrs, y1.Name.length ≤ 1048576 ∧ y1.Value.length ≤ 1048576) ∧ y0.Text.length ≤ 1048576 ∧ (y0.Kids.length ≤ 1048576 ∧ ∀ y1 ∈ y0.Kids, True))) (bd1 : True) (h0 : RV (rc (c0 W)) eta0 W (.agg [.d (.l 31 a0_0), .d (.b a0_1)]) v0) (h1 : RV (rc (c0 W)) eta0 W (.d (.i .i64 a1_0)) v1) :
    Calls Tryz.prog 3 #[v0, v1] W fun e W' => e = .returned (.bool true) ∧ Below W.heap.size W W' := by
  obtain ⟨k, hk⟩ := Go.Ev.Mc.law_ex a0_0 a0_1 a1_0 bd0 bd1
  have hs := clerestorykeep2_MatchCounts.sim W hw k (a0_0, a0_1, a1_0) true hk
  refine law_call (c := cfg W (tab85 k)) (xs := [v0, v1]) (.inr rfl) hs ?_
  simp only [io98, RVs]
  exact ⟨_, _, rfl, h0, _, _, rfl, h1, rfl⟩
theorem reads (os : Os) {H : Type} (enc : TypeId × Value → H) : ∃ places, DataW.whole enc Tryz.prog ((World.laidAll Tryz.prog os laid).forCall (fun _ _ => 0) ⟨#[], #[.agg #[.slice none 0 0, .bool false], .int .i64 0], []⟩).memory Tryz.f3.params.toList Rows.matchCountsSpec.vars false #[.agg #[.slice none 0 0, .bool false], .int .i64 0].toList 8 = some ([.agg [.nil, .lit (.bool false)], .lit (.int .i64 0)], [], places) :=
  ⟨[], by kernel_rfl⟩
set_option maxRecDepth 100000 in
theorem lifted (os : Os) (started : os.Started) (H : Type) (enc : TypeId × Value → H) (F : Stop.Interp) :
    ReturnsInHanded {} Tryz.checked os 3 .any ((Rows.OpenSpec.upto Rows.matchCountsSpec).preRow enc Tryz.prog Tryz.f3 Rows.matchCountsUptoRow.domain false Rows.matchCountsUptoRow.laid) (((Rows.OpenSpec.upto Rows.matchCountsSpec).at F).post enc Tryz.prog Tryz.f3 false true false false) := by
  obtain ⟨places, hx⟩ := reads os enc
  refine returnsInHanded_of_row (C := Tryz.checked) (s := Rows.OpenSpec.upto Rows.matchCountsSpec) own started (by kernel_rfl) Tryz.func3
    (witness_upto (enc := enc) (C := Tryz.checked) (os := os) false (World.laidAll Tryz.prog os laid) #[.agg #[.slice none 0 0, .bool false], .int .i64 0] (World.laidAll_os _ _ _)
      (World.shaped_of_ZipB (by kernel_rfl) (by kernel_rfl)) (by kernel_rfl)
      (OpenSpec.preRow_of_cond 8 hx (by kernel_rfl) (fun k hk => by cases hk; kernel_rfl) (by kernel_rfl)
        (by rw [MakeChecks.laidMetH_plain _ _ _ (by kernel_rfl)]; exact laidMet_laidAll _ (by kernel_rfl) (by kernel_rfl)))) ?_
  intro W base args ds gs before hval0 hW _ hcond _ hL hS _
  have hw := wd hL hS
  have hval : ∀ (j : Nat) t v, Tryz.f3.params[j]? = some t → args[j]? = some v → Value.okWide Tryz.prog W .any base t v := hval0
  have hW' := hW
  obtain ⟨p, q, hA0, hV, rfl, hfz, hnd⟩ := hW
  have hA : DataW.TrodAll enc Tryz.prog W 0 (fun _ => true) true Tryz.f3.params.toList args.toList ds p := hA0
  rw [Tryz.params3] at hA hval
  obtain ⟨v0, vs0, d0, ds0, p0, q0, hargs, rfl, rfl, h0, s0⟩ := trodAll_cons hA
  obtain ⟨v1, vs1, d1, ds1, p1, q1, rfl, rfl, rfl, h1, s1⟩ := trodAll_cons s0
  obtain ⟨rfl, rfl, rfl⟩ := trodAll_nil s1
  obtain rfl : args = #[v0, v1] := by cases args; simp_all
  obtain ⟨rfl, rfl⟩ := trodVars_none hV
  have lt0 : ∀ x ∈ p0, x.block < W.heap.size := by obtain ⟨m, hm⟩ := h0; exact DataW.trod_lt m _ _ _ hm
  have lt1 : ∀ x ∈ p1, x.block < W.heap.size := by obtain ⟨m, hm⟩ := h1; exact DataW.trod_lt m _ _ _ hm
  have hb : Rows.uptoBulkAll ([d0, d1] ++ []) ≤ 1048576 := of_decide_eq_true (hcond _ rfl)
  obtain ⟨a0_0, a0_1, bd0, y0⟩ := arg24 hw (Nat.le_trans (bkAll _ _ (by simp)) hb) (hval 0 24 v0 rfl rfl) h0
  obtain ⟨a1_0, bd1, y1⟩ := arg3 hw (Nat.le_trans (bkAll _ _ (by simp)) hb) (hval 1 3 v1 rfl rfl) h1
  clear hA0 hval0
  refine (walk hw bd0 bd1 y0 y1).mono fun e W' ⟨he, bel⟩ => ?_
  subst he
  exact ⟨_, rfl, _, _, _, [], _, [], hW', trodAll_mk1 (shut_bool Tryz.underlying4 _), (trodAll_cons_mk (Below.trod laidOut (by kernel_rfl) (of_decide_eq_true (by kernel_rfl)) h0 bel lt0) (trodAll_cons_mk (Below.trod laidOut (by kernel_rfl) (of_decide_eq_true (by kernel_rfl)) h1 bel lt1) trodAll_mk0)), rfl, bel.frame _, fun h => by cases h⟩
theorem over : Rows.matchCountsUptoRow.holds Tryz.pinned (Rows.OpenSpec.upto Rows.matchCountsSpec) :=
  OpenClaim.holds_of_cond 3 Tryz.f3 rfl rfl rfl rfl rfl rfl rfl ⟨rfl, rfl, rfl, rfl, rfl⟩ rfl rfl rfl rfl rfl (by kernel_rfl) Tryz.func3 (by kernel_rfl)
    (of_decide_eq_true (by kernel_rfl)) (by unfold Func.isWrapper; first | (rw [if_pos (by decide +kernel)]; kernel_rfl) | (rw [if_neg (by decide +kernel)]; exact ⟨rfl, rfl⟩))
    (fun os started H enc _ F => by rw [OpenClaim.pre_eq_preRow]; exact lifted os started H enc F)
theorem proved : Rows.MatchCountsUptoSaid := over

theorem card : Rows.MatchCountsUptoCardSaid :=
  Claim7.holds_tied_plain_at .later [] [.data, .data, .data, .data, .sentinel, .sentinel, .pinned] true (true, "dba355073bc695b14aef166ef9ecfd425784e7afc7ba95e5ba02c67ec0e296c0") true over (fun _ h => by cases h) (by kernel_rfl) (fun _ h => by cases h) matchCountsUpto_row_tie rfl ⟨rfl, rfl⟩ (by kernel_rfl) rfl
    (fun f fn hf hfn => by
      obtain rfl : f = 3 := Option.some.inj ((show Tryz.prog.funcNamed "clerestory/clerestorykeep2.MatchCounts" = some 3 by kernel_rfl).symm.trans hf) |>.symm
      obtain rfl : fn = Tryz.f3 := (Option.some.inj (Tryz.func3.symm.trans hfn)).symm
      exact ⟨by kernel_rfl, fun j t ht => by
        rw [Tryz.params3] at ht
        have hm : t ∈ [24, 3] := by simpa using Array.mem_of_getElem? ht
        have hall : ([24, 3].all fun u => !Tryz.prog.wantsStandIn u) = true := by kernel_rfl
        exact (show Tryz.prog.wantsStandIn t = false by simpa using List.all_eq_true.1 hall t hm)⟩)
    (by kernel_rfl)
end Go.Proofs.YtgoglplnajofnaaGreatDoor.MatchCountsUptoRow
namespace Go.Proofs.YtgoglplnajofnaaGreatDoor
theorem matchCountsUpto_card_holds : Rows.MatchCountsUptoCardSaid := MatchCountsUptoRow.card
#print axioms matchCountsUpto_card_holds
end Go.Proofs.YtgoglplnajofnaaGreatDoor
