/- A part of the evaluator of Go code over small heaps and of its proof: no condition beyond those that each theorem names. -/
import Derived.Test.YtdnnaneifaoooaaDoorEvDfr
import Derived.Test.YtdnnaneifaoooaaDoorEvShP
import Derived.Test.YtdnnaneifaoooaaDoorEvFmA
import Derived.Test.YtdnnaneifaoooaaDoorEvPu
import Derived.Test.YtdnnaneifaoooaaDoorProg
import Derived.KernelRfl
set_option linter.unusedVariables false
set_option maxRecDepth 100000
namespace Go.Ev.Cb
noncomputable section
open Go.Proofs Go.Ev

def base : TypeId → (α : Type) × α
  | 5 => ⟨Int, (0 : Int)⟩
  | 9 => ⟨List UInt8, []⟩
  | _ => ⟨Unit, ()⟩
def T (t : TypeId) : Type := (base t).1
def dflt (t : TypeId) : T t := (base t).2
def dl (t : TypeId) : D T → Option (List (T t))
  | .l t' xs => asT t t' xs
  | .ns => some []
  | _ => none
theorem dl_le {t : TypeId} {d : D T} {l : List (T t)} (h : dl t d = some l) : leD d (.l t l) := by
  unfold dl at h
  split at h
  · rw [asT_l h]; exact .refl _
  · cases h; exact .ns _
  · cases h
def enc5 (x : Int) : List (D T) := [.i .u8 x]
def dec5 (ds : List (D T)) : Option (Int) := match ds with
  | [.i .u8 x0] => some x0
  | _ => none
theorem dec5_ok {ds : List (D T)} {x : Int} (h : dec5 ds = some x) : leDs ds (enc5 x) := by
  unfold dec5 at h
  split at h
  · cases h
    exact .cons (.refl _) <| .nil
  · cases h
def enc9 (x : List UInt8) : List (D T) := [.s x]
def dec9 (ds : List (D T)) : Option (List UInt8) := match ds with
  | [.s x0] => some x0
  | _ => none
theorem dec9_ok {ds : List (D T)} {x : List UInt8} (h : dec9 ds = some x) : leDs ds (enc9 x) := by
  unfold dec9 at h
  split at h
  · cases h
    exact .cons (.refl _) <| .nil
  · cases h
def enc : (t : TypeId) → T t → List (D T)
  | 5, x => enc5 x
  | 9, x => enc9 x
  | _, _ => []
def dec (t : TypeId) (ds : List (D T)) : Option (T t) := if h : t = 5 then (h ▸ (dec5 ds : Option (T 5))) else if h : t = 9 then (h ▸ (dec9 ds : Option (T 9))) else none
theorem dec_ok (t : TypeId) (ds : List (D T)) (x : T t) (h : dec t ds = some x) : leDs ds (enc t x) := by
  unfold dec at h
  by_cases h5 : t = 5
  · subst h5; exact dec5_ok (show dec5 ds = some x from h)
  rw [dif_neg h5] at h
  by_cases h9 : t = 9
  · subst h9; exact dec9_ok (show dec9 ds = some x from h)
  rw [dif_neg h9] at h
  cases h
def knl : List TypeId := [5, 9]

def ofB : (t : TypeId) → List UInt8 → List (T t)
  | 5, l => bytesI l
  | _, _ => []
def toB : (t : TypeId) → List (T t) → List UInt8
  | 5, l => bytesU l
  | _, _ => []
def cod : Cod T := ⟨fun t => knl.any (·.beq t), enc, dec, dflt, ofB, toB⟩
def gv : Nat → Option (List (D T))
  | _ => none
def eql : List TypeId := []
def hdl : List FuncId := []
def cfg (w0 : World) (t : Tab T) : Cfg T := ⟨Tryd.prog, cod, t, fun t => eql.any (·.beq t), w0, gv, 83, 5, fun f => hdl.any (·.beq f)⟩
/-- What is asked of the first world. -/
structure Wd (w0 : World) : Prop where
  gv : GvOk (cfg w0 noTab)
  db : Lib.TabIs Tryd.prog w0 "math/bits.deBruijn64tab" .u8 Fm.dbTab

theorem mem_of {l : List TypeId} {t : TypeId} (h : l.any (·.beq t) = true) : t ∈ l := by
  rw [List.any_eq_true] at h
  obtain ⟨x, hx, hb⟩ := h
  rw [← Nat.eq_of_beq_eq_true hb]; exact hx
theorem len5 : 1 = Tryd.prog.cellsOf 5 := by kernel_rfl
theorem len9 : 1 = Tryd.prog.cellsOf 9 := by kernel_rfl
theorem u8_9 : isU8 Tryd.prog 9 = false := by kernel_rfl
theorem zr5 : zeroShape Tryd.prog 5 = true ∧ ∃ ds, zeroCells (T := T) Tryd.prog 5 = some (ofDs ds) ∧ leDs ds (enc5 (0 : Int)) := ⟨by kernel_rfl, [.i .u8 (0 : Int)], by kernel_rfl, .cons (.refl _) <| .nil⟩
theorem zr9 : zeroShape Tryd.prog 9 = true ∧ ∃ ds, zeroCells (T := T) Tryd.prog 9 = some (ofDs ds) ∧ leDs ds (enc9 []) := ⟨by kernel_rfl, [.s ([])], by kernel_rfl, .cons (.refl _) <| .nil⟩
theorem fl : Tryd.prog.follows .mixedOrders = true := by kernel_rfl
theorem bytesOk (w0 : World) (t : Tab T) : BytesOk (cfg w0 t) := fun e h1 h2 => by
  have hm := mem_of (l := knl) h2
  simp only [knl, List.mem_cons, List.not_mem_nil, or_false] at hm
  rcases hm with rfl | rfl
  · exact ⟨fun l => by induction l with
      | nil => rfl
      | cons b l ih => exact congrArg (List.cons _) ih, fun xs => ⟨xs, rfl, rfl⟩⟩
  · exact absurd h1 (by rw [show isU8 (cfg w0 _).P 9 = false from u8_9]; exact Bool.false_ne_true)
theorem fine (w0 : World) (hw : Wd w0) (t : Tab T) (h : CfOk (cfg w0 t)) : Fine (cfg w0 t) where
  gv := hw.gv
  bytes := bytesOk w0 t
  cod := by
    refine ⟨fun t ht x => ?_, fun t ds x h => ?_⟩
    · have hm := mem_of (l := knl) ht
      simp only [knl, List.mem_cons, List.not_mem_nil, or_false] at hm
      rcases hm with rfl | rfl
      · exact len5
      · exact len9
    · exact dec_ok t ds x h
  zero := fun t ht => by
    have hm := mem_of (l := knl) ht
    simp only [knl, List.mem_cons, List.not_mem_nil, or_false] at hm
    rcases hm with rfl | rfl
    · exact zr5
    · exact zr9
  eqk := fun t h => by
    cases h
  flat := fun t hf hk x d hd => by
    have hm := mem_of (l := knl) hk
    simp only [knl, List.mem_cons, List.not_mem_nil, or_false] at hm
    rcases hm with rfl | rfl
    · have hd : d ∈ enc5 x := hd
      simp only [enc5, List.mem_cons, List.not_mem_nil, or_false] at hd
      rcases hd with rfl <;> rfl
    · have hd : d ∈ enc9 x := hd
      simp only [enc9, List.mem_cons, List.not_mem_nil, or_false] at hd
      rcases hd with rfl <;> rfl
  cf := h
theorem dr (w0 : World) (hw : Wd w0) (t : Tab T) (h : CfOk (cfg w0 t)) : DrawOk (cfg w0 t) := drawOk_ok (fine w0 hw t h) fl
def io0 : Io T (List UInt8) where
  enc v := ([.d (.s v)], [])
  pat
    | ([.d (.s p1)], []) => some p1
    | _ => none
  ok z v h := by
    split at h
    · cases h
      all_goals rfl
    · cases h
def io1 : Io T (Int × Int × (List Int)) where
  enc v := ([.sl 0 none, .sl 0 none, .d (.i .i64 v.1), .d (.i .i64 v.2.1)], [.arr 5 v.2.2])
  pat
    | ([.sl 0 none, .sl 0 none, .d (.i .i64 p1), .d (.i .i64 p2)], [.arr tp3 p3]) => (asT 5 tp3 p3).bind fun q3 => some (p1, p2, q3)
    | _ => none
  ok z v h := by
    split at h
    · obtain ⟨q3, hp3, h⟩ := Option.bind_eq_some_iff.1 h
      cases h
      rw [asT_a hp3]
      all_goals rfl
    · cases h
def io2 : Io T (List Int) where
  enc v := ([.sl 0 none], [.arr 5 v])
  pat
    | ([.sl 0 none], [.arr tp1 p1]) => (asT 5 tp1 p1).bind fun q1 => some q1
    | _ => none
  ok z v h := by
    split at h
    · obtain ⟨q1, hp1, h⟩ := Option.bind_eq_some_iff.1 h
      cases h
      rw [asT_a hp1]
      all_goals rfl
    · cases h
def io3 : Io T (Int × Bool) where
  enc v := ([.d (.i .i64 v.1), .d (.b v.2)], [])
  pat
    | ([.d (.i .i64 p1), .d (.b p2)], []) => some (p1, p2)
    | _ => none
  ok z v h := by
    split at h
    · cases h
      all_goals rfl
    · cases h
def io4 : Io T ((List UInt8) × (List UInt8)) where
  enc v := ([.d (.s v.1), .d (.s v.2)], [])
  pat
    | ([.d (.s p1), .d (.s p2)], []) => some (p1, p2)
    | _ => none
  ok z v h := by
    split at h
    · cases h
      all_goals rfl
    · cases h
def io5 : Io T (Bool) where
  enc v := ([.d (.b v)], [])
  pat
    | ([.d (.b p1)], []) => some p1
    | _ => none
  ok z v h := by
    split at h
    · cases h
      all_goals rfl
    · cases h
def io6 : Io T ((List UInt8) × Bool) where
  enc v := ([.d (.s v.1), .d (.b v.2)], [])
  pat
    | ([.d (.s p1), .d (.b p2)], []) => some (p1, p2)
    | _ => none
  ok z v h := by
    split at h
    · cases h
      all_goals rfl
    · cases h
def io7 : Io T ((List UInt8) × Int) where
  enc v := ([.d (.s v.1), .d (.i .i64 v.2)], [])
  pat
    | ([.d (.s p1), .d (.i .i64 p2)], []) => some (p1, p2)
    | _ => none
  ok z v h := by
    split at h
    · cases h
      all_goals rfl
    · cases h
def io8 : Io T ((List UInt8) × (List UInt8)) where
  enc v := ([.bp 0, .d (.s v.1)], [.bl v.2])
  pat
    | ([.bp 0, .d (.s p1)], [.bl p2]) => some (p1, p2)
    | _ => none
  ok z v h := by
    split at h
    · cases h
      all_goals rfl
    · cases h
def io9 : Io T (Int × (List UInt8)) where
  enc v := ([.d (.i .i64 v.1), .d .ni], [.bl v.2])
  pat
    | ([.d (.i .i64 p1), .d .ni], [.bl p2]) => some (p1, p2)
    | _ => none
  ok z v h := by
    split at h
    · cases h
      all_goals rfl
    · cases h
def io10 : Io T (List UInt8) where
  enc v := ([.bp 0], [.bl v])
  pat
    | ([.bp 0], [.bl p1]) => some p1
    | _ => none
  ok z v h := by
    split at h
    · cases h
      all_goals rfl
    · cases h
def io11 : Io T ((List UInt8) × (List UInt8)) where
  enc v := ([.d (.s v.1)], [.bl v.2])
  pat
    | ([.d (.s p1)], [.bl p2]) => some (p1, p2)
    | _ => none
  ok z v h := by
    split at h
    · cases h
      all_goals rfl
    · cases h
def io12 : Io T ((List UInt8) × Int × Int) where
  enc v := ([.d (.s v.1), .d (.i .i64 v.2.1), .d (.i .i64 v.2.2)], [])
  pat
    | ([.d (.s p1), .d (.i .i64 p2), .d (.i .i64 p3)], []) => some (p1, p2, p3)
    | _ => none
  ok z v h := by
    split at h
    · cases h
      all_goals rfl
    · cases h
def io13 : Io T (Int) where
  enc v := ([.d (.i .u64 v), .d .ni], [])
  pat
    | ([.d (.i .u64 p1), .d .ni], []) => some p1
    | _ => none
  ok z v h := by
    split at h
    · cases h
      all_goals rfl
    · cases h
def io14 : Io T ((List UInt8) × Int × Int × (List UInt8)) where
  enc v := ([.d (.s v.1), .bp 0, .d (.i .i64 v.2.1), .d (.i .i64 v.2.2.1)], [.bl v.2.2.2])
  pat
    | ([.d (.s p1), .bp 0, .d (.i .i64 p2), .d (.i .i64 p3)], [.bl p4]) => some (p1, p2, p3, p4)
    | _ => none
  ok z v h := by
    split at h
    · cases h
      all_goals rfl
    · cases h
def io15 : Io T (Int) where
  enc v := ([.d (.i .i64 v)], [])
  pat
    | ([.d (.i .i64 p1)], []) => some p1
    | _ => none
  ok z v h := by
    split at h
    · cases h
      all_goals rfl
    · cases h
def io16 : Io T ((List UInt8) × (List UInt8) × Int × Int) where
  enc v := ([.d (.s v.1), .d (.s v.2.1), .d (.i .i64 v.2.2.1), .d (.i .i64 v.2.2.2)], [])
  pat
    | ([.d (.s p1), .d (.s p2), .d (.i .i64 p3), .d (.i .i64 p4)], []) => some (p1, p2, p3, p4)
    | _ => none
  ok z v h := by
    split at h
    · cases h
      all_goals rfl
    · cases h
def io17 : Io T (Unit) where
  enc v := ([.d .ns], [])
  pat
    | ([.d .ns], []) => some ()
    | _ => none
  ok z v h := by
    split at h
    · cases h
      all_goals rfl
    · cases h
def io18 : Io T (Int × (List UInt8) × Int × Int × (List (List UInt8))) where
  enc v := ([.sl 0 none, .d (.i .i64 v.1), .d (.s v.2.1), .sl 0 none, .d (.i .i64 v.2.2.1), .d (.i .i64 v.2.2.2.1)], [.arr 9 v.2.2.2.2])
  pat
    | ([.sl 0 none, .d (.i .i64 p1), .d (.s p2), .sl 0 none, .d (.i .i64 p3), .d (.i .i64 p4)], [.arr tp5 p5]) => (asT 9 tp5 p5).bind fun q5 => some (p1, p2, p3, p4, q5)
    | _ => none
  ok z v h := by
    split at h
    · obtain ⟨q5, hp5, h⟩ := Option.bind_eq_some_iff.1 h
      cases h
      rw [asT_a hp5]
      all_goals rfl
    · cases h
def io19 : Io T (Int × Int × Int × (List (List UInt8))) where
  enc v := ([.sl 0 none, .d (.i .i64 v.1), .sl 0 none, .d (.i .i64 v.2.1), .d (.i .i64 v.2.2.1)], [.arr 9 v.2.2.2])
  pat
    | ([.sl 0 none, .d (.i .i64 p1), .sl 0 none, .d (.i .i64 p2), .d (.i .i64 p3)], [.arr tp4 p4]) => (asT 9 tp4 p4).bind fun q4 => some (p1, p2, p3, q4)
    | _ => none
  ok z v h := by
    split at h
    · obtain ⟨q4, hp4, h⟩ := Option.bind_eq_some_iff.1 h
      cases h
      rw [asT_a hp4]
      all_goals rfl
    · cases h
def io20 : Io T (Int × (List (List UInt8))) where
  enc v := ([.sl 0 none, .d (.i .i64 v.1)], [.arr 9 v.2])
  pat
    | ([.sl 0 none, .d (.i .i64 p1)], [.arr tp2 p2]) => (asT 9 tp2 p2).bind fun q2 => some (p1, q2)
    | _ => none
  ok z v h := by
    split at h
    · obtain ⟨q2, hp2, h⟩ := Option.bind_eq_some_iff.1 h
      cases h
      rw [asT_a hp2]
      all_goals rfl
    · cases h
def io21 : Io T (List (List UInt8)) where
  enc v := ([.sl 0 none], [.arr 9 v])
  pat
    | ([.sl 0 none], [.arr tp1 p1]) => (asT 9 tp1 p1).bind fun q1 => some q1
    | _ => none
  ok z v h := by
    split at h
    · obtain ⟨q1, hp1, h⟩ := Option.bind_eq_some_iff.1 h
      cases h
      rw [asT_a hp1]
      all_goals rfl
    · cases h
def io22 : Io T (Int × Int) where
  enc v := ([.d (.i .i64 v.1), .d (.i .i64 v.2)], [])
  pat
    | ([.d (.i .i64 p1), .d (.i .i64 p2)], []) => some (p1, p2)
    | _ => none
  ok z v h := by
    split at h
    · cases h
      all_goals rfl
    · cases h
def io23 : Io T (Unit) where
  enc v := ([], [])
  pat
    | ([], []) => some ()
    | _ => none
  ok z v h := by
    split at h <;> cases h; rfl
def io24 : Io T (Int × Int) where
  enc v := ([.d (.i .u64 v.1), .d (.i .i64 v.2)], [])
  pat
    | ([.d (.i .u64 p1), .d (.i .i64 p2)], []) => some (p1, p2)
    | _ => none
  ok z v h := by
    split at h
    · cases h
      all_goals rfl
    · cases h
def io25 : Io T (Int × Bool × Int × Int × Int × (List Int)) where
  enc v := ([.d (.i .i64 v.1), .d (.b v.2.1), .d (.i .i64 v.2.2.1), .d (.i .i64 v.2.2.2.1), .sl 0 none, .d (.i .i64 v.2.2.2.2.1)], [.arr 5 v.2.2.2.2.2])
  pat
    | ([.d (.i .i64 p1), .d (.b p2), .d (.i .i64 p3), .d (.i .i64 p4), .sl 0 none, .d (.i .i64 p5)], [.arr tp6 p6]) => (asT 5 tp6 p6).bind fun q6 => some (p1, p2, p3, p4, p5, q6)
    | _ => none
  ok z v h := by
    split at h
    · obtain ⟨q6, hp6, h⟩ := Option.bind_eq_some_iff.1 h
      cases h
      rw [asT_a hp6]
      all_goals rfl
    · cases h
def io26 : Io T (Int × Bool × Int × Int × (List Int)) where
  enc v := ([.d (.i .i64 v.1), .d (.b v.2.1), .d (.i .i64 v.2.2.1), .d (.i .i64 v.2.2.2.1), .sl 0 none], [.arr 5 v.2.2.2.2])
  pat
    | ([.d (.i .i64 p1), .d (.b p2), .d (.i .i64 p3), .d (.i .i64 p4), .sl 0 none], [.arr tp5 p5]) => (asT 5 tp5 p5).bind fun q5 => some (p1, p2, p3, p4, q5)
    | _ => none
  ok z v h := by
    split at h
    · obtain ⟨q5, hp5, h⟩ := Option.bind_eq_some_iff.1 h
      cases h
      rw [asT_a hp5]
      all_goals rfl
    · cases h
def tab0 (k : Nat) : Tab T := noTab
def color_lower.c7 (k : Nat) : Nat → Int → Int → (List Int) → ((List Int) → Option (List UInt8)) → Option (List UInt8)
  | 0, _, _, _, _ => none
  | n + 1, x2, x3, x4, k0 =>
    cond (decide (x3 < x2)) (
    cond (decide (0 ≤ x3 ∧ x3 < (x4.length : Int))) (
    let v5 : Bool := (decide ((x4.getD x3.toNat (0 : Int)) ≥ (65 : Int)))
    let v6 : Bool := (decide ((x4.getD x3.toNat (0 : Int)) ≤ (90 : Int)))
    cond (cond v5 v6 false) (
    let v7 : Int := (IntKind.wrap .u8 ((x4.getD x3.toNat (0 : Int)) + (32 : Int)))
    cond (decide (0 ≤ x3 ∧ x3 < (x4.length : Int))) (
    let v8 : Int := (IntKind.wrap .i64 (x3 + (1 : Int)))
    color_lower.c7 k n x2 v8 (x4.set x3.toNat v7) k0) none) (
    let v9 : Int := (IntKind.wrap .i64 (x3 + (1 : Int)))
    color_lower.c7 k n x2 v9 x4 k0)) none) (
    k0 x4)
def color_lower (k : Nat) (a1 : List UInt8) : Option (List UInt8) :=
color_lower.c7 k k ((bytesI a1).length : Int) (0 : Int) (bytesI a1) (fun (y10 : List Int) =>
some (bytesU y10))
def color_lower.kr (w0 : World) (k : Nat) : Kr T (List UInt8) := (kret (retK (cfg w0 (tab0 k)) Tryd.f62.results.toList 0 [] io0.pat))
def color_lower.x7 : Ex → Option (List Nat × List Sp)
  | .exit 0 => some ([3], [])
  | _ => none
def color_lower.L7 (k : Nat) (n : Nat) (v : Int × Int × (List Int)) (K : Ex → St T → Option (List UInt8)) : Option (List UInt8) := color_lower.c7 k n v.1 v.2.1 v.2.2 (fun y26 => K (.exit 0) (mkSt [3] (io2.enc y26)))
def color_lower.cuts (w0 : World) (k : Nat) : Cuts T (List UInt8) := fun n => bif n.beq 7 then some (entK (cfg w0 (tab0 k)) 0 [3, 8, 9, 10] [] io1.pat (color_lower.L7 k k)) else none
def color_lower.body : Code := bodyOf Tryd.f62
def color_lower.b7 : Code := findD 7 color_lower.body
theorem color_lower.s7 (w0 : World) (k : Nat) : ∀ n v K, color_lower.L7 k (n + 1) v K = runK (cfg w0 (tab0 k)) Tryd.f62.ntmps (color_lower.kr w0 k) (annot (color_lower.cuts w0 k) color_lower.b7) (mkSt [3, 8, 9, 10] (io1.enc v)) (loopK (cfg w0 (tab0 k)) 0 color_lower.x7 (entK (cfg w0 (tab0 k)) 0 [3, 8, 9, 10] [] io1.pat (color_lower.L7 k n)) K) := by
  intro n v K; kernel_rfl
theorem color_lower.e (w0 : World) (k : Nat) : ∀ v, (fun v => color_lower k v) v = runK (cfg w0 (tab0 k)) Tryd.f62.ntmps (color_lower.kr w0 k) (annot (color_lower.cuts w0 k) color_lower.body) (entry (io0.enc v).1 (io0.enc v).2) (endK (color_lower.kr w0 k)) := by
  intro v; kernel_rfl
theorem color_lower.hb : Tryd.f62.body = some color_lower.body := by kernel_rfl
def tab1 (k : Nat) : Tab T := addTab 62 (line io0 io0 [] (fun v => color_lower k v)) (tab0 k)
def color_named (k : Nat) (a1 : List UInt8) : Option (Int × Bool) :=
let v2 : Bool := (a1 == ([98, 108, 97, 99, 107] : List UInt8))
cond v2 (
some ((0 : Int), true)) (
let v3 : Bool := (a1 == ([115, 105, 108, 118, 101, 114] : List UInt8))
cond v3 (
some ((12632256 : Int), true)) (
let v4 : Bool := (a1 == ([103, 114, 97, 121] : List UInt8))
cond v4 (
some ((8421504 : Int), true)) (
let v5 : Bool := (a1 == ([119, 104, 105, 116, 101] : List UInt8))
cond v5 (
some ((16777215 : Int), true)) (
let v6 : Bool := (a1 == ([109, 97, 114, 111, 111, 110] : List UInt8))
cond v6 (
some ((8388608 : Int), true)) (
let v7 : Bool := (a1 == ([114, 101, 100] : List UInt8))
cond v7 (
some ((16711680 : Int), true)) (
let v8 : Bool := (a1 == ([112, 117, 114, 112, 108, 101] : List UInt8))
cond v8 (
some ((8388736 : Int), true)) (
let v9 : Bool := (a1 == ([102, 117, 99, 104, 115, 105, 97] : List UInt8))
cond v9 (
some ((16711935 : Int), true)) (
let v10 : Bool := (a1 == ([103, 114, 101, 101, 110] : List UInt8))
cond v10 (
some ((32768 : Int), true)) (
let v11 : Bool := (a1 == ([108, 105, 109, 101] : List UInt8))
cond v11 (
some ((65280 : Int), true)) (
let v12 : Bool := (a1 == ([111, 108, 105, 118, 101] : List UInt8))
cond v12 (
some ((8421376 : Int), true)) (
let v13 : Bool := (a1 == ([121, 101, 108, 108, 111, 119] : List UInt8))
cond v13 (
some ((16776960 : Int), true)) (
let v14 : Bool := (a1 == ([110, 97, 118, 121] : List UInt8))
cond v14 (
some ((128 : Int), true)) (
let v15 : Bool := (a1 == ([98, 108, 117, 101] : List UInt8))
cond v15 (
some ((255 : Int), true)) (
let v16 : Bool := (a1 == ([116, 101, 97, 108] : List UInt8))
cond v16 (
some ((32896 : Int), true)) (
let v17 : Bool := (a1 == ([97, 113, 117, 97] : List UInt8))
cond v17 (
some ((65535 : Int), true)) (
let v18 : Bool := (a1 == ([111, 114, 97, 110, 103, 101] : List UInt8))
cond v18 (
some ((16753920 : Int), true)) (
some ((0 : Int), false))))))))))))))))))
def color_named.kr (w0 : World) (k : Nat) : Kr T (Int × Bool) := (kret (retK (cfg w0 (tab1 k)) Tryd.f63.results.toList 0 [] io3.pat))
def color_named.cuts (w0 : World) (k : Nat) : Cuts T (Int × Bool) := fun n => none
def color_named.body : Code := bodyOf Tryd.f63
theorem color_named.e (w0 : World) (k : Nat) : ∀ v, (fun v => color_named k v) v = runK (cfg w0 (tab1 k)) Tryd.f63.ntmps (color_named.kr w0 k) (annot (color_named.cuts w0 k) color_named.body) (entry (io0.enc v).1 (io0.enc v).2) (endK (color_named.kr w0 k)) := by
  intro v; kernel_rfl
theorem color_named.hb : Tryd.f63.body = some color_named.body := by kernel_rfl
def tab2 (k : Nat) : Tab T := addTab 63 (line io0 io3 ((0 : Int), false) (fun v => color_named k v)) (tab1 k)
def stringslite_HasPrefix (k : Nat) (a1 : List UInt8) (a2 : List UInt8) : Option (Bool) :=
let v3 : Bool := (decide ((a1.length : Int) ≥ (a2.length : Int)))
cond ((decide (0 ≤ (a2.length : Int) ∧ (a2.length : Int) ≤ (a1.length : Int))) || !v3) (
let v4 : List UInt8 := (a1.take (a2.length : Int).toNat)
some (cond v3 (v4 == a2) false)) none
def stringslite_HasPrefix.kr (w0 : World) (k : Nat) : Kr T (Bool) := (kret (retK (cfg w0 (tab2 k)) Tryd.f155.results.toList 0 [] io5.pat))
def stringslite_HasPrefix.cuts (w0 : World) (k : Nat) : Cuts T (Bool) := fun n => none
def stringslite_HasPrefix.body : Code := bodyOf Tryd.f155
theorem stringslite_HasPrefix.e (w0 : World) (k : Nat) : ∀ v, (fun v => stringslite_HasPrefix k v.1 v.2) v = runK (cfg w0 (tab2 k)) Tryd.f155.ntmps (stringslite_HasPrefix.kr w0 k) (annot (stringslite_HasPrefix.cuts w0 k) stringslite_HasPrefix.body) (entry (io4.enc v).1 (io4.enc v).2) (endK (stringslite_HasPrefix.kr w0 k)) := by
  intro v; kernel_rfl
theorem stringslite_HasPrefix.hb : Tryd.f155.body = some stringslite_HasPrefix.body := by kernel_rfl
def tab3 (k : Nat) : Tab T := addTab 155 (line io4 io5 false (fun v => stringslite_HasPrefix k v.1 v.2)) (tab2 k)
def stringslite_CutPrefix (k : Nat) (a1 : List UInt8) (a2 : List UInt8) : Option ((List UInt8) × Bool) :=
(stringslite_HasPrefix k a1 a2).bind fun r3 =>
cond (!r3) (
some (a1, false)) (
cond (decide (0 ≤ (a2.length : Int) ∧ (a2.length : Int) ≤ (a1.length : Int))) (
let v4 : List UInt8 := (a1.drop (a2.length : Int).toNat)
some (v4, true)) none)
def stringslite_CutPrefix.kr (w0 : World) (k : Nat) : Kr T ((List UInt8) × Bool) := (kret (retK (cfg w0 (tab3 k)) Tryd.f100.results.toList 0 [] io6.pat))
def stringslite_CutPrefix.cuts (w0 : World) (k : Nat) : Cuts T ((List UInt8) × Bool) := fun n => none
def stringslite_CutPrefix.body : Code := bodyOf Tryd.f100
theorem stringslite_CutPrefix.e (w0 : World) (k : Nat) : ∀ v, (fun v => stringslite_CutPrefix k v.1 v.2) v = runK (cfg w0 (tab3 k)) Tryd.f100.ntmps (stringslite_CutPrefix.kr w0 k) (annot (stringslite_CutPrefix.cuts w0 k) stringslite_CutPrefix.body) (entry (io4.enc v).1 (io4.enc v).2) (endK (stringslite_CutPrefix.kr w0 k)) := by
  intro v; kernel_rfl
theorem stringslite_CutPrefix.hb : Tryd.f100.body = some stringslite_CutPrefix.body := by kernel_rfl
def tab4 (k : Nat) : Tab T := addTab 100 (line io4 io6 ([], false) (fun v => stringslite_CutPrefix k v.1 v.2)) (tab3 k)
def strings_CutPrefix (k : Nat) (a1 : List UInt8) (a2 : List UInt8) : Option ((List UInt8) × Bool) :=
(stringslite_CutPrefix k a1 a2).bind fun r3 =>
some (r3.1, r3.2)
def strings_CutPrefix.kr (w0 : World) (k : Nat) : Kr T ((List UInt8) × Bool) := (kret (retK (cfg w0 (tab4 k)) Tryd.f64.results.toList 0 [] io6.pat))
def strings_CutPrefix.cuts (w0 : World) (k : Nat) : Cuts T ((List UInt8) × Bool) := fun n => none
def strings_CutPrefix.body : Code := bodyOf Tryd.f64
theorem strings_CutPrefix.e (w0 : World) (k : Nat) : ∀ v, (fun v => strings_CutPrefix k v.1 v.2) v = runK (cfg w0 (tab4 k)) Tryd.f64.ntmps (strings_CutPrefix.kr w0 k) (annot (strings_CutPrefix.cuts w0 k) strings_CutPrefix.body) (entry (io4.enc v).1 (io4.enc v).2) (endK (strings_CutPrefix.kr w0 k)) := by
  intro v; kernel_rfl
theorem strings_CutPrefix.hb : Tryd.f64.body = some strings_CutPrefix.body := by kernel_rfl
def tab5 (k : Nat) : Tab T := addTab 64 (line io4 io6 ([], false) (fun v => strings_CutPrefix k v.1 v.2)) (tab4 k)
def strings_Trim (k : Nat) (a3 : List UInt8) (a4 : List UInt8) : Option (List UInt8) := trimB a3 a4
def tab6 (k : Nat) : Tab T := addTab 101 (line io4 io0 [] (fun v => strings_Trim k v.1 v.2)) (tab5 k)
def strings_Repeat (k : Nat) (a14 : List UInt8) (a15 : Int) : Option (List UInt8) := repS a14 a15
def tab7 (k : Nat) : Tab T := addTab 102 (line io7 io0 [] (fun v => strings_Repeat k v.1 v.2)) (tab6 k)
def f__strings_Builder__WriteString (k : Nat) (a17 : List UInt8) (a18 : List UInt8) : Option (Int × (List UInt8)) := (wStr a18 a17).map fun s => ((a17.length : Int), s)
def tab8 (k : Nat) : Tab T := addTab 83 (line io8 io9 ((0 : Int), []) (fun v => f__strings_Builder__WriteString k v.1 v.2)) (tab7 k)
def f__strings_Builder__String (k : Nat) (a22 : List UInt8) : Option ((List UInt8) × (List UInt8)) := some (a22, a22)
def tab9 (k : Nat) : Tab T := addTab 48 (line io10 io11 ([], []) (fun v => f__strings_Builder__String k v)) (tab8 k)
def strconv_ParseUint (k : Nat) (a28 : List UInt8) (a29 : Int) (a30 : Int) : Option (Int) := Pu.parS a28 a29 a30
def tab10 (k : Nat) : Tab T := addTab 103 (line io12 io13 (0 : Int) (fun v => strconv_ParseUint k v.1 v.2.1 v.2.2)) (tab9 k)
def color_hex.c13 (k : Nat) : Nat → (List UInt8) → Int → Int → (List UInt8) → ((List UInt8) → Option (Int × Bool)) → Option (Int × Bool)
  | 0, _, _, _, _, _ => none
  | n + 1, x5, x6, x7, x8, k0 =>
    cond (decide (x7 < x6)) (
    let v9 : Int := (IntKind.wrap .i64 (x7 + (1 : Int)))
    cond (decide (0 ≤ x7 ∧ x7 ≤ v9 ∧ v9 ≤ (x5.length : Int))) (
    let v10 : List UInt8 := ((x5.take v9.toNat).drop x7.toNat)
    (strings_Repeat k v10 (2 : Int)).bind fun r11 =>
    (f__strings_Builder__WriteString k r11 x8).bind fun r12 =>
    let v13 : Int := (IntKind.wrap .i64 (x7 + (1 : Int)))
    color_hex.c13 k n x5 x6 v13 r12.2 k0) none) (
    k0 x8)
def color_hex.c26 (k : Nat) (x19 : List UInt8)  : Option (Int × Bool) :=
(strconv_ParseUint k x19 (16 : Int) (64 : Int)).bind fun r20 =>
let v21 : Bool := ((x19.length : Int) == (8 : Int))
some ((IntKind.wrap .i64 r20), (cond true v21 false))
def color_hex.c22 (k : Nat) (x16 : List UInt8)  : Option (Int × Bool) :=
let v17 : Bool := ((x16.length : Int) == (6 : Int))
cond v17 (
cond (Nat.ble (x16.length + ([102, 102] : List UInt8).length) 9223372036854775807) (
let v18 : List UInt8 := (x16 ++ ([102, 102] : List UInt8))
color_hex.c26 k v18) none) (
color_hex.c26 k x16)
def color_hex (k : Nat) (a1 : List UInt8) : Option (Int × Bool) :=
(strings_Trim k a1 ([48, 49, 50, 51, 52, 53, 54, 55, 56, 57, 97, 98, 99, 100, 101, 102] : List UInt8)).bind fun r2 =>
cond (!(r2 == ([] : List UInt8))) (
some ((0 : Int), false)) (
let v3 : Bool := ((a1.length : Int) == (3 : Int))
let v4 : Bool := ((a1.length : Int) == (4 : Int))
cond (cond v3 true v4) (
color_hex.c13 k k a1 (a1.length : Int) (0 : Int) ([] : List UInt8) (fun (y14 : List UInt8) =>
(f__strings_Builder__String k y14).bind fun r15 =>
color_hex.c22 k r15.1)) (
color_hex.c22 k a1))
def color_hex.kr (w0 : World) (k : Nat) : Kr T (Int × Bool) := (kret (retK (cfg w0 (tab10 k)) Tryd.f65.results.toList 0 [] io3.pat))
def color_hex.x13 : Ex → Option (List Nat × List Sp)
  | .exit 0 => some ([4], [])
  | _ => none
def color_hex.L13 (k : Nat) (n : Nat) (v : (List UInt8) × Int × Int × (List UInt8)) (K : Ex → St T → Option (Int × Bool)) : Option (Int × Bool) := color_hex.c13 k n v.1 v.2.1 v.2.2.1 v.2.2.2 (fun y27 => K (.exit 0) (mkSt [4] (io10.enc y27)))
def color_hex.x26 : Ex → Option (List Nat × List Sp)
  | _ => none
def color_hex.L26 (k : Nat) (v : List UInt8) (K : Ex → St T → Option (Int × Bool)) : Option (Int × Bool) := color_hex.c26 k v
def color_hex.x22 : Ex → Option (List Nat × List Sp)
  | _ => none
def color_hex.L22 (k : Nat) (v : List UInt8) (K : Ex → St T → Option (Int × Bool)) : Option (Int × Bool) := color_hex.c22 k v
def color_hex.cuts (w0 : World) (k : Nat) : Cuts T (Int × Bool) := fun n => bif n.beq 13 then some (entK (cfg w0 (tab10 k)) 0 [0, 4, 20, 21] [] io14.pat (color_hex.L13 k k)) else bif n.beq 26 then some (entK (cfg w0 (tab10 k)) 0 [0] [] io0.pat (color_hex.L26 k)) else bif n.beq 22 then some (entK (cfg w0 (tab10 k)) 0 [0] [] io0.pat (color_hex.L22 k)) else none
def color_hex.body : Code := bodyOf Tryd.f65
def color_hex.b13 : Code := findD 13 color_hex.body
theorem color_hex.s13 (w0 : World) (k : Nat) : ∀ n v K, color_hex.L13 k (n + 1) v K = runK (cfg w0 (tab10 k)) Tryd.f65.ntmps (color_hex.kr w0 k) (annot (color_hex.cuts w0 k) color_hex.b13) (mkSt [0, 4, 20, 21] (io14.enc v)) (loopK (cfg w0 (tab10 k)) 0 color_hex.x13 (entK (cfg w0 (tab10 k)) 0 [0, 4, 20, 21] [] io14.pat (color_hex.L13 k n)) K) := by
  intro n v K; kernel_rfl
def color_hex.b26 : Code := findD 26 color_hex.body
theorem color_hex.s26 (w0 : World) (k : Nat) : ∀ v K, color_hex.L26 k v K = runK (cfg w0 (tab10 k)) Tryd.f65.ntmps (color_hex.kr w0 k) (annot (color_hex.cuts w0 k) color_hex.b26) (mkSt [0] (io0.enc v)) (outK (cfg w0 (tab10 k)) 0 color_hex.x26 K) := by
  intro v K; kernel_rfl
def color_hex.b22 : Code := findD 22 color_hex.body
theorem color_hex.s22 (w0 : World) (k : Nat) : ∀ v K, color_hex.L22 k v K = runK (cfg w0 (tab10 k)) Tryd.f65.ntmps (color_hex.kr w0 k) (annot (color_hex.cuts w0 k) color_hex.b22) (mkSt [0] (io0.enc v)) (outK (cfg w0 (tab10 k)) 0 color_hex.x22 K) := by
  intro v K; kernel_rfl
theorem color_hex.e (w0 : World) (k : Nat) : ∀ v, (fun v => color_hex k v) v = runK (cfg w0 (tab10 k)) Tryd.f65.ntmps (color_hex.kr w0 k) (annot (color_hex.cuts w0 k) color_hex.body) (entry (io0.enc v).1 (io0.enc v).2) (endK (color_hex.kr w0 k)) := by
  intro v; kernel_rfl
theorem color_hex.hb : Tryd.f65.body = some color_hex.body := by kernel_rfl
def tab11 (k : Nat) : Tab T := addTab 65 (line io0 io3 ((0 : Int), false) (fun v => color_hex k v)) (tab10 k)
def stringslite_HasSuffix (k : Nat) (a1 : List UInt8) (a2 : List UInt8) : Option (Bool) :=
let v3 : Bool := (decide ((a1.length : Int) ≥ (a2.length : Int)))
let v4 : Int := (IntKind.wrap .i64 ((a1.length : Int) - (a2.length : Int)))
cond ((decide (0 ≤ v4 ∧ v4 ≤ (a1.length : Int))) || !v3) (
let v5 : Bool := (cond v3 ((a1.drop v4.toNat) == a2) false)
some v5) none
def stringslite_HasSuffix.kr (w0 : World) (k : Nat) : Kr T (Bool) := (kret (retK (cfg w0 (tab11 k)) Tryd.f104.results.toList 0 [] io5.pat))
def stringslite_HasSuffix.cuts (w0 : World) (k : Nat) : Cuts T (Bool) := fun n => none
def stringslite_HasSuffix.body : Code := bodyOf Tryd.f104
theorem stringslite_HasSuffix.e (w0 : World) (k : Nat) : ∀ v, (fun v => stringslite_HasSuffix k v.1 v.2) v = runK (cfg w0 (tab11 k)) Tryd.f104.ntmps (stringslite_HasSuffix.kr w0 k) (annot (stringslite_HasSuffix.cuts w0 k) stringslite_HasSuffix.body) (entry (io4.enc v).1 (io4.enc v).2) (endK (stringslite_HasSuffix.kr w0 k)) := by
  intro v; kernel_rfl
theorem stringslite_HasSuffix.hb : Tryd.f104.body = some stringslite_HasSuffix.body := by kernel_rfl
def tab12 (k : Nat) : Tab T := addTab 104 (line io4 io5 false (fun v => stringslite_HasSuffix k v.1 v.2)) (tab11 k)
def strings_HasSuffix (k : Nat) (a1 : List UInt8) (a2 : List UInt8) : Option (Bool) :=
(stringslite_HasSuffix k a1 a2).bind fun r3 =>
some r3
def strings_HasSuffix.kr (w0 : World) (k : Nat) : Kr T (Bool) := (kret (retK (cfg w0 (tab12 k)) Tryd.f66.results.toList 0 [] io5.pat))
def strings_HasSuffix.cuts (w0 : World) (k : Nat) : Cuts T (Bool) := fun n => none
def strings_HasSuffix.body : Code := bodyOf Tryd.f66
theorem strings_HasSuffix.e (w0 : World) (k : Nat) : ∀ v, (fun v => strings_HasSuffix k v.1 v.2) v = runK (cfg w0 (tab12 k)) Tryd.f66.ntmps (strings_HasSuffix.kr w0 k) (annot (strings_HasSuffix.cuts w0 k) strings_HasSuffix.body) (entry (io4.enc v).1 (io4.enc v).2) (endK (strings_HasSuffix.kr w0 k)) := by
  intro v; kernel_rfl
theorem strings_HasSuffix.hb : Tryd.f66.body = some strings_HasSuffix.body := by kernel_rfl
def tab13 (k : Nat) : Tab T := addTab 66 (line io4 io5 false (fun v => strings_HasSuffix k v.1 v.2)) (tab12 k)
def strings_Count (k : Nat) (a3 : List UInt8) (a4 : List UInt8) : Option (Int) := cntS a3 a4
def tab14 (k : Nat) : Tab T := addTab 21 (line io4 io15 (0 : Int) (fun v => strings_Count k v.1 v.2)) (tab13 k)
def strings_genSplit.c14 (k : Nat) (x8 : List UInt8) (x9 : List UInt8) (x10 : Int) (x11 : Int)  : Option (Unit) :=
let v12 : Int := (IntKind.wrap .i64 ((x8.length : Int) + (1 : Int)))
let v13 : Int := (if v12 < x11 then v12 else x11)
none
def strings_genSplit (k : Nat) (a1 : List UInt8) (a2 : List UInt8) (a3 : Int) (a4 : Int) : Option (Unit) :=
cond (a4 == (0 : Int)) (
some ()) (
cond (a2 == ([] : List UInt8)) (
none) (
cond (decide (a4 < (0 : Int))) (
(strings_Count k a1 a2).bind fun r6 =>
let v7 : Int := (IntKind.wrap .i64 (r6 + (1 : Int)))
strings_genSplit.c14 k a1 a2 a3 v7) (
strings_genSplit.c14 k a1 a2 a3 a4)))
def strings_genSplit.kr (w0 : World) (k : Nat) : Kr T (Unit) := (kret (retK (cfg w0 (tab14 k)) Tryd.f161.results.toList 0 [] io17.pat))
def strings_genSplit.x14 : Ex → Option (List Nat × List Sp)
  | _ => none
def strings_genSplit.L14 (k : Nat) (v : (List UInt8) × (List UInt8) × Int × Int) (K : Ex → St T → Option (Unit)) : Option (Unit) := strings_genSplit.c14 k v.1 v.2.1 v.2.2.1 v.2.2.2
def strings_genSplit.cuts (w0 : World) (k : Nat) : Cuts T (Unit) := fun n => bif n.beq 14 then some (entK (cfg w0 (tab14 k)) 0 [0, 1, 2, 3] [] io16.pat (strings_genSplit.L14 k)) else none
def strings_genSplit.body : Code := bodyOf Tryd.f161
def strings_genSplit.b14 : Code := findD 14 strings_genSplit.body
theorem strings_genSplit.s14 (w0 : World) (k : Nat) : ∀ v K, strings_genSplit.L14 k v K = runK (cfg w0 (tab14 k)) Tryd.f161.ntmps (strings_genSplit.kr w0 k) (annot (strings_genSplit.cuts w0 k) strings_genSplit.b14) (mkSt [0, 1, 2, 3] (io16.enc v)) (outK (cfg w0 (tab14 k)) 0 strings_genSplit.x14 K) := by
  intro v K; kernel_rfl
theorem strings_genSplit.e (w0 : World) (k : Nat) : ∀ v, (fun v => strings_genSplit k v.1 v.2.1 v.2.2.1 v.2.2.2) v = runK (cfg w0 (tab14 k)) Tryd.f161.ntmps (strings_genSplit.kr w0 k) (annot (strings_genSplit.cuts w0 k) strings_genSplit.body) (entry (io16.enc v).1 (io16.enc v).2) (endK (strings_genSplit.kr w0 k)) := by
  intro v; kernel_rfl
theorem strings_genSplit.hb : Tryd.f161.body = some strings_genSplit.body := by kernel_rfl
def tab15 (k : Nat) : Tab T := addTab 161 (line io16 io17 () (fun v => strings_genSplit k v.1 v.2.1 v.2.2.1 v.2.2.2)) (tab14 k)
def strings_Split (k : Nat) (a1 : List UInt8) (a2 : List UInt8) : Option (Unit) :=
(strings_genSplit k a1 a2 (0 : Int) (-1 : Int)).bind fun r3 =>
some ()
def strings_Split.kr (w0 : World) (k : Nat) : Kr T (Unit) := (kret (retK (cfg w0 (tab15 k)) Tryd.f105.results.toList 0 [] io17.pat))
def strings_Split.cuts (w0 : World) (k : Nat) : Cuts T (Unit) := fun n => none
def strings_Split.body : Code := bodyOf Tryd.f105
theorem strings_Split.e (w0 : World) (k : Nat) : ∀ v, (fun v => strings_Split k v.1 v.2) v = runK (cfg w0 (tab15 k)) Tryd.f105.ntmps (strings_Split.kr w0 k) (annot (strings_Split.cuts w0 k) strings_Split.body) (entry (io4.enc v).1 (io4.enc v).2) (endK (strings_Split.kr w0 k)) := by
  intro v; kernel_rfl
theorem strings_Split.hb : Tryd.f105.body = some strings_Split.body := by kernel_rfl
def tab16 (k : Nat) : Tab T := addTab 105 (line io4 io17 () (fun v => strings_Split k v.1 v.2)) (tab15 k)
def stringslite_TrimPrefix (k : Nat) (a1 : List UInt8) (a2 : List UInt8) : Option (List UInt8) :=
(stringslite_HasPrefix k a1 a2).bind fun r3 =>
cond r3 (
cond (decide (0 ≤ (a2.length : Int) ∧ (a2.length : Int) ≤ (a1.length : Int))) (
let v4 : List UInt8 := (a1.drop (a2.length : Int).toNat)
some v4) none) (
some a1)
def stringslite_TrimPrefix.kr (w0 : World) (k : Nat) : Kr T (List UInt8) := (kret (retK (cfg w0 (tab16 k)) Tryd.f162.results.toList 0 [] io0.pat))
def stringslite_TrimPrefix.cuts (w0 : World) (k : Nat) : Cuts T (List UInt8) := fun n => none
def stringslite_TrimPrefix.body : Code := bodyOf Tryd.f162
theorem stringslite_TrimPrefix.e (w0 : World) (k : Nat) : ∀ v, (fun v => stringslite_TrimPrefix k v.1 v.2) v = runK (cfg w0 (tab16 k)) Tryd.f162.ntmps (stringslite_TrimPrefix.kr w0 k) (annot (stringslite_TrimPrefix.cuts w0 k) stringslite_TrimPrefix.body) (entry (io4.enc v).1 (io4.enc v).2) (endK (stringslite_TrimPrefix.kr w0 k)) := by
  intro v; kernel_rfl
theorem stringslite_TrimPrefix.hb : Tryd.f162.body = some stringslite_TrimPrefix.body := by kernel_rfl
def tab17 (k : Nat) : Tab T := addTab 162 (line io4 io0 [] (fun v => stringslite_TrimPrefix k v.1 v.2)) (tab16 k)
def strings_TrimPrefix (k : Nat) (a1 : List UInt8) (a2 : List UInt8) : Option (List UInt8) :=
(stringslite_TrimPrefix k a1 a2).bind fun r3 =>
some r3
def strings_TrimPrefix.kr (w0 : World) (k : Nat) : Kr T (List UInt8) := (kret (retK (cfg w0 (tab17 k)) Tryd.f106.results.toList 0 [] io0.pat))
def strings_TrimPrefix.cuts (w0 : World) (k : Nat) : Cuts T (List UInt8) := fun n => none
def strings_TrimPrefix.body : Code := bodyOf Tryd.f106
theorem strings_TrimPrefix.e (w0 : World) (k : Nat) : ∀ v, (fun v => strings_TrimPrefix k v.1 v.2) v = runK (cfg w0 (tab17 k)) Tryd.f106.ntmps (strings_TrimPrefix.kr w0 k) (annot (strings_TrimPrefix.cuts w0 k) strings_TrimPrefix.body) (entry (io4.enc v).1 (io4.enc v).2) (endK (strings_TrimPrefix.kr w0 k)) := by
  intro v; kernel_rfl
theorem strings_TrimPrefix.hb : Tryd.f106.body = some strings_TrimPrefix.body := by kernel_rfl
def tab18 (k : Nat) : Tab T := addTab 106 (line io4 io0 [] (fun v => strings_TrimPrefix k v.1 v.2)) (tab17 k)
def color_parts.c20 (k : Nat) (x10 : Int) (x11 : List UInt8) (x12 : Int) (x13 : Int) (x14 : List (List UInt8))  : Option (Int × Bool) :=
none
def color_parts.c13 (k : Nat) : Nat → Int → Int → Int → (List (List UInt8)) → (Int → (List (List UInt8)) → Option (Int × Bool)) → Option (Int × Bool)
  | 0, _, _, _, _, _ => none
  | n + 1, x5, x6, x7, x8, k0 =>
    cond (decide (x7 < x6)) (
    cond (decide (0 ≤ x7 ∧ x7 < (x8.length : Int))) (
    cond (decide (x7 > (0 : Int))) (
    (strings_TrimPrefix k (x8.getD x7.toNat []) ([32] : List UInt8)).bind fun r9 =>
    color_parts.c20 k x5 r9 x6 x7 x8) (
    color_parts.c20 k x5 (x8.getD x7.toNat []) x6 x7 x8)) none) (
    k0 x5 x8)
def color_parts.c8 (k : Nat) (x4 : List (List UInt8))  : Option (Int × Bool) :=
color_parts.c13 k k (0 : Int) (x4.length : Int) (0 : Int) x4 (fun (y16 : Int) (y17 : List (List UInt8)) =>
let v18 : Bool := ((y17.length : Int) == (4 : Int))
some (y16, v18))
def color_parts (k : Nat) (a1 : List UInt8) : Option (Int × Bool) :=
(strings_Split k a1 ([44] : List UInt8)).bind fun r2 =>
let v3 : Bool := (((0 : Nat) : Int) == (3 : Int))
cond v3 (
cond (decide (([([50, 53, 53] : List UInt8)]).length < most)) (
color_parts.c8 k ([([50, 53, 53] : List UInt8)])) none) (
color_parts.c8 k ([] : List (List UInt8)))
def color_parts.kr (w0 : World) (k : Nat) : Kr T (Int × Bool) := (kret (retK (cfg w0 (tab18 k)) Tryd.f67.results.toList 0 [] io3.pat))
def color_parts.x20 : Ex → Option (List Nat × List Sp)
  | _ => none
def color_parts.L20 (k : Nat) (v : Int × (List UInt8) × Int × Int × (List (List UInt8))) (K : Ex → St T → Option (Int × Bool)) : Option (Int × Bool) := color_parts.c20 k v.1 v.2.1 v.2.2.1 v.2.2.2.1 v.2.2.2.2
def color_parts.x13 : Ex → Option (List Nat × List Sp)
  | .exit 0 => some ([4, 5], [])
  | _ => none
def color_parts.L13 (k : Nat) (n : Nat) (v : Int × Int × Int × (List (List UInt8))) (K : Ex → St T → Option (Int × Bool)) : Option (Int × Bool) := color_parts.c13 k n v.1 v.2.1 v.2.2.1 v.2.2.2 (fun y28 y29 => K (.exit 0) (mkSt [4, 5] (io20.enc (y28, y29))))
def color_parts.x8 : Ex → Option (List Nat × List Sp)
  | _ => none
def color_parts.L8 (k : Nat) (v : List (List UInt8)) (K : Ex → St T → Option (Int × Bool)) : Option (Int × Bool) := color_parts.c8 k v
def color_parts.cuts (w0 : World) (k : Nat) : Cuts T (Int × Bool) := fun n => bif n.beq 20 then some (entK (cfg w0 (tab18 k)) 0 [4, 5, 7, 18, 19, 20] [] io18.pat (color_parts.L20 k)) else bif n.beq 13 then some (entK (cfg w0 (tab18 k)) 0 [4, 5, 18, 19, 20] [] io19.pat (color_parts.L13 k k)) else bif n.beq 8 then some (entK (cfg w0 (tab18 k)) 0 [4] [.own 4 9] io21.pat (color_parts.L8 k)) else none
def color_parts.body : Code := bodyOf Tryd.f67
def color_parts.b20 : Code := findD 20 color_parts.body
theorem color_parts.s20 (w0 : World) (k : Nat) : ∀ v K, color_parts.L20 k v K = runK (cfg w0 (tab18 k)) Tryd.f67.ntmps (color_parts.kr w0 k) (annot (color_parts.cuts w0 k) color_parts.b20) (mkSt [4, 5, 7, 18, 19, 20] (io18.enc v)) (outK (cfg w0 (tab18 k)) 0 color_parts.x20 K) := by
  intro v K; kernel_rfl
def color_parts.b13 : Code := findD 13 color_parts.body
theorem color_parts.s13 (w0 : World) (k : Nat) : ∀ n v K, color_parts.L13 k (n + 1) v K = runK (cfg w0 (tab18 k)) Tryd.f67.ntmps (color_parts.kr w0 k) (annot (color_parts.cuts w0 k) color_parts.b13) (mkSt [4, 5, 18, 19, 20] (io19.enc v)) (loopK (cfg w0 (tab18 k)) 0 color_parts.x13 (entK (cfg w0 (tab18 k)) 0 [4, 5, 18, 19, 20] [] io19.pat (color_parts.L13 k n)) K) := by
  intro n v K; kernel_rfl
def color_parts.b8 : Code := findD 8 color_parts.body
theorem color_parts.s8 (w0 : World) (k : Nat) : ∀ v K, color_parts.L8 k v K = runK (cfg w0 (tab18 k)) Tryd.f67.ntmps (color_parts.kr w0 k) (annot (color_parts.cuts w0 k) color_parts.b8) (mkSt [4] (io21.enc v)) (outK (cfg w0 (tab18 k)) 0 color_parts.x8 K) := by
  intro v K; kernel_rfl
theorem color_parts.e (w0 : World) (k : Nat) : ∀ v, (fun v => color_parts k v) v = runK (cfg w0 (tab18 k)) Tryd.f67.ntmps (color_parts.kr w0 k) (annot (color_parts.cuts w0 k) color_parts.body) (entry (io0.enc v).1 (io0.enc v).2) (endK (color_parts.kr w0 k)) := by
  intro v; kernel_rfl
theorem color_parts.hb : Tryd.f67.body = some color_parts.body := by kernel_rfl
def tab19 (k : Nat) : Tab T := addTab 67 (line io0 io3 ((0 : Int), false) (fun v => color_parts k v)) (tab18 k)
def color_Read.c28 (k : Nat) (x9 : Int) (x10 : Bool)  : Option (Int × Int) :=
cond (!x10) (
some ((0 : Int), (4 : Int))) (
some (x9, (0 : Int)))
def color_Read (k : Nat) (a1 : List UInt8) : Option (Int × Int) :=
(color_lower k a1).bind fun r2 =>
let v3 : Bool := (r2 == ([116, 114, 97, 110, 115, 112, 97, 114, 101, 110, 116] : List UInt8))
cond v3 (
some ((0 : Int), (0 : Int))) (
(color_named k r2).bind fun r4 =>
cond r4.2 (
cond (decide (0 ≤ (8 : Int))) (
let v5 : Int := (IntKind.wrap .i64 (r4.1 * 2 ^ (min (8 : Int).toNat (IntKind.bits .i64))))
let v6 : Int := (IntKind.wrap .i64 (((BitVec.ofInt (IntKind.bits .i64) v5 ||| BitVec.ofInt (IntKind.bits .i64) (255 : Int)).toNat : Int)))
some (v6, (0 : Int))) none) (
(strings_CutPrefix k r2 ([35] : List UInt8)).bind fun r7 =>
cond r7.2 (
(color_hex k r7.1).bind fun r8 =>
color_Read.c28 k r8.1 r8.2) (
(strings_CutPrefix k r2 ([114, 103, 98, 40] : List UInt8)).bind fun r11 =>
(cond r11.2 (strings_HasSuffix k r11.1 ([41] : List UInt8)) (some false)).bind fun r12 =>
let v13 : Bool := (decide ((r11.1.length : Int) ≤ (40 : Int)))
let v14 : Bool := (cond (cond r11.2 r12 false) v13 false)
cond v14 (
let v15 : Int := (IntKind.wrap .i64 ((r11.1.length : Int) - (1 : Int)))
cond (decide (0 ≤ v15 ∧ v15 ≤ (r11.1.length : Int))) (
(color_parts k (r11.1.take v15.toNat)).bind fun r16 =>
color_Read.c28 k r16.1 r16.2) none) (
color_Read.c28 k (0 : Int) false))))
def color_Read.kr (w0 : World) (k : Nat) : Kr T (Int × Int) := (kret (retK (cfg w0 (tab19 k)) Tryd.f32.results.toList 0 [] io22.pat))
def color_Read.x28 : Ex → Option (List Nat × List Sp)
  | _ => none
def color_Read.L28 (k : Nat) (v : Int × Bool) (K : Ex → St T → Option (Int × Int)) : Option (Int × Int) := color_Read.c28 k v.1 v.2
def color_Read.cuts (w0 : World) (k : Nat) : Cuts T (Int × Int) := fun n => bif n.beq 28 then some (entK (cfg w0 (tab19 k)) 0 [6, 7] [] io3.pat (color_Read.L28 k)) else none
def color_Read.body : Code := bodyOf Tryd.f32
def color_Read.b28 : Code := findD 28 color_Read.body
theorem color_Read.s28 (w0 : World) (k : Nat) : ∀ v K, color_Read.L28 k v K = runK (cfg w0 (tab19 k)) Tryd.f32.ntmps (color_Read.kr w0 k) (annot (color_Read.cuts w0 k) color_Read.b28) (mkSt [6, 7] (io3.enc v)) (outK (cfg w0 (tab19 k)) 0 color_Read.x28 K) := by
  intro v K; kernel_rfl
theorem color_Read.e (w0 : World) (k : Nat) : ∀ v, (fun v => color_Read k v) v = runK (cfg w0 (tab19 k)) Tryd.f32.ntmps (color_Read.kr w0 k) (annot (color_Read.cuts w0 k) color_Read.body) (entry (io0.enc v).1 (io0.enc v).2) (endK (color_Read.kr w0 k)) := by
  intro v; kernel_rfl
theorem color_Read.hb : Tryd.f32.body = some color_Read.body := by kernel_rfl
def tab20 (k : Nat) : Tab T := addTab 32 (line io0 io22 ((0 : Int), (0 : Int)) (fun v => color_Read k v)) (tab19 k)
def clerestorykeep2_red (k : Nat)  : Option (Bool) :=
(color_Read k ([35, 70, 48, 48] : List UInt8)).bind fun r1 =>
let v2 : Bool := (cond (r1.2 == (0 : Int)) (r1.1 == (4278190335 : Int)) false)
some v2
def clerestorykeep2_red.kr (w0 : World) (k : Nat) : Kr T (Bool) := (kret (retK (cfg w0 (tab20 k)) Tryd.f28.results.toList 0 [] io5.pat))
def clerestorykeep2_red.cuts (w0 : World) (k : Nat) : Cuts T (Bool) := fun n => none
def clerestorykeep2_red.body : Code := bodyOf Tryd.f28
theorem clerestorykeep2_red.e (w0 : World) (k : Nat) : ∀ v, (fun v => clerestorykeep2_red k ) v = runK (cfg w0 (tab20 k)) Tryd.f28.ntmps (clerestorykeep2_red.kr w0 k) (annot (clerestorykeep2_red.cuts w0 k) clerestorykeep2_red.body) (entry (io23.enc v).1 (io23.enc v).2) (endK (clerestorykeep2_red.kr w0 k)) := by
  intro v; kernel_rfl
theorem clerestorykeep2_red.hb : Tryd.f28.body = some clerestorykeep2_red.body := by kernel_rfl
def tab21 (k : Nat) : Tab T := addTab 28 (line io23 io5 false (fun v => clerestorykeep2_red k )) (tab20 k)
def strconv_FormatUint (k : Nat) (a5 : Int) (a6 : Int) : Option (List UInt8) := Fm.fmtS a5 a6
def tab22 (k : Nat) : Tab T := addTab 60 (line io24 io0 [] (fun v => strconv_FormatUint k v.1 v.2)) (tab21 k)
def color_tail (k : Nat) (a1 : List UInt8) : Option (List UInt8) :=
let v2 : Bool := (a1 == ([102, 102] : List UInt8))
cond v2 (
some ([] : List UInt8)) (
some a1)
def color_tail.kr (w0 : World) (k : Nat) : Kr T (List UInt8) := (kret (retK (cfg w0 (tab22 k)) Tryd.f61.results.toList 0 [] io0.pat))
def color_tail.cuts (w0 : World) (k : Nat) : Cuts T (List UInt8) := fun n => none
def color_tail.body : Code := bodyOf Tryd.f61
theorem color_tail.e (w0 : World) (k : Nat) : ∀ v, (fun v => color_tail k v) v = runK (cfg w0 (tab22 k)) Tryd.f61.ntmps (color_tail.kr w0 k) (annot (color_tail.cuts w0 k) color_tail.body) (entry (io0.enc v).1 (io0.enc v).2) (endK (color_tail.kr w0 k)) := by
  intro v; kernel_rfl
theorem color_tail.hb : Tryd.f61.body = some color_tail.body := by kernel_rfl
def tab23 (k : Nat) : Tab T := addTab 61 (line io0 io0 [] (fun v => color_tail k v)) (tab22 k)
def color_Text (k : Nat) (a1 : Int) : Option (List UInt8) :=
let v2 : Int := (IntKind.wrap .u64 (IntKind.wrap .u32 a1))
let v3 : Int := (IntKind.wrap .u64 (v2 + (4294967296 : Int)))
(strconv_FormatUint k v3 (16 : Int)).bind fun r4 =>
cond (decide (0 ≤ (1 : Int) ∧ (1 : Int) ≤ (r4.length : Int))) (
cond (decide (0 ≤ (6 : Int) ∧ (6 : Int) ≤ ((r4.drop (1 : Int).toNat).length : Int))) (
let v5 : List UInt8 := ((r4.drop (1 : Int).toNat).take (6 : Int).toNat)
cond (Nat.ble (([35] : List UInt8).length + v5.length) 9223372036854775807) (
cond (decide (0 ≤ (6 : Int) ∧ (6 : Int) ≤ ((r4.drop (1 : Int).toNat).length : Int))) (
let v6 : List UInt8 := ((r4.drop (1 : Int).toNat).drop (6 : Int).toNat)
(color_tail k v6).bind fun r7 =>
cond (Nat.ble ((([35] : List UInt8) ++ v5).length + r7.length) 9223372036854775807) (
let v8 : List UInt8 := ((([35] : List UInt8) ++ v5) ++ r7)
some v8) none) none) none) none) none
def color_Text.kr (w0 : World) (k : Nat) : Kr T (List UInt8) := (kret (retK (cfg w0 (tab23 k)) Tryd.f31.results.toList 0 [] io0.pat))
def color_Text.cuts (w0 : World) (k : Nat) : Cuts T (List UInt8) := fun n => none
def color_Text.body : Code := bodyOf Tryd.f31
theorem color_Text.e (w0 : World) (k : Nat) : ∀ v, (fun v => color_Text k v) v = runK (cfg w0 (tab23 k)) Tryd.f31.ntmps (color_Text.kr w0 k) (annot (color_Text.cuts w0 k) color_Text.body) (entry (io15.enc v).1 (io15.enc v).2) (endK (color_Text.kr w0 k)) := by
  intro v; kernel_rfl
theorem color_Text.hb : Tryd.f31.body = some color_Text.body := by kernel_rfl
def tab24 (k : Nat) : Tab T := addTab 31 (line io15 io0 [] (fun v => color_Text k v)) (tab23 k)
def clerestorykeep2_ColorBack.c13 (k : Nat) : Nat → Int → Bool → Int → Int → Int → (List Int) → (Int → Bool → Int → Int → (List Int) → Option (Bool)) → Option (Bool)
  | 0, _, _, _, _, _, _, _ => none
  | n + 1, x5, x6, x7, x8, x9, x10, k0 =>
    let v11 : Bool := (decide (x9 < (x10.length : Int)))
    cond v11 (
    cond (decide (0 ≤ x9 ∧ x9 < (x10.length : Int))) (
    let v12 : Bool := (decide ((x10.getD x9.toNat (0 : Int)) ≥ (97 : Int)))
    cond v12 (
    cond (decide (0 ≤ x9 ∧ x9 < (x10.length : Int))) (
    let v13 : Int := (IntKind.wrap .u8 ((x10.getD x9.toNat (0 : Int)) - (32 : Int)))
    cond (decide (0 ≤ x9 ∧ x9 < (x10.length : Int))) (
    let v14 : Int := (IntKind.wrap .i64 (x9 + (1 : Int)))
    clerestorykeep2_ColorBack.c13 k n x5 x6 x7 x8 v14 (x10.set x9.toNat v13) k0) none) none) (
    let v15 : Int := (IntKind.wrap .i64 (x9 + (1 : Int)))
    clerestorykeep2_ColorBack.c13 k n x5 x6 x7 x8 v15 x10 k0)) none) (
    k0 x5 x6 x7 x8 x10)
def clerestorykeep2_ColorBack (k : Nat) (a1 : Int) : Option (Bool) :=
(clerestorykeep2_red k).bind fun r2 =>
(color_Text k a1).bind fun r3 =>
(color_Read k r3).bind fun r4 =>
clerestorykeep2_ColorBack.c13 k k a1 r2 r4.1 r4.2 (0 : Int) (bytesI r3) (fun (y16 : Int) (y17 : Bool) (y18 : Int) (y19 : Int) (y20 : List Int) =>
(color_Read k (bytesU y20)).bind fun r21 =>
let v22 : Bool := (cond y17 (y19 == (0 : Int)) false)
let v23 : Bool := (cond v22 (r21.2 == (0 : Int)) false)
let v24 : Int := (IntKind.wrap .i64 (IntKind.wrap .u32 y16))
let v25 : Bool := (cond (cond v23 (y18 == v24) false) (r21.1 == y18) false)
some v25)
def clerestorykeep2_ColorBack.kr (w0 : World) (k : Nat) : Kr T (Bool) := (kret (retK (cfg w0 (tab24 k)) Tryd.f11.results.toList 0 [] io5.pat))
def clerestorykeep2_ColorBack.x13 : Ex → Option (List Nat × List Sp)
  | .exit 0 => some ([0, 3, 5, 6, 7], [])
  | _ => none
def clerestorykeep2_ColorBack.L13 (k : Nat) (n : Nat) (v : Int × Bool × Int × Int × Int × (List Int)) (K : Ex → St T → Option (Bool)) : Option (Bool) := clerestorykeep2_ColorBack.c13 k n v.1 v.2.1 v.2.2.1 v.2.2.2.1 v.2.2.2.2.1 v.2.2.2.2.2 (fun y30 y31 y32 y33 y34 => K (.exit 0) (mkSt [0, 3, 5, 6, 7] (io26.enc (y30, y31, y32, y33, y34))))
def clerestorykeep2_ColorBack.cuts (w0 : World) (k : Nat) : Cuts T (Bool) := fun n => bif n.beq 13 then some (entK (cfg w0 (tab24 k)) 0 [0, 3, 5, 6, 7, 8] [] io25.pat (clerestorykeep2_ColorBack.L13 k k)) else none
def clerestorykeep2_ColorBack.body : Code := bodyOf Tryd.f11
def clerestorykeep2_ColorBack.b13 : Code := findD 13 clerestorykeep2_ColorBack.body
theorem clerestorykeep2_ColorBack.s13 (w0 : World) (k : Nat) : ∀ n v K, clerestorykeep2_ColorBack.L13 k (n + 1) v K = runK (cfg w0 (tab24 k)) Tryd.f11.ntmps (clerestorykeep2_ColorBack.kr w0 k) (annot (clerestorykeep2_ColorBack.cuts w0 k) clerestorykeep2_ColorBack.b13) (mkSt [0, 3, 5, 6, 7, 8] (io25.enc v)) (loopK (cfg w0 (tab24 k)) 0 clerestorykeep2_ColorBack.x13 (entK (cfg w0 (tab24 k)) 0 [0, 3, 5, 6, 7, 8] [] io25.pat (clerestorykeep2_ColorBack.L13 k n)) K) := by
  intro n v K; kernel_rfl
theorem clerestorykeep2_ColorBack.e (w0 : World) (k : Nat) : ∀ v, (fun v => clerestorykeep2_ColorBack k v) v = runK (cfg w0 (tab24 k)) Tryd.f11.ntmps (clerestorykeep2_ColorBack.kr w0 k) (annot (clerestorykeep2_ColorBack.cuts w0 k) clerestorykeep2_ColorBack.body) (entry (io15.enc v).1 (io15.enc v).2) (endK (clerestorykeep2_ColorBack.kr w0 k)) := by
  intro v; kernel_rfl
theorem clerestorykeep2_ColorBack.hb : Tryd.f11.body = some clerestorykeep2_ColorBack.body := by kernel_rfl
def tab25 (k : Nat) : Tab T := addTab 11 (line io15 io5 false (fun v => clerestorykeep2_ColorBack k v)) (tab24 k)
attribute [local irreducible] runK retK annot entry
theorem ok0 (w0 : World) (hw : Wd w0) (k : Nat) : CfOk (cfg w0 (tab0 k)) := noTab_ok fun _ _ _ => rfl
theorem sim_cf {w0 : World} {t t' : Tab T} {f : FuncId} {a : List (V T)} {b : List (Obj T)} {c : List (V T)} {d : List (Obj T)} (h : Sim (cfg w0 t) f a b c d) : Sim (cfg w0 t') f a b c d := h
theorem simP_cf {w0 : World} {t t' : Tab T} {f : FuncId} {a : List (V T)} {b : List (Obj T)} {c : List (V T)} {d : List (Obj T)} {p : V T} {q : Bool} (h : (q = false → Sim (cfg w0 t) f a b c d) ∧ (q = true → SimP (cfg w0 t) f a b p)) : (q = false → Sim (cfg w0 t') f a b c d) ∧ (q = true → SimP (cfg w0 t') f a b p) := h
theorem color_lower.a7 (w0 : World) (k : Nat) : cutsAt (fun n => (color_lower.cuts w0 k n).isSome) color_lower.b7 = [] := by kernel_rfl
theorem color_lower.a (w0 : World) (k : Nat) : cutsAt (fun n => (color_lower.cuts w0 k n).isSome) color_lower.body = [(7, Code.loop color_lower.b7)] := by kernel_rfl
theorem color_lower.so7 (w0 : World) (hw : Wd w0) (k : Nat) : Sound (cfg w0 (tab0 k)) Tryd.f62.ntmps 0 (color_lower.kr w0 k) (.loop color_lower.b7) (entK (cfg w0 (tab0 k)) 0 [3, 8, 9, 10] [] io1.pat (color_lower.L7 k k)) :=
  loop_ok (fine w0 hw _ (ok0 w0 hw k)) (dr w0 hw _ (ok0 w0 hw k)) (good_cuts (color_lower.a7 w0 k) trivial) io1.ok (xn := color_lower.x7) (L := color_lower.L7 k) (fun v K => rfl) (color_lower.s7 w0 k) k
theorem color_lower.sim (w0 : World) (hw : Wd w0) (k : Nat) : ∀ v x, (fun v => color_lower k v) v = some x → Sim (cfg w0 (tab0 k)) 62 (io0.enc v).1 (io0.enc v).2 (io0.enc x).1 (io0.enc x).2 :=
  sim_of (c := (cfg w0 (tab0 k))) (fine w0 hw _ (ok0 w0 hw k)) (dr w0 hw _ (ok0 w0 hw k)) (i := io0) (o := io0) (ps := []) (cuts := fun _ => color_lower.cuts w0 k) (m := 0) (g := fun v => color_lower k v) Tryd.func62 (by kernel_rfl) color_lower.hb (fun _ => rfl) (fun _ => Nat.le_of_ble_eq_true rfl) (good_cuts (color_lower.a w0 k) ⟨fun f hf => by cases hf; exact color_lower.so7 w0 hw k, trivial⟩) (color_lower.e w0 k)
theorem ok1 (w0 : World) (hw : Wd w0) (k : Nat) : CfOk (cfg w0 (tab1 k)) := addTab_ok (ok0 w0 hw k) (color_lower.sim w0 hw k)
theorem color_named.a (w0 : World) (k : Nat) : cutsAt (fun n => (color_named.cuts w0 k n).isSome) color_named.body = [] := by kernel_rfl
theorem color_named.sim (w0 : World) (hw : Wd w0) (k : Nat) : ∀ v x, (fun v => color_named k v) v = some x → Sim (cfg w0 (tab1 k)) 63 (io0.enc v).1 (io0.enc v).2 (io3.enc x).1 (io3.enc x).2 :=
  sim_of (c := (cfg w0 (tab1 k))) (fine w0 hw _ (ok1 w0 hw k)) (dr w0 hw _ (ok1 w0 hw k)) (i := io0) (o := io3) (ps := []) (cuts := fun _ => color_named.cuts w0 k) (m := 0) (g := fun v => color_named k v) Tryd.func63 (by kernel_rfl) color_named.hb (fun _ => rfl) (fun _ => Nat.le_of_ble_eq_true rfl) (good_cuts (color_named.a w0 k) trivial) (color_named.e w0 k)
theorem ok2 (w0 : World) (hw : Wd w0) (k : Nat) : CfOk (cfg w0 (tab2 k)) := addTab_ok (ok1 w0 hw k) (color_named.sim w0 hw k)
theorem stringslite_HasPrefix.a (w0 : World) (k : Nat) : cutsAt (fun n => (stringslite_HasPrefix.cuts w0 k n).isSome) stringslite_HasPrefix.body = [] := by kernel_rfl
theorem stringslite_HasPrefix.sim (w0 : World) (hw : Wd w0) (k : Nat) : ∀ v x, (fun v => stringslite_HasPrefix k v.1 v.2) v = some x → Sim (cfg w0 (tab2 k)) 155 (io4.enc v).1 (io4.enc v).2 (io5.enc x).1 (io5.enc x).2 :=
  sim_of (c := (cfg w0 (tab2 k))) (fine w0 hw _ (ok2 w0 hw k)) (dr w0 hw _ (ok2 w0 hw k)) (i := io4) (o := io5) (ps := []) (cuts := fun _ => stringslite_HasPrefix.cuts w0 k) (m := 0) (g := fun v => stringslite_HasPrefix k v.1 v.2) Tryd.func155 (by kernel_rfl) stringslite_HasPrefix.hb (fun _ => rfl) (fun _ => Nat.le_of_ble_eq_true rfl) (good_cuts (stringslite_HasPrefix.a w0 k) trivial) (stringslite_HasPrefix.e w0 k)
theorem ok3 (w0 : World) (hw : Wd w0) (k : Nat) : CfOk (cfg w0 (tab3 k)) := addTab_ok (ok2 w0 hw k) (stringslite_HasPrefix.sim w0 hw k)
theorem stringslite_CutPrefix.a (w0 : World) (k : Nat) : cutsAt (fun n => (stringslite_CutPrefix.cuts w0 k n).isSome) stringslite_CutPrefix.body = [] := by kernel_rfl
theorem stringslite_CutPrefix.sim (w0 : World) (hw : Wd w0) (k : Nat) : ∀ v x, (fun v => stringslite_CutPrefix k v.1 v.2) v = some x → Sim (cfg w0 (tab3 k)) 100 (io4.enc v).1 (io4.enc v).2 (io6.enc x).1 (io6.enc x).2 :=
  sim_of (c := (cfg w0 (tab3 k))) (fine w0 hw _ (ok3 w0 hw k)) (dr w0 hw _ (ok3 w0 hw k)) (i := io4) (o := io6) (ps := []) (cuts := fun _ => stringslite_CutPrefix.cuts w0 k) (m := 0) (g := fun v => stringslite_CutPrefix k v.1 v.2) Tryd.func100 (by kernel_rfl) stringslite_CutPrefix.hb (fun _ => rfl) (fun _ => Nat.le_of_ble_eq_true rfl) (good_cuts (stringslite_CutPrefix.a w0 k) trivial) (stringslite_CutPrefix.e w0 k)
theorem ok4 (w0 : World) (hw : Wd w0) (k : Nat) : CfOk (cfg w0 (tab4 k)) := addTab_ok (ok3 w0 hw k) (stringslite_CutPrefix.sim w0 hw k)
theorem strings_CutPrefix.a (w0 : World) (k : Nat) : cutsAt (fun n => (strings_CutPrefix.cuts w0 k n).isSome) strings_CutPrefix.body = [] := by kernel_rfl
theorem strings_CutPrefix.sim (w0 : World) (hw : Wd w0) (k : Nat) : ∀ v x, (fun v => strings_CutPrefix k v.1 v.2) v = some x → Sim (cfg w0 (tab4 k)) 64 (io4.enc v).1 (io4.enc v).2 (io6.enc x).1 (io6.enc x).2 :=
  sim_of (c := (cfg w0 (tab4 k))) (fine w0 hw _ (ok4 w0 hw k)) (dr w0 hw _ (ok4 w0 hw k)) (i := io4) (o := io6) (ps := []) (cuts := fun _ => strings_CutPrefix.cuts w0 k) (m := 0) (g := fun v => strings_CutPrefix k v.1 v.2) Tryd.func64 (by kernel_rfl) strings_CutPrefix.hb (fun _ => rfl) (fun _ => Nat.le_of_ble_eq_true rfl) (good_cuts (strings_CutPrefix.a w0 k) trivial) (strings_CutPrefix.e w0 k)
theorem ok5 (w0 : World) (hw : Wd w0) (k : Nat) : CfOk (cfg w0 (tab5 k)) := addTab_ok (ok4 w0 hw k) (strings_CutPrefix.sim w0 hw k)
theorem strings_Trim.sim (w0 : World) (hw : Wd w0) (k : Nat) : ∀ v x, (fun v => strings_Trim k v.1 v.2) v = some x → Sim (cfg w0 (tab5 k)) 101 (io4.enc v).1 (io4.enc v).2 (io0.enc x).1 (io0.enc x).2 := by
  intro v x h; exact sim_trimB (c := cfg w0 (tab5 k)) (ρ := Sh.ren160) Sh.l160 (by kernel_rfl) h
theorem ok6 (w0 : World) (hw : Wd w0) (k : Nat) : CfOk (cfg w0 (tab6 k)) := addTab_ok (ok5 w0 hw k) (strings_Trim.sim w0 hw k)
theorem strings_Repeat.sim (w0 : World) (hw : Wd w0) (k : Nat) : ∀ v x, (fun v => strings_Repeat k v.1 v.2) v = some x → Sim (cfg w0 (tab6 k)) 102 (io7.enc v).1 (io7.enc v).2 (io0.enc x).1 (io0.enc x).2 := by
  intro v x h; exact sim_repS (c := cfg w0 (tab6 k)) (ρ := Sh.ren105) Sh.l105 Sh.ext105 h
theorem ok7 (w0 : World) (hw : Wd w0) (k : Nat) : CfOk (cfg w0 (tab7 k)) := addTab_ok (ok6 w0 hw k) (strings_Repeat.sim w0 hw k)
theorem f__strings_Builder__WriteString.sim (w0 : World) (hw : Wd w0) (k : Nat) : ∀ v x, (fun v => f__strings_Builder__WriteString k v.1 v.2) v = some x → Sim (cfg w0 (tab7 k)) 83 (io8.enc v).1 (io8.enc v).2 (io9.enc x).1 (io9.enc x).2 := by
  intro v x h; obtain ⟨s, hs, rfl⟩ := Option.map_eq_some_iff.1 h; exact sim_wStr (c := cfg w0 (tab7 k)) (ρ := Sh.blr) Sh.bl Sh.fWriteString Sh.ext rfl rfl hs
theorem ok8 (w0 : World) (hw : Wd w0) (k : Nat) : CfOk (cfg w0 (tab8 k)) := addTab_ok (ok7 w0 hw k) (f__strings_Builder__WriteString.sim w0 hw k)
theorem f__strings_Builder__String.sim (w0 : World) (hw : Wd w0) (k : Nat) : ∀ v x, (fun v => f__strings_Builder__String k v) v = some x → Sim (cfg w0 (tab8 k)) 48 (io10.enc v).1 (io10.enc v).2 (io11.enc x).1 (io11.enc x).2 := by
  intro v x h; cases h; exact sim_str (c := cfg w0 (tab8 k)) (ρ := Sh.blr) Sh.bl Sh.bl.f169 Sh.ext rfl rfl _
theorem ok9 (w0 : World) (hw : Wd w0) (k : Nat) : CfOk (cfg w0 (tab9 k)) := addTab_ok (ok8 w0 hw k) (f__strings_Builder__String.sim w0 hw k)
theorem strconv_ParseUint.sim (w0 : World) (hw : Wd w0) (k : Nat) : ∀ v x, (fun v => strconv_ParseUint k v.1 v.2.1 v.2.2) v = some x → Sim (cfg w0 (tab9 k)) 103 (io12.enc v).1 (io12.enc v).2 (io13.enc x).1 (io13.enc x).2 := by
  intro v x h; exact Pu.sim_par (c := cfg w0 (tab9 k)) rfl h
theorem ok10 (w0 : World) (hw : Wd w0) (k : Nat) : CfOk (cfg w0 (tab10 k)) := addTab_ok (ok9 w0 hw k) (strconv_ParseUint.sim w0 hw k)
theorem color_hex.a13 (w0 : World) (k : Nat) : cutsAt (fun n => (color_hex.cuts w0 k n).isSome) color_hex.b13 = [] := by kernel_rfl
theorem color_hex.a26 (w0 : World) (k : Nat) : cutsAt (fun n => (color_hex.cuts w0 k n).isSome) color_hex.b26 = [] := by kernel_rfl
theorem color_hex.a22 (w0 : World) (k : Nat) : cutsAt (fun n => (color_hex.cuts w0 k n).isSome) color_hex.b22 = [(26, color_hex.b26)] := by kernel_rfl
theorem color_hex.a (w0 : World) (k : Nat) : cutsAt (fun n => (color_hex.cuts w0 k n).isSome) color_hex.body = [(13, Code.loop color_hex.b13), (22, color_hex.b22)] := by kernel_rfl
theorem color_hex.so13 (w0 : World) (hw : Wd w0) (k : Nat) : Sound (cfg w0 (tab10 k)) Tryd.f65.ntmps 0 (color_hex.kr w0 k) (.loop color_hex.b13) (entK (cfg w0 (tab10 k)) 0 [0, 4, 20, 21] [] io14.pat (color_hex.L13 k k)) :=
  loop_ok (fine w0 hw _ (ok10 w0 hw k)) (dr w0 hw _ (ok10 w0 hw k)) (good_cuts (color_hex.a13 w0 k) trivial) io14.ok (xn := color_hex.x13) (L := color_hex.L13 k) (fun v K => rfl) (color_hex.s13 w0 k) k
theorem color_hex.so26 (w0 : World) (hw : Wd w0) (k : Nat) : Sound (cfg w0 (tab10 k)) Tryd.f65.ntmps 0 (color_hex.kr w0 k) color_hex.b26 (entK (cfg w0 (tab10 k)) 0 [0] [] io0.pat (color_hex.L26 k)) :=
  join_ok (fine w0 hw _ (ok10 w0 hw k)) (dr w0 hw _ (ok10 w0 hw k)) (good_cuts (color_hex.a26 w0 k) trivial) io0.ok (xn := color_hex.x26) (L := color_hex.L26 k) (color_hex.s26 w0 k)
theorem color_hex.so22 (w0 : World) (hw : Wd w0) (k : Nat) : Sound (cfg w0 (tab10 k)) Tryd.f65.ntmps 0 (color_hex.kr w0 k) color_hex.b22 (entK (cfg w0 (tab10 k)) 0 [0] [] io0.pat (color_hex.L22 k)) :=
  join_ok (fine w0 hw _ (ok10 w0 hw k)) (dr w0 hw _ (ok10 w0 hw k)) (good_cuts (color_hex.a22 w0 k) ⟨fun f hf => by cases hf; exact color_hex.so26 w0 hw k, trivial⟩) io0.ok (xn := color_hex.x22) (L := color_hex.L22 k) (color_hex.s22 w0 k)
theorem color_hex.sim (w0 : World) (hw : Wd w0) (k : Nat) : ∀ v x, (fun v => color_hex k v) v = some x → Sim (cfg w0 (tab10 k)) 65 (io0.enc v).1 (io0.enc v).2 (io3.enc x).1 (io3.enc x).2 :=
  sim_of (c := (cfg w0 (tab10 k))) (fine w0 hw _ (ok10 w0 hw k)) (dr w0 hw _ (ok10 w0 hw k)) (i := io0) (o := io3) (ps := []) (cuts := fun _ => color_hex.cuts w0 k) (m := 0) (g := fun v => color_hex k v) Tryd.func65 (by kernel_rfl) color_hex.hb (fun _ => rfl) (fun _ => Nat.le_of_ble_eq_true rfl) (good_cuts (color_hex.a w0 k) ⟨fun f hf => by cases hf; exact color_hex.so13 w0 hw k, fun f hf => by cases hf; exact color_hex.so22 w0 hw k, trivial⟩) (color_hex.e w0 k)
theorem ok11 (w0 : World) (hw : Wd w0) (k : Nat) : CfOk (cfg w0 (tab11 k)) := addTab_ok (ok10 w0 hw k) (color_hex.sim w0 hw k)
theorem stringslite_HasSuffix.a (w0 : World) (k : Nat) : cutsAt (fun n => (stringslite_HasSuffix.cuts w0 k n).isSome) stringslite_HasSuffix.body = [] := by kernel_rfl
theorem stringslite_HasSuffix.sim (w0 : World) (hw : Wd w0) (k : Nat) : ∀ v x, (fun v => stringslite_HasSuffix k v.1 v.2) v = some x → Sim (cfg w0 (tab11 k)) 104 (io4.enc v).1 (io4.enc v).2 (io5.enc x).1 (io5.enc x).2 :=
  sim_of (c := (cfg w0 (tab11 k))) (fine w0 hw _ (ok11 w0 hw k)) (dr w0 hw _ (ok11 w0 hw k)) (i := io4) (o := io5) (ps := []) (cuts := fun _ => stringslite_HasSuffix.cuts w0 k) (m := 0) (g := fun v => stringslite_HasSuffix k v.1 v.2) Tryd.func104 (by kernel_rfl) stringslite_HasSuffix.hb (fun _ => rfl) (fun _ => Nat.le_of_ble_eq_true rfl) (good_cuts (stringslite_HasSuffix.a w0 k) trivial) (stringslite_HasSuffix.e w0 k)
theorem ok12 (w0 : World) (hw : Wd w0) (k : Nat) : CfOk (cfg w0 (tab12 k)) := addTab_ok (ok11 w0 hw k) (stringslite_HasSuffix.sim w0 hw k)
theorem strings_HasSuffix.a (w0 : World) (k : Nat) : cutsAt (fun n => (strings_HasSuffix.cuts w0 k n).isSome) strings_HasSuffix.body = [] := by kernel_rfl
theorem strings_HasSuffix.sim (w0 : World) (hw : Wd w0) (k : Nat) : ∀ v x, (fun v => strings_HasSuffix k v.1 v.2) v = some x → Sim (cfg w0 (tab12 k)) 66 (io4.enc v).1 (io4.enc v).2 (io5.enc x).1 (io5.enc x).2 :=
  sim_of (c := (cfg w0 (tab12 k))) (fine w0 hw _ (ok12 w0 hw k)) (dr w0 hw _ (ok12 w0 hw k)) (i := io4) (o := io5) (ps := []) (cuts := fun _ => strings_HasSuffix.cuts w0 k) (m := 0) (g := fun v => strings_HasSuffix k v.1 v.2) Tryd.func66 (by kernel_rfl) strings_HasSuffix.hb (fun _ => rfl) (fun _ => Nat.le_of_ble_eq_true rfl) (good_cuts (strings_HasSuffix.a w0 k) trivial) (strings_HasSuffix.e w0 k)
theorem ok13 (w0 : World) (hw : Wd w0) (k : Nat) : CfOk (cfg w0 (tab13 k)) := addTab_ok (ok12 w0 hw k) (strings_HasSuffix.sim w0 hw k)
theorem strings_Count.sim (w0 : World) (hw : Wd w0) (k : Nat) : ∀ v x, (fun v => strings_Count k v.1 v.2) v = some x → Sim (cfg w0 (tab13 k)) 21 (io4.enc v).1 (io4.enc v).2 (io15.enc x).1 (io15.enc x).2 := by
  intro v x h; exact sim_cnt (c := cfg w0 (tab13 k)) (ρ := Sh.ren138) Sh.l138 h
theorem ok14 (w0 : World) (hw : Wd w0) (k : Nat) : CfOk (cfg w0 (tab14 k)) := addTab_ok (ok13 w0 hw k) (strings_Count.sim w0 hw k)
theorem strings_genSplit.a14 (w0 : World) (k : Nat) : cutsAt (fun n => (strings_genSplit.cuts w0 k n).isSome) strings_genSplit.b14 = [] := by kernel_rfl
theorem strings_genSplit.a (w0 : World) (k : Nat) : cutsAt (fun n => (strings_genSplit.cuts w0 k n).isSome) strings_genSplit.body = [(14, strings_genSplit.b14)] := by kernel_rfl
theorem strings_genSplit.so14 (w0 : World) (hw : Wd w0) (k : Nat) : Sound (cfg w0 (tab14 k)) Tryd.f161.ntmps 0 (strings_genSplit.kr w0 k) strings_genSplit.b14 (entK (cfg w0 (tab14 k)) 0 [0, 1, 2, 3] [] io16.pat (strings_genSplit.L14 k)) :=
  join_ok (fine w0 hw _ (ok14 w0 hw k)) (dr w0 hw _ (ok14 w0 hw k)) (good_cuts (strings_genSplit.a14 w0 k) trivial) io16.ok (xn := strings_genSplit.x14) (L := strings_genSplit.L14 k) (strings_genSplit.s14 w0 k)
theorem strings_genSplit.sim (w0 : World) (hw : Wd w0) (k : Nat) : ∀ v x, (fun v => strings_genSplit k v.1 v.2.1 v.2.2.1 v.2.2.2) v = some x → Sim (cfg w0 (tab14 k)) 161 (io16.enc v).1 (io16.enc v).2 (io17.enc x).1 (io17.enc x).2 :=
  sim_of (c := (cfg w0 (tab14 k))) (fine w0 hw _ (ok14 w0 hw k)) (dr w0 hw _ (ok14 w0 hw k)) (i := io16) (o := io17) (ps := []) (cuts := fun _ => strings_genSplit.cuts w0 k) (m := 0) (g := fun v => strings_genSplit k v.1 v.2.1 v.2.2.1 v.2.2.2) Tryd.func161 (by kernel_rfl) strings_genSplit.hb (fun _ => rfl) (fun _ => Nat.le_of_ble_eq_true rfl) (good_cuts (strings_genSplit.a w0 k) ⟨fun f hf => by cases hf; exact strings_genSplit.so14 w0 hw k, trivial⟩) (strings_genSplit.e w0 k)
theorem ok15 (w0 : World) (hw : Wd w0) (k : Nat) : CfOk (cfg w0 (tab15 k)) := addTab_ok (ok14 w0 hw k) (strings_genSplit.sim w0 hw k)
theorem strings_Split.a (w0 : World) (k : Nat) : cutsAt (fun n => (strings_Split.cuts w0 k n).isSome) strings_Split.body = [] := by kernel_rfl
theorem strings_Split.sim (w0 : World) (hw : Wd w0) (k : Nat) : ∀ v x, (fun v => strings_Split k v.1 v.2) v = some x → Sim (cfg w0 (tab15 k)) 105 (io4.enc v).1 (io4.enc v).2 (io17.enc x).1 (io17.enc x).2 :=
  sim_of (c := (cfg w0 (tab15 k))) (fine w0 hw _ (ok15 w0 hw k)) (dr w0 hw _ (ok15 w0 hw k)) (i := io4) (o := io17) (ps := []) (cuts := fun _ => strings_Split.cuts w0 k) (m := 0) (g := fun v => strings_Split k v.1 v.2) Tryd.func105 (by kernel_rfl) strings_Split.hb (fun _ => rfl) (fun _ => Nat.le_of_ble_eq_true rfl) (good_cuts (strings_Split.a w0 k) trivial) (strings_Split.e w0 k)
theorem ok16 (w0 : World) (hw : Wd w0) (k : Nat) : CfOk (cfg w0 (tab16 k)) := addTab_ok (ok15 w0 hw k) (strings_Split.sim w0 hw k)
theorem stringslite_TrimPrefix.a (w0 : World) (k : Nat) : cutsAt (fun n => (stringslite_TrimPrefix.cuts w0 k n).isSome) stringslite_TrimPrefix.body = [] := by kernel_rfl
theorem stringslite_TrimPrefix.sim (w0 : World) (hw : Wd w0) (k : Nat) : ∀ v x, (fun v => stringslite_TrimPrefix k v.1 v.2) v = some x → Sim (cfg w0 (tab16 k)) 162 (io4.enc v).1 (io4.enc v).2 (io0.enc x).1 (io0.enc x).2 :=
  sim_of (c := (cfg w0 (tab16 k))) (fine w0 hw _ (ok16 w0 hw k)) (dr w0 hw _ (ok16 w0 hw k)) (i := io4) (o := io0) (ps := []) (cuts := fun _ => stringslite_TrimPrefix.cuts w0 k) (m := 0) (g := fun v => stringslite_TrimPrefix k v.1 v.2) Tryd.func162 (by kernel_rfl) stringslite_TrimPrefix.hb (fun _ => rfl) (fun _ => Nat.le_of_ble_eq_true rfl) (good_cuts (stringslite_TrimPrefix.a w0 k) trivial) (stringslite_TrimPrefix.e w0 k)
theorem ok17 (w0 : World) (hw : Wd w0) (k : Nat) : CfOk (cfg w0 (tab17 k)) := addTab_ok (ok16 w0 hw k) (stringslite_TrimPrefix.sim w0 hw k)
theorem strings_TrimPrefix.a (w0 : World) (k : Nat) : cutsAt (fun n => (strings_TrimPrefix.cuts w0 k n).isSome) strings_TrimPrefix.body = [] := by kernel_rfl
theorem strings_TrimPrefix.sim (w0 : World) (hw : Wd w0) (k : Nat) : ∀ v x, (fun v => strings_TrimPrefix k v.1 v.2) v = some x → Sim (cfg w0 (tab17 k)) 106 (io4.enc v).1 (io4.enc v).2 (io0.enc x).1 (io0.enc x).2 :=
  sim_of (c := (cfg w0 (tab17 k))) (fine w0 hw _ (ok17 w0 hw k)) (dr w0 hw _ (ok17 w0 hw k)) (i := io4) (o := io0) (ps := []) (cuts := fun _ => strings_TrimPrefix.cuts w0 k) (m := 0) (g := fun v => strings_TrimPrefix k v.1 v.2) Tryd.func106 (by kernel_rfl) strings_TrimPrefix.hb (fun _ => rfl) (fun _ => Nat.le_of_ble_eq_true rfl) (good_cuts (strings_TrimPrefix.a w0 k) trivial) (strings_TrimPrefix.e w0 k)
theorem ok18 (w0 : World) (hw : Wd w0) (k : Nat) : CfOk (cfg w0 (tab18 k)) := addTab_ok (ok17 w0 hw k) (strings_TrimPrefix.sim w0 hw k)
theorem color_parts.a20 (w0 : World) (k : Nat) : cutsAt (fun n => (color_parts.cuts w0 k n).isSome) color_parts.b20 = [] := by kernel_rfl
theorem color_parts.a13 (w0 : World) (k : Nat) : cutsAt (fun n => (color_parts.cuts w0 k n).isSome) color_parts.b13 = [(20, color_parts.b20)] := by kernel_rfl
theorem color_parts.a8 (w0 : World) (k : Nat) : cutsAt (fun n => (color_parts.cuts w0 k n).isSome) color_parts.b8 = [(13, Code.loop color_parts.b13)] := by kernel_rfl
theorem color_parts.a (w0 : World) (k : Nat) : cutsAt (fun n => (color_parts.cuts w0 k n).isSome) color_parts.body = [(8, color_parts.b8)] := by kernel_rfl
theorem color_parts.so20 (w0 : World) (hw : Wd w0) (k : Nat) : Sound (cfg w0 (tab18 k)) Tryd.f67.ntmps 0 (color_parts.kr w0 k) color_parts.b20 (entK (cfg w0 (tab18 k)) 0 [4, 5, 7, 18, 19, 20] [] io18.pat (color_parts.L20 k)) :=
  join_ok (fine w0 hw _ (ok18 w0 hw k)) (dr w0 hw _ (ok18 w0 hw k)) (good_cuts (color_parts.a20 w0 k) trivial) io18.ok (xn := color_parts.x20) (L := color_parts.L20 k) (color_parts.s20 w0 k)
theorem color_parts.so13 (w0 : World) (hw : Wd w0) (k : Nat) : Sound (cfg w0 (tab18 k)) Tryd.f67.ntmps 0 (color_parts.kr w0 k) (.loop color_parts.b13) (entK (cfg w0 (tab18 k)) 0 [4, 5, 18, 19, 20] [] io19.pat (color_parts.L13 k k)) :=
  loop_ok (fine w0 hw _ (ok18 w0 hw k)) (dr w0 hw _ (ok18 w0 hw k)) (good_cuts (color_parts.a13 w0 k) ⟨fun f hf => by cases hf; exact color_parts.so20 w0 hw k, trivial⟩) io19.ok (xn := color_parts.x13) (L := color_parts.L13 k) (fun v K => rfl) (color_parts.s13 w0 k) k
theorem color_parts.so8 (w0 : World) (hw : Wd w0) (k : Nat) : Sound (cfg w0 (tab18 k)) Tryd.f67.ntmps 0 (color_parts.kr w0 k) color_parts.b8 (entK (cfg w0 (tab18 k)) 0 [4] [.own 4 9] io21.pat (color_parts.L8 k)) :=
  join_ok (fine w0 hw _ (ok18 w0 hw k)) (dr w0 hw _ (ok18 w0 hw k)) (good_cuts (color_parts.a8 w0 k) ⟨fun f hf => by cases hf; exact color_parts.so13 w0 hw k, trivial⟩) io21.ok (xn := color_parts.x8) (L := color_parts.L8 k) (color_parts.s8 w0 k)
theorem color_parts.sim (w0 : World) (hw : Wd w0) (k : Nat) : ∀ v x, (fun v => color_parts k v) v = some x → Sim (cfg w0 (tab18 k)) 67 (io0.enc v).1 (io0.enc v).2 (io3.enc x).1 (io3.enc x).2 :=
  sim_of (c := (cfg w0 (tab18 k))) (fine w0 hw _ (ok18 w0 hw k)) (dr w0 hw _ (ok18 w0 hw k)) (i := io0) (o := io3) (ps := []) (cuts := fun _ => color_parts.cuts w0 k) (m := 0) (g := fun v => color_parts k v) Tryd.func67 (by kernel_rfl) color_parts.hb (fun _ => rfl) (fun _ => Nat.le_of_ble_eq_true rfl) (good_cuts (color_parts.a w0 k) ⟨fun f hf => by cases hf; exact color_parts.so8 w0 hw k, trivial⟩) (color_parts.e w0 k)
theorem ok19 (w0 : World) (hw : Wd w0) (k : Nat) : CfOk (cfg w0 (tab19 k)) := addTab_ok (ok18 w0 hw k) (color_parts.sim w0 hw k)
theorem color_Read.a28 (w0 : World) (k : Nat) : cutsAt (fun n => (color_Read.cuts w0 k n).isSome) color_Read.b28 = [] := by kernel_rfl
theorem color_Read.a (w0 : World) (k : Nat) : cutsAt (fun n => (color_Read.cuts w0 k n).isSome) color_Read.body = [(28, color_Read.b28)] := by kernel_rfl
theorem color_Read.so28 (w0 : World) (hw : Wd w0) (k : Nat) : Sound (cfg w0 (tab19 k)) Tryd.f32.ntmps 0 (color_Read.kr w0 k) color_Read.b28 (entK (cfg w0 (tab19 k)) 0 [6, 7] [] io3.pat (color_Read.L28 k)) :=
  join_ok (fine w0 hw _ (ok19 w0 hw k)) (dr w0 hw _ (ok19 w0 hw k)) (good_cuts (color_Read.a28 w0 k) trivial) io3.ok (xn := color_Read.x28) (L := color_Read.L28 k) (color_Read.s28 w0 k)
theorem color_Read.sim (w0 : World) (hw : Wd w0) (k : Nat) : ∀ v x, (fun v => color_Read k v) v = some x → Sim (cfg w0 (tab19 k)) 32 (io0.enc v).1 (io0.enc v).2 (io22.enc x).1 (io22.enc x).2 :=
  sim_of (c := (cfg w0 (tab19 k))) (fine w0 hw _ (ok19 w0 hw k)) (dr w0 hw _ (ok19 w0 hw k)) (i := io0) (o := io22) (ps := []) (cuts := fun _ => color_Read.cuts w0 k) (m := 0) (g := fun v => color_Read k v) Tryd.func32 (by kernel_rfl) color_Read.hb (fun _ => rfl) (fun _ => Nat.le_of_ble_eq_true rfl) (good_cuts (color_Read.a w0 k) ⟨fun f hf => by cases hf; exact color_Read.so28 w0 hw k, trivial⟩) (color_Read.e w0 k)
theorem ok20 (w0 : World) (hw : Wd w0) (k : Nat) : CfOk (cfg w0 (tab20 k)) := addTab_ok (ok19 w0 hw k) (color_Read.sim w0 hw k)
theorem clerestorykeep2_red.a (w0 : World) (k : Nat) : cutsAt (fun n => (clerestorykeep2_red.cuts w0 k n).isSome) clerestorykeep2_red.body = [] := by kernel_rfl
theorem clerestorykeep2_red.sim (w0 : World) (hw : Wd w0) (k : Nat) : ∀ v x, (fun v => clerestorykeep2_red k ) v = some x → Sim (cfg w0 (tab20 k)) 28 (io23.enc v).1 (io23.enc v).2 (io5.enc x).1 (io5.enc x).2 :=
  sim_of (c := (cfg w0 (tab20 k))) (fine w0 hw _ (ok20 w0 hw k)) (dr w0 hw _ (ok20 w0 hw k)) (i := io23) (o := io5) (ps := []) (cuts := fun _ => clerestorykeep2_red.cuts w0 k) (m := 0) (g := fun v => clerestorykeep2_red k ) Tryd.func28 (by kernel_rfl) clerestorykeep2_red.hb (fun _ => rfl) (fun _ => Nat.le_of_ble_eq_true rfl) (good_cuts (clerestorykeep2_red.a w0 k) trivial) (clerestorykeep2_red.e w0 k)
theorem ok21 (w0 : World) (hw : Wd w0) (k : Nat) : CfOk (cfg w0 (tab21 k)) := addTab_ok (ok20 w0 hw k) (clerestorykeep2_red.sim w0 hw k)
theorem strconv_FormatUint.sim (w0 : World) (hw : Wd w0) (k : Nat) : ∀ v x, (fun v => strconv_FormatUint k v.1 v.2) v = some x → Sim (cfg w0 (tab21 k)) 60 (io24.enc v).1 (io24.enc v).2 (io0.enc x).1 (io0.enc x).2 := by
  intro v x h; exact Fm.sim_fmt (c := cfg w0 (tab21 k)) rfl hw.db h
theorem ok22 (w0 : World) (hw : Wd w0) (k : Nat) : CfOk (cfg w0 (tab22 k)) := addTab_ok (ok21 w0 hw k) (strconv_FormatUint.sim w0 hw k)
theorem color_tail.a (w0 : World) (k : Nat) : cutsAt (fun n => (color_tail.cuts w0 k n).isSome) color_tail.body = [] := by kernel_rfl
theorem color_tail.sim (w0 : World) (hw : Wd w0) (k : Nat) : ∀ v x, (fun v => color_tail k v) v = some x → Sim (cfg w0 (tab22 k)) 61 (io0.enc v).1 (io0.enc v).2 (io0.enc x).1 (io0.enc x).2 :=
  sim_of (c := (cfg w0 (tab22 k))) (fine w0 hw _ (ok22 w0 hw k)) (dr w0 hw _ (ok22 w0 hw k)) (i := io0) (o := io0) (ps := []) (cuts := fun _ => color_tail.cuts w0 k) (m := 0) (g := fun v => color_tail k v) Tryd.func61 (by kernel_rfl) color_tail.hb (fun _ => rfl) (fun _ => Nat.le_of_ble_eq_true rfl) (good_cuts (color_tail.a w0 k) trivial) (color_tail.e w0 k)
theorem ok23 (w0 : World) (hw : Wd w0) (k : Nat) : CfOk (cfg w0 (tab23 k)) := addTab_ok (ok22 w0 hw k) (color_tail.sim w0 hw k)
theorem color_Text.a (w0 : World) (k : Nat) : cutsAt (fun n => (color_Text.cuts w0 k n).isSome) color_Text.body = [] := by kernel_rfl
theorem color_Text.sim (w0 : World) (hw : Wd w0) (k : Nat) : ∀ v x, (fun v => color_Text k v) v = some x → Sim (cfg w0 (tab23 k)) 31 (io15.enc v).1 (io15.enc v).2 (io0.enc x).1 (io0.enc x).2 :=
  sim_of (c := (cfg w0 (tab23 k))) (fine w0 hw _ (ok23 w0 hw k)) (dr w0 hw _ (ok23 w0 hw k)) (i := io15) (o := io0) (ps := []) (cuts := fun _ => color_Text.cuts w0 k) (m := 0) (g := fun v => color_Text k v) Tryd.func31 (by kernel_rfl) color_Text.hb (fun _ => rfl) (fun _ => Nat.le_of_ble_eq_true rfl) (good_cuts (color_Text.a w0 k) trivial) (color_Text.e w0 k)
theorem ok24 (w0 : World) (hw : Wd w0) (k : Nat) : CfOk (cfg w0 (tab24 k)) := addTab_ok (ok23 w0 hw k) (color_Text.sim w0 hw k)
theorem clerestorykeep2_ColorBack.a13 (w0 : World) (k : Nat) : cutsAt (fun n => (clerestorykeep2_ColorBack.cuts w0 k n).isSome) clerestorykeep2_ColorBack.b13 = [] := by kernel_rfl
theorem clerestorykeep2_ColorBack.a (w0 : World) (k : Nat) : cutsAt (fun n => (clerestorykeep2_ColorBack.cuts w0 k n).isSome) clerestorykeep2_ColorBack.body = [(13, Code.loop clerestorykeep2_ColorBack.b13)] := by kernel_rfl
theorem clerestorykeep2_ColorBack.so13 (w0 : World) (hw : Wd w0) (k : Nat) : Sound (cfg w0 (tab24 k)) Tryd.f11.ntmps 0 (clerestorykeep2_ColorBack.kr w0 k) (.loop clerestorykeep2_ColorBack.b13) (entK (cfg w0 (tab24 k)) 0 [0, 3, 5, 6, 7, 8] [] io25.pat (clerestorykeep2_ColorBack.L13 k k)) :=
  loop_ok (fine w0 hw _ (ok24 w0 hw k)) (dr w0 hw _ (ok24 w0 hw k)) (good_cuts (clerestorykeep2_ColorBack.a13 w0 k) trivial) io25.ok (xn := clerestorykeep2_ColorBack.x13) (L := clerestorykeep2_ColorBack.L13 k) (fun v K => rfl) (clerestorykeep2_ColorBack.s13 w0 k) k
theorem clerestorykeep2_ColorBack.sim (w0 : World) (hw : Wd w0) (k : Nat) : ∀ v x, (fun v => clerestorykeep2_ColorBack k v) v = some x → Sim (cfg w0 (tab24 k)) 11 (io15.enc v).1 (io15.enc v).2 (io5.enc x).1 (io5.enc x).2 :=
  sim_of (c := (cfg w0 (tab24 k))) (fine w0 hw _ (ok24 w0 hw k)) (dr w0 hw _ (ok24 w0 hw k)) (i := io15) (o := io5) (ps := []) (cuts := fun _ => clerestorykeep2_ColorBack.cuts w0 k) (m := 0) (g := fun v => clerestorykeep2_ColorBack k v) Tryd.func11 (by kernel_rfl) clerestorykeep2_ColorBack.hb (fun _ => rfl) (fun _ => Nat.le_of_ble_eq_true rfl) (good_cuts (clerestorykeep2_ColorBack.a w0 k) ⟨fun f hf => by cases hf; exact clerestorykeep2_ColorBack.so13 w0 hw k, trivial⟩) (clerestorykeep2_ColorBack.e w0 k)
theorem ok25 (w0 : World) (hw : Wd w0) (k : Nat) : CfOk (cfg w0 (tab25 k)) := addTab_ok (ok24 w0 hw k) (clerestorykeep2_ColorBack.sim w0 hw k)
end
end Go.Ev.Cb
