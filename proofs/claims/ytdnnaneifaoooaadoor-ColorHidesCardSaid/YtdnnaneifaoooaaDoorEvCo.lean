/- A part of the evaluator of Go code over small heaps and of its proof: no condition beyond those that each theorem names. -/
import Derived.Test.YtdnnaneifaoooaaDoorEvLib
import Derived.Test.YtdnnaneifaoooaaDoorEvShC
import Derived.Test.YtdnnaneifaoooaaDoorProg
import Derived.KernelRfl
set_option linter.unusedVariables false
set_option maxRecDepth 100000
namespace Go.Ev.Co
noncomputable section
open Go.Proofs Go.Ev

def base : TypeId → (α : Type) × α
  | 3 => ⟨Int, (0 : Int)⟩
  | 5 => ⟨Int, (0 : Int)⟩
  | 9 => ⟨List UInt8, []⟩
  | _ => ⟨Unit, ()⟩
def T (t : TypeId) : Type := (base t).1
def dflt (t : TypeId) : T t := (base t).2
def dl (t : TypeId) : D T → Option (List (T t))
  | .l t' xs => asT t t' xs
  | .ns => some []
  | _ => none
theorem dl_le {t : TypeId} {d : D T} {l : List (T t)} (h : dl t d = some l) : leD d (.l t l) := by
  unfold dl at h
  split at h
  · rw [asT_l h]; exact .refl _
  · cases h; exact .ns _
  · cases h
def enc3 (x : Int) : List (D T) := [.i .i64 x]
def dec3 (ds : List (D T)) : Option (Int) := match ds with
  | [.i .i64 x0] => some x0
  | _ => none
theorem dec3_ok {ds : List (D T)} {x : Int} (h : dec3 ds = some x) : leDs ds (enc3 x) := by
  unfold dec3 at h
  split at h
  · cases h
    exact .cons (.refl _) <| .nil
  · cases h
def enc5 (x : Int) : List (D T) := [.i .u8 x]
def dec5 (ds : List (D T)) : Option (Int) := match ds with
  | [.i .u8 x0] => some x0
  | _ => none
theorem dec5_ok {ds : List (D T)} {x : Int} (h : dec5 ds = some x) : leDs ds (enc5 x) := by
  unfold dec5 at h
  split at h
  · cases h
    exact .cons (.refl _) <| .nil
  · cases h
def enc9 (x : List UInt8) : List (D T) := [.s x]
def dec9 (ds : List (D T)) : Option (List UInt8) := match ds with
  | [.s x0] => some x0
  | _ => none
theorem dec9_ok {ds : List (D T)} {x : List UInt8} (h : dec9 ds = some x) : leDs ds (enc9 x) := by
  unfold dec9 at h
  split at h
  · cases h
    exact .cons (.refl _) <| .nil
  · cases h
def enc : (t : TypeId) → T t → List (D T)
  | 3, x => enc3 x
  | 5, x => enc5 x
  | 9, x => enc9 x
  | _, _ => []
def dec (t : TypeId) (ds : List (D T)) : Option (T t) := if h : t = 3 then (h ▸ (dec3 ds : Option (T 3))) else if h : t = 5 then (h ▸ (dec5 ds : Option (T 5))) else if h : t = 9 then (h ▸ (dec9 ds : Option (T 9))) else none
theorem dec_ok (t : TypeId) (ds : List (D T)) (x : T t) (h : dec t ds = some x) : leDs ds (enc t x) := by
  unfold dec at h
  by_cases h3 : t = 3
  · subst h3; exact dec3_ok (show dec3 ds = some x from h)
  rw [dif_neg h3] at h
  by_cases h5 : t = 5
  · subst h5; exact dec5_ok (show dec5 ds = some x from h)
  rw [dif_neg h5] at h
  by_cases h9 : t = 9
  · subst h9; exact dec9_ok (show dec9 ds = some x from h)
  rw [dif_neg h9] at h
  cases h
def knl : List TypeId := [3, 5, 9]

def ofB : (t : TypeId) → List UInt8 → List (T t)
  | 5, l => bytesI l
  | _, _ => []
def toB : (t : TypeId) → List (T t) → List UInt8
  | 5, l => bytesU l
  | _, _ => []
def cod : Cod T := ⟨fun t => knl.any (·.beq t), enc, dec, dflt, ofB, toB⟩
def gv : Nat → Option (List (D T))
  | _ => none
def eql : List TypeId := []
def cfg (w0 : World) (t : Tab T) : Cfg T := ⟨Tryd.prog, cod, t, fun t => eql.any (·.beq t), w0, gv, 83, 5⟩
/-- What is asked of the first world. -/
structure Wd (w0 : World) : Prop where
  gv : GvOk (cfg w0 noTab)
  mx : NumAt w0 (Sh.ren143.g 1)

theorem mem_of {l : List TypeId} {t : TypeId} (h : l.any (·.beq t) = true) : t ∈ l := by
  rw [List.any_eq_true] at h
  obtain ⟨x, hx, hb⟩ := h
  rw [← Nat.eq_of_beq_eq_true hb]; exact hx
theorem len3 : 1 = Tryd.prog.cellsOf 3 := by kernel_rfl
theorem u8_3 : isU8 Tryd.prog 3 = false := by kernel_rfl
theorem len5 : 1 = Tryd.prog.cellsOf 5 := by kernel_rfl
theorem len9 : 1 = Tryd.prog.cellsOf 9 := by kernel_rfl
theorem u8_9 : isU8 Tryd.prog 9 = false := by kernel_rfl
theorem zr3 : zeroShape Tryd.prog 3 = true ∧ ∃ ds, zeroCells (T := T) Tryd.prog 3 = some (ofDs ds) ∧ leDs ds (enc3 (0 : Int)) := ⟨by kernel_rfl, [.i .i64 (0 : Int)], by kernel_rfl, .cons (.refl _) <| .nil⟩
theorem zr5 : zeroShape Tryd.prog 5 = true ∧ ∃ ds, zeroCells (T := T) Tryd.prog 5 = some (ofDs ds) ∧ leDs ds (enc5 (0 : Int)) := ⟨by kernel_rfl, [.i .u8 (0 : Int)], by kernel_rfl, .cons (.refl _) <| .nil⟩
theorem zr9 : zeroShape Tryd.prog 9 = true ∧ ∃ ds, zeroCells (T := T) Tryd.prog 9 = some (ofDs ds) ∧ leDs ds (enc9 []) := ⟨by kernel_rfl, [.s ([])], by kernel_rfl, .cons (.refl _) <| .nil⟩
theorem fl : Tryd.prog.follows .mixedOrders = true := by kernel_rfl
theorem bytesOk (w0 : World) (t : Tab T) : BytesOk (cfg w0 t) := fun e h1 h2 => by
  have hm := mem_of (l := knl) h2
  simp only [knl, List.mem_cons, List.not_mem_nil, or_false] at hm
  rcases hm with rfl | rfl | rfl
  · exact absurd h1 (by rw [show isU8 (cfg w0 _).P 3 = false from u8_3]; exact Bool.false_ne_true)
  · exact ⟨fun l => by induction l with
      | nil => rfl
      | cons b l ih => exact congrArg (List.cons _) ih, fun xs => ⟨xs, rfl, rfl⟩⟩
  · exact absurd h1 (by rw [show isU8 (cfg w0 _).P 9 = false from u8_9]; exact Bool.false_ne_true)
theorem fine (w0 : World) (hw : Wd w0) (t : Tab T) (h : CfOk (cfg w0 t)) : Fine (cfg w0 t) where
  gv := hw.gv
  bytes := bytesOk w0 t
  cod := by
    refine ⟨fun t ht x => ?_, fun t ds x h => ?_⟩
    · have hm := mem_of (l := knl) ht
      simp only [knl, List.mem_cons, List.not_mem_nil, or_false] at hm
      rcases hm with rfl | rfl | rfl
      · exact len3
      · exact len5
      · exact len9
    · exact dec_ok t ds x h
  zero := fun t ht => by
    have hm := mem_of (l := knl) ht
    simp only [knl, List.mem_cons, List.not_mem_nil, or_false] at hm
    rcases hm with rfl | rfl | rfl
    · exact zr3
    · exact zr5
    · exact zr9
  eqk := fun t h => by
    cases h
  flat := fun t hf hk x d hd => by
    have hm := mem_of (l := knl) hk
    simp only [knl, List.mem_cons, List.not_mem_nil, or_false] at hm
    rcases hm with rfl | rfl | rfl
    · have hd : d ∈ enc3 x := hd
      simp only [enc3, List.mem_cons, List.not_mem_nil, or_false] at hd
      rcases hd with rfl <;> rfl
    · have hd : d ∈ enc5 x := hd
      simp only [enc5, List.mem_cons, List.not_mem_nil, or_false] at hd
      rcases hd with rfl <;> rfl
    · have hd : d ∈ enc9 x := hd
      simp only [enc9, List.mem_cons, List.not_mem_nil, or_false] at hd
      rcases hd with rfl <;> rfl
  cf := h
theorem dr (w0 : World) (hw : Wd w0) (t : Tab T) (h : CfOk (cfg w0 t)) : DrawOk (cfg w0 t) := drawOk_ok (fine w0 hw t h) fl
def io0 : Io T (List UInt8) where
  enc v := ([.d (.s v)], [])
  pat
    | ([.d (.s p1)], []) => some p1
    | _ => none
  ok z v h := by
    split at h
    · cases h
      all_goals rfl
    · cases h
def io1 : Io T (Int × Int × (List Int)) where
  enc v := ([.sl 0 none, .sl 0 none, .d (.i .i64 v.1), .d (.i .i64 v.2.1)], [.arr 5 v.2.2])
  pat
    | ([.sl 0 none, .sl 0 none, .d (.i .i64 p1), .d (.i .i64 p2)], [.arr tp3 p3]) => (asT 5 tp3 p3).bind fun q3 => some (p1, p2, q3)
    | _ => none
  ok z v h := by
    split at h
    · obtain ⟨q3, hp3, h⟩ := Option.bind_eq_some_iff.1 h
      cases h
      rw [asT_a hp3]
      all_goals rfl
    · cases h
def io2 : Io T (List Int) where
  enc v := ([.sl 0 none], [.arr 5 v])
  pat
    | ([.sl 0 none], [.arr tp1 p1]) => (asT 5 tp1 p1).bind fun q1 => some q1
    | _ => none
  ok z v h := by
    split at h
    · obtain ⟨q1, hp1, h⟩ := Option.bind_eq_some_iff.1 h
      cases h
      rw [asT_a hp1]
      all_goals rfl
    · cases h
def io3 : Io T (Int × Bool) where
  enc v := ([.d (.i .i64 v.1), .d (.b v.2)], [])
  pat
    | ([.d (.i .i64 p1), .d (.b p2)], []) => some (p1, p2)
    | _ => none
  ok z v h := by
    split at h
    · cases h
      all_goals rfl
    · cases h
def io4 : Io T ((List UInt8) × (List UInt8)) where
  enc v := ([.d (.s v.1), .d (.s v.2)], [])
  pat
    | ([.d (.s p1), .d (.s p2)], []) => some (p1, p2)
    | _ => none
  ok z v h := by
    split at h
    · cases h
      all_goals rfl
    · cases h
def io5 : Io T (Bool) where
  enc v := ([.d (.b v)], [])
  pat
    | ([.d (.b p1)], []) => some p1
    | _ => none
  ok z v h := by
    split at h
    · cases h
      all_goals rfl
    · cases h
def io6 : Io T ((List UInt8) × Bool) where
  enc v := ([.d (.s v.1), .d (.b v.2)], [])
  pat
    | ([.d (.s p1), .d (.b p2)], []) => some (p1, p2)
    | _ => none
  ok z v h := by
    split at h
    · cases h
      all_goals rfl
    · cases h
def io7 : Io T ((List UInt8) × Int) where
  enc v := ([.d (.s v.1), .d (.i .i64 v.2)], [])
  pat
    | ([.d (.s p1), .d (.i .i64 p2)], []) => some (p1, p2)
    | _ => none
  ok z v h := by
    split at h
    · cases h
      all_goals rfl
    · cases h
def io8 : Io T ((List UInt8) × (List UInt8)) where
  enc v := ([.bp 0, .d (.s v.1)], [.bl v.2])
  pat
    | ([.bp 0, .d (.s p1)], [.bl p2]) => some (p1, p2)
    | _ => none
  ok z v h := by
    split at h
    · cases h
      all_goals rfl
    · cases h
def io9 : Io T (Int × (List UInt8)) where
  enc v := ([.d (.i .i64 v.1), .d .ni], [.bl v.2])
  pat
    | ([.d (.i .i64 p1), .d .ni], [.bl p2]) => some (p1, p2)
    | _ => none
  ok z v h := by
    split at h
    · cases h
      all_goals rfl
    · cases h
def io10 : Io T (List UInt8) where
  enc v := ([.bp 0], [.bl v])
  pat
    | ([.bp 0], [.bl p1]) => some p1
    | _ => none
  ok z v h := by
    split at h
    · cases h
      all_goals rfl
    · cases h
def io11 : Io T ((List UInt8) × (List UInt8)) where
  enc v := ([.d (.s v.1)], [.bl v.2])
  pat
    | ([.d (.s p1)], [.bl p2]) => some (p1, p2)
    | _ => none
  ok z v h := by
    split at h
    · cases h
      all_goals rfl
    · cases h
def io12 : Io T (Int) where
  enc v := ([.d (.i .u8 v)], [])
  pat
    | ([.d (.i .u8 p1)], []) => some p1
    | _ => none
  ok z v h := by
    split at h
    · cases h
      all_goals rfl
    · cases h
def io13 : Io T ((List UInt8) × Int × Int × Bool) where
  enc v := ([.d (.s v.1), .d (.i .i32 v.2.1), .d (.i .i64 v.2.2.1), .d (.b v.2.2.2)], [])
  pat
    | ([.d (.s p1), .d (.i .i32 p2), .d (.i .i64 p3), .d (.b p4)], []) => some (p1, p2, p3, p4)
    | _ => none
  ok z v h := by
    split at h
    · cases h
      all_goals rfl
    · cases h
def io14 : Io T (Int) where
  enc v := ([.d (.i .i32 v)], [])
  pat
    | ([.d (.i .i32 p1)], []) => some p1
    | _ => none
  ok z v h := by
    split at h
    · cases h
      all_goals rfl
    · cases h
def io15 : Io T ((List UInt8) × Int × Int) where
  enc v := ([.d (.s v.1), .d (.i .i32 v.2.1), .d (.i .i64 v.2.2)], [])
  pat
    | ([.d (.s p1), .d (.i .i32 p2), .d (.i .i64 p3)], []) => some (p1, p2, p3)
    | _ => none
  ok z v h := by
    split at h
    · cases h
      all_goals rfl
    · cases h
def io16 : Io T ((List UInt8) × Int × Int) where
  enc v := ([.d (.s v.1), .d (.i .i64 v.2.1), .d (.i .i64 v.2.2)], [])
  pat
    | ([.d (.s p1), .d (.i .i64 p2), .d (.i .i64 p3)], []) => some (p1, p2, p3)
    | _ => none
  ok z v h := by
    split at h
    · cases h
      all_goals rfl
    · cases h
def io17 : Io T (Int) where
  enc v := ([.d (.i .u64 v), .d .ni], [])
  pat
    | ([.d (.i .u64 p1), .d .ni], []) => some p1
    | _ => none
  ok z v h := by
    split at h
    · cases h
      all_goals rfl
    · cases h
def io18 : Io T (Int × Bool × (List UInt8) × Int × Int × Bool × Int × Int × Int × Int × (List Int)) where
  enc v := ([.d (.i .i64 v.1), .d (.b v.2.1), .d (.s v.2.2.1), .d (.i .u64 v.2.2.2.1), .d (.i .u64 v.2.2.2.2.1), .d (.b v.2.2.2.2.2.1), .d (.i .u64 v.2.2.2.2.2.2.1), .d (.i .u8 v.2.2.2.2.2.2.2.1), .sl 0 none, .d (.i .i64 v.2.2.2.2.2.2.2.2.1), .d (.i .i64 v.2.2.2.2.2.2.2.2.2.1)], [.arr 5 v.2.2.2.2.2.2.2.2.2.2])
  pat
    | ([.d (.i .i64 p1), .d (.b p2), .d (.s p3), .d (.i .u64 p4), .d (.i .u64 p5), .d (.b p6), .d (.i .u64 p7), .d (.i .u8 p8), .sl 0 none, .d (.i .i64 p9), .d (.i .i64 p10)], [.arr tp11 p11]) => (asT 5 tp11 p11).bind fun q11 => some (p1, p2, p3, p4, p5, p6, p7, p8, p9, p10, q11)
    | _ => none
  ok z v h := by
    split at h
    · obtain ⟨q11, hp11, h⟩ := Option.bind_eq_some_iff.1 h
      cases h
      rw [asT_a hp11]
      all_goals rfl
    · cases h
def io19 : Io T (Int × Bool × (List UInt8) × Int × Int × Bool × Int × Int × Int × (List Int)) where
  enc v := ([.d (.i .i64 v.1), .d (.b v.2.1), .d (.s v.2.2.1), .d (.i .u64 v.2.2.2.1), .d (.i .u64 v.2.2.2.2.1), .d (.b v.2.2.2.2.2.1), .d (.i .u64 v.2.2.2.2.2.2.1), .sl 0 none, .d (.i .i64 v.2.2.2.2.2.2.2.1), .d (.i .i64 v.2.2.2.2.2.2.2.2.1)], [.arr 5 v.2.2.2.2.2.2.2.2.2])
  pat
    | ([.d (.i .i64 p1), .d (.b p2), .d (.s p3), .d (.i .u64 p4), .d (.i .u64 p5), .d (.b p6), .d (.i .u64 p7), .sl 0 none, .d (.i .i64 p8), .d (.i .i64 p9)], [.arr tp10 p10]) => (asT 5 tp10 p10).bind fun q10 => some (p1, p2, p3, p4, p5, p6, p7, p8, p9, q10)
    | _ => none
  ok z v h := by
    split at h
    · obtain ⟨q10, hp10, h⟩ := Option.bind_eq_some_iff.1 h
      cases h
      rw [asT_a hp10]
      all_goals rfl
    · cases h
def io20 : Io T ((List UInt8) × Bool × Int) where
  enc v := ([.d (.s v.1), .d (.b v.2.1), .d (.i .u64 v.2.2)], [])
  pat
    | ([.d (.s p1), .d (.b p2), .d (.i .u64 p3)], []) => some (p1, p2, p3)
    | _ => none
  ok z v h := by
    split at h
    · cases h
      all_goals rfl
    · cases h
def io21 : Io T ((List UInt8) × Int × Int × Bool × (List UInt8) × Int) where
  enc v := ([.d (.s v.1), .d (.i .i64 v.2.1), .d (.i .i64 v.2.2.1), .d (.b v.2.2.2.1), .d (.s v.2.2.2.2.1), .d (.i .u64 v.2.2.2.2.2)], [])
  pat
    | ([.d (.s p1), .d (.i .i64 p2), .d (.i .i64 p3), .d (.b p4), .d (.s p5), .d (.i .u64 p6)], []) => some (p1, p2, p3, p4, p5, p6)
    | _ => none
  ok z v h := by
    split at h
    · cases h
      all_goals rfl
    · cases h
def io22 : Io T ((List UInt8) × Int × Int × Bool × (List UInt8)) where
  enc v := ([.d (.s v.1), .d (.i .i64 v.2.1), .d (.i .i64 v.2.2.1), .d (.b v.2.2.2.1), .d (.s v.2.2.2.2)], [])
  pat
    | ([.d (.s p1), .d (.i .i64 p2), .d (.i .i64 p3), .d (.b p4), .d (.s p5)], []) => some (p1, p2, p3, p4, p5)
    | _ => none
  ok z v h := by
    split at h
    · cases h
      all_goals rfl
    · cases h
def io23 : Io T ((List UInt8) × Int × Int × (List UInt8)) where
  enc v := ([.d (.s v.1), .bp 0, .d (.i .i64 v.2.1), .d (.i .i64 v.2.2.1)], [.bl v.2.2.2])
  pat
    | ([.d (.s p1), .bp 0, .d (.i .i64 p2), .d (.i .i64 p3)], [.bl p4]) => some (p1, p2, p3, p4)
    | _ => none
  ok z v h := by
    split at h
    · cases h
      all_goals rfl
    · cases h
def io24 : Io T (Int) where
  enc v := ([.d (.i .i64 v)], [])
  pat
    | ([.d (.i .i64 p1)], []) => some p1
    | _ => none
  ok z v h := by
    split at h
    · cases h
      all_goals rfl
    · cases h
def io25 : Io T ((List UInt8) × (List UInt8) × Int) where
  enc v := ([.d (.s v.1), .d (.s v.2.1), .d (.i .i64 v.2.2)], [])
  pat
    | ([.d (.s p1), .d (.s p2), .d (.i .i64 p3)], []) => some (p1, p2, p3)
    | _ => none
  ok z v h := by
    split at h
    · cases h
      all_goals rfl
    · cases h
def io26 : Io T ((List UInt8) × (List UInt8) × Int × Int) where
  enc v := ([.d (.s v.1), .d (.s v.2.1), .d (.i .i64 v.2.2.1), .d (.i .i64 v.2.2.2)], [])
  pat
    | ([.d (.s p1), .d (.s p2), .d (.i .i64 p3), .d (.i .i64 p4)], []) => some (p1, p2, p3, p4)
    | _ => none
  ok z v h := by
    split at h
    · cases h
      all_goals rfl
    · cases h
def io27 : Io T (Unit) where
  enc v := ([.d .ns], [])
  pat
    | ([.d .ns], []) => some ()
    | _ => none
  ok z v h := by
    split at h
    · cases h
      all_goals rfl
    · cases h
def io28 : Io T (Int) where
  enc v := ([.d (.i .i64 v), .d .ni], [])
  pat
    | ([.d (.i .i64 p1), .d .ni], []) => some p1
    | _ => none
  ok z v h := by
    split at h
    · cases h
      all_goals rfl
    · cases h
def io29 : Io T ((List UInt8) × Int × Int × Int × (List Int)) where
  enc v := ([.d (.s v.1), .d (.i .i64 v.2.1), .sl 0 none, .d (.i .i64 v.2.2.1), .d (.i .i64 v.2.2.2.1)], [.arr 5 v.2.2.2.2])
  pat
    | ([.d (.s p1), .d (.i .i64 p2), .sl 0 none, .d (.i .i64 p3), .d (.i .i64 p4)], [.arr tp5 p5]) => (asT 5 tp5 p5).bind fun q5 => some (p1, p2, p3, p4, q5)
    | _ => none
  ok z v h := by
    split at h
    · obtain ⟨q5, hp5, h⟩ := Option.bind_eq_some_iff.1 h
      cases h
      rw [asT_a hp5]
      all_goals rfl
    · cases h
def io30 : Io T (Int) where
  enc v := ([.d (.i .u64 v)], [])
  pat
    | ([.d (.i .u64 p1)], []) => some p1
    | _ => none
  ok z v h := by
    split at h
    · cases h
      all_goals rfl
    · cases h
def io31 : Io T (Int × Int) where
  enc v := ([.d (.i .u64 v.1), .d (.i .i64 v.2)], [])
  pat
    | ([.d (.i .u64 p1), .d (.i .i64 p2)], []) => some (p1, p2)
    | _ => none
  ok z v h := by
    split at h
    · cases h
      all_goals rfl
    · cases h
def io32 : Io T (Int × Int) where
  enc v := ([.d (.i .i64 v.1), .d (.i .i64 v.2)], [])
  pat
    | ([.d (.i .i64 p1), .d (.i .i64 p2)], []) => some (p1, p2)
    | _ => none
  ok z v h := by
    split at h
    · cases h
      all_goals rfl
    · cases h
def io33 : Io T (Int × Int × Int × Int × Int × Int × Int × Int × Int × Int × Int × Int × Int × Int × Int × Int × Int × Int × Int × Int × Int × Int × Int × Int × Int × Int) where
  enc v := ([.d (.i .i64 v.1), .ptr 0 0, .d (.i .u64 v.2.1)], [.box [.d (.i .u8 v.2.2.1), .d (.i .u8 v.2.2.2.1), .d (.i .u8 v.2.2.2.2.1), .d (.i .u8 v.2.2.2.2.2.1), .d (.i .u8 v.2.2.2.2.2.2.1), .d (.i .u8 v.2.2.2.2.2.2.2.1), .d (.i .u8 v.2.2.2.2.2.2.2.2.1), .d (.i .u8 v.2.2.2.2.2.2.2.2.2.1), .d (.i .u8 v.2.2.2.2.2.2.2.2.2.2.1), .d (.i .u8 v.2.2.2.2.2.2.2.2.2.2.2.1), .d (.i .u8 v.2.2.2.2.2.2.2.2.2.2.2.2.1), .d (.i .u8 v.2.2.2.2.2.2.2.2.2.2.2.2.2.1), .d (.i .u8 v.2.2.2.2.2.2.2.2.2.2.2.2.2.2.1), .d (.i .u8 v.2.2.2.2.2.2.2.2.2.2.2.2.2.2.2.1), .d (.i .u8 v.2.2.2.2.2.2.2.2.2.2.2.2.2.2.2.2.1), .d (.i .u8 v.2.2.2.2.2.2.2.2.2.2.2.2.2.2.2.2.2.1), .d (.i .u8 v.2.2.2.2.2.2.2.2.2.2.2.2.2.2.2.2.2.2.1), .d (.i .u8 v.2.2.2.2.2.2.2.2.2.2.2.2.2.2.2.2.2.2.2.1), .d (.i .u8 v.2.2.2.2.2.2.2.2.2.2.2.2.2.2.2.2.2.2.2.2.1), .d (.i .u8 v.2.2.2.2.2.2.2.2.2.2.2.2.2.2.2.2.2.2.2.2.2.1), .d (.i .u8 v.2.2.2.2.2.2.2.2.2.2.2.2.2.2.2.2.2.2.2.2.2.2.1), .d (.i .u8 v.2.2.2.2.2.2.2.2.2.2.2.2.2.2.2.2.2.2.2.2.2.2.2.1), .d (.i .u8 v.2.2.2.2.2.2.2.2.2.2.2.2.2.2.2.2.2.2.2.2.2.2.2.2.1), .d (.i .u8 v.2.2.2.2.2.2.2.2.2.2.2.2.2.2.2.2.2.2.2.2.2.2.2.2.2)]])
  pat
    | ([.d (.i .i64 p1), .ptr 0 0, .d (.i .u64 p2)], [.box [.d (.i .u8 p3), .d (.i .u8 p4), .d (.i .u8 p5), .d (.i .u8 p6), .d (.i .u8 p7), .d (.i .u8 p8), .d (.i .u8 p9), .d (.i .u8 p10), .d (.i .u8 p11), .d (.i .u8 p12), .d (.i .u8 p13), .d (.i .u8 p14), .d (.i .u8 p15), .d (.i .u8 p16), .d (.i .u8 p17), .d (.i .u8 p18), .d (.i .u8 p19), .d (.i .u8 p20), .d (.i .u8 p21), .d (.i .u8 p22), .d (.i .u8 p23), .d (.i .u8 p24), .d (.i .u8 p25), .d (.i .u8 p26)]]) => some (p1, p2, p3, p4, p5, p6, p7, p8, p9, p10, p11, p12, p13, p14, p15, p16, p17, p18, p19, p20, p21, p22, p23, p24, p25, p26)
    | _ => none
  ok z v h := by
    split at h
    · cases h
      all_goals rfl
    · cases h
def io34 : Io T (Int × (List UInt8) × Int × Int × (List (List UInt8))) where
  enc v := ([.sl 0 none, .d (.i .i64 v.1), .d (.s v.2.1), .sl 0 none, .d (.i .i64 v.2.2.1), .d (.i .i64 v.2.2.2.1)], [.arr 9 v.2.2.2.2])
  pat
    | ([.sl 0 none, .d (.i .i64 p1), .d (.s p2), .sl 0 none, .d (.i .i64 p3), .d (.i .i64 p4)], [.arr tp5 p5]) => (asT 9 tp5 p5).bind fun q5 => some (p1, p2, p3, p4, q5)
    | _ => none
  ok z v h := by
    split at h
    · obtain ⟨q5, hp5, h⟩ := Option.bind_eq_some_iff.1 h
      cases h
      rw [asT_a hp5]
      all_goals rfl
    · cases h
def io35 : Io T (Int × Int × Int × (List (List UInt8))) where
  enc v := ([.sl 0 none, .d (.i .i64 v.1), .sl 0 none, .d (.i .i64 v.2.1), .d (.i .i64 v.2.2.1)], [.arr 9 v.2.2.2])
  pat
    | ([.sl 0 none, .d (.i .i64 p1), .sl 0 none, .d (.i .i64 p2), .d (.i .i64 p3)], [.arr tp4 p4]) => (asT 9 tp4 p4).bind fun q4 => some (p1, p2, p3, q4)
    | _ => none
  ok z v h := by
    split at h
    · obtain ⟨q4, hp4, h⟩ := Option.bind_eq_some_iff.1 h
      cases h
      rw [asT_a hp4]
      all_goals rfl
    · cases h
def io36 : Io T (Int × (List (List UInt8))) where
  enc v := ([.sl 0 none, .d (.i .i64 v.1)], [.arr 9 v.2])
  pat
    | ([.sl 0 none, .d (.i .i64 p1)], [.arr tp2 p2]) => (asT 9 tp2 p2).bind fun q2 => some (p1, q2)
    | _ => none
  ok z v h := by
    split at h
    · obtain ⟨q2, hp2, h⟩ := Option.bind_eq_some_iff.1 h
      cases h
      rw [asT_a hp2]
      all_goals rfl
    · cases h
def io37 : Io T (List (List UInt8)) where
  enc v := ([.sl 0 none], [.arr 9 v])
  pat
    | ([.sl 0 none], [.arr tp1 p1]) => (asT 9 tp1 p1).bind fun q1 => some q1
    | _ => none
  ok z v h := by
    split at h
    · obtain ⟨q1, hp1, h⟩ := Option.bind_eq_some_iff.1 h
      cases h
      rw [asT_a hp1]
      all_goals rfl
    · cases h
def io38 : Io T (Unit) where
  enc v := ([], [])
  pat
    | ([], []) => some ()
    | _ => none
  ok z v h := by
    split at h <;> cases h; rfl
def io39 : Io T (Int × Int × Int) where
  enc v := ([.d (.i .i64 v.1), .d (.i .i64 v.2.1), .d (.i .i64 v.2.2)], [])
  pat
    | ([.d (.i .i64 p1), .d (.i .i64 p2), .d (.i .i64 p3)], []) => some (p1, p2, p3)
    | _ => none
  ok z v h := by
    split at h
    · cases h
      all_goals rfl
    · cases h
def io40 : Io T (Int × Int × Int × Int × Int × Int × Int × Int × Int × Int) where
  enc v := ([.d (.i .i64 v.1), .d (.i .i64 v.2.1), .d (.i .i64 v.2.2.1), .d (.i .i64 v.2.2.2.1), .d (.i .i64 v.2.2.2.2.1), .d (.i .i64 v.2.2.2.2.2.1), .agg [.d (.i .i64 v.2.2.2.2.2.2.1), .d (.i .i64 v.2.2.2.2.2.2.2.1), .d (.i .i64 v.2.2.2.2.2.2.2.2.1)], .d (.i .i64 v.2.2.2.2.2.2.2.2.2)], [])
  pat
    | ([.d (.i .i64 p1), .d (.i .i64 p2), .d (.i .i64 p3), .d (.i .i64 p4), .d (.i .i64 p5), .d (.i .i64 p6), .agg [.d (.i .i64 p7), .d (.i .i64 p8), .d (.i .i64 p9)], .d (.i .i64 p10)], []) => some (p1, p2, p3, p4, p5, p6, p7, p8, p9, p10)
    | _ => none
  ok z v h := by
    split at h
    · cases h
      all_goals rfl
    · cases h
def io41 : Io T (Int × Int × Bool × Int × Int) where
  enc v := ([.d (.i .i64 v.1), .d (.i .i64 v.2.1), .d (.b v.2.2.1), .d (.i .i64 v.2.2.2.1), .d (.i .i64 v.2.2.2.2)], [])
  pat
    | ([.d (.i .i64 p1), .d (.i .i64 p2), .d (.b p3), .d (.i .i64 p4), .d (.i .i64 p5)], []) => some (p1, p2, p3, p4, p5)
    | _ => none
  ok z v h := by
    split at h
    · cases h
      all_goals rfl
    · cases h
def io42 : Io T (Int × Int × Bool × Int) where
  enc v := ([.d (.i .i64 v.1), .d (.i .i64 v.2.1), .d (.b v.2.2.1), .d (.i .i64 v.2.2.2)], [])
  pat
    | ([.d (.i .i64 p1), .d (.i .i64 p2), .d (.b p3), .d (.i .i64 p4)], []) => some (p1, p2, p3, p4)
    | _ => none
  ok z v h := by
    split at h
    · cases h
      all_goals rfl
    · cases h
def tab0 (k : Nat) : Tab T := noTab
def color_lower.c7 (k : Nat) : Nat → Int → Int → (List Int) → ((List Int) → Option (List UInt8)) → Option (List UInt8)
  | 0, _, _, _, _ => none
  | n + 1, x2, x3, x4, k0 =>
    cond (decide (x3 < x2)) (
    cond (decide (0 ≤ x3 ∧ x3 < (x4.length : Int))) (
    let v5 : Bool := (decide ((x4.getD x3.toNat (0 : Int)) ≥ (65 : Int)))
    let v6 : Bool := (decide ((x4.getD x3.toNat (0 : Int)) ≤ (90 : Int)))
    cond (cond v5 v6 false) (
    let v7 : Int := (IntKind.wrap .u8 ((x4.getD x3.toNat (0 : Int)) + (32 : Int)))
    cond (decide (0 ≤ x3 ∧ x3 < (x4.length : Int))) (
    let v8 : Int := (IntKind.wrap .i64 (x3 + (1 : Int)))
    color_lower.c7 k n x2 v8 (x4.set x3.toNat v7) k0) none) (
    let v9 : Int := (IntKind.wrap .i64 (x3 + (1 : Int)))
    color_lower.c7 k n x2 v9 x4 k0)) none) (
    k0 x4)
def color_lower (k : Nat) (a1 : List UInt8) : Option (List UInt8) :=
color_lower.c7 k k ((bytesI a1).length : Int) (0 : Int) (bytesI a1) (fun (y10 : List Int) =>
some (bytesU y10))
def color_lower.kr (w0 : World) (k : Nat) : St T → Option (List UInt8) := (retK (cfg w0 (tab0 k)) Tryd.f62.results.toList 0 [] io0.pat)
def color_lower.x7 : Ex → Option (List Nat × List Sp)
  | .exit 0 => some ([3], [])
  | _ => none
def color_lower.L7 (k : Nat) (n : Nat) (v : Int × Int × (List Int)) (K : Ex → St T → Option (List UInt8)) : Option (List UInt8) := color_lower.c7 k n v.1 v.2.1 v.2.2 (fun y33 => K (.exit 0) (mkSt [3] (io2.enc y33)))
def color_lower.cuts (w0 : World) (k : Nat) : Cuts T (List UInt8) := fun n => bif n.beq 7 then some (entK (cfg w0 (tab0 k)) 0 [3, 8, 9, 10] [] io1.pat (color_lower.L7 k k)) else none
def color_lower.body : Code := bodyOf Tryd.f62
def color_lower.b7 : Code := findD 7 color_lower.body
theorem color_lower.s7 (w0 : World) (k : Nat) : ∀ n v K, color_lower.L7 k (n + 1) v K = runK (cfg w0 (tab0 k)) Tryd.f62.ntmps (color_lower.kr w0 k) (annot (color_lower.cuts w0 k) color_lower.b7) (mkSt [3, 8, 9, 10] (io1.enc v)) (loopK (cfg w0 (tab0 k)) 0 color_lower.x7 (entK (cfg w0 (tab0 k)) 0 [3, 8, 9, 10] [] io1.pat (color_lower.L7 k n)) K) := by
  intro n v K; kernel_rfl
theorem color_lower.e (w0 : World) (k : Nat) : ∀ v, (fun v => color_lower k v) v = runK (cfg w0 (tab0 k)) Tryd.f62.ntmps (color_lower.kr w0 k) (annot (color_lower.cuts w0 k) color_lower.body) (entry (io0.enc v).1 (io0.enc v).2) (endK (color_lower.kr w0 k)) := by
  intro v; kernel_rfl
theorem color_lower.hb : Tryd.f62.body = some color_lower.body := by kernel_rfl
def tab1 (k : Nat) : Tab T := addTab 62 (line io0 io0 [] (fun v => color_lower k v)) (tab0 k)
def color_named (k : Nat) (a1 : List UInt8) : Option (Int × Bool) :=
let v2 : Bool := (a1 == ([98, 108, 97, 99, 107] : List UInt8))
cond v2 (
some ((0 : Int), true)) (
let v3 : Bool := (a1 == ([115, 105, 108, 118, 101, 114] : List UInt8))
cond v3 (
some ((12632256 : Int), true)) (
let v4 : Bool := (a1 == ([103, 114, 97, 121] : List UInt8))
cond v4 (
some ((8421504 : Int), true)) (
let v5 : Bool := (a1 == ([119, 104, 105, 116, 101] : List UInt8))
cond v5 (
some ((16777215 : Int), true)) (
let v6 : Bool := (a1 == ([109, 97, 114, 111, 111, 110] : List UInt8))
cond v6 (
some ((8388608 : Int), true)) (
let v7 : Bool := (a1 == ([114, 101, 100] : List UInt8))
cond v7 (
some ((16711680 : Int), true)) (
let v8 : Bool := (a1 == ([112, 117, 114, 112, 108, 101] : List UInt8))
cond v8 (
some ((8388736 : Int), true)) (
let v9 : Bool := (a1 == ([102, 117, 99, 104, 115, 105, 97] : List UInt8))
cond v9 (
some ((16711935 : Int), true)) (
let v10 : Bool := (a1 == ([103, 114, 101, 101, 110] : List UInt8))
cond v10 (
some ((32768 : Int), true)) (
let v11 : Bool := (a1 == ([108, 105, 109, 101] : List UInt8))
cond v11 (
some ((65280 : Int), true)) (
let v12 : Bool := (a1 == ([111, 108, 105, 118, 101] : List UInt8))
cond v12 (
some ((8421376 : Int), true)) (
let v13 : Bool := (a1 == ([121, 101, 108, 108, 111, 119] : List UInt8))
cond v13 (
some ((16776960 : Int), true)) (
let v14 : Bool := (a1 == ([110, 97, 118, 121] : List UInt8))
cond v14 (
some ((128 : Int), true)) (
let v15 : Bool := (a1 == ([98, 108, 117, 101] : List UInt8))
cond v15 (
some ((255 : Int), true)) (
let v16 : Bool := (a1 == ([116, 101, 97, 108] : List UInt8))
cond v16 (
some ((32896 : Int), true)) (
let v17 : Bool := (a1 == ([97, 113, 117, 97] : List UInt8))
cond v17 (
some ((65535 : Int), true)) (
let v18 : Bool := (a1 == ([111, 114, 97, 110, 103, 101] : List UInt8))
cond v18 (
some ((16753920 : Int), true)) (
some ((0 : Int), false))))))))))))))))))
def color_named.kr (w0 : World) (k : Nat) : St T → Option (Int × Bool) := (retK (cfg w0 (tab1 k)) Tryd.f63.results.toList 0 [] io3.pat)
def color_named.cuts (w0 : World) (k : Nat) : Cuts T (Int × Bool) := fun n => none
def color_named.body : Code := bodyOf Tryd.f63
theorem color_named.e (w0 : World) (k : Nat) : ∀ v, (fun v => color_named k v) v = runK (cfg w0 (tab1 k)) Tryd.f63.ntmps (color_named.kr w0 k) (annot (color_named.cuts w0 k) color_named.body) (entry (io0.enc v).1 (io0.enc v).2) (endK (color_named.kr w0 k)) := by
  intro v; kernel_rfl
theorem color_named.hb : Tryd.f63.body = some color_named.body := by kernel_rfl
def tab2 (k : Nat) : Tab T := addTab 63 (line io0 io3 ((0 : Int), false) (fun v => color_named k v)) (tab1 k)
def stringslite_HasPrefix (k : Nat) (a1 : List UInt8) (a2 : List UInt8) : Option (Bool) :=
let v3 : Bool := (decide ((a1.length : Int) ≥ (a2.length : Int)))
cond ((decide (0 ≤ (a2.length : Int) ∧ (a2.length : Int) ≤ (a1.length : Int))) || !v3) (
let v4 : List UInt8 := (a1.take (a2.length : Int).toNat)
some (cond v3 (v4 == a2) false)) none
def stringslite_HasPrefix.kr (w0 : World) (k : Nat) : St T → Option (Bool) := (retK (cfg w0 (tab2 k)) Tryd.f155.results.toList 0 [] io5.pat)
def stringslite_HasPrefix.cuts (w0 : World) (k : Nat) : Cuts T (Bool) := fun n => none
def stringslite_HasPrefix.body : Code := bodyOf Tryd.f155
theorem stringslite_HasPrefix.e (w0 : World) (k : Nat) : ∀ v, (fun v => stringslite_HasPrefix k v.1 v.2) v = runK (cfg w0 (tab2 k)) Tryd.f155.ntmps (stringslite_HasPrefix.kr w0 k) (annot (stringslite_HasPrefix.cuts w0 k) stringslite_HasPrefix.body) (entry (io4.enc v).1 (io4.enc v).2) (endK (stringslite_HasPrefix.kr w0 k)) := by
  intro v; kernel_rfl
theorem stringslite_HasPrefix.hb : Tryd.f155.body = some stringslite_HasPrefix.body := by kernel_rfl
def tab3 (k : Nat) : Tab T := addTab 155 (line io4 io5 false (fun v => stringslite_HasPrefix k v.1 v.2)) (tab2 k)
def stringslite_CutPrefix (k : Nat) (a1 : List UInt8) (a2 : List UInt8) : Option ((List UInt8) × Bool) :=
(stringslite_HasPrefix k a1 a2).bind fun r3 =>
cond (!r3) (
some (a1, false)) (
cond (decide (0 ≤ (a2.length : Int) ∧ (a2.length : Int) ≤ (a1.length : Int))) (
let v4 : List UInt8 := (a1.drop (a2.length : Int).toNat)
some (v4, true)) none)
def stringslite_CutPrefix.kr (w0 : World) (k : Nat) : St T → Option ((List UInt8) × Bool) := (retK (cfg w0 (tab3 k)) Tryd.f100.results.toList 0 [] io6.pat)
def stringslite_CutPrefix.cuts (w0 : World) (k : Nat) : Cuts T ((List UInt8) × Bool) := fun n => none
def stringslite_CutPrefix.body : Code := bodyOf Tryd.f100
theorem stringslite_CutPrefix.e (w0 : World) (k : Nat) : ∀ v, (fun v => stringslite_CutPrefix k v.1 v.2) v = runK (cfg w0 (tab3 k)) Tryd.f100.ntmps (stringslite_CutPrefix.kr w0 k) (annot (stringslite_CutPrefix.cuts w0 k) stringslite_CutPrefix.body) (entry (io4.enc v).1 (io4.enc v).2) (endK (stringslite_CutPrefix.kr w0 k)) := by
  intro v; kernel_rfl
theorem stringslite_CutPrefix.hb : Tryd.f100.body = some stringslite_CutPrefix.body := by kernel_rfl
def tab4 (k : Nat) : Tab T := addTab 100 (line io4 io6 ([], false) (fun v => stringslite_CutPrefix k v.1 v.2)) (tab3 k)
def strings_CutPrefix (k : Nat) (a1 : List UInt8) (a2 : List UInt8) : Option ((List UInt8) × Bool) :=
(stringslite_CutPrefix k a1 a2).bind fun r3 =>
some (r3.1, r3.2)
def strings_CutPrefix.kr (w0 : World) (k : Nat) : St T → Option ((List UInt8) × Bool) := (retK (cfg w0 (tab4 k)) Tryd.f64.results.toList 0 [] io6.pat)
def strings_CutPrefix.cuts (w0 : World) (k : Nat) : Cuts T ((List UInt8) × Bool) := fun n => none
def strings_CutPrefix.body : Code := bodyOf Tryd.f64
theorem strings_CutPrefix.e (w0 : World) (k : Nat) : ∀ v, (fun v => strings_CutPrefix k v.1 v.2) v = runK (cfg w0 (tab4 k)) Tryd.f64.ntmps (strings_CutPrefix.kr w0 k) (annot (strings_CutPrefix.cuts w0 k) strings_CutPrefix.body) (entry (io4.enc v).1 (io4.enc v).2) (endK (strings_CutPrefix.kr w0 k)) := by
  intro v; kernel_rfl
theorem strings_CutPrefix.hb : Tryd.f64.body = some strings_CutPrefix.body := by kernel_rfl
def tab5 (k : Nat) : Tab T := addTab 64 (line io4 io6 ([], false) (fun v => strings_CutPrefix k v.1 v.2)) (tab4 k)
def strings_Trim (k : Nat) (a3 : List UInt8) (a4 : List UInt8) : Option (List UInt8) := trimB a3 a4
def tab6 (k : Nat) : Tab T := addTab 101 (line io4 io0 [] (fun v => strings_Trim k v.1 v.2)) (tab5 k)
def strings_Repeat (k : Nat) (a14 : List UInt8) (a15 : Int) : Option (List UInt8) := repS a14 a15
def tab7 (k : Nat) : Tab T := addTab 102 (line io7 io0 [] (fun v => strings_Repeat k v.1 v.2)) (tab6 k)
def f__strings_Builder__WriteString (k : Nat) (a17 : List UInt8) (a18 : List UInt8) : Option (Int × (List UInt8)) := (wStr a18 a17).map fun s => ((a17.length : Int), s)
def tab8 (k : Nat) : Tab T := addTab 83 (line io8 io9 ((0 : Int), []) (fun v => f__strings_Builder__WriteString k v.1 v.2)) (tab7 k)
def f__strings_Builder__String (k : Nat) (a22 : List UInt8) : Option ((List UInt8) × (List UInt8)) := some (a22, a22)
def tab9 (k : Nat) : Tab T := addTab 48 (line io10 io11 ([], []) (fun v => f__strings_Builder__String k v)) (tab8 k)
def strconv_lower (k : Nat) (a1 : Int) : Option (Int) :=
let v2 : Int := (IntKind.wrap .u8 (((BitVec.ofInt (IntKind.bits .u8) a1 ||| BitVec.ofInt (IntKind.bits .u8) (32 : Int)).toNat : Int)))
some v2
def strconv_lower.kr (w0 : World) (k : Nat) : St T → Option (Int) := (retK (cfg w0 (tab9 k)) Tryd.f192.results.toList 0 [] io12.pat)
def strconv_lower.cuts (w0 : World) (k : Nat) : Cuts T (Int) := fun n => none
def strconv_lower.body : Code := bodyOf Tryd.f192
theorem strconv_lower.e (w0 : World) (k : Nat) : ∀ v, (fun v => strconv_lower k v) v = runK (cfg w0 (tab9 k)) Tryd.f192.ntmps (strconv_lower.kr w0 k) (annot (strconv_lower.cuts w0 k) strconv_lower.body) (entry (io12.enc v).1 (io12.enc v).2) (endK (strconv_lower.kr w0 k)) := by
  intro v; kernel_rfl
theorem strconv_lower.hb : Tryd.f192.body = some strconv_lower.body := by kernel_rfl
def tab10 (k : Nat) : Tab T := addTab 192 (line io12 io12 (0 : Int) (fun v => strconv_lower k v)) (tab9 k)
def strconv_underscoreOK.c21 (k : Nat) : Nat → (List UInt8) → Int → Int → Bool → (Int → Option (Bool)) → Option (Bool)
  | 0, _, _, _, _, _ => none
  | n + 1, x26, x27, x28, x29, k0 =>
    let v30 : Bool := (decide (x28 < (x26.length : Int)))
    cond v30 (
    cond (decide (0 ≤ x28 ∧ x28 < (x26.length : Int))) (
    let v31 : Int := ((x26.getD x28.toNat 0).toNat : Int)
    cond ((decide (0 ≤ x28 ∧ x28 < (x26.length : Int))) || !(decide ((48 : Int) ≤ v31))) (
    let v32 : Int := ((x26.getD x28.toNat 0).toNat : Int)
    let v33 : Bool := (cond (decide ((48 : Int) ≤ v31)) (decide (v32 ≤ (57 : Int))) false)
    cond ((decide (0 ≤ x28 ∧ x28 < (x26.length : Int))) || !((!v33) && x29)) (
    let v34 : Int := ((x26.getD x28.toNat 0).toNat : Int)
    (cond ((!v33) && x29) (strconv_lower k v34) (some (0 : Int))).bind fun r35 =>
    let v36 : Bool := (cond x29 (decide ((97 : Int) ≤ r35)) false)
    cond ((decide (0 ≤ x28 ∧ x28 < (x26.length : Int))) || !((!v33) && v36)) (
    let v37 : Int := ((x26.getD x28.toNat 0).toNat : Int)
    (cond ((!v33) && v36) (strconv_lower k v37) (some (0 : Int))).bind fun r38 =>
    let v39 : Bool := (cond v36 (decide (r38 ≤ (102 : Int))) false)
    cond (cond v33 true v39) (
    let v40 : Int := (IntKind.wrap .i64 (x28 + (1 : Int)))
    strconv_underscoreOK.c21 k n x26 (48 : Int) v40 x29 k0) (
    cond (decide (0 ≤ x28 ∧ x28 < (x26.length : Int))) (
    let v41 : Int := ((x26.getD x28.toNat 0).toNat : Int)
    cond (v41 == (95 : Int)) (
    cond (x27 != (48 : Int)) (
    some false) (
    let v42 : Int := (IntKind.wrap .i64 (x28 + (1 : Int)))
    strconv_underscoreOK.c21 k n x26 (95 : Int) v42 x29 k0)) (
    cond (x27 == (95 : Int)) (
    some false) (
    let v43 : Int := (IntKind.wrap .i64 (x28 + (1 : Int)))
    strconv_underscoreOK.c21 k n x26 (33 : Int) v43 x29 k0))) none)) none) none) none) none) (
    k0 x27)
def strconv_underscoreOK.c20 (k : Nat) (x22 : List UInt8) (x23 : Int) (x24 : Int) (x25 : Bool)  : Option (Bool) :=
strconv_underscoreOK.c21 k k x22 x23 x24 x25 (fun (y44 : Int) =>
some (y44 != (95 : Int)))
def strconv_underscoreOK.c10 (k : Nat) (x6 : List UInt8) (x7 : Int) (x8 : Int)  : Option (Bool) :=
let v9 : Bool := (decide ((x6.length : Int) ≥ (2 : Int)))
cond ((decide (0 ≤ (0 : Int) ∧ (0 : Int) < (x6.length : Int))) || !v9) (
let v10 : Int := ((x6.getD (0 : Int).toNat 0).toNat : Int)
let v11 : Bool := (cond v9 (v10 == (48 : Int)) false)
cond ((decide (0 ≤ (1 : Int) ∧ (1 : Int) < (x6.length : Int))) || !v11) (
let v12 : Int := ((x6.getD (1 : Int).toNat 0).toNat : Int)
(cond v11 (strconv_lower k v12) (some (0 : Int))).bind fun r13 =>
cond ((decide (0 ≤ (1 : Int) ∧ (1 : Int) < (x6.length : Int))) || !(v11 && (!(r13 == (98 : Int))))) (
let v14 : Int := ((x6.getD (1 : Int).toNat 0).toNat : Int)
(cond (v11 && (!(r13 == (98 : Int)))) (strconv_lower k v14) (some (0 : Int))).bind fun r15 =>
let v16 : Bool := (cond (r13 == (98 : Int)) true (r15 == (111 : Int)))
cond ((decide (0 ≤ (1 : Int) ∧ (1 : Int) < (x6.length : Int))) || !(v11 && (!v16))) (
let v17 : Int := ((x6.getD (1 : Int).toNat 0).toNat : Int)
(cond (v11 && (!v16)) (strconv_lower k v17) (some (0 : Int))).bind fun r18 =>
let v19 : Bool := (cond v16 true (r18 == (120 : Int)))
cond (cond v11 v19 false) (
cond (decide (0 ≤ (1 : Int) ∧ (1 : Int) < (x6.length : Int))) (
let v20 : Int := ((x6.getD (1 : Int).toNat 0).toNat : Int)
(strconv_lower k v20).bind fun r21 =>
strconv_underscoreOK.c20 k x6 (48 : Int) (2 : Int) (r21 == (120 : Int))) none) (
strconv_underscoreOK.c20 k x6 x7 x8 false)) none) none) none) none
def strconv_underscoreOK (k : Nat) (a1 : List UInt8) : Option (Bool) :=
let v2 : Bool := (decide ((a1.length : Int) ≥ (1 : Int)))
cond ((decide (0 ≤ (0 : Int) ∧ (0 : Int) < (a1.length : Int))) || !v2) (
let v3 : Int := ((a1.getD (0 : Int).toNat 0).toNat : Int)
cond ((decide (0 ≤ (0 : Int) ∧ (0 : Int) < (a1.length : Int))) || !(v2 && (!(v3 == (45 : Int))))) (
let v4 : Int := ((a1.getD (0 : Int).toNat 0).toNat : Int)
let v5 : Bool := (cond (v3 == (45 : Int)) true (v4 == (43 : Int)))
cond (cond v2 v5 false) (
cond (decide (0 ≤ (1 : Int) ∧ (1 : Int) ≤ (a1.length : Int))) (
strconv_underscoreOK.c10 k (a1.drop (1 : Int).toNat) (94 : Int) (0 : Int)) none) (
strconv_underscoreOK.c10 k a1 (94 : Int) (0 : Int))) none) none
def strconv_underscoreOK.kr (w0 : World) (k : Nat) : St T → Option (Bool) := (retK (cfg w0 (tab10 k)) Tryd.f193.results.toList 0 [] io5.pat)
def strconv_underscoreOK.x21 : Ex → Option (List Nat × List Sp)
  | .exit 0 => some ([3], [])
  | _ => none
def strconv_underscoreOK.L21 (k : Nat) (n : Nat) (v : (List UInt8) × Int × Int × Bool) (K : Ex → St T → Option (Bool)) : Option (Bool) := strconv_underscoreOK.c21 k n v.1 v.2.1 v.2.2.1 v.2.2.2 (fun y34 => K (.exit 0) (mkSt [3] (io14.enc y34)))
def strconv_underscoreOK.x20 : Ex → Option (List Nat × List Sp)
  | _ => none
def strconv_underscoreOK.L20 (k : Nat) (v : (List UInt8) × Int × Int × Bool) (K : Ex → St T → Option (Bool)) : Option (Bool) := strconv_underscoreOK.c20 k v.1 v.2.1 v.2.2.1 v.2.2.2
def strconv_underscoreOK.x10 : Ex → Option (List Nat × List Sp)
  | _ => none
def strconv_underscoreOK.L10 (k : Nat) (v : (List UInt8) × Int × Int) (K : Ex → St T → Option (Bool)) : Option (Bool) := strconv_underscoreOK.c10 k v.1 v.2.1 v.2.2
def strconv_underscoreOK.cuts (w0 : World) (k : Nat) : Cuts T (Bool) := fun n => bif n.beq 21 then some (entK (cfg w0 (tab10 k)) 0 [0, 3, 4, 5] [] io13.pat (strconv_underscoreOK.L21 k k)) else bif n.beq 20 then some (entK (cfg w0 (tab10 k)) 0 [0, 3, 4, 5] [] io13.pat (strconv_underscoreOK.L20 k)) else bif n.beq 10 then some (entK (cfg w0 (tab10 k)) 0 [0, 3, 4] [] io15.pat (strconv_underscoreOK.L10 k)) else none
def strconv_underscoreOK.body : Code := bodyOf Tryd.f193
def strconv_underscoreOK.b21 : Code := findD 21 strconv_underscoreOK.body
theorem strconv_underscoreOK.s21 (w0 : World) (k : Nat) : ∀ n v K, strconv_underscoreOK.L21 k (n + 1) v K = runK (cfg w0 (tab10 k)) Tryd.f193.ntmps (strconv_underscoreOK.kr w0 k) (annot (strconv_underscoreOK.cuts w0 k) strconv_underscoreOK.b21) (mkSt [0, 3, 4, 5] (io13.enc v)) (loopK (cfg w0 (tab10 k)) 0 strconv_underscoreOK.x21 (entK (cfg w0 (tab10 k)) 0 [0, 3, 4, 5] [] io13.pat (strconv_underscoreOK.L21 k n)) K) := by
  intro n v K; kernel_rfl
def strconv_underscoreOK.b20 : Code := findD 20 strconv_underscoreOK.body
theorem strconv_underscoreOK.s20 (w0 : World) (k : Nat) : ∀ v K, strconv_underscoreOK.L20 k v K = runK (cfg w0 (tab10 k)) Tryd.f193.ntmps (strconv_underscoreOK.kr w0 k) (annot (strconv_underscoreOK.cuts w0 k) strconv_underscoreOK.b20) (mkSt [0, 3, 4, 5] (io13.enc v)) (outK (cfg w0 (tab10 k)) 0 strconv_underscoreOK.x20 K) := by
  intro v K; kernel_rfl
def strconv_underscoreOK.b10 : Code := findD 10 strconv_underscoreOK.body
theorem strconv_underscoreOK.s10 (w0 : World) (k : Nat) : ∀ v K, strconv_underscoreOK.L10 k v K = runK (cfg w0 (tab10 k)) Tryd.f193.ntmps (strconv_underscoreOK.kr w0 k) (annot (strconv_underscoreOK.cuts w0 k) strconv_underscoreOK.b10) (mkSt [0, 3, 4] (io15.enc v)) (outK (cfg w0 (tab10 k)) 0 strconv_underscoreOK.x10 K) := by
  intro v K; kernel_rfl
theorem strconv_underscoreOK.e (w0 : World) (k : Nat) : ∀ v, (fun v => strconv_underscoreOK k v) v = runK (cfg w0 (tab10 k)) Tryd.f193.ntmps (strconv_underscoreOK.kr w0 k) (annot (strconv_underscoreOK.cuts w0 k) strconv_underscoreOK.body) (entry (io0.enc v).1 (io0.enc v).2) (endK (strconv_underscoreOK.kr w0 k)) := by
  intro v; kernel_rfl
theorem strconv_underscoreOK.hb : Tryd.f193.body = some strconv_underscoreOK.body := by kernel_rfl
def tab11 (k : Nat) : Tab T := addTab 193 (line io0 io5 false (fun v => strconv_underscoreOK k v)) (tab10 k)
def strconv_ParseUint_v2.c92 (k : Nat) (x38 : Int) (x39 : Bool) (x40 : List UInt8) (x41 : Int) (x42 : Int) (x43 : Bool) (x44 : Int) (x45 : Int) (x46 : Int) (x47 : Int) (x48 : List Int) (kn : Int → Bool → (List UInt8) → Int → Int → Bool → Int → Int → Int → (List Int) → Option (Int)) : Option (Int) :=
let v49 : Bool := (decide (x45 ≥ (IntKind.wrap .u8 x38)))
cond v49 (
none) (
cond (decide (x44 ≥ x41)) (
none) (
let v50 : Int := (IntKind.wrap .u64 (x44 * (IntKind.wrap .u64 x38)))
let v51 : Int := (IntKind.wrap .u64 (v50 + (IntKind.wrap .u64 x45)))
let v52 : Bool := (cond (decide (v51 < v50)) true (decide (v51 > x42)))
cond v52 (
none) (
kn x38 x39 x40 x41 x42 x43 v51 x46 x47 x48)))
def strconv_ParseUint_v2.c73 (k : Nat) : Nat → Int → Bool → (List UInt8) → Int → Int → Bool → Int → Int → Int → (List Int) → ((List UInt8) → Bool → Int → Option (Int)) → Option (Int)
  | 0, _, _, _, _, _, _, _, _, _, _, _ => none
  | n + 1, x23, x24, x25, x26, x27, x28, x29, x30, x31, x32, k3 =>
    cond (decide (x31 < x30)) (
    cond (decide (0 ≤ x31 ∧ x31 < (x32.length : Int))) (
    let v33 : Bool := ((x32.getD x31.toNat (0 : Int)) == (95 : Int))
    cond (cond v33 x24 false) (
    let v34 : Int := (IntKind.wrap .i64 (x31 + (1 : Int)))
    strconv_ParseUint_v2.c73 k n x23 x24 x25 x26 x27 true x29 x30 v34 x32 k3) (
    let v35 : Bool := (decide ((48 : Int) ≤ (x32.getD x31.toNat (0 : Int))))
    let v36 : Bool := (decide ((x32.getD x31.toNat (0 : Int)) ≤ (57 : Int)))
    cond (cond v35 v36 false) (
    let v37 : Int := (IntKind.wrap .u8 ((x32.getD x31.toNat (0 : Int)) - (48 : Int)))
    strconv_ParseUint_v2.c92 k x23 x24 x25 x26 x27 x28 x29 v37 x30 x31 x32 (fun (y53 : Int) (y54 : Bool) (y55 : List UInt8) (y56 : Int) (y57 : Int) (y58 : Bool) (y59 : Int) (y60 : Int) (y61 : Int) (y62 : List Int) =>
    let v63 : Int := (IntKind.wrap .i64 (y61 + (1 : Int)))
    strconv_ParseUint_v2.c73 k n y53 y54 y55 y56 y57 y58 y59 y60 v63 y62 k3)) (
    (strconv_lower k (x32.getD x31.toNat (0 : Int))).bind fun r64 =>
    (cond (decide ((97 : Int) ≤ r64)) (strconv_lower k (x32.getD x31.toNat (0 : Int))) (some (0 : Int))).bind fun r65 =>
    let v66 : Bool := (cond (decide ((97 : Int) ≤ r64)) (decide (r65 ≤ (122 : Int))) false)
    cond v66 (
    (strconv_lower k (x32.getD x31.toNat (0 : Int))).bind fun r67 =>
    let v68 : Int := (IntKind.wrap .u8 (r67 - (97 : Int)))
    let v69 : Int := (IntKind.wrap .u8 (v68 + (10 : Int)))
    strconv_ParseUint_v2.c92 k x23 x24 x25 x26 x27 x28 x29 v69 x30 x31 x32 (fun (y70 : Int) (y71 : Bool) (y72 : List UInt8) (y73 : Int) (y74 : Int) (y75 : Bool) (y76 : Int) (y77 : Int) (y78 : Int) (y79 : List Int) =>
    let v80 : Int := (IntKind.wrap .i64 (y78 + (1 : Int)))
    strconv_ParseUint_v2.c73 k n y70 y71 y72 y73 y74 y75 y76 y77 v80 y79 k3)) (
    none)))) none) (
    k3 x25 x28 x29)
def strconv_ParseUint_v2.c64 (k : Nat) (x15 : List UInt8) (x16 : Int) (x17 : Int) (x18 : Bool) (x19 : List UInt8) (x20 : Int)  : Option (Int) :=
cond (decide (0 ≤ (IntKind.wrap .u64 x17))) (
let v21 : Int := (IntKind.wrap .u64 ((1 : Int) * 2 ^ (min (IntKind.wrap .u64 x17).toNat (IntKind.bits .u64))))
let v22 : Int := (IntKind.wrap .u64 (v21 - (1 : Int)))
strconv_ParseUint_v2.c73 k k x16 x18 x19 x20 v22 false (0 : Int) ((bytesI x15).length : Int) (0 : Int) (bytesI x15) (fun (y81 : List UInt8) (y82 : Bool) (y83 : Int) =>
(cond y82 (strconv_underscoreOK k y81) (some false)).bind fun r84 =>
cond (cond y82 (!r84) false) (
none) (
some y83))) none
def strconv_ParseUint_v2.c50 (k : Nat) (x10 : List UInt8) (x11 : Int) (x12 : Int) (x13 : Bool) (x14 : List UInt8)  : Option (Int) :=
cond (x11 == (10 : Int)) (
strconv_ParseUint_v2.c64 k x10 x11 x12 x13 x14 (1844674407370955162 : Int)) (
cond (x11 == (16 : Int)) (
strconv_ParseUint_v2.c64 k x10 x11 x12 x13 x14 (1152921504606846976 : Int)) (
cond ((IntKind.wrap .u64 x11) != 0) (
let v85 : Int := (IntKind.wrap .u64 (Int.tdiv (18446744073709551615 : Int) (IntKind.wrap .u64 x11)))
let v86 : Int := (IntKind.wrap .u64 (v85 + (1 : Int)))
strconv_ParseUint_v2.c64 k x10 x11 x12 x13 x14 v86) none))
def strconv_ParseUint_v2.c42 (k : Nat) (x5 : List UInt8) (x6 : Int) (x7 : Int) (x8 : Bool) (x9 : List UInt8)  : Option (Int) :=
cond (x7 == (0 : Int)) (
strconv_ParseUint_v2.c50 k x5 x6 (64 : Int) x8 x9) (
let v87 : Bool := (cond (decide (x7 < (0 : Int))) true (decide (x7 > (64 : Int))))
cond v87 (
none) (
strconv_ParseUint_v2.c50 k x5 x6 x7 x8 x9))
def strconv_ParseUint_v2 (k : Nat) (a1 : List UInt8) (a2 : Int) (a3 : Int) : Option (Int) :=
cond (a1 == ([] : List UInt8)) (
none) (
let v4 : Bool := (cond (decide ((2 : Int) ≤ a2)) (decide (a2 ≤ (36 : Int))) false)
cond v4 (
strconv_ParseUint_v2.c42 k a1 a2 a3 (a2 == (0 : Int)) a1) (
cond (a2 == (0 : Int)) (
cond (decide (0 ≤ (0 : Int) ∧ (0 : Int) < (a1.length : Int))) (
let v88 : Int := ((a1.getD (0 : Int).toNat 0).toNat : Int)
cond (v88 == (48 : Int)) (
let v89 : Bool := (decide ((a1.length : Int) ≥ (3 : Int)))
cond ((decide (0 ≤ (1 : Int) ∧ (1 : Int) < (a1.length : Int))) || !v89) (
let v90 : Int := ((a1.getD (1 : Int).toNat 0).toNat : Int)
(cond v89 (strconv_lower k v90) (some (0 : Int))).bind fun r91 =>
let v92 : Bool := (cond v89 (r91 == (98 : Int)) false)
cond v92 (
cond (decide (0 ≤ (2 : Int) ∧ (2 : Int) ≤ (a1.length : Int))) (
strconv_ParseUint_v2.c42 k (a1.drop (2 : Int).toNat) (2 : Int) a3 (a2 == (0 : Int)) a1) none) (
let v93 : Bool := (decide ((a1.length : Int) ≥ (3 : Int)))
cond ((decide (0 ≤ (1 : Int) ∧ (1 : Int) < (a1.length : Int))) || !v93) (
let v94 : Int := ((a1.getD (1 : Int).toNat 0).toNat : Int)
(cond v93 (strconv_lower k v94) (some (0 : Int))).bind fun r95 =>
let v96 : Bool := (cond v93 (r95 == (111 : Int)) false)
cond v96 (
cond (decide (0 ≤ (2 : Int) ∧ (2 : Int) ≤ (a1.length : Int))) (
strconv_ParseUint_v2.c42 k (a1.drop (2 : Int).toNat) (8 : Int) a3 (a2 == (0 : Int)) a1) none) (
let v97 : Bool := (decide ((a1.length : Int) ≥ (3 : Int)))
cond ((decide (0 ≤ (1 : Int) ∧ (1 : Int) < (a1.length : Int))) || !v97) (
let v98 : Int := ((a1.getD (1 : Int).toNat 0).toNat : Int)
(cond v97 (strconv_lower k v98) (some (0 : Int))).bind fun r99 =>
let v100 : Bool := (cond v97 (r99 == (120 : Int)) false)
cond v100 (
cond (decide (0 ≤ (2 : Int) ∧ (2 : Int) ≤ (a1.length : Int))) (
strconv_ParseUint_v2.c42 k (a1.drop (2 : Int).toNat) (16 : Int) a3 (a2 == (0 : Int)) a1) none) (
cond (decide (0 ≤ (1 : Int) ∧ (1 : Int) ≤ (a1.length : Int))) (
strconv_ParseUint_v2.c42 k (a1.drop (1 : Int).toNat) (8 : Int) a3 (a2 == (0 : Int)) a1) none)) none)) none)) none) (
strconv_ParseUint_v2.c42 k a1 (10 : Int) a3 (a2 == (0 : Int)) a1)) none) (
none)))
def strconv_ParseUint_v2.kr (w0 : World) (k : Nat) : St T → Option (Int) := (retK (cfg w0 (tab11 k)) Tryd.f160.results.toList 0 [] io17.pat)
def strconv_ParseUint_v2.x92 : Ex → Option (List Nat × List Sp)
  | .norm => some ([1, 8, 9, 10, 11, 12, 13, 99, 100, 101], [])
  | _ => none
def strconv_ParseUint_v2.L92 (k : Nat) (v : Int × Bool × (List UInt8) × Int × Int × Bool × Int × Int × Int × Int × (List Int)) (K : Ex → St T → Option (Int)) : Option (Int) := strconv_ParseUint_v2.c92 k v.1 v.2.1 v.2.2.1 v.2.2.2.1 v.2.2.2.2.1 v.2.2.2.2.2.1 v.2.2.2.2.2.2.1 v.2.2.2.2.2.2.2.1 v.2.2.2.2.2.2.2.2.1 v.2.2.2.2.2.2.2.2.2.1 v.2.2.2.2.2.2.2.2.2.2 (fun y35 y36 y37 y38 y39 y40 y41 y42 y43 y44 => K .norm (mkSt [1, 8, 9, 10, 11, 12, 13, 99, 100, 101] (io19.enc (y35, y36, y37, y38, y39, y40, y41, y42, y43, y44))))
def strconv_ParseUint_v2.x73 : Ex → Option (List Nat × List Sp)
  | .exit 3 => some ([9, 12, 13], [])
  | _ => none
def strconv_ParseUint_v2.L73 (k : Nat) (n : Nat) (v : Int × Bool × (List UInt8) × Int × Int × Bool × Int × Int × Int × (List Int)) (K : Ex → St T → Option (Int)) : Option (Int) := strconv_ParseUint_v2.c73 k n v.1 v.2.1 v.2.2.1 v.2.2.2.1 v.2.2.2.2.1 v.2.2.2.2.2.1 v.2.2.2.2.2.2.1 v.2.2.2.2.2.2.2.1 v.2.2.2.2.2.2.2.2.1 v.2.2.2.2.2.2.2.2.2 (fun y45 y46 y47 => K (.exit 3) (mkSt [9, 12, 13] (io20.enc (y45, y46, y47))))
def strconv_ParseUint_v2.x64 : Ex → Option (List Nat × List Sp)
  | _ => none
def strconv_ParseUint_v2.L64 (k : Nat) (v : (List UInt8) × Int × Int × Bool × (List UInt8) × Int) (K : Ex → St T → Option (Int)) : Option (Int) := strconv_ParseUint_v2.c64 k v.1 v.2.1 v.2.2.1 v.2.2.2.1 v.2.2.2.2.1 v.2.2.2.2.2
def strconv_ParseUint_v2.x50 : Ex → Option (List Nat × List Sp)
  | _ => none
def strconv_ParseUint_v2.L50 (k : Nat) (v : (List UInt8) × Int × Int × Bool × (List UInt8)) (K : Ex → St T → Option (Int)) : Option (Int) := strconv_ParseUint_v2.c50 k v.1 v.2.1 v.2.2.1 v.2.2.2.1 v.2.2.2.2
def strconv_ParseUint_v2.x42 : Ex → Option (List Nat × List Sp)
  | _ => none
def strconv_ParseUint_v2.L42 (k : Nat) (v : (List UInt8) × Int × Int × Bool × (List UInt8)) (K : Ex → St T → Option (Int)) : Option (Int) := strconv_ParseUint_v2.c42 k v.1 v.2.1 v.2.2.1 v.2.2.2.1 v.2.2.2.2
def strconv_ParseUint_v2.cuts (w0 : World) (k : Nat) : Cuts T (Int) := fun n => bif n.beq 92 then some (entK (cfg w0 (tab11 k)) 0 [1, 8, 9, 10, 11, 12, 13, 16, 99, 100, 101] [] io18.pat (strconv_ParseUint_v2.L92 k)) else bif n.beq 73 then some (entK (cfg w0 (tab11 k)) 0 [1, 8, 9, 10, 11, 12, 13, 99, 100, 101] [] io19.pat (strconv_ParseUint_v2.L73 k k)) else bif n.beq 64 then some (entK (cfg w0 (tab11 k)) 0 [0, 1, 2, 8, 9, 10] [] io21.pat (strconv_ParseUint_v2.L64 k)) else bif n.beq 50 then some (entK (cfg w0 (tab11 k)) 0 [0, 1, 2, 8, 9] [] io22.pat (strconv_ParseUint_v2.L50 k)) else bif n.beq 42 then some (entK (cfg w0 (tab11 k)) 0 [0, 1, 2, 8, 9] [] io22.pat (strconv_ParseUint_v2.L42 k)) else none
def strconv_ParseUint_v2.body : Code := bodyOf Tryd.f160
def strconv_ParseUint_v2.b92 : Code := findD 92 strconv_ParseUint_v2.body
theorem strconv_ParseUint_v2.s92 (w0 : World) (k : Nat) : ∀ v K, strconv_ParseUint_v2.L92 k v K = runK (cfg w0 (tab11 k)) Tryd.f160.ntmps (strconv_ParseUint_v2.kr w0 k) (annot (strconv_ParseUint_v2.cuts w0 k) strconv_ParseUint_v2.b92) (mkSt [1, 8, 9, 10, 11, 12, 13, 16, 99, 100, 101] (io18.enc v)) (outK (cfg w0 (tab11 k)) 0 strconv_ParseUint_v2.x92 K) := by
  intro v K; kernel_rfl
def strconv_ParseUint_v2.b73 : Code := findD 73 strconv_ParseUint_v2.body
theorem strconv_ParseUint_v2.s73 (w0 : World) (k : Nat) : ∀ n v K, strconv_ParseUint_v2.L73 k (n + 1) v K = runK (cfg w0 (tab11 k)) Tryd.f160.ntmps (strconv_ParseUint_v2.kr w0 k) (annot (strconv_ParseUint_v2.cuts w0 k) strconv_ParseUint_v2.b73) (mkSt [1, 8, 9, 10, 11, 12, 13, 99, 100, 101] (io19.enc v)) (loopK (cfg w0 (tab11 k)) 0 strconv_ParseUint_v2.x73 (entK (cfg w0 (tab11 k)) 0 [1, 8, 9, 10, 11, 12, 13, 99, 100, 101] [] io19.pat (strconv_ParseUint_v2.L73 k n)) K) := by
  intro n v K; kernel_rfl
def strconv_ParseUint_v2.b64 : Code := findD 64 strconv_ParseUint_v2.body
theorem strconv_ParseUint_v2.s64 (w0 : World) (k : Nat) : ∀ v K, strconv_ParseUint_v2.L64 k v K = runK (cfg w0 (tab11 k)) Tryd.f160.ntmps (strconv_ParseUint_v2.kr w0 k) (annot (strconv_ParseUint_v2.cuts w0 k) strconv_ParseUint_v2.b64) (mkSt [0, 1, 2, 8, 9, 10] (io21.enc v)) (outK (cfg w0 (tab11 k)) 0 strconv_ParseUint_v2.x64 K) := by
  intro v K; kernel_rfl
def strconv_ParseUint_v2.b50 : Code := findD 50 strconv_ParseUint_v2.body
theorem strconv_ParseUint_v2.s50 (w0 : World) (k : Nat) : ∀ v K, strconv_ParseUint_v2.L50 k v K = runK (cfg w0 (tab11 k)) Tryd.f160.ntmps (strconv_ParseUint_v2.kr w0 k) (annot (strconv_ParseUint_v2.cuts w0 k) strconv_ParseUint_v2.b50) (mkSt [0, 1, 2, 8, 9] (io22.enc v)) (outK (cfg w0 (tab11 k)) 0 strconv_ParseUint_v2.x50 K) := by
  intro v K; kernel_rfl
def strconv_ParseUint_v2.b42 : Code := findD 42 strconv_ParseUint_v2.body
theorem strconv_ParseUint_v2.s42 (w0 : World) (k : Nat) : ∀ v K, strconv_ParseUint_v2.L42 k v K = runK (cfg w0 (tab11 k)) Tryd.f160.ntmps (strconv_ParseUint_v2.kr w0 k) (annot (strconv_ParseUint_v2.cuts w0 k) strconv_ParseUint_v2.b42) (mkSt [0, 1, 2, 8, 9] (io22.enc v)) (outK (cfg w0 (tab11 k)) 0 strconv_ParseUint_v2.x42 K) := by
  intro v K; kernel_rfl
theorem strconv_ParseUint_v2.e (w0 : World) (k : Nat) : ∀ v, (fun v => strconv_ParseUint_v2 k v.1 v.2.1 v.2.2) v = runK (cfg w0 (tab11 k)) Tryd.f160.ntmps (strconv_ParseUint_v2.kr w0 k) (annot (strconv_ParseUint_v2.cuts w0 k) strconv_ParseUint_v2.body) (entry (io16.enc v).1 (io16.enc v).2) (endK (strconv_ParseUint_v2.kr w0 k)) := by
  intro v; kernel_rfl
theorem strconv_ParseUint_v2.hb : Tryd.f160.body = some strconv_ParseUint_v2.body := by kernel_rfl
def tab12 (k : Nat) : Tab T := addTab 160 (line io16 io17 (0 : Int) (fun v => strconv_ParseUint_v2 k v.1 v.2.1 v.2.2)) (tab11 k)
def strconv_ParseUint (k : Nat) (a1 : List UInt8) (a2 : Int) (a3 : Int) : Option (Int) :=
(strconv_ParseUint_v2 k a1 a2 a3).bind fun r4 =>
cond (!true) (
none) (
some r4)
def strconv_ParseUint.kr (w0 : World) (k : Nat) : St T → Option (Int) := (retK (cfg w0 (tab12 k)) Tryd.f103.results.toList 0 [] io17.pat)
def strconv_ParseUint.cuts (w0 : World) (k : Nat) : Cuts T (Int) := fun n => none
def strconv_ParseUint.body : Code := bodyOf Tryd.f103
theorem strconv_ParseUint.e (w0 : World) (k : Nat) : ∀ v, (fun v => strconv_ParseUint k v.1 v.2.1 v.2.2) v = runK (cfg w0 (tab12 k)) Tryd.f103.ntmps (strconv_ParseUint.kr w0 k) (annot (strconv_ParseUint.cuts w0 k) strconv_ParseUint.body) (entry (io16.enc v).1 (io16.enc v).2) (endK (strconv_ParseUint.kr w0 k)) := by
  intro v; kernel_rfl
theorem strconv_ParseUint.hb : Tryd.f103.body = some strconv_ParseUint.body := by kernel_rfl
def tab13 (k : Nat) : Tab T := addTab 103 (line io16 io17 (0 : Int) (fun v => strconv_ParseUint k v.1 v.2.1 v.2.2)) (tab12 k)
def color_hex.c13 (k : Nat) : Nat → (List UInt8) → Int → Int → (List UInt8) → ((List UInt8) → Option (Int × Bool)) → Option (Int × Bool)
  | 0, _, _, _, _, _ => none
  | n + 1, x5, x6, x7, x8, k0 =>
    cond (decide (x7 < x6)) (
    let v9 : Int := (IntKind.wrap .i64 (x7 + (1 : Int)))
    cond (decide (0 ≤ x7 ∧ x7 ≤ v9 ∧ v9 ≤ (x5.length : Int))) (
    let v10 : List UInt8 := ((x5.take v9.toNat).drop x7.toNat)
    (strings_Repeat k v10 (2 : Int)).bind fun r11 =>
    (f__strings_Builder__WriteString k r11 x8).bind fun r12 =>
    let v13 : Int := (IntKind.wrap .i64 (x7 + (1 : Int)))
    color_hex.c13 k n x5 x6 v13 r12.2 k0) none) (
    k0 x8)
def color_hex.c26 (k : Nat) (x19 : List UInt8)  : Option (Int × Bool) :=
(strconv_ParseUint k x19 (16 : Int) (64 : Int)).bind fun r20 =>
let v21 : Bool := ((x19.length : Int) == (8 : Int))
some ((IntKind.wrap .i64 r20), (cond true v21 false))
def color_hex.c22 (k : Nat) (x16 : List UInt8)  : Option (Int × Bool) :=
let v17 : Bool := ((x16.length : Int) == (6 : Int))
cond v17 (
cond (Nat.ble (x16.length + ([102, 102] : List UInt8).length) 9223372036854775807) (
let v18 : List UInt8 := (x16 ++ ([102, 102] : List UInt8))
color_hex.c26 k v18) none) (
color_hex.c26 k x16)
def color_hex (k : Nat) (a1 : List UInt8) : Option (Int × Bool) :=
(strings_Trim k a1 ([48, 49, 50, 51, 52, 53, 54, 55, 56, 57, 97, 98, 99, 100, 101, 102] : List UInt8)).bind fun r2 =>
cond (!(r2 == ([] : List UInt8))) (
some ((0 : Int), false)) (
let v3 : Bool := ((a1.length : Int) == (3 : Int))
let v4 : Bool := ((a1.length : Int) == (4 : Int))
cond (cond v3 true v4) (
color_hex.c13 k k a1 (a1.length : Int) (0 : Int) ([] : List UInt8) (fun (y14 : List UInt8) =>
(f__strings_Builder__String k y14).bind fun r15 =>
color_hex.c22 k r15.1)) (
color_hex.c22 k a1))
def color_hex.kr (w0 : World) (k : Nat) : St T → Option (Int × Bool) := (retK (cfg w0 (tab13 k)) Tryd.f65.results.toList 0 [] io3.pat)
def color_hex.x13 : Ex → Option (List Nat × List Sp)
  | .exit 0 => some ([4], [])
  | _ => none
def color_hex.L13 (k : Nat) (n : Nat) (v : (List UInt8) × Int × Int × (List UInt8)) (K : Ex → St T → Option (Int × Bool)) : Option (Int × Bool) := color_hex.c13 k n v.1 v.2.1 v.2.2.1 v.2.2.2 (fun y48 => K (.exit 0) (mkSt [4] (io10.enc y48)))
def color_hex.x26 : Ex → Option (List Nat × List Sp)
  | _ => none
def color_hex.L26 (k : Nat) (v : List UInt8) (K : Ex → St T → Option (Int × Bool)) : Option (Int × Bool) := color_hex.c26 k v
def color_hex.x22 : Ex → Option (List Nat × List Sp)
  | _ => none
def color_hex.L22 (k : Nat) (v : List UInt8) (K : Ex → St T → Option (Int × Bool)) : Option (Int × Bool) := color_hex.c22 k v
def color_hex.cuts (w0 : World) (k : Nat) : Cuts T (Int × Bool) := fun n => bif n.beq 13 then some (entK (cfg w0 (tab13 k)) 0 [0, 4, 20, 21] [] io23.pat (color_hex.L13 k k)) else bif n.beq 26 then some (entK (cfg w0 (tab13 k)) 0 [0] [] io0.pat (color_hex.L26 k)) else bif n.beq 22 then some (entK (cfg w0 (tab13 k)) 0 [0] [] io0.pat (color_hex.L22 k)) else none
def color_hex.body : Code := bodyOf Tryd.f65
def color_hex.b13 : Code := findD 13 color_hex.body
theorem color_hex.s13 (w0 : World) (k : Nat) : ∀ n v K, color_hex.L13 k (n + 1) v K = runK (cfg w0 (tab13 k)) Tryd.f65.ntmps (color_hex.kr w0 k) (annot (color_hex.cuts w0 k) color_hex.b13) (mkSt [0, 4, 20, 21] (io23.enc v)) (loopK (cfg w0 (tab13 k)) 0 color_hex.x13 (entK (cfg w0 (tab13 k)) 0 [0, 4, 20, 21] [] io23.pat (color_hex.L13 k n)) K) := by
  intro n v K; kernel_rfl
def color_hex.b26 : Code := findD 26 color_hex.body
theorem color_hex.s26 (w0 : World) (k : Nat) : ∀ v K, color_hex.L26 k v K = runK (cfg w0 (tab13 k)) Tryd.f65.ntmps (color_hex.kr w0 k) (annot (color_hex.cuts w0 k) color_hex.b26) (mkSt [0] (io0.enc v)) (outK (cfg w0 (tab13 k)) 0 color_hex.x26 K) := by
  intro v K; kernel_rfl
def color_hex.b22 : Code := findD 22 color_hex.body
theorem color_hex.s22 (w0 : World) (k : Nat) : ∀ v K, color_hex.L22 k v K = runK (cfg w0 (tab13 k)) Tryd.f65.ntmps (color_hex.kr w0 k) (annot (color_hex.cuts w0 k) color_hex.b22) (mkSt [0] (io0.enc v)) (outK (cfg w0 (tab13 k)) 0 color_hex.x22 K) := by
  intro v K; kernel_rfl
theorem color_hex.e (w0 : World) (k : Nat) : ∀ v, (fun v => color_hex k v) v = runK (cfg w0 (tab13 k)) Tryd.f65.ntmps (color_hex.kr w0 k) (annot (color_hex.cuts w0 k) color_hex.body) (entry (io0.enc v).1 (io0.enc v).2) (endK (color_hex.kr w0 k)) := by
  intro v; kernel_rfl
theorem color_hex.hb : Tryd.f65.body = some color_hex.body := by kernel_rfl
def tab14 (k : Nat) : Tab T := addTab 65 (line io0 io3 ((0 : Int), false) (fun v => color_hex k v)) (tab13 k)
def stringslite_HasSuffix (k : Nat) (a1 : List UInt8) (a2 : List UInt8) : Option (Bool) :=
let v3 : Bool := (decide ((a1.length : Int) ≥ (a2.length : Int)))
let v4 : Int := (IntKind.wrap .i64 ((a1.length : Int) - (a2.length : Int)))
cond ((decide (0 ≤ v4 ∧ v4 ≤ (a1.length : Int))) || !v3) (
let v5 : Bool := (cond v3 ((a1.drop v4.toNat) == a2) false)
some v5) none
def stringslite_HasSuffix.kr (w0 : World) (k : Nat) : St T → Option (Bool) := (retK (cfg w0 (tab14 k)) Tryd.f104.results.toList 0 [] io5.pat)
def stringslite_HasSuffix.cuts (w0 : World) (k : Nat) : Cuts T (Bool) := fun n => none
def stringslite_HasSuffix.body : Code := bodyOf Tryd.f104
theorem stringslite_HasSuffix.e (w0 : World) (k : Nat) : ∀ v, (fun v => stringslite_HasSuffix k v.1 v.2) v = runK (cfg w0 (tab14 k)) Tryd.f104.ntmps (stringslite_HasSuffix.kr w0 k) (annot (stringslite_HasSuffix.cuts w0 k) stringslite_HasSuffix.body) (entry (io4.enc v).1 (io4.enc v).2) (endK (stringslite_HasSuffix.kr w0 k)) := by
  intro v; kernel_rfl
theorem stringslite_HasSuffix.hb : Tryd.f104.body = some stringslite_HasSuffix.body := by kernel_rfl
def tab15 (k : Nat) : Tab T := addTab 104 (line io4 io5 false (fun v => stringslite_HasSuffix k v.1 v.2)) (tab14 k)
def strings_HasSuffix (k : Nat) (a1 : List UInt8) (a2 : List UInt8) : Option (Bool) :=
(stringslite_HasSuffix k a1 a2).bind fun r3 =>
some r3
def strings_HasSuffix.kr (w0 : World) (k : Nat) : St T → Option (Bool) := (retK (cfg w0 (tab15 k)) Tryd.f66.results.toList 0 [] io5.pat)
def strings_HasSuffix.cuts (w0 : World) (k : Nat) : Cuts T (Bool) := fun n => none
def strings_HasSuffix.body : Code := bodyOf Tryd.f66
theorem strings_HasSuffix.e (w0 : World) (k : Nat) : ∀ v, (fun v => strings_HasSuffix k v.1 v.2) v = runK (cfg w0 (tab15 k)) Tryd.f66.ntmps (strings_HasSuffix.kr w0 k) (annot (strings_HasSuffix.cuts w0 k) strings_HasSuffix.body) (entry (io4.enc v).1 (io4.enc v).2) (endK (strings_HasSuffix.kr w0 k)) := by
  intro v; kernel_rfl
theorem strings_HasSuffix.hb : Tryd.f66.body = some strings_HasSuffix.body := by kernel_rfl
def tab16 (k : Nat) : Tab T := addTab 66 (line io4 io5 false (fun v => strings_HasSuffix k v.1 v.2)) (tab15 k)
def strings_Index (k : Nat) (a12 : List UInt8) (a13 : List UInt8) : Option (Int) := findS a12 a13
def tab17 (k : Nat) : Tab T := addTab 45 (line io4 io24 (0 : Int) (fun v => strings_Index k v.1 v.2)) (tab16 k)
def strings_Count.c13 (k : Nat) : Nat → (List UInt8) → (List UInt8) → Int → Option (Int)
  | 0, _, _, _ => none
  | n + 1, x8, x9, x10 =>
    (strings_Index k x8 x9).bind fun r11 =>
    cond (r11 == (-1 : Int)) (
    some x10) (
    let v12 : Int := (IntKind.wrap .i64 (x10 + (1 : Int)))
    let v13 : Int := (IntKind.wrap .i64 (r11 + (x9.length : Int)))
    cond (decide (0 ≤ v13 ∧ v13 ≤ (x8.length : Int))) (
    strings_Count.c13 k n (x8.drop v13.toNat) x9 v12) none)
def strings_Count (k : Nat) (a1 : List UInt8) (a2 : List UInt8) : Option (Int) :=
let v3 : Bool := ((a2.length : Int) == (0 : Int))
cond v3 (
none) (
let v5 : Bool := ((a2.length : Int) == (1 : Int))
cond v5 (
cond (decide (0 ≤ (0 : Int) ∧ (0 : Int) < (a2.length : Int))) (
let v6 : Int := ((a2.getD (0 : Int).toNat 0).toNat : Int)
none) none) (
strings_Count.c13 k k a1 a2 (0 : Int)))
def strings_Count.kr (w0 : World) (k : Nat) : St T → Option (Int) := (retK (cfg w0 (tab17 k)) Tryd.f21.results.toList 0 [] io24.pat)
def strings_Count.x13 : Ex → Option (List Nat × List Sp)
  | _ => none
def strings_Count.L13 (k : Nat) (n : Nat) (v : (List UInt8) × (List UInt8) × Int) (K : Ex → St T → Option (Int)) : Option (Int) := strings_Count.c13 k n v.1 v.2.1 v.2.2
def strings_Count.cuts (w0 : World) (k : Nat) : Cuts T (Int) := fun n => bif n.beq 13 then some (entK (cfg w0 (tab17 k)) 0 [0, 1, 5] [] io25.pat (strings_Count.L13 k k)) else none
def strings_Count.body : Code := bodyOf Tryd.f21
def strings_Count.b13 : Code := findD 13 strings_Count.body
theorem strings_Count.s13 (w0 : World) (k : Nat) : ∀ n v K, strings_Count.L13 k (n + 1) v K = runK (cfg w0 (tab17 k)) Tryd.f21.ntmps (strings_Count.kr w0 k) (annot (strings_Count.cuts w0 k) strings_Count.b13) (mkSt [0, 1, 5] (io25.enc v)) (loopK (cfg w0 (tab17 k)) 0 strings_Count.x13 (entK (cfg w0 (tab17 k)) 0 [0, 1, 5] [] io25.pat (strings_Count.L13 k n)) K) := by
  intro n v K; kernel_rfl
theorem strings_Count.e (w0 : World) (k : Nat) : ∀ v, (fun v => strings_Count k v.1 v.2) v = runK (cfg w0 (tab17 k)) Tryd.f21.ntmps (strings_Count.kr w0 k) (annot (strings_Count.cuts w0 k) strings_Count.body) (entry (io4.enc v).1 (io4.enc v).2) (endK (strings_Count.kr w0 k)) := by
  intro v; kernel_rfl
theorem strings_Count.hb : Tryd.f21.body = some strings_Count.body := by kernel_rfl
def tab18 (k : Nat) : Tab T := addTab 21 (line io4 io24 (0 : Int) (fun v => strings_Count k v.1 v.2)) (tab17 k)
def strings_genSplit.c14 (k : Nat) (x8 : List UInt8) (x9 : List UInt8) (x10 : Int) (x11 : Int)  : Option (Unit) :=
let v12 : Int := (IntKind.wrap .i64 ((x8.length : Int) + (1 : Int)))
let v13 : Int := (if v12 < x11 then v12 else x11)
none
def strings_genSplit (k : Nat) (a1 : List UInt8) (a2 : List UInt8) (a3 : Int) (a4 : Int) : Option (Unit) :=
cond (a4 == (0 : Int)) (
some ()) (
cond (a2 == ([] : List UInt8)) (
none) (
cond (decide (a4 < (0 : Int))) (
(strings_Count k a1 a2).bind fun r6 =>
let v7 : Int := (IntKind.wrap .i64 (r6 + (1 : Int)))
strings_genSplit.c14 k a1 a2 a3 v7) (
strings_genSplit.c14 k a1 a2 a3 a4)))
def strings_genSplit.kr (w0 : World) (k : Nat) : St T → Option (Unit) := (retK (cfg w0 (tab18 k)) Tryd.f161.results.toList 0 [] io27.pat)
def strings_genSplit.x14 : Ex → Option (List Nat × List Sp)
  | _ => none
def strings_genSplit.L14 (k : Nat) (v : (List UInt8) × (List UInt8) × Int × Int) (K : Ex → St T → Option (Unit)) : Option (Unit) := strings_genSplit.c14 k v.1 v.2.1 v.2.2.1 v.2.2.2
def strings_genSplit.cuts (w0 : World) (k : Nat) : Cuts T (Unit) := fun n => bif n.beq 14 then some (entK (cfg w0 (tab18 k)) 0 [0, 1, 2, 3] [] io26.pat (strings_genSplit.L14 k)) else none
def strings_genSplit.body : Code := bodyOf Tryd.f161
def strings_genSplit.b14 : Code := findD 14 strings_genSplit.body
theorem strings_genSplit.s14 (w0 : World) (k : Nat) : ∀ v K, strings_genSplit.L14 k v K = runK (cfg w0 (tab18 k)) Tryd.f161.ntmps (strings_genSplit.kr w0 k) (annot (strings_genSplit.cuts w0 k) strings_genSplit.b14) (mkSt [0, 1, 2, 3] (io26.enc v)) (outK (cfg w0 (tab18 k)) 0 strings_genSplit.x14 K) := by
  intro v K; kernel_rfl
theorem strings_genSplit.e (w0 : World) (k : Nat) : ∀ v, (fun v => strings_genSplit k v.1 v.2.1 v.2.2.1 v.2.2.2) v = runK (cfg w0 (tab18 k)) Tryd.f161.ntmps (strings_genSplit.kr w0 k) (annot (strings_genSplit.cuts w0 k) strings_genSplit.body) (entry (io26.enc v).1 (io26.enc v).2) (endK (strings_genSplit.kr w0 k)) := by
  intro v; kernel_rfl
theorem strings_genSplit.hb : Tryd.f161.body = some strings_genSplit.body := by kernel_rfl
def tab19 (k : Nat) : Tab T := addTab 161 (line io26 io27 () (fun v => strings_genSplit k v.1 v.2.1 v.2.2.1 v.2.2.2)) (tab18 k)
def strings_Split (k : Nat) (a1 : List UInt8) (a2 : List UInt8) : Option (Unit) :=
(strings_genSplit k a1 a2 (0 : Int) (-1 : Int)).bind fun r3 =>
some ()
def strings_Split.kr (w0 : World) (k : Nat) : St T → Option (Unit) := (retK (cfg w0 (tab19 k)) Tryd.f105.results.toList 0 [] io27.pat)
def strings_Split.cuts (w0 : World) (k : Nat) : Cuts T (Unit) := fun n => none
def strings_Split.body : Code := bodyOf Tryd.f105
theorem strings_Split.e (w0 : World) (k : Nat) : ∀ v, (fun v => strings_Split k v.1 v.2) v = runK (cfg w0 (tab19 k)) Tryd.f105.ntmps (strings_Split.kr w0 k) (annot (strings_Split.cuts w0 k) strings_Split.body) (entry (io4.enc v).1 (io4.enc v).2) (endK (strings_Split.kr w0 k)) := by
  intro v; kernel_rfl
theorem strings_Split.hb : Tryd.f105.body = some strings_Split.body := by kernel_rfl
def tab20 (k : Nat) : Tab T := addTab 105 (line io4 io27 () (fun v => strings_Split k v.1 v.2)) (tab19 k)
def stringslite_TrimPrefix (k : Nat) (a1 : List UInt8) (a2 : List UInt8) : Option (List UInt8) :=
(stringslite_HasPrefix k a1 a2).bind fun r3 =>
cond r3 (
cond (decide (0 ≤ (a2.length : Int) ∧ (a2.length : Int) ≤ (a1.length : Int))) (
let v4 : List UInt8 := (a1.drop (a2.length : Int).toNat)
some v4) none) (
some a1)
def stringslite_TrimPrefix.kr (w0 : World) (k : Nat) : St T → Option (List UInt8) := (retK (cfg w0 (tab20 k)) Tryd.f162.results.toList 0 [] io0.pat)
def stringslite_TrimPrefix.cuts (w0 : World) (k : Nat) : Cuts T (List UInt8) := fun n => none
def stringslite_TrimPrefix.body : Code := bodyOf Tryd.f162
theorem stringslite_TrimPrefix.e (w0 : World) (k : Nat) : ∀ v, (fun v => stringslite_TrimPrefix k v.1 v.2) v = runK (cfg w0 (tab20 k)) Tryd.f162.ntmps (stringslite_TrimPrefix.kr w0 k) (annot (stringslite_TrimPrefix.cuts w0 k) stringslite_TrimPrefix.body) (entry (io4.enc v).1 (io4.enc v).2) (endK (stringslite_TrimPrefix.kr w0 k)) := by
  intro v; kernel_rfl
theorem stringslite_TrimPrefix.hb : Tryd.f162.body = some stringslite_TrimPrefix.body := by kernel_rfl
def tab21 (k : Nat) : Tab T := addTab 162 (line io4 io0 [] (fun v => stringslite_TrimPrefix k v.1 v.2)) (tab20 k)
def strings_TrimPrefix (k : Nat) (a1 : List UInt8) (a2 : List UInt8) : Option (List UInt8) :=
(stringslite_TrimPrefix k a1 a2).bind fun r3 =>
some r3
def strings_TrimPrefix.kr (w0 : World) (k : Nat) : St T → Option (List UInt8) := (retK (cfg w0 (tab21 k)) Tryd.f106.results.toList 0 [] io0.pat)
def strings_TrimPrefix.cuts (w0 : World) (k : Nat) : Cuts T (List UInt8) := fun n => none
def strings_TrimPrefix.body : Code := bodyOf Tryd.f106
theorem strings_TrimPrefix.e (w0 : World) (k : Nat) : ∀ v, (fun v => strings_TrimPrefix k v.1 v.2) v = runK (cfg w0 (tab21 k)) Tryd.f106.ntmps (strings_TrimPrefix.kr w0 k) (annot (strings_TrimPrefix.cuts w0 k) strings_TrimPrefix.body) (entry (io4.enc v).1 (io4.enc v).2) (endK (strings_TrimPrefix.kr w0 k)) := by
  intro v; kernel_rfl
theorem strings_TrimPrefix.hb : Tryd.f106.body = some strings_TrimPrefix.body := by kernel_rfl
def tab22 (k : Nat) : Tab T := addTab 106 (line io4 io0 [] (fun v => strings_TrimPrefix k v.1 v.2)) (tab21 k)
def strconv_Atoi_v2.c21 (k : Nat) : Nat → (List UInt8) → Int → Int → Int → (List Int) → ((List UInt8) → Int → Option (Int)) → Option (Int)
  | 0, _, _, _, _, _, _ => none
  | n + 1, x14, x15, x16, x17, x18, k0 =>
    cond (decide (x17 < x16)) (
    cond (decide (0 ≤ x17 ∧ x17 < (x18.length : Int))) (
    let v19 : Int := (IntKind.wrap .u8 ((x18.getD x17.toNat (0 : Int)) - (48 : Int)))
    cond (decide (v19 > (9 : Int))) (
    none) (
    let v20 : Int := (IntKind.wrap .i64 (x15 * (10 : Int)))
    let v21 : Int := (IntKind.wrap .i64 (v20 + (IntKind.wrap .i64 v19)))
    let v22 : Int := (IntKind.wrap .i64 (x17 + (1 : Int)))
    strconv_Atoi_v2.c21 k n x14 v21 x16 v22 x18 k0)) none) (
    k0 x14 x15)
def strconv_Atoi_v2.c38 (k : Nat) (x26 : Int)  : Option (Int) :=
some x26
def strconv_Atoi_v2.c16 (k : Nat) (x12 : List UInt8) (x13 : List UInt8)  : Option (Int) :=
strconv_Atoi_v2.c21 k k x13 (0 : Int) ((bytesI x12).length : Int) (0 : Int) (bytesI x12) (fun (y23 : List UInt8) (y24 : Int) =>
cond (decide (0 ≤ (0 : Int) ∧ (0 : Int) < (y23.length : Int))) (
let v25 : Int := ((y23.getD (0 : Int).toNat 0).toNat : Int)
cond (v25 == (45 : Int)) (
strconv_Atoi_v2.c38 k (IntKind.wrap .i64 (0 - y24))) (
strconv_Atoi_v2.c38 k y24)) none)
def strconv_Atoi_v2 (k : Nat) (a1 : List UInt8) : Option (Int) :=
let v2 : Bool := (decide ((0 : Int) < (a1.length : Int)))
let v3 : Bool := (decide ((a1.length : Int) < (10 : Int)))
let v4 : Bool := (cond false (cond v2 v3 false) false)
let v5 : Bool := (decide ((0 : Int) < (a1.length : Int)))
let v6 : Bool := (decide ((a1.length : Int) < (19 : Int)))
let v7 : Bool := (cond true (cond v5 v6 false) false)
cond (cond v4 true v7) (
cond (decide (0 ≤ (0 : Int) ∧ (0 : Int) < (a1.length : Int))) (
let v8 : Int := ((a1.getD (0 : Int).toNat 0).toNat : Int)
cond ((decide (0 ≤ (0 : Int) ∧ (0 : Int) < (a1.length : Int))) || !(!(v8 == (45 : Int)))) (
let v9 : Int := ((a1.getD (0 : Int).toNat 0).toNat : Int)
let v10 : Bool := (cond (v8 == (45 : Int)) true (v9 == (43 : Int)))
cond v10 (
cond (decide (0 ≤ (1 : Int) ∧ (1 : Int) ≤ (a1.length : Int))) (
let v11 : Int := ((a1.drop (1 : Int).toNat).length : Int)
cond (decide (v11 < (1 : Int))) (
none) (
strconv_Atoi_v2.c16 k (a1.drop (1 : Int).toNat) a1)) none) (
strconv_Atoi_v2.c16 k a1 a1)) none) none) (
none)
def strconv_Atoi_v2.kr (w0 : World) (k : Nat) : St T → Option (Int) := (retK (cfg w0 (tab22 k)) Tryd.f80.results.toList 0 [] io28.pat)
def strconv_Atoi_v2.x21 : Ex → Option (List Nat × List Sp)
  | .exit 0 => some ([5, 6], [])
  | _ => none
def strconv_Atoi_v2.L21 (k : Nat) (n : Nat) (v : (List UInt8) × Int × Int × Int × (List Int)) (K : Ex → St T → Option (Int)) : Option (Int) := strconv_Atoi_v2.c21 k n v.1 v.2.1 v.2.2.1 v.2.2.2.1 v.2.2.2.2 (fun y49 y50 => K (.exit 0) (mkSt [5, 6] (io7.enc (y49, y50))))
def strconv_Atoi_v2.x38 : Ex → Option (List Nat × List Sp)
  | _ => none
def strconv_Atoi_v2.L38 (k : Nat) (v : Int) (K : Ex → St T → Option (Int)) : Option (Int) := strconv_Atoi_v2.c38 k v
def strconv_Atoi_v2.x16 : Ex → Option (List Nat × List Sp)
  | _ => none
def strconv_Atoi_v2.L16 (k : Nat) (v : (List UInt8) × (List UInt8)) (K : Ex → St T → Option (Int)) : Option (Int) := strconv_Atoi_v2.c16 k v.1 v.2
def strconv_Atoi_v2.cuts (w0 : World) (k : Nat) : Cuts T (Int) := fun n => bif n.beq 21 then some (entK (cfg w0 (tab22 k)) 0 [5, 6, 47, 48, 49] [] io29.pat (strconv_Atoi_v2.L21 k k)) else bif n.beq 38 then some (entK (cfg w0 (tab22 k)) 0 [6] [] io24.pat (strconv_Atoi_v2.L38 k)) else bif n.beq 16 then some (entK (cfg w0 (tab22 k)) 0 [0, 5] [] io4.pat (strconv_Atoi_v2.L16 k)) else none
def strconv_Atoi_v2.body : Code := bodyOf Tryd.f80
def strconv_Atoi_v2.b21 : Code := findD 21 strconv_Atoi_v2.body
theorem strconv_Atoi_v2.s21 (w0 : World) (k : Nat) : ∀ n v K, strconv_Atoi_v2.L21 k (n + 1) v K = runK (cfg w0 (tab22 k)) Tryd.f80.ntmps (strconv_Atoi_v2.kr w0 k) (annot (strconv_Atoi_v2.cuts w0 k) strconv_Atoi_v2.b21) (mkSt [5, 6, 47, 48, 49] (io29.enc v)) (loopK (cfg w0 (tab22 k)) 0 strconv_Atoi_v2.x21 (entK (cfg w0 (tab22 k)) 0 [5, 6, 47, 48, 49] [] io29.pat (strconv_Atoi_v2.L21 k n)) K) := by
  intro n v K; kernel_rfl
def strconv_Atoi_v2.b38 : Code := findD 38 strconv_Atoi_v2.body
theorem strconv_Atoi_v2.s38 (w0 : World) (k : Nat) : ∀ v K, strconv_Atoi_v2.L38 k v K = runK (cfg w0 (tab22 k)) Tryd.f80.ntmps (strconv_Atoi_v2.kr w0 k) (annot (strconv_Atoi_v2.cuts w0 k) strconv_Atoi_v2.b38) (mkSt [6] (io24.enc v)) (outK (cfg w0 (tab22 k)) 0 strconv_Atoi_v2.x38 K) := by
  intro v K; kernel_rfl
def strconv_Atoi_v2.b16 : Code := findD 16 strconv_Atoi_v2.body
theorem strconv_Atoi_v2.s16 (w0 : World) (k : Nat) : ∀ v K, strconv_Atoi_v2.L16 k v K = runK (cfg w0 (tab22 k)) Tryd.f80.ntmps (strconv_Atoi_v2.kr w0 k) (annot (strconv_Atoi_v2.cuts w0 k) strconv_Atoi_v2.b16) (mkSt [0, 5] (io4.enc v)) (outK (cfg w0 (tab22 k)) 0 strconv_Atoi_v2.x16 K) := by
  intro v K; kernel_rfl
theorem strconv_Atoi_v2.e (w0 : World) (k : Nat) : ∀ v, (fun v => strconv_Atoi_v2 k v) v = runK (cfg w0 (tab22 k)) Tryd.f80.ntmps (strconv_Atoi_v2.kr w0 k) (annot (strconv_Atoi_v2.cuts w0 k) strconv_Atoi_v2.body) (entry (io0.enc v).1 (io0.enc v).2) (endK (strconv_Atoi_v2.kr w0 k)) := by
  intro v; kernel_rfl
theorem strconv_Atoi_v2.hb : Tryd.f80.body = some strconv_Atoi_v2.body := by kernel_rfl
def tab23 (k : Nat) : Tab T := addTab 80 (line io0 io28 (0 : Int) (fun v => strconv_Atoi_v2 k v)) (tab22 k)
def strconv_Atoi (k : Nat) (a1 : List UInt8) : Option (Int) :=
(strconv_Atoi_v2 k a1).bind fun r2 =>
cond (!true) (
none) (
some r2)
def strconv_Atoi.kr (w0 : World) (k : Nat) : St T → Option (Int) := (retK (cfg w0 (tab23 k)) Tryd.f39.results.toList 0 [] io28.pat)
def strconv_Atoi.cuts (w0 : World) (k : Nat) : Cuts T (Int) := fun n => none
def strconv_Atoi.body : Code := bodyOf Tryd.f39
theorem strconv_Atoi.e (w0 : World) (k : Nat) : ∀ v, (fun v => strconv_Atoi k v) v = runK (cfg w0 (tab23 k)) Tryd.f39.ntmps (strconv_Atoi.kr w0 k) (annot (strconv_Atoi.cuts w0 k) strconv_Atoi.body) (entry (io0.enc v).1 (io0.enc v).2) (endK (strconv_Atoi.kr w0 k)) := by
  intro v; kernel_rfl
theorem strconv_Atoi.hb : Tryd.f39.body = some strconv_Atoi.body := by kernel_rfl
def tab24 (k : Nat) : Tab T := addTab 39 (line io0 io28 (0 : Int) (fun v => strconv_Atoi k v)) (tab23 k)
def strconv_small (k : Nat) (a1 : Int) : Option (List UInt8) :=
cond (decide (a1 < (10 : Int))) (
let v2 : Int := (IntKind.wrap .i64 (a1 + (1 : Int)))
cond (decide (0 ≤ a1 ∧ a1 ≤ v2 ∧ v2 ≤ (([48, 49, 50, 51, 52, 53, 54, 55, 56, 57, 97, 98, 99, 100, 101, 102, 103, 104, 105, 106, 107, 108, 109, 110, 111, 112, 113, 114, 115, 116, 117, 118, 119, 120, 121, 122] : List UInt8).length : Int))) (
let v3 : List UInt8 := ((([48, 49, 50, 51, 52, 53, 54, 55, 56, 57, 97, 98, 99, 100, 101, 102, 103, 104, 105, 106, 107, 108, 109, 110, 111, 112, 113, 114, 115, 116, 117, 118, 119, 120, 121, 122] : List UInt8).take v2.toNat).drop a1.toNat)
some v3) none) (
let v4 : Int := (IntKind.wrap .i64 (a1 * (2 : Int)))
let v5 : Int := (IntKind.wrap .i64 (a1 * (2 : Int)))
let v6 : Int := (IntKind.wrap .i64 (v5 + (2 : Int)))
cond (decide (0 ≤ v4 ∧ v4 ≤ v6 ∧ v6 ≤ (([48, 48, 48, 49, 48, 50, 48, 51, 48, 52, 48, 53, 48, 54, 48, 55, 48, 56, 48, 57, 49, 48, 49, 49, 49, 50, 49, 51, 49, 52, 49, 53, 49, 54, 49, 55, 49, 56, 49, 57, 50, 48, 50, 49, 50, 50, 50, 51, 50, 52, 50, 53, 50, 54, 50, 55, 50, 56, 50, 57, 51, 48, 51, 49, 51, 50, 51, 51, 51, 52, 51, 53, 51, 54, 51, 55, 51, 56, 51, 57, 52, 48, 52, 49, 52, 50, 52, 51, 52, 52, 52, 53, 52, 54, 52, 55, 52, 56, 52, 57, 53, 48, 53, 49, 53, 50, 53, 51, 53, 52, 53, 53, 53, 54, 53, 55, 53, 56, 53, 57, 54, 48, 54, 49, 54, 50, 54, 51, 54, 52, 54, 53, 54, 54, 54, 55, 54, 56, 54, 57, 55, 48, 55, 49, 55, 50, 55, 51, 55, 52, 55, 53, 55, 54, 55, 55, 55, 56, 55, 57, 56, 48, 56, 49, 56, 50, 56, 51, 56, 52, 56, 53, 56, 54, 56, 55, 56, 56, 56, 57, 57, 48, 57, 49, 57, 50, 57, 51, 57, 52, 57, 53, 57, 54, 57, 55, 57, 56, 57, 57] : List UInt8).length : Int))) (
let v7 : List UInt8 := ((([48, 48, 48, 49, 48, 50, 48, 51, 48, 52, 48, 53, 48, 54, 48, 55, 48, 56, 48, 57, 49, 48, 49, 49, 49, 50, 49, 51, 49, 52, 49, 53, 49, 54, 49, 55, 49, 56, 49, 57, 50, 48, 50, 49, 50, 50, 50, 51, 50, 52, 50, 53, 50, 54, 50, 55, 50, 56, 50, 57, 51, 48, 51, 49, 51, 50, 51, 51, 51, 52, 51, 53, 51, 54, 51, 55, 51, 56, 51, 57, 52, 48, 52, 49, 52, 50, 52, 51, 52, 52, 52, 53, 52, 54, 52, 55, 52, 56, 52, 57, 53, 48, 53, 49, 53, 50, 53, 51, 53, 52, 53, 53, 53, 54, 53, 55, 53, 56, 53, 57, 54, 48, 54, 49, 54, 50, 54, 51, 54, 52, 54, 53, 54, 54, 54, 55, 54, 56, 54, 57, 55, 48, 55, 49, 55, 50, 55, 51, 55, 52, 55, 53, 55, 54, 55, 55, 55, 56, 55, 57, 56, 48, 56, 49, 56, 50, 56, 51, 56, 52, 56, 53, 56, 54, 56, 55, 56, 56, 56, 57, 57, 48, 57, 49, 57, 50, 57, 51, 57, 52, 57, 53, 57, 54, 57, 55, 57, 56, 57, 57] : List UInt8).take v6.toNat).drop v4.toNat)
some v7) none)
def strconv_small.kr (w0 : World) (k : Nat) : St T → Option (List UInt8) := (retK (cfg w0 (tab24 k)) Tryd.f151.results.toList 0 [] io0.pat)
def strconv_small.cuts (w0 : World) (k : Nat) : Cuts T (List UInt8) := fun n => none
def strconv_small.body : Code := bodyOf Tryd.f151
theorem strconv_small.e (w0 : World) (k : Nat) : ∀ v, (fun v => strconv_small k v) v = runK (cfg w0 (tab24 k)) Tryd.f151.ntmps (strconv_small.kr w0 k) (annot (strconv_small.cuts w0 k) strconv_small.body) (entry (io24.enc v).1 (io24.enc v).2) (endK (strconv_small.kr w0 k)) := by
  intro v; kernel_rfl
theorem strconv_small.hb : Tryd.f151.body = some strconv_small.body := by kernel_rfl
def tab25 (k : Nat) : Tab T := addTab 151 (line io24 io0 [] (fun v => strconv_small k v)) (tab24 k)
def bits_Len64.c20 (k : Nat) (x12 : Int) (x13 : Int)  : Option (Int) :=
cond (decide (0 ≤ (IntKind.wrap .u8 x12) ∧ (IntKind.wrap .u8 x12) < (([0, 1, 2, 2, 3, 3, 3, 3, 4, 4, 4, 4, 4, 4, 4, 4, 5, 5, 5, 5, 5, 5, 5, 5, 5, 5, 5, 5, 5, 5, 5, 5, 6, 6, 6, 6, 6, 6, 6, 6, 6, 6, 6, 6, 6, 6, 6, 6, 6, 6, 6, 6, 6, 6, 6, 6, 6, 6, 6, 6, 6, 6, 6, 6, 7, 7, 7, 7, 7, 7, 7, 7, 7, 7, 7, 7, 7, 7, 7, 7, 7, 7, 7, 7, 7, 7, 7, 7, 7, 7, 7, 7, 7, 7, 7, 7, 7, 7, 7, 7, 7, 7, 7, 7, 7, 7, 7, 7, 7, 7, 7, 7, 7, 7, 7, 7, 7, 7, 7, 7, 7, 7, 7, 7, 7, 7, 7, 7, 8, 8, 8, 8, 8, 8, 8, 8, 8, 8, 8, 8, 8, 8, 8, 8, 8, 8, 8, 8, 8, 8, 8, 8, 8, 8, 8, 8, 8, 8, 8, 8, 8, 8, 8, 8, 8, 8, 8, 8, 8, 8, 8, 8, 8, 8, 8, 8, 8, 8, 8, 8, 8, 8, 8, 8, 8, 8, 8, 8, 8, 8, 8, 8, 8, 8, 8, 8, 8, 8, 8, 8, 8, 8, 8, 8, 8, 8, 8, 8, 8, 8, 8, 8, 8, 8, 8, 8, 8, 8, 8, 8, 8, 8, 8, 8, 8, 8, 8, 8, 8, 8, 8, 8, 8, 8, 8, 8, 8, 8, 8, 8, 8, 8, 8, 8, 8, 8, 8, 8, 8, 8, 8, 8, 8, 8, 8, 8] : List UInt8).length : Int))) (
let v14 : Int := ((([0, 1, 2, 2, 3, 3, 3, 3, 4, 4, 4, 4, 4, 4, 4, 4, 5, 5, 5, 5, 5, 5, 5, 5, 5, 5, 5, 5, 5, 5, 5, 5, 6, 6, 6, 6, 6, 6, 6, 6, 6, 6, 6, 6, 6, 6, 6, 6, 6, 6, 6, 6, 6, 6, 6, 6, 6, 6, 6, 6, 6, 6, 6, 6, 7, 7, 7, 7, 7, 7, 7, 7, 7, 7, 7, 7, 7, 7, 7, 7, 7, 7, 7, 7, 7, 7, 7, 7, 7, 7, 7, 7, 7, 7, 7, 7, 7, 7, 7, 7, 7, 7, 7, 7, 7, 7, 7, 7, 7, 7, 7, 7, 7, 7, 7, 7, 7, 7, 7, 7, 7, 7, 7, 7, 7, 7, 7, 7, 8, 8, 8, 8, 8, 8, 8, 8, 8, 8, 8, 8, 8, 8, 8, 8, 8, 8, 8, 8, 8, 8, 8, 8, 8, 8, 8, 8, 8, 8, 8, 8, 8, 8, 8, 8, 8, 8, 8, 8, 8, 8, 8, 8, 8, 8, 8, 8, 8, 8, 8, 8, 8, 8, 8, 8, 8, 8, 8, 8, 8, 8, 8, 8, 8, 8, 8, 8, 8, 8, 8, 8, 8, 8, 8, 8, 8, 8, 8, 8, 8, 8, 8, 8, 8, 8, 8, 8, 8, 8, 8, 8, 8, 8, 8, 8, 8, 8, 8, 8, 8, 8, 8, 8, 8, 8, 8, 8, 8, 8, 8, 8, 8, 8, 8, 8, 8, 8, 8, 8, 8, 8, 8, 8, 8, 8, 8, 8] : List UInt8).getD (IntKind.wrap .u8 x12).toNat 0).toNat : Int)
let v15 : Int := (IntKind.wrap .i64 (x13 + (IntKind.wrap .i64 v14)))
some v15) none
def bits_Len64.c14 (k : Nat) (x8 : Int) (x9 : Int)  : Option (Int) :=
cond (decide (x8 ≥ (256 : Int))) (
cond (decide (0 ≤ (8 : Int))) (
let v10 : Int := (Int.fdiv x8 (2 ^ (min (8 : Int).toNat (IntKind.bits .u64))))
let v11 : Int := (IntKind.wrap .i64 (x9 + (8 : Int)))
bits_Len64.c20 k v10 v11) none) (
bits_Len64.c20 k x8 x9)
def bits_Len64.c8 (k : Nat) (x4 : Int) (x5 : Int)  : Option (Int) :=
cond (decide (x4 ≥ (65536 : Int))) (
cond (decide (0 ≤ (16 : Int))) (
let v6 : Int := (Int.fdiv x4 (2 ^ (min (16 : Int).toNat (IntKind.bits .u64))))
let v7 : Int := (IntKind.wrap .i64 (x5 + (16 : Int)))
bits_Len64.c14 k v6 v7) none) (
bits_Len64.c14 k x4 x5)
def bits_Len64 (k : Nat) (a1 : Int) : Option (Int) :=
let v2 : Bool := (decide (a1 ≥ (4294967296 : Int)))
cond v2 (
cond (decide (0 ≤ (32 : Int))) (
let v3 : Int := (Int.fdiv a1 (2 ^ (min (32 : Int).toNat (IntKind.bits .u64))))
bits_Len64.c8 k v3 (32 : Int)) none) (
bits_Len64.c8 k a1 (0 : Int))
def bits_Len64.kr (w0 : World) (k : Nat) : St T → Option (Int) := (retK (cfg w0 (tab25 k)) Tryd.f186.results.toList 0 [] io24.pat)
def bits_Len64.x20 : Ex → Option (List Nat × List Sp)
  | _ => none
def bits_Len64.L20 (k : Nat) (v : Int × Int) (K : Ex → St T → Option (Int)) : Option (Int) := bits_Len64.c20 k v.1 v.2
def bits_Len64.x14 : Ex → Option (List Nat × List Sp)
  | _ => none
def bits_Len64.L14 (k : Nat) (v : Int × Int) (K : Ex → St T → Option (Int)) : Option (Int) := bits_Len64.c14 k v.1 v.2
def bits_Len64.x8 : Ex → Option (List Nat × List Sp)
  | _ => none
def bits_Len64.L8 (k : Nat) (v : Int × Int) (K : Ex → St T → Option (Int)) : Option (Int) := bits_Len64.c8 k v.1 v.2
def bits_Len64.cuts (w0 : World) (k : Nat) : Cuts T (Int) := fun n => bif n.beq 20 then some (entK (cfg w0 (tab25 k)) 0 [0, 2] [] io31.pat (bits_Len64.L20 k)) else bif n.beq 14 then some (entK (cfg w0 (tab25 k)) 0 [0, 2] [] io31.pat (bits_Len64.L14 k)) else bif n.beq 8 then some (entK (cfg w0 (tab25 k)) 0 [0, 2] [] io31.pat (bits_Len64.L8 k)) else none
def bits_Len64.body : Code := bodyOf Tryd.f186
def bits_Len64.b20 : Code := findD 20 bits_Len64.body
theorem bits_Len64.s20 (w0 : World) (k : Nat) : ∀ v K, bits_Len64.L20 k v K = runK (cfg w0 (tab25 k)) Tryd.f186.ntmps (bits_Len64.kr w0 k) (annot (bits_Len64.cuts w0 k) bits_Len64.b20) (mkSt [0, 2] (io31.enc v)) (outK (cfg w0 (tab25 k)) 0 bits_Len64.x20 K) := by
  intro v K; kernel_rfl
def bits_Len64.b14 : Code := findD 14 bits_Len64.body
theorem bits_Len64.s14 (w0 : World) (k : Nat) : ∀ v K, bits_Len64.L14 k v K = runK (cfg w0 (tab25 k)) Tryd.f186.ntmps (bits_Len64.kr w0 k) (annot (bits_Len64.cuts w0 k) bits_Len64.b14) (mkSt [0, 2] (io31.enc v)) (outK (cfg w0 (tab25 k)) 0 bits_Len64.x14 K) := by
  intro v K; kernel_rfl
def bits_Len64.b8 : Code := findD 8 bits_Len64.body
theorem bits_Len64.s8 (w0 : World) (k : Nat) : ∀ v K, bits_Len64.L8 k v K = runK (cfg w0 (tab25 k)) Tryd.f186.ntmps (bits_Len64.kr w0 k) (annot (bits_Len64.cuts w0 k) bits_Len64.b8) (mkSt [0, 2] (io31.enc v)) (outK (cfg w0 (tab25 k)) 0 bits_Len64.x8 K) := by
  intro v K; kernel_rfl
theorem bits_Len64.e (w0 : World) (k : Nat) : ∀ v, (fun v => bits_Len64 k v) v = runK (cfg w0 (tab25 k)) Tryd.f186.ntmps (bits_Len64.kr w0 k) (annot (bits_Len64.cuts w0 k) bits_Len64.body) (entry (io30.enc v).1 (io30.enc v).2) (endK (bits_Len64.kr w0 k)) := by
  intro v; kernel_rfl
theorem bits_Len64.hb : Tryd.f186.body = some bits_Len64.body := by kernel_rfl
def tab26 (k : Nat) : Tab T := addTab 186 (line io30 io24 (0 : Int) (fun v => bits_Len64 k v)) (tab25 k)
def strconv_log10Pow2 (k : Nat) (a1 : Int) : Option (Int) :=
let v2 : Int := (IntKind.wrap .i64 (a1 * (78913 : Int)))
cond (decide (0 ≤ (18 : Int))) (
let v3 : Int := (Int.fdiv v2 (2 ^ (min (18 : Int).toNat (IntKind.bits .i64))))
some v3) none
def strconv_log10Pow2.kr (w0 : World) (k : Nat) : St T → Option (Int) := (retK (cfg w0 (tab26 k)) Tryd.f185.results.toList 0 [] io24.pat)
def strconv_log10Pow2.cuts (w0 : World) (k : Nat) : Cuts T (Int) := fun n => none
def strconv_log10Pow2.body : Code := bodyOf Tryd.f185
theorem strconv_log10Pow2.e (w0 : World) (k : Nat) : ∀ v, (fun v => strconv_log10Pow2 k v) v = runK (cfg w0 (tab26 k)) Tryd.f185.ntmps (strconv_log10Pow2.kr w0 k) (annot (strconv_log10Pow2.cuts w0 k) strconv_log10Pow2.body) (entry (io24.enc v).1 (io24.enc v).2) (endK (strconv_log10Pow2.kr w0 k)) := by
  intro v; kernel_rfl
theorem strconv_log10Pow2.hb : Tryd.f185.body = some strconv_log10Pow2.body := by kernel_rfl
def tab27 (k : Nat) : Tab T := addTab 185 (line io24 io24 (0 : Int) (fun v => strconv_log10Pow2 k v)) (tab26 k)
def strconv_isPowerOfTwo (k : Nat) (a1 : Int) : Option (Bool) :=
let v2 : Int := (IntKind.wrap .i64 (a1 - (1 : Int)))
let v3 : Int := (IntKind.wrap .i64 (((BitVec.ofInt (IntKind.bits .i64) a1 &&& BitVec.ofInt (IntKind.bits .i64) v2).toNat : Int)))
some (v3 == (0 : Int))
def strconv_isPowerOfTwo.kr (w0 : World) (k : Nat) : St T → Option (Bool) := (retK (cfg w0 (tab27 k)) Tryd.f188.results.toList 0 [] io5.pat)
def strconv_isPowerOfTwo.cuts (w0 : World) (k : Nat) : Cuts T (Bool) := fun n => none
def strconv_isPowerOfTwo.body : Code := bodyOf Tryd.f188
theorem strconv_isPowerOfTwo.e (w0 : World) (k : Nat) : ∀ v, (fun v => strconv_isPowerOfTwo k v) v = runK (cfg w0 (tab27 k)) Tryd.f188.ntmps (strconv_isPowerOfTwo.kr w0 k) (annot (strconv_isPowerOfTwo.cuts w0 k) strconv_isPowerOfTwo.body) (entry (io24.enc v).1 (io24.enc v).2) (endK (strconv_isPowerOfTwo.kr w0 k)) := by
  intro v; kernel_rfl
theorem strconv_isPowerOfTwo.hb : Tryd.f188.body = some strconv_isPowerOfTwo.body := by kernel_rfl
def tab28 (k : Nat) : Tab T := addTab 188 (line io24 io5 false (fun v => strconv_isPowerOfTwo k v)) (tab27 k)
def bits_TrailingZeros64 (k : Nat) (a1 : Int) : Option (Int) :=
cond (a1 == (0 : Int)) (
some (64 : Int)) (
let v2 : Int := (IntKind.wrap .u64 (((BitVec.ofInt (IntKind.bits .u64) a1 &&& BitVec.ofInt (IntKind.bits .u64) (IntKind.wrap .u64 (0 - a1))).toNat : Int)))
let v3 : Int := (IntKind.wrap .u64 (v2 * (285870213051353865 : Int)))
cond (decide (0 ≤ (58 : Int))) (
let v4 : Int := (Int.fdiv v3 (2 ^ (min (58 : Int).toNat (IntKind.bits .u64))))
none) none)
def bits_TrailingZeros64.kr (w0 : World) (k : Nat) : St T → Option (Int) := (retK (cfg w0 (tab28 k)) Tryd.f206.results.toList 0 [] io24.pat)
def bits_TrailingZeros64.cuts (w0 : World) (k : Nat) : Cuts T (Int) := fun n => none
def bits_TrailingZeros64.body : Code := bodyOf Tryd.f206
theorem bits_TrailingZeros64.e (w0 : World) (k : Nat) : ∀ v, (fun v => bits_TrailingZeros64 k v) v = runK (cfg w0 (tab28 k)) Tryd.f206.ntmps (bits_TrailingZeros64.kr w0 k) (annot (bits_TrailingZeros64.cuts w0 k) bits_TrailingZeros64.body) (entry (io30.enc v).1 (io30.enc v).2) (endK (bits_TrailingZeros64.kr w0 k)) := by
  intro v; kernel_rfl
theorem bits_TrailingZeros64.hb : Tryd.f206.body = some bits_TrailingZeros64.body := by kernel_rfl
def tab29 (k : Nat) : Tab T := addTab 206 (line io30 io24 (0 : Int) (fun v => bits_TrailingZeros64 k v)) (tab28 k)
def bits_TrailingZeros (k : Nat) (a1 : Int) : Option (Int) :=
(bits_TrailingZeros64 k a1).bind fun r2 =>
some r2
def bits_TrailingZeros.kr (w0 : World) (k : Nat) : St T → Option (Int) := (retK (cfg w0 (tab29 k)) Tryd.f189.results.toList 0 [] io24.pat)
def bits_TrailingZeros.cuts (w0 : World) (k : Nat) : Cuts T (Int) := fun n => none
def bits_TrailingZeros.body : Code := bodyOf Tryd.f189
theorem bits_TrailingZeros.e (w0 : World) (k : Nat) : ∀ v, (fun v => bits_TrailingZeros k v) v = runK (cfg w0 (tab29 k)) Tryd.f189.ntmps (bits_TrailingZeros.kr w0 k) (annot (bits_TrailingZeros.cuts w0 k) bits_TrailingZeros.body) (entry (io30.enc v).1 (io30.enc v).2) (endK (bits_TrailingZeros.kr w0 k)) := by
  intro v; kernel_rfl
theorem bits_TrailingZeros.hb : Tryd.f189.body = some bits_TrailingZeros.body := by kernel_rfl
def tab30 (k : Nat) : Tab T := addTab 189 (line io30 io24 (0 : Int) (fun v => bits_TrailingZeros k v)) (tab29 k)
def strconv_FormatInt.c16 (k : Nat) (x6 : Int) (x7 : Int) (x8 : Int) (x9 : Int) (x10 : Int) (x11 : Int) (x12 : Int) (x13 : Int) (x14 : Int) (x15 : Int) (x16 : Int) (x17 : Int) (x18 : Int) (x19 : Int) (x20 : Int) (x21 : Int) (x22 : Int) (x23 : Int) (x24 : Int) (x25 : Int) (x26 : Int) (x27 : Int) (x28 : Int) (x29 : Int) (x30 : Int) (x31 : Int)  : Option (List UInt8) :=
none
def strconv_FormatInt (k : Nat) (a1 : Int) (a2 : Int) : Option (List UInt8) :=
cond (a2 == (10 : Int)) (
let v3 : Bool := (cond (decide ((0 : Int) ≤ a1)) (decide (a1 < (100 : Int))) false)
cond v3 (
(strconv_small k a1).bind fun r4 =>
some r4) (
cond (decide (a1 < (0 : Int))) (
let v5 : Int := (IntKind.wrap .u64 (0 - (IntKind.wrap .u64 a1)))
strconv_FormatInt.c16 k a1 v5 (0 : Int) (0 : Int) (0 : Int) (0 : Int) (0 : Int) (0 : Int) (0 : Int) (0 : Int) (0 : Int) (0 : Int) (0 : Int) (0 : Int) (0 : Int) (0 : Int) (0 : Int) (0 : Int) (0 : Int) (0 : Int) (0 : Int) (0 : Int) (0 : Int) (0 : Int) (0 : Int) (0 : Int)) (
strconv_FormatInt.c16 k a1 (IntKind.wrap .u64 a1) (0 : Int) (0 : Int) (0 : Int) (0 : Int) (0 : Int) (0 : Int) (0 : Int) (0 : Int) (0 : Int) (0 : Int) (0 : Int) (0 : Int) (0 : Int) (0 : Int) (0 : Int) (0 : Int) (0 : Int) (0 : Int) (0 : Int) (0 : Int) (0 : Int) (0 : Int) (0 : Int) (0 : Int)))) (
none)
def strconv_FormatInt.kr (w0 : World) (k : Nat) : St T → Option (List UInt8) := (retK (cfg w0 (tab30 k)) Tryd.f172.results.toList 0 [] io0.pat)
def strconv_FormatInt.x16 : Ex → Option (List Nat × List Sp)
  | _ => none
def strconv_FormatInt.L16 (k : Nat) (v : Int × Int × Int × Int × Int × Int × Int × Int × Int × Int × Int × Int × Int × Int × Int × Int × Int × Int × Int × Int × Int × Int × Int × Int × Int × Int) (K : Ex → St T → Option (List UInt8)) : Option (List UInt8) := strconv_FormatInt.c16 k v.1 v.2.1 v.2.2.1 v.2.2.2.1 v.2.2.2.2.1 v.2.2.2.2.2.1 v.2.2.2.2.2.2.1 v.2.2.2.2.2.2.2.1 v.2.2.2.2.2.2.2.2.1 v.2.2.2.2.2.2.2.2.2.1 v.2.2.2.2.2.2.2.2.2.2.1 v.2.2.2.2.2.2.2.2.2.2.2.1 v.2.2.2.2.2.2.2.2.2.2.2.2.1 v.2.2.2.2.2.2.2.2.2.2.2.2.2.1 v.2.2.2.2.2.2.2.2.2.2.2.2.2.2.1 v.2.2.2.2.2.2.2.2.2.2.2.2.2.2.2.1 v.2.2.2.2.2.2.2.2.2.2.2.2.2.2.2.2.1 v.2.2.2.2.2.2.2.2.2.2.2.2.2.2.2.2.2.1 v.2.2.2.2.2.2.2.2.2.2.2.2.2.2.2.2.2.2.1 v.2.2.2.2.2.2.2.2.2.2.2.2.2.2.2.2.2.2.2.1 v.2.2.2.2.2.2.2.2.2.2.2.2.2.2.2.2.2.2.2.2.1 v.2.2.2.2.2.2.2.2.2.2.2.2.2.2.2.2.2.2.2.2.2.1 v.2.2.2.2.2.2.2.2.2.2.2.2.2.2.2.2.2.2.2.2.2.2.1 v.2.2.2.2.2.2.2.2.2.2.2.2.2.2.2.2.2.2.2.2.2.2.2.1 v.2.2.2.2.2.2.2.2.2.2.2.2.2.2.2.2.2.2.2.2.2.2.2.2.1 v.2.2.2.2.2.2.2.2.2.2.2.2.2.2.2.2.2.2.2.2.2.2.2.2.2
def strconv_FormatInt.cuts (w0 : World) (k : Nat) : Cuts T (List UInt8) := fun n => bif n.beq 16 then some (entK (cfg w0 (tab30 k)) 0 [0, 5, 6] [] io33.pat (strconv_FormatInt.L16 k)) else none
def strconv_FormatInt.body : Code := bodyOf Tryd.f172
def strconv_FormatInt.b16 : Code := findD 16 strconv_FormatInt.body
theorem strconv_FormatInt.s16 (w0 : World) (k : Nat) : ∀ v K, strconv_FormatInt.L16 k v K = runK (cfg w0 (tab30 k)) Tryd.f172.ntmps (strconv_FormatInt.kr w0 k) (annot (strconv_FormatInt.cuts w0 k) strconv_FormatInt.b16) (mkSt [0, 5, 6] (io33.enc v)) (outK (cfg w0 (tab30 k)) 0 strconv_FormatInt.x16 K) := by
  intro v K; kernel_rfl
theorem strconv_FormatInt.e (w0 : World) (k : Nat) : ∀ v, (fun v => strconv_FormatInt k v.1 v.2) v = runK (cfg w0 (tab30 k)) Tryd.f172.ntmps (strconv_FormatInt.kr w0 k) (annot (strconv_FormatInt.cuts w0 k) strconv_FormatInt.body) (entry (io32.enc v).1 (io32.enc v).2) (endK (strconv_FormatInt.kr w0 k)) := by
  intro v; kernel_rfl
theorem strconv_FormatInt.hb : Tryd.f172.body = some strconv_FormatInt.body := by kernel_rfl
def tab31 (k : Nat) : Tab T := addTab 172 (line io32 io0 [] (fun v => strconv_FormatInt k v.1 v.2)) (tab30 k)
def strconv_Itoa_v2 (k : Nat) (a1 : Int) : Option (List UInt8) :=
(strconv_FormatInt k a1 (10 : Int)).bind fun r2 =>
some r2
def strconv_Itoa_v2.kr (w0 : World) (k : Nat) : St T → Option (List UInt8) := (retK (cfg w0 (tab31 k)) Tryd.f128.results.toList 0 [] io0.pat)
def strconv_Itoa_v2.cuts (w0 : World) (k : Nat) : Cuts T (List UInt8) := fun n => none
def strconv_Itoa_v2.body : Code := bodyOf Tryd.f128
theorem strconv_Itoa_v2.e (w0 : World) (k : Nat) : ∀ v, (fun v => strconv_Itoa_v2 k v) v = runK (cfg w0 (tab31 k)) Tryd.f128.ntmps (strconv_Itoa_v2.kr w0 k) (annot (strconv_Itoa_v2.cuts w0 k) strconv_Itoa_v2.body) (entry (io24.enc v).1 (io24.enc v).2) (endK (strconv_Itoa_v2.kr w0 k)) := by
  intro v; kernel_rfl
theorem strconv_Itoa_v2.hb : Tryd.f128.body = some strconv_Itoa_v2.body := by kernel_rfl
def tab32 (k : Nat) : Tab T := addTab 128 (line io24 io0 [] (fun v => strconv_Itoa_v2 k v)) (tab31 k)
def strconv_Itoa (k : Nat) (a1 : Int) : Option (List UInt8) :=
(strconv_Itoa_v2 k a1).bind fun r2 =>
some r2
def strconv_Itoa.kr (w0 : World) (k : Nat) : St T → Option (List UInt8) := (retK (cfg w0 (tab32 k)) Tryd.f79.results.toList 0 [] io0.pat)
def strconv_Itoa.cuts (w0 : World) (k : Nat) : Cuts T (List UInt8) := fun n => none
def strconv_Itoa.body : Code := bodyOf Tryd.f79
theorem strconv_Itoa.e (w0 : World) (k : Nat) : ∀ v, (fun v => strconv_Itoa k v) v = runK (cfg w0 (tab32 k)) Tryd.f79.ntmps (strconv_Itoa.kr w0 k) (annot (strconv_Itoa.cuts w0 k) strconv_Itoa.body) (entry (io24.enc v).1 (io24.enc v).2) (endK (strconv_Itoa.kr w0 k)) := by
  intro v; kernel_rfl
theorem strconv_Itoa.hb : Tryd.f79.body = some strconv_Itoa.body := by kernel_rfl
def tab33 (k : Nat) : Tab T := addTab 79 (line io24 io0 [] (fun v => strconv_Itoa k v)) (tab32 k)
def color_parts.c20 (k : Nat) (x10 : Int) (x11 : List UInt8) (x12 : Int) (x13 : Int) (x14 : List (List UInt8)) (kn : Int → Int → Int → (List (List UInt8)) → Option (Int × Bool)) : Option (Int × Bool) :=
(strconv_Atoi k x11).bind fun r15 =>
let v16 : Bool := (cond (!true) true (decide (r15 < (0 : Int))))
let v17 : Bool := (cond v16 true (decide (r15 > (255 : Int))))
(cond (!v17) (strconv_Itoa k r15) (some [])).bind fun r18 =>
let v19 : Bool := (cond v17 true (!(r18 == x11)))
cond v19 (
some ((0 : Int), false)) (
cond (decide (0 ≤ (8 : Int))) (
let v20 : Int := (IntKind.wrap .i64 (x10 * 2 ^ (min (8 : Int).toNat (IntKind.bits .i64))))
let v21 : Int := (IntKind.wrap .i64 (((BitVec.ofInt (IntKind.bits .i64) v20 ||| BitVec.ofInt (IntKind.bits .i64) r15).toNat : Int)))
kn v21 x12 x13 x14) none)
def color_parts.c13 (k : Nat) : Nat → Int → Int → Int → (List (List UInt8)) → (Int → (List (List UInt8)) → Option (Int × Bool)) → Option (Int × Bool)
  | 0, _, _, _, _, _ => none
  | n + 1, x5, x6, x7, x8, k0 =>
    cond (decide (x7 < x6)) (
    cond (decide (0 ≤ x7 ∧ x7 < (x8.length : Int))) (
    cond (decide (x7 > (0 : Int))) (
    (strings_TrimPrefix k (x8.getD x7.toNat []) ([32] : List UInt8)).bind fun r9 =>
    color_parts.c20 k x5 r9 x6 x7 x8 (fun (y22 : Int) (y23 : Int) (y24 : Int) (y25 : List (List UInt8)) =>
    let v26 : Int := (IntKind.wrap .i64 (y24 + (1 : Int)))
    color_parts.c13 k n y22 y23 v26 y25 k0)) (
    color_parts.c20 k x5 (x8.getD x7.toNat []) x6 x7 x8 (fun (y27 : Int) (y28 : Int) (y29 : Int) (y30 : List (List UInt8)) =>
    let v31 : Int := (IntKind.wrap .i64 (y29 + (1 : Int)))
    color_parts.c13 k n y27 y28 v31 y30 k0))) none) (
    k0 x5 x8)
def color_parts.c8 (k : Nat) (x4 : List (List UInt8))  : Option (Int × Bool) :=
color_parts.c13 k k (0 : Int) (x4.length : Int) (0 : Int) x4 (fun (y32 : Int) (y33 : List (List UInt8)) =>
let v34 : Bool := ((y33.length : Int) == (4 : Int))
some (y32, v34))
def color_parts (k : Nat) (a1 : List UInt8) : Option (Int × Bool) :=
(strings_Split k a1 ([44] : List UInt8)).bind fun r2 =>
let v3 : Bool := (((0 : Nat) : Int) == (3 : Int))
cond v3 (
cond (decide (([([50, 53, 53] : List UInt8)]).length < most)) (
color_parts.c8 k ([([50, 53, 53] : List UInt8)])) none) (
color_parts.c8 k ([] : List (List UInt8)))
def color_parts.kr (w0 : World) (k : Nat) : St T → Option (Int × Bool) := (retK (cfg w0 (tab33 k)) Tryd.f67.results.toList 0 [] io3.pat)
def color_parts.x20 : Ex → Option (List Nat × List Sp)
  | .norm => some ([4, 5, 18, 19, 20], [])
  | _ => none
def color_parts.L20 (k : Nat) (v : Int × (List UInt8) × Int × Int × (List (List UInt8))) (K : Ex → St T → Option (Int × Bool)) : Option (Int × Bool) := color_parts.c20 k v.1 v.2.1 v.2.2.1 v.2.2.2.1 v.2.2.2.2 (fun y51 y52 y53 y54 => K .norm (mkSt [4, 5, 18, 19, 20] (io35.enc (y51, y52, y53, y54))))
def color_parts.x13 : Ex → Option (List Nat × List Sp)
  | .exit 0 => some ([4, 5], [])
  | _ => none
def color_parts.L13 (k : Nat) (n : Nat) (v : Int × Int × Int × (List (List UInt8))) (K : Ex → St T → Option (Int × Bool)) : Option (Int × Bool) := color_parts.c13 k n v.1 v.2.1 v.2.2.1 v.2.2.2 (fun y55 y56 => K (.exit 0) (mkSt [4, 5] (io36.enc (y55, y56))))
def color_parts.x8 : Ex → Option (List Nat × List Sp)
  | _ => none
def color_parts.L8 (k : Nat) (v : List (List UInt8)) (K : Ex → St T → Option (Int × Bool)) : Option (Int × Bool) := color_parts.c8 k v
def color_parts.cuts (w0 : World) (k : Nat) : Cuts T (Int × Bool) := fun n => bif n.beq 20 then some (entK (cfg w0 (tab33 k)) 0 [4, 5, 7, 18, 19, 20] [] io34.pat (color_parts.L20 k)) else bif n.beq 13 then some (entK (cfg w0 (tab33 k)) 0 [4, 5, 18, 19, 20] [] io35.pat (color_parts.L13 k k)) else bif n.beq 8 then some (entK (cfg w0 (tab33 k)) 0 [4] [.own 4 9] io37.pat (color_parts.L8 k)) else none
def color_parts.body : Code := bodyOf Tryd.f67
def color_parts.b20 : Code := findD 20 color_parts.body
theorem color_parts.s20 (w0 : World) (k : Nat) : ∀ v K, color_parts.L20 k v K = runK (cfg w0 (tab33 k)) Tryd.f67.ntmps (color_parts.kr w0 k) (annot (color_parts.cuts w0 k) color_parts.b20) (mkSt [4, 5, 7, 18, 19, 20] (io34.enc v)) (outK (cfg w0 (tab33 k)) 0 color_parts.x20 K) := by
  intro v K; kernel_rfl
def color_parts.b13 : Code := findD 13 color_parts.body
theorem color_parts.s13 (w0 : World) (k : Nat) : ∀ n v K, color_parts.L13 k (n + 1) v K = runK (cfg w0 (tab33 k)) Tryd.f67.ntmps (color_parts.kr w0 k) (annot (color_parts.cuts w0 k) color_parts.b13) (mkSt [4, 5, 18, 19, 20] (io35.enc v)) (loopK (cfg w0 (tab33 k)) 0 color_parts.x13 (entK (cfg w0 (tab33 k)) 0 [4, 5, 18, 19, 20] [] io35.pat (color_parts.L13 k n)) K) := by
  intro n v K; kernel_rfl
def color_parts.b8 : Code := findD 8 color_parts.body
theorem color_parts.s8 (w0 : World) (k : Nat) : ∀ v K, color_parts.L8 k v K = runK (cfg w0 (tab33 k)) Tryd.f67.ntmps (color_parts.kr w0 k) (annot (color_parts.cuts w0 k) color_parts.b8) (mkSt [4] (io37.enc v)) (outK (cfg w0 (tab33 k)) 0 color_parts.x8 K) := by
  intro v K; kernel_rfl
theorem color_parts.e (w0 : World) (k : Nat) : ∀ v, (fun v => color_parts k v) v = runK (cfg w0 (tab33 k)) Tryd.f67.ntmps (color_parts.kr w0 k) (annot (color_parts.cuts w0 k) color_parts.body) (entry (io0.enc v).1 (io0.enc v).2) (endK (color_parts.kr w0 k)) := by
  intro v; kernel_rfl
theorem color_parts.hb : Tryd.f67.body = some color_parts.body := by kernel_rfl
def tab34 (k : Nat) : Tab T := addTab 67 (line io0 io3 ((0 : Int), false) (fun v => color_parts k v)) (tab33 k)
def color_Read.c28 (k : Nat) (x9 : Int) (x10 : Bool)  : Option (Int × Int) :=
cond (!x10) (
some ((0 : Int), (4 : Int))) (
some (x9, (0 : Int)))
def color_Read (k : Nat) (a1 : List UInt8) : Option (Int × Int) :=
(color_lower k a1).bind fun r2 =>
let v3 : Bool := (r2 == ([116, 114, 97, 110, 115, 112, 97, 114, 101, 110, 116] : List UInt8))
cond v3 (
some ((0 : Int), (0 : Int))) (
(color_named k r2).bind fun r4 =>
cond r4.2 (
cond (decide (0 ≤ (8 : Int))) (
let v5 : Int := (IntKind.wrap .i64 (r4.1 * 2 ^ (min (8 : Int).toNat (IntKind.bits .i64))))
let v6 : Int := (IntKind.wrap .i64 (((BitVec.ofInt (IntKind.bits .i64) v5 ||| BitVec.ofInt (IntKind.bits .i64) (255 : Int)).toNat : Int)))
some (v6, (0 : Int))) none) (
(strings_CutPrefix k r2 ([35] : List UInt8)).bind fun r7 =>
cond r7.2 (
(color_hex k r7.1).bind fun r8 =>
color_Read.c28 k r8.1 r8.2) (
(strings_CutPrefix k r2 ([114, 103, 98, 40] : List UInt8)).bind fun r11 =>
(cond r11.2 (strings_HasSuffix k r11.1 ([41] : List UInt8)) (some false)).bind fun r12 =>
let v13 : Bool := (decide ((r11.1.length : Int) ≤ (40 : Int)))
let v14 : Bool := (cond (cond r11.2 r12 false) v13 false)
cond v14 (
let v15 : Int := (IntKind.wrap .i64 ((r11.1.length : Int) - (1 : Int)))
cond (decide (0 ≤ v15 ∧ v15 ≤ (r11.1.length : Int))) (
(color_parts k (r11.1.take v15.toNat)).bind fun r16 =>
color_Read.c28 k r16.1 r16.2) none) (
color_Read.c28 k (0 : Int) false))))
def color_Read.kr (w0 : World) (k : Nat) : St T → Option (Int × Int) := (retK (cfg w0 (tab34 k)) Tryd.f32.results.toList 0 [] io32.pat)
def color_Read.x28 : Ex → Option (List Nat × List Sp)
  | _ => none
def color_Read.L28 (k : Nat) (v : Int × Bool) (K : Ex → St T → Option (Int × Int)) : Option (Int × Int) := color_Read.c28 k v.1 v.2
def color_Read.cuts (w0 : World) (k : Nat) : Cuts T (Int × Int) := fun n => bif n.beq 28 then some (entK (cfg w0 (tab34 k)) 0 [6, 7] [] io3.pat (color_Read.L28 k)) else none
def color_Read.body : Code := bodyOf Tryd.f32
def color_Read.b28 : Code := findD 28 color_Read.body
theorem color_Read.s28 (w0 : World) (k : Nat) : ∀ v K, color_Read.L28 k v K = runK (cfg w0 (tab34 k)) Tryd.f32.ntmps (color_Read.kr w0 k) (annot (color_Read.cuts w0 k) color_Read.b28) (mkSt [6, 7] (io3.enc v)) (outK (cfg w0 (tab34 k)) 0 color_Read.x28 K) := by
  intro v K; kernel_rfl
theorem color_Read.e (w0 : World) (k : Nat) : ∀ v, (fun v => color_Read k v) v = runK (cfg w0 (tab34 k)) Tryd.f32.ntmps (color_Read.kr w0 k) (annot (color_Read.cuts w0 k) color_Read.body) (entry (io0.enc v).1 (io0.enc v).2) (endK (color_Read.kr w0 k)) := by
  intro v; kernel_rfl
theorem color_Read.hb : Tryd.f32.body = some color_Read.body := by kernel_rfl
def tab35 (k : Nat) : Tab T := addTab 32 (line io0 io32 ((0 : Int), (0 : Int)) (fun v => color_Read k v)) (tab34 k)
def clerestorykeep2_red (k : Nat)  : Option (Bool) :=
(color_Read k ([35, 70, 48, 48] : List UInt8)).bind fun r1 =>
let v2 : Bool := (cond (r1.2 == (0 : Int)) (r1.1 == (4278190335 : Int)) false)
some v2
def clerestorykeep2_red.kr (w0 : World) (k : Nat) : St T → Option (Bool) := (retK (cfg w0 (tab35 k)) Tryd.f28.results.toList 0 [] io5.pat)
def clerestorykeep2_red.cuts (w0 : World) (k : Nat) : Cuts T (Bool) := fun n => none
def clerestorykeep2_red.body : Code := bodyOf Tryd.f28
theorem clerestorykeep2_red.e (w0 : World) (k : Nat) : ∀ v, (fun v => clerestorykeep2_red k ) v = runK (cfg w0 (tab35 k)) Tryd.f28.ntmps (clerestorykeep2_red.kr w0 k) (annot (clerestorykeep2_red.cuts w0 k) clerestorykeep2_red.body) (entry (io38.enc v).1 (io38.enc v).2) (endK (clerestorykeep2_red.kr w0 k)) := by
  intro v; kernel_rfl
theorem clerestorykeep2_red.hb : Tryd.f28.body = some clerestorykeep2_red.body := by kernel_rfl
def tab36 (k : Nat) : Tab T := addTab 28 (line io38 io5 false (fun v => clerestorykeep2_red k )) (tab35 k)
def color_part (k : Nat) (a1 : Int) (a2 : Int) : Option (Int) :=
let v3 : Int := (IntKind.wrap .i64 ((8 : Int) * a2))
cond (decide (0 ≤ v3)) (
let v4 : Int := (Int.fdiv (IntKind.wrap .u32 a1) (2 ^ (min v3.toNat (IntKind.bits .u32))))
let v5 : Int := (IntKind.wrap .u32 (((BitVec.ofInt (IntKind.bits .u32) v4 &&& BitVec.ofInt (IntKind.bits .u32) (255 : Int)).toNat : Int)))
some (IntKind.wrap .i64 v5)) none
def color_part.kr (w0 : World) (k : Nat) : St T → Option (Int) := (retK (cfg w0 (tab36 k)) Tryd.f59.results.toList 0 [] io24.pat)
def color_part.cuts (w0 : World) (k : Nat) : Cuts T (Int) := fun n => none
def color_part.body : Code := bodyOf Tryd.f59
theorem color_part.e (w0 : World) (k : Nat) : ∀ v, (fun v => color_part k v.1 v.2) v = runK (cfg w0 (tab36 k)) Tryd.f59.ntmps (color_part.kr w0 k) (annot (color_part.cuts w0 k) color_part.body) (entry (io32.enc v).1 (io32.enc v).2) (endK (color_part.kr w0 k)) := by
  intro v; kernel_rfl
theorem color_part.hb : Tryd.f59.body = some color_part.body := by kernel_rfl
def tab37 (k : Nat) : Tab T := addTab 59 (line io32 io24 (0 : Int) (fun v => color_part k v.1 v.2)) (tab36 k)
def color_Fade (k : Nat) (a1 : Int) (a2 : Int) : Option (Int) :=
let v3 : Int := (if (0 : Int) > a2 then (0 : Int) else a2)
let v4 : Int := (if (1000 : Int) < v3 then (1000 : Int) else v3)
let v5 : Int := (IntKind.wrap .u32 (((BitVec.ofInt (IntKind.bits .u32) (IntKind.wrap .u32 a1) &&& ~~~BitVec.ofInt (IntKind.bits .u32) (255 : Int)).toNat : Int)))
(color_part k a1 (0 : Int)).bind fun r6 =>
cond ((1000 : Int) != 0) (
let v7 : Int := (IntKind.wrap .i64 (Int.tdiv (IntKind.wrap .i64 (r6 * v4)) (1000 : Int)))
let v8 : Int := (IntKind.wrap .i64 (((BitVec.ofInt (IntKind.bits .i64) (IntKind.wrap .i64 v5) ||| BitVec.ofInt (IntKind.bits .i64) v7).toNat : Int)))
some v8) none
def color_Fade.kr (w0 : World) (k : Nat) : St T → Option (Int) := (retK (cfg w0 (tab37 k)) Tryd.f29.results.toList 0 [] io24.pat)
def color_Fade.cuts (w0 : World) (k : Nat) : Cuts T (Int) := fun n => none
def color_Fade.body : Code := bodyOf Tryd.f29
theorem color_Fade.e (w0 : World) (k : Nat) : ∀ v, (fun v => color_Fade k v.1 v.2) v = runK (cfg w0 (tab37 k)) Tryd.f29.ntmps (color_Fade.kr w0 k) (annot (color_Fade.cuts w0 k) color_Fade.body) (entry (io32.enc v).1 (io32.enc v).2) (endK (color_Fade.kr w0 k)) := by
  intro v; kernel_rfl
theorem color_Fade.hb : Tryd.f29.body = some color_Fade.body := by kernel_rfl
def tab38 (k : Nat) : Tab T := addTab 29 (line io32 io24 (0 : Int) (fun v => color_Fade k v.1 v.2)) (tab37 k)
def clerestorykeep2_ColorClears (k : Nat) (a1 : Int) (a2 : Int) (a3 : Int) : Option (Bool) :=
(clerestorykeep2_red k).bind fun r4 =>
(color_Fade k a1 (if a3 < a2 then a3 else a2)).bind fun r5 =>
(color_Fade k a1 (if a3 > a2 then a3 else a2)).bind fun r6 =>
cond (((256 : Int) != 0) || !r4) (
cond (((256 : Int) != 0) || !r4) (
let v7 : Bool := (decide ((Int.tmod r5 (256 : Int)) ≤ (Int.tmod r6 (256 : Int))))
cond (((256 : Int) != 0) || !(cond r4 v7 false)) (
let v8 : Int := (IntKind.wrap .i64 (Int.tdiv r5 (256 : Int)))
cond (((256 : Int) != 0) || !(cond r4 v7 false)) (
let v9 : Int := (IntKind.wrap .i64 (Int.tdiv r6 (256 : Int)))
let v10 : Bool := (cond (cond r4 v7 false) (v8 == v9) false)
(cond v10 (color_Fade k a1 (1000 : Int)) (some (0 : Int))).bind fun r11 =>
let v12 : Int := (IntKind.wrap .i64 (IntKind.wrap .u32 a1))
(cond (cond v10 (r11 == v12) false) (color_Fade k a1 (0 : Int)) (some (0 : Int))).bind fun r13 =>
cond (((256 : Int) != 0) || !(cond v10 (r11 == v12) false)) (
let v14 : Bool := ((Int.tmod r13 (256 : Int)) == (0 : Int))
let v15 : Bool := (cond (cond v10 (r11 == v12) false) v14 false)
some v15) none) none) none) none) none
def clerestorykeep2_ColorClears.kr (w0 : World) (k : Nat) : St T → Option (Bool) := (retK (cfg w0 (tab38 k)) Tryd.f9.results.toList 0 [] io5.pat)
def clerestorykeep2_ColorClears.cuts (w0 : World) (k : Nat) : Cuts T (Bool) := fun n => none
def clerestorykeep2_ColorClears.body : Code := bodyOf Tryd.f9
theorem clerestorykeep2_ColorClears.e (w0 : World) (k : Nat) : ∀ v, (fun v => clerestorykeep2_ColorClears k v.1 v.2.1 v.2.2) v = runK (cfg w0 (tab38 k)) Tryd.f9.ntmps (clerestorykeep2_ColorClears.kr w0 k) (annot (clerestorykeep2_ColorClears.cuts w0 k) clerestorykeep2_ColorClears.body) (entry (io39.enc v).1 (io39.enc v).2) (endK (clerestorykeep2_ColorClears.kr w0 k)) := by
  intro v; kernel_rfl
theorem clerestorykeep2_ColorClears.hb : Tryd.f9.body = some clerestorykeep2_ColorClears.body := by kernel_rfl
def tab39 (k : Nat) : Tab T := addTab 9 (line io39 io5 false (fun v => clerestorykeep2_ColorClears k v.1 v.2.1 v.2.2)) (tab38 k)
def color_Over.c15 (k : Nat) : Nat → Int → Int → Int → Int → Int → Int → Int → Int → Int → Int → (Int → Int → Option (Int)) → Option (Int)
  | 0, _, _, _, _, _, _, _, _, _, _, _ => none
  | n + 1, x7, x8, x9, x10, x11, x12, x13, x14, x15, x16, k0 =>
    cond (decide (x16 < (3 : Int))) (
    cond (decide (0 ≤ x16 ∧ x16 < ((3 : Nat) : Int))) (
    let v17 : Int := (([x13, x14, x15]).getD x16.toNat (0 : Int))
    (color_part k x7 v17).bind fun r18 =>
    let v19 : Int := (IntKind.wrap .i64 ((IntKind.wrap .i64 (r18 * x9)) * (255 : Int)))
    (color_part k x8 v17).bind fun r20 =>
    let v21 : Int := (IntKind.wrap .i64 (r20 * x10))
    let v22 : Int := (IntKind.wrap .i64 ((255 : Int) - x9))
    let v23 : Int := (IntKind.wrap .i64 (v21 * v22))
    let v24 : Int := (IntKind.wrap .i64 (v19 + v23))
    let v25 : Int := (IntKind.wrap .i64 (x11 * (255 : Int)))
    cond (v25 != 0) (
    let v26 : Int := (IntKind.wrap .i64 (Int.tdiv v24 v25))
    cond (decide (0 ≤ (8 : Int))) (
    let v27 : Int := (IntKind.wrap .i64 (x12 * 2 ^ (min (8 : Int).toNat (IntKind.bits .i64))))
    let v28 : Int := (if (255 : Int) < v26 then (255 : Int) else v26)
    let v29 : Int := (IntKind.wrap .i64 (((BitVec.ofInt (IntKind.bits .i64) v27 ||| BitVec.ofInt (IntKind.bits .i64) v28).toNat : Int)))
    let v30 : Int := (IntKind.wrap .i64 (x16 + (1 : Int)))
    color_Over.c15 k n x7 x8 x9 x10 x11 v29 x13 x14 x15 v30 k0) none) none) none) (
    k0 x11 x12)
def color_Over (k : Nat) (a1 : Int) (a2 : Int) : Option (Int) :=
(color_part k a1 (0 : Int)).bind fun r3 =>
(color_part k a2 (0 : Int)).bind fun r4 =>
cond ((255 : Int) != 0) (
let v5 : Int := (IntKind.wrap .i64 (Int.tdiv (IntKind.wrap .i64 (r3 * r4)) (255 : Int)))
let v6 : Int := (IntKind.wrap .i64 ((IntKind.wrap .i64 (r3 + r4)) - v5))
cond (v6 == (0 : Int)) (
some (0 : Int)) (
color_Over.c15 k k a1 a2 r3 r4 v6 (0 : Int) (3 : Int) (2 : Int) (1 : Int) (0 : Int) (fun (y31 : Int) (y32 : Int) =>
cond (decide (0 ≤ (8 : Int))) (
let v33 : Int := (IntKind.wrap .i64 (y32 * 2 ^ (min (8 : Int).toNat (IntKind.bits .i64))))
let v34 : Int := (IntKind.wrap .i64 (((BitVec.ofInt (IntKind.bits .i64) v33 ||| BitVec.ofInt (IntKind.bits .i64) y31).toNat : Int)))
some v34) none))) none
def color_Over.kr (w0 : World) (k : Nat) : St T → Option (Int) := (retK (cfg w0 (tab39 k)) Tryd.f30.results.toList 0 [] io24.pat)
def color_Over.x15 : Ex → Option (List Nat × List Sp)
  | .exit 0 => some ([7, 8], [])
  | _ => none
def color_Over.L15 (k : Nat) (n : Nat) (v : Int × Int × Int × Int × Int × Int × Int × Int × Int × Int) (K : Ex → St T → Option (Int)) : Option (Int) := color_Over.c15 k n v.1 v.2.1 v.2.2.1 v.2.2.2.1 v.2.2.2.2.1 v.2.2.2.2.2.1 v.2.2.2.2.2.2.1 v.2.2.2.2.2.2.2.1 v.2.2.2.2.2.2.2.2.1 v.2.2.2.2.2.2.2.2.2 (fun y57 y58 => K (.exit 0) (mkSt [7, 8] (io32.enc (y57, y58))))
def color_Over.cuts (w0 : World) (k : Nat) : Cuts T (Int) := fun n => bif n.beq 15 then some (entK (cfg w0 (tab39 k)) 0 [0, 1, 5, 6, 7, 8, 26, 27] [] io40.pat (color_Over.L15 k k)) else none
def color_Over.body : Code := bodyOf Tryd.f30
def color_Over.b15 : Code := findD 15 color_Over.body
theorem color_Over.s15 (w0 : World) (k : Nat) : ∀ n v K, color_Over.L15 k (n + 1) v K = runK (cfg w0 (tab39 k)) Tryd.f30.ntmps (color_Over.kr w0 k) (annot (color_Over.cuts w0 k) color_Over.b15) (mkSt [0, 1, 5, 6, 7, 8, 26, 27] (io40.enc v)) (loopK (cfg w0 (tab39 k)) 0 color_Over.x15 (entK (cfg w0 (tab39 k)) 0 [0, 1, 5, 6, 7, 8, 26, 27] [] io40.pat (color_Over.L15 k n)) K) := by
  intro n v K; kernel_rfl
theorem color_Over.e (w0 : World) (k : Nat) : ∀ v, (fun v => color_Over k v.1 v.2) v = runK (cfg w0 (tab39 k)) Tryd.f30.ntmps (color_Over.kr w0 k) (annot (color_Over.cuts w0 k) color_Over.body) (entry (io32.enc v).1 (io32.enc v).2) (endK (color_Over.kr w0 k)) := by
  intro v; kernel_rfl
theorem color_Over.hb : Tryd.f30.body = some color_Over.body := by kernel_rfl
def tab40 (k : Nat) : Tab T := addTab 30 (line io32 io24 (0 : Int) (fun v => color_Over k v.1 v.2)) (tab39 k)
def clerestorykeep2_ColorHides.c23 (k : Nat) : Nat → Int → Int → Bool → Int → Int → (Int → Int → Bool → Int → Option (Bool)) → Option (Bool)
  | 0, _, _, _, _, _, _ => none
  | n + 1, x16, x17, x18, x19, x20, k0 =>
    cond (decide (x20 < (32 : Int))) (
    cond (decide (0 ≤ (IntKind.wrap .u64 x20))) (
    let v21 : Int := (Int.fdiv x19 (2 ^ (min (IntKind.wrap .u64 x20).toNat (IntKind.bits .i64))))
    cond ((256 : Int) != 0) (
    cond (decide (0 ≤ (IntKind.wrap .u64 x20))) (
    let v22 : Int := (Int.fdiv x16 (2 ^ (min (IntKind.wrap .u64 x20).toNat (IntKind.bits .i64))))
    cond ((256 : Int) != 0) (
    cond (decide (0 ≤ (IntKind.wrap .u64 x20))) (
    let v23 : Int := (Int.fdiv x17 (2 ^ (min (IntKind.wrap .u64 x20).toNat (IntKind.bits .i64))))
    cond ((256 : Int) != 0) (
    let v24 : Int := (if (Int.tmod v23 (256 : Int)) > (Int.tmod v22 (256 : Int)) then (Int.tmod v23 (256 : Int)) else (Int.tmod v22 (256 : Int)))
    let v25 : Bool := (decide ((Int.tmod v21 (256 : Int)) > v24))
    cond v25 (
    some false) (
    let v26 : Int := (IntKind.wrap .i64 (x20 + (8 : Int)))
    clerestorykeep2_ColorHides.c23 k n x16 x17 x18 x19 v26 k0)) none) none) none) none) none) none) (
    k0 x16 x17 x18 x19)
def clerestorykeep2_ColorHides (k : Nat) (a1 : Int) (a2 : Int) : Option (Bool) :=
(clerestorykeep2_red k).bind fun r3 =>
let v4 : Int := (IntKind.wrap .i64 (IntKind.wrap .u32 a1))
let v5 : Int := (IntKind.wrap .i64 (IntKind.wrap .u32 a2))
let v6 : Int := (IntKind.wrap .i64 (((BitVec.ofInt (IntKind.bits .i64) v4 ||| BitVec.ofInt (IntKind.bits .i64) (255 : Int)).toNat : Int)))
(color_Over k v6 v5).bind fun r7 =>
let v8 : Int := (IntKind.wrap .i64 (((BitVec.ofInt (IntKind.bits .i64) v4 ||| BitVec.ofInt (IntKind.bits .i64) (255 : Int)).toNat : Int)))
cond (r7 != v8) (
some false) (
let v9 : Int := (IntKind.wrap .i64 (((BitVec.ofInt (IntKind.bits .i64) v4 &&& ~~~BitVec.ofInt (IntKind.bits .i64) (255 : Int)).toNat : Int)))
(color_Over k v9 v5).bind fun r10 =>
cond (((256 : Int) != 0) || !(r10 != v5)) (
let v11 : Bool := (decide ((Int.tmod v5 (256 : Int)) > (0 : Int)))
cond (((256 : Int) != 0) || !((!(cond (r10 != v5) v11 false)) && (r10 != (0 : Int)))) (
let v12 : Bool := ((Int.tmod v5 (256 : Int)) == (0 : Int))
let v13 : Bool := (cond (r10 != (0 : Int)) v12 false)
let v14 : Bool := (cond (cond (r10 != v5) v11 false) true v13)
cond v14 (
some false) (
(color_Over k v4 v5).bind fun r15 =>
clerestorykeep2_ColorHides.c23 k k v4 v5 r3 r15 (8 : Int) (fun (y27 : Int) (y28 : Int) (y29 : Bool) (y30 : Int) =>
cond (((256 : Int) != 0) || !y29) (
cond (((256 : Int) != 0) || !y29) (
cond (((256 : Int) != 0) || !y29) (
let v31 : Int := (if (Int.tmod y28 (256 : Int)) > (Int.tmod y27 (256 : Int)) then (Int.tmod y28 (256 : Int)) else (Int.tmod y27 (256 : Int)))
let v32 : Bool := (decide ((Int.tmod y30 (256 : Int)) ≥ v31))
some (cond y29 v32 false)) none) none) none))) none) none)
def clerestorykeep2_ColorHides.kr (w0 : World) (k : Nat) : St T → Option (Bool) := (retK (cfg w0 (tab40 k)) Tryd.f10.results.toList 0 [] io5.pat)
def clerestorykeep2_ColorHides.x23 : Ex → Option (List Nat × List Sp)
  | .exit 0 => some ([0, 1, 5, 7], [])
  | _ => none
def clerestorykeep2_ColorHides.L23 (k : Nat) (n : Nat) (v : Int × Int × Bool × Int × Int) (K : Ex → St T → Option (Bool)) : Option (Bool) := clerestorykeep2_ColorHides.c23 k n v.1 v.2.1 v.2.2.1 v.2.2.2.1 v.2.2.2.2 (fun y59 y60 y61 y62 => K (.exit 0) (mkSt [0, 1, 5, 7] (io42.enc (y59, y60, y61, y62))))
def clerestorykeep2_ColorHides.cuts (w0 : World) (k : Nat) : Cuts T (Bool) := fun n => bif n.beq 23 then some (entK (cfg w0 (tab40 k)) 0 [0, 1, 5, 7, 8] [] io41.pat (clerestorykeep2_ColorHides.L23 k k)) else none
def clerestorykeep2_ColorHides.body : Code := bodyOf Tryd.f10
def clerestorykeep2_ColorHides.b23 : Code := findD 23 clerestorykeep2_ColorHides.body
theorem clerestorykeep2_ColorHides.s23 (w0 : World) (k : Nat) : ∀ n v K, clerestorykeep2_ColorHides.L23 k (n + 1) v K = runK (cfg w0 (tab40 k)) Tryd.f10.ntmps (clerestorykeep2_ColorHides.kr w0 k) (annot (clerestorykeep2_ColorHides.cuts w0 k) clerestorykeep2_ColorHides.b23) (mkSt [0, 1, 5, 7, 8] (io41.enc v)) (loopK (cfg w0 (tab40 k)) 0 clerestorykeep2_ColorHides.x23 (entK (cfg w0 (tab40 k)) 0 [0, 1, 5, 7, 8] [] io41.pat (clerestorykeep2_ColorHides.L23 k n)) K) := by
  intro n v K; kernel_rfl
theorem clerestorykeep2_ColorHides.e (w0 : World) (k : Nat) : ∀ v, (fun v => clerestorykeep2_ColorHides k v.1 v.2) v = runK (cfg w0 (tab40 k)) Tryd.f10.ntmps (clerestorykeep2_ColorHides.kr w0 k) (annot (clerestorykeep2_ColorHides.cuts w0 k) clerestorykeep2_ColorHides.body) (entry (io32.enc v).1 (io32.enc v).2) (endK (clerestorykeep2_ColorHides.kr w0 k)) := by
  intro v; kernel_rfl
theorem clerestorykeep2_ColorHides.hb : Tryd.f10.body = some clerestorykeep2_ColorHides.body := by kernel_rfl
def tab41 (k : Nat) : Tab T := addTab 10 (line io32 io5 false (fun v => clerestorykeep2_ColorHides k v.1 v.2)) (tab40 k)
attribute [local irreducible] runK retK annot entry
theorem ok0 (w0 : World) (hw : Wd w0) (k : Nat) : CfOk (cfg w0 (tab0 k)) := noTab_ok fun _ _ _ => rfl
theorem color_lower.a7 (w0 : World) (k : Nat) : cutsAt (fun n => (color_lower.cuts w0 k n).isSome) color_lower.b7 = [] := by kernel_rfl
theorem color_lower.a (w0 : World) (k : Nat) : cutsAt (fun n => (color_lower.cuts w0 k n).isSome) color_lower.body = [(7, Code.loop color_lower.b7)] := by kernel_rfl
theorem color_lower.so7 (w0 : World) (hw : Wd w0) (k : Nat) : Sound (cfg w0 (tab0 k)) Tryd.f62.ntmps 0 (color_lower.kr w0 k) (.loop color_lower.b7) (entK (cfg w0 (tab0 k)) 0 [3, 8, 9, 10] [] io1.pat (color_lower.L7 k k)) :=
  loop_ok (fine w0 hw _ (ok0 w0 hw k)) (dr w0 hw _ (ok0 w0 hw k)) (good_cuts (color_lower.a7 w0 k) trivial) io1.ok (xn := color_lower.x7) (L := color_lower.L7 k) (fun v K => rfl) (color_lower.s7 w0 k) k
theorem color_lower.sim (w0 : World) (hw : Wd w0) (k : Nat) : ∀ v x, (fun v => color_lower k v) v = some x → Sim (cfg w0 (tab0 k)) 62 (io0.enc v).1 (io0.enc v).2 (io0.enc x).1 (io0.enc x).2 :=
  sim_of (c := (cfg w0 (tab0 k))) (fine w0 hw _ (ok0 w0 hw k)) (dr w0 hw _ (ok0 w0 hw k)) (i := io0) (o := io0) (ps := []) (cuts := fun _ => color_lower.cuts w0 k) (m := 0) (g := fun v => color_lower k v) Tryd.func62 (by kernel_rfl) color_lower.hb (fun _ => rfl) (fun _ => Nat.le_of_ble_eq_true rfl) (good_cuts (color_lower.a w0 k) ⟨fun f hf => by cases hf; exact color_lower.so7 w0 hw k, trivial⟩) (color_lower.e w0 k)
theorem ok1 (w0 : World) (hw : Wd w0) (k : Nat) : CfOk (cfg w0 (tab1 k)) := addTab_ok (ok0 w0 hw k) (color_lower.sim w0 hw k)
theorem color_named.a (w0 : World) (k : Nat) : cutsAt (fun n => (color_named.cuts w0 k n).isSome) color_named.body = [] := by kernel_rfl
theorem color_named.sim (w0 : World) (hw : Wd w0) (k : Nat) : ∀ v x, (fun v => color_named k v) v = some x → Sim (cfg w0 (tab1 k)) 63 (io0.enc v).1 (io0.enc v).2 (io3.enc x).1 (io3.enc x).2 :=
  sim_of (c := (cfg w0 (tab1 k))) (fine w0 hw _ (ok1 w0 hw k)) (dr w0 hw _ (ok1 w0 hw k)) (i := io0) (o := io3) (ps := []) (cuts := fun _ => color_named.cuts w0 k) (m := 0) (g := fun v => color_named k v) Tryd.func63 (by kernel_rfl) color_named.hb (fun _ => rfl) (fun _ => Nat.le_of_ble_eq_true rfl) (good_cuts (color_named.a w0 k) trivial) (color_named.e w0 k)
theorem ok2 (w0 : World) (hw : Wd w0) (k : Nat) : CfOk (cfg w0 (tab2 k)) := addTab_ok (ok1 w0 hw k) (color_named.sim w0 hw k)
theorem stringslite_HasPrefix.a (w0 : World) (k : Nat) : cutsAt (fun n => (stringslite_HasPrefix.cuts w0 k n).isSome) stringslite_HasPrefix.body = [] := by kernel_rfl
theorem stringslite_HasPrefix.sim (w0 : World) (hw : Wd w0) (k : Nat) : ∀ v x, (fun v => stringslite_HasPrefix k v.1 v.2) v = some x → Sim (cfg w0 (tab2 k)) 155 (io4.enc v).1 (io4.enc v).2 (io5.enc x).1 (io5.enc x).2 :=
  sim_of (c := (cfg w0 (tab2 k))) (fine w0 hw _ (ok2 w0 hw k)) (dr w0 hw _ (ok2 w0 hw k)) (i := io4) (o := io5) (ps := []) (cuts := fun _ => stringslite_HasPrefix.cuts w0 k) (m := 0) (g := fun v => stringslite_HasPrefix k v.1 v.2) Tryd.func155 (by kernel_rfl) stringslite_HasPrefix.hb (fun _ => rfl) (fun _ => Nat.le_of_ble_eq_true rfl) (good_cuts (stringslite_HasPrefix.a w0 k) trivial) (stringslite_HasPrefix.e w0 k)
theorem ok3 (w0 : World) (hw : Wd w0) (k : Nat) : CfOk (cfg w0 (tab3 k)) := addTab_ok (ok2 w0 hw k) (stringslite_HasPrefix.sim w0 hw k)
theorem stringslite_CutPrefix.a (w0 : World) (k : Nat) : cutsAt (fun n => (stringslite_CutPrefix.cuts w0 k n).isSome) stringslite_CutPrefix.body = [] := by kernel_rfl
theorem stringslite_CutPrefix.sim (w0 : World) (hw : Wd w0) (k : Nat) : ∀ v x, (fun v => stringslite_CutPrefix k v.1 v.2) v = some x → Sim (cfg w0 (tab3 k)) 100 (io4.enc v).1 (io4.enc v).2 (io6.enc x).1 (io6.enc x).2 :=
  sim_of (c := (cfg w0 (tab3 k))) (fine w0 hw _ (ok3 w0 hw k)) (dr w0 hw _ (ok3 w0 hw k)) (i := io4) (o := io6) (ps := []) (cuts := fun _ => stringslite_CutPrefix.cuts w0 k) (m := 0) (g := fun v => stringslite_CutPrefix k v.1 v.2) Tryd.func100 (by kernel_rfl) stringslite_CutPrefix.hb (fun _ => rfl) (fun _ => Nat.le_of_ble_eq_true rfl) (good_cuts (stringslite_CutPrefix.a w0 k) trivial) (stringslite_CutPrefix.e w0 k)
theorem ok4 (w0 : World) (hw : Wd w0) (k : Nat) : CfOk (cfg w0 (tab4 k)) := addTab_ok (ok3 w0 hw k) (stringslite_CutPrefix.sim w0 hw k)
theorem strings_CutPrefix.a (w0 : World) (k : Nat) : cutsAt (fun n => (strings_CutPrefix.cuts w0 k n).isSome) strings_CutPrefix.body = [] := by kernel_rfl
theorem strings_CutPrefix.sim (w0 : World) (hw : Wd w0) (k : Nat) : ∀ v x, (fun v => strings_CutPrefix k v.1 v.2) v = some x → Sim (cfg w0 (tab4 k)) 64 (io4.enc v).1 (io4.enc v).2 (io6.enc x).1 (io6.enc x).2 :=
  sim_of (c := (cfg w0 (tab4 k))) (fine w0 hw _ (ok4 w0 hw k)) (dr w0 hw _ (ok4 w0 hw k)) (i := io4) (o := io6) (ps := []) (cuts := fun _ => strings_CutPrefix.cuts w0 k) (m := 0) (g := fun v => strings_CutPrefix k v.1 v.2) Tryd.func64 (by kernel_rfl) strings_CutPrefix.hb (fun _ => rfl) (fun _ => Nat.le_of_ble_eq_true rfl) (good_cuts (strings_CutPrefix.a w0 k) trivial) (strings_CutPrefix.e w0 k)
theorem ok5 (w0 : World) (hw : Wd w0) (k : Nat) : CfOk (cfg w0 (tab5 k)) := addTab_ok (ok4 w0 hw k) (strings_CutPrefix.sim w0 hw k)
theorem strings_Trim.sim (w0 : World) (hw : Wd w0) (k : Nat) : ∀ v x, (fun v => strings_Trim k v.1 v.2) v = some x → Sim (cfg w0 (tab5 k)) 101 (io4.enc v).1 (io4.enc v).2 (io0.enc x).1 (io0.enc x).2 := by
  intro v x h; exact sim_trimB (c := cfg w0 (tab5 k)) (ρ := Sh.ren160) Sh.l160 (by kernel_rfl) h
theorem ok6 (w0 : World) (hw : Wd w0) (k : Nat) : CfOk (cfg w0 (tab6 k)) := addTab_ok (ok5 w0 hw k) (strings_Trim.sim w0 hw k)
theorem strings_Repeat.sim (w0 : World) (hw : Wd w0) (k : Nat) : ∀ v x, (fun v => strings_Repeat k v.1 v.2) v = some x → Sim (cfg w0 (tab6 k)) 102 (io7.enc v).1 (io7.enc v).2 (io0.enc x).1 (io0.enc x).2 := by
  intro v x h; exact sim_repS (c := cfg w0 (tab6 k)) (ρ := Sh.ren105) Sh.l105 Sh.ext105 h
theorem ok7 (w0 : World) (hw : Wd w0) (k : Nat) : CfOk (cfg w0 (tab7 k)) := addTab_ok (ok6 w0 hw k) (strings_Repeat.sim w0 hw k)
theorem f__strings_Builder__WriteString.sim (w0 : World) (hw : Wd w0) (k : Nat) : ∀ v x, (fun v => f__strings_Builder__WriteString k v.1 v.2) v = some x → Sim (cfg w0 (tab7 k)) 83 (io8.enc v).1 (io8.enc v).2 (io9.enc x).1 (io9.enc x).2 := by
  intro v x h; obtain ⟨s, hs, rfl⟩ := Option.map_eq_some_iff.1 h; exact sim_wStr (c := cfg w0 (tab7 k)) (ρ := Sh.blr) Sh.bl Sh.fWriteString Sh.ext rfl rfl hs
theorem ok8 (w0 : World) (hw : Wd w0) (k : Nat) : CfOk (cfg w0 (tab8 k)) := addTab_ok (ok7 w0 hw k) (f__strings_Builder__WriteString.sim w0 hw k)
theorem f__strings_Builder__String.sim (w0 : World) (hw : Wd w0) (k : Nat) : ∀ v x, (fun v => f__strings_Builder__String k v) v = some x → Sim (cfg w0 (tab8 k)) 48 (io10.enc v).1 (io10.enc v).2 (io11.enc x).1 (io11.enc x).2 := by
  intro v x h; cases h; exact sim_str (c := cfg w0 (tab8 k)) (ρ := Sh.blr) Sh.bl Sh.bl.f169 Sh.ext rfl rfl _
theorem ok9 (w0 : World) (hw : Wd w0) (k : Nat) : CfOk (cfg w0 (tab9 k)) := addTab_ok (ok8 w0 hw k) (f__strings_Builder__String.sim w0 hw k)
theorem strconv_lower.a (w0 : World) (k : Nat) : cutsAt (fun n => (strconv_lower.cuts w0 k n).isSome) strconv_lower.body = [] := by kernel_rfl
theorem strconv_lower.sim (w0 : World) (hw : Wd w0) (k : Nat) : ∀ v x, (fun v => strconv_lower k v) v = some x → Sim (cfg w0 (tab9 k)) 192 (io12.enc v).1 (io12.enc v).2 (io12.enc x).1 (io12.enc x).2 :=
  sim_of (c := (cfg w0 (tab9 k))) (fine w0 hw _ (ok9 w0 hw k)) (dr w0 hw _ (ok9 w0 hw k)) (i := io12) (o := io12) (ps := []) (cuts := fun _ => strconv_lower.cuts w0 k) (m := 0) (g := fun v => strconv_lower k v) Tryd.func192 (by kernel_rfl) strconv_lower.hb (fun _ => rfl) (fun _ => Nat.le_of_ble_eq_true rfl) (good_cuts (strconv_lower.a w0 k) trivial) (strconv_lower.e w0 k)
theorem ok10 (w0 : World) (hw : Wd w0) (k : Nat) : CfOk (cfg w0 (tab10 k)) := addTab_ok (ok9 w0 hw k) (strconv_lower.sim w0 hw k)
theorem strconv_underscoreOK.a21 (w0 : World) (k : Nat) : cutsAt (fun n => (strconv_underscoreOK.cuts w0 k n).isSome) strconv_underscoreOK.b21 = [] := by kernel_rfl
theorem strconv_underscoreOK.a20 (w0 : World) (k : Nat) : cutsAt (fun n => (strconv_underscoreOK.cuts w0 k n).isSome) strconv_underscoreOK.b20 = [(21, Code.loop strconv_underscoreOK.b21)] := by kernel_rfl
theorem strconv_underscoreOK.a10 (w0 : World) (k : Nat) : cutsAt (fun n => (strconv_underscoreOK.cuts w0 k n).isSome) strconv_underscoreOK.b10 = [(20, strconv_underscoreOK.b20)] := by kernel_rfl
theorem strconv_underscoreOK.a (w0 : World) (k : Nat) : cutsAt (fun n => (strconv_underscoreOK.cuts w0 k n).isSome) strconv_underscoreOK.body = [(10, strconv_underscoreOK.b10)] := by kernel_rfl
theorem strconv_underscoreOK.so21 (w0 : World) (hw : Wd w0) (k : Nat) : Sound (cfg w0 (tab10 k)) Tryd.f193.ntmps 0 (strconv_underscoreOK.kr w0 k) (.loop strconv_underscoreOK.b21) (entK (cfg w0 (tab10 k)) 0 [0, 3, 4, 5] [] io13.pat (strconv_underscoreOK.L21 k k)) :=
  loop_ok (fine w0 hw _ (ok10 w0 hw k)) (dr w0 hw _ (ok10 w0 hw k)) (good_cuts (strconv_underscoreOK.a21 w0 k) trivial) io13.ok (xn := strconv_underscoreOK.x21) (L := strconv_underscoreOK.L21 k) (fun v K => rfl) (strconv_underscoreOK.s21 w0 k) k
theorem strconv_underscoreOK.so20 (w0 : World) (hw : Wd w0) (k : Nat) : Sound (cfg w0 (tab10 k)) Tryd.f193.ntmps 0 (strconv_underscoreOK.kr w0 k) strconv_underscoreOK.b20 (entK (cfg w0 (tab10 k)) 0 [0, 3, 4, 5] [] io13.pat (strconv_underscoreOK.L20 k)) :=
  join_ok (fine w0 hw _ (ok10 w0 hw k)) (dr w0 hw _ (ok10 w0 hw k)) (good_cuts (strconv_underscoreOK.a20 w0 k) ⟨fun f hf => by cases hf; exact strconv_underscoreOK.so21 w0 hw k, trivial⟩) io13.ok (xn := strconv_underscoreOK.x20) (L := strconv_underscoreOK.L20 k) (strconv_underscoreOK.s20 w0 k)
theorem strconv_underscoreOK.so10 (w0 : World) (hw : Wd w0) (k : Nat) : Sound (cfg w0 (tab10 k)) Tryd.f193.ntmps 0 (strconv_underscoreOK.kr w0 k) strconv_underscoreOK.b10 (entK (cfg w0 (tab10 k)) 0 [0, 3, 4] [] io15.pat (strconv_underscoreOK.L10 k)) :=
  join_ok (fine w0 hw _ (ok10 w0 hw k)) (dr w0 hw _ (ok10 w0 hw k)) (good_cuts (strconv_underscoreOK.a10 w0 k) ⟨fun f hf => by cases hf; exact strconv_underscoreOK.so20 w0 hw k, trivial⟩) io15.ok (xn := strconv_underscoreOK.x10) (L := strconv_underscoreOK.L10 k) (strconv_underscoreOK.s10 w0 k)
theorem strconv_underscoreOK.sim (w0 : World) (hw : Wd w0) (k : Nat) : ∀ v x, (fun v => strconv_underscoreOK k v) v = some x → Sim (cfg w0 (tab10 k)) 193 (io0.enc v).1 (io0.enc v).2 (io5.enc x).1 (io5.enc x).2 :=
  sim_of (c := (cfg w0 (tab10 k))) (fine w0 hw _ (ok10 w0 hw k)) (dr w0 hw _ (ok10 w0 hw k)) (i := io0) (o := io5) (ps := []) (cuts := fun _ => strconv_underscoreOK.cuts w0 k) (m := 0) (g := fun v => strconv_underscoreOK k v) Tryd.func193 (by kernel_rfl) strconv_underscoreOK.hb (fun _ => rfl) (fun _ => Nat.le_of_ble_eq_true rfl) (good_cuts (strconv_underscoreOK.a w0 k) ⟨fun f hf => by cases hf; exact strconv_underscoreOK.so10 w0 hw k, trivial⟩) (strconv_underscoreOK.e w0 k)
theorem ok11 (w0 : World) (hw : Wd w0) (k : Nat) : CfOk (cfg w0 (tab11 k)) := addTab_ok (ok10 w0 hw k) (strconv_underscoreOK.sim w0 hw k)
theorem strconv_ParseUint_v2.a92 (w0 : World) (k : Nat) : cutsAt (fun n => (strconv_ParseUint_v2.cuts w0 k n).isSome) strconv_ParseUint_v2.b92 = [] := by kernel_rfl
theorem strconv_ParseUint_v2.a73 (w0 : World) (k : Nat) : cutsAt (fun n => (strconv_ParseUint_v2.cuts w0 k n).isSome) strconv_ParseUint_v2.b73 = [(92, strconv_ParseUint_v2.b92)] := by kernel_rfl
theorem strconv_ParseUint_v2.a64 (w0 : World) (k : Nat) : cutsAt (fun n => (strconv_ParseUint_v2.cuts w0 k n).isSome) strconv_ParseUint_v2.b64 = [(73, Code.loop strconv_ParseUint_v2.b73)] := by kernel_rfl
theorem strconv_ParseUint_v2.a50 (w0 : World) (k : Nat) : cutsAt (fun n => (strconv_ParseUint_v2.cuts w0 k n).isSome) strconv_ParseUint_v2.b50 = [(64, strconv_ParseUint_v2.b64)] := by kernel_rfl
theorem strconv_ParseUint_v2.a42 (w0 : World) (k : Nat) : cutsAt (fun n => (strconv_ParseUint_v2.cuts w0 k n).isSome) strconv_ParseUint_v2.b42 = [(50, strconv_ParseUint_v2.b50)] := by kernel_rfl
theorem strconv_ParseUint_v2.a (w0 : World) (k : Nat) : cutsAt (fun n => (strconv_ParseUint_v2.cuts w0 k n).isSome) strconv_ParseUint_v2.body = [(42, strconv_ParseUint_v2.b42)] := by kernel_rfl
theorem strconv_ParseUint_v2.so92 (w0 : World) (hw : Wd w0) (k : Nat) : Sound (cfg w0 (tab11 k)) Tryd.f160.ntmps 0 (strconv_ParseUint_v2.kr w0 k) strconv_ParseUint_v2.b92 (entK (cfg w0 (tab11 k)) 0 [1, 8, 9, 10, 11, 12, 13, 16, 99, 100, 101] [] io18.pat (strconv_ParseUint_v2.L92 k)) :=
  join_ok (fine w0 hw _ (ok11 w0 hw k)) (dr w0 hw _ (ok11 w0 hw k)) (good_cuts (strconv_ParseUint_v2.a92 w0 k) trivial) io18.ok (xn := strconv_ParseUint_v2.x92) (L := strconv_ParseUint_v2.L92 k) (strconv_ParseUint_v2.s92 w0 k)
theorem strconv_ParseUint_v2.so73 (w0 : World) (hw : Wd w0) (k : Nat) : Sound (cfg w0 (tab11 k)) Tryd.f160.ntmps 0 (strconv_ParseUint_v2.kr w0 k) (.loop strconv_ParseUint_v2.b73) (entK (cfg w0 (tab11 k)) 0 [1, 8, 9, 10, 11, 12, 13, 99, 100, 101] [] io19.pat (strconv_ParseUint_v2.L73 k k)) :=
  loop_ok (fine w0 hw _ (ok11 w0 hw k)) (dr w0 hw _ (ok11 w0 hw k)) (good_cuts (strconv_ParseUint_v2.a73 w0 k) ⟨fun f hf => by cases hf; exact strconv_ParseUint_v2.so92 w0 hw k, trivial⟩) io19.ok (xn := strconv_ParseUint_v2.x73) (L := strconv_ParseUint_v2.L73 k) (fun v K => rfl) (strconv_ParseUint_v2.s73 w0 k) k
theorem strconv_ParseUint_v2.so64 (w0 : World) (hw : Wd w0) (k : Nat) : Sound (cfg w0 (tab11 k)) Tryd.f160.ntmps 0 (strconv_ParseUint_v2.kr w0 k) strconv_ParseUint_v2.b64 (entK (cfg w0 (tab11 k)) 0 [0, 1, 2, 8, 9, 10] [] io21.pat (strconv_ParseUint_v2.L64 k)) :=
  join_ok (fine w0 hw _ (ok11 w0 hw k)) (dr w0 hw _ (ok11 w0 hw k)) (good_cuts (strconv_ParseUint_v2.a64 w0 k) ⟨fun f hf => by cases hf; exact strconv_ParseUint_v2.so73 w0 hw k, trivial⟩) io21.ok (xn := strconv_ParseUint_v2.x64) (L := strconv_ParseUint_v2.L64 k) (strconv_ParseUint_v2.s64 w0 k)
theorem strconv_ParseUint_v2.so50 (w0 : World) (hw : Wd w0) (k : Nat) : Sound (cfg w0 (tab11 k)) Tryd.f160.ntmps 0 (strconv_ParseUint_v2.kr w0 k) strconv_ParseUint_v2.b50 (entK (cfg w0 (tab11 k)) 0 [0, 1, 2, 8, 9] [] io22.pat (strconv_ParseUint_v2.L50 k)) :=
  join_ok (fine w0 hw _ (ok11 w0 hw k)) (dr w0 hw _ (ok11 w0 hw k)) (good_cuts (strconv_ParseUint_v2.a50 w0 k) ⟨fun f hf => by cases hf; exact strconv_ParseUint_v2.so64 w0 hw k, trivial⟩) io22.ok (xn := strconv_ParseUint_v2.x50) (L := strconv_ParseUint_v2.L50 k) (strconv_ParseUint_v2.s50 w0 k)
theorem strconv_ParseUint_v2.so42 (w0 : World) (hw : Wd w0) (k : Nat) : Sound (cfg w0 (tab11 k)) Tryd.f160.ntmps 0 (strconv_ParseUint_v2.kr w0 k) strconv_ParseUint_v2.b42 (entK (cfg w0 (tab11 k)) 0 [0, 1, 2, 8, 9] [] io22.pat (strconv_ParseUint_v2.L42 k)) :=
  join_ok (fine w0 hw _ (ok11 w0 hw k)) (dr w0 hw _ (ok11 w0 hw k)) (good_cuts (strconv_ParseUint_v2.a42 w0 k) ⟨fun f hf => by cases hf; exact strconv_ParseUint_v2.so50 w0 hw k, trivial⟩) io22.ok (xn := strconv_ParseUint_v2.x42) (L := strconv_ParseUint_v2.L42 k) (strconv_ParseUint_v2.s42 w0 k)
theorem strconv_ParseUint_v2.sim (w0 : World) (hw : Wd w0) (k : Nat) : ∀ v x, (fun v => strconv_ParseUint_v2 k v.1 v.2.1 v.2.2) v = some x → Sim (cfg w0 (tab11 k)) 160 (io16.enc v).1 (io16.enc v).2 (io17.enc x).1 (io17.enc x).2 :=
  sim_of (c := (cfg w0 (tab11 k))) (fine w0 hw _ (ok11 w0 hw k)) (dr w0 hw _ (ok11 w0 hw k)) (i := io16) (o := io17) (ps := []) (cuts := fun _ => strconv_ParseUint_v2.cuts w0 k) (m := 0) (g := fun v => strconv_ParseUint_v2 k v.1 v.2.1 v.2.2) Tryd.func160 (by kernel_rfl) strconv_ParseUint_v2.hb (fun _ => rfl) (fun _ => Nat.le_of_ble_eq_true rfl) (good_cuts (strconv_ParseUint_v2.a w0 k) ⟨fun f hf => by cases hf; exact strconv_ParseUint_v2.so42 w0 hw k, trivial⟩) (strconv_ParseUint_v2.e w0 k)
theorem ok12 (w0 : World) (hw : Wd w0) (k : Nat) : CfOk (cfg w0 (tab12 k)) := addTab_ok (ok11 w0 hw k) (strconv_ParseUint_v2.sim w0 hw k)
theorem strconv_ParseUint.a (w0 : World) (k : Nat) : cutsAt (fun n => (strconv_ParseUint.cuts w0 k n).isSome) strconv_ParseUint.body = [] := by kernel_rfl
theorem strconv_ParseUint.sim (w0 : World) (hw : Wd w0) (k : Nat) : ∀ v x, (fun v => strconv_ParseUint k v.1 v.2.1 v.2.2) v = some x → Sim (cfg w0 (tab12 k)) 103 (io16.enc v).1 (io16.enc v).2 (io17.enc x).1 (io17.enc x).2 :=
  sim_of (c := (cfg w0 (tab12 k))) (fine w0 hw _ (ok12 w0 hw k)) (dr w0 hw _ (ok12 w0 hw k)) (i := io16) (o := io17) (ps := []) (cuts := fun _ => strconv_ParseUint.cuts w0 k) (m := 0) (g := fun v => strconv_ParseUint k v.1 v.2.1 v.2.2) Tryd.func103 (by kernel_rfl) strconv_ParseUint.hb (fun _ => rfl) (fun _ => Nat.le_of_ble_eq_true rfl) (good_cuts (strconv_ParseUint.a w0 k) trivial) (strconv_ParseUint.e w0 k)
theorem ok13 (w0 : World) (hw : Wd w0) (k : Nat) : CfOk (cfg w0 (tab13 k)) := addTab_ok (ok12 w0 hw k) (strconv_ParseUint.sim w0 hw k)
theorem color_hex.a13 (w0 : World) (k : Nat) : cutsAt (fun n => (color_hex.cuts w0 k n).isSome) color_hex.b13 = [] := by kernel_rfl
theorem color_hex.a26 (w0 : World) (k : Nat) : cutsAt (fun n => (color_hex.cuts w0 k n).isSome) color_hex.b26 = [] := by kernel_rfl
theorem color_hex.a22 (w0 : World) (k : Nat) : cutsAt (fun n => (color_hex.cuts w0 k n).isSome) color_hex.b22 = [(26, color_hex.b26)] := by kernel_rfl
theorem color_hex.a (w0 : World) (k : Nat) : cutsAt (fun n => (color_hex.cuts w0 k n).isSome) color_hex.body = [(13, Code.loop color_hex.b13), (22, color_hex.b22)] := by kernel_rfl
theorem color_hex.so13 (w0 : World) (hw : Wd w0) (k : Nat) : Sound (cfg w0 (tab13 k)) Tryd.f65.ntmps 0 (color_hex.kr w0 k) (.loop color_hex.b13) (entK (cfg w0 (tab13 k)) 0 [0, 4, 20, 21] [] io23.pat (color_hex.L13 k k)) :=
  loop_ok (fine w0 hw _ (ok13 w0 hw k)) (dr w0 hw _ (ok13 w0 hw k)) (good_cuts (color_hex.a13 w0 k) trivial) io23.ok (xn := color_hex.x13) (L := color_hex.L13 k) (fun v K => rfl) (color_hex.s13 w0 k) k
theorem color_hex.so26 (w0 : World) (hw : Wd w0) (k : Nat) : Sound (cfg w0 (tab13 k)) Tryd.f65.ntmps 0 (color_hex.kr w0 k) color_hex.b26 (entK (cfg w0 (tab13 k)) 0 [0] [] io0.pat (color_hex.L26 k)) :=
  join_ok (fine w0 hw _ (ok13 w0 hw k)) (dr w0 hw _ (ok13 w0 hw k)) (good_cuts (color_hex.a26 w0 k) trivial) io0.ok (xn := color_hex.x26) (L := color_hex.L26 k) (color_hex.s26 w0 k)
theorem color_hex.so22 (w0 : World) (hw : Wd w0) (k : Nat) : Sound (cfg w0 (tab13 k)) Tryd.f65.ntmps 0 (color_hex.kr w0 k) color_hex.b22 (entK (cfg w0 (tab13 k)) 0 [0] [] io0.pat (color_hex.L22 k)) :=
  join_ok (fine w0 hw _ (ok13 w0 hw k)) (dr w0 hw _ (ok13 w0 hw k)) (good_cuts (color_hex.a22 w0 k) ⟨fun f hf => by cases hf; exact color_hex.so26 w0 hw k, trivial⟩) io0.ok (xn := color_hex.x22) (L := color_hex.L22 k) (color_hex.s22 w0 k)
theorem color_hex.sim (w0 : World) (hw : Wd w0) (k : Nat) : ∀ v x, (fun v => color_hex k v) v = some x → Sim (cfg w0 (tab13 k)) 65 (io0.enc v).1 (io0.enc v).2 (io3.enc x).1 (io3.enc x).2 :=
  sim_of (c := (cfg w0 (tab13 k))) (fine w0 hw _ (ok13 w0 hw k)) (dr w0 hw _ (ok13 w0 hw k)) (i := io0) (o := io3) (ps := []) (cuts := fun _ => color_hex.cuts w0 k) (m := 0) (g := fun v => color_hex k v) Tryd.func65 (by kernel_rfl) color_hex.hb (fun _ => rfl) (fun _ => Nat.le_of_ble_eq_true rfl) (good_cuts (color_hex.a w0 k) ⟨fun f hf => by cases hf; exact color_hex.so13 w0 hw k, fun f hf => by cases hf; exact color_hex.so22 w0 hw k, trivial⟩) (color_hex.e w0 k)
theorem ok14 (w0 : World) (hw : Wd w0) (k : Nat) : CfOk (cfg w0 (tab14 k)) := addTab_ok (ok13 w0 hw k) (color_hex.sim w0 hw k)
theorem stringslite_HasSuffix.a (w0 : World) (k : Nat) : cutsAt (fun n => (stringslite_HasSuffix.cuts w0 k n).isSome) stringslite_HasSuffix.body = [] := by kernel_rfl
theorem stringslite_HasSuffix.sim (w0 : World) (hw : Wd w0) (k : Nat) : ∀ v x, (fun v => stringslite_HasSuffix k v.1 v.2) v = some x → Sim (cfg w0 (tab14 k)) 104 (io4.enc v).1 (io4.enc v).2 (io5.enc x).1 (io5.enc x).2 :=
  sim_of (c := (cfg w0 (tab14 k))) (fine w0 hw _ (ok14 w0 hw k)) (dr w0 hw _ (ok14 w0 hw k)) (i := io4) (o := io5) (ps := []) (cuts := fun _ => stringslite_HasSuffix.cuts w0 k) (m := 0) (g := fun v => stringslite_HasSuffix k v.1 v.2) Tryd.func104 (by kernel_rfl) stringslite_HasSuffix.hb (fun _ => rfl) (fun _ => Nat.le_of_ble_eq_true rfl) (good_cuts (stringslite_HasSuffix.a w0 k) trivial) (stringslite_HasSuffix.e w0 k)
theorem ok15 (w0 : World) (hw : Wd w0) (k : Nat) : CfOk (cfg w0 (tab15 k)) := addTab_ok (ok14 w0 hw k) (stringslite_HasSuffix.sim w0 hw k)
theorem strings_HasSuffix.a (w0 : World) (k : Nat) : cutsAt (fun n => (strings_HasSuffix.cuts w0 k n).isSome) strings_HasSuffix.body = [] := by kernel_rfl
theorem strings_HasSuffix.sim (w0 : World) (hw : Wd w0) (k : Nat) : ∀ v x, (fun v => strings_HasSuffix k v.1 v.2) v = some x → Sim (cfg w0 (tab15 k)) 66 (io4.enc v).1 (io4.enc v).2 (io5.enc x).1 (io5.enc x).2 :=
  sim_of (c := (cfg w0 (tab15 k))) (fine w0 hw _ (ok15 w0 hw k)) (dr w0 hw _ (ok15 w0 hw k)) (i := io4) (o := io5) (ps := []) (cuts := fun _ => strings_HasSuffix.cuts w0 k) (m := 0) (g := fun v => strings_HasSuffix k v.1 v.2) Tryd.func66 (by kernel_rfl) strings_HasSuffix.hb (fun _ => rfl) (fun _ => Nat.le_of_ble_eq_true rfl) (good_cuts (strings_HasSuffix.a w0 k) trivial) (strings_HasSuffix.e w0 k)
theorem ok16 (w0 : World) (hw : Wd w0) (k : Nat) : CfOk (cfg w0 (tab16 k)) := addTab_ok (ok15 w0 hw k) (strings_HasSuffix.sim w0 hw k)
theorem strings_Index.sim (w0 : World) (hw : Wd w0) (k : Nat) : ∀ v x, (fun v => strings_Index k v.1 v.2) v = some x → Sim (cfg w0 (tab16 k)) 45 (io4.enc v).1 (io4.enc v).2 (io24.enc x).1 (io24.enc x).2 := by
  intro v x h; exact sim_findS (c := cfg w0 (tab16 k)) (ρ := Sh.ren143) Sh.l143 hw.mx h
theorem ok17 (w0 : World) (hw : Wd w0) (k : Nat) : CfOk (cfg w0 (tab17 k)) := addTab_ok (ok16 w0 hw k) (strings_Index.sim w0 hw k)
theorem strings_Count.a13 (w0 : World) (k : Nat) : cutsAt (fun n => (strings_Count.cuts w0 k n).isSome) strings_Count.b13 = [] := by kernel_rfl
theorem strings_Count.a (w0 : World) (k : Nat) : cutsAt (fun n => (strings_Count.cuts w0 k n).isSome) strings_Count.body = [(13, Code.loop strings_Count.b13)] := by kernel_rfl
theorem strings_Count.so13 (w0 : World) (hw : Wd w0) (k : Nat) : Sound (cfg w0 (tab17 k)) Tryd.f21.ntmps 0 (strings_Count.kr w0 k) (.loop strings_Count.b13) (entK (cfg w0 (tab17 k)) 0 [0, 1, 5] [] io25.pat (strings_Count.L13 k k)) :=
  loop_ok (fine w0 hw _ (ok17 w0 hw k)) (dr w0 hw _ (ok17 w0 hw k)) (good_cuts (strings_Count.a13 w0 k) trivial) io25.ok (xn := strings_Count.x13) (L := strings_Count.L13 k) (fun v K => rfl) (strings_Count.s13 w0 k) k
theorem strings_Count.sim (w0 : World) (hw : Wd w0) (k : Nat) : ∀ v x, (fun v => strings_Count k v.1 v.2) v = some x → Sim (cfg w0 (tab17 k)) 21 (io4.enc v).1 (io4.enc v).2 (io24.enc x).1 (io24.enc x).2 :=
  sim_of (c := (cfg w0 (tab17 k))) (fine w0 hw _ (ok17 w0 hw k)) (dr w0 hw _ (ok17 w0 hw k)) (i := io4) (o := io24) (ps := []) (cuts := fun _ => strings_Count.cuts w0 k) (m := 0) (g := fun v => strings_Count k v.1 v.2) Tryd.func21 (by kernel_rfl) strings_Count.hb (fun _ => rfl) (fun _ => Nat.le_of_ble_eq_true rfl) (good_cuts (strings_Count.a w0 k) ⟨fun f hf => by cases hf; exact strings_Count.so13 w0 hw k, trivial⟩) (strings_Count.e w0 k)
theorem ok18 (w0 : World) (hw : Wd w0) (k : Nat) : CfOk (cfg w0 (tab18 k)) := addTab_ok (ok17 w0 hw k) (strings_Count.sim w0 hw k)
theorem strings_genSplit.a14 (w0 : World) (k : Nat) : cutsAt (fun n => (strings_genSplit.cuts w0 k n).isSome) strings_genSplit.b14 = [] := by kernel_rfl
theorem strings_genSplit.a (w0 : World) (k : Nat) : cutsAt (fun n => (strings_genSplit.cuts w0 k n).isSome) strings_genSplit.body = [(14, strings_genSplit.b14)] := by kernel_rfl
theorem strings_genSplit.so14 (w0 : World) (hw : Wd w0) (k : Nat) : Sound (cfg w0 (tab18 k)) Tryd.f161.ntmps 0 (strings_genSplit.kr w0 k) strings_genSplit.b14 (entK (cfg w0 (tab18 k)) 0 [0, 1, 2, 3] [] io26.pat (strings_genSplit.L14 k)) :=
  join_ok (fine w0 hw _ (ok18 w0 hw k)) (dr w0 hw _ (ok18 w0 hw k)) (good_cuts (strings_genSplit.a14 w0 k) trivial) io26.ok (xn := strings_genSplit.x14) (L := strings_genSplit.L14 k) (strings_genSplit.s14 w0 k)
theorem strings_genSplit.sim (w0 : World) (hw : Wd w0) (k : Nat) : ∀ v x, (fun v => strings_genSplit k v.1 v.2.1 v.2.2.1 v.2.2.2) v = some x → Sim (cfg w0 (tab18 k)) 161 (io26.enc v).1 (io26.enc v).2 (io27.enc x).1 (io27.enc x).2 :=
  sim_of (c := (cfg w0 (tab18 k))) (fine w0 hw _ (ok18 w0 hw k)) (dr w0 hw _ (ok18 w0 hw k)) (i := io26) (o := io27) (ps := []) (cuts := fun _ => strings_genSplit.cuts w0 k) (m := 0) (g := fun v => strings_genSplit k v.1 v.2.1 v.2.2.1 v.2.2.2) Tryd.func161 (by kernel_rfl) strings_genSplit.hb (fun _ => rfl) (fun _ => Nat.le_of_ble_eq_true rfl) (good_cuts (strings_genSplit.a w0 k) ⟨fun f hf => by cases hf; exact strings_genSplit.so14 w0 hw k, trivial⟩) (strings_genSplit.e w0 k)
theorem ok19 (w0 : World) (hw : Wd w0) (k : Nat) : CfOk (cfg w0 (tab19 k)) := addTab_ok (ok18 w0 hw k) (strings_genSplit.sim w0 hw k)
theorem strings_Split.a (w0 : World) (k : Nat) : cutsAt (fun n => (strings_Split.cuts w0 k n).isSome) strings_Split.body = [] := by kernel_rfl
theorem strings_Split.sim (w0 : World) (hw : Wd w0) (k : Nat) : ∀ v x, (fun v => strings_Split k v.1 v.2) v = some x → Sim (cfg w0 (tab19 k)) 105 (io4.enc v).1 (io4.enc v).2 (io27.enc x).1 (io27.enc x).2 :=
  sim_of (c := (cfg w0 (tab19 k))) (fine w0 hw _ (ok19 w0 hw k)) (dr w0 hw _ (ok19 w0 hw k)) (i := io4) (o := io27) (ps := []) (cuts := fun _ => strings_Split.cuts w0 k) (m := 0) (g := fun v => strings_Split k v.1 v.2) Tryd.func105 (by kernel_rfl) strings_Split.hb (fun _ => rfl) (fun _ => Nat.le_of_ble_eq_true rfl) (good_cuts (strings_Split.a w0 k) trivial) (strings_Split.e w0 k)
theorem ok20 (w0 : World) (hw : Wd w0) (k : Nat) : CfOk (cfg w0 (tab20 k)) := addTab_ok (ok19 w0 hw k) (strings_Split.sim w0 hw k)
theorem stringslite_TrimPrefix.a (w0 : World) (k : Nat) : cutsAt (fun n => (stringslite_TrimPrefix.cuts w0 k n).isSome) stringslite_TrimPrefix.body = [] := by kernel_rfl
theorem stringslite_TrimPrefix.sim (w0 : World) (hw : Wd w0) (k : Nat) : ∀ v x, (fun v => stringslite_TrimPrefix k v.1 v.2) v = some x → Sim (cfg w0 (tab20 k)) 162 (io4.enc v).1 (io4.enc v).2 (io0.enc x).1 (io0.enc x).2 :=
  sim_of (c := (cfg w0 (tab20 k))) (fine w0 hw _ (ok20 w0 hw k)) (dr w0 hw _ (ok20 w0 hw k)) (i := io4) (o := io0) (ps := []) (cuts := fun _ => stringslite_TrimPrefix.cuts w0 k) (m := 0) (g := fun v => stringslite_TrimPrefix k v.1 v.2) Tryd.func162 (by kernel_rfl) stringslite_TrimPrefix.hb (fun _ => rfl) (fun _ => Nat.le_of_ble_eq_true rfl) (good_cuts (stringslite_TrimPrefix.a w0 k) trivial) (stringslite_TrimPrefix.e w0 k)
theorem ok21 (w0 : World) (hw : Wd w0) (k : Nat) : CfOk (cfg w0 (tab21 k)) := addTab_ok (ok20 w0 hw k) (stringslite_TrimPrefix.sim w0 hw k)
theorem strings_TrimPrefix.a (w0 : World) (k : Nat) : cutsAt (fun n => (strings_TrimPrefix.cuts w0 k n).isSome) strings_TrimPrefix.body = [] := by kernel_rfl
theorem strings_TrimPrefix.sim (w0 : World) (hw : Wd w0) (k : Nat) : ∀ v x, (fun v => strings_TrimPrefix k v.1 v.2) v = some x → Sim (cfg w0 (tab21 k)) 106 (io4.enc v).1 (io4.enc v).2 (io0.enc x).1 (io0.enc x).2 :=
  sim_of (c := (cfg w0 (tab21 k))) (fine w0 hw _ (ok21 w0 hw k)) (dr w0 hw _ (ok21 w0 hw k)) (i := io4) (o := io0) (ps := []) (cuts := fun _ => strings_TrimPrefix.cuts w0 k) (m := 0) (g := fun v => strings_TrimPrefix k v.1 v.2) Tryd.func106 (by kernel_rfl) strings_TrimPrefix.hb (fun _ => rfl) (fun _ => Nat.le_of_ble_eq_true rfl) (good_cuts (strings_TrimPrefix.a w0 k) trivial) (strings_TrimPrefix.e w0 k)
theorem ok22 (w0 : World) (hw : Wd w0) (k : Nat) : CfOk (cfg w0 (tab22 k)) := addTab_ok (ok21 w0 hw k) (strings_TrimPrefix.sim w0 hw k)
theorem strconv_Atoi_v2.a21 (w0 : World) (k : Nat) : cutsAt (fun n => (strconv_Atoi_v2.cuts w0 k n).isSome) strconv_Atoi_v2.b21 = [] := by kernel_rfl
theorem strconv_Atoi_v2.a38 (w0 : World) (k : Nat) : cutsAt (fun n => (strconv_Atoi_v2.cuts w0 k n).isSome) strconv_Atoi_v2.b38 = [] := by kernel_rfl
theorem strconv_Atoi_v2.a16 (w0 : World) (k : Nat) : cutsAt (fun n => (strconv_Atoi_v2.cuts w0 k n).isSome) strconv_Atoi_v2.b16 = [(21, Code.loop strconv_Atoi_v2.b21), (38, strconv_Atoi_v2.b38)] := by kernel_rfl
theorem strconv_Atoi_v2.a (w0 : World) (k : Nat) : cutsAt (fun n => (strconv_Atoi_v2.cuts w0 k n).isSome) strconv_Atoi_v2.body = [(16, strconv_Atoi_v2.b16)] := by kernel_rfl
theorem strconv_Atoi_v2.so21 (w0 : World) (hw : Wd w0) (k : Nat) : Sound (cfg w0 (tab22 k)) Tryd.f80.ntmps 0 (strconv_Atoi_v2.kr w0 k) (.loop strconv_Atoi_v2.b21) (entK (cfg w0 (tab22 k)) 0 [5, 6, 47, 48, 49] [] io29.pat (strconv_Atoi_v2.L21 k k)) :=
  loop_ok (fine w0 hw _ (ok22 w0 hw k)) (dr w0 hw _ (ok22 w0 hw k)) (good_cuts (strconv_Atoi_v2.a21 w0 k) trivial) io29.ok (xn := strconv_Atoi_v2.x21) (L := strconv_Atoi_v2.L21 k) (fun v K => rfl) (strconv_Atoi_v2.s21 w0 k) k
theorem strconv_Atoi_v2.so38 (w0 : World) (hw : Wd w0) (k : Nat) : Sound (cfg w0 (tab22 k)) Tryd.f80.ntmps 0 (strconv_Atoi_v2.kr w0 k) strconv_Atoi_v2.b38 (entK (cfg w0 (tab22 k)) 0 [6] [] io24.pat (strconv_Atoi_v2.L38 k)) :=
  join_ok (fine w0 hw _ (ok22 w0 hw k)) (dr w0 hw _ (ok22 w0 hw k)) (good_cuts (strconv_Atoi_v2.a38 w0 k) trivial) io24.ok (xn := strconv_Atoi_v2.x38) (L := strconv_Atoi_v2.L38 k) (strconv_Atoi_v2.s38 w0 k)
theorem strconv_Atoi_v2.so16 (w0 : World) (hw : Wd w0) (k : Nat) : Sound (cfg w0 (tab22 k)) Tryd.f80.ntmps 0 (strconv_Atoi_v2.kr w0 k) strconv_Atoi_v2.b16 (entK (cfg w0 (tab22 k)) 0 [0, 5] [] io4.pat (strconv_Atoi_v2.L16 k)) :=
  join_ok (fine w0 hw _ (ok22 w0 hw k)) (dr w0 hw _ (ok22 w0 hw k)) (good_cuts (strconv_Atoi_v2.a16 w0 k) ⟨fun f hf => by cases hf; exact strconv_Atoi_v2.so21 w0 hw k, fun f hf => by cases hf; exact strconv_Atoi_v2.so38 w0 hw k, trivial⟩) io4.ok (xn := strconv_Atoi_v2.x16) (L := strconv_Atoi_v2.L16 k) (strconv_Atoi_v2.s16 w0 k)
theorem strconv_Atoi_v2.sim (w0 : World) (hw : Wd w0) (k : Nat) : ∀ v x, (fun v => strconv_Atoi_v2 k v) v = some x → Sim (cfg w0 (tab22 k)) 80 (io0.enc v).1 (io0.enc v).2 (io28.enc x).1 (io28.enc x).2 :=
  sim_of (c := (cfg w0 (tab22 k))) (fine w0 hw _ (ok22 w0 hw k)) (dr w0 hw _ (ok22 w0 hw k)) (i := io0) (o := io28) (ps := []) (cuts := fun _ => strconv_Atoi_v2.cuts w0 k) (m := 0) (g := fun v => strconv_Atoi_v2 k v) Tryd.func80 (by kernel_rfl) strconv_Atoi_v2.hb (fun _ => rfl) (fun _ => Nat.le_of_ble_eq_true rfl) (good_cuts (strconv_Atoi_v2.a w0 k) ⟨fun f hf => by cases hf; exact strconv_Atoi_v2.so16 w0 hw k, trivial⟩) (strconv_Atoi_v2.e w0 k)
theorem ok23 (w0 : World) (hw : Wd w0) (k : Nat) : CfOk (cfg w0 (tab23 k)) := addTab_ok (ok22 w0 hw k) (strconv_Atoi_v2.sim w0 hw k)
theorem strconv_Atoi.a (w0 : World) (k : Nat) : cutsAt (fun n => (strconv_Atoi.cuts w0 k n).isSome) strconv_Atoi.body = [] := by kernel_rfl
theorem strconv_Atoi.sim (w0 : World) (hw : Wd w0) (k : Nat) : ∀ v x, (fun v => strconv_Atoi k v) v = some x → Sim (cfg w0 (tab23 k)) 39 (io0.enc v).1 (io0.enc v).2 (io28.enc x).1 (io28.enc x).2 :=
  sim_of (c := (cfg w0 (tab23 k))) (fine w0 hw _ (ok23 w0 hw k)) (dr w0 hw _ (ok23 w0 hw k)) (i := io0) (o := io28) (ps := []) (cuts := fun _ => strconv_Atoi.cuts w0 k) (m := 0) (g := fun v => strconv_Atoi k v) Tryd.func39 (by kernel_rfl) strconv_Atoi.hb (fun _ => rfl) (fun _ => Nat.le_of_ble_eq_true rfl) (good_cuts (strconv_Atoi.a w0 k) trivial) (strconv_Atoi.e w0 k)
theorem ok24 (w0 : World) (hw : Wd w0) (k : Nat) : CfOk (cfg w0 (tab24 k)) := addTab_ok (ok23 w0 hw k) (strconv_Atoi.sim w0 hw k)
theorem strconv_small.a (w0 : World) (k : Nat) : cutsAt (fun n => (strconv_small.cuts w0 k n).isSome) strconv_small.body = [] := by kernel_rfl
theorem strconv_small.sim (w0 : World) (hw : Wd w0) (k : Nat) : ∀ v x, (fun v => strconv_small k v) v = some x → Sim (cfg w0 (tab24 k)) 151 (io24.enc v).1 (io24.enc v).2 (io0.enc x).1 (io0.enc x).2 :=
  sim_of (c := (cfg w0 (tab24 k))) (fine w0 hw _ (ok24 w0 hw k)) (dr w0 hw _ (ok24 w0 hw k)) (i := io24) (o := io0) (ps := []) (cuts := fun _ => strconv_small.cuts w0 k) (m := 0) (g := fun v => strconv_small k v) Tryd.func151 (by kernel_rfl) strconv_small.hb (fun _ => rfl) (fun _ => Nat.le_of_ble_eq_true rfl) (good_cuts (strconv_small.a w0 k) trivial) (strconv_small.e w0 k)
theorem ok25 (w0 : World) (hw : Wd w0) (k : Nat) : CfOk (cfg w0 (tab25 k)) := addTab_ok (ok24 w0 hw k) (strconv_small.sim w0 hw k)
theorem bits_Len64.a20 (w0 : World) (k : Nat) : cutsAt (fun n => (bits_Len64.cuts w0 k n).isSome) bits_Len64.b20 = [] := by kernel_rfl
theorem bits_Len64.a14 (w0 : World) (k : Nat) : cutsAt (fun n => (bits_Len64.cuts w0 k n).isSome) bits_Len64.b14 = [(20, bits_Len64.b20)] := by kernel_rfl
theorem bits_Len64.a8 (w0 : World) (k : Nat) : cutsAt (fun n => (bits_Len64.cuts w0 k n).isSome) bits_Len64.b8 = [(14, bits_Len64.b14)] := by kernel_rfl
theorem bits_Len64.a (w0 : World) (k : Nat) : cutsAt (fun n => (bits_Len64.cuts w0 k n).isSome) bits_Len64.body = [(8, bits_Len64.b8)] := by kernel_rfl
theorem bits_Len64.so20 (w0 : World) (hw : Wd w0) (k : Nat) : Sound (cfg w0 (tab25 k)) Tryd.f186.ntmps 0 (bits_Len64.kr w0 k) bits_Len64.b20 (entK (cfg w0 (tab25 k)) 0 [0, 2] [] io31.pat (bits_Len64.L20 k)) :=
  join_ok (fine w0 hw _ (ok25 w0 hw k)) (dr w0 hw _ (ok25 w0 hw k)) (good_cuts (bits_Len64.a20 w0 k) trivial) io31.ok (xn := bits_Len64.x20) (L := bits_Len64.L20 k) (bits_Len64.s20 w0 k)
theorem bits_Len64.so14 (w0 : World) (hw : Wd w0) (k : Nat) : Sound (cfg w0 (tab25 k)) Tryd.f186.ntmps 0 (bits_Len64.kr w0 k) bits_Len64.b14 (entK (cfg w0 (tab25 k)) 0 [0, 2] [] io31.pat (bits_Len64.L14 k)) :=
  join_ok (fine w0 hw _ (ok25 w0 hw k)) (dr w0 hw _ (ok25 w0 hw k)) (good_cuts (bits_Len64.a14 w0 k) ⟨fun f hf => by cases hf; exact bits_Len64.so20 w0 hw k, trivial⟩) io31.ok (xn := bits_Len64.x14) (L := bits_Len64.L14 k) (bits_Len64.s14 w0 k)
theorem bits_Len64.so8 (w0 : World) (hw : Wd w0) (k : Nat) : Sound (cfg w0 (tab25 k)) Tryd.f186.ntmps 0 (bits_Len64.kr w0 k) bits_Len64.b8 (entK (cfg w0 (tab25 k)) 0 [0, 2] [] io31.pat (bits_Len64.L8 k)) :=
  join_ok (fine w0 hw _ (ok25 w0 hw k)) (dr w0 hw _ (ok25 w0 hw k)) (good_cuts (bits_Len64.a8 w0 k) ⟨fun f hf => by cases hf; exact bits_Len64.so14 w0 hw k, trivial⟩) io31.ok (xn := bits_Len64.x8) (L := bits_Len64.L8 k) (bits_Len64.s8 w0 k)
theorem bits_Len64.sim (w0 : World) (hw : Wd w0) (k : Nat) : ∀ v x, (fun v => bits_Len64 k v) v = some x → Sim (cfg w0 (tab25 k)) 186 (io30.enc v).1 (io30.enc v).2 (io24.enc x).1 (io24.enc x).2 :=
  sim_of (c := (cfg w0 (tab25 k))) (fine w0 hw _ (ok25 w0 hw k)) (dr w0 hw _ (ok25 w0 hw k)) (i := io30) (o := io24) (ps := []) (cuts := fun _ => bits_Len64.cuts w0 k) (m := 0) (g := fun v => bits_Len64 k v) Tryd.func186 (by kernel_rfl) bits_Len64.hb (fun _ => rfl) (fun _ => Nat.le_of_ble_eq_true rfl) (good_cuts (bits_Len64.a w0 k) ⟨fun f hf => by cases hf; exact bits_Len64.so8 w0 hw k, trivial⟩) (bits_Len64.e w0 k)
theorem ok26 (w0 : World) (hw : Wd w0) (k : Nat) : CfOk (cfg w0 (tab26 k)) := addTab_ok (ok25 w0 hw k) (bits_Len64.sim w0 hw k)
theorem strconv_log10Pow2.a (w0 : World) (k : Nat) : cutsAt (fun n => (strconv_log10Pow2.cuts w0 k n).isSome) strconv_log10Pow2.body = [] := by kernel_rfl
theorem strconv_log10Pow2.sim (w0 : World) (hw : Wd w0) (k : Nat) : ∀ v x, (fun v => strconv_log10Pow2 k v) v = some x → Sim (cfg w0 (tab26 k)) 185 (io24.enc v).1 (io24.enc v).2 (io24.enc x).1 (io24.enc x).2 :=
  sim_of (c := (cfg w0 (tab26 k))) (fine w0 hw _ (ok26 w0 hw k)) (dr w0 hw _ (ok26 w0 hw k)) (i := io24) (o := io24) (ps := []) (cuts := fun _ => strconv_log10Pow2.cuts w0 k) (m := 0) (g := fun v => strconv_log10Pow2 k v) Tryd.func185 (by kernel_rfl) strconv_log10Pow2.hb (fun _ => rfl) (fun _ => Nat.le_of_ble_eq_true rfl) (good_cuts (strconv_log10Pow2.a w0 k) trivial) (strconv_log10Pow2.e w0 k)
theorem ok27 (w0 : World) (hw : Wd w0) (k : Nat) : CfOk (cfg w0 (tab27 k)) := addTab_ok (ok26 w0 hw k) (strconv_log10Pow2.sim w0 hw k)
theorem strconv_isPowerOfTwo.a (w0 : World) (k : Nat) : cutsAt (fun n => (strconv_isPowerOfTwo.cuts w0 k n).isSome) strconv_isPowerOfTwo.body = [] := by kernel_rfl
theorem strconv_isPowerOfTwo.sim (w0 : World) (hw : Wd w0) (k : Nat) : ∀ v x, (fun v => strconv_isPowerOfTwo k v) v = some x → Sim (cfg w0 (tab27 k)) 188 (io24.enc v).1 (io24.enc v).2 (io5.enc x).1 (io5.enc x).2 :=
  sim_of (c := (cfg w0 (tab27 k))) (fine w0 hw _ (ok27 w0 hw k)) (dr w0 hw _ (ok27 w0 hw k)) (i := io24) (o := io5) (ps := []) (cuts := fun _ => strconv_isPowerOfTwo.cuts w0 k) (m := 0) (g := fun v => strconv_isPowerOfTwo k v) Tryd.func188 (by kernel_rfl) strconv_isPowerOfTwo.hb (fun _ => rfl) (fun _ => Nat.le_of_ble_eq_true rfl) (good_cuts (strconv_isPowerOfTwo.a w0 k) trivial) (strconv_isPowerOfTwo.e w0 k)
theorem ok28 (w0 : World) (hw : Wd w0) (k : Nat) : CfOk (cfg w0 (tab28 k)) := addTab_ok (ok27 w0 hw k) (strconv_isPowerOfTwo.sim w0 hw k)
theorem bits_TrailingZeros64.a (w0 : World) (k : Nat) : cutsAt (fun n => (bits_TrailingZeros64.cuts w0 k n).isSome) bits_TrailingZeros64.body = [] := by kernel_rfl
theorem bits_TrailingZeros64.sim (w0 : World) (hw : Wd w0) (k : Nat) : ∀ v x, (fun v => bits_TrailingZeros64 k v) v = some x → Sim (cfg w0 (tab28 k)) 206 (io30.enc v).1 (io30.enc v).2 (io24.enc x).1 (io24.enc x).2 :=
  sim_of (c := (cfg w0 (tab28 k))) (fine w0 hw _ (ok28 w0 hw k)) (dr w0 hw _ (ok28 w0 hw k)) (i := io30) (o := io24) (ps := []) (cuts := fun _ => bits_TrailingZeros64.cuts w0 k) (m := 0) (g := fun v => bits_TrailingZeros64 k v) Tryd.func206 (by kernel_rfl) bits_TrailingZeros64.hb (fun _ => rfl) (fun _ => Nat.le_of_ble_eq_true rfl) (good_cuts (bits_TrailingZeros64.a w0 k) trivial) (bits_TrailingZeros64.e w0 k)
theorem ok29 (w0 : World) (hw : Wd w0) (k : Nat) : CfOk (cfg w0 (tab29 k)) := addTab_ok (ok28 w0 hw k) (bits_TrailingZeros64.sim w0 hw k)
theorem bits_TrailingZeros.a (w0 : World) (k : Nat) : cutsAt (fun n => (bits_TrailingZeros.cuts w0 k n).isSome) bits_TrailingZeros.body = [] := by kernel_rfl
theorem bits_TrailingZeros.sim (w0 : World) (hw : Wd w0) (k : Nat) : ∀ v x, (fun v => bits_TrailingZeros k v) v = some x → Sim (cfg w0 (tab29 k)) 189 (io30.enc v).1 (io30.enc v).2 (io24.enc x).1 (io24.enc x).2 :=
  sim_of (c := (cfg w0 (tab29 k))) (fine w0 hw _ (ok29 w0 hw k)) (dr w0 hw _ (ok29 w0 hw k)) (i := io30) (o := io24) (ps := []) (cuts := fun _ => bits_TrailingZeros.cuts w0 k) (m := 0) (g := fun v => bits_TrailingZeros k v) Tryd.func189 (by kernel_rfl) bits_TrailingZeros.hb (fun _ => rfl) (fun _ => Nat.le_of_ble_eq_true rfl) (good_cuts (bits_TrailingZeros.a w0 k) trivial) (bits_TrailingZeros.e w0 k)
theorem ok30 (w0 : World) (hw : Wd w0) (k : Nat) : CfOk (cfg w0 (tab30 k)) := addTab_ok (ok29 w0 hw k) (bits_TrailingZeros.sim w0 hw k)
theorem strconv_FormatInt.a16 (w0 : World) (k : Nat) : cutsAt (fun n => (strconv_FormatInt.cuts w0 k n).isSome) strconv_FormatInt.b16 = [] := by kernel_rfl
theorem strconv_FormatInt.a (w0 : World) (k : Nat) : cutsAt (fun n => (strconv_FormatInt.cuts w0 k n).isSome) strconv_FormatInt.body = [(16, strconv_FormatInt.b16)] := by kernel_rfl
theorem strconv_FormatInt.so16 (w0 : World) (hw : Wd w0) (k : Nat) : Sound (cfg w0 (tab30 k)) Tryd.f172.ntmps 0 (strconv_FormatInt.kr w0 k) strconv_FormatInt.b16 (entK (cfg w0 (tab30 k)) 0 [0, 5, 6] [] io33.pat (strconv_FormatInt.L16 k)) :=
  join_ok (fine w0 hw _ (ok30 w0 hw k)) (dr w0 hw _ (ok30 w0 hw k)) (good_cuts (strconv_FormatInt.a16 w0 k) trivial) io33.ok (xn := strconv_FormatInt.x16) (L := strconv_FormatInt.L16 k) (strconv_FormatInt.s16 w0 k)
theorem strconv_FormatInt.sim (w0 : World) (hw : Wd w0) (k : Nat) : ∀ v x, (fun v => strconv_FormatInt k v.1 v.2) v = some x → Sim (cfg w0 (tab30 k)) 172 (io32.enc v).1 (io32.enc v).2 (io0.enc x).1 (io0.enc x).2 :=
  sim_of (c := (cfg w0 (tab30 k))) (fine w0 hw _ (ok30 w0 hw k)) (dr w0 hw _ (ok30 w0 hw k)) (i := io32) (o := io0) (ps := []) (cuts := fun _ => strconv_FormatInt.cuts w0 k) (m := 0) (g := fun v => strconv_FormatInt k v.1 v.2) Tryd.func172 (by kernel_rfl) strconv_FormatInt.hb (fun _ => rfl) (fun _ => Nat.le_of_ble_eq_true rfl) (good_cuts (strconv_FormatInt.a w0 k) ⟨fun f hf => by cases hf; exact strconv_FormatInt.so16 w0 hw k, trivial⟩) (strconv_FormatInt.e w0 k)
theorem ok31 (w0 : World) (hw : Wd w0) (k : Nat) : CfOk (cfg w0 (tab31 k)) := addTab_ok (ok30 w0 hw k) (strconv_FormatInt.sim w0 hw k)
theorem strconv_Itoa_v2.a (w0 : World) (k : Nat) : cutsAt (fun n => (strconv_Itoa_v2.cuts w0 k n).isSome) strconv_Itoa_v2.body = [] := by kernel_rfl
theorem strconv_Itoa_v2.sim (w0 : World) (hw : Wd w0) (k : Nat) : ∀ v x, (fun v => strconv_Itoa_v2 k v) v = some x → Sim (cfg w0 (tab31 k)) 128 (io24.enc v).1 (io24.enc v).2 (io0.enc x).1 (io0.enc x).2 :=
  sim_of (c := (cfg w0 (tab31 k))) (fine w0 hw _ (ok31 w0 hw k)) (dr w0 hw _ (ok31 w0 hw k)) (i := io24) (o := io0) (ps := []) (cuts := fun _ => strconv_Itoa_v2.cuts w0 k) (m := 0) (g := fun v => strconv_Itoa_v2 k v) Tryd.func128 (by kernel_rfl) strconv_Itoa_v2.hb (fun _ => rfl) (fun _ => Nat.le_of_ble_eq_true rfl) (good_cuts (strconv_Itoa_v2.a w0 k) trivial) (strconv_Itoa_v2.e w0 k)
theorem ok32 (w0 : World) (hw : Wd w0) (k : Nat) : CfOk (cfg w0 (tab32 k)) := addTab_ok (ok31 w0 hw k) (strconv_Itoa_v2.sim w0 hw k)
theorem strconv_Itoa.a (w0 : World) (k : Nat) : cutsAt (fun n => (strconv_Itoa.cuts w0 k n).isSome) strconv_Itoa.body = [] := by kernel_rfl
theorem strconv_Itoa.sim (w0 : World) (hw : Wd w0) (k : Nat) : ∀ v x, (fun v => strconv_Itoa k v) v = some x → Sim (cfg w0 (tab32 k)) 79 (io24.enc v).1 (io24.enc v).2 (io0.enc x).1 (io0.enc x).2 :=
  sim_of (c := (cfg w0 (tab32 k))) (fine w0 hw _ (ok32 w0 hw k)) (dr w0 hw _ (ok32 w0 hw k)) (i := io24) (o := io0) (ps := []) (cuts := fun _ => strconv_Itoa.cuts w0 k) (m := 0) (g := fun v => strconv_Itoa k v) Tryd.func79 (by kernel_rfl) strconv_Itoa.hb (fun _ => rfl) (fun _ => Nat.le_of_ble_eq_true rfl) (good_cuts (strconv_Itoa.a w0 k) trivial) (strconv_Itoa.e w0 k)
theorem ok33 (w0 : World) (hw : Wd w0) (k : Nat) : CfOk (cfg w0 (tab33 k)) := addTab_ok (ok32 w0 hw k) (strconv_Itoa.sim w0 hw k)
theorem color_parts.a20 (w0 : World) (k : Nat) : cutsAt (fun n => (color_parts.cuts w0 k n).isSome) color_parts.b20 = [] := by kernel_rfl
theorem color_parts.a13 (w0 : World) (k : Nat) : cutsAt (fun n => (color_parts.cuts w0 k n).isSome) color_parts.b13 = [(20, color_parts.b20)] := by kernel_rfl
theorem color_parts.a8 (w0 : World) (k : Nat) : cutsAt (fun n => (color_parts.cuts w0 k n).isSome) color_parts.b8 = [(13, Code.loop color_parts.b13)] := by kernel_rfl
theorem color_parts.a (w0 : World) (k : Nat) : cutsAt (fun n => (color_parts.cuts w0 k n).isSome) color_parts.body = [(8, color_parts.b8)] := by kernel_rfl
theorem color_parts.so20 (w0 : World) (hw : Wd w0) (k : Nat) : Sound (cfg w0 (tab33 k)) Tryd.f67.ntmps 0 (color_parts.kr w0 k) color_parts.b20 (entK (cfg w0 (tab33 k)) 0 [4, 5, 7, 18, 19, 20] [] io34.pat (color_parts.L20 k)) :=
  join_ok (fine w0 hw _ (ok33 w0 hw k)) (dr w0 hw _ (ok33 w0 hw k)) (good_cuts (color_parts.a20 w0 k) trivial) io34.ok (xn := color_parts.x20) (L := color_parts.L20 k) (color_parts.s20 w0 k)
theorem color_parts.so13 (w0 : World) (hw : Wd w0) (k : Nat) : Sound (cfg w0 (tab33 k)) Tryd.f67.ntmps 0 (color_parts.kr w0 k) (.loop color_parts.b13) (entK (cfg w0 (tab33 k)) 0 [4, 5, 18, 19, 20] [] io35.pat (color_parts.L13 k k)) :=
  loop_ok (fine w0 hw _ (ok33 w0 hw k)) (dr w0 hw _ (ok33 w0 hw k)) (good_cuts (color_parts.a13 w0 k) ⟨fun f hf => by cases hf; exact color_parts.so20 w0 hw k, trivial⟩) io35.ok (xn := color_parts.x13) (L := color_parts.L13 k) (fun v K => rfl) (color_parts.s13 w0 k) k
theorem color_parts.so8 (w0 : World) (hw : Wd w0) (k : Nat) : Sound (cfg w0 (tab33 k)) Tryd.f67.ntmps 0 (color_parts.kr w0 k) color_parts.b8 (entK (cfg w0 (tab33 k)) 0 [4] [.own 4 9] io37.pat (color_parts.L8 k)) :=
  join_ok (fine w0 hw _ (ok33 w0 hw k)) (dr w0 hw _ (ok33 w0 hw k)) (good_cuts (color_parts.a8 w0 k) ⟨fun f hf => by cases hf; exact color_parts.so13 w0 hw k, trivial⟩) io37.ok (xn := color_parts.x8) (L := color_parts.L8 k) (color_parts.s8 w0 k)
theorem color_parts.sim (w0 : World) (hw : Wd w0) (k : Nat) : ∀ v x, (fun v => color_parts k v) v = some x → Sim (cfg w0 (tab33 k)) 67 (io0.enc v).1 (io0.enc v).2 (io3.enc x).1 (io3.enc x).2 :=
  sim_of (c := (cfg w0 (tab33 k))) (fine w0 hw _ (ok33 w0 hw k)) (dr w0 hw _ (ok33 w0 hw k)) (i := io0) (o := io3) (ps := []) (cuts := fun _ => color_parts.cuts w0 k) (m := 0) (g := fun v => color_parts k v) Tryd.func67 (by kernel_rfl) color_parts.hb (fun _ => rfl) (fun _ => Nat.le_of_ble_eq_true rfl) (good_cuts (color_parts.a w0 k) ⟨fun f hf => by cases hf; exact color_parts.so8 w0 hw k, trivial⟩) (color_parts.e w0 k)
theorem ok34 (w0 : World) (hw : Wd w0) (k : Nat) : CfOk (cfg w0 (tab34 k)) := addTab_ok (ok33 w0 hw k) (color_parts.sim w0 hw k)
theorem color_Read.a28 (w0 : World) (k : Nat) : cutsAt (fun n => (color_Read.cuts w0 k n).isSome) color_Read.b28 = [] := by kernel_rfl
theorem color_Read.a (w0 : World) (k : Nat) : cutsAt (fun n => (color_Read.cuts w0 k n).isSome) color_Read.body = [(28, color_Read.b28)] := by kernel_rfl
theorem color_Read.so28 (w0 : World) (hw : Wd w0) (k : Nat) : Sound (cfg w0 (tab34 k)) Tryd.f32.ntmps 0 (color_Read.kr w0 k) color_Read.b28 (entK (cfg w0 (tab34 k)) 0 [6, 7] [] io3.pat (color_Read.L28 k)) :=
  join_ok (fine w0 hw _ (ok34 w0 hw k)) (dr w0 hw _ (ok34 w0 hw k)) (good_cuts (color_Read.a28 w0 k) trivial) io3.ok (xn := color_Read.x28) (L := color_Read.L28 k) (color_Read.s28 w0 k)
theorem color_Read.sim (w0 : World) (hw : Wd w0) (k : Nat) : ∀ v x, (fun v => color_Read k v) v = some x → Sim (cfg w0 (tab34 k)) 32 (io0.enc v).1 (io0.enc v).2 (io32.enc x).1 (io32.enc x).2 :=
  sim_of (c := (cfg w0 (tab34 k))) (fine w0 hw _ (ok34 w0 hw k)) (dr w0 hw _ (ok34 w0 hw k)) (i := io0) (o := io32) (ps := []) (cuts := fun _ => color_Read.cuts w0 k) (m := 0) (g := fun v => color_Read k v) Tryd.func32 (by kernel_rfl) color_Read.hb (fun _ => rfl) (fun _ => Nat.le_of_ble_eq_true rfl) (good_cuts (color_Read.a w0 k) ⟨fun f hf => by cases hf; exact color_Read.so28 w0 hw k, trivial⟩) (color_Read.e w0 k)
theorem ok35 (w0 : World) (hw : Wd w0) (k : Nat) : CfOk (cfg w0 (tab35 k)) := addTab_ok (ok34 w0 hw k) (color_Read.sim w0 hw k)
theorem clerestorykeep2_red.a (w0 : World) (k : Nat) : cutsAt (fun n => (clerestorykeep2_red.cuts w0 k n).isSome) clerestorykeep2_red.body = [] := by kernel_rfl
theorem clerestorykeep2_red.sim (w0 : World) (hw : Wd w0) (k : Nat) : ∀ v x, (fun v => clerestorykeep2_red k ) v = some x → Sim (cfg w0 (tab35 k)) 28 (io38.enc v).1 (io38.enc v).2 (io5.enc x).1 (io5.enc x).2 :=
  sim_of (c := (cfg w0 (tab35 k))) (fine w0 hw _ (ok35 w0 hw k)) (dr w0 hw _ (ok35 w0 hw k)) (i := io38) (o := io5) (ps := []) (cuts := fun _ => clerestorykeep2_red.cuts w0 k) (m := 0) (g := fun v => clerestorykeep2_red k ) Tryd.func28 (by kernel_rfl) clerestorykeep2_red.hb (fun _ => rfl) (fun _ => Nat.le_of_ble_eq_true rfl) (good_cuts (clerestorykeep2_red.a w0 k) trivial) (clerestorykeep2_red.e w0 k)
theorem ok36 (w0 : World) (hw : Wd w0) (k : Nat) : CfOk (cfg w0 (tab36 k)) := addTab_ok (ok35 w0 hw k) (clerestorykeep2_red.sim w0 hw k)
theorem color_part.a (w0 : World) (k : Nat) : cutsAt (fun n => (color_part.cuts w0 k n).isSome) color_part.body = [] := by kernel_rfl
theorem color_part.sim (w0 : World) (hw : Wd w0) (k : Nat) : ∀ v x, (fun v => color_part k v.1 v.2) v = some x → Sim (cfg w0 (tab36 k)) 59 (io32.enc v).1 (io32.enc v).2 (io24.enc x).1 (io24.enc x).2 :=
  sim_of (c := (cfg w0 (tab36 k))) (fine w0 hw _ (ok36 w0 hw k)) (dr w0 hw _ (ok36 w0 hw k)) (i := io32) (o := io24) (ps := []) (cuts := fun _ => color_part.cuts w0 k) (m := 0) (g := fun v => color_part k v.1 v.2) Tryd.func59 (by kernel_rfl) color_part.hb (fun _ => rfl) (fun _ => Nat.le_of_ble_eq_true rfl) (good_cuts (color_part.a w0 k) trivial) (color_part.e w0 k)
theorem ok37 (w0 : World) (hw : Wd w0) (k : Nat) : CfOk (cfg w0 (tab37 k)) := addTab_ok (ok36 w0 hw k) (color_part.sim w0 hw k)
theorem color_Fade.a (w0 : World) (k : Nat) : cutsAt (fun n => (color_Fade.cuts w0 k n).isSome) color_Fade.body = [] := by kernel_rfl
theorem color_Fade.sim (w0 : World) (hw : Wd w0) (k : Nat) : ∀ v x, (fun v => color_Fade k v.1 v.2) v = some x → Sim (cfg w0 (tab37 k)) 29 (io32.enc v).1 (io32.enc v).2 (io24.enc x).1 (io24.enc x).2 :=
  sim_of (c := (cfg w0 (tab37 k))) (fine w0 hw _ (ok37 w0 hw k)) (dr w0 hw _ (ok37 w0 hw k)) (i := io32) (o := io24) (ps := []) (cuts := fun _ => color_Fade.cuts w0 k) (m := 0) (g := fun v => color_Fade k v.1 v.2) Tryd.func29 (by kernel_rfl) color_Fade.hb (fun _ => rfl) (fun _ => Nat.le_of_ble_eq_true rfl) (good_cuts (color_Fade.a w0 k) trivial) (color_Fade.e w0 k)
theorem ok38 (w0 : World) (hw : Wd w0) (k : Nat) : CfOk (cfg w0 (tab38 k)) := addTab_ok (ok37 w0 hw k) (color_Fade.sim w0 hw k)
theorem clerestorykeep2_ColorClears.a (w0 : World) (k : Nat) : cutsAt (fun n => (clerestorykeep2_ColorClears.cuts w0 k n).isSome) clerestorykeep2_ColorClears.body = [] := by kernel_rfl
theorem clerestorykeep2_ColorClears.sim (w0 : World) (hw : Wd w0) (k : Nat) : ∀ v x, (fun v => clerestorykeep2_ColorClears k v.1 v.2.1 v.2.2) v = some x → Sim (cfg w0 (tab38 k)) 9 (io39.enc v).1 (io39.enc v).2 (io5.enc x).1 (io5.enc x).2 :=
  sim_of (c := (cfg w0 (tab38 k))) (fine w0 hw _ (ok38 w0 hw k)) (dr w0 hw _ (ok38 w0 hw k)) (i := io39) (o := io5) (ps := []) (cuts := fun _ => clerestorykeep2_ColorClears.cuts w0 k) (m := 0) (g := fun v => clerestorykeep2_ColorClears k v.1 v.2.1 v.2.2) Tryd.func9 (by kernel_rfl) clerestorykeep2_ColorClears.hb (fun _ => rfl) (fun _ => Nat.le_of_ble_eq_true rfl) (good_cuts (clerestorykeep2_ColorClears.a w0 k) trivial) (clerestorykeep2_ColorClears.e w0 k)
theorem ok39 (w0 : World) (hw : Wd w0) (k : Nat) : CfOk (cfg w0 (tab39 k)) := addTab_ok (ok38 w0 hw k) (clerestorykeep2_ColorClears.sim w0 hw k)
theorem color_Over.a15 (w0 : World) (k : Nat) : cutsAt (fun n => (color_Over.cuts w0 k n).isSome) color_Over.b15 = [] := by kernel_rfl
theorem color_Over.a (w0 : World) (k : Nat) : cutsAt (fun n => (color_Over.cuts w0 k n).isSome) color_Over.body = [(15, Code.loop color_Over.b15)] := by kernel_rfl
theorem color_Over.so15 (w0 : World) (hw : Wd w0) (k : Nat) : Sound (cfg w0 (tab39 k)) Tryd.f30.ntmps 0 (color_Over.kr w0 k) (.loop color_Over.b15) (entK (cfg w0 (tab39 k)) 0 [0, 1, 5, 6, 7, 8, 26, 27] [] io40.pat (color_Over.L15 k k)) :=
  loop_ok (fine w0 hw _ (ok39 w0 hw k)) (dr w0 hw _ (ok39 w0 hw k)) (good_cuts (color_Over.a15 w0 k) trivial) io40.ok (xn := color_Over.x15) (L := color_Over.L15 k) (fun v K => rfl) (color_Over.s15 w0 k) k
theorem color_Over.sim (w0 : World) (hw : Wd w0) (k : Nat) : ∀ v x, (fun v => color_Over k v.1 v.2) v = some x → Sim (cfg w0 (tab39 k)) 30 (io32.enc v).1 (io32.enc v).2 (io24.enc x).1 (io24.enc x).2 :=
  sim_of (c := (cfg w0 (tab39 k))) (fine w0 hw _ (ok39 w0 hw k)) (dr w0 hw _ (ok39 w0 hw k)) (i := io32) (o := io24) (ps := []) (cuts := fun _ => color_Over.cuts w0 k) (m := 0) (g := fun v => color_Over k v.1 v.2) Tryd.func30 (by kernel_rfl) color_Over.hb (fun _ => rfl) (fun _ => Nat.le_of_ble_eq_true rfl) (good_cuts (color_Over.a w0 k) ⟨fun f hf => by cases hf; exact color_Over.so15 w0 hw k, trivial⟩) (color_Over.e w0 k)
theorem ok40 (w0 : World) (hw : Wd w0) (k : Nat) : CfOk (cfg w0 (tab40 k)) := addTab_ok (ok39 w0 hw k) (color_Over.sim w0 hw k)
theorem clerestorykeep2_ColorHides.a23 (w0 : World) (k : Nat) : cutsAt (fun n => (clerestorykeep2_ColorHides.cuts w0 k n).isSome) clerestorykeep2_ColorHides.b23 = [] := by kernel_rfl
theorem clerestorykeep2_ColorHides.a (w0 : World) (k : Nat) : cutsAt (fun n => (clerestorykeep2_ColorHides.cuts w0 k n).isSome) clerestorykeep2_ColorHides.body = [(23, Code.loop clerestorykeep2_ColorHides.b23)] := by kernel_rfl
theorem clerestorykeep2_ColorHides.so23 (w0 : World) (hw : Wd w0) (k : Nat) : Sound (cfg w0 (tab40 k)) Tryd.f10.ntmps 0 (clerestorykeep2_ColorHides.kr w0 k) (.loop clerestorykeep2_ColorHides.b23) (entK (cfg w0 (tab40 k)) 0 [0, 1, 5, 7, 8] [] io41.pat (clerestorykeep2_ColorHides.L23 k k)) :=
  loop_ok (fine w0 hw _ (ok40 w0 hw k)) (dr w0 hw _ (ok40 w0 hw k)) (good_cuts (clerestorykeep2_ColorHides.a23 w0 k) trivial) io41.ok (xn := clerestorykeep2_ColorHides.x23) (L := clerestorykeep2_ColorHides.L23 k) (fun v K => rfl) (clerestorykeep2_ColorHides.s23 w0 k) k
theorem clerestorykeep2_ColorHides.sim (w0 : World) (hw : Wd w0) (k : Nat) : ∀ v x, (fun v => clerestorykeep2_ColorHides k v.1 v.2) v = some x → Sim (cfg w0 (tab40 k)) 10 (io32.enc v).1 (io32.enc v).2 (io5.enc x).1 (io5.enc x).2 :=
  sim_of (c := (cfg w0 (tab40 k))) (fine w0 hw _ (ok40 w0 hw k)) (dr w0 hw _ (ok40 w0 hw k)) (i := io32) (o := io5) (ps := []) (cuts := fun _ => clerestorykeep2_ColorHides.cuts w0 k) (m := 0) (g := fun v => clerestorykeep2_ColorHides k v.1 v.2) Tryd.func10 (by kernel_rfl) clerestorykeep2_ColorHides.hb (fun _ => rfl) (fun _ => Nat.le_of_ble_eq_true rfl) (good_cuts (clerestorykeep2_ColorHides.a w0 k) ⟨fun f hf => by cases hf; exact clerestorykeep2_ColorHides.so23 w0 hw k, trivial⟩) (clerestorykeep2_ColorHides.e w0 k)
theorem ok41 (w0 : World) (hw : Wd w0) (k : Nat) : CfOk (cfg w0 (tab41 k)) := addTab_ok (ok40 w0 hw k) (clerestorykeep2_ColorHides.sim w0 hw k)
end
end Go.Ev.Co
