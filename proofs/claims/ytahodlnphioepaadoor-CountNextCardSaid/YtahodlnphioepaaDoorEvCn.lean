/- A part of the evaluator of Go code over small heaps and of its proof: no condition beyond those that each theorem names. -/
import Derived.Test.YtahodlnphioepaaDoorEvLib
import Derived.Test.YtahodlnphioepaaDoorEvShB
import Derived.Test.YtahodlnphioepaaDoorProg
import Derived.KernelRfl
set_option linter.unusedVariables false
set_option maxRecDepth 100000
namespace Go.Ev.Cn
noncomputable section
open Go.Proofs Go.Ev

structure S140 where
  n : Int
  s : List UInt8
def S140.d : S140 := ⟨0, []⟩
def base : TypeId → (α : Type) × α
  | 5 => ⟨Int, (0 : Int)⟩
  | 140 => ⟨S140, S140.d⟩
  | _ => ⟨Unit, ()⟩
def T (t : TypeId) : Type := (base t).1
def dflt (t : TypeId) : T t := (base t).2
def dl (t : TypeId) : D T → Option (List (T t))
  | .l t' xs => asT t t' xs
  | .ns => some []
  | _ => none
theorem dl_le {t : TypeId} {d : D T} {l : List (T t)} (h : dl t d = some l) : leD d (.l t l) := by
  unfold dl at h
  split at h
  · rw [asT_l h]; exact .refl _
  · cases h; exact .ns _
  · cases h
def enc5 (x : Int) : List (D T) := [.i .u8 x]
def dec5 (ds : List (D T)) : Option (Int) := match ds with
  | [.i .u8 x0] => some x0
  | _ => none
theorem dec5_ok {ds : List (D T)} {x : Int} (h : dec5 ds = some x) : leDs ds (enc5 x) := by
  unfold dec5 at h
  split at h
  · cases h
    exact .cons (.refl _) <| .nil
  · cases h
def enc140 (x : S140) : List (D T) := [.i .i64 x.n, .s x.s]
def dec140 (ds : List (D T)) : Option (S140) := match ds with
  | [.i .i64 x0, .s x1] => some ⟨x0, x1⟩
  | _ => none
theorem dec140_ok {ds : List (D T)} {x : S140} (h : dec140 ds = some x) : leDs ds (enc140 x) := by
  unfold dec140 at h
  split at h
  · cases h
    exact .cons (.refl _) <| .cons (.refl _) <| .nil
  · cases h
def enc : (t : TypeId) → T t → List (D T)
  | 5, x => enc5 x
  | 140, x => enc140 x
  | _, _ => []
def dec (t : TypeId) (ds : List (D T)) : Option (T t) := if h : t = 5 then (h ▸ (dec5 ds : Option (T 5))) else if h : t = 140 then (h ▸ (dec140 ds : Option (T 140))) else none
theorem dec_ok (t : TypeId) (ds : List (D T)) (x : T t) (h : dec t ds = some x) : leDs ds (enc t x) := by
  unfold dec at h
  by_cases h5 : t = 5
  · subst h5; exact dec5_ok (show dec5 ds = some x from h)
  rw [dif_neg h5] at h
  by_cases h140 : t = 140
  · subst h140; exact dec140_ok (show dec140 ds = some x from h)
  rw [dif_neg h140] at h
  cases h
def knl : List TypeId := [5, 140]

def ofB : (t : TypeId) → List UInt8 → List (T t)
  | 5, l => bytesI l
  | _, _ => []
def toB : (t : TypeId) → List (T t) → List UInt8
  | 5, l => bytesU l
  | _, _ => []
def cod : Cod T := ⟨fun t => knl.any (·.beq t), enc, dec, dflt, ofB, toB⟩
def gv : Nat → Option (List (D T))
  | _ => none
def eql : List TypeId := []
def hdl : List FuncId := [96]
def cfg (w0 : World) (t : Tab T) : Cfg T := ⟨Tryd.prog, cod, t, fun t => eql.any (·.beq t), w0, gv, 74, 5, fun f => hdl.any (·.beq f)⟩
/-- What is asked of the first world. -/
structure Wd (w0 : World) : Prop where
  gv : GvOk (cfg w0 noTab)
  pw : Lib.TabIs Tryd.prog w0 "internal/strconv.uint64pow10" .u64 Lib.pow10Tab

theorem mem_of {l : List TypeId} {t : TypeId} (h : l.any (·.beq t) = true) : t ∈ l := by
  rw [List.any_eq_true] at h
  obtain ⟨x, hx, hb⟩ := h
  rw [← Nat.eq_of_beq_eq_true hb]; exact hx
theorem len5 : 1 = Tryd.prog.cellsOf 5 := by kernel_rfl
theorem len140 : 2 = Tryd.prog.cellsOf 140 := by kernel_rfl
theorem u8_140 : isU8 Tryd.prog 140 = false := by kernel_rfl
theorem zr5 : zeroShape Tryd.prog 5 = true ∧ ∃ ds, zeroCells (T := T) Tryd.prog 5 = some (ofDs ds) ∧ leDs ds (enc5 (0 : Int)) := ⟨by kernel_rfl, [.i .u8 (0 : Int)], by kernel_rfl, .cons (.refl _) <| .nil⟩
theorem zr140 : zeroShape Tryd.prog 140 = true ∧ ∃ ds, zeroCells (T := T) Tryd.prog 140 = some (ofDs ds) ∧ leDs ds (enc140 S140.d) := ⟨by kernel_rfl, [.i .i64 (0 : Int), .s ([])], by kernel_rfl, .cons (.refl _) <| .cons (.refl _) <| .nil⟩
theorem fl : Tryd.prog.follows .mixedOrders = true := by kernel_rfl
theorem bytesOk (w0 : World) (t : Tab T) : BytesOk (cfg w0 t) := fun e h1 h2 => by
  have hm := mem_of (l := knl) h2
  simp only [knl, List.mem_cons, List.not_mem_nil, or_false] at hm
  rcases hm with rfl | rfl
  · exact ⟨fun l => by induction l with
      | nil => rfl
      | cons b l ih => exact congrArg (List.cons _) ih, fun xs => ⟨xs, rfl, rfl⟩⟩
  · exact absurd h1 (by rw [show isU8 (cfg w0 _).P 140 = false from u8_140]; exact Bool.false_ne_true)
theorem fine (w0 : World) (hw : Wd w0) (t : Tab T) (h : CfOk (cfg w0 t)) : Fine (cfg w0 t) where
  gv := hw.gv
  bytes := bytesOk w0 t
  cod := by
    refine ⟨fun t ht x => ?_, fun t ds x h => ?_⟩
    · have hm := mem_of (l := knl) ht
      simp only [knl, List.mem_cons, List.not_mem_nil, or_false] at hm
      rcases hm with rfl | rfl
      · exact len5
      · exact len140
    · exact dec_ok t ds x h
  zero := fun t ht => by
    have hm := mem_of (l := knl) ht
    simp only [knl, List.mem_cons, List.not_mem_nil, or_false] at hm
    rcases hm with rfl | rfl
    · exact zr5
    · exact zr140
  eqk := fun t h => by
    cases h
  flat := fun t hf hk x d hd => by
    have hm := mem_of (l := knl) hk
    simp only [knl, List.mem_cons, List.not_mem_nil, or_false] at hm
    rcases hm with rfl | rfl
    · have hd : d ∈ enc5 x := hd
      simp only [enc5, List.mem_cons, List.not_mem_nil, or_false] at hd
      rcases hd with rfl <;> rfl
    · have hd : d ∈ enc140 x := hd
      simp only [enc140, List.mem_cons, List.not_mem_nil, or_false] at hd
      rcases hd with rfl | rfl <;> rfl
  cf := h
theorem dr (w0 : World) (hw : Wd w0) (t : Tab T) (h : CfOk (cfg w0 t)) : DrawOk (cfg w0 t) := drawOk_ok (fine w0 hw t h) fl
def io0 : Io T (Int × Int × Int) where
  enc v := ([.d (.i .i64 v.1), .d (.i .i64 v.2.1), .d (.i .i64 v.2.2)], [])
  pat
    | ([.d (.i .i64 p1), .d (.i .i64 p2), .d (.i .i64 p3)], []) => some (p1, p2, p3)
    | _ => none
  ok z v h := by
    split at h
    · cases h
      all_goals rfl
    · cases h
def io1 : Io T (Bool) where
  enc v := ([.d (.b v)], [])
  pat
    | ([.d (.b p1)], []) => some p1
    | _ => none
  ok z v h := by
    split at h
    · cases h
      all_goals rfl
    · cases h
def io2 : Io T (Unit) where
  enc v := ([.d .ns], [])
  pat
    | ([.d .ns], []) => some ()
    | _ => none
  ok z v h := by
    split at h
    · cases h
      all_goals rfl
    · cases h
def io3 : Io T (Unit) where
  enc v := ([], [])
  pat
    | ([], []) => some ()
    | _ => none
  ok z v h := by
    split at h <;> cases h; rfl
def io4 : Io T (Int × Int) where
  enc v := ([.d .ns, .d (.i .i64 v.1), .d (.i .i64 v.2)], [])
  pat
    | ([.d .ns, .d (.i .i64 p1), .d (.i .i64 p2)], []) => some (p1, p2)
    | _ => none
  ok z v h := by
    split at h
    · cases h
      all_goals rfl
    · cases h
def io5 : Io T (List Int) where
  enc v := ([.sl 0 none], [.arr 5 v])
  pat
    | ([.sl 0 none], [.arr tp1 p1]) => (asT 5 tp1 p1).bind fun q1 => some q1
    | _ => none
  ok z v h := by
    split at h
    · obtain ⟨q1, hp1, h⟩ := Option.bind_eq_some_iff.1 h
      cases h
      rw [asT_a hp1]
      all_goals rfl
    · cases h
def io6 : Io T (List Int) where
  enc v := ([], [.arr 5 v])
  pat
    | ([], [.arr tp1 p1]) => (asT 5 tp1 p1).bind fun q1 => some q1
    | _ => none
  ok z v h := by
    split at h
    · obtain ⟨q1, hp1, h⟩ := Option.bind_eq_some_iff.1 h
      cases h
      rw [asT_a hp1]
      all_goals rfl
    · cases h
def io7 : Io T (Int × Int × (List Int)) where
  enc v := ([.sl 0 none, .d (.i .i64 v.1), .d (.i .i64 v.2.1)], [.arr 5 v.2.2])
  pat
    | ([.sl 0 none, .d (.i .i64 p1), .d (.i .i64 p2)], [.arr tp3 p3]) => (asT 5 tp3 p3).bind fun q3 => some (p1, p2, q3)
    | _ => none
  ok z v h := by
    split at h
    · obtain ⟨q3, hp3, h⟩ := Option.bind_eq_some_iff.1 h
      cases h
      rw [asT_a hp3]
      all_goals rfl
    · cases h
def io8 : Io T (Int) where
  enc v := ([.d (.i .i64 v)], [])
  pat
    | ([.d (.i .i64 p1)], []) => some p1
    | _ => none
  ok z v h := by
    split at h
    · cases h
      all_goals rfl
    · cases h
def io9 : Io T (List UInt8) where
  enc v := ([.d (.s v)], [])
  pat
    | ([.d (.s p1)], []) => some p1
    | _ => none
  ok z v h := by
    split at h
    · cases h
      all_goals rfl
    · cases h
def io10 : Io T (Int × (List Int)) where
  enc v := ([.d (.i .i64 v.1), .sl 0 none], [.arr 5 v.2])
  pat
    | ([.d (.i .i64 p1), .sl 0 none], [.arr tp2 p2]) => (asT 5 tp2 p2).bind fun q2 => some (p1, q2)
    | _ => none
  ok z v h := by
    split at h
    · obtain ⟨q2, hp2, h⟩ := Option.bind_eq_some_iff.1 h
      cases h
      rw [asT_a hp2]
      all_goals rfl
    · cases h
def io11 : Io T (Int × (List UInt8)) where
  enc v := ([.bp 0, .d (.i .i64 v.1)], [.bl v.2])
  pat
    | ([.bp 0, .d (.i .i64 p1)], [.bl p2]) => some (p1, p2)
    | _ => none
  ok z v h := by
    split at h
    · cases h
      all_goals rfl
    · cases h
def io12 : Io T (List UInt8) where
  enc v := ([], [.bl v])
  pat
    | ([], [.bl p1]) => some p1
    | _ => none
  ok z v h := by
    split at h
    · cases h
      all_goals rfl
    · cases h
def io13 : Io T ((List UInt8) × (List UInt8)) where
  enc v := ([.bp 0, .d (.s v.1)], [.bl v.2])
  pat
    | ([.bp 0, .d (.s p1)], [.bl p2]) => some (p1, p2)
    | _ => none
  ok z v h := by
    split at h
    · cases h
      all_goals rfl
    · cases h
def io14 : Io T (Int × (List UInt8)) where
  enc v := ([.d (.i .i64 v.1), .d .ni], [.bl v.2])
  pat
    | ([.d (.i .i64 p1), .d .ni], [.bl p2]) => some (p1, p2)
    | _ => none
  ok z v h := by
    split at h
    · cases h
      all_goals rfl
    · cases h
def io15 : Io T (Int × (List UInt8)) where
  enc v := ([.bp 0, .d (.i .u8 v.1)], [.bl v.2])
  pat
    | ([.bp 0, .d (.i .u8 p1)], [.bl p2]) => some (p1, p2)
    | _ => none
  ok z v h := by
    split at h
    · cases h
      all_goals rfl
    · cases h
def io16 : Io T (List UInt8) where
  enc v := ([.d .ni], [.bl v])
  pat
    | ([.d .ni], [.bl p1]) => some p1
    | _ => none
  ok z v h := by
    split at h
    · cases h
      all_goals rfl
    · cases h
def io17 : Io T (List UInt8) where
  enc v := ([.bp 0], [.bl v])
  pat
    | ([.bp 0], [.bl p1]) => some p1
    | _ => none
  ok z v h := by
    split at h
    · cases h
      all_goals rfl
    · cases h
def io18 : Io T ((List UInt8) × (List UInt8)) where
  enc v := ([.d (.s v.1)], [.bl v.2])
  pat
    | ([.d (.s p1)], [.bl p2]) => some (p1, p2)
    | _ => none
  ok z v h := by
    split at h
    · cases h
      all_goals rfl
    · cases h
def io19 : Io T ((List UInt8) × Bool × Bool × Int) where
  enc v := ([.d (.s v.1), .d (.b v.2.1), .d (.b v.2.2.1), .d (.i .i64 v.2.2.2)], [])
  pat
    | ([.d (.s p1), .d (.b p2), .d (.b p3), .d (.i .i64 p4)], []) => some (p1, p2, p3, p4)
    | _ => none
  ok z v h := by
    split at h
    · cases h
      all_goals rfl
    · cases h
def io20 : Io T ((List UInt8) × Bool × Bool) where
  enc v := ([.d (.s v.1), .d (.b v.2.1), .d (.b v.2.2)], [])
  pat
    | ([.d (.s p1), .d (.b p2), .d (.b p3)], []) => some (p1, p2, p3)
    | _ => none
  ok z v h := by
    split at h
    · cases h
      all_goals rfl
    · cases h
def io21 : Io T ((List UInt8) × Int × Int × (List UInt8)) where
  enc v := ([.d (.s v.1), .bp 0, .d (.i .i64 v.2.1), .d (.i .u8 v.2.2.1)], [.bl v.2.2.2])
  pat
    | ([.d (.s p1), .bp 0, .d (.i .i64 p2), .d (.i .u8 p3)], [.bl p4]) => some (p1, p2, p3, p4)
    | _ => none
  ok z v h := by
    split at h
    · cases h
      all_goals rfl
    · cases h
def io22 : Io T ((List UInt8) × Int × Int × (List UInt8)) where
  enc v := ([.d (.s v.1), .bp 0, .d (.i .i64 v.2.1), .d (.i .i64 v.2.2.1)], [.bl v.2.2.2])
  pat
    | ([.d (.s p1), .bp 0, .d (.i .i64 p2), .d (.i .i64 p3)], [.bl p4]) => some (p1, p2, p3, p4)
    | _ => none
  ok z v h := by
    split at h
    · cases h
      all_goals rfl
    · cases h
def io23 : Io T ((List UInt8) × Int × (List UInt8)) where
  enc v := ([.d (.s v.1), .bp 0, .d (.i .i64 v.2.1)], [.bl v.2.2])
  pat
    | ([.d (.s p1), .bp 0, .d (.i .i64 p2)], [.bl p3]) => some (p1, p2, p3)
    | _ => none
  ok z v h := by
    split at h
    · cases h
      all_goals rfl
    · cases h
def io24 : Io T (Int × Int × (List UInt8) × Int × (List UInt8) × Int × (List UInt8) × Int × (List UInt8) × Int × (List UInt8) × Int × (List UInt8) × Int × (List UInt8) × Int × (List UInt8) × Int × (List UInt8) × Int × (List UInt8) × Int × (List UInt8) × Int × (List UInt8) × Int × (List UInt8) × Int × (List UInt8) × Int × (List UInt8)) where
  enc v := ([.d (.i .i64 v.1), .bp 0, .ptr 1 0, .agg [.d (.i .i64 v.2.1), .d (.s v.2.2.1), .d (.i .i64 v.2.2.2.1), .d (.s v.2.2.2.2.1), .d (.i .i64 v.2.2.2.2.2.1), .d (.s v.2.2.2.2.2.2.1), .d (.i .i64 v.2.2.2.2.2.2.2.1), .d (.s v.2.2.2.2.2.2.2.2.1), .d (.i .i64 v.2.2.2.2.2.2.2.2.2.1), .d (.s v.2.2.2.2.2.2.2.2.2.2.1), .d (.i .i64 v.2.2.2.2.2.2.2.2.2.2.2.1), .d (.s v.2.2.2.2.2.2.2.2.2.2.2.2.1), .d (.i .i64 v.2.2.2.2.2.2.2.2.2.2.2.2.2.1), .d (.s v.2.2.2.2.2.2.2.2.2.2.2.2.2.2.1), .d (.i .i64 v.2.2.2.2.2.2.2.2.2.2.2.2.2.2.2.1), .d (.s v.2.2.2.2.2.2.2.2.2.2.2.2.2.2.2.2.1), .d (.i .i64 v.2.2.2.2.2.2.2.2.2.2.2.2.2.2.2.2.2.1), .d (.s v.2.2.2.2.2.2.2.2.2.2.2.2.2.2.2.2.2.2.1), .d (.i .i64 v.2.2.2.2.2.2.2.2.2.2.2.2.2.2.2.2.2.2.2.1), .d (.s v.2.2.2.2.2.2.2.2.2.2.2.2.2.2.2.2.2.2.2.2.1), .d (.i .i64 v.2.2.2.2.2.2.2.2.2.2.2.2.2.2.2.2.2.2.2.2.2.1), .d (.s v.2.2.2.2.2.2.2.2.2.2.2.2.2.2.2.2.2.2.2.2.2.2.1), .d (.i .i64 v.2.2.2.2.2.2.2.2.2.2.2.2.2.2.2.2.2.2.2.2.2.2.2.1), .d (.s v.2.2.2.2.2.2.2.2.2.2.2.2.2.2.2.2.2.2.2.2.2.2.2.2.1), .d (.i .i64 v.2.2.2.2.2.2.2.2.2.2.2.2.2.2.2.2.2.2.2.2.2.2.2.2.2.1), .d (.s v.2.2.2.2.2.2.2.2.2.2.2.2.2.2.2.2.2.2.2.2.2.2.2.2.2.2.1)], .d (.i .i64 v.2.2.2.2.2.2.2.2.2.2.2.2.2.2.2.2.2.2.2.2.2.2.2.2.2.2.2.1)], [.bl v.2.2.2.2.2.2.2.2.2.2.2.2.2.2.2.2.2.2.2.2.2.2.2.2.2.2.2.2.1, .box [.d (.i .i64 v.2.2.2.2.2.2.2.2.2.2.2.2.2.2.2.2.2.2.2.2.2.2.2.2.2.2.2.2.2.1), .d (.s v.2.2.2.2.2.2.2.2.2.2.2.2.2.2.2.2.2.2.2.2.2.2.2.2.2.2.2.2.2.2)]])
  pat
    | ([.d (.i .i64 p1), .bp 0, .ptr 1 0, .agg [.d (.i .i64 p2), .d (.s p3), .d (.i .i64 p4), .d (.s p5), .d (.i .i64 p6), .d (.s p7), .d (.i .i64 p8), .d (.s p9), .d (.i .i64 p10), .d (.s p11), .d (.i .i64 p12), .d (.s p13), .d (.i .i64 p14), .d (.s p15), .d (.i .i64 p16), .d (.s p17), .d (.i .i64 p18), .d (.s p19), .d (.i .i64 p20), .d (.s p21), .d (.i .i64 p22), .d (.s p23), .d (.i .i64 p24), .d (.s p25), .d (.i .i64 p26), .d (.s p27)], .d (.i .i64 p28)], [.bl p29, .box [.d (.i .i64 p30), .d (.s p31)]]) => some (p1, p2, p3, p4, p5, p6, p7, p8, p9, p10, p11, p12, p13, p14, p15, p16, p17, p18, p19, p20, p21, p22, p23, p24, p25, p26, p27, p28, p29, p30, p31)
    | _ => none
  ok z v h := by
    split at h
    · cases h
      all_goals rfl
    · cases h
def io25 : Io T (Int × Int × (List UInt8) × Int × (List UInt8) × Int × (List UInt8) × Int × (List UInt8) × Int × (List UInt8) × Int × (List UInt8) × Int × (List UInt8) × Int × (List UInt8) × Int × (List UInt8) × Int × (List UInt8) × Int × (List UInt8) × Int × (List UInt8) × Int × (List UInt8) × Int × (List UInt8)) where
  enc v := ([.d (.i .i64 v.1), .bp 0, .agg [.d (.i .i64 v.2.1), .d (.s v.2.2.1), .d (.i .i64 v.2.2.2.1), .d (.s v.2.2.2.2.1), .d (.i .i64 v.2.2.2.2.2.1), .d (.s v.2.2.2.2.2.2.1), .d (.i .i64 v.2.2.2.2.2.2.2.1), .d (.s v.2.2.2.2.2.2.2.2.1), .d (.i .i64 v.2.2.2.2.2.2.2.2.2.1), .d (.s v.2.2.2.2.2.2.2.2.2.2.1), .d (.i .i64 v.2.2.2.2.2.2.2.2.2.2.2.1), .d (.s v.2.2.2.2.2.2.2.2.2.2.2.2.1), .d (.i .i64 v.2.2.2.2.2.2.2.2.2.2.2.2.2.1), .d (.s v.2.2.2.2.2.2.2.2.2.2.2.2.2.2.1), .d (.i .i64 v.2.2.2.2.2.2.2.2.2.2.2.2.2.2.2.1), .d (.s v.2.2.2.2.2.2.2.2.2.2.2.2.2.2.2.2.1), .d (.i .i64 v.2.2.2.2.2.2.2.2.2.2.2.2.2.2.2.2.2.1), .d (.s v.2.2.2.2.2.2.2.2.2.2.2.2.2.2.2.2.2.2.1), .d (.i .i64 v.2.2.2.2.2.2.2.2.2.2.2.2.2.2.2.2.2.2.2.1), .d (.s v.2.2.2.2.2.2.2.2.2.2.2.2.2.2.2.2.2.2.2.2.1), .d (.i .i64 v.2.2.2.2.2.2.2.2.2.2.2.2.2.2.2.2.2.2.2.2.2.1), .d (.s v.2.2.2.2.2.2.2.2.2.2.2.2.2.2.2.2.2.2.2.2.2.2.1), .d (.i .i64 v.2.2.2.2.2.2.2.2.2.2.2.2.2.2.2.2.2.2.2.2.2.2.2.1), .d (.s v.2.2.2.2.2.2.2.2.2.2.2.2.2.2.2.2.2.2.2.2.2.2.2.2.1), .d (.i .i64 v.2.2.2.2.2.2.2.2.2.2.2.2.2.2.2.2.2.2.2.2.2.2.2.2.2.1), .d (.s v.2.2.2.2.2.2.2.2.2.2.2.2.2.2.2.2.2.2.2.2.2.2.2.2.2.2.1)], .d (.i .i64 v.2.2.2.2.2.2.2.2.2.2.2.2.2.2.2.2.2.2.2.2.2.2.2.2.2.2.2.1)], [.bl v.2.2.2.2.2.2.2.2.2.2.2.2.2.2.2.2.2.2.2.2.2.2.2.2.2.2.2.2])
  pat
    | ([.d (.i .i64 p1), .bp 0, .agg [.d (.i .i64 p2), .d (.s p3), .d (.i .i64 p4), .d (.s p5), .d (.i .i64 p6), .d (.s p7), .d (.i .i64 p8), .d (.s p9), .d (.i .i64 p10), .d (.s p11), .d (.i .i64 p12), .d (.s p13), .d (.i .i64 p14), .d (.s p15), .d (.i .i64 p16), .d (.s p17), .d (.i .i64 p18), .d (.s p19), .d (.i .i64 p20), .d (.s p21), .d (.i .i64 p22), .d (.s p23), .d (.i .i64 p24), .d (.s p25), .d (.i .i64 p26), .d (.s p27)], .d (.i .i64 p28)], [.bl p29]) => some (p1, p2, p3, p4, p5, p6, p7, p8, p9, p10, p11, p12, p13, p14, p15, p16, p17, p18, p19, p20, p21, p22, p23, p24, p25, p26, p27, p28, p29)
    | _ => none
  ok z v h := by
    split at h
    · cases h
      all_goals rfl
    · cases h
def io26 : Io T (Int × Int) where
  enc v := ([.d (.i .i64 v.1), .d (.i .i64 v.2)], [])
  pat
    | ([.d (.i .i64 p1), .d (.i .i64 p2)], []) => some (p1, p2)
    | _ => none
  ok z v h := by
    split at h
    · cases h
      all_goals rfl
    · cases h
def io27 : Io T ((List UInt8) × Int) where
  enc v := ([.d (.s v.1), .d (.i .i64 v.2)], [])
  pat
    | ([.d (.s p1), .d (.i .i64 p2)], []) => some (p1, p2)
    | _ => none
  ok z v h := by
    split at h
    · cases h
      all_goals rfl
    · cases h
def tab0 (k : Nat) : Tab T := noTab
def count_in (k : Nat) (a1 : Int) (a2 : Int) (a3 : Int) : Option (Bool) :=
let v4 : Bool := (cond (decide (a1 ≥ a2)) (decide (a1 ≤ a3)) false)
some v4
def count_in.kr (w0 : World) (k : Nat) : St T → Option (Bool) := (retK (cfg w0 (tab0 k)) Tryd.f35.results.toList 0 [] io1.pat)
def count_in.cuts (w0 : World) (k : Nat) : Cuts T (Bool) := fun n => none
def count_in.body : Code := bodyOf Tryd.f35
theorem count_in.e (w0 : World) (k : Nat) : ∀ v, (fun v => count_in k v.1 v.2.1 v.2.2) v = runK (cfg w0 (tab0 k)) Tryd.f35.ntmps (count_in.kr w0 k) (annot (count_in.cuts w0 k) count_in.body) (entry (io0.enc v).1 (io0.enc v).2) (endK (count_in.kr w0 k)) := by
  intro v; kernel_rfl
theorem count_in.hb : Tryd.f35.body = some count_in.body := by kernel_rfl
def tab1 (k : Nat) : Tab T := addTab 35 (line io0 io1 false (fun v => count_in k v.1 v.2.1 v.2.2)) (tab0 k)
def slices_Reverse___byte_byte_.c3 (k : Nat) : Nat → Int → Int → (Option (Unit)) → Option (Unit)
  | 0, _, _, _ => none
  | n + 1, x2, x3, k0 =>
    cond (decide (x2 < x3)) (
    none) (
    k0)
def slices_Reverse___byte_byte_ (k : Nat)  : Option (Unit) :=
let v1 : Int := (IntKind.wrap .i64 (((0 : Nat) : Int) - (1 : Int)))
slices_Reverse___byte_byte_.c3 k k (0 : Int) v1 (
some ())
def slices_Reverse___byte_byte_.kr (w0 : World) (k : Nat) : St T → Option (Unit) := (retK (cfg w0 (tab1 k)) Tryd.f96.results.toList 0 [] io3.pat)
def slices_Reverse___byte_byte_.x3 : Ex → Option (List Nat × List Sp)
  | .exit 0 => some ([], [])
  | _ => none
def slices_Reverse___byte_byte_.L3 (k : Nat) (n : Nat) (v : Int × Int) (K : Ex → St T → Option (Unit)) : Option (Unit) := slices_Reverse___byte_byte_.c3 k n v.1 v.2 ( K (.exit 0) (mkSt [] (io3.enc ())))
def slices_Reverse___byte_byte_.cuts (w0 : World) (k : Nat) : Cuts T (Unit) := fun n => bif n.beq 3 then some (entK (cfg w0 (tab1 k)) 0 [0, 2, 3] [] io4.pat (slices_Reverse___byte_byte_.L3 k k)) else none
def slices_Reverse___byte_byte_.body : Code := bodyOf Tryd.f96
def slices_Reverse___byte_byte_.b3 : Code := findD 3 slices_Reverse___byte_byte_.body
theorem slices_Reverse___byte_byte_.s3 (w0 : World) (k : Nat) : ∀ n v K, slices_Reverse___byte_byte_.L3 k (n + 1) v K = runK (cfg w0 (tab1 k)) Tryd.f96.ntmps (slices_Reverse___byte_byte_.kr w0 k) (annot (slices_Reverse___byte_byte_.cuts w0 k) slices_Reverse___byte_byte_.b3) (mkSt [0, 2, 3] (io4.enc v)) (loopK (cfg w0 (tab1 k)) 0 slices_Reverse___byte_byte_.x3 (entK (cfg w0 (tab1 k)) 0 [0, 2, 3] [] io4.pat (slices_Reverse___byte_byte_.L3 k n)) K) := by
  intro n v K; kernel_rfl
theorem slices_Reverse___byte_byte_.e (w0 : World) (k : Nat) : ∀ v, (fun v => slices_Reverse___byte_byte_ k ) v = runK (cfg w0 (tab1 k)) Tryd.f96.ntmps (slices_Reverse___byte_byte_.kr w0 k) (annot (slices_Reverse___byte_byte_.cuts w0 k) slices_Reverse___byte_byte_.body) (entry (io2.enc v).1 (io2.enc v).2) (endK (slices_Reverse___byte_byte_.kr w0 k)) := by
  intro v; kernel_rfl
theorem slices_Reverse___byte_byte_.hb : Tryd.f96.body = some slices_Reverse___byte_byte_.body := by kernel_rfl
def tab2 (k : Nat) : Tab T := addTab 96 (line io2 io3 () (fun v => slices_Reverse___byte_byte_ k )) (tab1 k)
def slices_Reverse___byte_byte__v2.c3 (k : Nat) : Nat → Int → Int → (List Int) → ((List Int) → Option (List Int)) → Option (List Int)
  | 0, _, _, _, _ => none
  | n + 1, x3, x4, x5, k0 =>
    cond (decide (x3 < x4)) (
    cond (decide (0 ≤ x4 ∧ x4 < (x5.length : Int))) (
    cond (decide (0 ≤ x3 ∧ x3 < (x5.length : Int))) (
    cond (decide (0 ≤ x3 ∧ x3 < (x5.length : Int))) (
    let v6 : List Int := (x5.set x3.toNat (x5.getD x4.toNat (0 : Int)))
    cond (decide (0 ≤ x4 ∧ x4 < (v6.length : Int))) (
    let v7 : List Int := (v6.set x4.toNat (x5.getD x3.toNat (0 : Int)))
    let v8 : Int := (IntKind.wrap .i64 (x3 + (1 : Int)))
    let v9 : Int := (IntKind.wrap .i64 (x4 - (1 : Int)))
    slices_Reverse___byte_byte__v2.c3 k n v8 v9 v7 k0) none) none) none) none) (
    k0 x5)
def slices_Reverse___byte_byte__v2 (k : Nat) (a1 : List Int) : Option (List Int) :=
let v2 : Int := (IntKind.wrap .i64 ((a1.length : Int) - (1 : Int)))
slices_Reverse___byte_byte__v2.c3 k k (0 : Int) v2 a1 (fun (y10 : List Int) =>
some y10)
def slices_Reverse___byte_byte__v2.kr (w0 : World) (k : Nat) : St T → Option (List Int) := (retK (cfg w0 (tab2 k)) Tryd.f96.results.toList 1 [] io6.pat)
def slices_Reverse___byte_byte__v2.x3 : Ex → Option (List Nat × List Sp)
  | .exit 0 => some ([], [])
  | _ => none
def slices_Reverse___byte_byte__v2.L3 (k : Nat) (n : Nat) (v : Int × Int × (List Int)) (K : Ex → St T → Option (List Int)) : Option (List Int) := slices_Reverse___byte_byte__v2.c3 k n v.1 v.2.1 v.2.2 (fun y23 => K (.exit 0) (mkSt [] (io6.enc y23)))
def slices_Reverse___byte_byte__v2.cuts (w0 : World) (k : Nat) : Cuts T (List Int) := fun n => bif n.beq 3 then some (entK (cfg w0 (tab2 k)) 1 [0, 2, 3] [] io7.pat (slices_Reverse___byte_byte__v2.L3 k k)) else none
def slices_Reverse___byte_byte__v2.body : Code := bodyOf Tryd.f96
def slices_Reverse___byte_byte__v2.b3 : Code := findD 3 slices_Reverse___byte_byte__v2.body
theorem slices_Reverse___byte_byte__v2.s3 (w0 : World) (k : Nat) : ∀ n v K, slices_Reverse___byte_byte__v2.L3 k (n + 1) v K = runK (cfg w0 (tab2 k)) Tryd.f96.ntmps (slices_Reverse___byte_byte__v2.kr w0 k) (annot (slices_Reverse___byte_byte__v2.cuts w0 k) slices_Reverse___byte_byte__v2.b3) (mkSt [0, 2, 3] (io7.enc v)) (loopK (cfg w0 (tab2 k)) 1 slices_Reverse___byte_byte__v2.x3 (entK (cfg w0 (tab2 k)) 1 [0, 2, 3] [] io7.pat (slices_Reverse___byte_byte__v2.L3 k n)) K) := by
  intro n v K; kernel_rfl
theorem slices_Reverse___byte_byte__v2.e (w0 : World) (k : Nat) : ∀ v, (fun v => slices_Reverse___byte_byte__v2 k v) v = runK (cfg w0 (tab2 k)) Tryd.f96.ntmps (slices_Reverse___byte_byte__v2.kr w0 k) (annot (slices_Reverse___byte_byte__v2.cuts w0 k) slices_Reverse___byte_byte__v2.body) (entry (io5.enc v).1 (io5.enc v).2) (endK (slices_Reverse___byte_byte__v2.kr w0 k)) := by
  intro v; kernel_rfl
theorem slices_Reverse___byte_byte__v2.hb : Tryd.f96.body = some slices_Reverse___byte_byte__v2.body := by kernel_rfl
def tab3 (k : Nat) : Tab T := addTab 96 (line io5 io6 [] (fun v => slices_Reverse___byte_byte__v2 k v)) (tab2 k)
def count_letters.c5 (k : Nat) : Nat → Int → (List Int) → ((List Int) → Option (List UInt8)) → Option (List UInt8)
  | 0, _, _, _ => none
  | n + 1, x2, x3, k0 =>
    cond (decide (x2 > (0 : Int))) (
    let v4 : Int := (IntKind.wrap .i64 (x2 - (1 : Int)))
    cond ((26 : Int) != 0) (
    let v5 : Int := (IntKind.wrap .i64 ((97 : Int) + (Int.tmod v4 (26 : Int))))
    cond (decide ((x3 ++ ([(IntKind.wrap .u8 v5)])).length < most)) (
    let v6 : List Int := (x3 ++ ([(IntKind.wrap .u8 v5)]))
    let v7 : Int := (IntKind.wrap .i64 (x2 - (1 : Int)))
    cond ((26 : Int) != 0) (
    let v8 : Int := (IntKind.wrap .i64 (Int.tdiv v7 (26 : Int)))
    count_letters.c5 k n v8 v6 k0) none) none) none) (
    k0 x3)
def count_letters (k : Nat) (a1 : Int) : Option (List UInt8) :=
count_letters.c5 k k a1 ([] : List Int) (fun (y9 : List Int) =>
(slices_Reverse___byte_byte__v2 k y9).bind fun r10 =>
some (bytesU r10))
def count_letters.kr (w0 : World) (k : Nat) : St T → Option (List UInt8) := (retK (cfg w0 (tab3 k)) Tryd.f66.results.toList 0 [] io9.pat)
def count_letters.x5 : Ex → Option (List Nat × List Sp)
  | .exit 0 => some ([3], [.own 3 5])
  | _ => none
def count_letters.L5 (k : Nat) (n : Nat) (v : Int × (List Int)) (K : Ex → St T → Option (List UInt8)) : Option (List UInt8) := count_letters.c5 k n v.1 v.2 (fun y24 => K (.exit 0) (mkSt [3] (io5.enc y24)))
def count_letters.cuts (w0 : World) (k : Nat) : Cuts T (List UInt8) := fun n => bif n.beq 5 then some (entK (cfg w0 (tab3 k)) 0 [0, 3] [.own 3 5] io10.pat (count_letters.L5 k k)) else none
def count_letters.body : Code := bodyOf Tryd.f66
def count_letters.b5 : Code := findD 5 count_letters.body
theorem count_letters.s5 (w0 : World) (k : Nat) : ∀ n v K, count_letters.L5 k (n + 1) v K = runK (cfg w0 (tab3 k)) Tryd.f66.ntmps (count_letters.kr w0 k) (annot (count_letters.cuts w0 k) count_letters.b5) (mkSt [0, 3] (io10.enc v)) (loopK (cfg w0 (tab3 k)) 0 count_letters.x5 (entK (cfg w0 (tab3 k)) 0 [0, 3] [.own 3 5] io10.pat (count_letters.L5 k n)) K) := by
  intro n v K; kernel_rfl
theorem count_letters.e (w0 : World) (k : Nat) : ∀ v, (fun v => count_letters k v) v = runK (cfg w0 (tab3 k)) Tryd.f66.ntmps (count_letters.kr w0 k) (annot (count_letters.cuts w0 k) count_letters.body) (entry (io8.enc v).1 (io8.enc v).2) (endK (count_letters.kr w0 k)) := by
  intro v; kernel_rfl
theorem count_letters.hb : Tryd.f66.body = some count_letters.body := by kernel_rfl
def tab4 (k : Nat) : Tab T := addTab 66 (line io8 io9 [] (fun v => count_letters k v)) (tab3 k)
def f__strings_Builder__Grow (k : Nat) (a17 : Int) (a18 : List UInt8) : Option (List UInt8) := growS a18 a17
def tab5 (k : Nat) : Tab T := addTab 97 (line io11 io12 [] (fun v => f__strings_Builder__Grow k v.1 v.2)) (tab4 k)
def f__strings_Builder__WriteString (k : Nat) (a29 : List UInt8) (a30 : List UInt8) : Option (Int × (List UInt8)) := (wStr a30 a29).map fun s => ((a29.length : Int), s)
def tab6 (k : Nat) : Tab T := addTab 39 (line io13 io14 ((0 : Int), []) (fun v => f__strings_Builder__WriteString k v.1 v.2)) (tab5 k)
def f__strings_Builder__WriteByte (k : Nat) (a36 : Int) (a37 : List UInt8) : Option (List UInt8) := wByte a37 a36
def tab7 (k : Nat) : Tab T := addTab 98 (line io15 io16 [] (fun v => f__strings_Builder__WriteByte k v.1 v.2)) (tab6 k)
def f__strings_Builder__String (k : Nat) (a57 : List UInt8) : Option ((List UInt8) × (List UInt8)) := some (a57, a57)
def tab8 (k : Nat) : Tab T := addTab 43 (line io17 io18 ([], []) (fun v => f__strings_Builder__String k v)) (tab7 k)
def strings_ToUpper.c7 (k : Nat) : Nat → (List UInt8) → Bool → Bool → Int → ((List UInt8) → Bool → Bool → Option (List UInt8)) → Option (List UInt8)
  | 0, _, _, _, _, _ => none
  | n + 1, x2, x3, x4, x5, k0 =>
    let v6 : Bool := (decide (x5 < (x2.length : Int)))
    cond v6 (
    cond (decide (0 ≤ x5 ∧ x5 < (x2.length : Int))) (
    let v7 : Int := ((x2.getD x5.toNat 0).toNat : Int)
    cond (decide (v7 ≥ (128 : Int))) (
    k0 x2 false x4) (
    let v8 : Bool := (cond (decide ((97 : Int) ≤ v7)) (decide (v7 ≤ (122 : Int))) false)
    let v9 : Int := (IntKind.wrap .i64 (x5 + (1 : Int)))
    strings_ToUpper.c7 k n x2 x3 (cond x4 true v8) v9 k0)) none) (
    k0 x2 x3 x4)
def strings_ToUpper.c46 (k : Nat) (x27 : List UInt8) (x28 : Int) (x29 : Int) (x30 : List UInt8) (kn : (List UInt8) → Int → Int → (List UInt8) → Option (List UInt8)) : Option (List UInt8) :=
(f__strings_Builder__WriteByte k x29 x30).bind fun r31 =>
let v32 : Int := (IntKind.wrap .i64 (x28 + (1 : Int)))
kn x27 v32 x28 r31
def strings_ToUpper.c33 (k : Nat) : Nat → (List UInt8) → Int → Int → (List UInt8) → ((List UInt8) → Int → (List UInt8) → Option (List UInt8)) → Option (List UInt8)
  | 0, _, _, _, _, _ => none
  | n + 1, x17, x18, x19, x20, k2 =>
    let v21 : Bool := (decide (x19 < (x17.length : Int)))
    cond v21 (
    cond (decide (0 ≤ x19 ∧ x19 < (x17.length : Int))) (
    let v22 : Int := ((x17.getD x19.toNat 0).toNat : Int)
    let v23 : Bool := (cond (decide ((97 : Int) ≤ v22)) (decide (v22 ≤ (122 : Int))) false)
    cond v23 (
    let v24 : Int := (IntKind.wrap .u8 (v22 - (32 : Int)))
    cond (decide (x18 < x19)) (
    cond (decide (0 ≤ x18 ∧ x18 ≤ x19 ∧ x19 ≤ (x17.length : Int))) (
    let v25 : List UInt8 := ((x17.take x19.toNat).drop x18.toNat)
    (f__strings_Builder__WriteString k v25 x20).bind fun r26 =>
    strings_ToUpper.c46 k x17 x19 v24 r26.2 (fun (y33 : List UInt8) (y34 : Int) (y35 : Int) (y36 : List UInt8) =>
    let v37 : Int := (IntKind.wrap .i64 (y35 + (1 : Int)))
    strings_ToUpper.c33 k n y33 y34 v37 y36 k2)) none) (
    strings_ToUpper.c46 k x17 x19 v24 x20 (fun (y38 : List UInt8) (y39 : Int) (y40 : Int) (y41 : List UInt8) =>
    let v42 : Int := (IntKind.wrap .i64 (y40 + (1 : Int)))
    strings_ToUpper.c33 k n y38 y39 v42 y41 k2))) (
    let v43 : Int := (IntKind.wrap .i64 (x19 + (1 : Int)))
    strings_ToUpper.c33 k n x17 x18 v43 x20 k2)) none) (
    k2 x17 x18 x20)
def strings_ToUpper.c54 (k : Nat) (x49 : List UInt8)  : Option (List UInt8) :=
(f__strings_Builder__String k x49).bind fun r50 =>
some r50.1
def strings_ToUpper.c18 (k : Nat) (x13 : List UInt8) (x14 : Bool) (x15 : Bool)  : Option (List UInt8) :=
cond x14 (
cond (!x15) (
some x13) (
(f__strings_Builder__Grow k (x13.length : Int) ([] : List UInt8)).bind fun r16 =>
strings_ToUpper.c33 k k x13 (0 : Int) (0 : Int) r16 (fun (y44 : List UInt8) (y45 : Int) (y46 : List UInt8) =>
let v47 : Bool := (decide (y45 < (y44.length : Int)))
cond v47 (
cond (decide (0 ≤ y45 ∧ y45 ≤ (y44.length : Int))) (
(f__strings_Builder__WriteString k (y44.drop y45.toNat) y46).bind fun r48 =>
strings_ToUpper.c54 k r48.2) none) (
strings_ToUpper.c54 k y46)))) (
none)
def strings_ToUpper (k : Nat) (a1 : List UInt8) : Option (List UInt8) :=
strings_ToUpper.c7 k k a1 true false (0 : Int) (fun (y10 : List UInt8) (y11 : Bool) (y12 : Bool) =>
strings_ToUpper.c18 k y10 y11 y12)
def strings_ToUpper.kr (w0 : World) (k : Nat) : St T → Option (List UInt8) := (retK (cfg w0 (tab8 k)) Tryd.f67.results.toList 0 [] io9.pat)
def strings_ToUpper.x7 : Ex → Option (List Nat × List Sp)
  | .exit 0 => some ([0, 3, 4], [])
  | _ => none
def strings_ToUpper.L7 (k : Nat) (n : Nat) (v : (List UInt8) × Bool × Bool × Int) (K : Ex → St T → Option (List UInt8)) : Option (List UInt8) := strings_ToUpper.c7 k n v.1 v.2.1 v.2.2.1 v.2.2.2 (fun y25 y26 y27 => K (.exit 0) (mkSt [0, 3, 4] (io20.enc (y25, y26, y27))))
def strings_ToUpper.x46 : Ex → Option (List Nat × List Sp)
  | .norm => some ([0, 7, 8, 9], [])
  | _ => none
def strings_ToUpper.L46 (k : Nat) (v : (List UInt8) × Int × Int × (List UInt8)) (K : Ex → St T → Option (List UInt8)) : Option (List UInt8) := strings_ToUpper.c46 k v.1 v.2.1 v.2.2.1 v.2.2.2 (fun y28 y29 y30 y31 => K .norm (mkSt [0, 7, 8, 9] (io22.enc (y28, y29, y30, y31))))
def strings_ToUpper.x33 : Ex → Option (List Nat × List Sp)
  | .exit 2 => some ([0, 7, 8], [])
  | _ => none
def strings_ToUpper.L33 (k : Nat) (n : Nat) (v : (List UInt8) × Int × Int × (List UInt8)) (K : Ex → St T → Option (List UInt8)) : Option (List UInt8) := strings_ToUpper.c33 k n v.1 v.2.1 v.2.2.1 v.2.2.2 (fun y32 y33 y34 => K (.exit 2) (mkSt [0, 7, 8] (io23.enc (y32, y33, y34))))
def strings_ToUpper.x54 : Ex → Option (List Nat × List Sp)
  | _ => none
def strings_ToUpper.L54 (k : Nat) (v : List UInt8) (K : Ex → St T → Option (List UInt8)) : Option (List UInt8) := strings_ToUpper.c54 k v
def strings_ToUpper.x18 : Ex → Option (List Nat × List Sp)
  | _ => none
def strings_ToUpper.L18 (k : Nat) (v : (List UInt8) × Bool × Bool) (K : Ex → St T → Option (List UInt8)) : Option (List UInt8) := strings_ToUpper.c18 k v.1 v.2.1 v.2.2
def strings_ToUpper.cuts (w0 : World) (k : Nat) : Cuts T (List UInt8) := fun n => bif n.beq 7 then some (entK (cfg w0 (tab8 k)) 0 [0, 3, 4, 5] [] io19.pat (strings_ToUpper.L7 k k)) else bif n.beq 46 then some (entK (cfg w0 (tab8 k)) 0 [0, 7, 9, 10] [] io21.pat (strings_ToUpper.L46 k)) else bif n.beq 33 then some (entK (cfg w0 (tab8 k)) 0 [0, 7, 8, 9] [] io22.pat (strings_ToUpper.L33 k k)) else bif n.beq 54 then some (entK (cfg w0 (tab8 k)) 0 [7] [] io17.pat (strings_ToUpper.L54 k)) else bif n.beq 18 then some (entK (cfg w0 (tab8 k)) 0 [0, 3, 4] [] io20.pat (strings_ToUpper.L18 k)) else none
def strings_ToUpper.body : Code := bodyOf Tryd.f67
def strings_ToUpper.b7 : Code := findD 7 strings_ToUpper.body
theorem strings_ToUpper.s7 (w0 : World) (k : Nat) : ∀ n v K, strings_ToUpper.L7 k (n + 1) v K = runK (cfg w0 (tab8 k)) Tryd.f67.ntmps (strings_ToUpper.kr w0 k) (annot (strings_ToUpper.cuts w0 k) strings_ToUpper.b7) (mkSt [0, 3, 4, 5] (io19.enc v)) (loopK (cfg w0 (tab8 k)) 0 strings_ToUpper.x7 (entK (cfg w0 (tab8 k)) 0 [0, 3, 4, 5] [] io19.pat (strings_ToUpper.L7 k n)) K) := by
  intro n v K; kernel_rfl
def strings_ToUpper.b46 : Code := findD 46 strings_ToUpper.body
theorem strings_ToUpper.s46 (w0 : World) (k : Nat) : ∀ v K, strings_ToUpper.L46 k v K = runK (cfg w0 (tab8 k)) Tryd.f67.ntmps (strings_ToUpper.kr w0 k) (annot (strings_ToUpper.cuts w0 k) strings_ToUpper.b46) (mkSt [0, 7, 9, 10] (io21.enc v)) (outK (cfg w0 (tab8 k)) 0 strings_ToUpper.x46 K) := by
  intro v K; kernel_rfl
def strings_ToUpper.b33 : Code := findD 33 strings_ToUpper.body
theorem strings_ToUpper.s33 (w0 : World) (k : Nat) : ∀ n v K, strings_ToUpper.L33 k (n + 1) v K = runK (cfg w0 (tab8 k)) Tryd.f67.ntmps (strings_ToUpper.kr w0 k) (annot (strings_ToUpper.cuts w0 k) strings_ToUpper.b33) (mkSt [0, 7, 8, 9] (io22.enc v)) (loopK (cfg w0 (tab8 k)) 0 strings_ToUpper.x33 (entK (cfg w0 (tab8 k)) 0 [0, 7, 8, 9] [] io22.pat (strings_ToUpper.L33 k n)) K) := by
  intro n v K; kernel_rfl
def strings_ToUpper.b54 : Code := findD 54 strings_ToUpper.body
theorem strings_ToUpper.s54 (w0 : World) (k : Nat) : ∀ v K, strings_ToUpper.L54 k v K = runK (cfg w0 (tab8 k)) Tryd.f67.ntmps (strings_ToUpper.kr w0 k) (annot (strings_ToUpper.cuts w0 k) strings_ToUpper.b54) (mkSt [7] (io17.enc v)) (outK (cfg w0 (tab8 k)) 0 strings_ToUpper.x54 K) := by
  intro v K; kernel_rfl
def strings_ToUpper.b18 : Code := findD 18 strings_ToUpper.body
theorem strings_ToUpper.s18 (w0 : World) (k : Nat) : ∀ v K, strings_ToUpper.L18 k v K = runK (cfg w0 (tab8 k)) Tryd.f67.ntmps (strings_ToUpper.kr w0 k) (annot (strings_ToUpper.cuts w0 k) strings_ToUpper.b18) (mkSt [0, 3, 4] (io20.enc v)) (outK (cfg w0 (tab8 k)) 0 strings_ToUpper.x18 K) := by
  intro v K; kernel_rfl
theorem strings_ToUpper.e (w0 : World) (k : Nat) : ∀ v, (fun v => strings_ToUpper k v) v = runK (cfg w0 (tab8 k)) Tryd.f67.ntmps (strings_ToUpper.kr w0 k) (annot (strings_ToUpper.cuts w0 k) strings_ToUpper.body) (entry (io9.enc v).1 (io9.enc v).2) (endK (strings_ToUpper.kr w0 k)) := by
  intro v; kernel_rfl
theorem strings_ToUpper.hb : Tryd.f67.body = some strings_ToUpper.body := by kernel_rfl
def tab9 (k : Nat) : Tab T := addTab 67 (line io9 io9 [] (fun v => strings_ToUpper k v)) (tab8 k)
def count_roman.c11 (k : Nat) : Nat → Int → Int → (List UInt8) → Int → (List UInt8) → Int → (List UInt8) → Int → (List UInt8) → Int → (List UInt8) → Int → (List UInt8) → Int → (List UInt8) → Int → (List UInt8) → Int → (List UInt8) → Int → (List UInt8) → Int → (List UInt8) → Int → (List UInt8) → Int → (List UInt8) → Int → (List UInt8) → Int → (List UInt8) → (Int → Int → (List UInt8) → Int → (List UInt8) → Int → (List UInt8) → Int → (List UInt8) → Int → (List UInt8) → Int → (List UInt8) → Int → (List UInt8) → Int → (List UInt8) → Int → (List UInt8) → Int → (List UInt8) → Int → (List UInt8) → Int → (List UInt8) → Int → (List UInt8) → Int → (List UInt8) → Option (List UInt8)) → Option (List UInt8)
  | 0, _, _, _, _, _, _, _, _, _, _, _, _, _, _, _, _, _, _, _, _, _, _, _, _, _, _, _, _, _, _, _, _ => none
  | n + 1, x33, x34, x35, x36, x37, x38, x39, x40, x41, x42, x43, x44, x45, x46, x47, x48, x49, x50, x51, x52, x53, x54, x55, x56, x57, x58, x59, x60, x61, x62, x63, k2 =>
    cond (decide (x33 ≥ x62)) (
    (f__strings_Builder__WriteString k x63 x61).bind fun r64 =>
    let v65 : Int := (IntKind.wrap .i64 (x33 - x62))
    count_roman.c11 k n v65 x34 x35 x36 x37 x38 x39 x40 x41 x42 x43 x44 x45 x46 x47 x48 x49 x50 x51 x52 x53 x54 x55 x56 x57 x58 x59 x60 r64.2 x62 x63 k2) (
    k2 x33 x34 x35 x36 x37 x38 x39 x40 x41 x42 x43 x44 x45 x46 x47 x48 x49 x50 x51 x52 x53 x54 x55 x56 x57 x58 x59 x60 x61)
def count_roman.c7 (k : Nat) : Nat → Int → Int → (List UInt8) → Int → (List UInt8) → Int → (List UInt8) → Int → (List UInt8) → Int → (List UInt8) → Int → (List UInt8) → Int → (List UInt8) → Int → (List UInt8) → Int → (List UInt8) → Int → (List UInt8) → Int → (List UInt8) → Int → (List UInt8) → Int → (List UInt8) → Int → (List UInt8) → ((List UInt8) → Option (List UInt8)) → Option (List UInt8)
  | 0, _, _, _, _, _, _, _, _, _, _, _, _, _, _, _, _, _, _, _, _, _, _, _, _, _, _, _, _, _, _ => none
  | n + 1, x2, x3, x4, x5, x6, x7, x8, x9, x10, x11, x12, x13, x14, x15, x16, x17, x18, x19, x20, x21, x22, x23, x24, x25, x26, x27, x28, x29, x30, k0 =>
    cond (decide (x29 < (13 : Int))) (
    cond (decide (0 ≤ x29 ∧ x29 < ((13 : Nat) : Int))) (
    let v31 : Int := (([(⟨x3, x4⟩ : S140), (⟨x5, x6⟩ : S140), (⟨x7, x8⟩ : S140), (⟨x9, x10⟩ : S140), (⟨x11, x12⟩ : S140), (⟨x13, x14⟩ : S140), (⟨x15, x16⟩ : S140), (⟨x17, x18⟩ : S140), (⟨x19, x20⟩ : S140), (⟨x21, x22⟩ : S140), (⟨x23, x24⟩ : S140), (⟨x25, x26⟩ : S140), (⟨x27, x28⟩ : S140)]).getD x29.toNat S140.d).n
    let v32 : List UInt8 := (([(⟨x3, x4⟩ : S140), (⟨x5, x6⟩ : S140), (⟨x7, x8⟩ : S140), (⟨x9, x10⟩ : S140), (⟨x11, x12⟩ : S140), (⟨x13, x14⟩ : S140), (⟨x15, x16⟩ : S140), (⟨x17, x18⟩ : S140), (⟨x19, x20⟩ : S140), (⟨x21, x22⟩ : S140), (⟨x23, x24⟩ : S140), (⟨x25, x26⟩ : S140), (⟨x27, x28⟩ : S140)]).getD x29.toNat S140.d).s
    count_roman.c11 k k x2 x3 x4 x5 x6 x7 x8 x9 x10 x11 x12 x13 x14 x15 x16 x17 x18 x19 x20 x21 x22 x23 x24 x25 x26 x27 x28 x29 x30 v31 v32 (fun (y66 : Int) (y67 : Int) (y68 : List UInt8) (y69 : Int) (y70 : List UInt8) (y71 : Int) (y72 : List UInt8) (y73 : Int) (y74 : List UInt8) (y75 : Int) (y76 : List UInt8) (y77 : Int) (y78 : List UInt8) (y79 : Int) (y80 : List UInt8) (y81 : Int) (y82 : List UInt8) (y83 : Int) (y84 : List UInt8) (y85 : Int) (y86 : List UInt8) (y87 : Int) (y88 : List UInt8) (y89 : Int) (y90 : List UInt8) (y91 : Int) (y92 : List UInt8) (y93 : Int) (y94 : List UInt8) =>
    let v95 : Int := (IntKind.wrap .i64 (y93 + (1 : Int)))
    count_roman.c7 k n y66 y67 y68 y69 y70 y71 y72 y73 y74 y75 y76 y77 y78 y79 y80 y81 y82 y83 y84 y85 y86 y87 y88 y89 y90 y91 y92 v95 y94 k0)) none) (
    k0 x30)
def count_roman (k : Nat) (a1 : Int) : Option (List UInt8) :=
count_roman.c7 k k a1 (1000 : Int) ([109] : List UInt8) (900 : Int) ([99, 109] : List UInt8) (500 : Int) ([100] : List UInt8) (400 : Int) ([99, 100] : List UInt8) (100 : Int) ([99] : List UInt8) (90 : Int) ([120, 99] : List UInt8) (50 : Int) ([108] : List UInt8) (40 : Int) ([120, 108] : List UInt8) (10 : Int) ([120] : List UInt8) (9 : Int) ([105, 120] : List UInt8) (5 : Int) ([118] : List UInt8) (4 : Int) ([105, 118] : List UInt8) (1 : Int) ([105] : List UInt8) (0 : Int) ([] : List UInt8) (fun (y96 : List UInt8) =>
(f__strings_Builder__String k y96).bind fun r97 =>
some r97.1)
def count_roman.kr (w0 : World) (k : Nat) : St T → Option (List UInt8) := (retK (cfg w0 (tab9 k)) Tryd.f68.results.toList 0 [] io9.pat)
def count_roman.x11 : Ex → Option (List Nat × List Sp)
  | .exit 2 => some ([0, 3, 19, 20], [])
  | _ => none
def count_roman.L11 (k : Nat) (n : Nat) (v : Int × Int × (List UInt8) × Int × (List UInt8) × Int × (List UInt8) × Int × (List UInt8) × Int × (List UInt8) × Int × (List UInt8) × Int × (List UInt8) × Int × (List UInt8) × Int × (List UInt8) × Int × (List UInt8) × Int × (List UInt8) × Int × (List UInt8) × Int × (List UInt8) × Int × (List UInt8) × Int × (List UInt8)) (K : Ex → St T → Option (List UInt8)) : Option (List UInt8) := count_roman.c11 k n v.1 v.2.1 v.2.2.1 v.2.2.2.1 v.2.2.2.2.1 v.2.2.2.2.2.1 v.2.2.2.2.2.2.1 v.2.2.2.2.2.2.2.1 v.2.2.2.2.2.2.2.2.1 v.2.2.2.2.2.2.2.2.2.1 v.2.2.2.2.2.2.2.2.2.2.1 v.2.2.2.2.2.2.2.2.2.2.2.1 v.2.2.2.2.2.2.2.2.2.2.2.2.1 v.2.2.2.2.2.2.2.2.2.2.2.2.2.1 v.2.2.2.2.2.2.2.2.2.2.2.2.2.2.1 v.2.2.2.2.2.2.2.2.2.2.2.2.2.2.2.1 v.2.2.2.2.2.2.2.2.2.2.2.2.2.2.2.2.1 v.2.2.2.2.2.2.2.2.2.2.2.2.2.2.2.2.2.1 v.2.2.2.2.2.2.2.2.2.2.2.2.2.2.2.2.2.2.1 v.2.2.2.2.2.2.2.2.2.2.2.2.2.2.2.2.2.2.2.1 v.2.2.2.2.2.2.2.2.2.2.2.2.2.2.2.2.2.2.2.2.1 v.2.2.2.2.2.2.2.2.2.2.2.2.2.2.2.2.2.2.2.2.2.1 v.2.2.2.2.2.2.2.2.2.2.2.2.2.2.2.2.2.2.2.2.2.2.1 v.2.2.2.2.2.2.2.2.2.2.2.2.2.2.2.2.2.2.2.2.2.2.2.1 v.2.2.2.2.2.2.2.2.2.2.2.2.2.2.2.2.2.2.2.2.2.2.2.2.1 v.2.2.2.2.2.2.2.2.2.2.2.2.2.2.2.2.2.2.2.2.2.2.2.2.2.1 v.2.2.2.2.2.2.2.2.2.2.2.2.2.2.2.2.2.2.2.2.2.2.2.2.2.2.1 v.2.2.2.2.2.2.2.2.2.2.2.2.2.2.2.2.2.2.2.2.2.2.2.2.2.2.2.1 v.2.2.2.2.2.2.2.2.2.2.2.2.2.2.2.2.2.2.2.2.2.2.2.2.2.2.2.2.1 v.2.2.2.2.2.2.2.2.2.2.2.2.2.2.2.2.2.2.2.2.2.2.2.2.2.2.2.2.2.1 v.2.2.2.2.2.2.2.2.2.2.2.2.2.2.2.2.2.2.2.2.2.2.2.2.2.2.2.2.2.2 (fun y35 y36 y37 y38 y39 y40 y41 y42 y43 y44 y45 y46 y47 y48 y49 y50 y51 y52 y53 y54 y55 y56 y57 y58 y59 y60 y61 y62 y63 => K (.exit 2) (mkSt [0, 3, 19, 20] (io25.enc (y35, y36, y37, y38, y39, y40, y41, y42, y43, y44, y45, y46, y47, y48, y49, y50, y51, y52, y53, y54, y55, y56, y57, y58, y59, y60, y61, y62, y63))))
def count_roman.x7 : Ex → Option (List Nat × List Sp)
  | .exit 0 => some ([3], [])
  | _ => none
def count_roman.L7 (k : Nat) (n : Nat) (v : Int × Int × (List UInt8) × Int × (List UInt8) × Int × (List UInt8) × Int × (List UInt8) × Int × (List UInt8) × Int × (List UInt8) × Int × (List UInt8) × Int × (List UInt8) × Int × (List UInt8) × Int × (List UInt8) × Int × (List UInt8) × Int × (List UInt8) × Int × (List UInt8) × Int × (List UInt8)) (K : Ex → St T → Option (List UInt8)) : Option (List UInt8) := count_roman.c7 k n v.1 v.2.1 v.2.2.1 v.2.2.2.1 v.2.2.2.2.1 v.2.2.2.2.2.1 v.2.2.2.2.2.2.1 v.2.2.2.2.2.2.2.1 v.2.2.2.2.2.2.2.2.1 v.2.2.2.2.2.2.2.2.2.1 v.2.2.2.2.2.2.2.2.2.2.1 v.2.2.2.2.2.2.2.2.2.2.2.1 v.2.2.2.2.2.2.2.2.2.2.2.2.1 v.2.2.2.2.2.2.2.2.2.2.2.2.2.1 v.2.2.2.2.2.2.2.2.2.2.2.2.2.2.1 v.2.2.2.2.2.2.2.2.2.2.2.2.2.2.2.1 v.2.2.2.2.2.2.2.2.2.2.2.2.2.2.2.2.1 v.2.2.2.2.2.2.2.2.2.2.2.2.2.2.2.2.2.1 v.2.2.2.2.2.2.2.2.2.2.2.2.2.2.2.2.2.2.1 v.2.2.2.2.2.2.2.2.2.2.2.2.2.2.2.2.2.2.2.1 v.2.2.2.2.2.2.2.2.2.2.2.2.2.2.2.2.2.2.2.2.1 v.2.2.2.2.2.2.2.2.2.2.2.2.2.2.2.2.2.2.2.2.2.1 v.2.2.2.2.2.2.2.2.2.2.2.2.2.2.2.2.2.2.2.2.2.2.1 v.2.2.2.2.2.2.2.2.2.2.2.2.2.2.2.2.2.2.2.2.2.2.2.1 v.2.2.2.2.2.2.2.2.2.2.2.2.2.2.2.2.2.2.2.2.2.2.2.2.1 v.2.2.2.2.2.2.2.2.2.2.2.2.2.2.2.2.2.2.2.2.2.2.2.2.2.1 v.2.2.2.2.2.2.2.2.2.2.2.2.2.2.2.2.2.2.2.2.2.2.2.2.2.2.1 v.2.2.2.2.2.2.2.2.2.2.2.2.2.2.2.2.2.2.2.2.2.2.2.2.2.2.2.1 v.2.2.2.2.2.2.2.2.2.2.2.2.2.2.2.2.2.2.2.2.2.2.2.2.2.2.2.2 (fun y64 => K (.exit 0) (mkSt [3] (io17.enc y64)))
def count_roman.cuts (w0 : World) (k : Nat) : Cuts T (List UInt8) := fun n => bif n.beq 11 then some (entK (cfg w0 (tab9 k)) 0 [0, 3, 5, 19, 20] [] io24.pat (count_roman.L11 k k)) else bif n.beq 7 then some (entK (cfg w0 (tab9 k)) 0 [0, 3, 19, 20] [] io25.pat (count_roman.L7 k k)) else none
def count_roman.body : Code := bodyOf Tryd.f68
def count_roman.b11 : Code := findD 11 count_roman.body
theorem count_roman.s11 (w0 : World) (k : Nat) : ∀ n v K, count_roman.L11 k (n + 1) v K = runK (cfg w0 (tab9 k)) Tryd.f68.ntmps (count_roman.kr w0 k) (annot (count_roman.cuts w0 k) count_roman.b11) (mkSt [0, 3, 5, 19, 20] (io24.enc v)) (loopK (cfg w0 (tab9 k)) 0 count_roman.x11 (entK (cfg w0 (tab9 k)) 0 [0, 3, 5, 19, 20] [] io24.pat (count_roman.L11 k n)) K) := by
  intro n v K; kernel_rfl
def count_roman.b7 : Code := findD 7 count_roman.body
theorem count_roman.s7 (w0 : World) (k : Nat) : ∀ n v K, count_roman.L7 k (n + 1) v K = runK (cfg w0 (tab9 k)) Tryd.f68.ntmps (count_roman.kr w0 k) (annot (count_roman.cuts w0 k) count_roman.b7) (mkSt [0, 3, 19, 20] (io25.enc v)) (loopK (cfg w0 (tab9 k)) 0 count_roman.x7 (entK (cfg w0 (tab9 k)) 0 [0, 3, 19, 20] [] io25.pat (count_roman.L7 k n)) K) := by
  intro n v K; kernel_rfl
theorem count_roman.e (w0 : World) (k : Nat) : ∀ v, (fun v => count_roman k v) v = runK (cfg w0 (tab9 k)) Tryd.f68.ntmps (count_roman.kr w0 k) (annot (count_roman.cuts w0 k) count_roman.body) (entry (io8.enc v).1 (io8.enc v).2) (endK (count_roman.kr w0 k)) := by
  intro v; kernel_rfl
theorem count_roman.hb : Tryd.f68.body = some count_roman.body := by kernel_rfl
def tab10 (k : Nat) : Tab T := addTab 68 (line io8 io9 [] (fun v => count_roman k v)) (tab9 k)
def strconv_Itoa (k : Nat) (a103 : Int) : Option (List UInt8) := itoaS a103
def tab11 (k : Nat) : Tab T := addTab 45 (line io8 io9 [] (fun v => strconv_Itoa k v)) (tab10 k)
def count_mark (k : Nat) (a1 : Int) (a2 : Int) : Option (List UInt8) :=
cond (a1 == (0 : Int)) (
some ([] : List UInt8)) (
cond (a1 == (1 : Int)) (
some ([226, 128, 162] : List UInt8)) (
let v3 : Bool := (cond (a1 == (3 : Int)) (decide (a2 > (0 : Int))) false)
cond v3 (
(count_letters k a2).bind fun r4 =>
some r4) (
let v5 : Bool := (cond (a1 == (4 : Int)) (decide (a2 > (0 : Int))) false)
cond v5 (
(count_letters k a2).bind fun r6 =>
(strings_ToUpper k r6).bind fun r7 =>
some r7) (
(cond (a1 == (5 : Int)) (count_in k a2 (1 : Int) (3999 : Int)) (some false)).bind fun r8 =>
let v9 : Bool := (cond (a1 == (5 : Int)) r8 false)
cond v9 (
(count_roman k a2).bind fun r10 =>
some r10) (
(cond (a1 == (6 : Int)) (count_in k a2 (1 : Int) (3999 : Int)) (some false)).bind fun r11 =>
let v12 : Bool := (cond (a1 == (6 : Int)) r11 false)
cond v12 (
(count_roman k a2).bind fun r13 =>
(strings_ToUpper k r13).bind fun r14 =>
some r14) (
(strconv_Itoa k a2).bind fun r15 =>
some r15))))))
def count_mark.kr (w0 : World) (k : Nat) : St T → Option (List UInt8) := (retK (cfg w0 (tab11 k)) Tryd.f36.results.toList 0 [] io9.pat)
def count_mark.cuts (w0 : World) (k : Nat) : Cuts T (List UInt8) := fun n => none
def count_mark.body : Code := bodyOf Tryd.f36
theorem count_mark.e (w0 : World) (k : Nat) : ∀ v, (fun v => count_mark k v.1 v.2) v = runK (cfg w0 (tab11 k)) Tryd.f36.ntmps (count_mark.kr w0 k) (annot (count_mark.cuts w0 k) count_mark.body) (entry (io26.enc v).1 (io26.enc v).2) (endK (count_mark.kr w0 k)) := by
  intro v; kernel_rfl
theorem count_mark.hb : Tryd.f36.body = some count_mark.body := by kernel_rfl
def tab12 (k : Nat) : Tab T := addTab 36 (line io26 io9 [] (fun v => count_mark k v.1 v.2)) (tab11 k)
def count_Mark (k : Nat) (a1 : Int) (a2 : Int) : Option ((List UInt8) × Int) :=
(count_in k a1 (0 : Int) (6 : Int)).bind fun r3 =>
cond (!r3) (
some (([] : List UInt8), (7 : Int))) (
(count_in k a2 (-1000000 : Int) (1000000 : Int)).bind fun r4 =>
cond (!r4) (
some (([] : List UInt8), (1 : Int))) (
(count_mark k a1 a2).bind fun r5 =>
some (r5, (0 : Int))))
def count_Mark.kr (w0 : World) (k : Nat) : St T → Option ((List UInt8) × Int) := (retK (cfg w0 (tab12 k)) Tryd.f18.results.toList 0 [] io27.pat)
def count_Mark.cuts (w0 : World) (k : Nat) : Cuts T ((List UInt8) × Int) := fun n => none
def count_Mark.body : Code := bodyOf Tryd.f18
theorem count_Mark.e (w0 : World) (k : Nat) : ∀ v, (fun v => count_Mark k v.1 v.2) v = runK (cfg w0 (tab12 k)) Tryd.f18.ntmps (count_Mark.kr w0 k) (annot (count_Mark.cuts w0 k) count_Mark.body) (entry (io26.enc v).1 (io26.enc v).2) (endK (count_Mark.kr w0 k)) := by
  intro v; kernel_rfl
theorem count_Mark.hb : Tryd.f18.body = some count_Mark.body := by kernel_rfl
def tab13 (k : Nat) : Tab T := addTab 18 (line io26 io27 ([], (0 : Int)) (fun v => count_Mark k v.1 v.2)) (tab12 k)
def clerestorykeep2_fourth (k : Nat)  : Option (Bool) :=
(count_Mark k (5 : Int) (14 : Int)).bind fun r1 =>
let v2 : Bool := (r1.1 == ([120, 105, 118] : List UInt8))
let v3 : Bool := (cond (r1.2 == (0 : Int)) v2 false)
some v3
def clerestorykeep2_fourth.kr (w0 : World) (k : Nat) : St T → Option (Bool) := (retK (cfg w0 (tab13 k)) Tryd.f17.results.toList 0 [] io1.pat)
def clerestorykeep2_fourth.cuts (w0 : World) (k : Nat) : Cuts T (Bool) := fun n => none
def clerestorykeep2_fourth.body : Code := bodyOf Tryd.f17
theorem clerestorykeep2_fourth.e (w0 : World) (k : Nat) : ∀ v, (fun v => clerestorykeep2_fourth k ) v = runK (cfg w0 (tab13 k)) Tryd.f17.ntmps (clerestorykeep2_fourth.kr w0 k) (annot (clerestorykeep2_fourth.cuts w0 k) clerestorykeep2_fourth.body) (entry (io3.enc v).1 (io3.enc v).2) (endK (clerestorykeep2_fourth.kr w0 k)) := by
  intro v; kernel_rfl
theorem clerestorykeep2_fourth.hb : Tryd.f17.body = some clerestorykeep2_fourth.body := by kernel_rfl
def tab14 (k : Nat) : Tab T := addTab 17 (line io3 io1 false (fun v => clerestorykeep2_fourth k )) (tab13 k)
def clerestorykeep2_CountNext (k : Nat) (a1 : Int) (a2 : Int) (a3 : Int) : Option (Bool) :=
(clerestorykeep2_fourth k).bind fun r4 =>
cond ((3999 : Int) != 0) (
let v5 : Int := (Int.tmod (IntKind.wrap .u64 a1) (3999 : Int))
let v6 : Int := (IntKind.wrap .i64 ((1 : Int) + (IntKind.wrap .i64 v5)))
cond ((3999 : Int) != 0) (
let v7 : Int := (Int.tmod (IntKind.wrap .u64 a2) (3999 : Int))
let v8 : Int := (IntKind.wrap .i64 ((1 : Int) + (IntKind.wrap .i64 v7)))
(count_Mark k (3 : Int) v6).bind fun r9 =>
(count_Mark k (3 : Int) v8).bind fun r10 =>
cond ((5 : Int) != 0) (
let v11 : Int := (Int.tmod (IntKind.wrap .u64 a3) (5 : Int))
let v12 : Int := (IntKind.wrap .i64 ((2 : Int) + (IntKind.wrap .i64 v11)))
(count_Mark k v12 v6).bind fun r13 =>
(count_Mark k v12 v8).bind fun r14 =>
let v15 : Bool := (cond (r9.2 != (0 : Int)) true (r10.2 != (0 : Int)))
let v16 : Bool := (cond v15 true (r13.2 != (0 : Int)))
let v17 : Bool := (cond v16 true (r14.2 != (0 : Int)))
let v18 : Bool := (!((r13.1 == r14.1) == (v6 == v8)))
cond (cond v17 true v18) (
some false) (
let v19 : Bool := (decide ((r9.1.length : Int) < (r10.1.length : Int)))
let v20 : Bool := ((r9.1.length : Int) == (r10.1.length : Int))
let v21 : Bool := (cond v20 (Op.bytesLess r9.1 r10.1) false)
let v22 : Bool := ((cond v19 true v21) == (decide (v6 < v8)))
some (cond r4 v22 false))) none) none) none
def clerestorykeep2_CountNext.kr (w0 : World) (k : Nat) : St T → Option (Bool) := (retK (cfg w0 (tab14 k)) Tryd.f5.results.toList 0 [] io1.pat)
def clerestorykeep2_CountNext.cuts (w0 : World) (k : Nat) : Cuts T (Bool) := fun n => none
def clerestorykeep2_CountNext.body : Code := bodyOf Tryd.f5
theorem clerestorykeep2_CountNext.e (w0 : World) (k : Nat) : ∀ v, (fun v => clerestorykeep2_CountNext k v.1 v.2.1 v.2.2) v = runK (cfg w0 (tab14 k)) Tryd.f5.ntmps (clerestorykeep2_CountNext.kr w0 k) (annot (clerestorykeep2_CountNext.cuts w0 k) clerestorykeep2_CountNext.body) (entry (io0.enc v).1 (io0.enc v).2) (endK (clerestorykeep2_CountNext.kr w0 k)) := by
  intro v; kernel_rfl
theorem clerestorykeep2_CountNext.hb : Tryd.f5.body = some clerestorykeep2_CountNext.body := by kernel_rfl
def tab15 (k : Nat) : Tab T := addTab 5 (line io0 io1 false (fun v => clerestorykeep2_CountNext k v.1 v.2.1 v.2.2)) (tab14 k)
attribute [local irreducible] runK retK annot entry
theorem ok0 (w0 : World) (hw : Wd w0) (k : Nat) : CfOk (cfg w0 (tab0 k)) := noTab_ok fun _ _ _ => rfl
theorem count_in.a (w0 : World) (k : Nat) : cutsAt (fun n => (count_in.cuts w0 k n).isSome) count_in.body = [] := by kernel_rfl
theorem count_in.sim (w0 : World) (hw : Wd w0) (k : Nat) : ∀ v x, (fun v => count_in k v.1 v.2.1 v.2.2) v = some x → Sim (cfg w0 (tab0 k)) 35 (io0.enc v).1 (io0.enc v).2 (io1.enc x).1 (io1.enc x).2 :=
  sim_of (c := (cfg w0 (tab0 k))) (fine w0 hw _ (ok0 w0 hw k)) (dr w0 hw _ (ok0 w0 hw k)) (i := io0) (o := io1) (ps := []) (cuts := fun _ => count_in.cuts w0 k) (m := 0) (g := fun v => count_in k v.1 v.2.1 v.2.2) Tryd.func35 (by kernel_rfl) count_in.hb (fun _ => rfl) (fun _ => Nat.le_of_ble_eq_true rfl) (good_cuts (count_in.a w0 k) trivial) (count_in.e w0 k)
theorem ok1 (w0 : World) (hw : Wd w0) (k : Nat) : CfOk (cfg w0 (tab1 k)) := addTab_ok (ok0 w0 hw k) (count_in.sim w0 hw k)
theorem slices_Reverse___byte_byte_.a3 (w0 : World) (k : Nat) : cutsAt (fun n => (slices_Reverse___byte_byte_.cuts w0 k n).isSome) slices_Reverse___byte_byte_.b3 = [] := by kernel_rfl
theorem slices_Reverse___byte_byte_.a (w0 : World) (k : Nat) : cutsAt (fun n => (slices_Reverse___byte_byte_.cuts w0 k n).isSome) slices_Reverse___byte_byte_.body = [(3, Code.loop slices_Reverse___byte_byte_.b3)] := by kernel_rfl
theorem slices_Reverse___byte_byte_.so3 (w0 : World) (hw : Wd w0) (k : Nat) : Sound (cfg w0 (tab1 k)) Tryd.f96.ntmps 0 (slices_Reverse___byte_byte_.kr w0 k) (.loop slices_Reverse___byte_byte_.b3) (entK (cfg w0 (tab1 k)) 0 [0, 2, 3] [] io4.pat (slices_Reverse___byte_byte_.L3 k k)) :=
  loop_ok (fine w0 hw _ (ok1 w0 hw k)) (dr w0 hw _ (ok1 w0 hw k)) (good_cuts (slices_Reverse___byte_byte_.a3 w0 k) trivial) io4.ok (xn := slices_Reverse___byte_byte_.x3) (L := slices_Reverse___byte_byte_.L3 k) (fun v K => rfl) (slices_Reverse___byte_byte_.s3 w0 k) k
theorem slices_Reverse___byte_byte_.sim (w0 : World) (hw : Wd w0) (k : Nat) : ∀ v x, (fun v => slices_Reverse___byte_byte_ k ) v = some x → Sim (cfg w0 (tab1 k)) 96 (io2.enc v).1 (io2.enc v).2 (io3.enc x).1 (io3.enc x).2 :=
  sim_of (c := (cfg w0 (tab1 k))) (fine w0 hw _ (ok1 w0 hw k)) (dr w0 hw _ (ok1 w0 hw k)) (i := io2) (o := io3) (ps := []) (cuts := fun _ => slices_Reverse___byte_byte_.cuts w0 k) (m := 0) (g := fun v => slices_Reverse___byte_byte_ k ) Tryd.func96 (by kernel_rfl) slices_Reverse___byte_byte_.hb (fun _ => rfl) (fun _ => Nat.le_of_ble_eq_true rfl) (good_cuts (slices_Reverse___byte_byte_.a w0 k) ⟨fun f hf => by cases hf; exact slices_Reverse___byte_byte_.so3 w0 hw k, trivial⟩) (slices_Reverse___byte_byte_.e w0 k)
theorem ok2 (w0 : World) (hw : Wd w0) (k : Nat) : CfOk (cfg w0 (tab2 k)) := addTab_ok (ok1 w0 hw k) (slices_Reverse___byte_byte_.sim w0 hw k)
theorem slices_Reverse___byte_byte__v2.a3 (w0 : World) (k : Nat) : cutsAt (fun n => (slices_Reverse___byte_byte__v2.cuts w0 k n).isSome) slices_Reverse___byte_byte__v2.b3 = [] := by kernel_rfl
theorem slices_Reverse___byte_byte__v2.a (w0 : World) (k : Nat) : cutsAt (fun n => (slices_Reverse___byte_byte__v2.cuts w0 k n).isSome) slices_Reverse___byte_byte__v2.body = [(3, Code.loop slices_Reverse___byte_byte__v2.b3)] := by kernel_rfl
theorem slices_Reverse___byte_byte__v2.so3 (w0 : World) (hw : Wd w0) (k : Nat) : Sound (cfg w0 (tab2 k)) Tryd.f96.ntmps 1 (slices_Reverse___byte_byte__v2.kr w0 k) (.loop slices_Reverse___byte_byte__v2.b3) (entK (cfg w0 (tab2 k)) 1 [0, 2, 3] [] io7.pat (slices_Reverse___byte_byte__v2.L3 k k)) :=
  loop_ok (fine w0 hw _ (ok2 w0 hw k)) (dr w0 hw _ (ok2 w0 hw k)) (good_cuts (slices_Reverse___byte_byte__v2.a3 w0 k) trivial) io7.ok (xn := slices_Reverse___byte_byte__v2.x3) (L := slices_Reverse___byte_byte__v2.L3 k) (fun v K => rfl) (slices_Reverse___byte_byte__v2.s3 w0 k) k
theorem slices_Reverse___byte_byte__v2.sim (w0 : World) (hw : Wd w0) (k : Nat) : ∀ v x, (fun v => slices_Reverse___byte_byte__v2 k v) v = some x → Sim (cfg w0 (tab2 k)) 96 (io5.enc v).1 (io5.enc v).2 (io6.enc x).1 (io6.enc x).2 :=
  sim_of (c := (cfg w0 (tab2 k))) (fine w0 hw _ (ok2 w0 hw k)) (dr w0 hw _ (ok2 w0 hw k)) (i := io5) (o := io6) (ps := []) (cuts := fun _ => slices_Reverse___byte_byte__v2.cuts w0 k) (m := 1) (g := fun v => slices_Reverse___byte_byte__v2 k v) Tryd.func96 (by kernel_rfl) slices_Reverse___byte_byte__v2.hb (fun _ => rfl) (fun _ => Nat.le_of_ble_eq_true rfl) (good_cuts (slices_Reverse___byte_byte__v2.a w0 k) ⟨fun f hf => by cases hf; exact slices_Reverse___byte_byte__v2.so3 w0 hw k, trivial⟩) (slices_Reverse___byte_byte__v2.e w0 k)
theorem ok3 (w0 : World) (hw : Wd w0) (k : Nat) : CfOk (cfg w0 (tab3 k)) := addTab_ok (ok2 w0 hw k) (slices_Reverse___byte_byte__v2.sim w0 hw k)
theorem count_letters.a5 (w0 : World) (k : Nat) : cutsAt (fun n => (count_letters.cuts w0 k n).isSome) count_letters.b5 = [] := by kernel_rfl
theorem count_letters.a (w0 : World) (k : Nat) : cutsAt (fun n => (count_letters.cuts w0 k n).isSome) count_letters.body = [(5, Code.loop count_letters.b5)] := by kernel_rfl
theorem count_letters.so5 (w0 : World) (hw : Wd w0) (k : Nat) : Sound (cfg w0 (tab3 k)) Tryd.f66.ntmps 0 (count_letters.kr w0 k) (.loop count_letters.b5) (entK (cfg w0 (tab3 k)) 0 [0, 3] [.own 3 5] io10.pat (count_letters.L5 k k)) :=
  loop_ok (fine w0 hw _ (ok3 w0 hw k)) (dr w0 hw _ (ok3 w0 hw k)) (good_cuts (count_letters.a5 w0 k) trivial) io10.ok (xn := count_letters.x5) (L := count_letters.L5 k) (fun v K => rfl) (count_letters.s5 w0 k) k
theorem count_letters.sim (w0 : World) (hw : Wd w0) (k : Nat) : ∀ v x, (fun v => count_letters k v) v = some x → Sim (cfg w0 (tab3 k)) 66 (io8.enc v).1 (io8.enc v).2 (io9.enc x).1 (io9.enc x).2 :=
  sim_of (c := (cfg w0 (tab3 k))) (fine w0 hw _ (ok3 w0 hw k)) (dr w0 hw _ (ok3 w0 hw k)) (i := io8) (o := io9) (ps := []) (cuts := fun _ => count_letters.cuts w0 k) (m := 0) (g := fun v => count_letters k v) Tryd.func66 (by kernel_rfl) count_letters.hb (fun _ => rfl) (fun _ => Nat.le_of_ble_eq_true rfl) (good_cuts (count_letters.a w0 k) ⟨fun f hf => by cases hf; exact count_letters.so5 w0 hw k, trivial⟩) (count_letters.e w0 k)
theorem ok4 (w0 : World) (hw : Wd w0) (k : Nat) : CfOk (cfg w0 (tab4 k)) := addTab_ok (ok3 w0 hw k) (count_letters.sim w0 hw k)
theorem f__strings_Builder__Grow.sim (w0 : World) (hw : Wd w0) (k : Nat) : ∀ v x, (fun v => f__strings_Builder__Grow k v.1 v.2) v = some x → Sim (cfg w0 (tab4 k)) 97 (io11.enc v).1 (io11.enc v).2 (io12.enc x).1 (io12.enc x).2 := by
  intro v x h; exact sim_grow (c := cfg w0 (tab4 k)) (ρ := Sh.blr) Sh.bl Sh.l241 Sh.fGrow Sh.ext rfl rfl h
theorem ok5 (w0 : World) (hw : Wd w0) (k : Nat) : CfOk (cfg w0 (tab5 k)) := addTab_ok (ok4 w0 hw k) (f__strings_Builder__Grow.sim w0 hw k)
theorem f__strings_Builder__WriteString.sim (w0 : World) (hw : Wd w0) (k : Nat) : ∀ v x, (fun v => f__strings_Builder__WriteString k v.1 v.2) v = some x → Sim (cfg w0 (tab5 k)) 39 (io13.enc v).1 (io13.enc v).2 (io14.enc x).1 (io14.enc x).2 := by
  intro v x h; obtain ⟨s, hs, rfl⟩ := Option.map_eq_some_iff.1 h; exact sim_wStr (c := cfg w0 (tab5 k)) (ρ := Sh.blr) Sh.bl Sh.fWriteString Sh.ext rfl rfl hs
theorem ok6 (w0 : World) (hw : Wd w0) (k : Nat) : CfOk (cfg w0 (tab6 k)) := addTab_ok (ok5 w0 hw k) (f__strings_Builder__WriteString.sim w0 hw k)
theorem f__strings_Builder__WriteByte.sim (w0 : World) (hw : Wd w0) (k : Nat) : ∀ v x, (fun v => f__strings_Builder__WriteByte k v.1 v.2) v = some x → Sim (cfg w0 (tab6 k)) 98 (io15.enc v).1 (io15.enc v).2 (io16.enc x).1 (io16.enc x).2 := by
  intro v x h; exact sim_wByte (c := cfg w0 (tab6 k)) (ρ := Sh.blr) Sh.bl Sh.fWriteByte Sh.ext rfl rfl h
theorem ok7 (w0 : World) (hw : Wd w0) (k : Nat) : CfOk (cfg w0 (tab7 k)) := addTab_ok (ok6 w0 hw k) (f__strings_Builder__WriteByte.sim w0 hw k)
theorem f__strings_Builder__String.sim (w0 : World) (hw : Wd w0) (k : Nat) : ∀ v x, (fun v => f__strings_Builder__String k v) v = some x → Sim (cfg w0 (tab7 k)) 43 (io17.enc v).1 (io17.enc v).2 (io18.enc x).1 (io18.enc x).2 := by
  intro v x h; cases h; exact sim_str (c := cfg w0 (tab7 k)) (ρ := Sh.blr) Sh.bl Sh.bl.f169 Sh.ext rfl rfl _
theorem ok8 (w0 : World) (hw : Wd w0) (k : Nat) : CfOk (cfg w0 (tab8 k)) := addTab_ok (ok7 w0 hw k) (f__strings_Builder__String.sim w0 hw k)
theorem strings_ToUpper.a7 (w0 : World) (k : Nat) : cutsAt (fun n => (strings_ToUpper.cuts w0 k n).isSome) strings_ToUpper.b7 = [] := by kernel_rfl
theorem strings_ToUpper.a46 (w0 : World) (k : Nat) : cutsAt (fun n => (strings_ToUpper.cuts w0 k n).isSome) strings_ToUpper.b46 = [] := by kernel_rfl
theorem strings_ToUpper.a33 (w0 : World) (k : Nat) : cutsAt (fun n => (strings_ToUpper.cuts w0 k n).isSome) strings_ToUpper.b33 = [(46, strings_ToUpper.b46)] := by kernel_rfl
theorem strings_ToUpper.a54 (w0 : World) (k : Nat) : cutsAt (fun n => (strings_ToUpper.cuts w0 k n).isSome) strings_ToUpper.b54 = [] := by kernel_rfl
theorem strings_ToUpper.a18 (w0 : World) (k : Nat) : cutsAt (fun n => (strings_ToUpper.cuts w0 k n).isSome) strings_ToUpper.b18 = [(33, Code.loop strings_ToUpper.b33), (54, strings_ToUpper.b54)] := by kernel_rfl
theorem strings_ToUpper.a (w0 : World) (k : Nat) : cutsAt (fun n => (strings_ToUpper.cuts w0 k n).isSome) strings_ToUpper.body = [(7, Code.loop strings_ToUpper.b7), (18, strings_ToUpper.b18)] := by kernel_rfl
theorem strings_ToUpper.so7 (w0 : World) (hw : Wd w0) (k : Nat) : Sound (cfg w0 (tab8 k)) Tryd.f67.ntmps 0 (strings_ToUpper.kr w0 k) (.loop strings_ToUpper.b7) (entK (cfg w0 (tab8 k)) 0 [0, 3, 4, 5] [] io19.pat (strings_ToUpper.L7 k k)) :=
  loop_ok (fine w0 hw _ (ok8 w0 hw k)) (dr w0 hw _ (ok8 w0 hw k)) (good_cuts (strings_ToUpper.a7 w0 k) trivial) io19.ok (xn := strings_ToUpper.x7) (L := strings_ToUpper.L7 k) (fun v K => rfl) (strings_ToUpper.s7 w0 k) k
theorem strings_ToUpper.so46 (w0 : World) (hw : Wd w0) (k : Nat) : Sound (cfg w0 (tab8 k)) Tryd.f67.ntmps 0 (strings_ToUpper.kr w0 k) strings_ToUpper.b46 (entK (cfg w0 (tab8 k)) 0 [0, 7, 9, 10] [] io21.pat (strings_ToUpper.L46 k)) :=
  join_ok (fine w0 hw _ (ok8 w0 hw k)) (dr w0 hw _ (ok8 w0 hw k)) (good_cuts (strings_ToUpper.a46 w0 k) trivial) io21.ok (xn := strings_ToUpper.x46) (L := strings_ToUpper.L46 k) (strings_ToUpper.s46 w0 k)
theorem strings_ToUpper.so33 (w0 : World) (hw : Wd w0) (k : Nat) : Sound (cfg w0 (tab8 k)) Tryd.f67.ntmps 0 (strings_ToUpper.kr w0 k) (.loop strings_ToUpper.b33) (entK (cfg w0 (tab8 k)) 0 [0, 7, 8, 9] [] io22.pat (strings_ToUpper.L33 k k)) :=
  loop_ok (fine w0 hw _ (ok8 w0 hw k)) (dr w0 hw _ (ok8 w0 hw k)) (good_cuts (strings_ToUpper.a33 w0 k) ⟨fun f hf => by cases hf; exact strings_ToUpper.so46 w0 hw k, trivial⟩) io22.ok (xn := strings_ToUpper.x33) (L := strings_ToUpper.L33 k) (fun v K => rfl) (strings_ToUpper.s33 w0 k) k
theorem strings_ToUpper.so54 (w0 : World) (hw : Wd w0) (k : Nat) : Sound (cfg w0 (tab8 k)) Tryd.f67.ntmps 0 (strings_ToUpper.kr w0 k) strings_ToUpper.b54 (entK (cfg w0 (tab8 k)) 0 [7] [] io17.pat (strings_ToUpper.L54 k)) :=
  join_ok (fine w0 hw _ (ok8 w0 hw k)) (dr w0 hw _ (ok8 w0 hw k)) (good_cuts (strings_ToUpper.a54 w0 k) trivial) io17.ok (xn := strings_ToUpper.x54) (L := strings_ToUpper.L54 k) (strings_ToUpper.s54 w0 k)
theorem strings_ToUpper.so18 (w0 : World) (hw : Wd w0) (k : Nat) : Sound (cfg w0 (tab8 k)) Tryd.f67.ntmps 0 (strings_ToUpper.kr w0 k) strings_ToUpper.b18 (entK (cfg w0 (tab8 k)) 0 [0, 3, 4] [] io20.pat (strings_ToUpper.L18 k)) :=
  join_ok (fine w0 hw _ (ok8 w0 hw k)) (dr w0 hw _ (ok8 w0 hw k)) (good_cuts (strings_ToUpper.a18 w0 k) ⟨fun f hf => by cases hf; exact strings_ToUpper.so33 w0 hw k, fun f hf => by cases hf; exact strings_ToUpper.so54 w0 hw k, trivial⟩) io20.ok (xn := strings_ToUpper.x18) (L := strings_ToUpper.L18 k) (strings_ToUpper.s18 w0 k)
theorem strings_ToUpper.sim (w0 : World) (hw : Wd w0) (k : Nat) : ∀ v x, (fun v => strings_ToUpper k v) v = some x → Sim (cfg w0 (tab8 k)) 67 (io9.enc v).1 (io9.enc v).2 (io9.enc x).1 (io9.enc x).2 :=
  sim_of (c := (cfg w0 (tab8 k))) (fine w0 hw _ (ok8 w0 hw k)) (dr w0 hw _ (ok8 w0 hw k)) (i := io9) (o := io9) (ps := []) (cuts := fun _ => strings_ToUpper.cuts w0 k) (m := 0) (g := fun v => strings_ToUpper k v) Tryd.func67 (by kernel_rfl) strings_ToUpper.hb (fun _ => rfl) (fun _ => Nat.le_of_ble_eq_true rfl) (good_cuts (strings_ToUpper.a w0 k) ⟨fun f hf => by cases hf; exact strings_ToUpper.so7 w0 hw k, fun f hf => by cases hf; exact strings_ToUpper.so18 w0 hw k, trivial⟩) (strings_ToUpper.e w0 k)
theorem ok9 (w0 : World) (hw : Wd w0) (k : Nat) : CfOk (cfg w0 (tab9 k)) := addTab_ok (ok8 w0 hw k) (strings_ToUpper.sim w0 hw k)
theorem count_roman.a11 (w0 : World) (k : Nat) : cutsAt (fun n => (count_roman.cuts w0 k n).isSome) count_roman.b11 = [] := by kernel_rfl
theorem count_roman.a7 (w0 : World) (k : Nat) : cutsAt (fun n => (count_roman.cuts w0 k n).isSome) count_roman.b7 = [(11, Code.loop count_roman.b11)] := by kernel_rfl
theorem count_roman.a (w0 : World) (k : Nat) : cutsAt (fun n => (count_roman.cuts w0 k n).isSome) count_roman.body = [(7, Code.loop count_roman.b7)] := by kernel_rfl
theorem count_roman.so11 (w0 : World) (hw : Wd w0) (k : Nat) : Sound (cfg w0 (tab9 k)) Tryd.f68.ntmps 0 (count_roman.kr w0 k) (.loop count_roman.b11) (entK (cfg w0 (tab9 k)) 0 [0, 3, 5, 19, 20] [] io24.pat (count_roman.L11 k k)) :=
  loop_ok (fine w0 hw _ (ok9 w0 hw k)) (dr w0 hw _ (ok9 w0 hw k)) (good_cuts (count_roman.a11 w0 k) trivial) io24.ok (xn := count_roman.x11) (L := count_roman.L11 k) (fun v K => rfl) (count_roman.s11 w0 k) k
theorem count_roman.so7 (w0 : World) (hw : Wd w0) (k : Nat) : Sound (cfg w0 (tab9 k)) Tryd.f68.ntmps 0 (count_roman.kr w0 k) (.loop count_roman.b7) (entK (cfg w0 (tab9 k)) 0 [0, 3, 19, 20] [] io25.pat (count_roman.L7 k k)) :=
  loop_ok (fine w0 hw _ (ok9 w0 hw k)) (dr w0 hw _ (ok9 w0 hw k)) (good_cuts (count_roman.a7 w0 k) ⟨fun f hf => by cases hf; exact count_roman.so11 w0 hw k, trivial⟩) io25.ok (xn := count_roman.x7) (L := count_roman.L7 k) (fun v K => rfl) (count_roman.s7 w0 k) k
theorem count_roman.sim (w0 : World) (hw : Wd w0) (k : Nat) : ∀ v x, (fun v => count_roman k v) v = some x → Sim (cfg w0 (tab9 k)) 68 (io8.enc v).1 (io8.enc v).2 (io9.enc x).1 (io9.enc x).2 :=
  sim_of (c := (cfg w0 (tab9 k))) (fine w0 hw _ (ok9 w0 hw k)) (dr w0 hw _ (ok9 w0 hw k)) (i := io8) (o := io9) (ps := []) (cuts := fun _ => count_roman.cuts w0 k) (m := 0) (g := fun v => count_roman k v) Tryd.func68 (by kernel_rfl) count_roman.hb (fun _ => rfl) (fun _ => Nat.le_of_ble_eq_true rfl) (good_cuts (count_roman.a w0 k) ⟨fun f hf => by cases hf; exact count_roman.so7 w0 hw k, trivial⟩) (count_roman.e w0 k)
theorem ok10 (w0 : World) (hw : Wd w0) (k : Nat) : CfOk (cfg w0 (tab10 k)) := addTab_ok (ok9 w0 hw k) (count_roman.sim w0 hw k)
theorem strconv_Itoa.sim (w0 : World) (hw : Wd w0) (k : Nat) : ∀ v x, (fun v => strconv_Itoa k v) v = some x → Sim (cfg w0 (tab10 k)) 45 (io8.enc v).1 (io8.enc v).2 (io9.enc x).1 (io9.enc x).2 := by
  intro v x h; exact sim_itoa (c := cfg w0 (tab10 k)) (ρ := Sh.ren171) Sh.l171 hw.pw h
theorem ok11 (w0 : World) (hw : Wd w0) (k : Nat) : CfOk (cfg w0 (tab11 k)) := addTab_ok (ok10 w0 hw k) (strconv_Itoa.sim w0 hw k)
theorem count_mark.a (w0 : World) (k : Nat) : cutsAt (fun n => (count_mark.cuts w0 k n).isSome) count_mark.body = [] := by kernel_rfl
theorem count_mark.sim (w0 : World) (hw : Wd w0) (k : Nat) : ∀ v x, (fun v => count_mark k v.1 v.2) v = some x → Sim (cfg w0 (tab11 k)) 36 (io26.enc v).1 (io26.enc v).2 (io9.enc x).1 (io9.enc x).2 :=
  sim_of (c := (cfg w0 (tab11 k))) (fine w0 hw _ (ok11 w0 hw k)) (dr w0 hw _ (ok11 w0 hw k)) (i := io26) (o := io9) (ps := []) (cuts := fun _ => count_mark.cuts w0 k) (m := 0) (g := fun v => count_mark k v.1 v.2) Tryd.func36 (by kernel_rfl) count_mark.hb (fun _ => rfl) (fun _ => Nat.le_of_ble_eq_true rfl) (good_cuts (count_mark.a w0 k) trivial) (count_mark.e w0 k)
theorem ok12 (w0 : World) (hw : Wd w0) (k : Nat) : CfOk (cfg w0 (tab12 k)) := addTab_ok (ok11 w0 hw k) (count_mark.sim w0 hw k)
theorem count_Mark.a (w0 : World) (k : Nat) : cutsAt (fun n => (count_Mark.cuts w0 k n).isSome) count_Mark.body = [] := by kernel_rfl
theorem count_Mark.sim (w0 : World) (hw : Wd w0) (k : Nat) : ∀ v x, (fun v => count_Mark k v.1 v.2) v = some x → Sim (cfg w0 (tab12 k)) 18 (io26.enc v).1 (io26.enc v).2 (io27.enc x).1 (io27.enc x).2 :=
  sim_of (c := (cfg w0 (tab12 k))) (fine w0 hw _ (ok12 w0 hw k)) (dr w0 hw _ (ok12 w0 hw k)) (i := io26) (o := io27) (ps := []) (cuts := fun _ => count_Mark.cuts w0 k) (m := 0) (g := fun v => count_Mark k v.1 v.2) Tryd.func18 (by kernel_rfl) count_Mark.hb (fun _ => rfl) (fun _ => Nat.le_of_ble_eq_true rfl) (good_cuts (count_Mark.a w0 k) trivial) (count_Mark.e w0 k)
theorem ok13 (w0 : World) (hw : Wd w0) (k : Nat) : CfOk (cfg w0 (tab13 k)) := addTab_ok (ok12 w0 hw k) (count_Mark.sim w0 hw k)
theorem clerestorykeep2_fourth.a (w0 : World) (k : Nat) : cutsAt (fun n => (clerestorykeep2_fourth.cuts w0 k n).isSome) clerestorykeep2_fourth.body = [] := by kernel_rfl
theorem clerestorykeep2_fourth.sim (w0 : World) (hw : Wd w0) (k : Nat) : ∀ v x, (fun v => clerestorykeep2_fourth k ) v = some x → Sim (cfg w0 (tab13 k)) 17 (io3.enc v).1 (io3.enc v).2 (io1.enc x).1 (io1.enc x).2 :=
  sim_of (c := (cfg w0 (tab13 k))) (fine w0 hw _ (ok13 w0 hw k)) (dr w0 hw _ (ok13 w0 hw k)) (i := io3) (o := io1) (ps := []) (cuts := fun _ => clerestorykeep2_fourth.cuts w0 k) (m := 0) (g := fun v => clerestorykeep2_fourth k ) Tryd.func17 (by kernel_rfl) clerestorykeep2_fourth.hb (fun _ => rfl) (fun _ => Nat.le_of_ble_eq_true rfl) (good_cuts (clerestorykeep2_fourth.a w0 k) trivial) (clerestorykeep2_fourth.e w0 k)
theorem ok14 (w0 : World) (hw : Wd w0) (k : Nat) : CfOk (cfg w0 (tab14 k)) := addTab_ok (ok13 w0 hw k) (clerestorykeep2_fourth.sim w0 hw k)
theorem clerestorykeep2_CountNext.a (w0 : World) (k : Nat) : cutsAt (fun n => (clerestorykeep2_CountNext.cuts w0 k n).isSome) clerestorykeep2_CountNext.body = [] := by kernel_rfl
theorem clerestorykeep2_CountNext.sim (w0 : World) (hw : Wd w0) (k : Nat) : ∀ v x, (fun v => clerestorykeep2_CountNext k v.1 v.2.1 v.2.2) v = some x → Sim (cfg w0 (tab14 k)) 5 (io0.enc v).1 (io0.enc v).2 (io1.enc x).1 (io1.enc x).2 :=
  sim_of (c := (cfg w0 (tab14 k))) (fine w0 hw _ (ok14 w0 hw k)) (dr w0 hw _ (ok14 w0 hw k)) (i := io0) (o := io1) (ps := []) (cuts := fun _ => clerestorykeep2_CountNext.cuts w0 k) (m := 0) (g := fun v => clerestorykeep2_CountNext k v.1 v.2.1 v.2.2) Tryd.func5 (by kernel_rfl) clerestorykeep2_CountNext.hb (fun _ => rfl) (fun _ => Nat.le_of_ble_eq_true rfl) (good_cuts (clerestorykeep2_CountNext.a w0 k) trivial) (clerestorykeep2_CountNext.e w0 k)
theorem ok15 (w0 : World) (hw : Wd w0) (k : Nat) : CfOk (cfg w0 (tab15 k)) := addTab_ok (ok14 w0 hw k) (clerestorykeep2_CountNext.sim w0 hw k)
end
end Go.Ev.Cn
