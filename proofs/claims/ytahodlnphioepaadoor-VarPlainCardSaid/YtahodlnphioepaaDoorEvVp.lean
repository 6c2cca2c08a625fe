/- A part of the evaluator of Go code over small heaps and of its proof: no condition beyond those that each theorem names. -/
import Derived.Test.YtahodlnphioepaaDoorEvDfr
import Derived.Test.YtahodlnphioepaaDoorEvShD
import Derived.Test.YtahodlnphioepaaDoorEvBwA
import Derived.Test.YtahodlnphioepaaDoorProg
import Derived.KernelRfl
set_option linter.unusedVariables false
set_option maxRecDepth 100000
namespace Go.Ev.Vp
noncomputable section
open Go.Proofs Go.Ev

structure S40 where
  Name : List UInt8
  Value : List UInt8
def S40.d : S40 := ⟨[], []⟩
structure S77 where
  Kind : Int
  Raw : List UInt8
  Value : List UInt8
  Num : Int
def S77.d : S77 := ⟨0, [], [], 0⟩
def base : TypeId → (α : Type) × α
  | 5 => ⟨Int, (0 : Int)⟩
  | 9 => ⟨List UInt8, []⟩
  | 40 => ⟨S40, S40.d⟩
  | 77 => ⟨S77, S77.d⟩
  | _ => ⟨Unit, ()⟩
def T (t : TypeId) : Type := (base t).1
def dflt (t : TypeId) : T t := (base t).2
def dl (t : TypeId) : D T → Option (List (T t))
  | .l t' xs => asT t t' xs
  | .ns => some []
  | _ => none
theorem dl_le {t : TypeId} {d : D T} {l : List (T t)} (h : dl t d = some l) : leD d (.l t l) := by
  unfold dl at h
  split at h
  · rw [asT_l h]; exact .refl _
  · cases h; exact .ns _
  · cases h
def enc5 (x : Int) : List (D T) := [.i .u8 x]
def dec5 (ds : List (D T)) : Option (Int) := match ds with
  | [.i .u8 x0] => some x0
  | _ => none
theorem dec5_ok {ds : List (D T)} {x : Int} (h : dec5 ds = some x) : leDs ds (enc5 x) := by
  unfold dec5 at h
  split at h
  · cases h
    exact .cons (.refl _) <| .nil
  · cases h
def enc9 (x : List UInt8) : List (D T) := [.s x]
def dec9 (ds : List (D T)) : Option (List UInt8) := match ds with
  | [.s x0] => some x0
  | _ => none
theorem dec9_ok {ds : List (D T)} {x : List UInt8} (h : dec9 ds = some x) : leDs ds (enc9 x) := by
  unfold dec9 at h
  split at h
  · cases h
    exact .cons (.refl _) <| .nil
  · cases h
def enc40 (x : S40) : List (D T) := [.s x.Name, .s x.Value]
def dec40 (ds : List (D T)) : Option (S40) := match ds with
  | [.s x0, .s x1] => some ⟨x0, x1⟩
  | _ => none
theorem dec40_ok {ds : List (D T)} {x : S40} (h : dec40 ds = some x) : leDs ds (enc40 x) := by
  unfold dec40 at h
  split at h
  · cases h
    exact .cons (.refl _) <| .cons (.refl _) <| .nil
  · cases h
def enc77 (x : S77) : List (D T) := [.i .i64 x.Kind, .s x.Raw, .s x.Value, .i .i64 x.Num]
def dec77 (ds : List (D T)) : Option (S77) := match ds with
  | [.i .i64 x0, .s x1, .s x2, .i .i64 x3] => some ⟨x0, x1, x2, x3⟩
  | _ => none
theorem dec77_ok {ds : List (D T)} {x : S77} (h : dec77 ds = some x) : leDs ds (enc77 x) := by
  unfold dec77 at h
  split at h
  · cases h
    exact .cons (.refl _) <| .cons (.refl _) <| .cons (.refl _) <| .cons (.refl _) <| .nil
  · cases h
def enc : (t : TypeId) → T t → List (D T)
  | 5, x => enc5 x
  | 9, x => enc9 x
  | 40, x => enc40 x
  | 77, x => enc77 x
  | _, _ => []
def dec (t : TypeId) (ds : List (D T)) : Option (T t) := if h : t = 5 then (h ▸ (dec5 ds : Option (T 5))) else if h : t = 9 then (h ▸ (dec9 ds : Option (T 9))) else if h : t = 40 then (h ▸ (dec40 ds : Option (T 40))) else if h : t = 77 then (h ▸ (dec77 ds : Option (T 77))) else none
theorem dec_ok (t : TypeId) (ds : List (D T)) (x : T t) (h : dec t ds = some x) : leDs ds (enc t x) := by
  unfold dec at h
  by_cases h5 : t = 5
  · subst h5; exact dec5_ok (show dec5 ds = some x from h)
  rw [dif_neg h5] at h
  by_cases h9 : t = 9
  · subst h9; exact dec9_ok (show dec9 ds = some x from h)
  rw [dif_neg h9] at h
  by_cases h40 : t = 40
  · subst h40; exact dec40_ok (show dec40 ds = some x from h)
  rw [dif_neg h40] at h
  by_cases h77 : t = 77
  · subst h77; exact dec77_ok (show dec77 ds = some x from h)
  rw [dif_neg h77] at h
  cases h
def knl : List TypeId := [5, 9, 40, 77]

def ofB : (t : TypeId) → List UInt8 → List (T t)
  | 5, l => bytesI l
  | _, _ => []
def toB : (t : TypeId) → List (T t) → List UInt8
  | 5, l => bytesU l
  | _, _ => []
def cod : Cod T := ⟨fun t => knl.any (·.beq t), enc, dec, dflt, ofB, toB⟩
def gv : Nat → Option (List (D T))
  | _ => none
def eql : List TypeId := []
def hdl : List FuncId := []
def cfg (w0 : World) (t : Tab T) : Cfg T := ⟨Tryd.prog, cod, t, fun t => eql.any (·.beq t), w0, gv, 74, 5, fun f => hdl.any (·.beq f)⟩
/-- What is asked of the first world. -/
structure Wd (w0 : World) : Prop where
  gv : GvOk (cfg w0 noTab)
  mx : NumAt w0 (Sh.ren143.g 1)
  af : Lib.TabIs Tryd.prog w0 "unicode.asciiFold" .u16 afTab

theorem mem_of {l : List TypeId} {t : TypeId} (h : l.any (·.beq t) = true) : t ∈ l := by
  rw [List.any_eq_true] at h
  obtain ⟨x, hx, hb⟩ := h
  rw [← Nat.eq_of_beq_eq_true hb]; exact hx
theorem len5 : 1 = Tryd.prog.cellsOf 5 := by kernel_rfl
theorem len9 : 1 = Tryd.prog.cellsOf 9 := by kernel_rfl
theorem u8_9 : isU8 Tryd.prog 9 = false := by kernel_rfl
theorem len40 : 2 = Tryd.prog.cellsOf 40 := by kernel_rfl
theorem u8_40 : isU8 Tryd.prog 40 = false := by kernel_rfl
theorem len77 : 4 = Tryd.prog.cellsOf 77 := by kernel_rfl
theorem u8_77 : isU8 Tryd.prog 77 = false := by kernel_rfl
theorem zr5 : zeroShape Tryd.prog 5 = true ∧ ∃ ds, zeroCells (T := T) Tryd.prog 5 = some (ofDs ds) ∧ leDs ds (enc5 (0 : Int)) := ⟨by kernel_rfl, [.i .u8 (0 : Int)], by kernel_rfl, .cons (.refl _) <| .nil⟩
theorem zr9 : zeroShape Tryd.prog 9 = true ∧ ∃ ds, zeroCells (T := T) Tryd.prog 9 = some (ofDs ds) ∧ leDs ds (enc9 []) := ⟨by kernel_rfl, [.s ([])], by kernel_rfl, .cons (.refl _) <| .nil⟩
theorem zr40 : zeroShape Tryd.prog 40 = true ∧ ∃ ds, zeroCells (T := T) Tryd.prog 40 = some (ofDs ds) ∧ leDs ds (enc40 S40.d) := ⟨by kernel_rfl, [.s ([]), .s ([])], by kernel_rfl, .cons (.refl _) <| .cons (.refl _) <| .nil⟩
theorem zr77 : zeroShape Tryd.prog 77 = true ∧ ∃ ds, zeroCells (T := T) Tryd.prog 77 = some (ofDs ds) ∧ leDs ds (enc77 S77.d) := ⟨by kernel_rfl, [.i .i64 (0 : Int), .s ([]), .s ([]), .i .i64 (0 : Int)], by kernel_rfl, .cons (.refl _) <| .cons (.refl _) <| .cons (.refl _) <| .cons (.refl _) <| .nil⟩
theorem fl : Tryd.prog.follows .mixedOrders = true := by kernel_rfl
theorem bytesOk (w0 : World) (t : Tab T) : BytesOk (cfg w0 t) := fun e h1 h2 => by
  have hm := mem_of (l := knl) h2
  simp only [knl, List.mem_cons, List.not_mem_nil, or_false] at hm
  rcases hm with rfl | rfl | rfl | rfl
  · exact ⟨fun l => by induction l with
      | nil => rfl
      | cons b l ih => exact congrArg (List.cons _) ih, fun xs => ⟨xs, rfl, rfl⟩⟩
  · exact absurd h1 (by rw [show isU8 (cfg w0 _).P 9 = false from u8_9]; exact Bool.false_ne_true)
  · exact absurd h1 (by rw [show isU8 (cfg w0 _).P 40 = false from u8_40]; exact Bool.false_ne_true)
  · exact absurd h1 (by rw [show isU8 (cfg w0 _).P 77 = false from u8_77]; exact Bool.false_ne_true)
theorem fine (w0 : World) (hw : Wd w0) (t : Tab T) (h : CfOk (cfg w0 t)) : Fine (cfg w0 t) where
  gv := hw.gv
  bytes := bytesOk w0 t
  cod := by
    refine ⟨fun t ht x => ?_, fun t ds x h => ?_⟩
    · have hm := mem_of (l := knl) ht
      simp only [knl, List.mem_cons, List.not_mem_nil, or_false] at hm
      rcases hm with rfl | rfl | rfl | rfl
      · exact len5
      · exact len9
      · exact len40
      · exact len77
    · exact dec_ok t ds x h
  zero := fun t ht => by
    have hm := mem_of (l := knl) ht
    simp only [knl, List.mem_cons, List.not_mem_nil, or_false] at hm
    rcases hm with rfl | rfl | rfl | rfl
    · exact zr5
    · exact zr9
    · exact zr40
    · exact zr77
  eqk := fun t h => by
    cases h
  flat := fun t hf hk x d hd => by
    have hm := mem_of (l := knl) hk
    simp only [knl, List.mem_cons, List.not_mem_nil, or_false] at hm
    rcases hm with rfl | rfl | rfl | rfl
    · have hd : d ∈ enc5 x := hd
      simp only [enc5, List.mem_cons, List.not_mem_nil, or_false] at hd
      rcases hd with rfl <;> rfl
    · have hd : d ∈ enc9 x := hd
      simp only [enc9, List.mem_cons, List.not_mem_nil, or_false] at hd
      rcases hd with rfl <;> rfl
    · have hd : d ∈ enc40 x := hd
      simp only [enc40, List.mem_cons, List.not_mem_nil, or_false] at hd
      rcases hd with rfl | rfl <;> rfl
    · have hd : d ∈ enc77 x := hd
      simp only [enc77, List.mem_cons, List.not_mem_nil, or_false] at hd
      rcases hd with rfl | rfl | rfl | rfl <;> rfl
  cf := h
theorem dr (w0 : World) (hw : Wd w0) (t : Tab T) (h : CfOk (cfg w0 t)) : DrawOk (cfg w0 t) := drawOk_ok (fine w0 hw t h) fl
def io0 : Io T ((List UInt8) × (List UInt8)) where
  enc v := ([.d (.s v.1), .d (.s v.2)], [])
  pat
    | ([.d (.s p1), .d (.s p2)], []) => some (p1, p2)
    | _ => none
  ok z v h := by
    split at h
    · cases h
      all_goals rfl
    · cases h
def io1 : Io T (List UInt8) where
  enc v := ([.d (.s v)], [])
  pat
    | ([.d (.s p1)], []) => some p1
    | _ => none
  ok z v h := by
    split at h
    · cases h
      all_goals rfl
    · cases h
def io2 : Io T (Bool) where
  enc v := ([.d (.b v)], [])
  pat
    | ([.d (.b p1)], []) => some p1
    | _ => none
  ok z v h := by
    split at h
    · cases h
      all_goals rfl
    · cases h
def io3 : Io T ((List UInt8) × Bool) where
  enc v := ([.d (.s v.1), .d (.b v.2)], [])
  pat
    | ([.d (.s p1), .d (.b p2)], []) => some (p1, p2)
    | _ => none
  ok z v h := by
    split at h
    · cases h
      all_goals rfl
    · cases h
def io4 : Io T (Int) where
  enc v := ([.d (.i .i64 v)], [])
  pat
    | ([.d (.i .i64 p1)], []) => some p1
    | _ => none
  ok z v h := by
    split at h
    · cases h
      all_goals rfl
    · cases h
def io5 : Io T (List UInt8) where
  enc v := ([.bp 0], [.bl v])
  pat
    | ([.bp 0], [.bl p1]) => some p1
    | _ => none
  ok z v h := by
    split at h
    · cases h
      all_goals rfl
    · cases h
def io6 : Io T ((List UInt8) × (List UInt8)) where
  enc v := ([.d (.s v.1)], [.bl v.2])
  pat
    | ([.d (.s p1)], [.bl p2]) => some (p1, p2)
    | _ => none
  ok z v h := by
    split at h
    · cases h
      all_goals rfl
    · cases h
def io7 : Io T (Int × (List UInt8)) where
  enc v := ([.bp 0, .d (.i .u8 v.1)], [.bl v.2])
  pat
    | ([.bp 0, .d (.i .u8 p1)], [.bl p2]) => some (p1, p2)
    | _ => none
  ok z v h := by
    split at h
    · cases h
      all_goals rfl
    · cases h
def io8 : Io T (List UInt8) where
  enc v := ([.d .ni], [.bl v])
  pat
    | ([.d .ni], [.bl p1]) => some p1
    | _ => none
  ok z v h := by
    split at h
    · cases h
      all_goals rfl
    · cases h
def io9 : Io T (Int × (List UInt8) × (List UInt8) × Int) where
  enc v := ([.agg [.d (.i .i64 v.1), .d (.s v.2.1), .d (.s v.2.2.1), .d (.i .i64 v.2.2.2)]], [])
  pat
    | ([.agg [.d (.i .i64 p1), .d (.s p2), .d (.s p3), .d (.i .i64 p4)]], []) => some (p1, p2, p3, p4)
    | _ => none
  ok z v h := by
    split at h
    · cases h
      all_goals rfl
    · cases h
def io10 : Io T ((List UInt8) × Int × Int × (List UInt8) × (List UInt8) × Int × (List UInt8)) where
  enc v := ([.d (.s v.1), .ptr 0 0, .bp 1, .d (.i .i64 v.2.1)], [.box [.d (.i .i64 v.2.2.1), .d (.s v.2.2.2.1), .d (.s v.2.2.2.2.1), .d (.i .i64 v.2.2.2.2.2.1)], .bl v.2.2.2.2.2.2])
  pat
    | ([.d (.s p1), .ptr 0 0, .bp 1, .d (.i .i64 p2)], [.box [.d (.i .i64 p3), .d (.s p4), .d (.s p5), .d (.i .i64 p6)], .bl p7]) => some (p1, p2, p3, p4, p5, p6, p7)
    | _ => none
  ok z v h := by
    split at h
    · cases h
      all_goals rfl
    · cases h
def io11 : Io T ((List UInt8) × Int × (List UInt8) × (List UInt8) × Int) where
  enc v := ([.d (.s v.1), .ptr 0 0], [.box [.d (.i .i64 v.2.1), .d (.s v.2.2.1), .d (.s v.2.2.2.1), .d (.i .i64 v.2.2.2.2)]])
  pat
    | ([.d (.s p1), .ptr 0 0], [.box [.d (.i .i64 p2), .d (.s p3), .d (.s p4), .d (.i .i64 p5)]]) => some (p1, p2, p3, p4, p5)
    | _ => none
  ok z v h := by
    split at h
    · cases h
      all_goals rfl
    · cases h
def io12 : Io T (Int) where
  enc v := ([.d (.i .u8 v)], [])
  pat
    | ([.d (.i .u8 p1)], []) => some p1
    | _ => none
  ok z v h := by
    split at h
    · cases h
      all_goals rfl
    · cases h
def io13 : Io T ((List UInt8) × Int) where
  enc v := ([.d (.s v.1), .d (.i .i64 v.2)], [])
  pat
    | ([.d (.s p1), .d (.i .i64 p2)], []) => some (p1, p2)
    | _ => none
  ok z v h := by
    split at h
    · cases h
      all_goals rfl
    · cases h
def io14 : Io T ((List UInt8) × Int × (List UInt8)) where
  enc v := ([.d (.s v.1), .bp 0, .d (.i .i64 v.2.1)], [.bl v.2.2])
  pat
    | ([.d (.s p1), .bp 0, .d (.i .i64 p2)], [.bl p3]) => some (p1, p2, p3)
    | _ => none
  ok z v h := by
    split at h
    · cases h
      all_goals rfl
    · cases h
def io15 : Io T (Int × (List UInt8)) where
  enc v := ([.bp 0, .d (.i .i64 v.1)], [.bl v.2])
  pat
    | ([.bp 0, .d (.i .i64 p1)], [.bl p2]) => some (p1, p2)
    | _ => none
  ok z v h := by
    split at h
    · cases h
      all_goals rfl
    · cases h
def io16 : Io T (Int × (List UInt8) × Int) where
  enc v := ([.d (.i .i64 v.1), .d (.s v.2.1), .d (.i .i64 v.2.2)], [])
  pat
    | ([.d (.i .i64 p1), .d (.s p2), .d (.i .i64 p3)], []) => some (p1, p2, p3)
    | _ => none
  ok z v h := by
    split at h
    · cases h
      all_goals rfl
    · cases h
def io17 : Io T (Int × Int) where
  enc v := ([.d (.i .u8 v.1), .ptr 0 0], [.box [.d (.i .i64 v.2)]])
  pat
    | ([.d (.i .u8 p1), .ptr 0 0], [.box [.d (.i .i64 p2)]]) => some (p1, p2)
    | _ => none
  ok z v h := by
    split at h
    · cases h
      all_goals rfl
    · cases h
def io18 : Io T (Int) where
  enc v := ([], [.box [.d (.i .i64 v)]])
  pat
    | ([], [.box [.d (.i .i64 p1)]]) => some p1
    | _ => none
  ok z v h := by
    split at h
    · cases h
      all_goals rfl
    · cases h
def io19 : Io T (Int × Int) where
  enc v := ([.d (.i .i64 v.1), .d (.i .i64 v.2)], [])
  pat
    | ([.d (.i .i64 p1), .d (.i .i64 p2)], []) => some (p1, p2)
    | _ => none
  ok z v h := by
    split at h
    · cases h
      all_goals rfl
    · cases h
def io20 : Io T ((List UInt8) × Int × Int × Int × Int × Int × Int × (List Int)) where
  enc v := ([.d (.s v.1), .d (.i .i64 v.2.1), .d (.i .i64 v.2.2.1), .d (.i .i64 v.2.2.2.1), .ptr 0 0, .fn 148 [.ptr 0 0], .sl 1 none, .d (.i .i64 v.2.2.2.2.1), .d (.i .i64 v.2.2.2.2.2.1)], [.box [.d (.i .i64 v.2.2.2.2.2.2.1)], .arr 5 v.2.2.2.2.2.2.2])
  pat
    | ([.d (.s p1), .d (.i .i64 p2), .d (.i .i64 p3), .d (.i .i64 p4), .ptr 0 0, .fn 148 [.ptr 0 0], .sl 1 none, .d (.i .i64 p5), .d (.i .i64 p6)], [.box [.d (.i .i64 p7)], .arr tp8 p8]) => (asT 5 tp8 p8).bind fun q8 => some (p1, p2, p3, p4, p5, p6, p7, q8)
    | _ => none
  ok z v h := by
    split at h
    · obtain ⟨q8, hp8, h⟩ := Option.bind_eq_some_iff.1 h
      cases h
      rw [asT_a hp8]
      all_goals rfl
    · cases h
def io21 : Io T ((List UInt8) × Int × Int × Int × Int) where
  enc v := ([.d (.s v.1), .d (.i .i64 v.2.1), .d (.i .i64 v.2.2.1), .d (.i .i64 v.2.2.2.1), .ptr 0 0, .fn 148 [.ptr 0 0]], [.box [.d (.i .i64 v.2.2.2.2)]])
  pat
    | ([.d (.s p1), .d (.i .i64 p2), .d (.i .i64 p3), .d (.i .i64 p4), .ptr 0 0, .fn 148 [.ptr 0 0]], [.box [.d (.i .i64 p5)]]) => some (p1, p2, p3, p4, p5)
    | _ => none
  ok z v h := by
    split at h
    · cases h
      all_goals rfl
    · cases h
def io22 : Io T ((List UInt8) × Int × (List UInt8) × Int × Int) where
  enc v := ([.d (.s v.1), .ptr 0 0, .fn 148 [.ptr 0 0], .d (.i .i64 v.2.1), .d (.s v.2.2.1), .d (.i .i64 v.2.2.2.1)], [.box [.d (.i .i64 v.2.2.2.2)]])
  pat
    | ([.d (.s p1), .ptr 0 0, .fn 148 [.ptr 0 0], .d (.i .i64 p2), .d (.s p3), .d (.i .i64 p4)], [.box [.d (.i .i64 p5)]]) => some (p1, p2, p3, p4, p5)
    | _ => none
  ok z v h := by
    split at h
    · cases h
      all_goals rfl
    · cases h
def io23 : Io T ((List UInt8) × Int × Int) where
  enc v := ([.d (.s v.1), .ptr 0 0, .d (.i .i64 v.2.1)], [.box [.d (.i .i64 v.2.2)]])
  pat
    | ([.d (.s p1), .ptr 0 0, .d (.i .i64 p2)], [.box [.d (.i .i64 p3)]]) => some (p1, p2, p3)
    | _ => none
  ok z v h := by
    split at h
    · cases h
      all_goals rfl
    · cases h
def io24 : Io T (Int × Int) where
  enc v := ([.ptr 0 0, .d (.i .i64 v.1)], [.box [.d (.i .i64 v.2)]])
  pat
    | ([.ptr 0 0, .d (.i .i64 p1)], [.box [.d (.i .i64 p2)]]) => some (p1, p2)
    | _ => none
  ok z v h := by
    split at h
    · cases h
      all_goals rfl
    · cases h
def io25 : Io T ((List UInt8) × Int × (List UInt8) × Int) where
  enc v := ([.d (.s v.1), .ptr 0 0, .fn 148 [.ptr 0 0], .d (.i .i64 v.2.1), .d (.s v.2.2.1)], [.box [.d (.i .i64 v.2.2.2)]])
  pat
    | ([.d (.s p1), .ptr 0 0, .fn 148 [.ptr 0 0], .d (.i .i64 p2), .d (.s p3)], [.box [.d (.i .i64 p4)]]) => some (p1, p2, p3, p4)
    | _ => none
  ok z v h := by
    split at h
    · cases h
      all_goals rfl
    · cases h
def io26 : Io T ((List UInt8) × Int × Int × Int) where
  enc v := ([.d (.s v.1), .d (.i .i64 v.2.1), .d (.i .i64 v.2.2.1), .d (.i .i64 v.2.2.2)], [])
  pat
    | ([.d (.s p1), .d (.i .i64 p2), .d (.i .i64 p3), .d (.i .i64 p4)], []) => some (p1, p2, p3, p4)
    | _ => none
  ok z v h := by
    split at h
    · cases h
      all_goals rfl
    · cases h
def io27 : Io T (Int × Int × (List Int)) where
  enc v := ([.sl 0 none, .sl 0 none, .d (.i .i64 v.1), .d (.i .i64 v.2.1)], [.arr 5 v.2.2])
  pat
    | ([.sl 0 none, .sl 0 none, .d (.i .i64 p1), .d (.i .i64 p2)], [.arr tp3 p3]) => (asT 5 tp3 p3).bind fun q3 => some (p1, p2, q3)
    | _ => none
  ok z v h := by
    split at h
    · obtain ⟨q3, hp3, h⟩ := Option.bind_eq_some_iff.1 h
      cases h
      rw [asT_a hp3]
      all_goals rfl
    · cases h
def io28 : Io T (List Int) where
  enc v := ([.sl 0 none], [.arr 5 v])
  pat
    | ([.sl 0 none], [.arr tp1 p1]) => (asT 5 tp1 p1).bind fun q1 => some q1
    | _ => none
  ok z v h := by
    split at h
    · obtain ⟨q1, hp1, h⟩ := Option.bind_eq_some_iff.1 h
      cases h
      rw [asT_a hp1]
      all_goals rfl
    · cases h
def io29 : Io T ((List UInt8) × Int × Int) where
  enc v := ([.d (.s v.1), .d (.i .i64 v.2.1), .d (.i .i64 v.2.2)], [])
  pat
    | ([.d (.s p1), .d (.i .i64 p2), .d (.i .i64 p3)], []) => some (p1, p2, p3)
    | _ => none
  ok z v h := by
    split at h
    · cases h
      all_goals rfl
    · cases h
def io30 : Io T (Int × (List UInt8) × (List UInt8) × Int × Int × (List UInt8) × (List UInt8) × Int) where
  enc v := ([.ptr 0 0, .ptr 1 0], [.box [.d (.i .i64 v.1), .d (.s v.2.1), .d (.s v.2.2.1), .d (.i .i64 v.2.2.2.1)], .box [.d (.i .i64 v.2.2.2.2.1), .d (.s v.2.2.2.2.2.1), .d (.s v.2.2.2.2.2.2.1), .d (.i .i64 v.2.2.2.2.2.2.2)]])
  pat
    | ([.ptr 0 0, .ptr 1 0], [.box [.d (.i .i64 p1), .d (.s p2), .d (.s p3), .d (.i .i64 p4)], .box [.d (.i .i64 p5), .d (.s p6), .d (.s p7), .d (.i .i64 p8)]]) => some (p1, p2, p3, p4, p5, p6, p7, p8)
    | _ => none
  ok z v h := by
    split at h
    · cases h
      all_goals rfl
    · cases h
def io31 : Io T (Int × (List UInt8)) where
  enc v := ([.d (.i .i64 v.1), .ptr 0 0], [.box [.d (.s v.2)]])
  pat
    | ([.d (.i .i64 p1), .ptr 0 0], [.box [.d (.s p2)]]) => some (p1, p2)
    | _ => none
  ok z v h := by
    split at h
    · cases h
      all_goals rfl
    · cases h
def io32 : Io T (Int × (List UInt8) × (List UInt8) × Int × (List UInt8)) where
  enc v := ([.agg [.d (.i .i64 v.1), .d (.s v.2.1), .d (.s v.2.2.1), .d (.i .i64 v.2.2.2.1)]], [.box [.d (.s v.2.2.2.2)]])
  pat
    | ([.agg [.d (.i .i64 p1), .d (.s p2), .d (.s p3), .d (.i .i64 p4)]], [.box [.d (.s p5)]]) => some (p1, p2, p3, p4, p5)
    | _ => none
  ok z v h := by
    split at h
    · cases h
      all_goals rfl
    · cases h
def io33 : Io T ((List UInt8) × Int × (List UInt8) × (List UInt8) × Int) where
  enc v := ([.ptr 0 0, .ptr 1 0], [.box [.d (.s v.1)], .box [.d (.i .i64 v.2.1), .d (.s v.2.2.1), .d (.s v.2.2.2.1), .d (.i .i64 v.2.2.2.2)]])
  pat
    | ([.ptr 0 0, .ptr 1 0], [.box [.d (.s p1)], .box [.d (.i .i64 p2), .d (.s p3), .d (.s p4), .d (.i .i64 p5)]]) => some (p1, p2, p3, p4, p5)
    | _ => none
  ok z v h := by
    split at h
    · cases h
      all_goals rfl
    · cases h
def io34 : Io T (Int × (List UInt8) × (List UInt8) × Int × (List UInt8)) where
  enc v := ([.ptr 0 0, .fn 101 [.ptr 1 0]], [.box [.d (.i .i64 v.1), .d (.s v.2.1), .d (.s v.2.2.1), .d (.i .i64 v.2.2.2.1)], .box [.d (.s v.2.2.2.2)]])
  pat
    | ([.ptr 0 0, .fn 101 [.ptr 1 0]], [.box [.d (.i .i64 p1), .d (.s p2), .d (.s p3), .d (.i .i64 p4)], .box [.d (.s p5)]]) => some (p1, p2, p3, p4, p5)
    | _ => none
  ok z v h := by
    split at h
    · cases h
      all_goals rfl
    · cases h
def io35 : Io T (List S77) where
  enc v := ([.sl 0 none], [.arr 77 v])
  pat
    | ([.sl 0 none], [.arr tp1 p1]) => (asT 77 tp1 p1).bind fun q1 => some q1
    | _ => none
  ok z v h := by
    split at h
    · obtain ⟨q1, hp1, h⟩ := Option.bind_eq_some_iff.1 h
      cases h
      rw [asT_a hp1]
      all_goals rfl
    · cases h
def io36 : Io T ((List UInt8) × (List S77)) where
  enc v := ([.d (.s v.1), .sl 0 none], [.arr 77 v.2])
  pat
    | ([.d (.s p1), .sl 0 none], [.arr tp2 p2]) => (asT 77 tp2 p2).bind fun q2 => some (p1, q2)
    | _ => none
  ok z v h := by
    split at h
    · obtain ⟨q2, hp2, h⟩ := Option.bind_eq_some_iff.1 h
      cases h
      rw [asT_a hp2]
      all_goals rfl
    · cases h
def io37 : Io T ((List UInt8) × (List UInt8)) where
  enc v := ([.bp 0, .d (.s v.1)], [.bl v.2])
  pat
    | ([.bp 0, .d (.s p1)], [.bl p2]) => some (p1, p2)
    | _ => none
  ok z v h := by
    split at h
    · cases h
      all_goals rfl
    · cases h
def io38 : Io T (Int × (List UInt8)) where
  enc v := ([.d (.i .i64 v.1), .d .ni], [.bl v.2])
  pat
    | ([.d (.i .i64 p1), .d .ni], [.bl p2]) => some (p1, p2)
    | _ => none
  ok z v h := by
    split at h
    · cases h
      all_goals rfl
    · cases h
def io39 : Io T (List S77) where
  enc v := ([.d (.l 77 v)], [])
  pat
    | ([.d (.l tp1 p1)], []) => (asT 77 tp1 p1).bind fun q1 => some q1
    | _ => none
  ok z v h := by
    split at h
    · obtain ⟨q1, hp1, h⟩ := Option.bind_eq_some_iff.1 h
      cases h
      rw [asT_l hp1]
      all_goals rfl
    · cases h
def io40 : Io T (Int × (List S77) × Int × Int × (List (List UInt8))) where
  enc v := ([.sl 0 none, .d (.i .i64 v.1), .d (.l 77 v.2.1), .d (.i .i64 v.2.2.1), .d (.i .i64 v.2.2.2.1)], [.arr 9 v.2.2.2.2])
  pat
    | ([.sl 0 none, .d (.i .i64 p1), .d (.l tp2 p2), .d (.i .i64 p3), .d (.i .i64 p4)], [.arr tp5 p5]) => (asT 77 tp2 p2).bind fun q2 => (asT 9 tp5 p5).bind fun q5 => some (p1, q2, p3, p4, q5)
    | _ => none
  ok z v h := by
    split at h
    · obtain ⟨q2, hp2, h⟩ := Option.bind_eq_some_iff.1 h
      obtain ⟨q5, hp5, h⟩ := Option.bind_eq_some_iff.1 h
      cases h
      rw [asT_l hp2]
      rw [asT_a hp5]
      all_goals rfl
    · cases h
def io41 : Io T ((List S77) × Int × Int × (List (List UInt8))) where
  enc v := ([.sl 0 none, .d (.l 77 v.1), .d (.i .i64 v.2.1), .d (.i .i64 v.2.2.1)], [.arr 9 v.2.2.2])
  pat
    | ([.sl 0 none, .d (.l tp1 p1), .d (.i .i64 p2), .d (.i .i64 p3)], [.arr tp4 p4]) => (asT 77 tp1 p1).bind fun q1 => (asT 9 tp4 p4).bind fun q4 => some (q1, p2, p3, q4)
    | _ => none
  ok z v h := by
    split at h
    · obtain ⟨q1, hp1, h⟩ := Option.bind_eq_some_iff.1 h
      obtain ⟨q4, hp4, h⟩ := Option.bind_eq_some_iff.1 h
      cases h
      rw [asT_l hp1]
      rw [asT_a hp4]
      all_goals rfl
    · cases h
def io42 : Io T (Unit) where
  enc v := ([], [])
  pat
    | ([], []) => some ()
    | _ => none
  ok z v h := by
    split at h <;> cases h; rfl
def io43 : Io T ((List UInt8) × (List S77) × Bool × Bool) where
  enc v := ([.d (.s v.1), .d (.l 77 v.2.1), .d (.b v.2.2.1), .d (.b v.2.2.2)], [])
  pat
    | ([.d (.s p1), .d (.l tp2 p2), .d (.b p3), .d (.b p4)], []) => (asT 77 tp2 p2).bind fun q2 => some (p1, q2, p3, p4)
    | _ => none
  ok z v h := by
    split at h
    · obtain ⟨q2, hp2, h⟩ := Option.bind_eq_some_iff.1 h
      cases h
      rw [asT_l hp2]
      all_goals rfl
    · cases h
def io44 : Io T ((List S77) × (List UInt8)) where
  enc v := ([.d (.l 77 v.1), .d (.s v.2)], [])
  pat
    | ([.d (.l tp1 p1), .d (.s p2)], []) => (asT 77 tp1 p1).bind fun q1 => some (q1, p2)
    | _ => none
  ok z v h := by
    split at h
    · obtain ⟨q1, hp1, h⟩ := Option.bind_eq_some_iff.1 h
      cases h
      rw [asT_l hp1]
      all_goals rfl
    · cases h
def io45 : Io T ((List S40) × (List UInt8)) where
  enc v := ([.d (.l 40 v.1), .d (.s v.2)], [])
  pat
    | ([.d (.l tp1 p1), .d (.s p2)], []) => (asT 40 tp1 p1).bind fun q1 => some (q1, p2)
    | _ => none
  ok z v h := by
    split at h
    · obtain ⟨q1, hp1, h⟩ := Option.bind_eq_some_iff.1 h
      cases h
      rw [asT_l hp1]
      all_goals rfl
    · cases h
def io46 : Io T (Int × (List UInt8)) where
  enc v := ([.d (.i .i64 v.1)], [.bl v.2])
  pat
    | ([.d (.i .i64 p1)], [.bl p2]) => some (p1, p2)
    | _ => none
  ok z v h := by
    split at h
    · cases h
      all_goals rfl
    · cases h
def io47 : Io T ((List S77) × Int × Int × (List UInt8) × Int × (List UInt8) × (List UInt8) × Int) where
  enc v := ([.bp 0, .ptr 1 0, .d (.l 77 v.1), .d (.i .i64 v.2.1), .d (.i .i64 v.2.2.1)], [.bl v.2.2.2.1, .box [.d (.i .i64 v.2.2.2.2.1), .d (.s v.2.2.2.2.2.1), .d (.s v.2.2.2.2.2.2.1), .d (.i .i64 v.2.2.2.2.2.2.2)]])
  pat
    | ([.bp 0, .ptr 1 0, .d (.l tp1 p1), .d (.i .i64 p2), .d (.i .i64 p3)], [.bl p4, .box [.d (.i .i64 p5), .d (.s p6), .d (.s p7), .d (.i .i64 p8)]]) => (asT 77 tp1 p1).bind fun q1 => some (q1, p2, p3, p4, p5, p6, p7, p8)
    | _ => none
  ok z v h := by
    split at h
    · obtain ⟨q1, hp1, h⟩ := Option.bind_eq_some_iff.1 h
      cases h
      rw [asT_l hp1]
      all_goals rfl
    · cases h
def io48 : Io T (Bool × (List S77) × Int × Int × (List UInt8)) where
  enc v := ([.bp 0, .d (.b v.1), .d (.l 77 v.2.1), .d (.i .i64 v.2.2.1), .d (.i .i64 v.2.2.2.1)], [.bl v.2.2.2.2])
  pat
    | ([.bp 0, .d (.b p1), .d (.l tp2 p2), .d (.i .i64 p3), .d (.i .i64 p4)], [.bl p5]) => (asT 77 tp2 p2).bind fun q2 => some (p1, q2, p3, p4, p5)
    | _ => none
  ok z v h := by
    split at h
    · obtain ⟨q2, hp2, h⟩ := Option.bind_eq_some_iff.1 h
      cases h
      rw [asT_l hp2]
      all_goals rfl
    · cases h
def io49 : Io T ((List S77) × (List S40)) where
  enc v := ([.d (.l 77 v.1), .d (.l 40 v.2)], [])
  pat
    | ([.d (.l tp1 p1), .d (.l tp2 p2)], []) => (asT 77 tp1 p1).bind fun q1 => (asT 40 tp2 p2).bind fun q2 => some (q1, q2)
    | _ => none
  ok z v h := by
    split at h
    · obtain ⟨q1, hp1, h⟩ := Option.bind_eq_some_iff.1 h
      obtain ⟨q2, hp2, h⟩ := Option.bind_eq_some_iff.1 h
      cases h
      rw [asT_l hp1]
      rw [asT_l hp2]
      all_goals rfl
    · cases h
def io50 : Io T ((List UInt8) × (List S40)) where
  enc v := ([.d (.s v.1), .d (.l 40 v.2)], [])
  pat
    | ([.d (.s p1), .d (.l tp2 p2)], []) => (asT 40 tp2 p2).bind fun q2 => some (p1, q2)
    | _ => none
  ok z v h := by
    split at h
    · obtain ⟨q2, hp2, h⟩ := Option.bind_eq_some_iff.1 h
      cases h
      rw [asT_l hp2]
      all_goals rfl
    · cases h
def io51 : Io T ((List S40) × Int × (List S77) × (List UInt8)) where
  enc v := ([.d (.l 40 v.1), .sl 0 none, .bp 1, .d (.i .i64 v.2.1)], [.arr 77 v.2.2.1, .bl v.2.2.2])
  pat
    | ([.d (.l tp1 p1), .sl 0 none, .bp 1, .d (.i .i64 p2)], [.arr tp3 p3, .bl p4]) => (asT 40 tp1 p1).bind fun q1 => (asT 77 tp3 p3).bind fun q3 => some (q1, p2, q3, p4)
    | _ => none
  ok z v h := by
    split at h
    · obtain ⟨q1, hp1, h⟩ := Option.bind_eq_some_iff.1 h
      obtain ⟨q3, hp3, h⟩ := Option.bind_eq_some_iff.1 h
      cases h
      rw [asT_l hp1]
      rw [asT_a hp3]
      all_goals rfl
    · cases h
def io52 : Io T ((List UInt8) × (List UInt8) × Int) where
  enc v := ([.d (.s v.1), .d (.s v.2.1), .d (.i .i64 v.2.2)], [])
  pat
    | ([.d (.s p1), .d (.s p2), .d (.i .i64 p3)], []) => some (p1, p2, p3)
    | _ => none
  ok z v h := by
    split at h
    · cases h
      all_goals rfl
    · cases h
def io53 : Io T ((List UInt8) × (List UInt8) × (List UInt8)) where
  enc v := ([.d (.s v.1), .d (.s v.2.1), .d (.s v.2.2)], [])
  pat
    | ([.d (.s p1), .d (.s p2), .d (.s p3)], []) => some (p1, p2, p3)
    | _ => none
  ok z v h := by
    split at h
    · cases h
      all_goals rfl
    · cases h
def io54 : Io T (Bool × (List UInt8) × Bool × (List UInt8)) where
  enc v := ([.d (.b v.1), .d (.s v.2.1), .d (.b v.2.2.1), .d (.s v.2.2.2)], [])
  pat
    | ([.d (.b p1), .d (.s p2), .d (.b p3), .d (.s p4)], []) => some (p1, p2, p3, p4)
    | _ => none
  ok z v h := by
    split at h
    · cases h
      all_goals rfl
    · cases h
def tab0 (k : Nat) : Tab T := noTab
def strings_TrimLeft (k : Nat) (a3 : List UInt8) (a4 : List UInt8) : Option (List UInt8) := trimL a3 a4
def tab1 (k : Nat) : Tab T := addTab 102 (line io0 io1 [] (fun v => strings_TrimLeft k v.1 v.2)) (tab0 k)
def stringslite_HasPrefix (k : Nat) (a1 : List UInt8) (a2 : List UInt8) : Option (Bool) :=
let v3 : Bool := (decide ((a1.length : Int) ≥ (a2.length : Int)))
cond ((decide (0 ≤ (a2.length : Int) ∧ (a2.length : Int) ≤ (a1.length : Int))) || !v3) (
let v4 : List UInt8 := (a1.take (a2.length : Int).toNat)
some (cond v3 (v4 == a2) false)) none
def stringslite_HasPrefix.kr (w0 : World) (k : Nat) : Kr T (Bool) := (kret (retK (cfg w0 (tab1 k)) Tryd.f133.results.toList 0 [] io2.pat))
def stringslite_HasPrefix.cuts (w0 : World) (k : Nat) : Cuts T (Bool) := fun n => none
def stringslite_HasPrefix.body : Code := bodyOf Tryd.f133
theorem stringslite_HasPrefix.e (w0 : World) (k : Nat) : ∀ v, (fun v => stringslite_HasPrefix k v.1 v.2) v = runK (cfg w0 (tab1 k)) Tryd.f133.ntmps (stringslite_HasPrefix.kr w0 k) (annot (stringslite_HasPrefix.cuts w0 k) stringslite_HasPrefix.body) (entry (io0.enc v).1 (io0.enc v).2) (endK (stringslite_HasPrefix.kr w0 k)) := by
  intro v; kernel_rfl
theorem stringslite_HasPrefix.hb : Tryd.f133.body = some stringslite_HasPrefix.body := by kernel_rfl
def tab2 (k : Nat) : Tab T := addTab 133 (line io0 io2 false (fun v => stringslite_HasPrefix k v.1 v.2)) (tab1 k)
def stringslite_CutPrefix (k : Nat) (a1 : List UInt8) (a2 : List UInt8) : Option ((List UInt8) × Bool) :=
(stringslite_HasPrefix k a1 a2).bind fun r3 =>
cond (!r3) (
some (a1, false)) (
cond (decide (0 ≤ (a2.length : Int) ∧ (a2.length : Int) ≤ (a1.length : Int))) (
let v4 : List UInt8 := (a1.drop (a2.length : Int).toNat)
some (v4, true)) none)
def stringslite_CutPrefix.kr (w0 : World) (k : Nat) : Kr T ((List UInt8) × Bool) := (kret (retK (cfg w0 (tab2 k)) Tryd.f143.results.toList 0 [] io3.pat))
def stringslite_CutPrefix.cuts (w0 : World) (k : Nat) : Cuts T ((List UInt8) × Bool) := fun n => none
def stringslite_CutPrefix.body : Code := bodyOf Tryd.f143
theorem stringslite_CutPrefix.e (w0 : World) (k : Nat) : ∀ v, (fun v => stringslite_CutPrefix k v.1 v.2) v = runK (cfg w0 (tab2 k)) Tryd.f143.ntmps (stringslite_CutPrefix.kr w0 k) (annot (stringslite_CutPrefix.cuts w0 k) stringslite_CutPrefix.body) (entry (io0.enc v).1 (io0.enc v).2) (endK (stringslite_CutPrefix.kr w0 k)) := by
  intro v; kernel_rfl
theorem stringslite_CutPrefix.hb : Tryd.f143.body = some stringslite_CutPrefix.body := by kernel_rfl
def tab3 (k : Nat) : Tab T := addTab 143 (line io0 io3 ([], false) (fun v => stringslite_CutPrefix k v.1 v.2)) (tab2 k)
def strings_CutPrefix (k : Nat) (a1 : List UInt8) (a2 : List UInt8) : Option ((List UInt8) × Bool) :=
(stringslite_CutPrefix k a1 a2).bind fun r3 =>
some (r3.1, r3.2)
def strings_CutPrefix.kr (w0 : World) (k : Nat) : Kr T ((List UInt8) × Bool) := (kret (retK (cfg w0 (tab3 k)) Tryd.f103.results.toList 0 [] io3.pat))
def strings_CutPrefix.cuts (w0 : World) (k : Nat) : Cuts T ((List UInt8) × Bool) := fun n => none
def strings_CutPrefix.body : Code := bodyOf Tryd.f103
theorem strings_CutPrefix.e (w0 : World) (k : Nat) : ∀ v, (fun v => strings_CutPrefix k v.1 v.2) v = runK (cfg w0 (tab3 k)) Tryd.f103.ntmps (strings_CutPrefix.kr w0 k) (annot (strings_CutPrefix.cuts w0 k) strings_CutPrefix.body) (entry (io0.enc v).1 (io0.enc v).2) (endK (strings_CutPrefix.kr w0 k)) := by
  intro v; kernel_rfl
theorem strings_CutPrefix.hb : Tryd.f103.body = some strings_CutPrefix.body := by kernel_rfl
def tab4 (k : Nat) : Tab T := addTab 103 (line io0 io3 ([], false) (fun v => strings_CutPrefix k v.1 v.2)) (tab3 k)
def strings_Index (k : Nat) (a5 : List UInt8) (a6 : List UInt8) : Option (Int) := findS a5 a6
def tab5 (k : Nat) : Tab T := addTab 53 (line io0 io4 (0 : Int) (fun v => strings_Index k v.1 v.2)) (tab4 k)
def f__strings_Builder__String (k : Nat) (a14 : List UInt8) : Option ((List UInt8) × (List UInt8)) := some (a14, a14)
def tab6 (k : Nat) : Tab T := addTab 43 (line io5 io6 ([], []) (fun v => f__strings_Builder__String k v)) (tab5 k)
def f__strings_Builder__WriteByte (k : Nat) (a21 : Int) (a22 : List UInt8) : Option (List UInt8) := wByte a22 a21
def tab7 (k : Nat) : Tab T := addTab 98 (line io7 io8 [] (fun v => f__strings_Builder__WriteByte k v.1 v.2)) (tab6 k)
def csstok_text.c7 (k : Nat) : Nat → (List UInt8) → Int → Int → (List UInt8) → (List UInt8) → Int → (List UInt8) → ((List UInt8) → Int → (List UInt8) → (List UInt8) → Int → Option (Int × (List UInt8) × (List UInt8) × Int)) → Option (Int × (List UInt8) × (List UInt8) × Int)
  | 0, _, _, _, _, _, _, _, _ => none
  | n + 1, x2, x3, x4, x5, x6, x7, x8, k0 =>
    let v9 : Bool := (decide (x3 < (x2.length : Int)))
    cond v9 (
    cond (decide (0 ≤ x3 ∧ x3 < (x2.length : Int))) (
    let v10 : Int := ((x2.getD x3.toNat 0).toNat : Int)
    cond (decide (0 ≤ (0 : Int) ∧ (0 : Int) < (x2.length : Int))) (
    let v11 : Int := ((x2.getD (0 : Int).toNat 0).toNat : Int)
    cond (v10 == v11) (
    let v12 : Int := (IntKind.wrap .i64 (x3 + (1 : Int)))
    cond (decide (0 ≤ v12 ∧ v12 ≤ (x2.length : Int))) (
    (f__strings_Builder__String k x8).bind fun r13 =>
    some ((5 : Int), (x2.take v12.toNat), r13.1, (0 : Int))) none) (
    cond (v10 == (10 : Int)) (
    cond (decide (0 ≤ x3 ∧ x3 ≤ (x2.length : Int))) (
    some ((6 : Int), (x2.take x3.toNat), [], (0 : Int))) none) (
    let v14 : Int := (IntKind.wrap .i64 (x3 + (1 : Int)))
    let v15 : Bool := (decide (v14 < (x2.length : Int)))
    let v16 : Bool := (cond (v10 == (92 : Int)) v15 false)
    cond v16 (
    let v17 : Int := (IntKind.wrap .i64 (x3 + (1 : Int)))
    cond (decide (0 ≤ v17 ∧ v17 < (x2.length : Int))) (
    let v18 : Int := ((x2.getD v17.toNat 0).toNat : Int)
    (f__strings_Builder__WriteByte k v18 x8).bind fun r19 =>
    let v20 : Int := (IntKind.wrap .i64 (v17 + (1 : Int)))
    csstok_text.c7 k n x2 v20 x4 x5 x6 x7 r19 k0) none) (
    (f__strings_Builder__WriteByte k v10 x8).bind fun r21 =>
    let v22 : Int := (IntKind.wrap .i64 (x3 + (1 : Int)))
    csstok_text.c7 k n x2 v22 x4 x5 x6 x7 r21 k0)))) none) none) (
    k0 x2 x4 x5 x6 x7)
def csstok_text (k : Nat) (a1 : List UInt8) : Option (Int × (List UInt8) × (List UInt8) × Int) :=
csstok_text.c7 k k a1 (1 : Int) (0 : Int) ([]) ([]) (0 : Int) ([] : List UInt8) (fun (y23 : List UInt8) (y24 : Int) (y25 : List UInt8) (y26 : List UInt8) (y27 : Int) =>
some ((6 : Int), y23, [], (0 : Int)))
def csstok_text.kr (w0 : World) (k : Nat) : Kr T (Int × (List UInt8) × (List UInt8) × Int) := (kret (retK (cfg w0 (tab7 k)) Tryd.f104.results.toList 0 [] io9.pat))
def csstok_text.x7 : Ex → Option (List Nat × List Sp)
  | .exit 0 => some ([0, 2], [])
  | _ => none
def csstok_text.L7 (k : Nat) (n : Nat) (v : (List UInt8) × Int × Int × (List UInt8) × (List UInt8) × Int × (List UInt8)) (K : Ex → St T → Option (Int × (List UInt8) × (List UInt8) × Int)) : Option (Int × (List UInt8) × (List UInt8) × Int) := csstok_text.c7 k n v.1 v.2.1 v.2.2.1 v.2.2.2.1 v.2.2.2.2.1 v.2.2.2.2.2.1 v.2.2.2.2.2.2 (fun y20 y21 y22 y23 y24 => K (.exit 0) (mkSt [0, 2] (io11.enc (y20, y21, y22, y23, y24))))
def csstok_text.cuts (w0 : World) (k : Nat) : Cuts T (Int × (List UInt8) × (List UInt8) × Int) := fun n => bif n.beq 7 then some (entK (cfg w0 (tab7 k)) 0 [0, 2, 3, 4] [] io10.pat (csstok_text.L7 k k)) else none
def csstok_text.body : Code := bodyOf Tryd.f104
def csstok_text.b7 : Code := findD 7 csstok_text.body
theorem csstok_text.s7 (w0 : World) (k : Nat) : ∀ n v K, csstok_text.L7 k (n + 1) v K = runK (cfg w0 (tab7 k)) Tryd.f104.ntmps (csstok_text.kr w0 k) (annot (csstok_text.cuts w0 k) csstok_text.b7) (mkSt [0, 2, 3, 4] (io10.enc v)) (loopK (cfg w0 (tab7 k)) 0 csstok_text.x7 (entK (cfg w0 (tab7 k)) 0 [0, 2, 3, 4] [] io10.pat (csstok_text.L7 k n)) K) := by
  intro n v K; kernel_rfl
theorem csstok_text.e (w0 : World) (k : Nat) : ∀ v, (fun v => csstok_text k v) v = runK (cfg w0 (tab7 k)) Tryd.f104.ntmps (csstok_text.kr w0 k) (annot (csstok_text.cuts w0 k) csstok_text.body) (entry (io1.enc v).1 (io1.enc v).2) (endK (csstok_text.kr w0 k)) := by
  intro v; kernel_rfl
theorem csstok_text.hb : Tryd.f104.body = some csstok_text.body := by kernel_rfl
def tab8 (k : Nat) : Tab T := addTab 104 (line io1 io9 ((0 : Int), [], [], (0 : Int)) (fun v => csstok_text k v)) (tab7 k)
def csstok_starts (k : Nat) (a1 : Int) : Option (Bool) :=
let v2 : Bool := (cond (decide (a1 ≥ (128 : Int))) true (a1 == (95 : Int)))
let v3 : Int := (IntKind.wrap .u8 (((BitVec.ofInt (IntKind.bits .u8) a1 ||| BitVec.ofInt (IntKind.bits .u8) (32 : Int)).toNat : Int)))
let v4 : Int := (IntKind.wrap .u8 (((BitVec.ofInt (IntKind.bits .u8) a1 ||| BitVec.ofInt (IntKind.bits .u8) (32 : Int)).toNat : Int)))
let v5 : Bool := (cond (decide (v3 ≥ (97 : Int))) (decide (v4 ≤ (122 : Int))) false)
some (cond v2 true v5)
def csstok_starts.kr (w0 : World) (k : Nat) : Kr T (Bool) := (kret (retK (cfg w0 (tab8 k)) Tryd.f144.results.toList 0 [] io2.pat))
def csstok_starts.cuts (w0 : World) (k : Nat) : Cuts T (Bool) := fun n => none
def csstok_starts.body : Code := bodyOf Tryd.f144
theorem csstok_starts.e (w0 : World) (k : Nat) : ∀ v, (fun v => csstok_starts k v) v = runK (cfg w0 (tab8 k)) Tryd.f144.ntmps (csstok_starts.kr w0 k) (annot (csstok_starts.cuts w0 k) csstok_starts.body) (entry (io12.enc v).1 (io12.enc v).2) (endK (csstok_starts.kr w0 k)) := by
  intro v; kernel_rfl
theorem csstok_starts.hb : Tryd.f144.body = some csstok_starts.body := by kernel_rfl
def tab9 (k : Nat) : Tab T := addTab 144 (line io12 io2 false (fun v => csstok_starts k v)) (tab8 k)
def csstok_digit (k : Nat) (a1 : Int) : Option (Bool) :=
let v2 : Bool := (cond (decide (a1 ≥ (48 : Int))) (decide (a1 ≤ (57 : Int))) false)
some v2
def csstok_digit.kr (w0 : World) (k : Nat) : Kr T (Bool) := (kret (retK (cfg w0 (tab9 k)) Tryd.f145.results.toList 0 [] io2.pat))
def csstok_digit.cuts (w0 : World) (k : Nat) : Cuts T (Bool) := fun n => none
def csstok_digit.body : Code := bodyOf Tryd.f145
theorem csstok_digit.e (w0 : World) (k : Nat) : ∀ v, (fun v => csstok_digit k v) v = runK (cfg w0 (tab9 k)) Tryd.f145.ntmps (csstok_digit.kr w0 k) (annot (csstok_digit.cuts w0 k) csstok_digit.body) (entry (io12.enc v).1 (io12.enc v).2) (endK (csstok_digit.kr w0 k)) := by
  intro v; kernel_rfl
theorem csstok_digit.hb : Tryd.f145.body = some csstok_digit.body := by kernel_rfl
def tab10 (k : Nat) : Tab T := addTab 145 (line io12 io2 false (fun v => csstok_digit k v)) (tab9 k)
def csstok_sign (k : Nat) (a1 : Int) : Option (Bool) :=
(csstok_starts k a1).bind fun r2 =>
(cond (!r2) (csstok_digit k a1) (some false)).bind fun r3 =>
let v4 : Bool := (cond (cond r2 true r3) true (a1 == (45 : Int)))
some v4
def csstok_sign.kr (w0 : World) (k : Nat) : Kr T (Bool) := (kret (retK (cfg w0 (tab10 k)) Tryd.f105.results.toList 0 [] io2.pat))
def csstok_sign.cuts (w0 : World) (k : Nat) : Cuts T (Bool) := fun n => none
def csstok_sign.body : Code := bodyOf Tryd.f105
theorem csstok_sign.e (w0 : World) (k : Nat) : ∀ v, (fun v => csstok_sign k v) v = runK (cfg w0 (tab10 k)) Tryd.f105.ntmps (csstok_sign.kr w0 k) (annot (csstok_sign.cuts w0 k) csstok_sign.body) (entry (io12.enc v).1 (io12.enc v).2) (endK (csstok_sign.kr w0 k)) := by
  intro v; kernel_rfl
theorem csstok_sign.hb : Tryd.f105.body = some csstok_sign.body := by kernel_rfl
def tab11 (k : Nat) : Tab T := addTab 105 (line io12 io2 false (fun v => csstok_sign k v)) (tab10 k)
def csstok_escape (k : Nat) (a1 : List UInt8) : Option (Bool) :=
let v2 : Bool := (decide ((a1.length : Int) > (1 : Int)))
cond ((decide (0 ≤ (0 : Int) ∧ (0 : Int) < (a1.length : Int))) || !v2) (
let v3 : Int := ((a1.getD (0 : Int).toNat 0).toNat : Int)
let v4 : Bool := (cond v2 (v3 == (92 : Int)) false)
cond ((decide (0 ≤ (1 : Int) ∧ (1 : Int) < (a1.length : Int))) || !v4) (
let v5 : Int := ((a1.getD (1 : Int).toNat 0).toNat : Int)
let v6 : Bool := (cond v4 (v5 != (10 : Int)) false)
some v6) none) none
def csstok_escape.kr (w0 : World) (k : Nat) : Kr T (Bool) := (kret (retK (cfg w0 (tab11 k)) Tryd.f106.results.toList 0 [] io2.pat))
def csstok_escape.cuts (w0 : World) (k : Nat) : Cuts T (Bool) := fun n => none
def csstok_escape.body : Code := bodyOf Tryd.f106
theorem csstok_escape.e (w0 : World) (k : Nat) : ∀ v, (fun v => csstok_escape k v) v = runK (cfg w0 (tab11 k)) Tryd.f106.ntmps (csstok_escape.kr w0 k) (annot (csstok_escape.cuts w0 k) csstok_escape.body) (entry (io1.enc v).1 (io1.enc v).2) (endK (csstok_escape.kr w0 k)) := by
  intro v; kernel_rfl
theorem csstok_escape.hb : Tryd.f106.body = some csstok_escape.body := by kernel_rfl
def tab12 (k : Nat) : Tab T := addTab 106 (line io1 io2 false (fun v => csstok_escape k v)) (tab11 k)
def csstok_name.c7 (k : Nat) : Nat → (List UInt8) → Int → (List UInt8) → (Int → (List UInt8) → Option ((List UInt8) × Int)) → Option ((List UInt8) × Int)
  | 0, _, _, _, _ => none
  | n + 1, x2, x3, x4, k0 =>
    let v5 : Bool := (decide (x3 < (x2.length : Int)))
    cond v5 (
    cond (decide (0 ≤ x3 ∧ x3 ≤ (x2.length : Int))) (
    (csstok_escape k (x2.drop x3.toNat)).bind fun r6 =>
    cond r6 (
    let v7 : Int := (IntKind.wrap .i64 (x3 + (1 : Int)))
    cond (decide (0 ≤ v7 ∧ v7 < (x2.length : Int))) (
    let v8 : Int := ((x2.getD v7.toNat 0).toNat : Int)
    (f__strings_Builder__WriteByte k v8 x4).bind fun r9 =>
    let v10 : Int := (IntKind.wrap .i64 (x3 + (2 : Int)))
    csstok_name.c7 k n x2 v10 r9 k0) none) (
    cond (decide (0 ≤ x3 ∧ x3 < (x2.length : Int))) (
    let v11 : Int := ((x2.getD x3.toNat 0).toNat : Int)
    (csstok_sign k v11).bind fun r12 =>
    cond r12 (
    cond (decide (0 ≤ x3 ∧ x3 < (x2.length : Int))) (
    let v13 : Int := ((x2.getD x3.toNat 0).toNat : Int)
    (f__strings_Builder__WriteByte k v13 x4).bind fun r14 =>
    let v15 : Int := (IntKind.wrap .i64 (x3 + (1 : Int)))
    csstok_name.c7 k n x2 v15 r14 k0) none) (
    (f__strings_Builder__String k x4).bind fun r16 =>
    some (r16.1, x3))) none)) none) (
    k0 x3 x4)
def csstok_name (k : Nat) (a1 : List UInt8) : Option ((List UInt8) × Int) :=
csstok_name.c7 k k a1 (0 : Int) ([] : List UInt8) (fun (y17 : Int) (y18 : List UInt8) =>
(f__strings_Builder__String k y18).bind fun r19 =>
some (r19.1, y17))
def csstok_name.kr (w0 : World) (k : Nat) : Kr T ((List UInt8) × Int) := (kret (retK (cfg w0 (tab12 k)) Tryd.f146.results.toList 0 [] io13.pat))
def csstok_name.x7 : Ex → Option (List Nat × List Sp)
  | .exit 0 => some ([4, 5], [])
  | _ => none
def csstok_name.L7 (k : Nat) (n : Nat) (v : (List UInt8) × Int × (List UInt8)) (K : Ex → St T → Option ((List UInt8) × Int)) : Option ((List UInt8) × Int) := csstok_name.c7 k n v.1 v.2.1 v.2.2 (fun y25 y26 => K (.exit 0) (mkSt [4, 5] (io15.enc (y25, y26))))
def csstok_name.cuts (w0 : World) (k : Nat) : Cuts T ((List UInt8) × Int) := fun n => bif n.beq 7 then some (entK (cfg w0 (tab12 k)) 0 [0, 4, 5] [] io14.pat (csstok_name.L7 k k)) else none
def csstok_name.body : Code := bodyOf Tryd.f146
def csstok_name.b7 : Code := findD 7 csstok_name.body
theorem csstok_name.s7 (w0 : World) (k : Nat) : ∀ n v K, csstok_name.L7 k (n + 1) v K = runK (cfg w0 (tab12 k)) Tryd.f146.ntmps (csstok_name.kr w0 k) (annot (csstok_name.cuts w0 k) csstok_name.b7) (mkSt [0, 4, 5] (io14.enc v)) (loopK (cfg w0 (tab12 k)) 0 csstok_name.x7 (entK (cfg w0 (tab12 k)) 0 [0, 4, 5] [] io14.pat (csstok_name.L7 k n)) K) := by
  intro n v K; kernel_rfl
theorem csstok_name.e (w0 : World) (k : Nat) : ∀ v, (fun v => csstok_name k v) v = runK (cfg w0 (tab12 k)) Tryd.f146.ntmps (csstok_name.kr w0 k) (annot (csstok_name.cuts w0 k) csstok_name.body) (entry (io1.enc v).1 (io1.enc v).2) (endK (csstok_name.kr w0 k)) := by
  intro v; kernel_rfl
theorem csstok_name.hb : Tryd.f146.body = some csstok_name.body := by kernel_rfl
def tab13 (k : Nat) : Tab T := addTab 146 (line io1 io13 ([], (0 : Int)) (fun v => csstok_name k v)) (tab12 k)
def csstok_named (k : Nat) (a1 : Int) (a2 : List UInt8) (a3 : Int) : Option (Int × (List UInt8) × (List UInt8) × Int) :=
cond (decide (0 ≤ a3 ∧ a3 ≤ (a2.length : Int))) (
(csstok_name k (a2.drop a3.toNat)).bind fun r4 =>
let v5 : Int := (IntKind.wrap .i64 (a3 + r4.2))
cond (decide (0 ≤ v5 ∧ v5 ≤ (a2.length : Int))) (
some (a1, (a2.take v5.toNat), r4.1, (0 : Int))) none) none
def csstok_named.kr (w0 : World) (k : Nat) : Kr T (Int × (List UInt8) × (List UInt8) × Int) := (kret (retK (cfg w0 (tab13 k)) Tryd.f107.results.toList 0 [] io9.pat))
def csstok_named.cuts (w0 : World) (k : Nat) : Cuts T (Int × (List UInt8) × (List UInt8) × Int) := fun n => none
def csstok_named.body : Code := bodyOf Tryd.f107
theorem csstok_named.e (w0 : World) (k : Nat) : ∀ v, (fun v => csstok_named k v.1 v.2.1 v.2.2) v = runK (cfg w0 (tab13 k)) Tryd.f107.ntmps (csstok_named.kr w0 k) (annot (csstok_named.cuts w0 k) csstok_named.body) (entry (io16.enc v).1 (io16.enc v).2) (endK (csstok_named.kr w0 k)) := by
  intro v; kernel_rfl
theorem csstok_named.hb : Tryd.f107.body = some csstok_named.body := by kernel_rfl
def tab14 (k : Nat) : Tab T := addTab 107 (line io16 io9 ((0 : Int), [], [], (0 : Int)) (fun v => csstok_named k v.1 v.2.1 v.2.2)) (tab13 k)
def csstok_begins (k : Nat) (a1 : List UInt8) : Option (Bool) :=
cond (a1 == ([] : List UInt8)) (
some false) (
cond (decide (0 ≤ (0 : Int) ∧ (0 : Int) < (a1.length : Int))) (
let v2 : Int := ((a1.getD (0 : Int).toNat 0).toNat : Int)
let v3 : Bool := (decide ((a1.length : Int) > (1 : Int)))
let v4 : Bool := (cond (v2 == (45 : Int)) v3 false)
cond v4 (
cond (decide (0 ≤ (1 : Int) ∧ (1 : Int) < (a1.length : Int))) (
let v5 : Int := ((a1.getD (1 : Int).toNat 0).toNat : Int)
cond ((decide (0 ≤ (1 : Int) ∧ (1 : Int) < (a1.length : Int))) || !(!(v5 == (45 : Int)))) (
let v6 : Int := ((a1.getD (1 : Int).toNat 0).toNat : Int)
(cond (!(v5 == (45 : Int))) (csstok_starts k v6) (some false)).bind fun r7 =>
let v8 : Bool := (cond (v5 == (45 : Int)) true r7)
cond ((decide (0 ≤ (1 : Int) ∧ (1 : Int) ≤ (a1.length : Int))) || !(!v8)) (
(cond (!v8) (csstok_escape k (a1.drop (1 : Int).toNat)) (some false)).bind fun r9 =>
some (cond v8 true r9)) none) none) none) (
cond (decide (0 ≤ (0 : Int) ∧ (0 : Int) < (a1.length : Int))) (
let v10 : Int := ((a1.getD (0 : Int).toNat 0).toNat : Int)
(csstok_starts k v10).bind fun r11 =>
(cond (!r11) (csstok_escape k a1) (some false)).bind fun r12 =>
some (cond r11 true r12)) none)) none)
def csstok_begins.kr (w0 : World) (k : Nat) : Kr T (Bool) := (kret (retK (cfg w0 (tab14 k)) Tryd.f108.results.toList 0 [] io2.pat))
def csstok_begins.cuts (w0 : World) (k : Nat) : Cuts T (Bool) := fun n => none
def csstok_begins.body : Code := bodyOf Tryd.f108
theorem csstok_begins.e (w0 : World) (k : Nat) : ∀ v, (fun v => csstok_begins k v) v = runK (cfg w0 (tab14 k)) Tryd.f108.ntmps (csstok_begins.kr w0 k) (annot (csstok_begins.cuts w0 k) csstok_begins.body) (entry (io1.enc v).1 (io1.enc v).2) (endK (csstok_begins.kr w0 k)) := by
  intro v; kernel_rfl
theorem csstok_begins.hb : Tryd.f108.body = some csstok_begins.body := by kernel_rfl
def tab15 (k : Nat) : Tab T := addTab 108 (line io1 io2 false (fun v => csstok_begins k v)) (tab14 k)
def csstok_digits (k : Nat) (a1 : List UInt8) : Option (Int) :=
(strings_TrimLeft k a1 ([48, 49, 50, 51, 52, 53, 54, 55, 56, 57] : List UInt8)).bind fun r2 =>
let v3 : Int := (IntKind.wrap .i64 ((a1.length : Int) - (r2.length : Int)))
some v3
def csstok_digits.kr (w0 : World) (k : Nat) : Kr T (Int) := (kret (retK (cfg w0 (tab15 k)) Tryd.f147.results.toList 0 [] io4.pat))
def csstok_digits.cuts (w0 : World) (k : Nat) : Cuts T (Int) := fun n => none
def csstok_digits.body : Code := bodyOf Tryd.f147
theorem csstok_digits.e (w0 : World) (k : Nat) : ∀ v, (fun v => csstok_digits k v) v = runK (cfg w0 (tab15 k)) Tryd.f147.ntmps (csstok_digits.kr w0 k) (annot (csstok_digits.cuts w0 k) csstok_digits.body) (entry (io1.enc v).1 (io1.enc v).2) (endK (csstok_digits.kr w0 k)) := by
  intro v; kernel_rfl
theorem csstok_digits.hb : Tryd.f147.body = some csstok_digits.body := by kernel_rfl
def tab16 (k : Nat) : Tab T := addTab 147 (line io1 io4 (0 : Int) (fun v => csstok_digits k v)) (tab15 k)
def strings_HasPrefix (k : Nat) (a1 : List UInt8) (a2 : List UInt8) : Option (Bool) :=
(stringslite_HasPrefix k a1 a2).bind fun r3 =>
some r3
def strings_HasPrefix.kr (w0 : World) (k : Nat) : Kr T (Bool) := (kret (retK (cfg w0 (tab16 k)) Tryd.f92.results.toList 0 [] io2.pat))
def strings_HasPrefix.cuts (w0 : World) (k : Nat) : Cuts T (Bool) := fun n => none
def strings_HasPrefix.body : Code := bodyOf Tryd.f92
theorem strings_HasPrefix.e (w0 : World) (k : Nat) : ∀ v, (fun v => strings_HasPrefix k v.1 v.2) v = runK (cfg w0 (tab16 k)) Tryd.f92.ntmps (strings_HasPrefix.kr w0 k) (annot (strings_HasPrefix.cuts w0 k) strings_HasPrefix.body) (entry (io0.enc v).1 (io0.enc v).2) (endK (strings_HasPrefix.kr w0 k)) := by
  intro v; kernel_rfl
theorem strings_HasPrefix.hb : Tryd.f92.body = some strings_HasPrefix.body := by kernel_rfl
def tab17 (k : Nat) : Tab T := addTab 92 (line io0 io2 false (fun v => strings_HasPrefix k v.1 v.2)) (tab16 k)
def csstok_Number_1 (k : Nat) (a1 : Int) (a2 : Int) : Option (Int) :=
let v3 : Int := (IntKind.wrap .i64 ((10 : Int) * a2))
let v4 : Int := (IntKind.wrap .u8 (a1 - (48 : Int)))
let v5 : Int := (IntKind.wrap .i64 (v3 + (IntKind.wrap .i64 v4)))
let v6 : Int := (if (1000000000 : Int) < v5 then (1000000000 : Int) else v5)
some v6
def csstok_Number_1.kr (w0 : World) (k : Nat) : Kr T (Int) := (kret (retK (cfg w0 (tab17 k)) Tryd.f148.results.toList 1 [] io18.pat))
def csstok_Number_1.cuts (w0 : World) (k : Nat) : Cuts T (Int) := fun n => none
def csstok_Number_1.body : Code := bodyOf Tryd.f148
theorem csstok_Number_1.e (w0 : World) (k : Nat) : ∀ v, (fun v => csstok_Number_1 k v.1 v.2) v = runK (cfg w0 (tab17 k)) Tryd.f148.ntmps (csstok_Number_1.kr w0 k) (annot (csstok_Number_1.cuts w0 k) csstok_Number_1.body) (entry (io17.enc v).1 (io17.enc v).2) (endK (csstok_Number_1.kr w0 k)) := by
  intro v; kernel_rfl
theorem csstok_Number_1.hb : Tryd.f148.body = some csstok_Number_1.body := by kernel_rfl
def tab18 (k : Nat) : Tab T := addTab 148 (line io17 io18 (0 : Int) (fun v => csstok_Number_1 k v.1 v.2)) (tab17 k)
def csstok_Number.c29 (k : Nat) : Nat → (List UInt8) → Int → Int → Int → Int → Int → Int → (List Int) → ((List UInt8) → Int → Int → Int → Int → Option (Int × Int)) → Option (Int × Int)
  | 0, _, _, _, _, _, _, _, _, _ => none
  | n + 1, x19, x20, x21, x22, x23, x24, x25, x26, k0 =>
    cond (decide (x24 < x23)) (
    cond (decide (0 ≤ x24 ∧ x24 < (x26.length : Int))) (
    (csstok_Number_1 k (x26.getD x24.toNat (0 : Int)) x25).bind fun r27 =>
    let v28 : Int := (IntKind.wrap .i64 (x24 + (1 : Int)))
    csstok_Number.c29 k n x19 x20 x21 x22 x23 v28 r27 x26 k0) none) (
    k0 x19 x20 x21 x22 x25)
def csstok_Number.c49 (k : Nat) : Nat → (List UInt8) → Int → (List UInt8) → Int → Int → ((List UInt8) → Int → Int → Option (Int × Int)) → Option (Int × Int)
  | 0, _, _, _, _, _, _ => none
  | n + 1, x45, x46, x47, x48, x49, k2 =>
    cond (decide (x48 < (3 : Int))) (
    let v50 : Bool := (decide (x48 < (x47.length : Int)))
    cond v50 (
    cond (decide (0 ≤ x48 ∧ x48 < (x47.length : Int))) (
    let v51 : Int := ((x47.getD x48.toNat 0).toNat : Int)
    (csstok_Number_1 k v51 x49).bind fun r52 =>
    let v53 : Int := (IntKind.wrap .i64 (x48 + (1 : Int)))
    csstok_Number.c49 k n x45 x46 x47 v53 r52 k2) none) (
    (csstok_Number_1 k (48 : Int) x49).bind fun r54 =>
    let v55 : Int := (IntKind.wrap .i64 (x48 + (1 : Int)))
    csstok_Number.c49 k n x45 x46 x47 v55 r54 k2)) (
    k2 x45 x46 x49)
def csstok_Number.c64 (k : Nat) (x60 : Int) (x61 : Int)  : Option (Int × Int) :=
some (x61, x60)
def csstok_Number.c46 (k : Nat) (x41 : List UInt8) (x42 : Int) (x43 : List UInt8) (x44 : Int)  : Option (Int × Int) :=
csstok_Number.c49 k k x41 x42 x43 (0 : Int) x44 (fun (y56 : List UInt8) (y57 : Int) (y58 : Int) =>
cond (decide (0 ≤ (0 : Int) ∧ (0 : Int) < (y56.length : Int))) (
let v59 : Int := ((y56.getD (0 : Int).toNat 0).toNat : Int)
cond (v59 == (45 : Int)) (
csstok_Number.c64 k y57 (IntKind.wrap .i64 (0 - y58))) (
csstok_Number.c64 k y57 y58)) none)
def csstok_Number.c18 (k : Nat) (x12 : List UInt8) (x13 : Int) (x14 : Int) (x15 : Int)  : Option (Int × Int) :=
let v16 : Int := (IntKind.wrap .i64 (x14 + x15))
cond (v16 == (0 : Int)) (
some ((0 : Int), (0 : Int))) (
let v17 : Int := (IntKind.wrap .i64 (x13 + x14))
cond (decide (0 ≤ x13 ∧ x13 ≤ v17 ∧ v17 ≤ (x12.length : Int))) (
let v18 : List UInt8 := ((x12.take v17.toNat).drop x13.toNat)
csstok_Number.c29 k k x12 x13 x14 x15 ((bytesI v18).length : Int) (0 : Int) (0 : Int) (bytesI v18) (fun (y29 : List UInt8) (y30 : Int) (y31 : Int) (y32 : Int) (y33 : Int) =>
let v34 : Int := (IntKind.wrap .i64 (y30 + y31))
cond (decide (y32 > (0 : Int))) (
let v35 : Int := (IntKind.wrap .i64 (v34 + (1 : Int)))
let v36 : Int := (IntKind.wrap .i64 (v34 + (1 : Int)))
let v37 : Int := (IntKind.wrap .i64 (v36 + y32))
cond (decide (0 ≤ v35 ∧ v35 ≤ v37 ∧ v37 ≤ (y29.length : Int))) (
let v38 : List UInt8 := ((y29.take v37.toNat).drop v35.toNat)
let v39 : Int := (IntKind.wrap .i64 ((1 : Int) + y32))
let v40 : Int := (IntKind.wrap .i64 (v34 + v39))
csstok_Number.c46 k y29 v40 v38 y33) none) (
csstok_Number.c46 k y29 v34 ([] : List UInt8) y33))) none)
def csstok_Number.c8 (k : Nat) (x6 : List UInt8) (x7 : Int)  : Option (Int × Int) :=
cond (decide (0 ≤ x7 ∧ x7 ≤ (x6.length : Int))) (
(csstok_digits k (x6.drop x7.toNat)).bind fun r8 =>
cond (decide (0 ≤ (IntKind.wrap .i64 (x7 + r8)) ∧ (IntKind.wrap .i64 (x7 + r8)) ≤ (x6.length : Int))) (
let v9 : List UInt8 := (x6.drop (IntKind.wrap .i64 (x7 + r8)).toNat)
(strings_HasPrefix k v9 ([46] : List UInt8)).bind fun r10 =>
cond r10 (
cond (decide (0 ≤ (1 : Int) ∧ (1 : Int) ≤ (v9.length : Int))) (
(csstok_digits k (v9.drop (1 : Int).toNat)).bind fun r11 =>
csstok_Number.c18 k x6 x7 r8 r11) none) (
csstok_Number.c18 k x6 x7 r8 (0 : Int))) none) none
def csstok_Number (k : Nat) (a1 : List UInt8) : Option (Int × Int) :=
cond ((decide (0 ≤ (0 : Int) ∧ (0 : Int) < (a1.length : Int))) || !(!(a1 == ([] : List UInt8)))) (
let v2 : Int := ((a1.getD (0 : Int).toNat 0).toNat : Int)
cond ((decide (0 ≤ (0 : Int) ∧ (0 : Int) < (a1.length : Int))) || !((!(a1 == ([] : List UInt8))) && (!(v2 == (43 : Int))))) (
let v3 : Int := ((a1.getD (0 : Int).toNat 0).toNat : Int)
let v4 : Bool := (cond (v2 == (43 : Int)) true (v3 == (45 : Int)))
let v5 : Bool := (cond (!(a1 == ([] : List UInt8))) v4 false)
cond v5 (
csstok_Number.c8 k a1 (1 : Int)) (
csstok_Number.c8 k a1 (0 : Int))) none) none
def csstok_Number.kr (w0 : World) (k : Nat) : Kr T (Int × Int) := (kret (retK (cfg w0 (tab18 k)) Tryd.f109.results.toList 0 [] io19.pat))
def csstok_Number.x29 : Ex → Option (List Nat × List Sp)
  | .exit 0 => some ([0, 4, 5, 6, 8, 9], [])
  | _ => none
def csstok_Number.L29 (k : Nat) (n : Nat) (v : (List UInt8) × Int × Int × Int × Int × Int × Int × (List Int)) (K : Ex → St T → Option (Int × Int)) : Option (Int × Int) := csstok_Number.c29 k n v.1 v.2.1 v.2.2.1 v.2.2.2.1 v.2.2.2.2.1 v.2.2.2.2.2.1 v.2.2.2.2.2.2.1 v.2.2.2.2.2.2.2 (fun y27 y28 y29 y30 y31 => K (.exit 0) (mkSt [0, 4, 5, 6, 8, 9] (io21.enc (y27, y28, y29, y30, y31))))
def csstok_Number.x49 : Ex → Option (List Nat × List Sp)
  | .exit 2 => some ([0, 8, 12], [])
  | _ => none
def csstok_Number.L49 (k : Nat) (n : Nat) (v : (List UInt8) × Int × (List UInt8) × Int × Int) (K : Ex → St T → Option (Int × Int)) : Option (Int × Int) := csstok_Number.c49 k n v.1 v.2.1 v.2.2.1 v.2.2.2.1 v.2.2.2.2 (fun y32 y33 y34 => K (.exit 2) (mkSt [0, 8, 12] (io23.enc (y32, y33, y34))))
def csstok_Number.x64 : Ex → Option (List Nat × List Sp)
  | _ => none
def csstok_Number.L64 (k : Nat) (v : Int × Int) (K : Ex → St T → Option (Int × Int)) : Option (Int × Int) := csstok_Number.c64 k v.1 v.2
def csstok_Number.x46 : Ex → Option (List Nat × List Sp)
  | _ => none
def csstok_Number.L46 (k : Nat) (v : (List UInt8) × Int × (List UInt8) × Int) (K : Ex → St T → Option (Int × Int)) : Option (Int × Int) := csstok_Number.c46 k v.1 v.2.1 v.2.2.1 v.2.2.2
def csstok_Number.x18 : Ex → Option (List Nat × List Sp)
  | _ => none
def csstok_Number.L18 (k : Nat) (v : (List UInt8) × Int × Int × Int) (K : Ex → St T → Option (Int × Int)) : Option (Int × Int) := csstok_Number.c18 k v.1 v.2.1 v.2.2.1 v.2.2.2
def csstok_Number.x8 : Ex → Option (List Nat × List Sp)
  | _ => none
def csstok_Number.L8 (k : Nat) (v : (List UInt8) × Int) (K : Ex → St T → Option (Int × Int)) : Option (Int × Int) := csstok_Number.c8 k v.1 v.2
def csstok_Number.cuts (w0 : World) (k : Nat) : Cuts T (Int × Int) := fun n => bif n.beq 29 then some (entK (cfg w0 (tab18 k)) 0 [0, 4, 5, 6, 8, 9, 52, 53, 54] [] io20.pat (csstok_Number.L29 k k)) else bif n.beq 49 then some (entK (cfg w0 (tab18 k)) 0 [0, 8, 9, 12, 13, 79] [] io22.pat (csstok_Number.L49 k k)) else bif n.beq 64 then some (entK (cfg w0 (tab18 k)) 0 [8, 12] [] io24.pat (csstok_Number.L64 k)) else bif n.beq 46 then some (entK (cfg w0 (tab18 k)) 0 [0, 8, 9, 12, 13] [] io25.pat (csstok_Number.L46 k)) else bif n.beq 18 then some (entK (cfg w0 (tab18 k)) 0 [0, 4, 5, 6] [] io26.pat (csstok_Number.L18 k)) else bif n.beq 8 then some (entK (cfg w0 (tab18 k)) 0 [0, 4] [] io13.pat (csstok_Number.L8 k)) else none
def csstok_Number.body : Code := bodyOf Tryd.f109
def csstok_Number.b29 : Code := findD 29 csstok_Number.body
theorem csstok_Number.s29 (w0 : World) (k : Nat) : ∀ n v K, csstok_Number.L29 k (n + 1) v K = runK (cfg w0 (tab18 k)) Tryd.f109.ntmps (csstok_Number.kr w0 k) (annot (csstok_Number.cuts w0 k) csstok_Number.b29) (mkSt [0, 4, 5, 6, 8, 9, 52, 53, 54] (io20.enc v)) (loopK (cfg w0 (tab18 k)) 0 csstok_Number.x29 (entK (cfg w0 (tab18 k)) 0 [0, 4, 5, 6, 8, 9, 52, 53, 54] [] io20.pat (csstok_Number.L29 k n)) K) := by
  intro n v K; kernel_rfl
def csstok_Number.b49 : Code := findD 49 csstok_Number.body
theorem csstok_Number.s49 (w0 : World) (k : Nat) : ∀ n v K, csstok_Number.L49 k (n + 1) v K = runK (cfg w0 (tab18 k)) Tryd.f109.ntmps (csstok_Number.kr w0 k) (annot (csstok_Number.cuts w0 k) csstok_Number.b49) (mkSt [0, 8, 9, 12, 13, 79] (io22.enc v)) (loopK (cfg w0 (tab18 k)) 0 csstok_Number.x49 (entK (cfg w0 (tab18 k)) 0 [0, 8, 9, 12, 13, 79] [] io22.pat (csstok_Number.L49 k n)) K) := by
  intro n v K; kernel_rfl
def csstok_Number.b64 : Code := findD 64 csstok_Number.body
theorem csstok_Number.s64 (w0 : World) (k : Nat) : ∀ v K, csstok_Number.L64 k v K = runK (cfg w0 (tab18 k)) Tryd.f109.ntmps (csstok_Number.kr w0 k) (annot (csstok_Number.cuts w0 k) csstok_Number.b64) (mkSt [8, 12] (io24.enc v)) (outK (cfg w0 (tab18 k)) 0 csstok_Number.x64 K) := by
  intro v K; kernel_rfl
def csstok_Number.b46 : Code := findD 46 csstok_Number.body
theorem csstok_Number.s46 (w0 : World) (k : Nat) : ∀ v K, csstok_Number.L46 k v K = runK (cfg w0 (tab18 k)) Tryd.f109.ntmps (csstok_Number.kr w0 k) (annot (csstok_Number.cuts w0 k) csstok_Number.b46) (mkSt [0, 8, 9, 12, 13] (io25.enc v)) (outK (cfg w0 (tab18 k)) 0 csstok_Number.x46 K) := by
  intro v K; kernel_rfl
def csstok_Number.b18 : Code := findD 18 csstok_Number.body
theorem csstok_Number.s18 (w0 : World) (k : Nat) : ∀ v K, csstok_Number.L18 k v K = runK (cfg w0 (tab18 k)) Tryd.f109.ntmps (csstok_Number.kr w0 k) (annot (csstok_Number.cuts w0 k) csstok_Number.b18) (mkSt [0, 4, 5, 6] (io26.enc v)) (outK (cfg w0 (tab18 k)) 0 csstok_Number.x18 K) := by
  intro v K; kernel_rfl
def csstok_Number.b8 : Code := findD 8 csstok_Number.body
theorem csstok_Number.s8 (w0 : World) (k : Nat) : ∀ v K, csstok_Number.L8 k v K = runK (cfg w0 (tab18 k)) Tryd.f109.ntmps (csstok_Number.kr w0 k) (annot (csstok_Number.cuts w0 k) csstok_Number.b8) (mkSt [0, 4] (io13.enc v)) (outK (cfg w0 (tab18 k)) 0 csstok_Number.x8 K) := by
  intro v K; kernel_rfl
theorem csstok_Number.e (w0 : World) (k : Nat) : ∀ v, (fun v => csstok_Number k v) v = runK (cfg w0 (tab18 k)) Tryd.f109.ntmps (csstok_Number.kr w0 k) (annot (csstok_Number.cuts w0 k) csstok_Number.body) (entry (io1.enc v).1 (io1.enc v).2) (endK (csstok_Number.kr w0 k)) := by
  intro v; kernel_rfl
theorem csstok_Number.hb : Tryd.f109.body = some csstok_Number.body := by kernel_rfl
def tab19 (k : Nat) : Tab T := addTab 109 (line io1 io19 ((0 : Int), (0 : Int)) (fun v => csstok_Number k v)) (tab18 k)
def csstok_lower.c7 (k : Nat) : Nat → Int → Int → (List Int) → ((List Int) → Option (List UInt8)) → Option (List UInt8)
  | 0, _, _, _, _ => none
  | n + 1, x2, x3, x4, k0 =>
    cond (decide (x3 < x2)) (
    cond (decide (0 ≤ x3 ∧ x3 < (x4.length : Int))) (
    let v5 : Bool := (decide ((x4.getD x3.toNat (0 : Int)) ≥ (65 : Int)))
    let v6 : Bool := (decide ((x4.getD x3.toNat (0 : Int)) ≤ (90 : Int)))
    cond (cond v5 v6 false) (
    let v7 : Int := (IntKind.wrap .u8 ((x4.getD x3.toNat (0 : Int)) + (32 : Int)))
    cond (decide (0 ≤ x3 ∧ x3 < (x4.length : Int))) (
    let v8 : Int := (IntKind.wrap .i64 (x3 + (1 : Int)))
    csstok_lower.c7 k n x2 v8 (x4.set x3.toNat v7) k0) none) (
    let v9 : Int := (IntKind.wrap .i64 (x3 + (1 : Int)))
    csstok_lower.c7 k n x2 v9 x4 k0)) none) (
    k0 x4)
def csstok_lower (k : Nat) (a1 : List UInt8) : Option (List UInt8) :=
csstok_lower.c7 k k ((bytesI a1).length : Int) (0 : Int) (bytesI a1) (fun (y10 : List Int) =>
some (bytesU y10))
def csstok_lower.kr (w0 : World) (k : Nat) : Kr T (List UInt8) := (kret (retK (cfg w0 (tab19 k)) Tryd.f149.results.toList 0 [] io1.pat))
def csstok_lower.x7 : Ex → Option (List Nat × List Sp)
  | .exit 0 => some ([3], [])
  | _ => none
def csstok_lower.L7 (k : Nat) (n : Nat) (v : Int × Int × (List Int)) (K : Ex → St T → Option (List UInt8)) : Option (List UInt8) := csstok_lower.c7 k n v.1 v.2.1 v.2.2 (fun y35 => K (.exit 0) (mkSt [3] (io28.enc y35)))
def csstok_lower.cuts (w0 : World) (k : Nat) : Cuts T (List UInt8) := fun n => bif n.beq 7 then some (entK (cfg w0 (tab19 k)) 0 [3, 8, 9, 10] [] io27.pat (csstok_lower.L7 k k)) else none
def csstok_lower.body : Code := bodyOf Tryd.f149
def csstok_lower.b7 : Code := findD 7 csstok_lower.body
theorem csstok_lower.s7 (w0 : World) (k : Nat) : ∀ n v K, csstok_lower.L7 k (n + 1) v K = runK (cfg w0 (tab19 k)) Tryd.f149.ntmps (csstok_lower.kr w0 k) (annot (csstok_lower.cuts w0 k) csstok_lower.b7) (mkSt [3, 8, 9, 10] (io27.enc v)) (loopK (cfg w0 (tab19 k)) 0 csstok_lower.x7 (entK (cfg w0 (tab19 k)) 0 [3, 8, 9, 10] [] io27.pat (csstok_lower.L7 k n)) K) := by
  intro n v K; kernel_rfl
theorem csstok_lower.e (w0 : World) (k : Nat) : ∀ v, (fun v => csstok_lower k v) v = runK (cfg w0 (tab19 k)) Tryd.f149.ntmps (csstok_lower.kr w0 k) (annot (csstok_lower.cuts w0 k) csstok_lower.body) (entry (io1.enc v).1 (io1.enc v).2) (endK (csstok_lower.kr w0 k)) := by
  intro v; kernel_rfl
theorem csstok_lower.hb : Tryd.f149.body = some csstok_lower.body := by kernel_rfl
def tab20 (k : Nat) : Tab T := addTab 149 (line io1 io1 [] (fun v => csstok_lower k v)) (tab19 k)
def csstok_number.c16 (k : Nat) (x6 : Int) (x7 : List UInt8) (x8 : List UInt8) (x9 : Int) (x10 : Int) (x11 : List UInt8) (x12 : List UInt8) (x13 : Int)  : Option (Int × (List UInt8) × (List UInt8) × Int) :=
some (x10, x11, x12, x13)
def csstok_number (k : Nat) (a1 : List UInt8) (a2 : Int) (a3 : Int) : Option (Int × (List UInt8) × (List UInt8) × Int) :=
cond (decide (0 ≤ a3 ∧ a3 ≤ (a1.length : Int))) (
cond (decide (0 ≤ a3 ∧ a3 ≤ (a1.length : Int))) (
(strings_HasPrefix k (a1.drop a3.toNat) ([37] : List UInt8)).bind fun r4 =>
cond r4 (
let v5 : Int := (IntKind.wrap .i64 (a3 + (1 : Int)))
cond (decide (0 ≤ v5 ∧ v5 ≤ (a1.length : Int))) (
csstok_number.c16 k (0 : Int) ([]) ([]) (0 : Int) (7 : Int) (a1.take v5.toNat) ([37] : List UInt8) a2) none) (
(csstok_begins k (a1.drop a3.toNat)).bind fun r14 =>
cond r14 (
(csstok_name k (a1.drop a3.toNat)).bind fun r15 =>
let v16 : Int := (IntKind.wrap .i64 (a3 + r15.2))
cond (decide (0 ≤ v16 ∧ v16 ≤ (a1.length : Int))) (
(csstok_lower k r15.1).bind fun r17 =>
csstok_number.c16 k (0 : Int) ([]) ([]) (0 : Int) (7 : Int) (a1.take v16.toNat) r17 a2) none) (
csstok_number.c16 k (0 : Int) ([]) ([]) (0 : Int) (7 : Int) (a1.take a3.toNat) ([]) a2))) none) none
def csstok_number.kr (w0 : World) (k : Nat) : Kr T (Int × (List UInt8) × (List UInt8) × Int) := (kret (retK (cfg w0 (tab20 k)) Tryd.f110.results.toList 0 [] io9.pat))
def csstok_number.x16 : Ex → Option (List Nat × List Sp)
  | _ => none
def csstok_number.L16 (k : Nat) (v : Int × (List UInt8) × (List UInt8) × Int × Int × (List UInt8) × (List UInt8) × Int) (K : Ex → St T → Option (Int × (List UInt8) × (List UInt8) × Int)) : Option (Int × (List UInt8) × (List UInt8) × Int) := csstok_number.c16 k v.1 v.2.1 v.2.2.1 v.2.2.2.1 v.2.2.2.2.1 v.2.2.2.2.2.1 v.2.2.2.2.2.2.1 v.2.2.2.2.2.2.2
def csstok_number.cuts (w0 : World) (k : Nat) : Cuts T (Int × (List UInt8) × (List UInt8) × Int) := fun n => bif n.beq 16 then some (entK (cfg w0 (tab20 k)) 0 [6, 7] [] io30.pat (csstok_number.L16 k)) else none
def csstok_number.body : Code := bodyOf Tryd.f110
def csstok_number.b16 : Code := findD 16 csstok_number.body
theorem csstok_number.s16 (w0 : World) (k : Nat) : ∀ v K, csstok_number.L16 k v K = runK (cfg w0 (tab20 k)) Tryd.f110.ntmps (csstok_number.kr w0 k) (annot (csstok_number.cuts w0 k) csstok_number.b16) (mkSt [6, 7] (io30.enc v)) (outK (cfg w0 (tab20 k)) 0 csstok_number.x16 K) := by
  intro v K; kernel_rfl
theorem csstok_number.e (w0 : World) (k : Nat) : ∀ v, (fun v => csstok_number k v.1 v.2.1 v.2.2) v = runK (cfg w0 (tab20 k)) Tryd.f110.ntmps (csstok_number.kr w0 k) (annot (csstok_number.cuts w0 k) csstok_number.body) (entry (io29.enc v).1 (io29.enc v).2) (endK (csstok_number.kr w0 k)) := by
  intro v; kernel_rfl
theorem csstok_number.hb : Tryd.f110.body = some csstok_number.body := by kernel_rfl
def tab21 (k : Nat) : Tab T := addTab 110 (line io29 io9 ((0 : Int), [], [], (0 : Int)) (fun v => csstok_number k v.1 v.2.1 v.2.2)) (tab20 k)
def csstok_first_1 (k : Nat) (a1 : Int) (a2 : List UInt8) : Option (Int × (List UInt8) × (List UInt8) × Int × (List UInt8)) :=
cond (decide (0 ≤ (1 : Int) ∧ (1 : Int) ≤ (a2.length : Int))) (
some (a1, (a2.take (1 : Int).toNat), [], (0 : Int), a2)) none
def csstok_first_1.kr (w0 : World) (k : Nat) : Kr T (Int × (List UInt8) × (List UInt8) × Int × (List UInt8)) := (kret (retK (cfg w0 (tab21 k)) Tryd.f101.results.toList 1 [] io32.pat))
def csstok_first_1.cuts (w0 : World) (k : Nat) : Cuts T (Int × (List UInt8) × (List UInt8) × Int × (List UInt8)) := fun n => none
def csstok_first_1.body : Code := bodyOf Tryd.f101
theorem csstok_first_1.e (w0 : World) (k : Nat) : ∀ v, (fun v => csstok_first_1 k v.1 v.2) v = runK (cfg w0 (tab21 k)) Tryd.f101.ntmps (csstok_first_1.kr w0 k) (annot (csstok_first_1.cuts w0 k) csstok_first_1.body) (entry (io31.enc v).1 (io31.enc v).2) (endK (csstok_first_1.kr w0 k)) := by
  intro v; kernel_rfl
theorem csstok_first_1.hb : Tryd.f101.body = some csstok_first_1.body := by kernel_rfl
def tab22 (k : Nat) : Tab T := addTab 101 (line io31 io32 ((0 : Int), [], [], (0 : Int), []) (fun v => csstok_first_1 k v.1 v.2)) (tab21 k)
def csstok_first.c20 (k : Nat) (x7 : List UInt8) (x8 : Int) (x9 : List UInt8) (x10 : List UInt8) (x11 : Int)  : Option (Int × (List UInt8) × (List UInt8) × Int) :=
some ((9 : Int), x7, [], (0 : Int))
def csstok_first.c52 (k : Nat) (x32 : Int) (x33 : List UInt8) (x34 : List UInt8) (x35 : Int) (x36 : Int) (x37 : List UInt8) (x38 : List UInt8) (x39 : Int)  : Option (Int × (List UInt8) × (List UInt8) × Int) :=
some (x36, x37, x38, x39)
def csstok_first.c76 (k : Nat) (x44 : Int) (x45 : List UInt8) (x46 : List UInt8) (x47 : Int) (x48 : List UInt8)  : Option (Int × (List UInt8) × (List UInt8) × Int) :=
(csstok_first_1 k (12 : Int) x48).bind fun r49 =>
some (r49.1, r49.2.1, r49.2.2.1, r49.2.2.2.1)
def csstok_first (k : Nat) (a1 : List UInt8) : Option (Int × (List UInt8) × (List UInt8) × Int) :=
(strings_TrimLeft k a1 ([32, 9, 10, 12, 13] : List UInt8)).bind fun r2 =>
let v3 : Int := (IntKind.wrap .i64 ((a1.length : Int) - (r2.length : Int)))
cond (decide (v3 > (0 : Int))) (
cond (decide (0 ≤ v3 ∧ v3 ≤ (a1.length : Int))) (
some ((8 : Int), (a1.take v3.toNat), [], (0 : Int))) none) (
(strings_CutPrefix k a1 ([47, 42] : List UInt8)).bind fun r4 =>
cond r4.2 (
(strings_Index k r4.1 ([42, 47] : List UInt8)).bind fun r5 =>
cond (decide (r5 ≥ (0 : Int))) (
let v6 : Int := (IntKind.wrap .i64 (r5 + (4 : Int)))
cond (decide (0 ≤ v6 ∧ v6 ≤ (a1.length : Int))) (
csstok_first.c20 k (a1.take v6.toNat) (0 : Int) ([]) ([]) (0 : Int)) none) (
csstok_first.c20 k a1 (0 : Int) ([]) ([]) (0 : Int))) (
cond (decide (0 ≤ (0 : Int) ∧ (0 : Int) < (a1.length : Int))) (
let v12 : Int := ((a1.getD (0 : Int).toNat 0).toNat : Int)
let v13 : Bool := (cond (v12 == (39 : Int)) true (v12 == (34 : Int)))
cond v13 (
(csstok_text k a1).bind fun r14 =>
some (r14.1, r14.2.1, r14.2.2.1, r14.2.2.2)) (
let v15 : Bool := (decide ((a1.length : Int) > (1 : Int)))
let v16 : Bool := (cond (v12 == (35 : Int)) v15 false)
cond ((decide (0 ≤ (1 : Int) ∧ (1 : Int) < (a1.length : Int))) || !v16) (
let v17 : Int := ((a1.getD (1 : Int).toNat 0).toNat : Int)
(cond v16 (csstok_sign k v17) (some false)).bind fun r18 =>
cond ((decide (0 ≤ (1 : Int) ∧ (1 : Int) ≤ (a1.length : Int))) || !(v16 && (!r18))) (
(cond (v16 && (!r18)) (csstok_escape k (a1.drop (1 : Int).toNat)) (some false)).bind fun r19 =>
let v20 : Bool := (cond v16 (cond r18 true r19) false)
cond v20 (
(csstok_named k (4 : Int) a1 (1 : Int)).bind fun r21 =>
some (r21.1, r21.2.1, r21.2.2.1, r21.2.2.2)) (
cond ((decide (0 ≤ (1 : Int) ∧ (1 : Int) ≤ (a1.length : Int))) || !(v12 == (64 : Int))) (
(cond (v12 == (64 : Int)) (csstok_begins k (a1.drop (1 : Int).toNat)) (some false)).bind fun r22 =>
let v23 : Bool := (cond (v12 == (64 : Int)) r22 false)
cond v23 (
(csstok_named k (3 : Int) a1 (1 : Int)).bind fun r24 =>
some (r24.1, r24.2.1, r24.2.2.1, r24.2.2.2)) (
(csstok_Number k a1).bind fun r25 =>
cond (decide (r25.2 > (0 : Int))) (
(csstok_number k a1 r25.1 r25.2).bind fun r26 =>
some (r26.1, r26.2.1, r26.2.2.1, r26.2.2.2)) (
(csstok_begins k a1).bind fun r27 =>
cond r27 (
(csstok_named k (1 : Int) a1 (0 : Int)).bind fun r28 =>
cond (decide (0 ≤ (r28.2.1.length : Int) ∧ (r28.2.1.length : Int) ≤ (a1.length : Int))) (
let v29 : List UInt8 := (a1.drop (r28.2.1.length : Int).toNat)
(strings_HasPrefix k v29 ([40] : List UInt8)).bind fun r30 =>
cond r30 (
let v31 : Int := (IntKind.wrap .i64 ((r28.2.1.length : Int) + (1 : Int)))
cond (decide (0 ≤ v31 ∧ v31 ≤ (a1.length : Int))) (
csstok_first.c52 k (0 : Int) ([]) ([]) (0 : Int) (2 : Int) (a1.take v31.toNat) r28.2.2.1 r28.2.2.2) none) (
csstok_first.c52 k (0 : Int) ([]) ([]) (0 : Int) r28.1 r28.2.1 r28.2.2.1 r28.2.2.2)) none) (
cond (decide (0 ≤ (0 : Int) ∧ (0 : Int) < (a1.length : Int))) (
let v40 : Int := ((a1.getD (0 : Int).toNat 0).toNat : Int)
cond (v40 == (40 : Int)) (
cond (v40 == (40 : Int)) (
(csstok_first_1 k (10 : Int) a1).bind fun r41 =>
some (r41.1, r41.2.1, r41.2.2.1, r41.2.2.2.1)) (
cond (v40 == (41 : Int)) (
cond (v40 == (41 : Int)) (
(csstok_first_1 k (11 : Int) a1).bind fun r42 =>
some (r42.1, r42.2.1, r42.2.2.1, r42.2.2.2.1)) (
cond (v40 == (92 : Int)) (
(csstok_first_1 k (6 : Int) a1).bind fun r43 =>
some (r43.1, r43.2.1, r43.2.2.1, r43.2.2.2.1)) (
csstok_first.c76 k (0 : Int) ([]) ([]) (0 : Int) a1))) (
cond (v40 == (93 : Int)) (
cond (v40 == (93 : Int)) (
(csstok_first_1 k (11 : Int) a1).bind fun r50 =>
some (r50.1, r50.2.1, r50.2.2.1, r50.2.2.2.1)) (
cond (v40 == (92 : Int)) (
(csstok_first_1 k (6 : Int) a1).bind fun r51 =>
some (r51.1, r51.2.1, r51.2.2.1, r51.2.2.2.1)) (
csstok_first.c76 k (0 : Int) ([]) ([]) (0 : Int) a1))) (
cond (v40 == (125 : Int)) (
(csstok_first_1 k (11 : Int) a1).bind fun r52 =>
some (r52.1, r52.2.1, r52.2.2.1, r52.2.2.2.1)) (
cond (v40 == (92 : Int)) (
(csstok_first_1 k (6 : Int) a1).bind fun r53 =>
some (r53.1, r53.2.1, r53.2.2.1, r53.2.2.2.1)) (
csstok_first.c76 k (0 : Int) ([]) ([]) (0 : Int) a1)))))) (
cond (v40 == (91 : Int)) (
cond (v40 == (91 : Int)) (
(csstok_first_1 k (10 : Int) a1).bind fun r54 =>
some (r54.1, r54.2.1, r54.2.2.1, r54.2.2.2.1)) (
cond (v40 == (41 : Int)) (
cond (v40 == (41 : Int)) (
(csstok_first_1 k (11 : Int) a1).bind fun r55 =>
some (r55.1, r55.2.1, r55.2.2.1, r55.2.2.2.1)) (
cond (v40 == (92 : Int)) (
(csstok_first_1 k (6 : Int) a1).bind fun r56 =>
some (r56.1, r56.2.1, r56.2.2.1, r56.2.2.2.1)) (
csstok_first.c76 k (0 : Int) ([]) ([]) (0 : Int) a1))) (
cond (v40 == (93 : Int)) (
cond (v40 == (93 : Int)) (
(csstok_first_1 k (11 : Int) a1).bind fun r57 =>
some (r57.1, r57.2.1, r57.2.2.1, r57.2.2.2.1)) (
cond (v40 == (92 : Int)) (
(csstok_first_1 k (6 : Int) a1).bind fun r58 =>
some (r58.1, r58.2.1, r58.2.2.1, r58.2.2.2.1)) (
csstok_first.c76 k (0 : Int) ([]) ([]) (0 : Int) a1))) (
cond (v40 == (125 : Int)) (
(csstok_first_1 k (11 : Int) a1).bind fun r59 =>
some (r59.1, r59.2.1, r59.2.2.1, r59.2.2.2.1)) (
cond (v40 == (92 : Int)) (
(csstok_first_1 k (6 : Int) a1).bind fun r60 =>
some (r60.1, r60.2.1, r60.2.2.1, r60.2.2.2.1)) (
csstok_first.c76 k (0 : Int) ([]) ([]) (0 : Int) a1)))))) (
cond (v40 == (123 : Int)) (
(csstok_first_1 k (10 : Int) a1).bind fun r61 =>
some (r61.1, r61.2.1, r61.2.2.1, r61.2.2.2.1)) (
cond (v40 == (41 : Int)) (
cond (v40 == (41 : Int)) (
(csstok_first_1 k (11 : Int) a1).bind fun r62 =>
some (r62.1, r62.2.1, r62.2.2.1, r62.2.2.2.1)) (
cond (v40 == (92 : Int)) (
(csstok_first_1 k (6 : Int) a1).bind fun r63 =>
some (r63.1, r63.2.1, r63.2.2.1, r63.2.2.2.1)) (
csstok_first.c76 k (0 : Int) ([]) ([]) (0 : Int) a1))) (
cond (v40 == (93 : Int)) (
cond (v40 == (93 : Int)) (
(csstok_first_1 k (11 : Int) a1).bind fun r64 =>
some (r64.1, r64.2.1, r64.2.2.1, r64.2.2.2.1)) (
cond (v40 == (92 : Int)) (
(csstok_first_1 k (6 : Int) a1).bind fun r65 =>
some (r65.1, r65.2.1, r65.2.2.1, r65.2.2.2.1)) (
csstok_first.c76 k (0 : Int) ([]) ([]) (0 : Int) a1))) (
cond (v40 == (125 : Int)) (
(csstok_first_1 k (11 : Int) a1).bind fun r66 =>
some (r66.1, r66.2.1, r66.2.2.1, r66.2.2.2.1)) (
cond (v40 == (92 : Int)) (
(csstok_first_1 k (6 : Int) a1).bind fun r67 =>
some (r67.1, r67.2.1, r67.2.2.1, r67.2.2.2.1)) (
csstok_first.c76 k (0 : Int) ([]) ([]) (0 : Int) a1)))))))) none)))) none)) none) none)) none))
def csstok_first.kr (w0 : World) (k : Nat) : Kr T (Int × (List UInt8) × (List UInt8) × Int) := (kret (retK (cfg w0 (tab22 k)) Tryd.f69.results.toList 0 [] io9.pat))
def csstok_first.x20 : Ex → Option (List Nat × List Sp)
  | _ => none
def csstok_first.L20 (k : Nat) (v : (List UInt8) × Int × (List UInt8) × (List UInt8) × Int) (K : Ex → St T → Option (Int × (List UInt8) × (List UInt8) × Int)) : Option (Int × (List UInt8) × (List UInt8) × Int) := csstok_first.c20 k v.1 v.2.1 v.2.2.1 v.2.2.2.1 v.2.2.2.2
def csstok_first.x52 : Ex → Option (List Nat × List Sp)
  | _ => none
def csstok_first.L52 (k : Nat) (v : Int × (List UInt8) × (List UInt8) × Int × Int × (List UInt8) × (List UInt8) × Int) (K : Ex → St T → Option (Int × (List UInt8) × (List UInt8) × Int)) : Option (Int × (List UInt8) × (List UInt8) × Int) := csstok_first.c52 k v.1 v.2.1 v.2.2.1 v.2.2.2.1 v.2.2.2.2.1 v.2.2.2.2.2.1 v.2.2.2.2.2.2.1 v.2.2.2.2.2.2.2
def csstok_first.x76 : Ex → Option (List Nat × List Sp)
  | _ => none
def csstok_first.L76 (k : Nat) (v : Int × (List UInt8) × (List UInt8) × Int × (List UInt8)) (K : Ex → St T → Option (Int × (List UInt8) × (List UInt8) × Int)) : Option (Int × (List UInt8) × (List UInt8) × Int) := csstok_first.c76 k v.1 v.2.1 v.2.2.1 v.2.2.2.1 v.2.2.2.2
def csstok_first.cuts (w0 : World) (k : Nat) : Cuts T (Int × (List UInt8) × (List UInt8) × Int) := fun n => bif n.beq 20 then some (entK (cfg w0 (tab22 k)) 0 [1, 2] [] io33.pat (csstok_first.L20 k)) else bif n.beq 52 then some (entK (cfg w0 (tab22 k)) 0 [2, 11] [] io30.pat (csstok_first.L52 k)) else bif n.beq 76 then some (entK (cfg w0 (tab22 k)) 0 [2, 3] [] io34.pat (csstok_first.L76 k)) else none
def csstok_first.body : Code := bodyOf Tryd.f69
def csstok_first.b20 : Code := findD 20 csstok_first.body
theorem csstok_first.s20 (w0 : World) (k : Nat) : ∀ v K, csstok_first.L20 k v K = runK (cfg w0 (tab22 k)) Tryd.f69.ntmps (csstok_first.kr w0 k) (annot (csstok_first.cuts w0 k) csstok_first.b20) (mkSt [1, 2] (io33.enc v)) (outK (cfg w0 (tab22 k)) 0 csstok_first.x20 K) := by
  intro v K; kernel_rfl
def csstok_first.b52 : Code := findD 52 csstok_first.body
theorem csstok_first.s52 (w0 : World) (k : Nat) : ∀ v K, csstok_first.L52 k v K = runK (cfg w0 (tab22 k)) Tryd.f69.ntmps (csstok_first.kr w0 k) (annot (csstok_first.cuts w0 k) csstok_first.b52) (mkSt [2, 11] (io30.enc v)) (outK (cfg w0 (tab22 k)) 0 csstok_first.x52 K) := by
  intro v K; kernel_rfl
def csstok_first.b76 : Code := findD 76 csstok_first.body
theorem csstok_first.s76 (w0 : World) (k : Nat) : ∀ v K, csstok_first.L76 k v K = runK (cfg w0 (tab22 k)) Tryd.f69.ntmps (csstok_first.kr w0 k) (annot (csstok_first.cuts w0 k) csstok_first.b76) (mkSt [2, 3] (io34.enc v)) (outK (cfg w0 (tab22 k)) 0 csstok_first.x76 K) := by
  intro v K; kernel_rfl
theorem csstok_first.e (w0 : World) (k : Nat) : ∀ v, (fun v => csstok_first k v) v = runK (cfg w0 (tab22 k)) Tryd.f69.ntmps (csstok_first.kr w0 k) (annot (csstok_first.cuts w0 k) csstok_first.body) (entry (io1.enc v).1 (io1.enc v).2) (endK (csstok_first.kr w0 k)) := by
  intro v; kernel_rfl
theorem csstok_first.hb : Tryd.f69.body = some csstok_first.body := by kernel_rfl
def tab23 (k : Nat) : Tab T := addTab 69 (line io1 io9 ((0 : Int), [], [], (0 : Int)) (fun v => csstok_first k v)) (tab22 k)
def csstok_Cut.c5 (k : Nat) : Nat → (List UInt8) → (List S77) → ((List S77) → Option (List S77)) → Option (List S77)
  | 0, _, _, _ => none
  | n + 1, x2, x3, k0 =>
    cond (!(x2 == ([] : List UInt8))) (
    (csstok_first k x2).bind fun r4 =>
    let v5 : List S77 := [(⟨r4.1, r4.2.1, r4.2.2.1, r4.2.2.2⟩ : S77)]
    cond (decide ((x3 ++ v5).length < most)) (
    cond (decide (0 ≤ (r4.2.1.length : Int) ∧ (r4.2.1.length : Int) ≤ (x2.length : Int))) (
    let v6 : List UInt8 := (x2.drop (r4.2.1.length : Int).toNat)
    csstok_Cut.c5 k n v6 (x3 ++ v5) k0) none) none) (
    k0 x3)
def csstok_Cut (k : Nat) (a1 : List UInt8) : Option (List S77) :=
csstok_Cut.c5 k k a1 ([] : List S77) (fun (y7 : List S77) =>
some y7)
def csstok_Cut.kr (w0 : World) (k : Nat) : Kr T (List S77) := (kret (retK (cfg w0 (tab23 k)) Tryd.f37.results.toList 0 [.own 0 77] io35.pat))
def csstok_Cut.x5 : Ex → Option (List Nat × List Sp)
  | .exit 0 => some ([3], [.own 3 77])
  | _ => none
def csstok_Cut.L5 (k : Nat) (n : Nat) (v : (List UInt8) × (List S77)) (K : Ex → St T → Option (List S77)) : Option (List S77) := csstok_Cut.c5 k n v.1 v.2 (fun y36 => K (.exit 0) (mkSt [3] (io35.enc y36)))
def csstok_Cut.cuts (w0 : World) (k : Nat) : Cuts T (List S77) := fun n => bif n.beq 5 then some (entK (cfg w0 (tab23 k)) 0 [0, 3] [.own 3 77] io36.pat (csstok_Cut.L5 k k)) else none
def csstok_Cut.body : Code := bodyOf Tryd.f37
def csstok_Cut.b5 : Code := findD 5 csstok_Cut.body
theorem csstok_Cut.s5 (w0 : World) (k : Nat) : ∀ n v K, csstok_Cut.L5 k (n + 1) v K = runK (cfg w0 (tab23 k)) Tryd.f37.ntmps (csstok_Cut.kr w0 k) (annot (csstok_Cut.cuts w0 k) csstok_Cut.b5) (mkSt [0, 3] (io36.enc v)) (loopK (cfg w0 (tab23 k)) 0 csstok_Cut.x5 (entK (cfg w0 (tab23 k)) 0 [0, 3] [.own 3 77] io36.pat (csstok_Cut.L5 k n)) K) := by
  intro n v K; kernel_rfl
theorem csstok_Cut.e (w0 : World) (k : Nat) : ∀ v, (fun v => csstok_Cut k v) v = runK (cfg w0 (tab23 k)) Tryd.f37.ntmps (csstok_Cut.kr w0 k) (annot (csstok_Cut.cuts w0 k) csstok_Cut.body) (entry (io1.enc v).1 (io1.enc v).2) (endK (csstok_Cut.kr w0 k)) := by
  intro v; kernel_rfl
theorem csstok_Cut.hb : Tryd.f37.body = some csstok_Cut.body := by kernel_rfl
def tab24 (k : Nat) : Tab T := addTab 37 (line io1 io35 [] (fun v => csstok_Cut k v)) (tab23 k)
def strings_EqualFold (k : Nat) (a6 : List UInt8) (a7 : List UInt8) : Option (Bool) := foldS a6 a7
def tab25 (k : Nat) : Tab T := addTab 70 (line io0 io2 false (fun v => strings_EqualFold k v.1 v.2)) (tab24 k)
def vars_isVar (k : Nat) (a1 : Int) (a2 : List UInt8) (a3 : List UInt8) (a4 : Int) : Option (Bool) :=
(cond (a1 == (2 : Int)) (strings_EqualFold k a3 ([118, 97, 114] : List UInt8)) (some false)).bind fun r5 =>
let v6 : Bool := (cond (a1 == (2 : Int)) r5 false)
some v6
def vars_isVar.kr (w0 : World) (k : Nat) : Kr T (Bool) := (kret (retK (cfg w0 (tab25 k)) Tryd.f38.results.toList 0 [] io2.pat))
def vars_isVar.cuts (w0 : World) (k : Nat) : Cuts T (Bool) := fun n => none
def vars_isVar.body : Code := bodyOf Tryd.f38
theorem vars_isVar.e (w0 : World) (k : Nat) : ∀ v, (fun v => vars_isVar k v.1 v.2.1 v.2.2.1 v.2.2.2) v = runK (cfg w0 (tab25 k)) Tryd.f38.ntmps (vars_isVar.kr w0 k) (annot (vars_isVar.cuts w0 k) vars_isVar.body) (entry (io9.enc v).1 (io9.enc v).2) (endK (vars_isVar.kr w0 k)) := by
  intro v; kernel_rfl
theorem vars_isVar.hb : Tryd.f38.body = some vars_isVar.body := by kernel_rfl
def tab26 (k : Nat) : Tab T := addTab 38 (line io9 io2 false (fun v => vars_isVar k v.1 v.2.1 v.2.2.1 v.2.2.2)) (tab25 k)
def f__strings_Builder__WriteString (k : Nat) (a8 : List UInt8) (a9 : List UInt8) : Option (Int × (List UInt8)) := (wStr a9 a8).map fun s => ((a8.length : Int), s)
def tab27 (k : Nat) : Tab T := addTab 39 (line io37 io38 ((0 : Int), []) (fun v => f__strings_Builder__WriteString k v.1 v.2)) (tab26 k)
def vars_closer (k : Nat) (a1 : Int) (a2 : List UInt8) (a3 : List UInt8) (a4 : Int) : Option (List UInt8) :=
let v5 : Int := (IntKind.wrap .i64 ((a2.length : Int) - (1 : Int)))
cond (decide (0 ≤ v5 ∧ v5 < (a2.length : Int))) (
let v6 : Int := ((a2.getD v5.toNat 0).toNat : Int)
cond (v6 == (91 : Int)) (
some ([93] : List UInt8)) (
cond (v6 == (123 : Int)) (
some ([125] : List UInt8)) (
some ([41] : List UInt8)))) none
def vars_closer.kr (w0 : World) (k : Nat) : Kr T (List UInt8) := (kret (retK (cfg w0 (tab27 k)) Tryd.f72.results.toList 0 [] io1.pat))
def vars_closer.cuts (w0 : World) (k : Nat) : Cuts T (List UInt8) := fun n => none
def vars_closer.body : Code := bodyOf Tryd.f72
theorem vars_closer.e (w0 : World) (k : Nat) : ∀ v, (fun v => vars_closer k v.1 v.2.1 v.2.2.1 v.2.2.2) v = runK (cfg w0 (tab27 k)) Tryd.f72.ntmps (vars_closer.kr w0 k) (annot (vars_closer.cuts w0 k) vars_closer.body) (entry (io9.enc v).1 (io9.enc v).2) (endK (vars_closer.kr w0 k)) := by
  intro v; kernel_rfl
theorem vars_closer.hb : Tryd.f72.body = some vars_closer.body := by kernel_rfl
def tab28 (k : Nat) : Tab T := addTab 72 (line io9 io1 [] (fun v => vars_closer k v.1 v.2.1 v.2.2.1 v.2.2.2)) (tab27 k)
def vars_closed.c24 (k : Nat) (x8 : Int) (x9 : List S77) (x10 : Int) (x11 : Int) (x12 : List (List UInt8)) (kn : (List S77) → Int → Int → (List (List UInt8)) → Option (Int)) : Option (Int) :=
let v13 : Bool := ((x12.length : Int) == (0 : Int))
cond v13 (
let v14 : Int := (IntKind.wrap .i64 (x8 + (1 : Int)))
some v14) (
kn x9 x10 x11 x12)
def vars_closed.c7 (k : Nat) : Nat → (List S77) → Int → Int → (List (List UInt8)) → (Option (Int)) → Option (Int)
  | 0, _, _, _, _, _ => none
  | n + 1, x2, x3, x4, x5, k0 =>
    cond (decide (x4 < x3)) (
    cond (decide (0 ≤ x4 ∧ x4 < (x2.length : Int))) (
    let v6 : Bool := (((x2.getD x4.toNat S77.d).Kind) == (10 : Int))
    cond v6 (
    cond v6 (
    (vars_closer k ((x2.getD x4.toNat S77.d).Kind) ((x2.getD x4.toNat S77.d).Raw) ((x2.getD x4.toNat S77.d).Value) ((x2.getD x4.toNat S77.d).Num)).bind fun r7 =>
    cond (decide ((x5 ++ ([r7])).length < most)) (
    vars_closed.c24 k x4 x2 x3 x4 (x5 ++ ([r7])) (fun (y15 : List S77) (y16 : Int) (y17 : Int) (y18 : List (List UInt8)) =>
    let v19 : Int := (IntKind.wrap .i64 (y17 + (1 : Int)))
    vars_closed.c7 k n y15 y16 v19 y18 k0)) none) (
    let v20 : Bool := (((x2.getD x4.toNat S77.d).Kind) == (11 : Int))
    cond v20 (
    let v21 : Int := (IntKind.wrap .i64 ((x5.length : Int) - (1 : Int)))
    cond (decide (0 ≤ v21 ∧ v21 < (x5.length : Int))) (
    let v22 : Bool := (((x2.getD x4.toNat S77.d).Raw) == (x5.getD v21.toNat []))
    cond v22 (
    let v23 : Int := (IntKind.wrap .i64 ((x5.length : Int) - (1 : Int)))
    cond (decide (0 ≤ v23 ∧ v23 ≤ (x5.length : Int))) (
    vars_closed.c24 k x4 x2 x3 x4 ((x5.drop 0).take v23.toNat) (fun (y24 : List S77) (y25 : Int) (y26 : Int) (y27 : List (List UInt8)) =>
    let v28 : Int := (IntKind.wrap .i64 (y26 + (1 : Int)))
    vars_closed.c7 k n y24 y25 v28 y27 k0)) none) (
    vars_closed.c24 k x4 x2 x3 x4 x5 (fun (y29 : List S77) (y30 : Int) (y31 : Int) (y32 : List (List UInt8)) =>
    let v33 : Int := (IntKind.wrap .i64 (y31 + (1 : Int)))
    vars_closed.c7 k n y29 y30 v33 y32 k0))) none) (
    vars_closed.c24 k x4 x2 x3 x4 x5 (fun (y34 : List S77) (y35 : Int) (y36 : Int) (y37 : List (List UInt8)) =>
    let v38 : Int := (IntKind.wrap .i64 (y36 + (1 : Int)))
    vars_closed.c7 k n y34 y35 v38 y37 k0)))) (
    let v39 : Bool := (((x2.getD x4.toNat S77.d).Kind) == (2 : Int))
    cond v39 (
    (vars_closer k ((x2.getD x4.toNat S77.d).Kind) ((x2.getD x4.toNat S77.d).Raw) ((x2.getD x4.toNat S77.d).Value) ((x2.getD x4.toNat S77.d).Num)).bind fun r40 =>
    cond (decide ((x5 ++ ([r40])).length < most)) (
    vars_closed.c24 k x4 x2 x3 x4 (x5 ++ ([r40])) (fun (y41 : List S77) (y42 : Int) (y43 : Int) (y44 : List (List UInt8)) =>
    let v45 : Int := (IntKind.wrap .i64 (y43 + (1 : Int)))
    vars_closed.c7 k n y41 y42 v45 y44 k0)) none) (
    let v46 : Bool := (((x2.getD x4.toNat S77.d).Kind) == (11 : Int))
    cond v46 (
    let v47 : Int := (IntKind.wrap .i64 ((x5.length : Int) - (1 : Int)))
    cond (decide (0 ≤ v47 ∧ v47 < (x5.length : Int))) (
    let v48 : Bool := (((x2.getD x4.toNat S77.d).Raw) == (x5.getD v47.toNat []))
    cond v48 (
    let v49 : Int := (IntKind.wrap .i64 ((x5.length : Int) - (1 : Int)))
    cond (decide (0 ≤ v49 ∧ v49 ≤ (x5.length : Int))) (
    vars_closed.c24 k x4 x2 x3 x4 ((x5.drop 0).take v49.toNat) (fun (y50 : List S77) (y51 : Int) (y52 : Int) (y53 : List (List UInt8)) =>
    let v54 : Int := (IntKind.wrap .i64 (y52 + (1 : Int)))
    vars_closed.c7 k n y50 y51 v54 y53 k0)) none) (
    vars_closed.c24 k x4 x2 x3 x4 x5 (fun (y55 : List S77) (y56 : Int) (y57 : Int) (y58 : List (List UInt8)) =>
    let v59 : Int := (IntKind.wrap .i64 (y57 + (1 : Int)))
    vars_closed.c7 k n y55 y56 v59 y58 k0))) none) (
    vars_closed.c24 k x4 x2 x3 x4 x5 (fun (y60 : List S77) (y61 : Int) (y62 : Int) (y63 : List (List UInt8)) =>
    let v64 : Int := (IntKind.wrap .i64 (y62 + (1 : Int)))
    vars_closed.c7 k n y60 y61 v64 y63 k0))))) none) (
    k0)
def vars_closed (k : Nat) (a1 : List S77) : Option (Int) :=
vars_closed.c7 k k a1 (a1.length : Int) (0 : Int) ([] : List (List UInt8)) (
some (0 : Int))
def vars_closed.kr (w0 : World) (k : Nat) : Kr T (Int) := (kret (retK (cfg w0 (tab28 k)) Tryd.f40.results.toList 0 [] io4.pat))
def vars_closed.x24 : Ex → Option (List Nat × List Sp)
  | .norm => some ([3, 6, 7, 8], [])
  | _ => none
def vars_closed.L24 (k : Nat) (v : Int × (List S77) × Int × Int × (List (List UInt8))) (K : Ex → St T → Option (Int)) : Option (Int) := vars_closed.c24 k v.1 v.2.1 v.2.2.1 v.2.2.2.1 v.2.2.2.2 (fun y37 y38 y39 y40 => K .norm (mkSt [3, 6, 7, 8] (io41.enc (y37, y38, y39, y40))))
def vars_closed.x7 : Ex → Option (List Nat × List Sp)
  | .exit 0 => some ([], [])
  | _ => none
def vars_closed.L7 (k : Nat) (n : Nat) (v : (List S77) × Int × Int × (List (List UInt8))) (K : Ex → St T → Option (Int)) : Option (Int) := vars_closed.c7 k n v.1 v.2.1 v.2.2.1 v.2.2.2 ( K (.exit 0) (mkSt [] (io42.enc ())))
def vars_closed.cuts (w0 : World) (k : Nat) : Cuts T (Int) := fun n => bif n.beq 24 then some (entK (cfg w0 (tab28 k)) 0 [3, 4, 6, 7, 8] [.own 3 9] io40.pat (vars_closed.L24 k)) else bif n.beq 7 then some (entK (cfg w0 (tab28 k)) 0 [3, 6, 7, 8] [.own 3 9] io41.pat (vars_closed.L7 k k)) else none
def vars_closed.body : Code := bodyOf Tryd.f40
def vars_closed.b24 : Code := findD 24 vars_closed.body
theorem vars_closed.s24 (w0 : World) (k : Nat) : ∀ v K, vars_closed.L24 k v K = runK (cfg w0 (tab28 k)) Tryd.f40.ntmps (vars_closed.kr w0 k) (annot (vars_closed.cuts w0 k) vars_closed.b24) (mkSt [3, 4, 6, 7, 8] (io40.enc v)) (outK (cfg w0 (tab28 k)) 0 vars_closed.x24 K) := by
  intro v K; kernel_rfl
def vars_closed.b7 : Code := findD 7 vars_closed.body
theorem vars_closed.s7 (w0 : World) (k : Nat) : ∀ n v K, vars_closed.L7 k (n + 1) v K = runK (cfg w0 (tab28 k)) Tryd.f40.ntmps (vars_closed.kr w0 k) (annot (vars_closed.cuts w0 k) vars_closed.b7) (mkSt [3, 6, 7, 8] (io41.enc v)) (loopK (cfg w0 (tab28 k)) 0 vars_closed.x7 (entK (cfg w0 (tab28 k)) 0 [3, 6, 7, 8] [.own 3 9] io41.pat (vars_closed.L7 k n)) K) := by
  intro n v K; kernel_rfl
theorem vars_closed.e (w0 : World) (k : Nat) : ∀ v, (fun v => vars_closed k v) v = runK (cfg w0 (tab28 k)) Tryd.f40.ntmps (vars_closed.kr w0 k) (annot (vars_closed.cuts w0 k) vars_closed.body) (entry (io39.enc v).1 (io39.enc v).2) (endK (vars_closed.kr w0 k)) := by
  intro v; kernel_rfl
theorem vars_closed.hb : Tryd.f40.body = some vars_closed.body := by kernel_rfl
def tab29 (k : Nat) : Tab T := addTab 40 (line io39 io4 (0 : Int) (fun v => vars_closed k v)) (tab28 k)
def vars_silent (k : Nat) (a1 : Int) (a2 : List UInt8) (a3 : List UInt8) (a4 : Int) : Option (Bool) :=
let v5 : Bool := (cond (a1 == (8 : Int)) true (a1 == (9 : Int)))
some v5
def vars_silent.kr (w0 : World) (k : Nat) : Kr T (Bool) := (kret (retK (cfg w0 (tab29 k)) Tryd.f94.results.toList 0 [] io2.pat))
def vars_silent.cuts (w0 : World) (k : Nat) : Cuts T (Bool) := fun n => none
def vars_silent.body : Code := bodyOf Tryd.f94
theorem vars_silent.e (w0 : World) (k : Nat) : ∀ v, (fun v => vars_silent k v.1 v.2.1 v.2.2.1 v.2.2.2) v = runK (cfg w0 (tab29 k)) Tryd.f94.ntmps (vars_silent.kr w0 k) (annot (vars_silent.cuts w0 k) vars_silent.body) (entry (io9.enc v).1 (io9.enc v).2) (endK (vars_silent.kr w0 k)) := by
  intro v; kernel_rfl
theorem vars_silent.hb : Tryd.f94.body = some vars_silent.body := by kernel_rfl
def tab30 (k : Nat) : Tab T := addTab 94 (line io9 io2 false (fun v => vars_silent k v.1 v.2.1 v.2.2.1 v.2.2.2)) (tab29 k)
def vars_asked.c3 (k : Nat) : Nat → (List S77) → ((List S77) → Option ((List UInt8) × (List S77) × Bool × Bool)) → Option ((List UInt8) × (List S77) × Bool × Bool)
  | 0, _, _ => none
  | n + 1, x2, k0 =>
    let v3 : Bool := (decide ((x2.length : Int) > (0 : Int)))
    cond ((decide (0 ≤ (0 : Int) ∧ (0 : Int) < (x2.length : Int))) || !v3) (
    let v4 : Int := (x2.getD ((0 : Int).toNat) S77.d).Kind
    let v5 : List UInt8 := (x2.getD ((0 : Int).toNat) S77.d).Raw
    let v6 : List UInt8 := (x2.getD ((0 : Int).toNat) S77.d).Value
    let v7 : Int := (x2.getD ((0 : Int).toNat) S77.d).Num
    (cond v3 (vars_silent k v4 v5 v6 v7) (some false)).bind fun r8 =>
    cond (cond v3 r8 false) (
    cond (decide (0 ≤ (1 : Int) ∧ (1 : Int) ≤ (x2.length : Int))) (
    vars_asked.c3 k n (x2.drop (1 : Int).toNat) k0) none) (
    k0 x2)) none
def vars_asked.c15 (k : Nat) : Nat → (List S77) → (List UInt8) → ((List S77) → (List UInt8) → Option ((List UInt8) × (List S77) × Bool × Bool)) → Option ((List UInt8) × (List S77) × Bool × Bool)
  | 0, _, _, _ => none
  | n + 1, x14, x15, k2 =>
    let v16 : Bool := (decide ((x14.length : Int) > (0 : Int)))
    cond ((decide (0 ≤ (0 : Int) ∧ (0 : Int) < (x14.length : Int))) || !v16) (
    let v17 : Int := (x14.getD ((0 : Int).toNat) S77.d).Kind
    let v18 : List UInt8 := (x14.getD ((0 : Int).toNat) S77.d).Raw
    let v19 : List UInt8 := (x14.getD ((0 : Int).toNat) S77.d).Value
    let v20 : Int := (x14.getD ((0 : Int).toNat) S77.d).Num
    (cond v16 (vars_silent k v17 v18 v19 v20) (some false)).bind fun r21 =>
    cond (cond v16 r21 false) (
    cond (decide (0 ≤ (1 : Int) ∧ (1 : Int) ≤ (x14.length : Int))) (
    vars_asked.c15 k n (x14.drop (1 : Int).toNat) x15 k2) none) (
    k2 x14 x15)) none
def vars_asked (k : Nat) (a1 : List S77) : Option ((List UInt8) × (List S77) × Bool × Bool) :=
vars_asked.c3 k k a1 (fun (y9 : List S77) =>
let v10 : Bool := ((y9.length : Int) == (0 : Int))
cond ((decide (0 ≤ (0 : Int) ∧ (0 : Int) < (y9.length : Int))) || !(!v10)) (
let v11 : Int := (y9.getD ((0 : Int).toNat) S77.d).Kind
let v12 : Bool := (cond v10 true (v11 != (1 : Int)))
cond v12 (
some (([] : List UInt8), ([] : List S77), false, false)) (
cond (decide (0 ≤ (0 : Int) ∧ (0 : Int) < (y9.length : Int))) (
let v13 : List UInt8 := (y9.getD ((0 : Int).toNat) S77.d).Value
cond (decide (0 ≤ (1 : Int) ∧ (1 : Int) ≤ (y9.length : Int))) (
vars_asked.c15 k k (y9.drop (1 : Int).toNat) v13 (fun (y22 : List S77) (y23 : List UInt8) =>
let v24 : Bool := ((y22.length : Int) == (0 : Int))
cond v24 (
some (y23, ([] : List S77), false, true)) (
cond (decide (0 ≤ (0 : Int) ∧ (0 : Int) < (y22.length : Int))) (
let v25 : Int := (y22.getD ((0 : Int).toNat) S77.d).Kind
cond ((decide (0 ≤ (0 : Int) ∧ (0 : Int) < (y22.length : Int))) || !(!(v25 != (12 : Int)))) (
let v26 : List UInt8 := (y22.getD ((0 : Int).toNat) S77.d).Raw
let v27 : Bool := (!(v26 == ([44] : List UInt8)))
let v28 : Bool := (cond (v25 != (12 : Int)) true v27)
cond v28 (
some (([] : List UInt8), ([] : List S77), false, false)) (
cond (decide (0 ≤ (1 : Int) ∧ (1 : Int) ≤ (y22.length : Int))) (
some (y23, (y22.drop (1 : Int).toNat), true, true)) none)) none) none))) none) none)) none)
def vars_asked.kr (w0 : World) (k : Nat) : Kr T ((List UInt8) × (List S77) × Bool × Bool) := (kret (retK (cfg w0 (tab30 k)) Tryd.f73.results.toList 0 [.frz 1 77] io43.pat))
def vars_asked.x3 : Ex → Option (List Nat × List Sp)
  | .exit 0 => some ([0], [])
  | _ => none
def vars_asked.L3 (k : Nat) (n : Nat) (v : List S77) (K : Ex → St T → Option ((List UInt8) × (List S77) × Bool × Bool)) : Option ((List UInt8) × (List S77) × Bool × Bool) := vars_asked.c3 k n v (fun y41 => K (.exit 0) (mkSt [0] (io39.enc y41)))
def vars_asked.x15 : Ex → Option (List Nat × List Sp)
  | .exit 2 => some ([0, 6], [])
  | _ => none
def vars_asked.L15 (k : Nat) (n : Nat) (v : (List S77) × (List UInt8)) (K : Ex → St T → Option ((List UInt8) × (List S77) × Bool × Bool)) : Option ((List UInt8) × (List S77) × Bool × Bool) := vars_asked.c15 k n v.1 v.2 (fun y42 y43 => K (.exit 2) (mkSt [0, 6] (io44.enc (y42, y43))))
def vars_asked.cuts (w0 : World) (k : Nat) : Cuts T ((List UInt8) × (List S77) × Bool × Bool) := fun n => bif n.beq 3 then some (entK (cfg w0 (tab30 k)) 0 [0] [] io39.pat (vars_asked.L3 k k)) else bif n.beq 15 then some (entK (cfg w0 (tab30 k)) 0 [0, 6] [] io44.pat (vars_asked.L15 k k)) else none
def vars_asked.body : Code := bodyOf Tryd.f73
def vars_asked.b3 : Code := findD 3 vars_asked.body
theorem vars_asked.s3 (w0 : World) (k : Nat) : ∀ n v K, vars_asked.L3 k (n + 1) v K = runK (cfg w0 (tab30 k)) Tryd.f73.ntmps (vars_asked.kr w0 k) (annot (vars_asked.cuts w0 k) vars_asked.b3) (mkSt [0] (io39.enc v)) (loopK (cfg w0 (tab30 k)) 0 vars_asked.x3 (entK (cfg w0 (tab30 k)) 0 [0] [] io39.pat (vars_asked.L3 k n)) K) := by
  intro n v K; kernel_rfl
def vars_asked.b15 : Code := findD 15 vars_asked.body
theorem vars_asked.s15 (w0 : World) (k : Nat) : ∀ n v K, vars_asked.L15 k (n + 1) v K = runK (cfg w0 (tab30 k)) Tryd.f73.ntmps (vars_asked.kr w0 k) (annot (vars_asked.cuts w0 k) vars_asked.b15) (mkSt [0, 6] (io44.enc v)) (loopK (cfg w0 (tab30 k)) 0 vars_asked.x15 (entK (cfg w0 (tab30 k)) 0 [0, 6] [] io44.pat (vars_asked.L15 k n)) K) := by
  intro n v K; kernel_rfl
theorem vars_asked.e (w0 : World) (k : Nat) : ∀ v, (fun v => vars_asked k v) v = runK (cfg w0 (tab30 k)) Tryd.f73.ntmps (vars_asked.kr w0 k) (annot (vars_asked.cuts w0 k) vars_asked.body) (entry (io39.enc v).1 (io39.enc v).2) (endK (vars_asked.kr w0 k)) := by
  intro v; kernel_rfl
theorem vars_asked.hb : Tryd.f73.body = some vars_asked.body := by kernel_rfl
def tab31 (k : Nat) : Tab T := addTab 73 (line io39 io43 ([], [], false, false) (fun v => vars_asked k v)) (tab30 k)
def vars_last (k : Nat) (a30 : List S40) (a31 : List UInt8) : Option ((List UInt8) × Bool) := Bw.lastS (fun x : S40 => x.1) (fun x : S40 => x.2) a30 a31
def tab32 (k : Nat) : Tab T := addTab 65 (line io45 io3 ([], false) (fun v => vars_last k v.1 v.2)) (tab31 k)
def cssrule_silent (k : Nat) (a1 : Int) (a2 : List UInt8) (a3 : List UInt8) (a4 : Int) : Option (Bool) :=
let v5 : Bool := (cond (a1 == (8 : Int)) true (a1 == (9 : Int)))
some v5
def cssrule_silent.kr (w0 : World) (k : Nat) : Kr T (Bool) := (kret (retK (cfg w0 (tab32 k)) Tryd.f114.results.toList 0 [] io2.pat))
def cssrule_silent.cuts (w0 : World) (k : Nat) : Cuts T (Bool) := fun n => none
def cssrule_silent.body : Code := bodyOf Tryd.f114
theorem cssrule_silent.e (w0 : World) (k : Nat) : ∀ v, (fun v => cssrule_silent k v.1 v.2.1 v.2.2.1 v.2.2.2) v = runK (cfg w0 (tab32 k)) Tryd.f114.ntmps (cssrule_silent.kr w0 k) (annot (cssrule_silent.cuts w0 k) cssrule_silent.body) (entry (io9.enc v).1 (io9.enc v).2) (endK (cssrule_silent.kr w0 k)) := by
  intro v; kernel_rfl
theorem cssrule_silent.hb : Tryd.f114.body = some cssrule_silent.body := by kernel_rfl
def tab33 (k : Nat) : Tab T := addTab 114 (line io9 io2 false (fun v => cssrule_silent k v.1 v.2.1 v.2.2.1 v.2.2.2)) (tab32 k)
def f__strings_Builder__Len (k : Nat) (a7 : List UInt8) : Option (Int × (List UInt8)) := some ((a7.length : Int), a7)
def tab34 (k : Nat) : Tab T := addTab 42 (line io5 io46 ((0 : Int), []) (fun v => f__strings_Builder__Len k v)) (tab33 k)
def cssrule_Head.c20 (k : Nat) (x11 : List S77) (x12 : Int) (x13 : Int) (x14 : List UInt8) (x15 : Int) (x16 : List UInt8) (x17 : List UInt8) (x18 : Int) (kn : Bool → (List S77) → Int → Int → (List UInt8) → Option (List UInt8)) : Option (List UInt8) :=
(f__strings_Builder__WriteString k x16 x14).bind fun r19 =>
kn false x11 x12 x13 r19.2
def cssrule_Head.c9 (k : Nat) : Nat → Bool → (List S77) → Int → Int → (List UInt8) → ((List UInt8) → Option (List UInt8)) → Option (List UInt8)
  | 0, _, _, _, _, _, _ => none
  | n + 1, x2, x3, x4, x5, x6, k0 =>
    cond (decide (x5 < x4)) (
    cond (decide (0 ≤ x5 ∧ x5 < (x3.length : Int))) (
    (cssrule_silent k ((x3.getD x5.toNat S77.d).Kind) ((x3.getD x5.toNat S77.d).Raw) ((x3.getD x5.toNat S77.d).Value) ((x3.getD x5.toNat S77.d).Num)).bind fun r7 =>
    cond r7 (
    (f__strings_Builder__Len k x6).bind fun r8 =>
    let v9 : Int := (IntKind.wrap .i64 (x5 + (1 : Int)))
    cssrule_Head.c9 k n (decide (r8.1 > (0 : Int))) x3 x4 v9 r8.2 k0) (
    cond x2 (
    (f__strings_Builder__WriteByte k (32 : Int) x6).bind fun r10 =>
    cssrule_Head.c20 k x3 x4 x5 r10 ((x3.getD x5.toNat S77.d).Kind) ((x3.getD x5.toNat S77.d).Raw) ((x3.getD x5.toNat S77.d).Value) ((x3.getD x5.toNat S77.d).Num) (fun (y20 : Bool) (y21 : List S77) (y22 : Int) (y23 : Int) (y24 : List UInt8) =>
    let v25 : Int := (IntKind.wrap .i64 (y23 + (1 : Int)))
    cssrule_Head.c9 k n y20 y21 y22 v25 y24 k0)) (
    cssrule_Head.c20 k x3 x4 x5 x6 ((x3.getD x5.toNat S77.d).Kind) ((x3.getD x5.toNat S77.d).Raw) ((x3.getD x5.toNat S77.d).Value) ((x3.getD x5.toNat S77.d).Num) (fun (y26 : Bool) (y27 : List S77) (y28 : Int) (y29 : Int) (y30 : List UInt8) =>
    let v31 : Int := (IntKind.wrap .i64 (y29 + (1 : Int)))
    cssrule_Head.c9 k n y26 y27 y28 v31 y30 k0)))) none) (
    k0 x6)
def cssrule_Head (k : Nat) (a1 : List S77) : Option (List UInt8) :=
cssrule_Head.c9 k k false a1 (a1.length : Int) (0 : Int) ([] : List UInt8) (fun (y32 : List UInt8) =>
(f__strings_Builder__String k y32).bind fun r33 =>
some r33.1)
def cssrule_Head.kr (w0 : World) (k : Nat) : Kr T (List UInt8) := (kret (retK (cfg w0 (tab34 k)) Tryd.f74.results.toList 0 [] io1.pat))
def cssrule_Head.x20 : Ex → Option (List Nat × List Sp)
  | .norm => some ([3, 4, 7, 8, 9], [])
  | _ => none
def cssrule_Head.L20 (k : Nat) (v : (List S77) × Int × Int × (List UInt8) × Int × (List UInt8) × (List UInt8) × Int) (K : Ex → St T → Option (List UInt8)) : Option (List UInt8) := cssrule_Head.c20 k v.1 v.2.1 v.2.2.1 v.2.2.2.1 v.2.2.2.2.1 v.2.2.2.2.2.1 v.2.2.2.2.2.2.1 v.2.2.2.2.2.2.2 (fun y44 y45 y46 y47 y48 => K .norm (mkSt [3, 4, 7, 8, 9] (io48.enc (y44, y45, y46, y47, y48))))
def cssrule_Head.x9 : Ex → Option (List Nat × List Sp)
  | .exit 0 => some ([3], [])
  | _ => none
def cssrule_Head.L9 (k : Nat) (n : Nat) (v : Bool × (List S77) × Int × Int × (List UInt8)) (K : Ex → St T → Option (List UInt8)) : Option (List UInt8) := cssrule_Head.c9 k n v.1 v.2.1 v.2.2.1 v.2.2.2.1 v.2.2.2.2 (fun y49 => K (.exit 0) (mkSt [3] (io5.enc y49)))
def cssrule_Head.cuts (w0 : World) (k : Nat) : Cuts T (List UInt8) := fun n => bif n.beq 20 then some (entK (cfg w0 (tab34 k)) 0 [3, 6, 7, 8, 9] [] io47.pat (cssrule_Head.L20 k)) else bif n.beq 9 then some (entK (cfg w0 (tab34 k)) 0 [3, 4, 7, 8, 9] [] io48.pat (cssrule_Head.L9 k k)) else none
def cssrule_Head.body : Code := bodyOf Tryd.f74
def cssrule_Head.b20 : Code := findD 20 cssrule_Head.body
theorem cssrule_Head.s20 (w0 : World) (k : Nat) : ∀ v K, cssrule_Head.L20 k v K = runK (cfg w0 (tab34 k)) Tryd.f74.ntmps (cssrule_Head.kr w0 k) (annot (cssrule_Head.cuts w0 k) cssrule_Head.b20) (mkSt [3, 6, 7, 8, 9] (io47.enc v)) (outK (cfg w0 (tab34 k)) 0 cssrule_Head.x20 K) := by
  intro v K; kernel_rfl
def cssrule_Head.b9 : Code := findD 9 cssrule_Head.body
theorem cssrule_Head.s9 (w0 : World) (k : Nat) : ∀ n v K, cssrule_Head.L9 k (n + 1) v K = runK (cfg w0 (tab34 k)) Tryd.f74.ntmps (cssrule_Head.kr w0 k) (annot (cssrule_Head.cuts w0 k) cssrule_Head.b9) (mkSt [3, 4, 7, 8, 9] (io48.enc v)) (loopK (cfg w0 (tab34 k)) 0 cssrule_Head.x9 (entK (cfg w0 (tab34 k)) 0 [3, 4, 7, 8, 9] [] io48.pat (cssrule_Head.L9 k n)) K) := by
  intro n v K; kernel_rfl
theorem cssrule_Head.e (w0 : World) (k : Nat) : ∀ v, (fun v => cssrule_Head k v) v = runK (cfg w0 (tab34 k)) Tryd.f74.ntmps (cssrule_Head.kr w0 k) (annot (cssrule_Head.cuts w0 k) cssrule_Head.body) (entry (io39.enc v).1 (io39.enc v).2) (endK (cssrule_Head.kr w0 k)) := by
  intro v; kernel_rfl
theorem cssrule_Head.hb : Tryd.f74.body = some cssrule_Head.body := by kernel_rfl
def tab35 (k : Nat) : Tab T := addTab 74 (line io39 io1 [] (fun v => cssrule_Head k v)) (tab34 k)
structure vars_Fill.G.R where
  vars_put : (List S77) → (List S40) → Option ((List UInt8) × Bool)
  vars_Fill : (List UInt8) → (List S40) → Option ((List UInt8) × Bool)
def vars_put.nat (k : Nat) (r : vars_Fill.G.R) (a1 : List S77) (a2 : List S40) : Option ((List UInt8) × Bool) :=
(vars_asked k a1).bind fun r3 =>
cond (!r3.2.2.2) (
some (([] : List UInt8), false)) (
(vars_last k a2 r3.1).bind fun r4 =>
cond r4.2 (
some (r4.1, true)) (
cond (!r3.2.2.1) (
some (([] : List UInt8), false)) (
(cssrule_Head k r3.2.1).bind fun r5 =>
(r.vars_Fill r5 a2).bind fun r6 =>
some (r6.1, r6.2))))
def vars_Fill.c13 (k : Nat) (r : vars_Fill.G.R) : Nat → (List S40) → Int → (List S77) → (List UInt8) → ((List UInt8) → Option ((List UInt8) × Bool)) → Option ((List UInt8) × Bool)
  | 0, _, _, _, _, _ => none
  | n + 1, x5, x6, x7, x8, k0 =>
    let v9 : Bool := (decide (x6 < (x7.length : Int)))
    cond v9 (
    cond (decide (0 ≤ x6 ∧ x6 < (x7.length : Int))) (
    (vars_isVar k ((x7.getD x6.toNat S77.d).Kind) ((x7.getD x6.toNat S77.d).Raw) ((x7.getD x6.toNat S77.d).Value) ((x7.getD x6.toNat S77.d).Num)).bind fun r10 =>
    cond (!r10) (
    cond (decide (0 ≤ x6 ∧ x6 < (x7.length : Int))) (
    (f__strings_Builder__WriteString k ((x7.getD x6.toNat S77.d).Raw) x8).bind fun r11 =>
    let v12 : Int := (IntKind.wrap .i64 (x6 + (1 : Int)))
    vars_Fill.c13 k r n x5 v12 x7 r11.2 k0) none) (
    cond (decide (0 ≤ x6 ∧ x6 ≤ (x7.length : Int))) (
    (vars_closed k ((x7.drop (0 + x6.toNat)).take (x7.length - x6.toNat))).bind fun r13 =>
    cond (r13 == (0 : Int)) (
    some (([] : List UInt8), false)) (
    let v14 : Int := (IntKind.wrap .i64 (x6 + (1 : Int)))
    let v15 : Int := (IntKind.wrap .i64 ((IntKind.wrap .i64 (x6 + r13)) - (1 : Int)))
    cond (decide (0 ≤ v14 ∧ v14 ≤ v15 ∧ v15 ≤ (x7.length : Int))) (
    (r.vars_put ((x7.drop (0 + v14.toNat)).take (v15.toNat - v14.toNat)) x5).bind fun r16 =>
    cond (!r16.2) (
    some (([] : List UInt8), false)) (
    (f__strings_Builder__WriteString k r16.1 x8).bind fun r7 =>
    (f__strings_Builder__Len k r7.2).bind fun r8 =>
    cond (decide (r8.1 > (400 : Int))) (
    some (([] : List UInt8), false)) (
    vars_Fill.c13 k r n x5 (IntKind.wrap .i64 (x6 + r13)) x7 r8.2 k0))) none)) none)) none) (
    k0 x8)
def vars_Fill.nat (k : Nat) (r : vars_Fill.G.R) (a1 : List UInt8) (a2 : List S40) : Option ((List UInt8) × Bool) :=
let v3 : Bool := (decide ((a1.length : Int) > (400 : Int)))
cond v3 (
some (([] : List UInt8), false)) (
(csstok_Cut k a1).bind fun r4 =>
vars_Fill.c13 k r k a2 (0 : Int) r4 ([] : List UInt8) (fun (y9 : List UInt8) =>
(f__strings_Builder__String k y9).bind fun r10 =>
(f__strings_Builder__Len k r10.2).bind fun r11 =>
some (r10.1, (decide (r11.1 ≤ (400 : Int))))))
def vars_Fill.G.rec (k : Nat) : Nat → vars_Fill.G.R
  | 0 => ⟨fun _ _ => none, fun _ _ => none⟩
  | n + 1 => ⟨vars_put.nat k (vars_Fill.G.rec k n), vars_Fill.nat k (vars_Fill.G.rec k n)⟩
def vars_put (k : Nat) : (List S77) → (List S40) → Option ((List UInt8) × Bool) := (vars_Fill.G.rec k k).vars_put
def vars_Fill (k : Nat) : (List UInt8) → (List S40) → Option ((List UInt8) × Bool) := (vars_Fill.G.rec k k).vars_Fill
def vars_Fill.G.tab (k : Nat) (r : vars_Fill.G.R) : Tab T := addTab 20 (line io50 io3 ([], false) (fun v => r.vars_Fill v.1 v.2)) (addTab 41 (line io49 io3 ([], false) (fun v => r.vars_put v.1 v.2)) (tab35 k))
def vars_put.kr (w0 : World) (k : Nat) (r : vars_Fill.G.R) : Kr T ((List UInt8) × Bool) := (kret (retK (cfg w0 (vars_Fill.G.tab k r)) Tryd.f41.results.toList 0 [] io3.pat))
def vars_put.cuts (w0 : World) (k : Nat) (r : vars_Fill.G.R) : Cuts T ((List UInt8) × Bool) := fun n => none
def vars_put.body : Code := bodyOf Tryd.f41
theorem vars_put.e (w0 : World) (k : Nat) (r : vars_Fill.G.R) : ∀ v, (fun v => vars_put.nat k r v.1 v.2) v = runK (cfg w0 (vars_Fill.G.tab k r)) Tryd.f41.ntmps (vars_put.kr w0 k r) (annot (vars_put.cuts w0 k r) vars_put.body) (entry (io49.enc v).1 (io49.enc v).2) (endK (vars_put.kr w0 k r)) := by
  intro v; kernel_rfl
theorem vars_put.hb : Tryd.f41.body = some vars_put.body := by kernel_rfl
def vars_Fill.kr (w0 : World) (k : Nat) (r : vars_Fill.G.R) : Kr T ((List UInt8) × Bool) := (kret (retK (cfg w0 (vars_Fill.G.tab k r)) Tryd.f20.results.toList 0 [] io3.pat))
def vars_Fill.x13 : Ex → Option (List Nat × List Sp)
  | .exit 0 => some ([7], [])
  | _ => none
def vars_Fill.L13 (k : Nat) (r : vars_Fill.G.R) (n : Nat) (v : (List S40) × Int × (List S77) × (List UInt8)) (K : Ex → St T → Option ((List UInt8) × Bool)) : Option ((List UInt8) × Bool) := vars_Fill.c13 k r n v.1 v.2.1 v.2.2.1 v.2.2.2 (fun y50 => K (.exit 0) (mkSt [7] (io5.enc y50)))
def vars_Fill.cuts (w0 : World) (k : Nat) (r : vars_Fill.G.R) : Cuts T ((List UInt8) × Bool) := fun n => bif n.beq 13 then some (entK (cfg w0 (vars_Fill.G.tab k r)) 0 [1, 6, 7, 8] [] io51.pat (vars_Fill.L13 k r k)) else none
def vars_Fill.body : Code := bodyOf Tryd.f20
def vars_Fill.b13 : Code := findD 13 vars_Fill.body
theorem vars_Fill.s13 (w0 : World) (k : Nat) (r : vars_Fill.G.R) : ∀ n v K, vars_Fill.L13 k r (n + 1) v K = runK (cfg w0 (vars_Fill.G.tab k r)) Tryd.f20.ntmps (vars_Fill.kr w0 k r) (annot (vars_Fill.cuts w0 k r) vars_Fill.b13) (mkSt [1, 6, 7, 8] (io51.enc v)) (loopK (cfg w0 (vars_Fill.G.tab k r)) 0 vars_Fill.x13 (entK (cfg w0 (vars_Fill.G.tab k r)) 0 [1, 6, 7, 8] [] io51.pat (vars_Fill.L13 k r n)) K) := by
  intro n v K; kernel_rfl
theorem vars_Fill.e (w0 : World) (k : Nat) (r : vars_Fill.G.R) : ∀ v, (fun v => vars_Fill.nat k r v.1 v.2) v = runK (cfg w0 (vars_Fill.G.tab k r)) Tryd.f20.ntmps (vars_Fill.kr w0 k r) (annot (vars_Fill.cuts w0 k r) vars_Fill.body) (entry (io50.enc v).1 (io50.enc v).2) (endK (vars_Fill.kr w0 k r)) := by
  intro v; kernel_rfl
theorem vars_Fill.hb : Tryd.f20.body = some vars_Fill.body := by kernel_rfl
def tab36 (k : Nat) : Tab T := vars_Fill.G.tab k (vars_Fill.G.rec k k)
def clerestorykeep2_put (k : Nat)  : Option (Bool) :=
let v1 : List S40 := [(⟨([45, 45, 120] : List UInt8), ([99] : List UInt8)⟩ : S40)]
(vars_Fill k ([97, 32, 118, 97, 114, 40, 45, 45, 120, 44, 32, 98, 41] : List UInt8) v1).bind fun r2 =>
let v3 : Bool := (r2.1 == ([97, 32, 99] : List UInt8))
some (cond r2.2 v3 false)
def clerestorykeep2_put.kr (w0 : World) (k : Nat) : Kr T (Bool) := (kret (retK (cfg w0 (tab36 k)) Tryd.f19.results.toList 0 [] io2.pat))
def clerestorykeep2_put.cuts (w0 : World) (k : Nat) : Cuts T (Bool) := fun n => none
def clerestorykeep2_put.body : Code := bodyOf Tryd.f19
theorem clerestorykeep2_put.e (w0 : World) (k : Nat) : ∀ v, (fun v => clerestorykeep2_put k ) v = runK (cfg w0 (tab36 k)) Tryd.f19.ntmps (clerestorykeep2_put.kr w0 k) (annot (clerestorykeep2_put.cuts w0 k) clerestorykeep2_put.body) (entry (io42.enc v).1 (io42.enc v).2) (endK (clerestorykeep2_put.kr w0 k)) := by
  intro v; kernel_rfl
theorem clerestorykeep2_put.hb : Tryd.f19.body = some clerestorykeep2_put.body := by kernel_rfl
def tab37 (k : Nat) : Tab T := addTab 19 (line io42 io2 false (fun v => clerestorykeep2_put k )) (tab36 k)
def clerestorykeep2_hasText.c5 (k : Nat) : Nat → (List UInt8) → (List UInt8) → Int → (Option (Bool)) → Option (Bool)
  | 0, _, _, _, _ => none
  | n + 1, x3, x4, x5, k0 =>
    let v6 : Int := (IntKind.wrap .i64 (x5 + (x4.length : Int)))
    let v7 : Bool := (decide (v6 ≤ (x3.length : Int)))
    cond v7 (
    let v8 : Int := (IntKind.wrap .i64 (x5 + (x4.length : Int)))
    cond (decide (0 ≤ x5 ∧ x5 ≤ v8 ∧ v8 ≤ (x3.length : Int))) (
    let v9 : List UInt8 := ((x3.take v8.toNat).drop x5.toNat)
    cond (v9 == x4) (
    some true) (
    let v10 : Int := (IntKind.wrap .i64 (x5 + (1 : Int)))
    clerestorykeep2_hasText.c5 k n x3 x4 v10 k0)) none) (
    k0)
def clerestorykeep2_hasText (k : Nat) (a1 : List UInt8) (a2 : List UInt8) : Option (Bool) :=
clerestorykeep2_hasText.c5 k k a1 a2 (0 : Int) (
some false)
def clerestorykeep2_hasText.kr (w0 : World) (k : Nat) : Kr T (Bool) := (kret (retK (cfg w0 (tab37 k)) Tryd.f21.results.toList 0 [] io2.pat))
def clerestorykeep2_hasText.x5 : Ex → Option (List Nat × List Sp)
  | .exit 0 => some ([], [])
  | _ => none
def clerestorykeep2_hasText.L5 (k : Nat) (n : Nat) (v : (List UInt8) × (List UInt8) × Int) (K : Ex → St T → Option (Bool)) : Option (Bool) := clerestorykeep2_hasText.c5 k n v.1 v.2.1 v.2.2 ( K (.exit 0) (mkSt [] (io42.enc ())))
def clerestorykeep2_hasText.cuts (w0 : World) (k : Nat) : Cuts T (Bool) := fun n => bif n.beq 5 then some (entK (cfg w0 (tab37 k)) 0 [0, 1, 5] [] io52.pat (clerestorykeep2_hasText.L5 k k)) else none
def clerestorykeep2_hasText.body : Code := bodyOf Tryd.f21
def clerestorykeep2_hasText.b5 : Code := findD 5 clerestorykeep2_hasText.body
theorem clerestorykeep2_hasText.s5 (w0 : World) (k : Nat) : ∀ n v K, clerestorykeep2_hasText.L5 k (n + 1) v K = runK (cfg w0 (tab37 k)) Tryd.f21.ntmps (clerestorykeep2_hasText.kr w0 k) (annot (clerestorykeep2_hasText.cuts w0 k) clerestorykeep2_hasText.b5) (mkSt [0, 1, 5] (io52.enc v)) (loopK (cfg w0 (tab37 k)) 0 clerestorykeep2_hasText.x5 (entK (cfg w0 (tab37 k)) 0 [0, 1, 5] [] io52.pat (clerestorykeep2_hasText.L5 k n)) K) := by
  intro n v K; kernel_rfl
theorem clerestorykeep2_hasText.e (w0 : World) (k : Nat) : ∀ v, (fun v => clerestorykeep2_hasText k v.1 v.2) v = runK (cfg w0 (tab37 k)) Tryd.f21.ntmps (clerestorykeep2_hasText.kr w0 k) (annot (clerestorykeep2_hasText.cuts w0 k) clerestorykeep2_hasText.body) (entry (io0.enc v).1 (io0.enc v).2) (endK (clerestorykeep2_hasText.kr w0 k)) := by
  intro v; kernel_rfl
theorem clerestorykeep2_hasText.hb : Tryd.f21.body = some clerestorykeep2_hasText.body := by kernel_rfl
def tab38 (k : Nat) : Tab T := addTab 21 (line io0 io2 false (fun v => clerestorykeep2_hasText k v.1 v.2)) (tab37 k)
def clerestorykeep2_VarPlain.c18 (k : Nat) (x13 : Bool) (x14 : List UInt8) (x15 : Bool) (x16 : List UInt8)  : Option (Bool) :=
let v17 : Bool := (decide ((x16.length : Int) ≤ (400 : Int)))
let v18 : Bool := (cond (!x15) true (x14 == x16))
let v19 : Bool := (cond (cond x13 (x15 == v17) false) v18 false)
some v19
def clerestorykeep2_VarPlain (k : Nat) (a1 : List UInt8) (a2 : List UInt8) (a3 : List UInt8) : Option (Bool) :=
(clerestorykeep2_put k).bind fun r4 =>
(vars_Fill k a1 ([(⟨a2, a3⟩ : S40)])).bind fun r5 =>
(clerestorykeep2_hasText k a1 ([40] : List UInt8)).bind fun r6 =>
let v7 : Bool := (decide ((a1.length : Int) ≤ (400 : Int)))
let v8 : Bool := (cond r5.2 (!(r5.1 == a1)) false)
let v9 : Bool := (cond (!r6) (cond (!(r5.2 == v7)) true v8) false)
cond v9 (
some false) (
let v10 : List S40 := [(⟨([45, 45, 97] : List UInt8), a3⟩ : S40), (⟨a2, a1⟩ : S40)]
(vars_Fill k ([86, 65, 82, 40, 32, 45, 45, 97, 32, 47, 42, 42, 47, 32, 41] : List UInt8) v10).bind fun r11 =>
let v12 : Bool := (a2 == ([45, 45, 97] : List UInt8))
cond v12 (
clerestorykeep2_VarPlain.c18 k r4 r11.1 r11.2 a1) (
clerestorykeep2_VarPlain.c18 k r4 r11.1 r11.2 a3))
def clerestorykeep2_VarPlain.kr (w0 : World) (k : Nat) : Kr T (Bool) := (kret (retK (cfg w0 (tab38 k)) Tryd.f6.results.toList 0 [] io2.pat))
def clerestorykeep2_VarPlain.x18 : Ex → Option (List Nat × List Sp)
  | _ => none
def clerestorykeep2_VarPlain.L18 (k : Nat) (v : Bool × (List UInt8) × Bool × (List UInt8)) (K : Ex → St T → Option (Bool)) : Option (Bool) := clerestorykeep2_VarPlain.c18 k v.1 v.2.1 v.2.2.1 v.2.2.2
def clerestorykeep2_VarPlain.cuts (w0 : World) (k : Nat) : Cuts T (Bool) := fun n => bif n.beq 18 then some (entK (cfg w0 (tab38 k)) 0 [7, 10, 11, 12] [] io54.pat (clerestorykeep2_VarPlain.L18 k)) else none
def clerestorykeep2_VarPlain.body : Code := bodyOf Tryd.f6
def clerestorykeep2_VarPlain.b18 : Code := findD 18 clerestorykeep2_VarPlain.body
theorem clerestorykeep2_VarPlain.s18 (w0 : World) (k : Nat) : ∀ v K, clerestorykeep2_VarPlain.L18 k v K = runK (cfg w0 (tab38 k)) Tryd.f6.ntmps (clerestorykeep2_VarPlain.kr w0 k) (annot (clerestorykeep2_VarPlain.cuts w0 k) clerestorykeep2_VarPlain.b18) (mkSt [7, 10, 11, 12] (io54.enc v)) (outK (cfg w0 (tab38 k)) 0 clerestorykeep2_VarPlain.x18 K) := by
  intro v K; kernel_rfl
theorem clerestorykeep2_VarPlain.e (w0 : World) (k : Nat) : ∀ v, (fun v => clerestorykeep2_VarPlain k v.1 v.2.1 v.2.2) v = runK (cfg w0 (tab38 k)) Tryd.f6.ntmps (clerestorykeep2_VarPlain.kr w0 k) (annot (clerestorykeep2_VarPlain.cuts w0 k) clerestorykeep2_VarPlain.body) (entry (io53.enc v).1 (io53.enc v).2) (endK (clerestorykeep2_VarPlain.kr w0 k)) := by
  intro v; kernel_rfl
theorem clerestorykeep2_VarPlain.hb : Tryd.f6.body = some clerestorykeep2_VarPlain.body := by kernel_rfl
def tab39 (k : Nat) : Tab T := addTab 6 (line io53 io2 false (fun v => clerestorykeep2_VarPlain k v.1 v.2.1 v.2.2)) (tab38 k)
attribute [local irreducible] runK retK annot entry
theorem ok0 (w0 : World) (hw : Wd w0) (k : Nat) : CfOk (cfg w0 (tab0 k)) := noTab_ok fun _ _ _ => rfl
theorem sim_cf {w0 : World} {t t' : Tab T} {f : FuncId} {a : List (V T)} {b : List (Obj T)} {c : List (V T)} {d : List (Obj T)} (h : Sim (cfg w0 t) f a b c d) : Sim (cfg w0 t') f a b c d := h
theorem simP_cf {w0 : World} {t t' : Tab T} {f : FuncId} {a : List (V T)} {b : List (Obj T)} {c : List (V T)} {d : List (Obj T)} {p : V T} {q : Bool} (h : (q = false → Sim (cfg w0 t) f a b c d) ∧ (q = true → SimP (cfg w0 t) f a b p)) : (q = false → Sim (cfg w0 t') f a b c d) ∧ (q = true → SimP (cfg w0 t') f a b p) := h
theorem strings_TrimLeft.sim (w0 : World) (hw : Wd w0) (k : Nat) : ∀ v x, (fun v => strings_TrimLeft k v.1 v.2) v = some x → Sim (cfg w0 (tab0 k)) 102 (io0.enc v).1 (io0.enc v).2 (io1.enc x).1 (io1.enc x).2 := by
  intro v x h; exact sim_trimL (c := cfg w0 (tab0 k)) (ρ := Sh.ren161) Sh.l161 (by kernel_rfl) h
theorem ok1 (w0 : World) (hw : Wd w0) (k : Nat) : CfOk (cfg w0 (tab1 k)) := addTab_ok (ok0 w0 hw k) (strings_TrimLeft.sim w0 hw k)
theorem stringslite_HasPrefix.a (w0 : World) (k : Nat) : cutsAt (fun n => (stringslite_HasPrefix.cuts w0 k n).isSome) stringslite_HasPrefix.body = [] := by kernel_rfl
theorem stringslite_HasPrefix.sim (w0 : World) (hw : Wd w0) (k : Nat) : ∀ v x, (fun v => stringslite_HasPrefix k v.1 v.2) v = some x → Sim (cfg w0 (tab1 k)) 133 (io0.enc v).1 (io0.enc v).2 (io2.enc x).1 (io2.enc x).2 :=
  sim_of (c := (cfg w0 (tab1 k))) (fine w0 hw _ (ok1 w0 hw k)) (dr w0 hw _ (ok1 w0 hw k)) (i := io0) (o := io2) (ps := []) (cuts := fun _ => stringslite_HasPrefix.cuts w0 k) (m := 0) (g := fun v => stringslite_HasPrefix k v.1 v.2) Tryd.func133 (by kernel_rfl) stringslite_HasPrefix.hb (fun _ => rfl) (fun _ => Nat.le_of_ble_eq_true rfl) (good_cuts (stringslite_HasPrefix.a w0 k) trivial) (stringslite_HasPrefix.e w0 k)
theorem ok2 (w0 : World) (hw : Wd w0) (k : Nat) : CfOk (cfg w0 (tab2 k)) := addTab_ok (ok1 w0 hw k) (stringslite_HasPrefix.sim w0 hw k)
theorem stringslite_CutPrefix.a (w0 : World) (k : Nat) : cutsAt (fun n => (stringslite_CutPrefix.cuts w0 k n).isSome) stringslite_CutPrefix.body = [] := by kernel_rfl
theorem stringslite_CutPrefix.sim (w0 : World) (hw : Wd w0) (k : Nat) : ∀ v x, (fun v => stringslite_CutPrefix k v.1 v.2) v = some x → Sim (cfg w0 (tab2 k)) 143 (io0.enc v).1 (io0.enc v).2 (io3.enc x).1 (io3.enc x).2 :=
  sim_of (c := (cfg w0 (tab2 k))) (fine w0 hw _ (ok2 w0 hw k)) (dr w0 hw _ (ok2 w0 hw k)) (i := io0) (o := io3) (ps := []) (cuts := fun _ => stringslite_CutPrefix.cuts w0 k) (m := 0) (g := fun v => stringslite_CutPrefix k v.1 v.2) Tryd.func143 (by kernel_rfl) stringslite_CutPrefix.hb (fun _ => rfl) (fun _ => Nat.le_of_ble_eq_true rfl) (good_cuts (stringslite_CutPrefix.a w0 k) trivial) (stringslite_CutPrefix.e w0 k)
theorem ok3 (w0 : World) (hw : Wd w0) (k : Nat) : CfOk (cfg w0 (tab3 k)) := addTab_ok (ok2 w0 hw k) (stringslite_CutPrefix.sim w0 hw k)
theorem strings_CutPrefix.a (w0 : World) (k : Nat) : cutsAt (fun n => (strings_CutPrefix.cuts w0 k n).isSome) strings_CutPrefix.body = [] := by kernel_rfl
theorem strings_CutPrefix.sim (w0 : World) (hw : Wd w0) (k : Nat) : ∀ v x, (fun v => strings_CutPrefix k v.1 v.2) v = some x → Sim (cfg w0 (tab3 k)) 103 (io0.enc v).1 (io0.enc v).2 (io3.enc x).1 (io3.enc x).2 :=
  sim_of (c := (cfg w0 (tab3 k))) (fine w0 hw _ (ok3 w0 hw k)) (dr w0 hw _ (ok3 w0 hw k)) (i := io0) (o := io3) (ps := []) (cuts := fun _ => strings_CutPrefix.cuts w0 k) (m := 0) (g := fun v => strings_CutPrefix k v.1 v.2) Tryd.func103 (by kernel_rfl) strings_CutPrefix.hb (fun _ => rfl) (fun _ => Nat.le_of_ble_eq_true rfl) (good_cuts (strings_CutPrefix.a w0 k) trivial) (strings_CutPrefix.e w0 k)
theorem ok4 (w0 : World) (hw : Wd w0) (k : Nat) : CfOk (cfg w0 (tab4 k)) := addTab_ok (ok3 w0 hw k) (strings_CutPrefix.sim w0 hw k)
theorem strings_Index.sim (w0 : World) (hw : Wd w0) (k : Nat) : ∀ v x, (fun v => strings_Index k v.1 v.2) v = some x → Sim (cfg w0 (tab4 k)) 53 (io0.enc v).1 (io0.enc v).2 (io4.enc x).1 (io4.enc x).2 := by
  intro v x h; exact sim_findS (c := cfg w0 (tab4 k)) (ρ := Sh.ren143) Sh.l143 hw.mx h
theorem ok5 (w0 : World) (hw : Wd w0) (k : Nat) : CfOk (cfg w0 (tab5 k)) := addTab_ok (ok4 w0 hw k) (strings_Index.sim w0 hw k)
theorem f__strings_Builder__String.sim (w0 : World) (hw : Wd w0) (k : Nat) : ∀ v x, (fun v => f__strings_Builder__String k v) v = some x → Sim (cfg w0 (tab5 k)) 43 (io5.enc v).1 (io5.enc v).2 (io6.enc x).1 (io6.enc x).2 := by
  intro v x h; cases h; exact sim_str (c := cfg w0 (tab5 k)) (ρ := Sh.blr) Sh.bl Sh.bl.f169 Sh.ext rfl rfl _
theorem ok6 (w0 : World) (hw : Wd w0) (k : Nat) : CfOk (cfg w0 (tab6 k)) := addTab_ok (ok5 w0 hw k) (f__strings_Builder__String.sim w0 hw k)
theorem f__strings_Builder__WriteByte.sim (w0 : World) (hw : Wd w0) (k : Nat) : ∀ v x, (fun v => f__strings_Builder__WriteByte k v.1 v.2) v = some x → Sim (cfg w0 (tab6 k)) 98 (io7.enc v).1 (io7.enc v).2 (io8.enc x).1 (io8.enc x).2 := by
  intro v x h; exact sim_wByte (c := cfg w0 (tab6 k)) (ρ := Sh.blr) Sh.bl Sh.fWriteByte Sh.ext rfl rfl h
theorem ok7 (w0 : World) (hw : Wd w0) (k : Nat) : CfOk (cfg w0 (tab7 k)) := addTab_ok (ok6 w0 hw k) (f__strings_Builder__WriteByte.sim w0 hw k)
theorem csstok_text.a7 (w0 : World) (k : Nat) : cutsAt (fun n => (csstok_text.cuts w0 k n).isSome) csstok_text.b7 = [] := by kernel_rfl
theorem csstok_text.a (w0 : World) (k : Nat) : cutsAt (fun n => (csstok_text.cuts w0 k n).isSome) csstok_text.body = [(7, Code.loop csstok_text.b7)] := by kernel_rfl
theorem csstok_text.so7 (w0 : World) (hw : Wd w0) (k : Nat) : Sound (cfg w0 (tab7 k)) Tryd.f104.ntmps 0 (csstok_text.kr w0 k) (.loop csstok_text.b7) (entK (cfg w0 (tab7 k)) 0 [0, 2, 3, 4] [] io10.pat (csstok_text.L7 k k)) :=
  loop_ok (fine w0 hw _ (ok7 w0 hw k)) (dr w0 hw _ (ok7 w0 hw k)) (good_cuts (csstok_text.a7 w0 k) trivial) io10.ok (xn := csstok_text.x7) (L := csstok_text.L7 k) (fun v K => rfl) (csstok_text.s7 w0 k) k
theorem csstok_text.sim (w0 : World) (hw : Wd w0) (k : Nat) : ∀ v x, (fun v => csstok_text k v) v = some x → Sim (cfg w0 (tab7 k)) 104 (io1.enc v).1 (io1.enc v).2 (io9.enc x).1 (io9.enc x).2 :=
  sim_of (c := (cfg w0 (tab7 k))) (fine w0 hw _ (ok7 w0 hw k)) (dr w0 hw _ (ok7 w0 hw k)) (i := io1) (o := io9) (ps := []) (cuts := fun _ => csstok_text.cuts w0 k) (m := 0) (g := fun v => csstok_text k v) Tryd.func104 (by kernel_rfl) csstok_text.hb (fun _ => rfl) (fun _ => Nat.le_of_ble_eq_true rfl) (good_cuts (csstok_text.a w0 k) ⟨fun f hf => by cases hf; exact csstok_text.so7 w0 hw k, trivial⟩) (csstok_text.e w0 k)
theorem ok8 (w0 : World) (hw : Wd w0) (k : Nat) : CfOk (cfg w0 (tab8 k)) := addTab_ok (ok7 w0 hw k) (csstok_text.sim w0 hw k)
theorem csstok_starts.a (w0 : World) (k : Nat) : cutsAt (fun n => (csstok_starts.cuts w0 k n).isSome) csstok_starts.body = [] := by kernel_rfl
theorem csstok_starts.sim (w0 : World) (hw : Wd w0) (k : Nat) : ∀ v x, (fun v => csstok_starts k v) v = some x → Sim (cfg w0 (tab8 k)) 144 (io12.enc v).1 (io12.enc v).2 (io2.enc x).1 (io2.enc x).2 :=
  sim_of (c := (cfg w0 (tab8 k))) (fine w0 hw _ (ok8 w0 hw k)) (dr w0 hw _ (ok8 w0 hw k)) (i := io12) (o := io2) (ps := []) (cuts := fun _ => csstok_starts.cuts w0 k) (m := 0) (g := fun v => csstok_starts k v) Tryd.func144 (by kernel_rfl) csstok_starts.hb (fun _ => rfl) (fun _ => Nat.le_of_ble_eq_true rfl) (good_cuts (csstok_starts.a w0 k) trivial) (csstok_starts.e w0 k)
theorem ok9 (w0 : World) (hw : Wd w0) (k : Nat) : CfOk (cfg w0 (tab9 k)) := addTab_ok (ok8 w0 hw k) (csstok_starts.sim w0 hw k)
theorem csstok_digit.a (w0 : World) (k : Nat) : cutsAt (fun n => (csstok_digit.cuts w0 k n).isSome) csstok_digit.body = [] := by kernel_rfl
theorem csstok_digit.sim (w0 : World) (hw : Wd w0) (k : Nat) : ∀ v x, (fun v => csstok_digit k v) v = some x → Sim (cfg w0 (tab9 k)) 145 (io12.enc v).1 (io12.enc v).2 (io2.enc x).1 (io2.enc x).2 :=
  sim_of (c := (cfg w0 (tab9 k))) (fine w0 hw _ (ok9 w0 hw k)) (dr w0 hw _ (ok9 w0 hw k)) (i := io12) (o := io2) (ps := []) (cuts := fun _ => csstok_digit.cuts w0 k) (m := 0) (g := fun v => csstok_digit k v) Tryd.func145 (by kernel_rfl) csstok_digit.hb (fun _ => rfl) (fun _ => Nat.le_of_ble_eq_true rfl) (good_cuts (csstok_digit.a w0 k) trivial) (csstok_digit.e w0 k)
theorem ok10 (w0 : World) (hw : Wd w0) (k : Nat) : CfOk (cfg w0 (tab10 k)) := addTab_ok (ok9 w0 hw k) (csstok_digit.sim w0 hw k)
theorem csstok_sign.a (w0 : World) (k : Nat) : cutsAt (fun n => (csstok_sign.cuts w0 k n).isSome) csstok_sign.body = [] := by kernel_rfl
theorem csstok_sign.sim (w0 : World) (hw : Wd w0) (k : Nat) : ∀ v x, (fun v => csstok_sign k v) v = some x → Sim (cfg w0 (tab10 k)) 105 (io12.enc v).1 (io12.enc v).2 (io2.enc x).1 (io2.enc x).2 :=
  sim_of (c := (cfg w0 (tab10 k))) (fine w0 hw _ (ok10 w0 hw k)) (dr w0 hw _ (ok10 w0 hw k)) (i := io12) (o := io2) (ps := []) (cuts := fun _ => csstok_sign.cuts w0 k) (m := 0) (g := fun v => csstok_sign k v) Tryd.func105 (by kernel_rfl) csstok_sign.hb (fun _ => rfl) (fun _ => Nat.le_of_ble_eq_true rfl) (good_cuts (csstok_sign.a w0 k) trivial) (csstok_sign.e w0 k)
theorem ok11 (w0 : World) (hw : Wd w0) (k : Nat) : CfOk (cfg w0 (tab11 k)) := addTab_ok (ok10 w0 hw k) (csstok_sign.sim w0 hw k)
theorem csstok_escape.a (w0 : World) (k : Nat) : cutsAt (fun n => (csstok_escape.cuts w0 k n).isSome) csstok_escape.body = [] := by kernel_rfl
theorem csstok_escape.sim (w0 : World) (hw : Wd w0) (k : Nat) : ∀ v x, (fun v => csstok_escape k v) v = some x → Sim (cfg w0 (tab11 k)) 106 (io1.enc v).1 (io1.enc v).2 (io2.enc x).1 (io2.enc x).2 :=
  sim_of (c := (cfg w0 (tab11 k))) (fine w0 hw _ (ok11 w0 hw k)) (dr w0 hw _ (ok11 w0 hw k)) (i := io1) (o := io2) (ps := []) (cuts := fun _ => csstok_escape.cuts w0 k) (m := 0) (g := fun v => csstok_escape k v) Tryd.func106 (by kernel_rfl) csstok_escape.hb (fun _ => rfl) (fun _ => Nat.le_of_ble_eq_true rfl) (good_cuts (csstok_escape.a w0 k) trivial) (csstok_escape.e w0 k)
theorem ok12 (w0 : World) (hw : Wd w0) (k : Nat) : CfOk (cfg w0 (tab12 k)) := addTab_ok (ok11 w0 hw k) (csstok_escape.sim w0 hw k)
theorem csstok_name.a7 (w0 : World) (k : Nat) : cutsAt (fun n => (csstok_name.cuts w0 k n).isSome) csstok_name.b7 = [] := by kernel_rfl
theorem csstok_name.a (w0 : World) (k : Nat) : cutsAt (fun n => (csstok_name.cuts w0 k n).isSome) csstok_name.body = [(7, Code.loop csstok_name.b7)] := by kernel_rfl
theorem csstok_name.so7 (w0 : World) (hw : Wd w0) (k : Nat) : Sound (cfg w0 (tab12 k)) Tryd.f146.ntmps 0 (csstok_name.kr w0 k) (.loop csstok_name.b7) (entK (cfg w0 (tab12 k)) 0 [0, 4, 5] [] io14.pat (csstok_name.L7 k k)) :=
  loop_ok (fine w0 hw _ (ok12 w0 hw k)) (dr w0 hw _ (ok12 w0 hw k)) (good_cuts (csstok_name.a7 w0 k) trivial) io14.ok (xn := csstok_name.x7) (L := csstok_name.L7 k) (fun v K => rfl) (csstok_name.s7 w0 k) k
theorem csstok_name.sim (w0 : World) (hw : Wd w0) (k : Nat) : ∀ v x, (fun v => csstok_name k v) v = some x → Sim (cfg w0 (tab12 k)) 146 (io1.enc v).1 (io1.enc v).2 (io13.enc x).1 (io13.enc x).2 :=
  sim_of (c := (cfg w0 (tab12 k))) (fine w0 hw _ (ok12 w0 hw k)) (dr w0 hw _ (ok12 w0 hw k)) (i := io1) (o := io13) (ps := []) (cuts := fun _ => csstok_name.cuts w0 k) (m := 0) (g := fun v => csstok_name k v) Tryd.func146 (by kernel_rfl) csstok_name.hb (fun _ => rfl) (fun _ => Nat.le_of_ble_eq_true rfl) (good_cuts (csstok_name.a w0 k) ⟨fun f hf => by cases hf; exact csstok_name.so7 w0 hw k, trivial⟩) (csstok_name.e w0 k)
theorem ok13 (w0 : World) (hw : Wd w0) (k : Nat) : CfOk (cfg w0 (tab13 k)) := addTab_ok (ok12 w0 hw k) (csstok_name.sim w0 hw k)
theorem csstok_named.a (w0 : World) (k : Nat) : cutsAt (fun n => (csstok_named.cuts w0 k n).isSome) csstok_named.body = [] := by kernel_rfl
theorem csstok_named.sim (w0 : World) (hw : Wd w0) (k : Nat) : ∀ v x, (fun v => csstok_named k v.1 v.2.1 v.2.2) v = some x → Sim (cfg w0 (tab13 k)) 107 (io16.enc v).1 (io16.enc v).2 (io9.enc x).1 (io9.enc x).2 :=
  sim_of (c := (cfg w0 (tab13 k))) (fine w0 hw _ (ok13 w0 hw k)) (dr w0 hw _ (ok13 w0 hw k)) (i := io16) (o := io9) (ps := []) (cuts := fun _ => csstok_named.cuts w0 k) (m := 0) (g := fun v => csstok_named k v.1 v.2.1 v.2.2) Tryd.func107 (by kernel_rfl) csstok_named.hb (fun _ => rfl) (fun _ => Nat.le_of_ble_eq_true rfl) (good_cuts (csstok_named.a w0 k) trivial) (csstok_named.e w0 k)
theorem ok14 (w0 : World) (hw : Wd w0) (k : Nat) : CfOk (cfg w0 (tab14 k)) := addTab_ok (ok13 w0 hw k) (csstok_named.sim w0 hw k)
theorem csstok_begins.a (w0 : World) (k : Nat) : cutsAt (fun n => (csstok_begins.cuts w0 k n).isSome) csstok_begins.body = [] := by kernel_rfl
theorem csstok_begins.sim (w0 : World) (hw : Wd w0) (k : Nat) : ∀ v x, (fun v => csstok_begins k v) v = some x → Sim (cfg w0 (tab14 k)) 108 (io1.enc v).1 (io1.enc v).2 (io2.enc x).1 (io2.enc x).2 :=
  sim_of (c := (cfg w0 (tab14 k))) (fine w0 hw _ (ok14 w0 hw k)) (dr w0 hw _ (ok14 w0 hw k)) (i := io1) (o := io2) (ps := []) (cuts := fun _ => csstok_begins.cuts w0 k) (m := 0) (g := fun v => csstok_begins k v) Tryd.func108 (by kernel_rfl) csstok_begins.hb (fun _ => rfl) (fun _ => Nat.le_of_ble_eq_true rfl) (good_cuts (csstok_begins.a w0 k) trivial) (csstok_begins.e w0 k)
theorem ok15 (w0 : World) (hw : Wd w0) (k : Nat) : CfOk (cfg w0 (tab15 k)) := addTab_ok (ok14 w0 hw k) (csstok_begins.sim w0 hw k)
theorem csstok_digits.a (w0 : World) (k : Nat) : cutsAt (fun n => (csstok_digits.cuts w0 k n).isSome) csstok_digits.body = [] := by kernel_rfl
theorem csstok_digits.sim (w0 : World) (hw : Wd w0) (k : Nat) : ∀ v x, (fun v => csstok_digits k v) v = some x → Sim (cfg w0 (tab15 k)) 147 (io1.enc v).1 (io1.enc v).2 (io4.enc x).1 (io4.enc x).2 :=
  sim_of (c := (cfg w0 (tab15 k))) (fine w0 hw _ (ok15 w0 hw k)) (dr w0 hw _ (ok15 w0 hw k)) (i := io1) (o := io4) (ps := []) (cuts := fun _ => csstok_digits.cuts w0 k) (m := 0) (g := fun v => csstok_digits k v) Tryd.func147 (by kernel_rfl) csstok_digits.hb (fun _ => rfl) (fun _ => Nat.le_of_ble_eq_true rfl) (good_cuts (csstok_digits.a w0 k) trivial) (csstok_digits.e w0 k)
theorem ok16 (w0 : World) (hw : Wd w0) (k : Nat) : CfOk (cfg w0 (tab16 k)) := addTab_ok (ok15 w0 hw k) (csstok_digits.sim w0 hw k)
theorem strings_HasPrefix.a (w0 : World) (k : Nat) : cutsAt (fun n => (strings_HasPrefix.cuts w0 k n).isSome) strings_HasPrefix.body = [] := by kernel_rfl
theorem strings_HasPrefix.sim (w0 : World) (hw : Wd w0) (k : Nat) : ∀ v x, (fun v => strings_HasPrefix k v.1 v.2) v = some x → Sim (cfg w0 (tab16 k)) 92 (io0.enc v).1 (io0.enc v).2 (io2.enc x).1 (io2.enc x).2 :=
  sim_of (c := (cfg w0 (tab16 k))) (fine w0 hw _ (ok16 w0 hw k)) (dr w0 hw _ (ok16 w0 hw k)) (i := io0) (o := io2) (ps := []) (cuts := fun _ => strings_HasPrefix.cuts w0 k) (m := 0) (g := fun v => strings_HasPrefix k v.1 v.2) Tryd.func92 (by kernel_rfl) strings_HasPrefix.hb (fun _ => rfl) (fun _ => Nat.le_of_ble_eq_true rfl) (good_cuts (strings_HasPrefix.a w0 k) trivial) (strings_HasPrefix.e w0 k)
theorem ok17 (w0 : World) (hw : Wd w0) (k : Nat) : CfOk (cfg w0 (tab17 k)) := addTab_ok (ok16 w0 hw k) (strings_HasPrefix.sim w0 hw k)
theorem csstok_Number_1.a (w0 : World) (k : Nat) : cutsAt (fun n => (csstok_Number_1.cuts w0 k n).isSome) csstok_Number_1.body = [] := by kernel_rfl
theorem csstok_Number_1.sim (w0 : World) (hw : Wd w0) (k : Nat) : ∀ v x, (fun v => csstok_Number_1 k v.1 v.2) v = some x → Sim (cfg w0 (tab17 k)) 148 (io17.enc v).1 (io17.enc v).2 (io18.enc x).1 (io18.enc x).2 :=
  sim_of (c := (cfg w0 (tab17 k))) (fine w0 hw _ (ok17 w0 hw k)) (dr w0 hw _ (ok17 w0 hw k)) (i := io17) (o := io18) (ps := []) (cuts := fun _ => csstok_Number_1.cuts w0 k) (m := 1) (g := fun v => csstok_Number_1 k v.1 v.2) Tryd.func148 (by kernel_rfl) csstok_Number_1.hb (fun _ => rfl) (fun _ => Nat.le_of_ble_eq_true rfl) (good_cuts (csstok_Number_1.a w0 k) trivial) (csstok_Number_1.e w0 k)
theorem ok18 (w0 : World) (hw : Wd w0) (k : Nat) : CfOk (cfg w0 (tab18 k)) := addTab_ok (ok17 w0 hw k) (csstok_Number_1.sim w0 hw k)
theorem csstok_Number.a29 (w0 : World) (k : Nat) : cutsAt (fun n => (csstok_Number.cuts w0 k n).isSome) csstok_Number.b29 = [] := by kernel_rfl
theorem csstok_Number.a49 (w0 : World) (k : Nat) : cutsAt (fun n => (csstok_Number.cuts w0 k n).isSome) csstok_Number.b49 = [] := by kernel_rfl
theorem csstok_Number.a64 (w0 : World) (k : Nat) : cutsAt (fun n => (csstok_Number.cuts w0 k n).isSome) csstok_Number.b64 = [] := by kernel_rfl
theorem csstok_Number.a46 (w0 : World) (k : Nat) : cutsAt (fun n => (csstok_Number.cuts w0 k n).isSome) csstok_Number.b46 = [(49, Code.loop csstok_Number.b49), (64, csstok_Number.b64)] := by kernel_rfl
theorem csstok_Number.a18 (w0 : World) (k : Nat) : cutsAt (fun n => (csstok_Number.cuts w0 k n).isSome) csstok_Number.b18 = [(29, Code.loop csstok_Number.b29), (46, csstok_Number.b46)] := by kernel_rfl
theorem csstok_Number.a8 (w0 : World) (k : Nat) : cutsAt (fun n => (csstok_Number.cuts w0 k n).isSome) csstok_Number.b8 = [(18, csstok_Number.b18)] := by kernel_rfl
theorem csstok_Number.a (w0 : World) (k : Nat) : cutsAt (fun n => (csstok_Number.cuts w0 k n).isSome) csstok_Number.body = [(8, csstok_Number.b8)] := by kernel_rfl
theorem csstok_Number.so29 (w0 : World) (hw : Wd w0) (k : Nat) : Sound (cfg w0 (tab18 k)) Tryd.f109.ntmps 0 (csstok_Number.kr w0 k) (.loop csstok_Number.b29) (entK (cfg w0 (tab18 k)) 0 [0, 4, 5, 6, 8, 9, 52, 53, 54] [] io20.pat (csstok_Number.L29 k k)) :=
  loop_ok (fine w0 hw _ (ok18 w0 hw k)) (dr w0 hw _ (ok18 w0 hw k)) (good_cuts (csstok_Number.a29 w0 k) trivial) io20.ok (xn := csstok_Number.x29) (L := csstok_Number.L29 k) (fun v K => rfl) (csstok_Number.s29 w0 k) k
theorem csstok_Number.so49 (w0 : World) (hw : Wd w0) (k : Nat) : Sound (cfg w0 (tab18 k)) Tryd.f109.ntmps 0 (csstok_Number.kr w0 k) (.loop csstok_Number.b49) (entK (cfg w0 (tab18 k)) 0 [0, 8, 9, 12, 13, 79] [] io22.pat (csstok_Number.L49 k k)) :=
  loop_ok (fine w0 hw _ (ok18 w0 hw k)) (dr w0 hw _ (ok18 w0 hw k)) (good_cuts (csstok_Number.a49 w0 k) trivial) io22.ok (xn := csstok_Number.x49) (L := csstok_Number.L49 k) (fun v K => rfl) (csstok_Number.s49 w0 k) k
theorem csstok_Number.so64 (w0 : World) (hw : Wd w0) (k : Nat) : Sound (cfg w0 (tab18 k)) Tryd.f109.ntmps 0 (csstok_Number.kr w0 k) csstok_Number.b64 (entK (cfg w0 (tab18 k)) 0 [8, 12] [] io24.pat (csstok_Number.L64 k)) :=
  join_ok (fine w0 hw _ (ok18 w0 hw k)) (dr w0 hw _ (ok18 w0 hw k)) (good_cuts (csstok_Number.a64 w0 k) trivial) io24.ok (xn := csstok_Number.x64) (L := csstok_Number.L64 k) (csstok_Number.s64 w0 k)
theorem csstok_Number.so46 (w0 : World) (hw : Wd w0) (k : Nat) : Sound (cfg w0 (tab18 k)) Tryd.f109.ntmps 0 (csstok_Number.kr w0 k) csstok_Number.b46 (entK (cfg w0 (tab18 k)) 0 [0, 8, 9, 12, 13] [] io25.pat (csstok_Number.L46 k)) :=
  join_ok (fine w0 hw _ (ok18 w0 hw k)) (dr w0 hw _ (ok18 w0 hw k)) (good_cuts (csstok_Number.a46 w0 k) ⟨fun f hf => by cases hf; exact csstok_Number.so49 w0 hw k, fun f hf => by cases hf; exact csstok_Number.so64 w0 hw k, trivial⟩) io25.ok (xn := csstok_Number.x46) (L := csstok_Number.L46 k) (csstok_Number.s46 w0 k)
theorem csstok_Number.so18 (w0 : World) (hw : Wd w0) (k : Nat) : Sound (cfg w0 (tab18 k)) Tryd.f109.ntmps 0 (csstok_Number.kr w0 k) csstok_Number.b18 (entK (cfg w0 (tab18 k)) 0 [0, 4, 5, 6] [] io26.pat (csstok_Number.L18 k)) :=
  join_ok (fine w0 hw _ (ok18 w0 hw k)) (dr w0 hw _ (ok18 w0 hw k)) (good_cuts (csstok_Number.a18 w0 k) ⟨fun f hf => by cases hf; exact csstok_Number.so29 w0 hw k, fun f hf => by cases hf; exact csstok_Number.so46 w0 hw k, trivial⟩) io26.ok (xn := csstok_Number.x18) (L := csstok_Number.L18 k) (csstok_Number.s18 w0 k)
theorem csstok_Number.so8 (w0 : World) (hw : Wd w0) (k : Nat) : Sound (cfg w0 (tab18 k)) Tryd.f109.ntmps 0 (csstok_Number.kr w0 k) csstok_Number.b8 (entK (cfg w0 (tab18 k)) 0 [0, 4] [] io13.pat (csstok_Number.L8 k)) :=
  join_ok (fine w0 hw _ (ok18 w0 hw k)) (dr w0 hw _ (ok18 w0 hw k)) (good_cuts (csstok_Number.a8 w0 k) ⟨fun f hf => by cases hf; exact csstok_Number.so18 w0 hw k, trivial⟩) io13.ok (xn := csstok_Number.x8) (L := csstok_Number.L8 k) (csstok_Number.s8 w0 k)
theorem csstok_Number.sim (w0 : World) (hw : Wd w0) (k : Nat) : ∀ v x, (fun v => csstok_Number k v) v = some x → Sim (cfg w0 (tab18 k)) 109 (io1.enc v).1 (io1.enc v).2 (io19.enc x).1 (io19.enc x).2 :=
  sim_of (c := (cfg w0 (tab18 k))) (fine w0 hw _ (ok18 w0 hw k)) (dr w0 hw _ (ok18 w0 hw k)) (i := io1) (o := io19) (ps := []) (cuts := fun _ => csstok_Number.cuts w0 k) (m := 0) (g := fun v => csstok_Number k v) Tryd.func109 (by kernel_rfl) csstok_Number.hb (fun _ => rfl) (fun _ => Nat.le_of_ble_eq_true rfl) (good_cuts (csstok_Number.a w0 k) ⟨fun f hf => by cases hf; exact csstok_Number.so8 w0 hw k, trivial⟩) (csstok_Number.e w0 k)
theorem ok19 (w0 : World) (hw : Wd w0) (k : Nat) : CfOk (cfg w0 (tab19 k)) := addTab_ok (ok18 w0 hw k) (csstok_Number.sim w0 hw k)
theorem csstok_lower.a7 (w0 : World) (k : Nat) : cutsAt (fun n => (csstok_lower.cuts w0 k n).isSome) csstok_lower.b7 = [] := by kernel_rfl
theorem csstok_lower.a (w0 : World) (k : Nat) : cutsAt (fun n => (csstok_lower.cuts w0 k n).isSome) csstok_lower.body = [(7, Code.loop csstok_lower.b7)] := by kernel_rfl
theorem csstok_lower.so7 (w0 : World) (hw : Wd w0) (k : Nat) : Sound (cfg w0 (tab19 k)) Tryd.f149.ntmps 0 (csstok_lower.kr w0 k) (.loop csstok_lower.b7) (entK (cfg w0 (tab19 k)) 0 [3, 8, 9, 10] [] io27.pat (csstok_lower.L7 k k)) :=
  loop_ok (fine w0 hw _ (ok19 w0 hw k)) (dr w0 hw _ (ok19 w0 hw k)) (good_cuts (csstok_lower.a7 w0 k) trivial) io27.ok (xn := csstok_lower.x7) (L := csstok_lower.L7 k) (fun v K => rfl) (csstok_lower.s7 w0 k) k
theorem csstok_lower.sim (w0 : World) (hw : Wd w0) (k : Nat) : ∀ v x, (fun v => csstok_lower k v) v = some x → Sim (cfg w0 (tab19 k)) 149 (io1.enc v).1 (io1.enc v).2 (io1.enc x).1 (io1.enc x).2 :=
  sim_of (c := (cfg w0 (tab19 k))) (fine w0 hw _ (ok19 w0 hw k)) (dr w0 hw _ (ok19 w0 hw k)) (i := io1) (o := io1) (ps := []) (cuts := fun _ => csstok_lower.cuts w0 k) (m := 0) (g := fun v => csstok_lower k v) Tryd.func149 (by kernel_rfl) csstok_lower.hb (fun _ => rfl) (fun _ => Nat.le_of_ble_eq_true rfl) (good_cuts (csstok_lower.a w0 k) ⟨fun f hf => by cases hf; exact csstok_lower.so7 w0 hw k, trivial⟩) (csstok_lower.e w0 k)
theorem ok20 (w0 : World) (hw : Wd w0) (k : Nat) : CfOk (cfg w0 (tab20 k)) := addTab_ok (ok19 w0 hw k) (csstok_lower.sim w0 hw k)
theorem csstok_number.a16 (w0 : World) (k : Nat) : cutsAt (fun n => (csstok_number.cuts w0 k n).isSome) csstok_number.b16 = [] := by kernel_rfl
theorem csstok_number.a (w0 : World) (k : Nat) : cutsAt (fun n => (csstok_number.cuts w0 k n).isSome) csstok_number.body = [(16, csstok_number.b16)] := by kernel_rfl
theorem csstok_number.so16 (w0 : World) (hw : Wd w0) (k : Nat) : Sound (cfg w0 (tab20 k)) Tryd.f110.ntmps 0 (csstok_number.kr w0 k) csstok_number.b16 (entK (cfg w0 (tab20 k)) 0 [6, 7] [] io30.pat (csstok_number.L16 k)) :=
  join_ok (fine w0 hw _ (ok20 w0 hw k)) (dr w0 hw _ (ok20 w0 hw k)) (good_cuts (csstok_number.a16 w0 k) trivial) io30.ok (xn := csstok_number.x16) (L := csstok_number.L16 k) (csstok_number.s16 w0 k)
theorem csstok_number.sim (w0 : World) (hw : Wd w0) (k : Nat) : ∀ v x, (fun v => csstok_number k v.1 v.2.1 v.2.2) v = some x → Sim (cfg w0 (tab20 k)) 110 (io29.enc v).1 (io29.enc v).2 (io9.enc x).1 (io9.enc x).2 :=
  sim_of (c := (cfg w0 (tab20 k))) (fine w0 hw _ (ok20 w0 hw k)) (dr w0 hw _ (ok20 w0 hw k)) (i := io29) (o := io9) (ps := []) (cuts := fun _ => csstok_number.cuts w0 k) (m := 0) (g := fun v => csstok_number k v.1 v.2.1 v.2.2) Tryd.func110 (by kernel_rfl) csstok_number.hb (fun _ => rfl) (fun _ => Nat.le_of_ble_eq_true rfl) (good_cuts (csstok_number.a w0 k) ⟨fun f hf => by cases hf; exact csstok_number.so16 w0 hw k, trivial⟩) (csstok_number.e w0 k)
theorem ok21 (w0 : World) (hw : Wd w0) (k : Nat) : CfOk (cfg w0 (tab21 k)) := addTab_ok (ok20 w0 hw k) (csstok_number.sim w0 hw k)
theorem csstok_first_1.a (w0 : World) (k : Nat) : cutsAt (fun n => (csstok_first_1.cuts w0 k n).isSome) csstok_first_1.body = [] := by kernel_rfl
theorem csstok_first_1.sim (w0 : World) (hw : Wd w0) (k : Nat) : ∀ v x, (fun v => csstok_first_1 k v.1 v.2) v = some x → Sim (cfg w0 (tab21 k)) 101 (io31.enc v).1 (io31.enc v).2 (io32.enc x).1 (io32.enc x).2 :=
  sim_of (c := (cfg w0 (tab21 k))) (fine w0 hw _ (ok21 w0 hw k)) (dr w0 hw _ (ok21 w0 hw k)) (i := io31) (o := io32) (ps := []) (cuts := fun _ => csstok_first_1.cuts w0 k) (m := 1) (g := fun v => csstok_first_1 k v.1 v.2) Tryd.func101 (by kernel_rfl) csstok_first_1.hb (fun _ => rfl) (fun _ => Nat.le_of_ble_eq_true rfl) (good_cuts (csstok_first_1.a w0 k) trivial) (csstok_first_1.e w0 k)
theorem ok22 (w0 : World) (hw : Wd w0) (k : Nat) : CfOk (cfg w0 (tab22 k)) := addTab_ok (ok21 w0 hw k) (csstok_first_1.sim w0 hw k)
theorem csstok_first.a20 (w0 : World) (k : Nat) : cutsAt (fun n => (csstok_first.cuts w0 k n).isSome) csstok_first.b20 = [] := by kernel_rfl
theorem csstok_first.a52 (w0 : World) (k : Nat) : cutsAt (fun n => (csstok_first.cuts w0 k n).isSome) csstok_first.b52 = [] := by kernel_rfl
theorem csstok_first.a76 (w0 : World) (k : Nat) : cutsAt (fun n => (csstok_first.cuts w0 k n).isSome) csstok_first.b76 = [] := by kernel_rfl
theorem csstok_first.a (w0 : World) (k : Nat) : cutsAt (fun n => (csstok_first.cuts w0 k n).isSome) csstok_first.body = [(20, csstok_first.b20), (52, csstok_first.b52), (76, csstok_first.b76)] := by kernel_rfl
theorem csstok_first.so20 (w0 : World) (hw : Wd w0) (k : Nat) : Sound (cfg w0 (tab22 k)) Tryd.f69.ntmps 0 (csstok_first.kr w0 k) csstok_first.b20 (entK (cfg w0 (tab22 k)) 0 [1, 2] [] io33.pat (csstok_first.L20 k)) :=
  join_ok (fine w0 hw _ (ok22 w0 hw k)) (dr w0 hw _ (ok22 w0 hw k)) (good_cuts (csstok_first.a20 w0 k) trivial) io33.ok (xn := csstok_first.x20) (L := csstok_first.L20 k) (csstok_first.s20 w0 k)
theorem csstok_first.so52 (w0 : World) (hw : Wd w0) (k : Nat) : Sound (cfg w0 (tab22 k)) Tryd.f69.ntmps 0 (csstok_first.kr w0 k) csstok_first.b52 (entK (cfg w0 (tab22 k)) 0 [2, 11] [] io30.pat (csstok_first.L52 k)) :=
  join_ok (fine w0 hw _ (ok22 w0 hw k)) (dr w0 hw _ (ok22 w0 hw k)) (good_cuts (csstok_first.a52 w0 k) trivial) io30.ok (xn := csstok_first.x52) (L := csstok_first.L52 k) (csstok_first.s52 w0 k)
theorem csstok_first.so76 (w0 : World) (hw : Wd w0) (k : Nat) : Sound (cfg w0 (tab22 k)) Tryd.f69.ntmps 0 (csstok_first.kr w0 k) csstok_first.b76 (entK (cfg w0 (tab22 k)) 0 [2, 3] [] io34.pat (csstok_first.L76 k)) :=
  join_ok (fine w0 hw _ (ok22 w0 hw k)) (dr w0 hw _ (ok22 w0 hw k)) (good_cuts (csstok_first.a76 w0 k) trivial) io34.ok (xn := csstok_first.x76) (L := csstok_first.L76 k) (csstok_first.s76 w0 k)
theorem csstok_first.sim (w0 : World) (hw : Wd w0) (k : Nat) : ∀ v x, (fun v => csstok_first k v) v = some x → Sim (cfg w0 (tab22 k)) 69 (io1.enc v).1 (io1.enc v).2 (io9.enc x).1 (io9.enc x).2 :=
  sim_of (c := (cfg w0 (tab22 k))) (fine w0 hw _ (ok22 w0 hw k)) (dr w0 hw _ (ok22 w0 hw k)) (i := io1) (o := io9) (ps := []) (cuts := fun _ => csstok_first.cuts w0 k) (m := 0) (g := fun v => csstok_first k v) Tryd.func69 (by kernel_rfl) csstok_first.hb (fun _ => rfl) (fun _ => Nat.le_of_ble_eq_true rfl) (good_cuts (csstok_first.a w0 k) ⟨fun f hf => by cases hf; exact csstok_first.so20 w0 hw k, fun f hf => by cases hf; exact csstok_first.so52 w0 hw k, fun f hf => by cases hf; exact csstok_first.so76 w0 hw k, trivial⟩) (csstok_first.e w0 k)
theorem ok23 (w0 : World) (hw : Wd w0) (k : Nat) : CfOk (cfg w0 (tab23 k)) := addTab_ok (ok22 w0 hw k) (csstok_first.sim w0 hw k)
theorem csstok_Cut.a5 (w0 : World) (k : Nat) : cutsAt (fun n => (csstok_Cut.cuts w0 k n).isSome) csstok_Cut.b5 = [] := by kernel_rfl
theorem csstok_Cut.a (w0 : World) (k : Nat) : cutsAt (fun n => (csstok_Cut.cuts w0 k n).isSome) csstok_Cut.body = [(5, Code.loop csstok_Cut.b5)] := by kernel_rfl
theorem csstok_Cut.so5 (w0 : World) (hw : Wd w0) (k : Nat) : Sound (cfg w0 (tab23 k)) Tryd.f37.ntmps 0 (csstok_Cut.kr w0 k) (.loop csstok_Cut.b5) (entK (cfg w0 (tab23 k)) 0 [0, 3] [.own 3 77] io36.pat (csstok_Cut.L5 k k)) :=
  loop_ok (fine w0 hw _ (ok23 w0 hw k)) (dr w0 hw _ (ok23 w0 hw k)) (good_cuts (csstok_Cut.a5 w0 k) trivial) io36.ok (xn := csstok_Cut.x5) (L := csstok_Cut.L5 k) (fun v K => rfl) (csstok_Cut.s5 w0 k) k
theorem csstok_Cut.sim (w0 : World) (hw : Wd w0) (k : Nat) : ∀ v x, (fun v => csstok_Cut k v) v = some x → Sim (cfg w0 (tab23 k)) 37 (io1.enc v).1 (io1.enc v).2 (io35.enc x).1 (io35.enc x).2 :=
  sim_of (c := (cfg w0 (tab23 k))) (fine w0 hw _ (ok23 w0 hw k)) (dr w0 hw _ (ok23 w0 hw k)) (i := io1) (o := io35) (ps := [.own 0 77]) (cuts := fun _ => csstok_Cut.cuts w0 k) (m := 0) (g := fun v => csstok_Cut k v) Tryd.func37 (by kernel_rfl) csstok_Cut.hb (fun _ => rfl) (fun _ => Nat.le_of_ble_eq_true rfl) (good_cuts (csstok_Cut.a w0 k) ⟨fun f hf => by cases hf; exact csstok_Cut.so5 w0 hw k, trivial⟩) (csstok_Cut.e w0 k)
theorem ok24 (w0 : World) (hw : Wd w0) (k : Nat) : CfOk (cfg w0 (tab24 k)) := addTab_ok (ok23 w0 hw k) (csstok_Cut.sim w0 hw k)
theorem strings_EqualFold.sim (w0 : World) (hw : Wd w0) (k : Nat) : ∀ v x, (fun v => strings_EqualFold k v.1 v.2) v = some x → Sim (cfg w0 (tab24 k)) 70 (io0.enc v).1 (io0.enc v).2 (io2.enc x).1 (io2.enc x).2 := by
  intro v x h; exact sim_fold (c := cfg w0 (tab24 k)) (ρ := Sh.ren164) Sh.l164 (by kernel_rfl) hw.af h
theorem ok25 (w0 : World) (hw : Wd w0) (k : Nat) : CfOk (cfg w0 (tab25 k)) := addTab_ok (ok24 w0 hw k) (strings_EqualFold.sim w0 hw k)
theorem vars_isVar.a (w0 : World) (k : Nat) : cutsAt (fun n => (vars_isVar.cuts w0 k n).isSome) vars_isVar.body = [] := by kernel_rfl
theorem vars_isVar.sim (w0 : World) (hw : Wd w0) (k : Nat) : ∀ v x, (fun v => vars_isVar k v.1 v.2.1 v.2.2.1 v.2.2.2) v = some x → Sim (cfg w0 (tab25 k)) 38 (io9.enc v).1 (io9.enc v).2 (io2.enc x).1 (io2.enc x).2 :=
  sim_of (c := (cfg w0 (tab25 k))) (fine w0 hw _ (ok25 w0 hw k)) (dr w0 hw _ (ok25 w0 hw k)) (i := io9) (o := io2) (ps := []) (cuts := fun _ => vars_isVar.cuts w0 k) (m := 0) (g := fun v => vars_isVar k v.1 v.2.1 v.2.2.1 v.2.2.2) Tryd.func38 (by kernel_rfl) vars_isVar.hb (fun _ => rfl) (fun _ => Nat.le_of_ble_eq_true rfl) (good_cuts (vars_isVar.a w0 k) trivial) (vars_isVar.e w0 k)
theorem ok26 (w0 : World) (hw : Wd w0) (k : Nat) : CfOk (cfg w0 (tab26 k)) := addTab_ok (ok25 w0 hw k) (vars_isVar.sim w0 hw k)
theorem f__strings_Builder__WriteString.sim (w0 : World) (hw : Wd w0) (k : Nat) : ∀ v x, (fun v => f__strings_Builder__WriteString k v.1 v.2) v = some x → Sim (cfg w0 (tab26 k)) 39 (io37.enc v).1 (io37.enc v).2 (io38.enc x).1 (io38.enc x).2 := by
  intro v x h; obtain ⟨s, hs, rfl⟩ := Option.map_eq_some_iff.1 h; exact sim_wStr (c := cfg w0 (tab26 k)) (ρ := Sh.blr) Sh.bl Sh.fWriteString Sh.ext rfl rfl hs
theorem ok27 (w0 : World) (hw : Wd w0) (k : Nat) : CfOk (cfg w0 (tab27 k)) := addTab_ok (ok26 w0 hw k) (f__strings_Builder__WriteString.sim w0 hw k)
theorem vars_closer.a (w0 : World) (k : Nat) : cutsAt (fun n => (vars_closer.cuts w0 k n).isSome) vars_closer.body = [] := by kernel_rfl
theorem vars_closer.sim (w0 : World) (hw : Wd w0) (k : Nat) : ∀ v x, (fun v => vars_closer k v.1 v.2.1 v.2.2.1 v.2.2.2) v = some x → Sim (cfg w0 (tab27 k)) 72 (io9.enc v).1 (io9.enc v).2 (io1.enc x).1 (io1.enc x).2 :=
  sim_of (c := (cfg w0 (tab27 k))) (fine w0 hw _ (ok27 w0 hw k)) (dr w0 hw _ (ok27 w0 hw k)) (i := io9) (o := io1) (ps := []) (cuts := fun _ => vars_closer.cuts w0 k) (m := 0) (g := fun v => vars_closer k v.1 v.2.1 v.2.2.1 v.2.2.2) Tryd.func72 (by kernel_rfl) vars_closer.hb (fun _ => rfl) (fun _ => Nat.le_of_ble_eq_true rfl) (good_cuts (vars_closer.a w0 k) trivial) (vars_closer.e w0 k)
theorem ok28 (w0 : World) (hw : Wd w0) (k : Nat) : CfOk (cfg w0 (tab28 k)) := addTab_ok (ok27 w0 hw k) (vars_closer.sim w0 hw k)
theorem vars_closed.a24 (w0 : World) (k : Nat) : cutsAt (fun n => (vars_closed.cuts w0 k n).isSome) vars_closed.b24 = [] := by kernel_rfl
theorem vars_closed.a7 (w0 : World) (k : Nat) : cutsAt (fun n => (vars_closed.cuts w0 k n).isSome) vars_closed.b7 = [(24, vars_closed.b24)] := by kernel_rfl
theorem vars_closed.a (w0 : World) (k : Nat) : cutsAt (fun n => (vars_closed.cuts w0 k n).isSome) vars_closed.body = [(7, Code.loop vars_closed.b7)] := by kernel_rfl
theorem vars_closed.so24 (w0 : World) (hw : Wd w0) (k : Nat) : Sound (cfg w0 (tab28 k)) Tryd.f40.ntmps 0 (vars_closed.kr w0 k) vars_closed.b24 (entK (cfg w0 (tab28 k)) 0 [3, 4, 6, 7, 8] [.own 3 9] io40.pat (vars_closed.L24 k)) :=
  join_ok (fine w0 hw _ (ok28 w0 hw k)) (dr w0 hw _ (ok28 w0 hw k)) (good_cuts (vars_closed.a24 w0 k) trivial) io40.ok (xn := vars_closed.x24) (L := vars_closed.L24 k) (vars_closed.s24 w0 k)
theorem vars_closed.so7 (w0 : World) (hw : Wd w0) (k : Nat) : Sound (cfg w0 (tab28 k)) Tryd.f40.ntmps 0 (vars_closed.kr w0 k) (.loop vars_closed.b7) (entK (cfg w0 (tab28 k)) 0 [3, 6, 7, 8] [.own 3 9] io41.pat (vars_closed.L7 k k)) :=
  loop_ok (fine w0 hw _ (ok28 w0 hw k)) (dr w0 hw _ (ok28 w0 hw k)) (good_cuts (vars_closed.a7 w0 k) ⟨fun f hf => by cases hf; exact vars_closed.so24 w0 hw k, trivial⟩) io41.ok (xn := vars_closed.x7) (L := vars_closed.L7 k) (fun v K => rfl) (vars_closed.s7 w0 k) k
theorem vars_closed.sim (w0 : World) (hw : Wd w0) (k : Nat) : ∀ v x, (fun v => vars_closed k v) v = some x → Sim (cfg w0 (tab28 k)) 40 (io39.enc v).1 (io39.enc v).2 (io4.enc x).1 (io4.enc x).2 :=
  sim_of (c := (cfg w0 (tab28 k))) (fine w0 hw _ (ok28 w0 hw k)) (dr w0 hw _ (ok28 w0 hw k)) (i := io39) (o := io4) (ps := []) (cuts := fun _ => vars_closed.cuts w0 k) (m := 0) (g := fun v => vars_closed k v) Tryd.func40 (by kernel_rfl) vars_closed.hb (fun _ => rfl) (fun _ => Nat.le_of_ble_eq_true rfl) (good_cuts (vars_closed.a w0 k) ⟨fun f hf => by cases hf; exact vars_closed.so7 w0 hw k, trivial⟩) (vars_closed.e w0 k)
theorem ok29 (w0 : World) (hw : Wd w0) (k : Nat) : CfOk (cfg w0 (tab29 k)) := addTab_ok (ok28 w0 hw k) (vars_closed.sim w0 hw k)
theorem vars_silent.a (w0 : World) (k : Nat) : cutsAt (fun n => (vars_silent.cuts w0 k n).isSome) vars_silent.body = [] := by kernel_rfl
theorem vars_silent.sim (w0 : World) (hw : Wd w0) (k : Nat) : ∀ v x, (fun v => vars_silent k v.1 v.2.1 v.2.2.1 v.2.2.2) v = some x → Sim (cfg w0 (tab29 k)) 94 (io9.enc v).1 (io9.enc v).2 (io2.enc x).1 (io2.enc x).2 :=
  sim_of (c := (cfg w0 (tab29 k))) (fine w0 hw _ (ok29 w0 hw k)) (dr w0 hw _ (ok29 w0 hw k)) (i := io9) (o := io2) (ps := []) (cuts := fun _ => vars_silent.cuts w0 k) (m := 0) (g := fun v => vars_silent k v.1 v.2.1 v.2.2.1 v.2.2.2) Tryd.func94 (by kernel_rfl) vars_silent.hb (fun _ => rfl) (fun _ => Nat.le_of_ble_eq_true rfl) (good_cuts (vars_silent.a w0 k) trivial) (vars_silent.e w0 k)
theorem ok30 (w0 : World) (hw : Wd w0) (k : Nat) : CfOk (cfg w0 (tab30 k)) := addTab_ok (ok29 w0 hw k) (vars_silent.sim w0 hw k)
theorem vars_asked.a3 (w0 : World) (k : Nat) : cutsAt (fun n => (vars_asked.cuts w0 k n).isSome) vars_asked.b3 = [] := by kernel_rfl
theorem vars_asked.a15 (w0 : World) (k : Nat) : cutsAt (fun n => (vars_asked.cuts w0 k n).isSome) vars_asked.b15 = [] := by kernel_rfl
theorem vars_asked.a (w0 : World) (k : Nat) : cutsAt (fun n => (vars_asked.cuts w0 k n).isSome) vars_asked.body = [(3, Code.loop vars_asked.b3), (15, Code.loop vars_asked.b15)] := by kernel_rfl
theorem vars_asked.so3 (w0 : World) (hw : Wd w0) (k : Nat) : Sound (cfg w0 (tab30 k)) Tryd.f73.ntmps 0 (vars_asked.kr w0 k) (.loop vars_asked.b3) (entK (cfg w0 (tab30 k)) 0 [0] [] io39.pat (vars_asked.L3 k k)) :=
  loop_ok (fine w0 hw _ (ok30 w0 hw k)) (dr w0 hw _ (ok30 w0 hw k)) (good_cuts (vars_asked.a3 w0 k) trivial) io39.ok (xn := vars_asked.x3) (L := vars_asked.L3 k) (fun v K => rfl) (vars_asked.s3 w0 k) k
theorem vars_asked.so15 (w0 : World) (hw : Wd w0) (k : Nat) : Sound (cfg w0 (tab30 k)) Tryd.f73.ntmps 0 (vars_asked.kr w0 k) (.loop vars_asked.b15) (entK (cfg w0 (tab30 k)) 0 [0, 6] [] io44.pat (vars_asked.L15 k k)) :=
  loop_ok (fine w0 hw _ (ok30 w0 hw k)) (dr w0 hw _ (ok30 w0 hw k)) (good_cuts (vars_asked.a15 w0 k) trivial) io44.ok (xn := vars_asked.x15) (L := vars_asked.L15 k) (fun v K => rfl) (vars_asked.s15 w0 k) k
theorem vars_asked.sim (w0 : World) (hw : Wd w0) (k : Nat) : ∀ v x, (fun v => vars_asked k v) v = some x → Sim (cfg w0 (tab30 k)) 73 (io39.enc v).1 (io39.enc v).2 (io43.enc x).1 (io43.enc x).2 :=
  sim_of (c := (cfg w0 (tab30 k))) (fine w0 hw _ (ok30 w0 hw k)) (dr w0 hw _ (ok30 w0 hw k)) (i := io39) (o := io43) (ps := [.frz 1 77]) (cuts := fun _ => vars_asked.cuts w0 k) (m := 0) (g := fun v => vars_asked k v) Tryd.func73 (by kernel_rfl) vars_asked.hb (fun _ => rfl) (fun _ => Nat.le_of_ble_eq_true rfl) (good_cuts (vars_asked.a w0 k) ⟨fun f hf => by cases hf; exact vars_asked.so3 w0 hw k, fun f hf => by cases hf; exact vars_asked.so15 w0 hw k, trivial⟩) (vars_asked.e w0 k)
theorem ok31 (w0 : World) (hw : Wd w0) (k : Nat) : CfOk (cfg w0 (tab31 k)) := addTab_ok (ok30 w0 hw k) (vars_asked.sim w0 hw k)
theorem vars_last.sim (w0 : World) (hw : Wd w0) (k : Nat) : ∀ v x, (fun v => vars_last k v.1 v.2) v = some x → Sim (cfg w0 (tab31 k)) 65 (io45.enc v).1 (io45.enc v).2 (io3.enc x).1 (io3.enc x).2 := by
  intro v x h; exact Bw.sim_last (c := cfg w0 (tab31 k)) rfl (fun x : S40 => x.1) (fun x : S40 => x.2) (fun x => rfl) h
theorem ok32 (w0 : World) (hw : Wd w0) (k : Nat) : CfOk (cfg w0 (tab32 k)) := addTab_ok (ok31 w0 hw k) (vars_last.sim w0 hw k)
theorem cssrule_silent.a (w0 : World) (k : Nat) : cutsAt (fun n => (cssrule_silent.cuts w0 k n).isSome) cssrule_silent.body = [] := by kernel_rfl
theorem cssrule_silent.sim (w0 : World) (hw : Wd w0) (k : Nat) : ∀ v x, (fun v => cssrule_silent k v.1 v.2.1 v.2.2.1 v.2.2.2) v = some x → Sim (cfg w0 (tab32 k)) 114 (io9.enc v).1 (io9.enc v).2 (io2.enc x).1 (io2.enc x).2 :=
  sim_of (c := (cfg w0 (tab32 k))) (fine w0 hw _ (ok32 w0 hw k)) (dr w0 hw _ (ok32 w0 hw k)) (i := io9) (o := io2) (ps := []) (cuts := fun _ => cssrule_silent.cuts w0 k) (m := 0) (g := fun v => cssrule_silent k v.1 v.2.1 v.2.2.1 v.2.2.2) Tryd.func114 (by kernel_rfl) cssrule_silent.hb (fun _ => rfl) (fun _ => Nat.le_of_ble_eq_true rfl) (good_cuts (cssrule_silent.a w0 k) trivial) (cssrule_silent.e w0 k)
theorem ok33 (w0 : World) (hw : Wd w0) (k : Nat) : CfOk (cfg w0 (tab33 k)) := addTab_ok (ok32 w0 hw k) (cssrule_silent.sim w0 hw k)
theorem f__strings_Builder__Len.sim (w0 : World) (hw : Wd w0) (k : Nat) : ∀ v x, (fun v => f__strings_Builder__Len k v) v = some x → Sim (cfg w0 (tab33 k)) 42 (io5.enc v).1 (io5.enc v).2 (io46.enc x).1 (io46.enc x).2 := by
  intro v x h; cases h; exact sim_len (c := cfg w0 (tab33 k)) (ρ := Sh.blr) Sh.bl Sh.fLen rfl rfl _
theorem ok34 (w0 : World) (hw : Wd w0) (k : Nat) : CfOk (cfg w0 (tab34 k)) := addTab_ok (ok33 w0 hw k) (f__strings_Builder__Len.sim w0 hw k)
theorem cssrule_Head.a20 (w0 : World) (k : Nat) : cutsAt (fun n => (cssrule_Head.cuts w0 k n).isSome) cssrule_Head.b20 = [] := by kernel_rfl
theorem cssrule_Head.a9 (w0 : World) (k : Nat) : cutsAt (fun n => (cssrule_Head.cuts w0 k n).isSome) cssrule_Head.b9 = [(20, cssrule_Head.b20)] := by kernel_rfl
theorem cssrule_Head.a (w0 : World) (k : Nat) : cutsAt (fun n => (cssrule_Head.cuts w0 k n).isSome) cssrule_Head.body = [(9, Code.loop cssrule_Head.b9)] := by kernel_rfl
theorem cssrule_Head.so20 (w0 : World) (hw : Wd w0) (k : Nat) : Sound (cfg w0 (tab34 k)) Tryd.f74.ntmps 0 (cssrule_Head.kr w0 k) cssrule_Head.b20 (entK (cfg w0 (tab34 k)) 0 [3, 6, 7, 8, 9] [] io47.pat (cssrule_Head.L20 k)) :=
  join_ok (fine w0 hw _ (ok34 w0 hw k)) (dr w0 hw _ (ok34 w0 hw k)) (good_cuts (cssrule_Head.a20 w0 k) trivial) io47.ok (xn := cssrule_Head.x20) (L := cssrule_Head.L20 k) (cssrule_Head.s20 w0 k)
theorem cssrule_Head.so9 (w0 : World) (hw : Wd w0) (k : Nat) : Sound (cfg w0 (tab34 k)) Tryd.f74.ntmps 0 (cssrule_Head.kr w0 k) (.loop cssrule_Head.b9) (entK (cfg w0 (tab34 k)) 0 [3, 4, 7, 8, 9] [] io48.pat (cssrule_Head.L9 k k)) :=
  loop_ok (fine w0 hw _ (ok34 w0 hw k)) (dr w0 hw _ (ok34 w0 hw k)) (good_cuts (cssrule_Head.a9 w0 k) ⟨fun f hf => by cases hf; exact cssrule_Head.so20 w0 hw k, trivial⟩) io48.ok (xn := cssrule_Head.x9) (L := cssrule_Head.L9 k) (fun v K => rfl) (cssrule_Head.s9 w0 k) k
theorem cssrule_Head.sim (w0 : World) (hw : Wd w0) (k : Nat) : ∀ v x, (fun v => cssrule_Head k v) v = some x → Sim (cfg w0 (tab34 k)) 74 (io39.enc v).1 (io39.enc v).2 (io1.enc x).1 (io1.enc x).2 :=
  sim_of (c := (cfg w0 (tab34 k))) (fine w0 hw _ (ok34 w0 hw k)) (dr w0 hw _ (ok34 w0 hw k)) (i := io39) (o := io1) (ps := []) (cuts := fun _ => cssrule_Head.cuts w0 k) (m := 0) (g := fun v => cssrule_Head k v) Tryd.func74 (by kernel_rfl) cssrule_Head.hb (fun _ => rfl) (fun _ => Nat.le_of_ble_eq_true rfl) (good_cuts (cssrule_Head.a w0 k) ⟨fun f hf => by cases hf; exact cssrule_Head.so9 w0 hw k, trivial⟩) (cssrule_Head.e w0 k)
theorem ok35 (w0 : World) (hw : Wd w0) (k : Nat) : CfOk (cfg w0 (tab35 k)) := addTab_ok (ok34 w0 hw k) (cssrule_Head.sim w0 hw k)
theorem vars_put.a (w0 : World) (k : Nat) (r : vars_Fill.G.R) : cutsAt (fun n => (vars_put.cuts w0 k r n).isSome) vars_put.body = [] := by kernel_rfl
theorem vars_put.simr (w0 : World) (hw : Wd w0) (k : Nat) (r : vars_Fill.G.R) (hr : CfOk (cfg w0 (vars_Fill.G.tab k r))) : ∀ v x, (fun v => vars_put.nat k r v.1 v.2) v = some x → Sim (cfg w0 (vars_Fill.G.tab k r)) 41 (io49.enc v).1 (io49.enc v).2 (io3.enc x).1 (io3.enc x).2 :=
  sim_of (c := (cfg w0 (vars_Fill.G.tab k r))) (fine w0 hw _ hr) (dr w0 hw _ hr) (i := io49) (o := io3) (ps := []) (cuts := fun _ => vars_put.cuts w0 k r) (m := 0) (g := fun v => vars_put.nat k r v.1 v.2) Tryd.func41 (by kernel_rfl) vars_put.hb (fun _ => rfl) (fun _ => Nat.le_of_ble_eq_true rfl) (good_cuts (vars_put.a w0 k r) trivial) (vars_put.e w0 k r)
theorem vars_Fill.a13 (w0 : World) (k : Nat) (r : vars_Fill.G.R) : cutsAt (fun n => (vars_Fill.cuts w0 k r n).isSome) vars_Fill.b13 = [] := by kernel_rfl
theorem vars_Fill.a (w0 : World) (k : Nat) (r : vars_Fill.G.R) : cutsAt (fun n => (vars_Fill.cuts w0 k r n).isSome) vars_Fill.body = [(13, Code.loop vars_Fill.b13)] := by kernel_rfl
theorem vars_Fill.so13 (w0 : World) (hw : Wd w0) (k : Nat) (r : vars_Fill.G.R) (hr : CfOk (cfg w0 (vars_Fill.G.tab k r))) : Sound (cfg w0 (vars_Fill.G.tab k r)) Tryd.f20.ntmps 0 (vars_Fill.kr w0 k r) (.loop vars_Fill.b13) (entK (cfg w0 (vars_Fill.G.tab k r)) 0 [1, 6, 7, 8] [] io51.pat (vars_Fill.L13 k r k)) :=
  loop_ok (fine w0 hw _ hr) (dr w0 hw _ hr) (good_cuts (vars_Fill.a13 w0 k r) trivial) io51.ok (xn := vars_Fill.x13) (L := vars_Fill.L13 k r) (fun v K => rfl) (vars_Fill.s13 w0 k r) k
theorem vars_Fill.simr (w0 : World) (hw : Wd w0) (k : Nat) (r : vars_Fill.G.R) (hr : CfOk (cfg w0 (vars_Fill.G.tab k r))) : ∀ v x, (fun v => vars_Fill.nat k r v.1 v.2) v = some x → Sim (cfg w0 (vars_Fill.G.tab k r)) 20 (io50.enc v).1 (io50.enc v).2 (io3.enc x).1 (io3.enc x).2 :=
  sim_of (c := (cfg w0 (vars_Fill.G.tab k r))) (fine w0 hw _ hr) (dr w0 hw _ hr) (i := io50) (o := io3) (ps := []) (cuts := fun _ => vars_Fill.cuts w0 k r) (m := 0) (g := fun v => vars_Fill.nat k r v.1 v.2) Tryd.func20 (by kernel_rfl) vars_Fill.hb (fun _ => rfl) (fun _ => Nat.le_of_ble_eq_true rfl) (good_cuts (vars_Fill.a w0 k r) ⟨fun f hf => by cases hf; exact vars_Fill.so13 w0 hw k r hr, trivial⟩) (vars_Fill.e w0 k r)
theorem vars_Fill.G.tab_ok (w0 : World) (k : Nat) (r : vars_Fill.G.R) (h0 : CfOk (cfg w0 (tab35 k))) (h_vars_put : ∀ v x, (fun v => r.vars_put v.1 v.2) v = some x → Sim (cfg w0 (tab35 k)) 41 (io49.enc v).1 (io49.enc v).2 (io3.enc x).1 (io3.enc x).2) (h_vars_Fill : ∀ v x, (fun v => r.vars_Fill v.1 v.2) v = some x → Sim (cfg w0 (tab35 k)) 20 (io50.enc v).1 (io50.enc v).2 (io3.enc x).1 (io3.enc x).2) : CfOk (cfg w0 (vars_Fill.G.tab k r)) :=
  addTab_ok (addTab_ok (h0) (fun v x h => sim_cf (h_vars_put v x h))) (fun v x h => sim_cf (h_vars_Fill v x h))
theorem vars_put.z (k : Nat) : ∀ v : (List S77) × (List S40), (fun v : (List S77) × (List S40) => (vars_Fill.G.rec k 0).vars_put v.1 v.2) v = none := fun v => rfl
theorem vars_put.u (k n : Nat) : ∀ v : (List S77) × (List S40), (fun v : (List S77) × (List S40) => (vars_Fill.G.rec k (n + 1)).vars_put v.1 v.2) v = (fun v : (List S77) × (List S40) => vars_put.nat k (vars_Fill.G.rec k n) v.1 v.2) v := fun v => rfl
theorem vars_Fill.z (k : Nat) : ∀ v : (List UInt8) × (List S40), (fun v : (List UInt8) × (List S40) => (vars_Fill.G.rec k 0).vars_Fill v.1 v.2) v = none := fun v => rfl
theorem vars_Fill.u (k n : Nat) : ∀ v : (List UInt8) × (List S40), (fun v : (List UInt8) × (List S40) => (vars_Fill.G.rec k (n + 1)).vars_Fill v.1 v.2) v = (fun v : (List UInt8) × (List S40) => vars_Fill.nat k (vars_Fill.G.rec k n) v.1 v.2) v := fun v => rfl
theorem vars_Fill.G.ok (w0 : World) (hw : Wd w0) (k : Nat) : ∀ n, CfOk (cfg w0 (vars_Fill.G.tab k (vars_Fill.G.rec k n)))
  | 0 => vars_Fill.G.tab_ok w0 k _ (ok35 w0 hw k) (fun v x h => by rw [vars_put.z k v] at h; cases h) (fun v x h => by rw [vars_Fill.z k v] at h; cases h)
  | n + 1 => vars_Fill.G.tab_ok w0 k _ (ok35 w0 hw k) (fun v x h => sim_cf (vars_put.simr w0 hw k _ (vars_Fill.G.ok w0 hw k n) v x ((vars_put.u k n v).symm.trans h))) (fun v x h => sim_cf (vars_Fill.simr w0 hw k _ (vars_Fill.G.ok w0 hw k n) v x ((vars_Fill.u k n v).symm.trans h)))
theorem ok36 (w0 : World) (hw : Wd w0) (k : Nat) : CfOk (cfg w0 (tab36 k)) := vars_Fill.G.ok w0 hw k k
theorem clerestorykeep2_put.a (w0 : World) (k : Nat) : cutsAt (fun n => (clerestorykeep2_put.cuts w0 k n).isSome) clerestorykeep2_put.body = [] := by kernel_rfl
theorem clerestorykeep2_put.sim (w0 : World) (hw : Wd w0) (k : Nat) : ∀ v x, (fun v => clerestorykeep2_put k ) v = some x → Sim (cfg w0 (tab36 k)) 19 (io42.enc v).1 (io42.enc v).2 (io2.enc x).1 (io2.enc x).2 :=
  sim_of (c := (cfg w0 (tab36 k))) (fine w0 hw _ (ok36 w0 hw k)) (dr w0 hw _ (ok36 w0 hw k)) (i := io42) (o := io2) (ps := []) (cuts := fun _ => clerestorykeep2_put.cuts w0 k) (m := 0) (g := fun v => clerestorykeep2_put k ) Tryd.func19 (by kernel_rfl) clerestorykeep2_put.hb (fun _ => rfl) (fun _ => Nat.le_of_ble_eq_true rfl) (good_cuts (clerestorykeep2_put.a w0 k) trivial) (clerestorykeep2_put.e w0 k)
theorem ok37 (w0 : World) (hw : Wd w0) (k : Nat) : CfOk (cfg w0 (tab37 k)) := addTab_ok (ok36 w0 hw k) (clerestorykeep2_put.sim w0 hw k)
theorem clerestorykeep2_hasText.a5 (w0 : World) (k : Nat) : cutsAt (fun n => (clerestorykeep2_hasText.cuts w0 k n).isSome) clerestorykeep2_hasText.b5 = [] := by kernel_rfl
theorem clerestorykeep2_hasText.a (w0 : World) (k : Nat) : cutsAt (fun n => (clerestorykeep2_hasText.cuts w0 k n).isSome) clerestorykeep2_hasText.body = [(5, Code.loop clerestorykeep2_hasText.b5)] := by kernel_rfl
theorem clerestorykeep2_hasText.so5 (w0 : World) (hw : Wd w0) (k : Nat) : Sound (cfg w0 (tab37 k)) Tryd.f21.ntmps 0 (clerestorykeep2_hasText.kr w0 k) (.loop clerestorykeep2_hasText.b5) (entK (cfg w0 (tab37 k)) 0 [0, 1, 5] [] io52.pat (clerestorykeep2_hasText.L5 k k)) :=
  loop_ok (fine w0 hw _ (ok37 w0 hw k)) (dr w0 hw _ (ok37 w0 hw k)) (good_cuts (clerestorykeep2_hasText.a5 w0 k) trivial) io52.ok (xn := clerestorykeep2_hasText.x5) (L := clerestorykeep2_hasText.L5 k) (fun v K => rfl) (clerestorykeep2_hasText.s5 w0 k) k
theorem clerestorykeep2_hasText.sim (w0 : World) (hw : Wd w0) (k : Nat) : ∀ v x, (fun v => clerestorykeep2_hasText k v.1 v.2) v = some x → Sim (cfg w0 (tab37 k)) 21 (io0.enc v).1 (io0.enc v).2 (io2.enc x).1 (io2.enc x).2 :=
  sim_of (c := (cfg w0 (tab37 k))) (fine w0 hw _ (ok37 w0 hw k)) (dr w0 hw _ (ok37 w0 hw k)) (i := io0) (o := io2) (ps := []) (cuts := fun _ => clerestorykeep2_hasText.cuts w0 k) (m := 0) (g := fun v => clerestorykeep2_hasText k v.1 v.2) Tryd.func21 (by kernel_rfl) clerestorykeep2_hasText.hb (fun _ => rfl) (fun _ => Nat.le_of_ble_eq_true rfl) (good_cuts (clerestorykeep2_hasText.a w0 k) ⟨fun f hf => by cases hf; exact clerestorykeep2_hasText.so5 w0 hw k, trivial⟩) (clerestorykeep2_hasText.e w0 k)
theorem ok38 (w0 : World) (hw : Wd w0) (k : Nat) : CfOk (cfg w0 (tab38 k)) := addTab_ok (ok37 w0 hw k) (clerestorykeep2_hasText.sim w0 hw k)
theorem clerestorykeep2_VarPlain.a18 (w0 : World) (k : Nat) : cutsAt (fun n => (clerestorykeep2_VarPlain.cuts w0 k n).isSome) clerestorykeep2_VarPlain.b18 = [] := by kernel_rfl
theorem clerestorykeep2_VarPlain.a (w0 : World) (k : Nat) : cutsAt (fun n => (clerestorykeep2_VarPlain.cuts w0 k n).isSome) clerestorykeep2_VarPlain.body = [(18, clerestorykeep2_VarPlain.b18)] := by kernel_rfl
theorem clerestorykeep2_VarPlain.so18 (w0 : World) (hw : Wd w0) (k : Nat) : Sound (cfg w0 (tab38 k)) Tryd.f6.ntmps 0 (clerestorykeep2_VarPlain.kr w0 k) clerestorykeep2_VarPlain.b18 (entK (cfg w0 (tab38 k)) 0 [7, 10, 11, 12] [] io54.pat (clerestorykeep2_VarPlain.L18 k)) :=
  join_ok (fine w0 hw _ (ok38 w0 hw k)) (dr w0 hw _ (ok38 w0 hw k)) (good_cuts (clerestorykeep2_VarPlain.a18 w0 k) trivial) io54.ok (xn := clerestorykeep2_VarPlain.x18) (L := clerestorykeep2_VarPlain.L18 k) (clerestorykeep2_VarPlain.s18 w0 k)
theorem clerestorykeep2_VarPlain.sim (w0 : World) (hw : Wd w0) (k : Nat) : ∀ v x, (fun v => clerestorykeep2_VarPlain k v.1 v.2.1 v.2.2) v = some x → Sim (cfg w0 (tab38 k)) 6 (io53.enc v).1 (io53.enc v).2 (io2.enc x).1 (io2.enc x).2 :=
  sim_of (c := (cfg w0 (tab38 k))) (fine w0 hw _ (ok38 w0 hw k)) (dr w0 hw _ (ok38 w0 hw k)) (i := io53) (o := io2) (ps := []) (cuts := fun _ => clerestorykeep2_VarPlain.cuts w0 k) (m := 0) (g := fun v => clerestorykeep2_VarPlain k v.1 v.2.1 v.2.2) Tryd.func6 (by kernel_rfl) clerestorykeep2_VarPlain.hb (fun _ => rfl) (fun _ => Nat.le_of_ble_eq_true rfl) (good_cuts (clerestorykeep2_VarPlain.a w0 k) ⟨fun f hf => by cases hf; exact clerestorykeep2_VarPlain.so18 w0 hw k, trivial⟩) (clerestorykeep2_VarPlain.e w0 k)
theorem ok39 (w0 : World) (hw : Wd w0) (k : Nat) : CfOk (cfg w0 (tab39 k)) := addTab_ok (ok38 w0 hw k) (clerestorykeep2_VarPlain.sim w0 hw k)
end
end Go.Ev.Vp
