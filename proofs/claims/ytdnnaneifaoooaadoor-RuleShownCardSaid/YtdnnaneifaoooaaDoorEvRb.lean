/- A part of the evaluator of Go code over small heaps and of its proof: no condition beyond those that each theorem names. -/
import Derived.Test.YtdnnaneifaoooaaDoorEvLib
import Derived.Test.YtdnnaneifaoooaaDoorEvShM
import Derived.Test.YtdnnaneifaoooaaDoorProg
import Derived.KernelRfl
set_option linter.unusedVariables false
set_option maxRecDepth 100000
namespace Go.Ev.Rb
noncomputable section
open Go.Proofs Go.Ev

structure S66 where
  Name : List UInt8
  Value : List UInt8
  Important : Bool
def S66.d : S66 := ⟨[], [], false⟩
structure S38 where
  Media : Bool
  Head : List UInt8
  Decls : List S66
  Rules : List S38
def S38.d : S38 := ⟨false, [], [], []⟩
structure S106 where
  Kind : Int
  Raw : List UInt8
  Value : List UInt8
  Num : Int
def S106.d : S106 := ⟨0, [], [], 0⟩
def base : TypeId → (α : Type) × α
  | 5 => ⟨Int, (0 : Int)⟩
  | 9 => ⟨List UInt8, []⟩
  | 66 => ⟨S66, S66.d⟩
  | 38 => ⟨S38, S38.d⟩
  | 106 => ⟨S106, S106.d⟩
  | _ => ⟨Unit, ()⟩
def T (t : TypeId) : Type := (base t).1
def dflt (t : TypeId) : T t := (base t).2
def dl (t : TypeId) : D T → Option (List (T t))
  | .l t' xs => asT t t' xs
  | .ns => some []
  | _ => none
theorem dl_le {t : TypeId} {d : D T} {l : List (T t)} (h : dl t d = some l) : leD d (.l t l) := by
  unfold dl at h
  split at h
  · rw [asT_l h]; exact .refl _
  · cases h; exact .ns _
  · cases h
def enc5 (x : Int) : List (D T) := [.i .u8 x]
def dec5 (ds : List (D T)) : Option (Int) := match ds with
  | [.i .u8 x0] => some x0
  | _ => none
theorem dec5_ok {ds : List (D T)} {x : Int} (h : dec5 ds = some x) : leDs ds (enc5 x) := by
  unfold dec5 at h
  split at h
  · cases h
    exact .cons (.refl _) <| .nil
  · cases h
def enc9 (x : List UInt8) : List (D T) := [.s x]
def dec9 (ds : List (D T)) : Option (List UInt8) := match ds with
  | [.s x0] => some x0
  | _ => none
theorem dec9_ok {ds : List (D T)} {x : List UInt8} (h : dec9 ds = some x) : leDs ds (enc9 x) := by
  unfold dec9 at h
  split at h
  · cases h
    exact .cons (.refl _) <| .nil
  · cases h
def enc66 (x : S66) : List (D T) := [.s x.Name, .s x.Value, .b x.Important]
def dec66 (ds : List (D T)) : Option (S66) := match ds with
  | [.s x0, .s x1, .b x2] => some ⟨x0, x1, x2⟩
  | _ => none
theorem dec66_ok {ds : List (D T)} {x : S66} (h : dec66 ds = some x) : leDs ds (enc66 x) := by
  unfold dec66 at h
  split at h
  · cases h
    exact .cons (.refl _) <| .cons (.refl _) <| .cons (.refl _) <| .nil
  · cases h
def enc38 (x : S38) : List (D T) := [.b x.Media, .s x.Head, .l 66 x.Decls, .l 38 x.Rules]
def dec38 (ds : List (D T)) : Option (S38) := match ds with
  | [.b x0, .s x1, d2, d3] => (dl 66 d2).bind fun l2 => (dl 38 d3).bind fun l3 => some ⟨x0, x1, l2, l3⟩
  | _ => none
theorem dec38_ok {ds : List (D T)} {x : S38} (h : dec38 ds = some x) : leDs ds (enc38 x) := by
  unfold dec38 at h
  split at h
  · obtain ⟨l2, h2, h⟩ := Option.bind_eq_some_iff.1 h
    obtain ⟨l3, h3, h⟩ := Option.bind_eq_some_iff.1 h
    cases h
    exact .cons (.refl _) <| .cons (.refl _) <| .cons (dl_le h2) <| .cons (dl_le h3) <| .nil
  · cases h
def enc106 (x : S106) : List (D T) := [.i .i64 x.Kind, .s x.Raw, .s x.Value, .i .i64 x.Num]
def dec106 (ds : List (D T)) : Option (S106) := match ds with
  | [.i .i64 x0, .s x1, .s x2, .i .i64 x3] => some ⟨x0, x1, x2, x3⟩
  | _ => none
theorem dec106_ok {ds : List (D T)} {x : S106} (h : dec106 ds = some x) : leDs ds (enc106 x) := by
  unfold dec106 at h
  split at h
  · cases h
    exact .cons (.refl _) <| .cons (.refl _) <| .cons (.refl _) <| .cons (.refl _) <| .nil
  · cases h
def enc : (t : TypeId) → T t → List (D T)
  | 5, x => enc5 x
  | 9, x => enc9 x
  | 66, x => enc66 x
  | 38, x => enc38 x
  | 106, x => enc106 x
  | _, _ => []
def dec (t : TypeId) (ds : List (D T)) : Option (T t) := if h : t = 5 then (h ▸ (dec5 ds : Option (T 5))) else if h : t = 9 then (h ▸ (dec9 ds : Option (T 9))) else if h : t = 66 then (h ▸ (dec66 ds : Option (T 66))) else if h : t = 38 then (h ▸ (dec38 ds : Option (T 38))) else if h : t = 106 then (h ▸ (dec106 ds : Option (T 106))) else none
theorem dec_ok (t : TypeId) (ds : List (D T)) (x : T t) (h : dec t ds = some x) : leDs ds (enc t x) := by
  unfold dec at h
  by_cases h5 : t = 5
  · subst h5; exact dec5_ok (show dec5 ds = some x from h)
  rw [dif_neg h5] at h
  by_cases h9 : t = 9
  · subst h9; exact dec9_ok (show dec9 ds = some x from h)
  rw [dif_neg h9] at h
  by_cases h66 : t = 66
  · subst h66; exact dec66_ok (show dec66 ds = some x from h)
  rw [dif_neg h66] at h
  by_cases h38 : t = 38
  · subst h38; exact dec38_ok (show dec38 ds = some x from h)
  rw [dif_neg h38] at h
  by_cases h106 : t = 106
  · subst h106; exact dec106_ok (show dec106 ds = some x from h)
  rw [dif_neg h106] at h
  cases h
def knl : List TypeId := [5, 9, 66, 38, 106]

def ofB : (t : TypeId) → List UInt8 → List (T t)
  | 5, l => bytesI l
  | _, _ => []
def toB : (t : TypeId) → List (T t) → List UInt8
  | 5, l => bytesU l
  | _, _ => []
def cod : Cod T := ⟨fun t => knl.any (·.beq t), enc, dec, dflt, ofB, toB⟩
def gv : Nat → Option (List (D T))
  | _ => none
def eql : List TypeId := [66]
def hdl : List FuncId := []
def cfg (w0 : World) (t : Tab T) : Cfg T := ⟨Tryd.prog, cod, t, fun t => eql.any (·.beq t), w0, gv, 83, 5, fun f => hdl.any (·.beq f)⟩
/-- What is asked of the first world. -/
structure Wd (w0 : World) : Prop where
  gv : GvOk (cfg w0 noTab)
  mx : NumAt w0 (Sh.ren143.g 1)
  af : Lib.TabIs Tryd.prog w0 "unicode.asciiFold" .u16 afTab

theorem mem_of {l : List TypeId} {t : TypeId} (h : l.any (·.beq t) = true) : t ∈ l := by
  rw [List.any_eq_true] at h
  obtain ⟨x, hx, hb⟩ := h
  rw [← Nat.eq_of_beq_eq_true hb]; exact hx
theorem len5 : 1 = Tryd.prog.cellsOf 5 := by kernel_rfl
theorem len9 : 1 = Tryd.prog.cellsOf 9 := by kernel_rfl
theorem u8_9 : isU8 Tryd.prog 9 = false := by kernel_rfl
theorem len66 : 3 = Tryd.prog.cellsOf 66 := by kernel_rfl
theorem u8_66 : isU8 Tryd.prog 66 = false := by kernel_rfl
theorem len38 : 4 = Tryd.prog.cellsOf 38 := by kernel_rfl
theorem u8_38 : isU8 Tryd.prog 38 = false := by kernel_rfl
theorem fl38 : flatT Tryd.prog 20 38 = false := by kernel_rfl
theorem len106 : 4 = Tryd.prog.cellsOf 106 := by kernel_rfl
theorem u8_106 : isU8 Tryd.prog 106 = false := by kernel_rfl
theorem eqk66 : Tryd.prog.stoodInHeld 66 = false ∧ Tryd.prog.eqGuardType Tryd.prog.depth 66 = false := ⟨by kernel_rfl, by kernel_rfl⟩
theorem zr5 : zeroShape Tryd.prog 5 = true ∧ ∃ ds, zeroCells (T := T) Tryd.prog 5 = some (ofDs ds) ∧ leDs ds (enc5 (0 : Int)) := ⟨by kernel_rfl, [.i .u8 (0 : Int)], by kernel_rfl, .cons (.refl _) <| .nil⟩
theorem zr9 : zeroShape Tryd.prog 9 = true ∧ ∃ ds, zeroCells (T := T) Tryd.prog 9 = some (ofDs ds) ∧ leDs ds (enc9 []) := ⟨by kernel_rfl, [.s ([])], by kernel_rfl, .cons (.refl _) <| .nil⟩
theorem zr66 : zeroShape Tryd.prog 66 = true ∧ ∃ ds, zeroCells (T := T) Tryd.prog 66 = some (ofDs ds) ∧ leDs ds (enc66 S66.d) := ⟨by kernel_rfl, [.s ([]), .s ([]), .b false], by kernel_rfl, .cons (.refl _) <| .cons (.refl _) <| .cons (.refl _) <| .nil⟩
theorem zr38 : zeroShape Tryd.prog 38 = true ∧ ∃ ds, zeroCells (T := T) Tryd.prog 38 = some (ofDs ds) ∧ leDs ds (enc38 S38.d) := ⟨by kernel_rfl, [.b false, .s ([]), .ns, .ns], by kernel_rfl, .cons (.refl _) <| .cons (.refl _) <| .cons (.ns _) <| .cons (.ns _) <| .nil⟩
theorem zr106 : zeroShape Tryd.prog 106 = true ∧ ∃ ds, zeroCells (T := T) Tryd.prog 106 = some (ofDs ds) ∧ leDs ds (enc106 S106.d) := ⟨by kernel_rfl, [.i .i64 (0 : Int), .s ([]), .s ([]), .i .i64 (0 : Int)], by kernel_rfl, .cons (.refl _) <| .cons (.refl _) <| .cons (.refl _) <| .cons (.refl _) <| .nil⟩
theorem fl : Tryd.prog.follows .mixedOrders = true := by kernel_rfl
theorem bytesOk (w0 : World) (t : Tab T) : BytesOk (cfg w0 t) := fun e h1 h2 => by
  have hm := mem_of (l := knl) h2
  simp only [knl, List.mem_cons, List.not_mem_nil, or_false] at hm
  rcases hm with rfl | rfl | rfl | rfl | rfl
  · exact ⟨fun l => by induction l with
      | nil => rfl
      | cons b l ih => exact congrArg (List.cons _) ih, fun xs => ⟨xs, rfl, rfl⟩⟩
  · exact absurd h1 (by rw [show isU8 (cfg w0 _).P 9 = false from u8_9]; exact Bool.false_ne_true)
  · exact absurd h1 (by rw [show isU8 (cfg w0 _).P 66 = false from u8_66]; exact Bool.false_ne_true)
  · exact absurd h1 (by rw [show isU8 (cfg w0 _).P 38 = false from u8_38]; exact Bool.false_ne_true)
  · exact absurd h1 (by rw [show isU8 (cfg w0 _).P 106 = false from u8_106]; exact Bool.false_ne_true)
theorem fine (w0 : World) (hw : Wd w0) (t : Tab T) (h : CfOk (cfg w0 t)) : Fine (cfg w0 t) where
  gv := hw.gv
  bytes := bytesOk w0 t
  cod := by
    refine ⟨fun t ht x => ?_, fun t ds x h => ?_⟩
    · have hm := mem_of (l := knl) ht
      simp only [knl, List.mem_cons, List.not_mem_nil, or_false] at hm
      rcases hm with rfl | rfl | rfl | rfl | rfl
      · exact len5
      · exact len9
      · exact len66
      · exact len38
      · exact len106
    · exact dec_ok t ds x h
  zero := fun t ht => by
    have hm := mem_of (l := knl) ht
    simp only [knl, List.mem_cons, List.not_mem_nil, or_false] at hm
    rcases hm with rfl | rfl | rfl | rfl | rfl
    · exact zr5
    · exact zr9
    · exact zr66
    · exact zr38
    · exact zr106
  eqk := fun t h => by
    have hm := mem_of (l := eql) h
    simp only [eql, List.mem_cons, List.not_mem_nil, or_false] at hm
    rcases hm with rfl
    · exact eqk66
  flat := fun t hf hk x d hd => by
    have hm := mem_of (l := knl) hk
    simp only [knl, List.mem_cons, List.not_mem_nil, or_false] at hm
    rcases hm with rfl | rfl | rfl | rfl | rfl
    · have hd : d ∈ enc5 x := hd
      simp only [enc5, List.mem_cons, List.not_mem_nil, or_false] at hd
      rcases hd with rfl <;> rfl
    · have hd : d ∈ enc9 x := hd
      simp only [enc9, List.mem_cons, List.not_mem_nil, or_false] at hd
      rcases hd with rfl <;> rfl
    · have hd : d ∈ enc66 x := hd
      simp only [enc66, List.mem_cons, List.not_mem_nil, or_false] at hd
      rcases hd with rfl | rfl | rfl <;> rfl
    · exact absurd hf (by rw [show flatT (cfg w0 _).P 20 38 = false from fl38]; exact Bool.false_ne_true)
    · have hd : d ∈ enc106 x := hd
      simp only [enc106, List.mem_cons, List.not_mem_nil, or_false] at hd
      rcases hd with rfl | rfl | rfl | rfl <;> rfl
  cf := h
theorem dr (w0 : World) (hw : Wd w0) (t : Tab T) (h : CfOk (cfg w0 t)) : DrawOk (cfg w0 t) := drawOk_ok (fine w0 hw t h) fl
def io0 : Io T ((List UInt8) × (List UInt8)) where
  enc v := ([.d (.s v.1), .d (.s v.2)], [])
  pat
    | ([.d (.s p1), .d (.s p2)], []) => some (p1, p2)
    | _ => none
  ok z v h := by
    split at h
    · cases h
      all_goals rfl
    · cases h
def io1 : Io T (List UInt8) where
  enc v := ([.d (.s v)], [])
  pat
    | ([.d (.s p1)], []) => some p1
    | _ => none
  ok z v h := by
    split at h
    · cases h
      all_goals rfl
    · cases h
def io2 : Io T (Bool) where
  enc v := ([.d (.b v)], [])
  pat
    | ([.d (.b p1)], []) => some p1
    | _ => none
  ok z v h := by
    split at h
    · cases h
      all_goals rfl
    · cases h
def io3 : Io T ((List UInt8) × Bool) where
  enc v := ([.d (.s v.1), .d (.b v.2)], [])
  pat
    | ([.d (.s p1), .d (.b p2)], []) => some (p1, p2)
    | _ => none
  ok z v h := by
    split at h
    · cases h
      all_goals rfl
    · cases h
def io4 : Io T (Int) where
  enc v := ([.d (.i .i64 v)], [])
  pat
    | ([.d (.i .i64 p1)], []) => some p1
    | _ => none
  ok z v h := by
    split at h
    · cases h
      all_goals rfl
    · cases h
def io5 : Io T (List UInt8) where
  enc v := ([.bp 0], [.bl v])
  pat
    | ([.bp 0], [.bl p1]) => some p1
    | _ => none
  ok z v h := by
    split at h
    · cases h
      all_goals rfl
    · cases h
def io6 : Io T ((List UInt8) × (List UInt8)) where
  enc v := ([.d (.s v.1)], [.bl v.2])
  pat
    | ([.d (.s p1)], [.bl p2]) => some (p1, p2)
    | _ => none
  ok z v h := by
    split at h
    · cases h
      all_goals rfl
    · cases h
def io7 : Io T (Int × (List UInt8)) where
  enc v := ([.bp 0, .d (.i .u8 v.1)], [.bl v.2])
  pat
    | ([.bp 0, .d (.i .u8 p1)], [.bl p2]) => some (p1, p2)
    | _ => none
  ok z v h := by
    split at h
    · cases h
      all_goals rfl
    · cases h
def io8 : Io T (List UInt8) where
  enc v := ([.d .ni], [.bl v])
  pat
    | ([.d .ni], [.bl p1]) => some p1
    | _ => none
  ok z v h := by
    split at h
    · cases h
      all_goals rfl
    · cases h
def io9 : Io T (Int × (List UInt8) × (List UInt8) × Int) where
  enc v := ([.agg [.d (.i .i64 v.1), .d (.s v.2.1), .d (.s v.2.2.1), .d (.i .i64 v.2.2.2)]], [])
  pat
    | ([.agg [.d (.i .i64 p1), .d (.s p2), .d (.s p3), .d (.i .i64 p4)]], []) => some (p1, p2, p3, p4)
    | _ => none
  ok z v h := by
    split at h
    · cases h
      all_goals rfl
    · cases h
def io10 : Io T ((List UInt8) × Int × Int × (List UInt8) × (List UInt8) × Int × (List UInt8)) where
  enc v := ([.d (.s v.1), .ptr 0 0, .bp 1, .d (.i .i64 v.2.1)], [.box [.d (.i .i64 v.2.2.1), .d (.s v.2.2.2.1), .d (.s v.2.2.2.2.1), .d (.i .i64 v.2.2.2.2.2.1)], .bl v.2.2.2.2.2.2])
  pat
    | ([.d (.s p1), .ptr 0 0, .bp 1, .d (.i .i64 p2)], [.box [.d (.i .i64 p3), .d (.s p4), .d (.s p5), .d (.i .i64 p6)], .bl p7]) => some (p1, p2, p3, p4, p5, p6, p7)
    | _ => none
  ok z v h := by
    split at h
    · cases h
      all_goals rfl
    · cases h
def io11 : Io T ((List UInt8) × Int × (List UInt8) × (List UInt8) × Int) where
  enc v := ([.d (.s v.1), .ptr 0 0], [.box [.d (.i .i64 v.2.1), .d (.s v.2.2.1), .d (.s v.2.2.2.1), .d (.i .i64 v.2.2.2.2)]])
  pat
    | ([.d (.s p1), .ptr 0 0], [.box [.d (.i .i64 p2), .d (.s p3), .d (.s p4), .d (.i .i64 p5)]]) => some (p1, p2, p3, p4, p5)
    | _ => none
  ok z v h := by
    split at h
    · cases h
      all_goals rfl
    · cases h
def io12 : Io T (Int) where
  enc v := ([.d (.i .u8 v)], [])
  pat
    | ([.d (.i .u8 p1)], []) => some p1
    | _ => none
  ok z v h := by
    split at h
    · cases h
      all_goals rfl
    · cases h
def io13 : Io T ((List UInt8) × Int) where
  enc v := ([.d (.s v.1), .d (.i .i64 v.2)], [])
  pat
    | ([.d (.s p1), .d (.i .i64 p2)], []) => some (p1, p2)
    | _ => none
  ok z v h := by
    split at h
    · cases h
      all_goals rfl
    · cases h
def io14 : Io T ((List UInt8) × Int × (List UInt8)) where
  enc v := ([.d (.s v.1), .bp 0, .d (.i .i64 v.2.1)], [.bl v.2.2])
  pat
    | ([.d (.s p1), .bp 0, .d (.i .i64 p2)], [.bl p3]) => some (p1, p2, p3)
    | _ => none
  ok z v h := by
    split at h
    · cases h
      all_goals rfl
    · cases h
def io15 : Io T (Int × (List UInt8)) where
  enc v := ([.bp 0, .d (.i .i64 v.1)], [.bl v.2])
  pat
    | ([.bp 0, .d (.i .i64 p1)], [.bl p2]) => some (p1, p2)
    | _ => none
  ok z v h := by
    split at h
    · cases h
      all_goals rfl
    · cases h
def io16 : Io T (Int × (List UInt8) × Int) where
  enc v := ([.d (.i .i64 v.1), .d (.s v.2.1), .d (.i .i64 v.2.2)], [])
  pat
    | ([.d (.i .i64 p1), .d (.s p2), .d (.i .i64 p3)], []) => some (p1, p2, p3)
    | _ => none
  ok z v h := by
    split at h
    · cases h
      all_goals rfl
    · cases h
def io17 : Io T (Int × Int) where
  enc v := ([.d (.i .u8 v.1), .ptr 0 0], [.box [.d (.i .i64 v.2)]])
  pat
    | ([.d (.i .u8 p1), .ptr 0 0], [.box [.d (.i .i64 p2)]]) => some (p1, p2)
    | _ => none
  ok z v h := by
    split at h
    · cases h
      all_goals rfl
    · cases h
def io18 : Io T (Int) where
  enc v := ([], [.box [.d (.i .i64 v)]])
  pat
    | ([], [.box [.d (.i .i64 p1)]]) => some p1
    | _ => none
  ok z v h := by
    split at h
    · cases h
      all_goals rfl
    · cases h
def io19 : Io T (Int × Int) where
  enc v := ([.d (.i .i64 v.1), .d (.i .i64 v.2)], [])
  pat
    | ([.d (.i .i64 p1), .d (.i .i64 p2)], []) => some (p1, p2)
    | _ => none
  ok z v h := by
    split at h
    · cases h
      all_goals rfl
    · cases h
def io20 : Io T ((List UInt8) × Int × Int × Int × Int × Int × Int × (List Int)) where
  enc v := ([.d (.s v.1), .d (.i .i64 v.2.1), .d (.i .i64 v.2.2.1), .d (.i .i64 v.2.2.2.1), .ptr 0 0, .fn 170 [.ptr 0 0], .sl 1 none, .d (.i .i64 v.2.2.2.2.1), .d (.i .i64 v.2.2.2.2.2.1)], [.box [.d (.i .i64 v.2.2.2.2.2.2.1)], .arr 5 v.2.2.2.2.2.2.2])
  pat
    | ([.d (.s p1), .d (.i .i64 p2), .d (.i .i64 p3), .d (.i .i64 p4), .ptr 0 0, .fn 170 [.ptr 0 0], .sl 1 none, .d (.i .i64 p5), .d (.i .i64 p6)], [.box [.d (.i .i64 p7)], .arr tp8 p8]) => (asT 5 tp8 p8).bind fun q8 => some (p1, p2, p3, p4, p5, p6, p7, q8)
    | _ => none
  ok z v h := by
    split at h
    · obtain ⟨q8, hp8, h⟩ := Option.bind_eq_some_iff.1 h
      cases h
      rw [asT_a hp8]
      all_goals rfl
    · cases h
def io21 : Io T ((List UInt8) × Int × Int × Int × Int) where
  enc v := ([.d (.s v.1), .d (.i .i64 v.2.1), .d (.i .i64 v.2.2.1), .d (.i .i64 v.2.2.2.1), .ptr 0 0, .fn 170 [.ptr 0 0]], [.box [.d (.i .i64 v.2.2.2.2)]])
  pat
    | ([.d (.s p1), .d (.i .i64 p2), .d (.i .i64 p3), .d (.i .i64 p4), .ptr 0 0, .fn 170 [.ptr 0 0]], [.box [.d (.i .i64 p5)]]) => some (p1, p2, p3, p4, p5)
    | _ => none
  ok z v h := by
    split at h
    · cases h
      all_goals rfl
    · cases h
def io22 : Io T ((List UInt8) × Int × (List UInt8) × Int × Int) where
  enc v := ([.d (.s v.1), .ptr 0 0, .fn 170 [.ptr 0 0], .d (.i .i64 v.2.1), .d (.s v.2.2.1), .d (.i .i64 v.2.2.2.1)], [.box [.d (.i .i64 v.2.2.2.2)]])
  pat
    | ([.d (.s p1), .ptr 0 0, .fn 170 [.ptr 0 0], .d (.i .i64 p2), .d (.s p3), .d (.i .i64 p4)], [.box [.d (.i .i64 p5)]]) => some (p1, p2, p3, p4, p5)
    | _ => none
  ok z v h := by
    split at h
    · cases h
      all_goals rfl
    · cases h
def io23 : Io T ((List UInt8) × Int × Int) where
  enc v := ([.d (.s v.1), .ptr 0 0, .d (.i .i64 v.2.1)], [.box [.d (.i .i64 v.2.2)]])
  pat
    | ([.d (.s p1), .ptr 0 0, .d (.i .i64 p2)], [.box [.d (.i .i64 p3)]]) => some (p1, p2, p3)
    | _ => none
  ok z v h := by
    split at h
    · cases h
      all_goals rfl
    · cases h
def io24 : Io T (Int × Int) where
  enc v := ([.ptr 0 0, .d (.i .i64 v.1)], [.box [.d (.i .i64 v.2)]])
  pat
    | ([.ptr 0 0, .d (.i .i64 p1)], [.box [.d (.i .i64 p2)]]) => some (p1, p2)
    | _ => none
  ok z v h := by
    split at h
    · cases h
      all_goals rfl
    · cases h
def io25 : Io T ((List UInt8) × Int × (List UInt8) × Int) where
  enc v := ([.d (.s v.1), .ptr 0 0, .fn 170 [.ptr 0 0], .d (.i .i64 v.2.1), .d (.s v.2.2.1)], [.box [.d (.i .i64 v.2.2.2)]])
  pat
    | ([.d (.s p1), .ptr 0 0, .fn 170 [.ptr 0 0], .d (.i .i64 p2), .d (.s p3)], [.box [.d (.i .i64 p4)]]) => some (p1, p2, p3, p4)
    | _ => none
  ok z v h := by
    split at h
    · cases h
      all_goals rfl
    · cases h
def io26 : Io T ((List UInt8) × Int × Int × Int) where
  enc v := ([.d (.s v.1), .d (.i .i64 v.2.1), .d (.i .i64 v.2.2.1), .d (.i .i64 v.2.2.2)], [])
  pat
    | ([.d (.s p1), .d (.i .i64 p2), .d (.i .i64 p3), .d (.i .i64 p4)], []) => some (p1, p2, p3, p4)
    | _ => none
  ok z v h := by
    split at h
    · cases h
      all_goals rfl
    · cases h
def io27 : Io T (Int × Int × (List Int)) where
  enc v := ([.sl 0 none, .sl 0 none, .d (.i .i64 v.1), .d (.i .i64 v.2.1)], [.arr 5 v.2.2])
  pat
    | ([.sl 0 none, .sl 0 none, .d (.i .i64 p1), .d (.i .i64 p2)], [.arr tp3 p3]) => (asT 5 tp3 p3).bind fun q3 => some (p1, p2, q3)
    | _ => none
  ok z v h := by
    split at h
    · obtain ⟨q3, hp3, h⟩ := Option.bind_eq_some_iff.1 h
      cases h
      rw [asT_a hp3]
      all_goals rfl
    · cases h
def io28 : Io T (List Int) where
  enc v := ([.sl 0 none], [.arr 5 v])
  pat
    | ([.sl 0 none], [.arr tp1 p1]) => (asT 5 tp1 p1).bind fun q1 => some q1
    | _ => none
  ok z v h := by
    split at h
    · obtain ⟨q1, hp1, h⟩ := Option.bind_eq_some_iff.1 h
      cases h
      rw [asT_a hp1]
      all_goals rfl
    · cases h
def io29 : Io T ((List UInt8) × Int × Int) where
  enc v := ([.d (.s v.1), .d (.i .i64 v.2.1), .d (.i .i64 v.2.2)], [])
  pat
    | ([.d (.s p1), .d (.i .i64 p2), .d (.i .i64 p3)], []) => some (p1, p2, p3)
    | _ => none
  ok z v h := by
    split at h
    · cases h
      all_goals rfl
    · cases h
def io30 : Io T (Int × (List UInt8) × (List UInt8) × Int × Int × (List UInt8) × (List UInt8) × Int) where
  enc v := ([.ptr 0 0, .ptr 1 0], [.box [.d (.i .i64 v.1), .d (.s v.2.1), .d (.s v.2.2.1), .d (.i .i64 v.2.2.2.1)], .box [.d (.i .i64 v.2.2.2.2.1), .d (.s v.2.2.2.2.2.1), .d (.s v.2.2.2.2.2.2.1), .d (.i .i64 v.2.2.2.2.2.2.2)]])
  pat
    | ([.ptr 0 0, .ptr 1 0], [.box [.d (.i .i64 p1), .d (.s p2), .d (.s p3), .d (.i .i64 p4)], .box [.d (.i .i64 p5), .d (.s p6), .d (.s p7), .d (.i .i64 p8)]]) => some (p1, p2, p3, p4, p5, p6, p7, p8)
    | _ => none
  ok z v h := by
    split at h
    · cases h
      all_goals rfl
    · cases h
def io31 : Io T (Int × (List UInt8)) where
  enc v := ([.d (.i .i64 v.1), .ptr 0 0], [.box [.d (.s v.2)]])
  pat
    | ([.d (.i .i64 p1), .ptr 0 0], [.box [.d (.s p2)]]) => some (p1, p2)
    | _ => none
  ok z v h := by
    split at h
    · cases h
      all_goals rfl
    · cases h
def io32 : Io T (Int × (List UInt8) × (List UInt8) × Int × (List UInt8)) where
  enc v := ([.agg [.d (.i .i64 v.1), .d (.s v.2.1), .d (.s v.2.2.1), .d (.i .i64 v.2.2.2.1)]], [.box [.d (.s v.2.2.2.2)]])
  pat
    | ([.agg [.d (.i .i64 p1), .d (.s p2), .d (.s p3), .d (.i .i64 p4)]], [.box [.d (.s p5)]]) => some (p1, p2, p3, p4, p5)
    | _ => none
  ok z v h := by
    split at h
    · cases h
      all_goals rfl
    · cases h
def io33 : Io T ((List UInt8) × Int × (List UInt8) × (List UInt8) × Int) where
  enc v := ([.ptr 0 0, .ptr 1 0], [.box [.d (.s v.1)], .box [.d (.i .i64 v.2.1), .d (.s v.2.2.1), .d (.s v.2.2.2.1), .d (.i .i64 v.2.2.2.2)]])
  pat
    | ([.ptr 0 0, .ptr 1 0], [.box [.d (.s p1)], .box [.d (.i .i64 p2), .d (.s p3), .d (.s p4), .d (.i .i64 p5)]]) => some (p1, p2, p3, p4, p5)
    | _ => none
  ok z v h := by
    split at h
    · cases h
      all_goals rfl
    · cases h
def io34 : Io T (Int × (List UInt8) × (List UInt8) × Int × (List UInt8)) where
  enc v := ([.ptr 0 0, .fn 116 [.ptr 1 0]], [.box [.d (.i .i64 v.1), .d (.s v.2.1), .d (.s v.2.2.1), .d (.i .i64 v.2.2.2.1)], .box [.d (.s v.2.2.2.2)]])
  pat
    | ([.ptr 0 0, .fn 116 [.ptr 1 0]], [.box [.d (.i .i64 p1), .d (.s p2), .d (.s p3), .d (.i .i64 p4)], .box [.d (.s p5)]]) => some (p1, p2, p3, p4, p5)
    | _ => none
  ok z v h := by
    split at h
    · cases h
      all_goals rfl
    · cases h
def io35 : Io T (List S106) where
  enc v := ([.sl 0 none], [.arr 106 v])
  pat
    | ([.sl 0 none], [.arr tp1 p1]) => (asT 106 tp1 p1).bind fun q1 => some q1
    | _ => none
  ok z v h := by
    split at h
    · obtain ⟨q1, hp1, h⟩ := Option.bind_eq_some_iff.1 h
      cases h
      rw [asT_a hp1]
      all_goals rfl
    · cases h
def io36 : Io T ((List UInt8) × (List S106)) where
  enc v := ([.d (.s v.1), .sl 0 none], [.arr 106 v.2])
  pat
    | ([.d (.s p1), .sl 0 none], [.arr tp2 p2]) => (asT 106 tp2 p2).bind fun q2 => some (p1, q2)
    | _ => none
  ok z v h := by
    split at h
    · obtain ⟨q2, hp2, h⟩ := Option.bind_eq_some_iff.1 h
      cases h
      rw [asT_a hp2]
      all_goals rfl
    · cases h
def io37 : Io T (List S106) where
  enc v := ([.d (.l 106 v)], [])
  pat
    | ([.d (.l tp1 p1)], []) => (asT 106 tp1 p1).bind fun q1 => some q1
    | _ => none
  ok z v h := by
    split at h
    · obtain ⟨q1, hp1, h⟩ := Option.bind_eq_some_iff.1 h
      cases h
      rw [asT_l hp1]
      all_goals rfl
    · cases h
def io38 : Io T (Int × (List UInt8) × (List UInt8) × Int × Int × (List UInt8)) where
  enc v := ([.agg [.d (.i .i64 v.1), .d (.s v.2.1), .d (.s v.2.2.1), .d (.i .i64 v.2.2.2.1)], .d (.i .i64 v.2.2.2.2.1), .d (.s v.2.2.2.2.2)], [])
  pat
    | ([.agg [.d (.i .i64 p1), .d (.s p2), .d (.s p3), .d (.i .i64 p4)], .d (.i .i64 p5), .d (.s p6)], []) => some (p1, p2, p3, p4, p5, p6)
    | _ => none
  ok z v h := by
    split at h
    · cases h
      all_goals rfl
    · cases h
def io39 : Io T (Int × (List UInt8) × (List UInt8) × Int × Bool) where
  enc v := ([.agg [.d (.i .i64 v.1), .d (.s v.2.1), .d (.s v.2.2.1), .d (.i .i64 v.2.2.2.1)], .ptr 0 0], [.box [.d (.b v.2.2.2.2)]])
  pat
    | ([.agg [.d (.i .i64 p1), .d (.s p2), .d (.s p3), .d (.i .i64 p4)], .ptr 0 0], [.box [.d (.b p5)]]) => some (p1, p2, p3, p4, p5)
    | _ => none
  ok z v h := by
    split at h
    · cases h
      all_goals rfl
    · cases h
def io40 : Io T (Bool × Bool) where
  enc v := ([.d (.b v.1)], [.box [.d (.b v.2)]])
  pat
    | ([.d (.b p1)], [.box [.d (.b p2)]]) => some (p1, p2)
    | _ => none
  ok z v h := by
    split at h
    · cases h
      all_goals rfl
    · cases h
def io41 : Io T ((List S106) × Int) where
  enc v := ([.d (.l 106 v.1), .d (.i .i64 v.2)], [])
  pat
    | ([.d (.l tp1 p1), .d (.i .i64 p2)], []) => (asT 106 tp1 p1).bind fun q1 => some (q1, p2)
    | _ => none
  ok z v h := by
    split at h
    · obtain ⟨q1, hp1, h⟩ := Option.bind_eq_some_iff.1 h
      cases h
      rw [asT_l hp1]
      all_goals rfl
    · cases h
def io42 : Io T (Int × Bool) where
  enc v := ([.d (.i .i64 v.1), .d (.b v.2)], [])
  pat
    | ([.d (.i .i64 p1), .d (.b p2)], []) => some (p1, p2)
    | _ => none
  ok z v h := by
    split at h
    · cases h
      all_goals rfl
    · cases h
def io43 : Io T ((List S106) × Int × (List (List UInt8))) where
  enc v := ([.d (.l 106 v.1), .sl 0 none, .d (.i .i64 v.2.1)], [.arr 9 v.2.2])
  pat
    | ([.d (.l tp1 p1), .sl 0 none, .d (.i .i64 p2)], [.arr tp3 p3]) => (asT 106 tp1 p1).bind fun q1 => (asT 9 tp3 p3).bind fun q3 => some (q1, p2, q3)
    | _ => none
  ok z v h := by
    split at h
    · obtain ⟨q1, hp1, h⟩ := Option.bind_eq_some_iff.1 h
      obtain ⟨q3, hp3, h⟩ := Option.bind_eq_some_iff.1 h
      cases h
      rw [asT_l hp1]
      rw [asT_a hp3]
      all_goals rfl
    · cases h
def io44 : Io T ((List S106) × Int × Bool) where
  enc v := ([.d (.l 106 v.1), .d (.i .i64 v.2.1), .fn 70 [.ptr 0 0]], [.box [.d (.b v.2.2)]])
  pat
    | ([.d (.l tp1 p1), .d (.i .i64 p2), .fn 70 [.ptr 0 0]], [.box [.d (.b p3)]]) => (asT 106 tp1 p1).bind fun q1 => some (q1, p2, p3)
    | _ => none
  ok z v h := by
    split at h
    · obtain ⟨q1, hp1, h⟩ := Option.bind_eq_some_iff.1 h
      cases h
      rw [asT_l hp1]
      all_goals rfl
    · cases h
def io45 : Io T (Int × Bool) where
  enc v := ([.d (.i .i64 v.1)], [.box [.d (.b v.2)]])
  pat
    | ([.d (.i .i64 p1)], [.box [.d (.b p2)]]) => some (p1, p2)
    | _ => none
  ok z v h := by
    split at h
    · cases h
      all_goals rfl
    · cases h
def io46 : Io T (List S106) where
  enc v := ([.d (.l 106 v), .fn 112 []], [])
  pat
    | ([.d (.l tp1 p1), .fn 112 []], []) => (asT 106 tp1 p1).bind fun q1 => some q1
    | _ => none
  ok z v h := by
    split at h
    · obtain ⟨q1, hp1, h⟩ := Option.bind_eq_some_iff.1 h
      cases h
      rw [asT_l hp1]
      all_goals rfl
    · cases h
def io47 : Io T ((List S106) × Int × Int) where
  enc v := ([.d (.l 106 v.1), .fn 112 [], .d (.i .i64 v.2.1), .d (.i .i64 v.2.2)], [])
  pat
    | ([.d (.l tp1 p1), .fn 112 [], .d (.i .i64 p2), .d (.i .i64 p3)], []) => (asT 106 tp1 p1).bind fun q1 => some (q1, p2, p3)
    | _ => none
  ok z v h := by
    split at h
    · obtain ⟨q1, hp1, h⟩ := Option.bind_eq_some_iff.1 h
      cases h
      rw [asT_l hp1]
      all_goals rfl
    · cases h
def io48 : Io T (Unit) where
  enc v := ([], [])
  pat
    | ([], []) => some ()
    | _ => none
  ok z v h := by
    split at h <;> cases h; rfl
def io49 : Io T (Int × (List UInt8)) where
  enc v := ([.d (.i .i64 v.1)], [.bl v.2])
  pat
    | ([.d (.i .i64 p1)], [.bl p2]) => some (p1, p2)
    | _ => none
  ok z v h := by
    split at h
    · cases h
      all_goals rfl
    · cases h
def io50 : Io T ((List UInt8) × (List UInt8)) where
  enc v := ([.bp 0, .d (.s v.1)], [.bl v.2])
  pat
    | ([.bp 0, .d (.s p1)], [.bl p2]) => some (p1, p2)
    | _ => none
  ok z v h := by
    split at h
    · cases h
      all_goals rfl
    · cases h
def io51 : Io T (Int × (List UInt8)) where
  enc v := ([.d (.i .i64 v.1), .d .ni], [.bl v.2])
  pat
    | ([.d (.i .i64 p1), .d .ni], [.bl p2]) => some (p1, p2)
    | _ => none
  ok z v h := by
    split at h
    · cases h
      all_goals rfl
    · cases h
def io52 : Io T ((List S106) × Int × Int × (List UInt8) × Int × (List UInt8) × (List UInt8) × Int) where
  enc v := ([.bp 0, .ptr 1 0, .d (.l 106 v.1), .d (.i .i64 v.2.1), .d (.i .i64 v.2.2.1)], [.bl v.2.2.2.1, .box [.d (.i .i64 v.2.2.2.2.1), .d (.s v.2.2.2.2.2.1), .d (.s v.2.2.2.2.2.2.1), .d (.i .i64 v.2.2.2.2.2.2.2)]])
  pat
    | ([.bp 0, .ptr 1 0, .d (.l tp1 p1), .d (.i .i64 p2), .d (.i .i64 p3)], [.bl p4, .box [.d (.i .i64 p5), .d (.s p6), .d (.s p7), .d (.i .i64 p8)]]) => (asT 106 tp1 p1).bind fun q1 => some (q1, p2, p3, p4, p5, p6, p7, p8)
    | _ => none
  ok z v h := by
    split at h
    · obtain ⟨q1, hp1, h⟩ := Option.bind_eq_some_iff.1 h
      cases h
      rw [asT_l hp1]
      all_goals rfl
    · cases h
def io53 : Io T (Bool × (List S106) × Int × Int × (List UInt8)) where
  enc v := ([.bp 0, .d (.b v.1), .d (.l 106 v.2.1), .d (.i .i64 v.2.2.1), .d (.i .i64 v.2.2.2.1)], [.bl v.2.2.2.2])
  pat
    | ([.bp 0, .d (.b p1), .d (.l tp2 p2), .d (.i .i64 p3), .d (.i .i64 p4)], [.bl p5]) => (asT 106 tp2 p2).bind fun q2 => some (p1, q2, p3, p4, p5)
    | _ => none
  ok z v h := by
    split at h
    · obtain ⟨q2, hp2, h⟩ := Option.bind_eq_some_iff.1 h
      cases h
      rw [asT_l hp2]
      all_goals rfl
    · cases h
def io54 : Io T ((List S106) × Int) where
  enc v := ([.d (.l 106 v.1), .d (.i .i64 v.2), .fn 72 []], [])
  pat
    | ([.d (.l tp1 p1), .d (.i .i64 p2), .fn 72 []], []) => (asT 106 tp1 p1).bind fun q1 => some (q1, p2)
    | _ => none
  ok z v h := by
    split at h
    · obtain ⟨q1, hp1, h⟩ := Option.bind_eq_some_iff.1 h
      cases h
      rw [asT_l hp1]
      all_goals rfl
    · cases h
def io55 : Io T ((List S106) × Bool) where
  enc v := ([.d (.l 106 v.1), .d (.b v.2)], [])
  pat
    | ([.d (.l tp1 p1), .d (.b p2)], []) => (asT 106 tp1 p1).bind fun q1 => some (q1, p2)
    | _ => none
  ok z v h := by
    split at h
    · obtain ⟨q1, hp1, h⟩ := Option.bind_eq_some_iff.1 h
      cases h
      rw [asT_l hp1]
      all_goals rfl
    · cases h
def io56 : Io T ((List UInt8) × (List UInt8) × Bool × Bool) where
  enc v := ([.agg [.d (.s v.1), .d (.s v.2.1), .d (.b v.2.2.1)], .d (.b v.2.2.2)], [])
  pat
    | ([.agg [.d (.s p1), .d (.s p2), .d (.b p3)], .d (.b p4)], []) => some (p1, p2, p3, p4)
    | _ => none
  ok z v h := by
    split at h
    · cases h
      all_goals rfl
    · cases h
def io57 : Io T ((List S106) × Bool × (List UInt8) × (List UInt8) × Bool × (List UInt8) × (List UInt8) × Bool) where
  enc v := ([.d (.l 106 v.1), .ptr 0 0, .ptr 1 0, .d (.b v.2.1)], [.box [.d (.s v.2.2.1), .d (.s v.2.2.2.1), .d (.b v.2.2.2.2.1)], .box [.d (.s v.2.2.2.2.2.1), .d (.s v.2.2.2.2.2.2.1), .d (.b v.2.2.2.2.2.2.2)]])
  pat
    | ([.d (.l tp1 p1), .ptr 0 0, .ptr 1 0, .d (.b p2)], [.box [.d (.s p3), .d (.s p4), .d (.b p5)], .box [.d (.s p6), .d (.s p7), .d (.b p8)]]) => (asT 106 tp1 p1).bind fun q1 => some (q1, p2, p3, p4, p5, p6, p7, p8)
    | _ => none
  ok z v h := by
    split at h
    · obtain ⟨q1, hp1, h⟩ := Option.bind_eq_some_iff.1 h
      cases h
      rw [asT_l hp1]
      all_goals rfl
    · cases h
def io58 : Io T (List S66) where
  enc v := ([.sl 0 none], [.arr 66 v])
  pat
    | ([.sl 0 none], [.arr tp1 p1]) => (asT 66 tp1 p1).bind fun q1 => some q1
    | _ => none
  ok z v h := by
    split at h
    · obtain ⟨q1, hp1, h⟩ := Option.bind_eq_some_iff.1 h
      cases h
      rw [asT_a hp1]
      all_goals rfl
    · cases h
def io59 : Io T ((List S106) × Int × (List S66)) where
  enc v := ([.d (.l 106 v.1), .sl 0 none, .d (.i .i64 v.2.1)], [.arr 66 v.2.2])
  pat
    | ([.d (.l tp1 p1), .sl 0 none, .d (.i .i64 p2)], [.arr tp3 p3]) => (asT 106 tp1 p1).bind fun q1 => (asT 66 tp3 p3).bind fun q3 => some (q1, p2, q3)
    | _ => none
  ok z v h := by
    split at h
    · obtain ⟨q1, hp1, h⟩ := Option.bind_eq_some_iff.1 h
      obtain ⟨q3, hp3, h⟩ := Option.bind_eq_some_iff.1 h
      cases h
      rw [asT_l hp1]
      rw [asT_a hp3]
      all_goals rfl
    · cases h
def io60 : Io T ((List S106) × (List S106) × Int) where
  enc v := ([.d (.l 106 v.1), .d (.l 106 v.2.1), .d (.i .i64 v.2.2)], [])
  pat
    | ([.d (.l tp1 p1), .d (.l tp2 p2), .d (.i .i64 p3)], []) => (asT 106 tp1 p1).bind fun q1 => (asT 106 tp2 p2).bind fun q2 => some (q1, q2, p3)
    | _ => none
  ok z v h := by
    split at h
    · obtain ⟨q1, hp1, h⟩ := Option.bind_eq_some_iff.1 h
      obtain ⟨q2, hp2, h⟩ := Option.bind_eq_some_iff.1 h
      cases h
      rw [asT_l hp1]
      rw [asT_l hp2]
      all_goals rfl
    · cases h
def io61 : Io T (Bool × (List UInt8) × (List S66) × (List S38) × Bool) where
  enc v := ([.agg [.d (.b v.1), .d (.s v.2.1), .d (.l 66 v.2.2.1), .d (.l 38 v.2.2.2.1)], .d (.b v.2.2.2.2)], [])
  pat
    | ([.agg [.d (.b p1), .d (.s p2), .d (.l tp3 p3), .d (.l tp4 p4)], .d (.b p5)], []) => (asT 66 tp3 p3).bind fun q3 => (asT 38 tp4 p4).bind fun q4 => some (p1, p2, q3, q4, p5)
    | _ => none
  ok z v h := by
    split at h
    · obtain ⟨q3, hp3, h⟩ := Option.bind_eq_some_iff.1 h
      obtain ⟨q4, hp4, h⟩ := Option.bind_eq_some_iff.1 h
      cases h
      rw [asT_l hp3]
      rw [asT_l hp4]
      all_goals rfl
    · cases h
def io62 : Io T (List S38) where
  enc v := ([.sl 0 none], [.arr 38 v])
  pat
    | ([.sl 0 none], [.arr tp1 p1]) => (asT 38 tp1 p1).bind fun q1 => some q1
    | _ => none
  ok z v h := by
    split at h
    · obtain ⟨q1, hp1, h⟩ := Option.bind_eq_some_iff.1 h
      cases h
      rw [asT_a hp1]
      all_goals rfl
    · cases h
def io63 : Io T ((List S106) × Int × Int × Int × (List S106) × (List S38)) where
  enc v := ([.d (.l 106 v.1), .d (.i .i64 v.2.1), .sl 0 none, .d (.i .i64 v.2.2.1), .d (.i .i64 v.2.2.2.1), .d (.l 106 v.2.2.2.2.1)], [.arr 38 v.2.2.2.2.2])
  pat
    | ([.d (.l tp1 p1), .d (.i .i64 p2), .sl 0 none, .d (.i .i64 p3), .d (.i .i64 p4), .d (.l tp5 p5)], [.arr tp6 p6]) => (asT 106 tp1 p1).bind fun q1 => (asT 106 tp5 p5).bind fun q5 => (asT 38 tp6 p6).bind fun q6 => some (q1, p2, p3, p4, q5, q6)
    | _ => none
  ok z v h := by
    split at h
    · obtain ⟨q1, hp1, h⟩ := Option.bind_eq_some_iff.1 h
      obtain ⟨q5, hp5, h⟩ := Option.bind_eq_some_iff.1 h
      obtain ⟨q6, hp6, h⟩ := Option.bind_eq_some_iff.1 h
      cases h
      rw [asT_l hp1]
      rw [asT_l hp5]
      rw [asT_a hp6]
      all_goals rfl
    · cases h
def io64 : Io T ((List S106) × Int × Int × (List S38)) where
  enc v := ([.d (.l 106 v.1), .d (.i .i64 v.2.1), .sl 0 none, .d (.i .i64 v.2.2.1)], [.arr 38 v.2.2.2])
  pat
    | ([.d (.l tp1 p1), .d (.i .i64 p2), .sl 0 none, .d (.i .i64 p3)], [.arr tp4 p4]) => (asT 106 tp1 p1).bind fun q1 => (asT 38 tp4 p4).bind fun q4 => some (q1, p2, p3, q4)
    | _ => none
  ok z v h := by
    split at h
    · obtain ⟨q1, hp1, h⟩ := Option.bind_eq_some_iff.1 h
      obtain ⟨q4, hp4, h⟩ := Option.bind_eq_some_iff.1 h
      cases h
      rw [asT_l hp1]
      rw [asT_a hp4]
      all_goals rfl
    · cases h
def io65 : Io T ((List S106) × Int × (List S38)) where
  enc v := ([.d (.l 106 v.1), .d (.i .i64 v.2.1), .sl 0 none], [.arr 38 v.2.2])
  pat
    | ([.d (.l tp1 p1), .d (.i .i64 p2), .sl 0 none], [.arr tp3 p3]) => (asT 106 tp1 p1).bind fun q1 => (asT 38 tp3 p3).bind fun q3 => some (q1, p2, q3)
    | _ => none
  ok z v h := by
    split at h
    · obtain ⟨q1, hp1, h⟩ := Option.bind_eq_some_iff.1 h
      obtain ⟨q3, hp3, h⟩ := Option.bind_eq_some_iff.1 h
      cases h
      rw [asT_l hp1]
      rw [asT_a hp3]
      all_goals rfl
    · cases h
def io66 : Io T (List S38) where
  enc v := ([.d (.l 38 v)], [])
  pat
    | ([.d (.l tp1 p1)], []) => (asT 38 tp1 p1).bind fun q1 => some q1
    | _ => none
  ok z v h := by
    split at h
    · obtain ⟨q1, hp1, h⟩ := Option.bind_eq_some_iff.1 h
      cases h
      rw [asT_l hp1]
      all_goals rfl
    · cases h
def io67 : Io T (Int × (List S38) × Int × Int) where
  enc v := ([.d (.i .i64 v.1), .d (.l 38 v.2.1), .d (.i .i64 v.2.2.1), .d (.i .i64 v.2.2.2)], [])
  pat
    | ([.d (.i .i64 p1), .d (.l tp2 p2), .d (.i .i64 p3), .d (.i .i64 p4)], []) => (asT 38 tp2 p2).bind fun q2 => some (p1, q2, p3, p4)
    | _ => none
  ok z v h := by
    split at h
    · obtain ⟨q2, hp2, h⟩ := Option.bind_eq_some_iff.1 h
      cases h
      rw [asT_l hp2]
      all_goals rfl
    · cases h
def io68 : Io T (Int × (List S38)) where
  enc v := ([.sl 0 none, .d (.i .i64 v.1)], [.arr 38 v.2])
  pat
    | ([.sl 0 none, .d (.i .i64 p1)], [.arr tp2 p2]) => (asT 38 tp2 p2).bind fun q2 => some (p1, q2)
    | _ => none
  ok z v h := by
    split at h
    · obtain ⟨q2, hp2, h⟩ := Option.bind_eq_some_iff.1 h
      cases h
      rw [asT_a hp2]
      all_goals rfl
    · cases h
def io69 : Io T ((List S66) × (List S66)) where
  enc v := ([.d (.l 66 v.1), .d (.l 66 v.2)], [])
  pat
    | ([.d (.l tp1 p1), .d (.l tp2 p2)], []) => (asT 66 tp1 p1).bind fun q1 => (asT 66 tp2 p2).bind fun q2 => some (q1, q2)
    | _ => none
  ok z v h := by
    split at h
    · obtain ⟨q1, hp1, h⟩ := Option.bind_eq_some_iff.1 h
      obtain ⟨q2, hp2, h⟩ := Option.bind_eq_some_iff.1 h
      cases h
      rw [asT_l hp1]
      rw [asT_l hp2]
      all_goals rfl
    · cases h
def io70 : Io T ((List S66) × (List S66) × Int) where
  enc v := ([.d (.l 66 v.1), .d (.l 66 v.2.1), .d (.i .i64 v.2.2)], [])
  pat
    | ([.d (.l tp1 p1), .d (.l tp2 p2), .d (.i .i64 p3)], []) => (asT 66 tp1 p1).bind fun q1 => (asT 66 tp2 p2).bind fun q2 => some (q1, q2, p3)
    | _ => none
  ok z v h := by
    split at h
    · obtain ⟨q1, hp1, h⟩ := Option.bind_eq_some_iff.1 h
      obtain ⟨q2, hp2, h⟩ := Option.bind_eq_some_iff.1 h
      cases h
      rw [asT_l hp1]
      rw [asT_l hp2]
      all_goals rfl
    · cases h
def io71 : Io T ((List S38) × (List S38)) where
  enc v := ([.d (.l 38 v.1), .d (.l 38 v.2)], [])
  pat
    | ([.d (.l tp1 p1), .d (.l tp2 p2)], []) => (asT 38 tp1 p1).bind fun q1 => (asT 38 tp2 p2).bind fun q2 => some (q1, q2)
    | _ => none
  ok z v h := by
    split at h
    · obtain ⟨q1, hp1, h⟩ := Option.bind_eq_some_iff.1 h
      obtain ⟨q2, hp2, h⟩ := Option.bind_eq_some_iff.1 h
      cases h
      rw [asT_l hp1]
      rw [asT_l hp2]
      all_goals rfl
    · cases h
def io72 : Io T ((List S38) × (List S38) × Int) where
  enc v := ([.d (.l 38 v.1), .d (.l 38 v.2.1), .d (.i .i64 v.2.2)], [])
  pat
    | ([.d (.l tp1 p1), .d (.l tp2 p2), .d (.i .i64 p3)], []) => (asT 38 tp1 p1).bind fun q1 => (asT 38 tp2 p2).bind fun q2 => some (q1, q2, p3)
    | _ => none
  ok z v h := by
    split at h
    · obtain ⟨q1, hp1, h⟩ := Option.bind_eq_some_iff.1 h
      obtain ⟨q2, hp2, h⟩ := Option.bind_eq_some_iff.1 h
      cases h
      rw [asT_l hp1]
      rw [asT_l hp2]
      all_goals rfl
    · cases h
def io73 : Io T ((List S38) × (List UInt8)) where
  enc v := ([.bp 0, .d (.l 38 v.1)], [.bl v.2])
  pat
    | ([.bp 0, .d (.l tp1 p1)], [.bl p2]) => (asT 38 tp1 p1).bind fun q1 => some (q1, p2)
    | _ => none
  ok z v h := by
    split at h
    · obtain ⟨q1, hp1, h⟩ := Option.bind_eq_some_iff.1 h
      cases h
      rw [asT_l hp1]
      all_goals rfl
    · cases h
def io74 : Io T (List UInt8) where
  enc v := ([], [.bl v])
  pat
    | ([], [.bl p1]) => some p1
    | _ => none
  ok z v h := by
    split at h
    · cases h
      all_goals rfl
    · cases h
def io75 : Io T ((List S38) × Int × Int × (List S66) × Int × Int × (List UInt8) × Bool × (List UInt8) × (List S66) × (List S38)) where
  enc v := ([.bp 0, .ptr 1 0, .d (.l 38 v.1), .d (.i .i64 v.2.1), .d (.i .i64 v.2.2.1), .d (.l 66 v.2.2.2.1), .d (.i .i64 v.2.2.2.2.1), .d (.i .i64 v.2.2.2.2.2.1)], [.bl v.2.2.2.2.2.2.1, .box [.d (.b v.2.2.2.2.2.2.2.1), .d (.s v.2.2.2.2.2.2.2.2.1), .d (.l 66 v.2.2.2.2.2.2.2.2.2.1), .d (.l 38 v.2.2.2.2.2.2.2.2.2.2)]])
  pat
    | ([.bp 0, .ptr 1 0, .d (.l tp1 p1), .d (.i .i64 p2), .d (.i .i64 p3), .d (.l tp4 p4), .d (.i .i64 p5), .d (.i .i64 p6)], [.bl p7, .box [.d (.b p8), .d (.s p9), .d (.l tp10 p10), .d (.l tp11 p11)]]) => (asT 38 tp1 p1).bind fun q1 => (asT 66 tp4 p4).bind fun q4 => (asT 66 tp10 p10).bind fun q10 => (asT 38 tp11 p11).bind fun q11 => some (q1, p2, p3, q4, p5, p6, p7, p8, p9, q10, q11)
    | _ => none
  ok z v h := by
    split at h
    · obtain ⟨q1, hp1, h⟩ := Option.bind_eq_some_iff.1 h
      obtain ⟨q4, hp4, h⟩ := Option.bind_eq_some_iff.1 h
      obtain ⟨q10, hp10, h⟩ := Option.bind_eq_some_iff.1 h
      obtain ⟨q11, hp11, h⟩ := Option.bind_eq_some_iff.1 h
      cases h
      rw [asT_l hp1]
      rw [asT_l hp4]
      rw [asT_l hp10]
      rw [asT_l hp11]
      all_goals rfl
    · cases h
def io76 : Io T ((List S38) × Int × Int × (List UInt8) × Bool × (List UInt8) × (List S66) × (List S38)) where
  enc v := ([.bp 0, .ptr 1 0, .d (.l 38 v.1), .d (.i .i64 v.2.1), .d (.i .i64 v.2.2.1)], [.bl v.2.2.2.1, .box [.d (.b v.2.2.2.2.1), .d (.s v.2.2.2.2.2.1), .d (.l 66 v.2.2.2.2.2.2.1), .d (.l 38 v.2.2.2.2.2.2.2)]])
  pat
    | ([.bp 0, .ptr 1 0, .d (.l tp1 p1), .d (.i .i64 p2), .d (.i .i64 p3)], [.bl p4, .box [.d (.b p5), .d (.s p6), .d (.l tp7 p7), .d (.l tp8 p8)]]) => (asT 38 tp1 p1).bind fun q1 => (asT 66 tp7 p7).bind fun q7 => (asT 38 tp8 p8).bind fun q8 => some (q1, p2, p3, p4, p5, p6, q7, q8)
    | _ => none
  ok z v h := by
    split at h
    · obtain ⟨q1, hp1, h⟩ := Option.bind_eq_some_iff.1 h
      obtain ⟨q7, hp7, h⟩ := Option.bind_eq_some_iff.1 h
      obtain ⟨q8, hp8, h⟩ := Option.bind_eq_some_iff.1 h
      cases h
      rw [asT_l hp1]
      rw [asT_l hp7]
      rw [asT_l hp8]
      all_goals rfl
    · cases h
def io77 : Io T ((List S38) × Int × Int × (List UInt8)) where
  enc v := ([.bp 0, .d (.l 38 v.1), .d (.i .i64 v.2.1), .d (.i .i64 v.2.2.1)], [.bl v.2.2.2])
  pat
    | ([.bp 0, .d (.l tp1 p1), .d (.i .i64 p2), .d (.i .i64 p3)], [.bl p4]) => (asT 38 tp1 p1).bind fun q1 => some (q1, p2, p3, p4)
    | _ => none
  ok z v h := by
    split at h
    · obtain ⟨q1, hp1, h⟩ := Option.bind_eq_some_iff.1 h
      cases h
      rw [asT_l hp1]
      all_goals rfl
    · cases h
def io78 : Io T ((List S66) × (List S66) × Int × Int) where
  enc v := ([.d (.l 66 v.1), .d (.l 66 v.2.1), .d (.i .i64 v.2.2.1), .d (.i .i64 v.2.2.2)], [])
  pat
    | ([.d (.l tp1 p1), .d (.l tp2 p2), .d (.i .i64 p3), .d (.i .i64 p4)], []) => (asT 66 tp1 p1).bind fun q1 => (asT 66 tp2 p2).bind fun q2 => some (q1, q2, p3, p4)
    | _ => none
  ok z v h := by
    split at h
    · obtain ⟨q1, hp1, h⟩ := Option.bind_eq_some_iff.1 h
      obtain ⟨q2, hp2, h⟩ := Option.bind_eq_some_iff.1 h
      cases h
      rw [asT_l hp1]
      rw [asT_l hp2]
      all_goals rfl
    · cases h
def io79 : Io T (Bool × (List UInt8) × (List S66) × (List S38) × Bool × (List UInt8) × (List S66) × (List S38)) where
  enc v := ([.agg [.d (.b v.1), .d (.s v.2.1), .d (.l 66 v.2.2.1), .d (.l 38 v.2.2.2.1)], .agg [.d (.b v.2.2.2.2.1), .d (.s v.2.2.2.2.2.1), .d (.l 66 v.2.2.2.2.2.2.1), .d (.l 38 v.2.2.2.2.2.2.2)]], [])
  pat
    | ([.agg [.d (.b p1), .d (.s p2), .d (.l tp3 p3), .d (.l tp4 p4)], .agg [.d (.b p5), .d (.s p6), .d (.l tp7 p7), .d (.l tp8 p8)]], []) => (asT 66 tp3 p3).bind fun q3 => (asT 38 tp4 p4).bind fun q4 => (asT 66 tp7 p7).bind fun q7 => (asT 38 tp8 p8).bind fun q8 => some (p1, p2, q3, q4, p5, p6, q7, q8)
    | _ => none
  ok z v h := by
    split at h
    · obtain ⟨q3, hp3, h⟩ := Option.bind_eq_some_iff.1 h
      obtain ⟨q4, hp4, h⟩ := Option.bind_eq_some_iff.1 h
      obtain ⟨q7, hp7, h⟩ := Option.bind_eq_some_iff.1 h
      obtain ⟨q8, hp8, h⟩ := Option.bind_eq_some_iff.1 h
      cases h
      rw [asT_l hp3]
      rw [asT_l hp4]
      rw [asT_l hp7]
      rw [asT_l hp8]
      all_goals rfl
    · cases h
def io80 : Io T ((List S38) × (List S38)) where
  enc v := ([.d (.l 38 v.1), .d (.l 38 v.2), .fn 90 []], [])
  pat
    | ([.d (.l tp1 p1), .d (.l tp2 p2), .fn 90 []], []) => (asT 38 tp1 p1).bind fun q1 => (asT 38 tp2 p2).bind fun q2 => some (q1, q2)
    | _ => none
  ok z v h := by
    split at h
    · obtain ⟨q1, hp1, h⟩ := Option.bind_eq_some_iff.1 h
      obtain ⟨q2, hp2, h⟩ := Option.bind_eq_some_iff.1 h
      cases h
      rw [asT_l hp1]
      rw [asT_l hp2]
      all_goals rfl
    · cases h
def io81 : Io T ((List S38) × (List S38) × Int × Int) where
  enc v := ([.d (.l 38 v.1), .fn 90 [], .d (.l 38 v.2.1), .d (.i .i64 v.2.2.1), .d (.i .i64 v.2.2.2)], [])
  pat
    | ([.d (.l tp1 p1), .fn 90 [], .d (.l tp2 p2), .d (.i .i64 p3), .d (.i .i64 p4)], []) => (asT 38 tp1 p1).bind fun q1 => (asT 38 tp2 p2).bind fun q2 => some (q1, q2, p3, p4)
    | _ => none
  ok z v h := by
    split at h
    · obtain ⟨q1, hp1, h⟩ := Option.bind_eq_some_iff.1 h
      obtain ⟨q2, hp2, h⟩ := Option.bind_eq_some_iff.1 h
      cases h
      rw [asT_l hp1]
      rw [asT_l hp2]
      all_goals rfl
    · cases h
def io82 : Io T ((List UInt8) × Bool × (List S38)) where
  enc v := ([.d (.s v.1), .sl 0 none, .d (.b v.2.1)], [.arr 38 v.2.2])
  pat
    | ([.d (.s p1), .sl 0 none, .d (.b p2)], [.arr tp3 p3]) => (asT 38 tp3 p3).bind fun q3 => some (p1, p2, q3)
    | _ => none
  ok z v h := by
    split at h
    · obtain ⟨q3, hp3, h⟩ := Option.bind_eq_some_iff.1 h
      cases h
      rw [asT_a hp3]
      all_goals rfl
    · cases h
def io83 : Io T ((List UInt8) × (List UInt8) × Int) where
  enc v := ([.d (.s v.1), .d (.s v.2.1), .d (.i .i64 v.2.2)], [])
  pat
    | ([.d (.s p1), .d (.s p2), .d (.i .i64 p3)], []) => some (p1, p2, p3)
    | _ => none
  ok z v h := by
    split at h
    · cases h
      all_goals rfl
    · cases h
def io84 : Io T ((List S38) × Int × Int) where
  enc v := ([.d (.l 38 v.1), .d (.i .i64 v.2.1), .d (.i .i64 v.2.2)], [])
  pat
    | ([.d (.l tp1 p1), .d (.i .i64 p2), .d (.i .i64 p3)], []) => (asT 38 tp1 p1).bind fun q1 => some (q1, p2, p3)
    | _ => none
  ok z v h := by
    split at h
    · obtain ⟨q1, hp1, h⟩ := Option.bind_eq_some_iff.1 h
      cases h
      rw [asT_l hp1]
      all_goals rfl
    · cases h
def io85 : Io T ((List S38) × Int) where
  enc v := ([.d (.l 38 v.1), .d (.i .i64 v.2)], [])
  pat
    | ([.d (.l tp1 p1), .d (.i .i64 p2)], []) => (asT 38 tp1 p1).bind fun q1 => some (q1, p2)
    | _ => none
  ok z v h := by
    split at h
    · obtain ⟨q1, hp1, h⟩ := Option.bind_eq_some_iff.1 h
      cases h
      rw [asT_l hp1]
      all_goals rfl
    · cases h
def io86 : Io T ((List S38) × Int × Int × Int) where
  enc v := ([.d (.l 38 v.1), .d (.i .i64 v.2.1), .d (.i .i64 v.2.2.1), .d (.i .i64 v.2.2.2)], [])
  pat
    | ([.d (.l tp1 p1), .d (.i .i64 p2), .d (.i .i64 p3), .d (.i .i64 p4)], []) => (asT 38 tp1 p1).bind fun q1 => some (q1, p2, p3, p4)
    | _ => none
  ok z v h := by
    split at h
    · obtain ⟨q1, hp1, h⟩ := Option.bind_eq_some_iff.1 h
      cases h
      rw [asT_l hp1]
      all_goals rfl
    · cases h
def tab0 (k : Nat) : Tab T := noTab
def strings_TrimLeft (k : Nat) (a3 : List UInt8) (a4 : List UInt8) : Option (List UInt8) := trimL a3 a4
def tab1 (k : Nat) : Tab T := addTab 117 (line io0 io1 [] (fun v => strings_TrimLeft k v.1 v.2)) (tab0 k)
def stringslite_HasPrefix (k : Nat) (a1 : List UInt8) (a2 : List UInt8) : Option (Bool) :=
let v3 : Bool := (decide ((a1.length : Int) ≥ (a2.length : Int)))
cond ((decide (0 ≤ (a2.length : Int) ∧ (a2.length : Int) ≤ (a1.length : Int))) || !v3) (
let v4 : List UInt8 := (a1.take (a2.length : Int).toNat)
some (cond v3 (v4 == a2) false)) none
def stringslite_HasPrefix.kr (w0 : World) (k : Nat) : St T → Option (Bool) := (retK (cfg w0 (tab1 k)) Tryd.f155.results.toList 0 [] io2.pat)
def stringslite_HasPrefix.cuts (w0 : World) (k : Nat) : Cuts T (Bool) := fun n => none
def stringslite_HasPrefix.body : Code := bodyOf Tryd.f155
theorem stringslite_HasPrefix.e (w0 : World) (k : Nat) : ∀ v, (fun v => stringslite_HasPrefix k v.1 v.2) v = runK (cfg w0 (tab1 k)) Tryd.f155.ntmps (stringslite_HasPrefix.kr w0 k) (annot (stringslite_HasPrefix.cuts w0 k) stringslite_HasPrefix.body) (entry (io0.enc v).1 (io0.enc v).2) (endK (stringslite_HasPrefix.kr w0 k)) := by
  intro v; kernel_rfl
theorem stringslite_HasPrefix.hb : Tryd.f155.body = some stringslite_HasPrefix.body := by kernel_rfl
def tab2 (k : Nat) : Tab T := addTab 155 (line io0 io2 false (fun v => stringslite_HasPrefix k v.1 v.2)) (tab1 k)
def stringslite_CutPrefix (k : Nat) (a1 : List UInt8) (a2 : List UInt8) : Option ((List UInt8) × Bool) :=
(stringslite_HasPrefix k a1 a2).bind fun r3 =>
cond (!r3) (
some (a1, false)) (
cond (decide (0 ≤ (a2.length : Int) ∧ (a2.length : Int) ≤ (a1.length : Int))) (
let v4 : List UInt8 := (a1.drop (a2.length : Int).toNat)
some (v4, true)) none)
def stringslite_CutPrefix.kr (w0 : World) (k : Nat) : St T → Option ((List UInt8) × Bool) := (retK (cfg w0 (tab2 k)) Tryd.f100.results.toList 0 [] io3.pat)
def stringslite_CutPrefix.cuts (w0 : World) (k : Nat) : Cuts T ((List UInt8) × Bool) := fun n => none
def stringslite_CutPrefix.body : Code := bodyOf Tryd.f100
theorem stringslite_CutPrefix.e (w0 : World) (k : Nat) : ∀ v, (fun v => stringslite_CutPrefix k v.1 v.2) v = runK (cfg w0 (tab2 k)) Tryd.f100.ntmps (stringslite_CutPrefix.kr w0 k) (annot (stringslite_CutPrefix.cuts w0 k) stringslite_CutPrefix.body) (entry (io0.enc v).1 (io0.enc v).2) (endK (stringslite_CutPrefix.kr w0 k)) := by
  intro v; kernel_rfl
theorem stringslite_CutPrefix.hb : Tryd.f100.body = some stringslite_CutPrefix.body := by kernel_rfl
def tab3 (k : Nat) : Tab T := addTab 100 (line io0 io3 ([], false) (fun v => stringslite_CutPrefix k v.1 v.2)) (tab2 k)
def strings_CutPrefix (k : Nat) (a1 : List UInt8) (a2 : List UInt8) : Option ((List UInt8) × Bool) :=
(stringslite_CutPrefix k a1 a2).bind fun r3 =>
some (r3.1, r3.2)
def strings_CutPrefix.kr (w0 : World) (k : Nat) : St T → Option ((List UInt8) × Bool) := (retK (cfg w0 (tab3 k)) Tryd.f64.results.toList 0 [] io3.pat)
def strings_CutPrefix.cuts (w0 : World) (k : Nat) : Cuts T ((List UInt8) × Bool) := fun n => none
def strings_CutPrefix.body : Code := bodyOf Tryd.f64
theorem strings_CutPrefix.e (w0 : World) (k : Nat) : ∀ v, (fun v => strings_CutPrefix k v.1 v.2) v = runK (cfg w0 (tab3 k)) Tryd.f64.ntmps (strings_CutPrefix.kr w0 k) (annot (strings_CutPrefix.cuts w0 k) strings_CutPrefix.body) (entry (io0.enc v).1 (io0.enc v).2) (endK (strings_CutPrefix.kr w0 k)) := by
  intro v; kernel_rfl
theorem strings_CutPrefix.hb : Tryd.f64.body = some strings_CutPrefix.body := by kernel_rfl
def tab4 (k : Nat) : Tab T := addTab 64 (line io0 io3 ([], false) (fun v => strings_CutPrefix k v.1 v.2)) (tab3 k)
def strings_Index (k : Nat) (a5 : List UInt8) (a6 : List UInt8) : Option (Int) := findS a5 a6
def tab5 (k : Nat) : Tab T := addTab 45 (line io0 io4 (0 : Int) (fun v => strings_Index k v.1 v.2)) (tab4 k)
def f__strings_Builder__String (k : Nat) (a14 : List UInt8) : Option ((List UInt8) × (List UInt8)) := some (a14, a14)
def tab6 (k : Nat) : Tab T := addTab 48 (line io5 io6 ([], []) (fun v => f__strings_Builder__String k v)) (tab5 k)
def f__strings_Builder__WriteByte (k : Nat) (a21 : Int) (a22 : List UInt8) : Option (List UInt8) := wByte a22 a21
def tab7 (k : Nat) : Tab T := addTab 84 (line io7 io8 [] (fun v => f__strings_Builder__WriteByte k v.1 v.2)) (tab6 k)
def csstok_text.c7 (k : Nat) : Nat → (List UInt8) → Int → Int → (List UInt8) → (List UInt8) → Int → (List UInt8) → ((List UInt8) → Int → (List UInt8) → (List UInt8) → Int → Option (Int × (List UInt8) × (List UInt8) × Int)) → Option (Int × (List UInt8) × (List UInt8) × Int)
  | 0, _, _, _, _, _, _, _, _ => none
  | n + 1, x2, x3, x4, x5, x6, x7, x8, k0 =>
    let v9 : Bool := (decide (x3 < (x2.length : Int)))
    cond v9 (
    cond (decide (0 ≤ x3 ∧ x3 < (x2.length : Int))) (
    let v10 : Int := ((x2.getD x3.toNat 0).toNat : Int)
    cond (decide (0 ≤ (0 : Int) ∧ (0 : Int) < (x2.length : Int))) (
    let v11 : Int := ((x2.getD (0 : Int).toNat 0).toNat : Int)
    cond (v10 == v11) (
    let v12 : Int := (IntKind.wrap .i64 (x3 + (1 : Int)))
    cond (decide (0 ≤ v12 ∧ v12 ≤ (x2.length : Int))) (
    (f__strings_Builder__String k x8).bind fun r13 =>
    some ((5 : Int), (x2.take v12.toNat), r13.1, (0 : Int))) none) (
    cond (v10 == (10 : Int)) (
    cond (decide (0 ≤ x3 ∧ x3 ≤ (x2.length : Int))) (
    some ((6 : Int), (x2.take x3.toNat), [], (0 : Int))) none) (
    let v14 : Int := (IntKind.wrap .i64 (x3 + (1 : Int)))
    let v15 : Bool := (decide (v14 < (x2.length : Int)))
    let v16 : Bool := (cond (v10 == (92 : Int)) v15 false)
    cond v16 (
    let v17 : Int := (IntKind.wrap .i64 (x3 + (1 : Int)))
    cond (decide (0 ≤ v17 ∧ v17 < (x2.length : Int))) (
    let v18 : Int := ((x2.getD v17.toNat 0).toNat : Int)
    (f__strings_Builder__WriteByte k v18 x8).bind fun r19 =>
    let v20 : Int := (IntKind.wrap .i64 (v17 + (1 : Int)))
    csstok_text.c7 k n x2 v20 x4 x5 x6 x7 r19 k0) none) (
    (f__strings_Builder__WriteByte k v10 x8).bind fun r21 =>
    let v22 : Int := (IntKind.wrap .i64 (x3 + (1 : Int)))
    csstok_text.c7 k n x2 v22 x4 x5 x6 x7 r21 k0)))) none) none) (
    k0 x2 x4 x5 x6 x7)
def csstok_text (k : Nat) (a1 : List UInt8) : Option (Int × (List UInt8) × (List UInt8) × Int) :=
csstok_text.c7 k k a1 (1 : Int) (0 : Int) ([]) ([]) (0 : Int) ([] : List UInt8) (fun (y23 : List UInt8) (y24 : Int) (y25 : List UInt8) (y26 : List UInt8) (y27 : Int) =>
some ((6 : Int), y23, [], (0 : Int)))
def csstok_text.kr (w0 : World) (k : Nat) : St T → Option (Int × (List UInt8) × (List UInt8) × Int) := (retK (cfg w0 (tab7 k)) Tryd.f118.results.toList 0 [] io9.pat)
def csstok_text.x7 : Ex → Option (List Nat × List Sp)
  | .exit 0 => some ([0, 2], [])
  | _ => none
def csstok_text.L7 (k : Nat) (n : Nat) (v : (List UInt8) × Int × Int × (List UInt8) × (List UInt8) × Int × (List UInt8)) (K : Ex → St T → Option (Int × (List UInt8) × (List UInt8) × Int)) : Option (Int × (List UInt8) × (List UInt8) × Int) := csstok_text.c7 k n v.1 v.2.1 v.2.2.1 v.2.2.2.1 v.2.2.2.2.1 v.2.2.2.2.2.1 v.2.2.2.2.2.2 (fun y20 y21 y22 y23 y24 => K (.exit 0) (mkSt [0, 2] (io11.enc (y20, y21, y22, y23, y24))))
def csstok_text.cuts (w0 : World) (k : Nat) : Cuts T (Int × (List UInt8) × (List UInt8) × Int) := fun n => bif n.beq 7 then some (entK (cfg w0 (tab7 k)) 0 [0, 2, 3, 4] [] io10.pat (csstok_text.L7 k k)) else none
def csstok_text.body : Code := bodyOf Tryd.f118
def csstok_text.b7 : Code := findD 7 csstok_text.body
theorem csstok_text.s7 (w0 : World) (k : Nat) : ∀ n v K, csstok_text.L7 k (n + 1) v K = runK (cfg w0 (tab7 k)) Tryd.f118.ntmps (csstok_text.kr w0 k) (annot (csstok_text.cuts w0 k) csstok_text.b7) (mkSt [0, 2, 3, 4] (io10.enc v)) (loopK (cfg w0 (tab7 k)) 0 csstok_text.x7 (entK (cfg w0 (tab7 k)) 0 [0, 2, 3, 4] [] io10.pat (csstok_text.L7 k n)) K) := by
  intro n v K; kernel_rfl
theorem csstok_text.e (w0 : World) (k : Nat) : ∀ v, (fun v => csstok_text k v) v = runK (cfg w0 (tab7 k)) Tryd.f118.ntmps (csstok_text.kr w0 k) (annot (csstok_text.cuts w0 k) csstok_text.body) (entry (io1.enc v).1 (io1.enc v).2) (endK (csstok_text.kr w0 k)) := by
  intro v; kernel_rfl
theorem csstok_text.hb : Tryd.f118.body = some csstok_text.body := by kernel_rfl
def tab8 (k : Nat) : Tab T := addTab 118 (line io1 io9 ((0 : Int), [], [], (0 : Int)) (fun v => csstok_text k v)) (tab7 k)
def csstok_starts (k : Nat) (a1 : Int) : Option (Bool) :=
let v2 : Bool := (cond (decide (a1 ≥ (128 : Int))) true (a1 == (95 : Int)))
let v3 : Int := (IntKind.wrap .u8 (((BitVec.ofInt (IntKind.bits .u8) a1 ||| BitVec.ofInt (IntKind.bits .u8) (32 : Int)).toNat : Int)))
let v4 : Int := (IntKind.wrap .u8 (((BitVec.ofInt (IntKind.bits .u8) a1 ||| BitVec.ofInt (IntKind.bits .u8) (32 : Int)).toNat : Int)))
let v5 : Bool := (cond (decide (v3 ≥ (97 : Int))) (decide (v4 ≤ (122 : Int))) false)
some (cond v2 true v5)
def csstok_starts.kr (w0 : World) (k : Nat) : St T → Option (Bool) := (retK (cfg w0 (tab8 k)) Tryd.f166.results.toList 0 [] io2.pat)
def csstok_starts.cuts (w0 : World) (k : Nat) : Cuts T (Bool) := fun n => none
def csstok_starts.body : Code := bodyOf Tryd.f166
theorem csstok_starts.e (w0 : World) (k : Nat) : ∀ v, (fun v => csstok_starts k v) v = runK (cfg w0 (tab8 k)) Tryd.f166.ntmps (csstok_starts.kr w0 k) (annot (csstok_starts.cuts w0 k) csstok_starts.body) (entry (io12.enc v).1 (io12.enc v).2) (endK (csstok_starts.kr w0 k)) := by
  intro v; kernel_rfl
theorem csstok_starts.hb : Tryd.f166.body = some csstok_starts.body := by kernel_rfl
def tab9 (k : Nat) : Tab T := addTab 166 (line io12 io2 false (fun v => csstok_starts k v)) (tab8 k)
def csstok_digit (k : Nat) (a1 : Int) : Option (Bool) :=
let v2 : Bool := (cond (decide (a1 ≥ (48 : Int))) (decide (a1 ≤ (57 : Int))) false)
some v2
def csstok_digit.kr (w0 : World) (k : Nat) : St T → Option (Bool) := (retK (cfg w0 (tab9 k)) Tryd.f167.results.toList 0 [] io2.pat)
def csstok_digit.cuts (w0 : World) (k : Nat) : Cuts T (Bool) := fun n => none
def csstok_digit.body : Code := bodyOf Tryd.f167
theorem csstok_digit.e (w0 : World) (k : Nat) : ∀ v, (fun v => csstok_digit k v) v = runK (cfg w0 (tab9 k)) Tryd.f167.ntmps (csstok_digit.kr w0 k) (annot (csstok_digit.cuts w0 k) csstok_digit.body) (entry (io12.enc v).1 (io12.enc v).2) (endK (csstok_digit.kr w0 k)) := by
  intro v; kernel_rfl
theorem csstok_digit.hb : Tryd.f167.body = some csstok_digit.body := by kernel_rfl
def tab10 (k : Nat) : Tab T := addTab 167 (line io12 io2 false (fun v => csstok_digit k v)) (tab9 k)
def csstok_sign (k : Nat) (a1 : Int) : Option (Bool) :=
(csstok_starts k a1).bind fun r2 =>
(cond (!r2) (csstok_digit k a1) (some false)).bind fun r3 =>
let v4 : Bool := (cond (cond r2 true r3) true (a1 == (45 : Int)))
some v4
def csstok_sign.kr (w0 : World) (k : Nat) : St T → Option (Bool) := (retK (cfg w0 (tab10 k)) Tryd.f119.results.toList 0 [] io2.pat)
def csstok_sign.cuts (w0 : World) (k : Nat) : Cuts T (Bool) := fun n => none
def csstok_sign.body : Code := bodyOf Tryd.f119
theorem csstok_sign.e (w0 : World) (k : Nat) : ∀ v, (fun v => csstok_sign k v) v = runK (cfg w0 (tab10 k)) Tryd.f119.ntmps (csstok_sign.kr w0 k) (annot (csstok_sign.cuts w0 k) csstok_sign.body) (entry (io12.enc v).1 (io12.enc v).2) (endK (csstok_sign.kr w0 k)) := by
  intro v; kernel_rfl
theorem csstok_sign.hb : Tryd.f119.body = some csstok_sign.body := by kernel_rfl
def tab11 (k : Nat) : Tab T := addTab 119 (line io12 io2 false (fun v => csstok_sign k v)) (tab10 k)
def csstok_escape (k : Nat) (a1 : List UInt8) : Option (Bool) :=
let v2 : Bool := (decide ((a1.length : Int) > (1 : Int)))
cond ((decide (0 ≤ (0 : Int) ∧ (0 : Int) < (a1.length : Int))) || !v2) (
let v3 : Int := ((a1.getD (0 : Int).toNat 0).toNat : Int)
let v4 : Bool := (cond v2 (v3 == (92 : Int)) false)
cond ((decide (0 ≤ (1 : Int) ∧ (1 : Int) < (a1.length : Int))) || !v4) (
let v5 : Int := ((a1.getD (1 : Int).toNat 0).toNat : Int)
let v6 : Bool := (cond v4 (v5 != (10 : Int)) false)
some v6) none) none
def csstok_escape.kr (w0 : World) (k : Nat) : St T → Option (Bool) := (retK (cfg w0 (tab11 k)) Tryd.f120.results.toList 0 [] io2.pat)
def csstok_escape.cuts (w0 : World) (k : Nat) : Cuts T (Bool) := fun n => none
def csstok_escape.body : Code := bodyOf Tryd.f120
theorem csstok_escape.e (w0 : World) (k : Nat) : ∀ v, (fun v => csstok_escape k v) v = runK (cfg w0 (tab11 k)) Tryd.f120.ntmps (csstok_escape.kr w0 k) (annot (csstok_escape.cuts w0 k) csstok_escape.body) (entry (io1.enc v).1 (io1.enc v).2) (endK (csstok_escape.kr w0 k)) := by
  intro v; kernel_rfl
theorem csstok_escape.hb : Tryd.f120.body = some csstok_escape.body := by kernel_rfl
def tab12 (k : Nat) : Tab T := addTab 120 (line io1 io2 false (fun v => csstok_escape k v)) (tab11 k)
def csstok_name.c7 (k : Nat) : Nat → (List UInt8) → Int → (List UInt8) → (Int → (List UInt8) → Option ((List UInt8) × Int)) → Option ((List UInt8) × Int)
  | 0, _, _, _, _ => none
  | n + 1, x2, x3, x4, k0 =>
    let v5 : Bool := (decide (x3 < (x2.length : Int)))
    cond v5 (
    cond (decide (0 ≤ x3 ∧ x3 ≤ (x2.length : Int))) (
    (csstok_escape k (x2.drop x3.toNat)).bind fun r6 =>
    cond r6 (
    let v7 : Int := (IntKind.wrap .i64 (x3 + (1 : Int)))
    cond (decide (0 ≤ v7 ∧ v7 < (x2.length : Int))) (
    let v8 : Int := ((x2.getD v7.toNat 0).toNat : Int)
    (f__strings_Builder__WriteByte k v8 x4).bind fun r9 =>
    let v10 : Int := (IntKind.wrap .i64 (x3 + (2 : Int)))
    csstok_name.c7 k n x2 v10 r9 k0) none) (
    cond (decide (0 ≤ x3 ∧ x3 < (x2.length : Int))) (
    let v11 : Int := ((x2.getD x3.toNat 0).toNat : Int)
    (csstok_sign k v11).bind fun r12 =>
    cond r12 (
    cond (decide (0 ≤ x3 ∧ x3 < (x2.length : Int))) (
    let v13 : Int := ((x2.getD x3.toNat 0).toNat : Int)
    (f__strings_Builder__WriteByte k v13 x4).bind fun r14 =>
    let v15 : Int := (IntKind.wrap .i64 (x3 + (1 : Int)))
    csstok_name.c7 k n x2 v15 r14 k0) none) (
    (f__strings_Builder__String k x4).bind fun r16 =>
    some (r16.1, x3))) none)) none) (
    k0 x3 x4)
def csstok_name (k : Nat) (a1 : List UInt8) : Option ((List UInt8) × Int) :=
csstok_name.c7 k k a1 (0 : Int) ([] : List UInt8) (fun (y17 : Int) (y18 : List UInt8) =>
(f__strings_Builder__String k y18).bind fun r19 =>
some (r19.1, y17))
def csstok_name.kr (w0 : World) (k : Nat) : St T → Option ((List UInt8) × Int) := (retK (cfg w0 (tab12 k)) Tryd.f168.results.toList 0 [] io13.pat)
def csstok_name.x7 : Ex → Option (List Nat × List Sp)
  | .exit 0 => some ([4, 5], [])
  | _ => none
def csstok_name.L7 (k : Nat) (n : Nat) (v : (List UInt8) × Int × (List UInt8)) (K : Ex → St T → Option ((List UInt8) × Int)) : Option ((List UInt8) × Int) := csstok_name.c7 k n v.1 v.2.1 v.2.2 (fun y25 y26 => K (.exit 0) (mkSt [4, 5] (io15.enc (y25, y26))))
def csstok_name.cuts (w0 : World) (k : Nat) : Cuts T ((List UInt8) × Int) := fun n => bif n.beq 7 then some (entK (cfg w0 (tab12 k)) 0 [0, 4, 5] [] io14.pat (csstok_name.L7 k k)) else none
def csstok_name.body : Code := bodyOf Tryd.f168
def csstok_name.b7 : Code := findD 7 csstok_name.body
theorem csstok_name.s7 (w0 : World) (k : Nat) : ∀ n v K, csstok_name.L7 k (n + 1) v K = runK (cfg w0 (tab12 k)) Tryd.f168.ntmps (csstok_name.kr w0 k) (annot (csstok_name.cuts w0 k) csstok_name.b7) (mkSt [0, 4, 5] (io14.enc v)) (loopK (cfg w0 (tab12 k)) 0 csstok_name.x7 (entK (cfg w0 (tab12 k)) 0 [0, 4, 5] [] io14.pat (csstok_name.L7 k n)) K) := by
  intro n v K; kernel_rfl
theorem csstok_name.e (w0 : World) (k : Nat) : ∀ v, (fun v => csstok_name k v) v = runK (cfg w0 (tab12 k)) Tryd.f168.ntmps (csstok_name.kr w0 k) (annot (csstok_name.cuts w0 k) csstok_name.body) (entry (io1.enc v).1 (io1.enc v).2) (endK (csstok_name.kr w0 k)) := by
  intro v; kernel_rfl
theorem csstok_name.hb : Tryd.f168.body = some csstok_name.body := by kernel_rfl
def tab13 (k : Nat) : Tab T := addTab 168 (line io1 io13 ([], (0 : Int)) (fun v => csstok_name k v)) (tab12 k)
def csstok_named (k : Nat) (a1 : Int) (a2 : List UInt8) (a3 : Int) : Option (Int × (List UInt8) × (List UInt8) × Int) :=
cond (decide (0 ≤ a3 ∧ a3 ≤ (a2.length : Int))) (
(csstok_name k (a2.drop a3.toNat)).bind fun r4 =>
let v5 : Int := (IntKind.wrap .i64 (a3 + r4.2))
cond (decide (0 ≤ v5 ∧ v5 ≤ (a2.length : Int))) (
some (a1, (a2.take v5.toNat), r4.1, (0 : Int))) none) none
def csstok_named.kr (w0 : World) (k : Nat) : St T → Option (Int × (List UInt8) × (List UInt8) × Int) := (retK (cfg w0 (tab13 k)) Tryd.f121.results.toList 0 [] io9.pat)
def csstok_named.cuts (w0 : World) (k : Nat) : Cuts T (Int × (List UInt8) × (List UInt8) × Int) := fun n => none
def csstok_named.body : Code := bodyOf Tryd.f121
theorem csstok_named.e (w0 : World) (k : Nat) : ∀ v, (fun v => csstok_named k v.1 v.2.1 v.2.2) v = runK (cfg w0 (tab13 k)) Tryd.f121.ntmps (csstok_named.kr w0 k) (annot (csstok_named.cuts w0 k) csstok_named.body) (entry (io16.enc v).1 (io16.enc v).2) (endK (csstok_named.kr w0 k)) := by
  intro v; kernel_rfl
theorem csstok_named.hb : Tryd.f121.body = some csstok_named.body := by kernel_rfl
def tab14 (k : Nat) : Tab T := addTab 121 (line io16 io9 ((0 : Int), [], [], (0 : Int)) (fun v => csstok_named k v.1 v.2.1 v.2.2)) (tab13 k)
def csstok_begins (k : Nat) (a1 : List UInt8) : Option (Bool) :=
cond (a1 == ([] : List UInt8)) (
some false) (
cond (decide (0 ≤ (0 : Int) ∧ (0 : Int) < (a1.length : Int))) (
let v2 : Int := ((a1.getD (0 : Int).toNat 0).toNat : Int)
let v3 : Bool := (decide ((a1.length : Int) > (1 : Int)))
let v4 : Bool := (cond (v2 == (45 : Int)) v3 false)
cond v4 (
cond (decide (0 ≤ (1 : Int) ∧ (1 : Int) < (a1.length : Int))) (
let v5 : Int := ((a1.getD (1 : Int).toNat 0).toNat : Int)
cond ((decide (0 ≤ (1 : Int) ∧ (1 : Int) < (a1.length : Int))) || !(!(v5 == (45 : Int)))) (
let v6 : Int := ((a1.getD (1 : Int).toNat 0).toNat : Int)
(cond (!(v5 == (45 : Int))) (csstok_starts k v6) (some false)).bind fun r7 =>
let v8 : Bool := (cond (v5 == (45 : Int)) true r7)
cond ((decide (0 ≤ (1 : Int) ∧ (1 : Int) ≤ (a1.length : Int))) || !(!v8)) (
(cond (!v8) (csstok_escape k (a1.drop (1 : Int).toNat)) (some false)).bind fun r9 =>
some (cond v8 true r9)) none) none) none) (
cond (decide (0 ≤ (0 : Int) ∧ (0 : Int) < (a1.length : Int))) (
let v10 : Int := ((a1.getD (0 : Int).toNat 0).toNat : Int)
(csstok_starts k v10).bind fun r11 =>
(cond (!r11) (csstok_escape k a1) (some false)).bind fun r12 =>
some (cond r11 true r12)) none)) none)
def csstok_begins.kr (w0 : World) (k : Nat) : St T → Option (Bool) := (retK (cfg w0 (tab14 k)) Tryd.f122.results.toList 0 [] io2.pat)
def csstok_begins.cuts (w0 : World) (k : Nat) : Cuts T (Bool) := fun n => none
def csstok_begins.body : Code := bodyOf Tryd.f122
theorem csstok_begins.e (w0 : World) (k : Nat) : ∀ v, (fun v => csstok_begins k v) v = runK (cfg w0 (tab14 k)) Tryd.f122.ntmps (csstok_begins.kr w0 k) (annot (csstok_begins.cuts w0 k) csstok_begins.body) (entry (io1.enc v).1 (io1.enc v).2) (endK (csstok_begins.kr w0 k)) := by
  intro v; kernel_rfl
theorem csstok_begins.hb : Tryd.f122.body = some csstok_begins.body := by kernel_rfl
def tab15 (k : Nat) : Tab T := addTab 122 (line io1 io2 false (fun v => csstok_begins k v)) (tab14 k)
def csstok_digits (k : Nat) (a1 : List UInt8) : Option (Int) :=
(strings_TrimLeft k a1 ([48, 49, 50, 51, 52, 53, 54, 55, 56, 57] : List UInt8)).bind fun r2 =>
let v3 : Int := (IntKind.wrap .i64 ((a1.length : Int) - (r2.length : Int)))
some v3
def csstok_digits.kr (w0 : World) (k : Nat) : St T → Option (Int) := (retK (cfg w0 (tab15 k)) Tryd.f169.results.toList 0 [] io4.pat)
def csstok_digits.cuts (w0 : World) (k : Nat) : Cuts T (Int) := fun n => none
def csstok_digits.body : Code := bodyOf Tryd.f169
theorem csstok_digits.e (w0 : World) (k : Nat) : ∀ v, (fun v => csstok_digits k v) v = runK (cfg w0 (tab15 k)) Tryd.f169.ntmps (csstok_digits.kr w0 k) (annot (csstok_digits.cuts w0 k) csstok_digits.body) (entry (io1.enc v).1 (io1.enc v).2) (endK (csstok_digits.kr w0 k)) := by
  intro v; kernel_rfl
theorem csstok_digits.hb : Tryd.f169.body = some csstok_digits.body := by kernel_rfl
def tab16 (k : Nat) : Tab T := addTab 169 (line io1 io4 (0 : Int) (fun v => csstok_digits k v)) (tab15 k)
def strings_HasPrefix (k : Nat) (a1 : List UInt8) (a2 : List UInt8) : Option (Bool) :=
(stringslite_HasPrefix k a1 a2).bind fun r3 =>
some r3
def strings_HasPrefix.kr (w0 : World) (k : Nat) : St T → Option (Bool) := (retK (cfg w0 (tab16 k)) Tryd.f125.results.toList 0 [] io2.pat)
def strings_HasPrefix.cuts (w0 : World) (k : Nat) : Cuts T (Bool) := fun n => none
def strings_HasPrefix.body : Code := bodyOf Tryd.f125
theorem strings_HasPrefix.e (w0 : World) (k : Nat) : ∀ v, (fun v => strings_HasPrefix k v.1 v.2) v = runK (cfg w0 (tab16 k)) Tryd.f125.ntmps (strings_HasPrefix.kr w0 k) (annot (strings_HasPrefix.cuts w0 k) strings_HasPrefix.body) (entry (io0.enc v).1 (io0.enc v).2) (endK (strings_HasPrefix.kr w0 k)) := by
  intro v; kernel_rfl
theorem strings_HasPrefix.hb : Tryd.f125.body = some strings_HasPrefix.body := by kernel_rfl
def tab17 (k : Nat) : Tab T := addTab 125 (line io0 io2 false (fun v => strings_HasPrefix k v.1 v.2)) (tab16 k)
def csstok_Number_1 (k : Nat) (a1 : Int) (a2 : Int) : Option (Int) :=
let v3 : Int := (IntKind.wrap .i64 ((10 : Int) * a2))
let v4 : Int := (IntKind.wrap .u8 (a1 - (48 : Int)))
let v5 : Int := (IntKind.wrap .i64 (v3 + (IntKind.wrap .i64 v4)))
let v6 : Int := (if (1000000000 : Int) < v5 then (1000000000 : Int) else v5)
some v6
def csstok_Number_1.kr (w0 : World) (k : Nat) : St T → Option (Int) := (retK (cfg w0 (tab17 k)) Tryd.f170.results.toList 1 [] io18.pat)
def csstok_Number_1.cuts (w0 : World) (k : Nat) : Cuts T (Int) := fun n => none
def csstok_Number_1.body : Code := bodyOf Tryd.f170
theorem csstok_Number_1.e (w0 : World) (k : Nat) : ∀ v, (fun v => csstok_Number_1 k v.1 v.2) v = runK (cfg w0 (tab17 k)) Tryd.f170.ntmps (csstok_Number_1.kr w0 k) (annot (csstok_Number_1.cuts w0 k) csstok_Number_1.body) (entry (io17.enc v).1 (io17.enc v).2) (endK (csstok_Number_1.kr w0 k)) := by
  intro v; kernel_rfl
theorem csstok_Number_1.hb : Tryd.f170.body = some csstok_Number_1.body := by kernel_rfl
def tab18 (k : Nat) : Tab T := addTab 170 (line io17 io18 (0 : Int) (fun v => csstok_Number_1 k v.1 v.2)) (tab17 k)
def csstok_Number.c29 (k : Nat) : Nat → (List UInt8) → Int → Int → Int → Int → Int → Int → (List Int) → ((List UInt8) → Int → Int → Int → Int → Option (Int × Int)) → Option (Int × Int)
  | 0, _, _, _, _, _, _, _, _, _ => none
  | n + 1, x19, x20, x21, x22, x23, x24, x25, x26, k0 =>
    cond (decide (x24 < x23)) (
    cond (decide (0 ≤ x24 ∧ x24 < (x26.length : Int))) (
    (csstok_Number_1 k (x26.getD x24.toNat (0 : Int)) x25).bind fun r27 =>
    let v28 : Int := (IntKind.wrap .i64 (x24 + (1 : Int)))
    csstok_Number.c29 k n x19 x20 x21 x22 x23 v28 r27 x26 k0) none) (
    k0 x19 x20 x21 x22 x25)
def csstok_Number.c49 (k : Nat) : Nat → (List UInt8) → Int → (List UInt8) → Int → Int → ((List UInt8) → Int → Int → Option (Int × Int)) → Option (Int × Int)
  | 0, _, _, _, _, _, _ => none
  | n + 1, x45, x46, x47, x48, x49, k2 =>
    cond (decide (x48 < (3 : Int))) (
    let v50 : Bool := (decide (x48 < (x47.length : Int)))
    cond v50 (
    cond (decide (0 ≤ x48 ∧ x48 < (x47.length : Int))) (
    let v51 : Int := ((x47.getD x48.toNat 0).toNat : Int)
    (csstok_Number_1 k v51 x49).bind fun r52 =>
    let v53 : Int := (IntKind.wrap .i64 (x48 + (1 : Int)))
    csstok_Number.c49 k n x45 x46 x47 v53 r52 k2) none) (
    (csstok_Number_1 k (48 : Int) x49).bind fun r54 =>
    let v55 : Int := (IntKind.wrap .i64 (x48 + (1 : Int)))
    csstok_Number.c49 k n x45 x46 x47 v55 r54 k2)) (
    k2 x45 x46 x49)
def csstok_Number.c64 (k : Nat) (x60 : Int) (x61 : Int)  : Option (Int × Int) :=
some (x61, x60)
def csstok_Number.c46 (k : Nat) (x41 : List UInt8) (x42 : Int) (x43 : List UInt8) (x44 : Int)  : Option (Int × Int) :=
csstok_Number.c49 k k x41 x42 x43 (0 : Int) x44 (fun (y56 : List UInt8) (y57 : Int) (y58 : Int) =>
cond (decide (0 ≤ (0 : Int) ∧ (0 : Int) < (y56.length : Int))) (
let v59 : Int := ((y56.getD (0 : Int).toNat 0).toNat : Int)
cond (v59 == (45 : Int)) (
csstok_Number.c64 k y57 (IntKind.wrap .i64 (0 - y58))) (
csstok_Number.c64 k y57 y58)) none)
def csstok_Number.c18 (k : Nat) (x12 : List UInt8) (x13 : Int) (x14 : Int) (x15 : Int)  : Option (Int × Int) :=
let v16 : Int := (IntKind.wrap .i64 (x14 + x15))
cond (v16 == (0 : Int)) (
some ((0 : Int), (0 : Int))) (
let v17 : Int := (IntKind.wrap .i64 (x13 + x14))
cond (decide (0 ≤ x13 ∧ x13 ≤ v17 ∧ v17 ≤ (x12.length : Int))) (
let v18 : List UInt8 := ((x12.take v17.toNat).drop x13.toNat)
csstok_Number.c29 k k x12 x13 x14 x15 ((bytesI v18).length : Int) (0 : Int) (0 : Int) (bytesI v18) (fun (y29 : List UInt8) (y30 : Int) (y31 : Int) (y32 : Int) (y33 : Int) =>
let v34 : Int := (IntKind.wrap .i64 (y30 + y31))
cond (decide (y32 > (0 : Int))) (
let v35 : Int := (IntKind.wrap .i64 (v34 + (1 : Int)))
let v36 : Int := (IntKind.wrap .i64 (v34 + (1 : Int)))
let v37 : Int := (IntKind.wrap .i64 (v36 + y32))
cond (decide (0 ≤ v35 ∧ v35 ≤ v37 ∧ v37 ≤ (y29.length : Int))) (
let v38 : List UInt8 := ((y29.take v37.toNat).drop v35.toNat)
let v39 : Int := (IntKind.wrap .i64 ((1 : Int) + y32))
let v40 : Int := (IntKind.wrap .i64 (v34 + v39))
csstok_Number.c46 k y29 v40 v38 y33) none) (
csstok_Number.c46 k y29 v34 ([] : List UInt8) y33))) none)
def csstok_Number.c8 (k : Nat) (x6 : List UInt8) (x7 : Int)  : Option (Int × Int) :=
cond (decide (0 ≤ x7 ∧ x7 ≤ (x6.length : Int))) (
(csstok_digits k (x6.drop x7.toNat)).bind fun r8 =>
cond (decide (0 ≤ (IntKind.wrap .i64 (x7 + r8)) ∧ (IntKind.wrap .i64 (x7 + r8)) ≤ (x6.length : Int))) (
let v9 : List UInt8 := (x6.drop (IntKind.wrap .i64 (x7 + r8)).toNat)
(strings_HasPrefix k v9 ([46] : List UInt8)).bind fun r10 =>
cond r10 (
cond (decide (0 ≤ (1 : Int) ∧ (1 : Int) ≤ (v9.length : Int))) (
(csstok_digits k (v9.drop (1 : Int).toNat)).bind fun r11 =>
csstok_Number.c18 k x6 x7 r8 r11) none) (
csstok_Number.c18 k x6 x7 r8 (0 : Int))) none) none
def csstok_Number (k : Nat) (a1 : List UInt8) : Option (Int × Int) :=
cond ((decide (0 ≤ (0 : Int) ∧ (0 : Int) < (a1.length : Int))) || !(!(a1 == ([] : List UInt8)))) (
let v2 : Int := ((a1.getD (0 : Int).toNat 0).toNat : Int)
cond ((decide (0 ≤ (0 : Int) ∧ (0 : Int) < (a1.length : Int))) || !((!(a1 == ([] : List UInt8))) && (!(v2 == (43 : Int))))) (
let v3 : Int := ((a1.getD (0 : Int).toNat 0).toNat : Int)
let v4 : Bool := (cond (v2 == (43 : Int)) true (v3 == (45 : Int)))
let v5 : Bool := (cond (!(a1 == ([] : List UInt8))) v4 false)
cond v5 (
csstok_Number.c8 k a1 (1 : Int)) (
csstok_Number.c8 k a1 (0 : Int))) none) none
def csstok_Number.kr (w0 : World) (k : Nat) : St T → Option (Int × Int) := (retK (cfg w0 (tab18 k)) Tryd.f123.results.toList 0 [] io19.pat)
def csstok_Number.x29 : Ex → Option (List Nat × List Sp)
  | .exit 0 => some ([0, 4, 5, 6, 8, 9], [])
  | _ => none
def csstok_Number.L29 (k : Nat) (n : Nat) (v : (List UInt8) × Int × Int × Int × Int × Int × Int × (List Int)) (K : Ex → St T → Option (Int × Int)) : Option (Int × Int) := csstok_Number.c29 k n v.1 v.2.1 v.2.2.1 v.2.2.2.1 v.2.2.2.2.1 v.2.2.2.2.2.1 v.2.2.2.2.2.2.1 v.2.2.2.2.2.2.2 (fun y27 y28 y29 y30 y31 => K (.exit 0) (mkSt [0, 4, 5, 6, 8, 9] (io21.enc (y27, y28, y29, y30, y31))))
def csstok_Number.x49 : Ex → Option (List Nat × List Sp)
  | .exit 2 => some ([0, 8, 12], [])
  | _ => none
def csstok_Number.L49 (k : Nat) (n : Nat) (v : (List UInt8) × Int × (List UInt8) × Int × Int) (K : Ex → St T → Option (Int × Int)) : Option (Int × Int) := csstok_Number.c49 k n v.1 v.2.1 v.2.2.1 v.2.2.2.1 v.2.2.2.2 (fun y32 y33 y34 => K (.exit 2) (mkSt [0, 8, 12] (io23.enc (y32, y33, y34))))
def csstok_Number.x64 : Ex → Option (List Nat × List Sp)
  | _ => none
def csstok_Number.L64 (k : Nat) (v : Int × Int) (K : Ex → St T → Option (Int × Int)) : Option (Int × Int) := csstok_Number.c64 k v.1 v.2
def csstok_Number.x46 : Ex → Option (List Nat × List Sp)
  | _ => none
def csstok_Number.L46 (k : Nat) (v : (List UInt8) × Int × (List UInt8) × Int) (K : Ex → St T → Option (Int × Int)) : Option (Int × Int) := csstok_Number.c46 k v.1 v.2.1 v.2.2.1 v.2.2.2
def csstok_Number.x18 : Ex → Option (List Nat × List Sp)
  | _ => none
def csstok_Number.L18 (k : Nat) (v : (List UInt8) × Int × Int × Int) (K : Ex → St T → Option (Int × Int)) : Option (Int × Int) := csstok_Number.c18 k v.1 v.2.1 v.2.2.1 v.2.2.2
def csstok_Number.x8 : Ex → Option (List Nat × List Sp)
  | _ => none
def csstok_Number.L8 (k : Nat) (v : (List UInt8) × Int) (K : Ex → St T → Option (Int × Int)) : Option (Int × Int) := csstok_Number.c8 k v.1 v.2
def csstok_Number.cuts (w0 : World) (k : Nat) : Cuts T (Int × Int) := fun n => bif n.beq 29 then some (entK (cfg w0 (tab18 k)) 0 [0, 4, 5, 6, 8, 9, 52, 53, 54] [] io20.pat (csstok_Number.L29 k k)) else bif n.beq 49 then some (entK (cfg w0 (tab18 k)) 0 [0, 8, 9, 12, 13, 79] [] io22.pat (csstok_Number.L49 k k)) else bif n.beq 64 then some (entK (cfg w0 (tab18 k)) 0 [8, 12] [] io24.pat (csstok_Number.L64 k)) else bif n.beq 46 then some (entK (cfg w0 (tab18 k)) 0 [0, 8, 9, 12, 13] [] io25.pat (csstok_Number.L46 k)) else bif n.beq 18 then some (entK (cfg w0 (tab18 k)) 0 [0, 4, 5, 6] [] io26.pat (csstok_Number.L18 k)) else bif n.beq 8 then some (entK (cfg w0 (tab18 k)) 0 [0, 4] [] io13.pat (csstok_Number.L8 k)) else none
def csstok_Number.body : Code := bodyOf Tryd.f123
def csstok_Number.b29 : Code := findD 29 csstok_Number.body
theorem csstok_Number.s29 (w0 : World) (k : Nat) : ∀ n v K, csstok_Number.L29 k (n + 1) v K = runK (cfg w0 (tab18 k)) Tryd.f123.ntmps (csstok_Number.kr w0 k) (annot (csstok_Number.cuts w0 k) csstok_Number.b29) (mkSt [0, 4, 5, 6, 8, 9, 52, 53, 54] (io20.enc v)) (loopK (cfg w0 (tab18 k)) 0 csstok_Number.x29 (entK (cfg w0 (tab18 k)) 0 [0, 4, 5, 6, 8, 9, 52, 53, 54] [] io20.pat (csstok_Number.L29 k n)) K) := by
  intro n v K; kernel_rfl
def csstok_Number.b49 : Code := findD 49 csstok_Number.body
theorem csstok_Number.s49 (w0 : World) (k : Nat) : ∀ n v K, csstok_Number.L49 k (n + 1) v K = runK (cfg w0 (tab18 k)) Tryd.f123.ntmps (csstok_Number.kr w0 k) (annot (csstok_Number.cuts w0 k) csstok_Number.b49) (mkSt [0, 8, 9, 12, 13, 79] (io22.enc v)) (loopK (cfg w0 (tab18 k)) 0 csstok_Number.x49 (entK (cfg w0 (tab18 k)) 0 [0, 8, 9, 12, 13, 79] [] io22.pat (csstok_Number.L49 k n)) K) := by
  intro n v K; kernel_rfl
def csstok_Number.b64 : Code := findD 64 csstok_Number.body
theorem csstok_Number.s64 (w0 : World) (k : Nat) : ∀ v K, csstok_Number.L64 k v K = runK (cfg w0 (tab18 k)) Tryd.f123.ntmps (csstok_Number.kr w0 k) (annot (csstok_Number.cuts w0 k) csstok_Number.b64) (mkSt [8, 12] (io24.enc v)) (outK (cfg w0 (tab18 k)) 0 csstok_Number.x64 K) := by
  intro v K; kernel_rfl
def csstok_Number.b46 : Code := findD 46 csstok_Number.body
theorem csstok_Number.s46 (w0 : World) (k : Nat) : ∀ v K, csstok_Number.L46 k v K = runK (cfg w0 (tab18 k)) Tryd.f123.ntmps (csstok_Number.kr w0 k) (annot (csstok_Number.cuts w0 k) csstok_Number.b46) (mkSt [0, 8, 9, 12, 13] (io25.enc v)) (outK (cfg w0 (tab18 k)) 0 csstok_Number.x46 K) := by
  intro v K; kernel_rfl
def csstok_Number.b18 : Code := findD 18 csstok_Number.body
theorem csstok_Number.s18 (w0 : World) (k : Nat) : ∀ v K, csstok_Number.L18 k v K = runK (cfg w0 (tab18 k)) Tryd.f123.ntmps (csstok_Number.kr w0 k) (annot (csstok_Number.cuts w0 k) csstok_Number.b18) (mkSt [0, 4, 5, 6] (io26.enc v)) (outK (cfg w0 (tab18 k)) 0 csstok_Number.x18 K) := by
  intro v K; kernel_rfl
def csstok_Number.b8 : Code := findD 8 csstok_Number.body
theorem csstok_Number.s8 (w0 : World) (k : Nat) : ∀ v K, csstok_Number.L8 k v K = runK (cfg w0 (tab18 k)) Tryd.f123.ntmps (csstok_Number.kr w0 k) (annot (csstok_Number.cuts w0 k) csstok_Number.b8) (mkSt [0, 4] (io13.enc v)) (outK (cfg w0 (tab18 k)) 0 csstok_Number.x8 K) := by
  intro v K; kernel_rfl
theorem csstok_Number.e (w0 : World) (k : Nat) : ∀ v, (fun v => csstok_Number k v) v = runK (cfg w0 (tab18 k)) Tryd.f123.ntmps (csstok_Number.kr w0 k) (annot (csstok_Number.cuts w0 k) csstok_Number.body) (entry (io1.enc v).1 (io1.enc v).2) (endK (csstok_Number.kr w0 k)) := by
  intro v; kernel_rfl
theorem csstok_Number.hb : Tryd.f123.body = some csstok_Number.body := by kernel_rfl
def tab19 (k : Nat) : Tab T := addTab 123 (line io1 io19 ((0 : Int), (0 : Int)) (fun v => csstok_Number k v)) (tab18 k)
def csstok_lower.c7 (k : Nat) : Nat → Int → Int → (List Int) → ((List Int) → Option (List UInt8)) → Option (List UInt8)
  | 0, _, _, _, _ => none
  | n + 1, x2, x3, x4, k0 =>
    cond (decide (x3 < x2)) (
    cond (decide (0 ≤ x3 ∧ x3 < (x4.length : Int))) (
    let v5 : Bool := (decide ((x4.getD x3.toNat (0 : Int)) ≥ (65 : Int)))
    let v6 : Bool := (decide ((x4.getD x3.toNat (0 : Int)) ≤ (90 : Int)))
    cond (cond v5 v6 false) (
    let v7 : Int := (IntKind.wrap .u8 ((x4.getD x3.toNat (0 : Int)) + (32 : Int)))
    cond (decide (0 ≤ x3 ∧ x3 < (x4.length : Int))) (
    let v8 : Int := (IntKind.wrap .i64 (x3 + (1 : Int)))
    csstok_lower.c7 k n x2 v8 (x4.set x3.toNat v7) k0) none) (
    let v9 : Int := (IntKind.wrap .i64 (x3 + (1 : Int)))
    csstok_lower.c7 k n x2 v9 x4 k0)) none) (
    k0 x4)
def csstok_lower (k : Nat) (a1 : List UInt8) : Option (List UInt8) :=
csstok_lower.c7 k k ((bytesI a1).length : Int) (0 : Int) (bytesI a1) (fun (y10 : List Int) =>
some (bytesU y10))
def csstok_lower.kr (w0 : World) (k : Nat) : St T → Option (List UInt8) := (retK (cfg w0 (tab19 k)) Tryd.f171.results.toList 0 [] io1.pat)
def csstok_lower.x7 : Ex → Option (List Nat × List Sp)
  | .exit 0 => some ([3], [])
  | _ => none
def csstok_lower.L7 (k : Nat) (n : Nat) (v : Int × Int × (List Int)) (K : Ex → St T → Option (List UInt8)) : Option (List UInt8) := csstok_lower.c7 k n v.1 v.2.1 v.2.2 (fun y35 => K (.exit 0) (mkSt [3] (io28.enc y35)))
def csstok_lower.cuts (w0 : World) (k : Nat) : Cuts T (List UInt8) := fun n => bif n.beq 7 then some (entK (cfg w0 (tab19 k)) 0 [3, 8, 9, 10] [] io27.pat (csstok_lower.L7 k k)) else none
def csstok_lower.body : Code := bodyOf Tryd.f171
def csstok_lower.b7 : Code := findD 7 csstok_lower.body
theorem csstok_lower.s7 (w0 : World) (k : Nat) : ∀ n v K, csstok_lower.L7 k (n + 1) v K = runK (cfg w0 (tab19 k)) Tryd.f171.ntmps (csstok_lower.kr w0 k) (annot (csstok_lower.cuts w0 k) csstok_lower.b7) (mkSt [3, 8, 9, 10] (io27.enc v)) (loopK (cfg w0 (tab19 k)) 0 csstok_lower.x7 (entK (cfg w0 (tab19 k)) 0 [3, 8, 9, 10] [] io27.pat (csstok_lower.L7 k n)) K) := by
  intro n v K; kernel_rfl
theorem csstok_lower.e (w0 : World) (k : Nat) : ∀ v, (fun v => csstok_lower k v) v = runK (cfg w0 (tab19 k)) Tryd.f171.ntmps (csstok_lower.kr w0 k) (annot (csstok_lower.cuts w0 k) csstok_lower.body) (entry (io1.enc v).1 (io1.enc v).2) (endK (csstok_lower.kr w0 k)) := by
  intro v; kernel_rfl
theorem csstok_lower.hb : Tryd.f171.body = some csstok_lower.body := by kernel_rfl
def tab20 (k : Nat) : Tab T := addTab 171 (line io1 io1 [] (fun v => csstok_lower k v)) (tab19 k)
def csstok_number.c16 (k : Nat) (x6 : Int) (x7 : List UInt8) (x8 : List UInt8) (x9 : Int) (x10 : Int) (x11 : List UInt8) (x12 : List UInt8) (x13 : Int)  : Option (Int × (List UInt8) × (List UInt8) × Int) :=
some (x10, x11, x12, x13)
def csstok_number (k : Nat) (a1 : List UInt8) (a2 : Int) (a3 : Int) : Option (Int × (List UInt8) × (List UInt8) × Int) :=
cond (decide (0 ≤ a3 ∧ a3 ≤ (a1.length : Int))) (
cond (decide (0 ≤ a3 ∧ a3 ≤ (a1.length : Int))) (
(strings_HasPrefix k (a1.drop a3.toNat) ([37] : List UInt8)).bind fun r4 =>
cond r4 (
let v5 : Int := (IntKind.wrap .i64 (a3 + (1 : Int)))
cond (decide (0 ≤ v5 ∧ v5 ≤ (a1.length : Int))) (
csstok_number.c16 k (0 : Int) ([]) ([]) (0 : Int) (7 : Int) (a1.take v5.toNat) ([37] : List UInt8) a2) none) (
(csstok_begins k (a1.drop a3.toNat)).bind fun r14 =>
cond r14 (
(csstok_name k (a1.drop a3.toNat)).bind fun r15 =>
let v16 : Int := (IntKind.wrap .i64 (a3 + r15.2))
cond (decide (0 ≤ v16 ∧ v16 ≤ (a1.length : Int))) (
(csstok_lower k r15.1).bind fun r17 =>
csstok_number.c16 k (0 : Int) ([]) ([]) (0 : Int) (7 : Int) (a1.take v16.toNat) r17 a2) none) (
csstok_number.c16 k (0 : Int) ([]) ([]) (0 : Int) (7 : Int) (a1.take a3.toNat) ([]) a2))) none) none
def csstok_number.kr (w0 : World) (k : Nat) : St T → Option (Int × (List UInt8) × (List UInt8) × Int) := (retK (cfg w0 (tab20 k)) Tryd.f124.results.toList 0 [] io9.pat)
def csstok_number.x16 : Ex → Option (List Nat × List Sp)
  | _ => none
def csstok_number.L16 (k : Nat) (v : Int × (List UInt8) × (List UInt8) × Int × Int × (List UInt8) × (List UInt8) × Int) (K : Ex → St T → Option (Int × (List UInt8) × (List UInt8) × Int)) : Option (Int × (List UInt8) × (List UInt8) × Int) := csstok_number.c16 k v.1 v.2.1 v.2.2.1 v.2.2.2.1 v.2.2.2.2.1 v.2.2.2.2.2.1 v.2.2.2.2.2.2.1 v.2.2.2.2.2.2.2
def csstok_number.cuts (w0 : World) (k : Nat) : Cuts T (Int × (List UInt8) × (List UInt8) × Int) := fun n => bif n.beq 16 then some (entK (cfg w0 (tab20 k)) 0 [6, 7] [] io30.pat (csstok_number.L16 k)) else none
def csstok_number.body : Code := bodyOf Tryd.f124
def csstok_number.b16 : Code := findD 16 csstok_number.body
theorem csstok_number.s16 (w0 : World) (k : Nat) : ∀ v K, csstok_number.L16 k v K = runK (cfg w0 (tab20 k)) Tryd.f124.ntmps (csstok_number.kr w0 k) (annot (csstok_number.cuts w0 k) csstok_number.b16) (mkSt [6, 7] (io30.enc v)) (outK (cfg w0 (tab20 k)) 0 csstok_number.x16 K) := by
  intro v K; kernel_rfl
theorem csstok_number.e (w0 : World) (k : Nat) : ∀ v, (fun v => csstok_number k v.1 v.2.1 v.2.2) v = runK (cfg w0 (tab20 k)) Tryd.f124.ntmps (csstok_number.kr w0 k) (annot (csstok_number.cuts w0 k) csstok_number.body) (entry (io29.enc v).1 (io29.enc v).2) (endK (csstok_number.kr w0 k)) := by
  intro v; kernel_rfl
theorem csstok_number.hb : Tryd.f124.body = some csstok_number.body := by kernel_rfl
def tab21 (k : Nat) : Tab T := addTab 124 (line io29 io9 ((0 : Int), [], [], (0 : Int)) (fun v => csstok_number k v.1 v.2.1 v.2.2)) (tab20 k)
def csstok_first_1 (k : Nat) (a1 : Int) (a2 : List UInt8) : Option (Int × (List UInt8) × (List UInt8) × Int × (List UInt8)) :=
cond (decide (0 ≤ (1 : Int) ∧ (1 : Int) ≤ (a2.length : Int))) (
some (a1, (a2.take (1 : Int).toNat), [], (0 : Int), a2)) none
def csstok_first_1.kr (w0 : World) (k : Nat) : St T → Option (Int × (List UInt8) × (List UInt8) × Int × (List UInt8)) := (retK (cfg w0 (tab21 k)) Tryd.f116.results.toList 1 [] io32.pat)
def csstok_first_1.cuts (w0 : World) (k : Nat) : Cuts T (Int × (List UInt8) × (List UInt8) × Int × (List UInt8)) := fun n => none
def csstok_first_1.body : Code := bodyOf Tryd.f116
theorem csstok_first_1.e (w0 : World) (k : Nat) : ∀ v, (fun v => csstok_first_1 k v.1 v.2) v = runK (cfg w0 (tab21 k)) Tryd.f116.ntmps (csstok_first_1.kr w0 k) (annot (csstok_first_1.cuts w0 k) csstok_first_1.body) (entry (io31.enc v).1 (io31.enc v).2) (endK (csstok_first_1.kr w0 k)) := by
  intro v; kernel_rfl
theorem csstok_first_1.hb : Tryd.f116.body = some csstok_first_1.body := by kernel_rfl
def tab22 (k : Nat) : Tab T := addTab 116 (line io31 io32 ((0 : Int), [], [], (0 : Int), []) (fun v => csstok_first_1 k v.1 v.2)) (tab21 k)
def csstok_first.c20 (k : Nat) (x7 : List UInt8) (x8 : Int) (x9 : List UInt8) (x10 : List UInt8) (x11 : Int)  : Option (Int × (List UInt8) × (List UInt8) × Int) :=
some ((9 : Int), x7, [], (0 : Int))
def csstok_first.c52 (k : Nat) (x32 : Int) (x33 : List UInt8) (x34 : List UInt8) (x35 : Int) (x36 : Int) (x37 : List UInt8) (x38 : List UInt8) (x39 : Int)  : Option (Int × (List UInt8) × (List UInt8) × Int) :=
some (x36, x37, x38, x39)
def csstok_first.c76 (k : Nat) (x44 : Int) (x45 : List UInt8) (x46 : List UInt8) (x47 : Int) (x48 : List UInt8)  : Option (Int × (List UInt8) × (List UInt8) × Int) :=
(csstok_first_1 k (12 : Int) x48).bind fun r49 =>
some (r49.1, r49.2.1, r49.2.2.1, r49.2.2.2.1)
def csstok_first (k : Nat) (a1 : List UInt8) : Option (Int × (List UInt8) × (List UInt8) × Int) :=
(strings_TrimLeft k a1 ([32, 9, 10, 12, 13] : List UInt8)).bind fun r2 =>
let v3 : Int := (IntKind.wrap .i64 ((a1.length : Int) - (r2.length : Int)))
cond (decide (v3 > (0 : Int))) (
cond (decide (0 ≤ v3 ∧ v3 ≤ (a1.length : Int))) (
some ((8 : Int), (a1.take v3.toNat), [], (0 : Int))) none) (
(strings_CutPrefix k a1 ([47, 42] : List UInt8)).bind fun r4 =>
cond r4.2 (
(strings_Index k r4.1 ([42, 47] : List UInt8)).bind fun r5 =>
cond (decide (r5 ≥ (0 : Int))) (
let v6 : Int := (IntKind.wrap .i64 (r5 + (4 : Int)))
cond (decide (0 ≤ v6 ∧ v6 ≤ (a1.length : Int))) (
csstok_first.c20 k (a1.take v6.toNat) (0 : Int) ([]) ([]) (0 : Int)) none) (
csstok_first.c20 k a1 (0 : Int) ([]) ([]) (0 : Int))) (
cond (decide (0 ≤ (0 : Int) ∧ (0 : Int) < (a1.length : Int))) (
let v12 : Int := ((a1.getD (0 : Int).toNat 0).toNat : Int)
let v13 : Bool := (cond (v12 == (39 : Int)) true (v12 == (34 : Int)))
cond v13 (
(csstok_text k a1).bind fun r14 =>
some (r14.1, r14.2.1, r14.2.2.1, r14.2.2.2)) (
let v15 : Bool := (decide ((a1.length : Int) > (1 : Int)))
let v16 : Bool := (cond (v12 == (35 : Int)) v15 false)
cond ((decide (0 ≤ (1 : Int) ∧ (1 : Int) < (a1.length : Int))) || !v16) (
let v17 : Int := ((a1.getD (1 : Int).toNat 0).toNat : Int)
(cond v16 (csstok_sign k v17) (some false)).bind fun r18 =>
cond ((decide (0 ≤ (1 : Int) ∧ (1 : Int) ≤ (a1.length : Int))) || !(v16 && (!r18))) (
(cond (v16 && (!r18)) (csstok_escape k (a1.drop (1 : Int).toNat)) (some false)).bind fun r19 =>
let v20 : Bool := (cond v16 (cond r18 true r19) false)
cond v20 (
(csstok_named k (4 : Int) a1 (1 : Int)).bind fun r21 =>
some (r21.1, r21.2.1, r21.2.2.1, r21.2.2.2)) (
cond ((decide (0 ≤ (1 : Int) ∧ (1 : Int) ≤ (a1.length : Int))) || !(v12 == (64 : Int))) (
(cond (v12 == (64 : Int)) (csstok_begins k (a1.drop (1 : Int).toNat)) (some false)).bind fun r22 =>
let v23 : Bool := (cond (v12 == (64 : Int)) r22 false)
cond v23 (
(csstok_named k (3 : Int) a1 (1 : Int)).bind fun r24 =>
some (r24.1, r24.2.1, r24.2.2.1, r24.2.2.2)) (
(csstok_Number k a1).bind fun r25 =>
cond (decide (r25.2 > (0 : Int))) (
(csstok_number k a1 r25.1 r25.2).bind fun r26 =>
some (r26.1, r26.2.1, r26.2.2.1, r26.2.2.2)) (
(csstok_begins k a1).bind fun r27 =>
cond r27 (
(csstok_named k (1 : Int) a1 (0 : Int)).bind fun r28 =>
cond (decide (0 ≤ (r28.2.1.length : Int) ∧ (r28.2.1.length : Int) ≤ (a1.length : Int))) (
let v29 : List UInt8 := (a1.drop (r28.2.1.length : Int).toNat)
(strings_HasPrefix k v29 ([40] : List UInt8)).bind fun r30 =>
cond r30 (
let v31 : Int := (IntKind.wrap .i64 ((r28.2.1.length : Int) + (1 : Int)))
cond (decide (0 ≤ v31 ∧ v31 ≤ (a1.length : Int))) (
csstok_first.c52 k (0 : Int) ([]) ([]) (0 : Int) (2 : Int) (a1.take v31.toNat) r28.2.2.1 r28.2.2.2) none) (
csstok_first.c52 k (0 : Int) ([]) ([]) (0 : Int) r28.1 r28.2.1 r28.2.2.1 r28.2.2.2)) none) (
cond (decide (0 ≤ (0 : Int) ∧ (0 : Int) < (a1.length : Int))) (
let v40 : Int := ((a1.getD (0 : Int).toNat 0).toNat : Int)
cond (v40 == (40 : Int)) (
cond (v40 == (40 : Int)) (
(csstok_first_1 k (10 : Int) a1).bind fun r41 =>
some (r41.1, r41.2.1, r41.2.2.1, r41.2.2.2.1)) (
cond (v40 == (41 : Int)) (
cond (v40 == (41 : Int)) (
(csstok_first_1 k (11 : Int) a1).bind fun r42 =>
some (r42.1, r42.2.1, r42.2.2.1, r42.2.2.2.1)) (
cond (v40 == (92 : Int)) (
(csstok_first_1 k (6 : Int) a1).bind fun r43 =>
some (r43.1, r43.2.1, r43.2.2.1, r43.2.2.2.1)) (
csstok_first.c76 k (0 : Int) ([]) ([]) (0 : Int) a1))) (
cond (v40 == (93 : Int)) (
cond (v40 == (93 : Int)) (
(csstok_first_1 k (11 : Int) a1).bind fun r50 =>
some (r50.1, r50.2.1, r50.2.2.1, r50.2.2.2.1)) (
cond (v40 == (92 : Int)) (
(csstok_first_1 k (6 : Int) a1).bind fun r51 =>
some (r51.1, r51.2.1, r51.2.2.1, r51.2.2.2.1)) (
csstok_first.c76 k (0 : Int) ([]) ([]) (0 : Int) a1))) (
cond (v40 == (125 : Int)) (
(csstok_first_1 k (11 : Int) a1).bind fun r52 =>
some (r52.1, r52.2.1, r52.2.2.1, r52.2.2.2.1)) (
cond (v40 == (92 : Int)) (
(csstok_first_1 k (6 : Int) a1).bind fun r53 =>
some (r53.1, r53.2.1, r53.2.2.1, r53.2.2.2.1)) (
csstok_first.c76 k (0 : Int) ([]) ([]) (0 : Int) a1)))))) (
cond (v40 == (91 : Int)) (
cond (v40 == (91 : Int)) (
(csstok_first_1 k (10 : Int) a1).bind fun r54 =>
some (r54.1, r54.2.1, r54.2.2.1, r54.2.2.2.1)) (
cond (v40 == (41 : Int)) (
cond (v40 == (41 : Int)) (
(csstok_first_1 k (11 : Int) a1).bind fun r55 =>
some (r55.1, r55.2.1, r55.2.2.1, r55.2.2.2.1)) (
cond (v40 == (92 : Int)) (
(csstok_first_1 k (6 : Int) a1).bind fun r56 =>
some (r56.1, r56.2.1, r56.2.2.1, r56.2.2.2.1)) (
csstok_first.c76 k (0 : Int) ([]) ([]) (0 : Int) a1))) (
cond (v40 == (93 : Int)) (
cond (v40 == (93 : Int)) (
(csstok_first_1 k (11 : Int) a1).bind fun r57 =>
some (r57.1, r57.2.1, r57.2.2.1, r57.2.2.2.1)) (
cond (v40 == (92 : Int)) (
(csstok_first_1 k (6 : Int) a1).bind fun r58 =>
some (r58.1, r58.2.1, r58.2.2.1, r58.2.2.2.1)) (
csstok_first.c76 k (0 : Int) ([]) ([]) (0 : Int) a1))) (
cond (v40 == (125 : Int)) (
(csstok_first_1 k (11 : Int) a1).bind fun r59 =>
some (r59.1, r59.2.1, r59.2.2.1, r59.2.2.2.1)) (
cond (v40 == (92 : Int)) (
(csstok_first_1 k (6 : Int) a1).bind fun r60 =>
some (r60.1, r60.2.1, r60.2.2.1, r60.2.2.2.1)) (
csstok_first.c76 k (0 : Int) ([]) ([]) (0 : Int) a1)))))) (
cond (v40 == (123 : Int)) (
(csstok_first_1 k (10 : Int) a1).bind fun r61 =>
some (r61.1, r61.2.1, r61.2.2.1, r61.2.2.2.1)) (
cond (v40 == (41 : Int)) (
cond (v40 == (41 : Int)) (
(csstok_first_1 k (11 : Int) a1).bind fun r62 =>
some (r62.1, r62.2.1, r62.2.2.1, r62.2.2.2.1)) (
cond (v40 == (92 : Int)) (
(csstok_first_1 k (6 : Int) a1).bind fun r63 =>
some (r63.1, r63.2.1, r63.2.2.1, r63.2.2.2.1)) (
csstok_first.c76 k (0 : Int) ([]) ([]) (0 : Int) a1))) (
cond (v40 == (93 : Int)) (
cond (v40 == (93 : Int)) (
(csstok_first_1 k (11 : Int) a1).bind fun r64 =>
some (r64.1, r64.2.1, r64.2.2.1, r64.2.2.2.1)) (
cond (v40 == (92 : Int)) (
(csstok_first_1 k (6 : Int) a1).bind fun r65 =>
some (r65.1, r65.2.1, r65.2.2.1, r65.2.2.2.1)) (
csstok_first.c76 k (0 : Int) ([]) ([]) (0 : Int) a1))) (
cond (v40 == (125 : Int)) (
(csstok_first_1 k (11 : Int) a1).bind fun r66 =>
some (r66.1, r66.2.1, r66.2.2.1, r66.2.2.2.1)) (
cond (v40 == (92 : Int)) (
(csstok_first_1 k (6 : Int) a1).bind fun r67 =>
some (r67.1, r67.2.1, r67.2.2.1, r67.2.2.2.1)) (
csstok_first.c76 k (0 : Int) ([]) ([]) (0 : Int) a1)))))))) none)))) none)) none) none)) none))
def csstok_first.kr (w0 : World) (k : Nat) : St T → Option (Int × (List UInt8) × (List UInt8) × Int) := (retK (cfg w0 (tab22 k)) Tryd.f75.results.toList 0 [] io9.pat)
def csstok_first.x20 : Ex → Option (List Nat × List Sp)
  | _ => none
def csstok_first.L20 (k : Nat) (v : (List UInt8) × Int × (List UInt8) × (List UInt8) × Int) (K : Ex → St T → Option (Int × (List UInt8) × (List UInt8) × Int)) : Option (Int × (List UInt8) × (List UInt8) × Int) := csstok_first.c20 k v.1 v.2.1 v.2.2.1 v.2.2.2.1 v.2.2.2.2
def csstok_first.x52 : Ex → Option (List Nat × List Sp)
  | _ => none
def csstok_first.L52 (k : Nat) (v : Int × (List UInt8) × (List UInt8) × Int × Int × (List UInt8) × (List UInt8) × Int) (K : Ex → St T → Option (Int × (List UInt8) × (List UInt8) × Int)) : Option (Int × (List UInt8) × (List UInt8) × Int) := csstok_first.c52 k v.1 v.2.1 v.2.2.1 v.2.2.2.1 v.2.2.2.2.1 v.2.2.2.2.2.1 v.2.2.2.2.2.2.1 v.2.2.2.2.2.2.2
def csstok_first.x76 : Ex → Option (List Nat × List Sp)
  | _ => none
def csstok_first.L76 (k : Nat) (v : Int × (List UInt8) × (List UInt8) × Int × (List UInt8)) (K : Ex → St T → Option (Int × (List UInt8) × (List UInt8) × Int)) : Option (Int × (List UInt8) × (List UInt8) × Int) := csstok_first.c76 k v.1 v.2.1 v.2.2.1 v.2.2.2.1 v.2.2.2.2
def csstok_first.cuts (w0 : World) (k : Nat) : Cuts T (Int × (List UInt8) × (List UInt8) × Int) := fun n => bif n.beq 20 then some (entK (cfg w0 (tab22 k)) 0 [1, 2] [] io33.pat (csstok_first.L20 k)) else bif n.beq 52 then some (entK (cfg w0 (tab22 k)) 0 [2, 11] [] io30.pat (csstok_first.L52 k)) else bif n.beq 76 then some (entK (cfg w0 (tab22 k)) 0 [2, 3] [] io34.pat (csstok_first.L76 k)) else none
def csstok_first.body : Code := bodyOf Tryd.f75
def csstok_first.b20 : Code := findD 20 csstok_first.body
theorem csstok_first.s20 (w0 : World) (k : Nat) : ∀ v K, csstok_first.L20 k v K = runK (cfg w0 (tab22 k)) Tryd.f75.ntmps (csstok_first.kr w0 k) (annot (csstok_first.cuts w0 k) csstok_first.b20) (mkSt [1, 2] (io33.enc v)) (outK (cfg w0 (tab22 k)) 0 csstok_first.x20 K) := by
  intro v K; kernel_rfl
def csstok_first.b52 : Code := findD 52 csstok_first.body
theorem csstok_first.s52 (w0 : World) (k : Nat) : ∀ v K, csstok_first.L52 k v K = runK (cfg w0 (tab22 k)) Tryd.f75.ntmps (csstok_first.kr w0 k) (annot (csstok_first.cuts w0 k) csstok_first.b52) (mkSt [2, 11] (io30.enc v)) (outK (cfg w0 (tab22 k)) 0 csstok_first.x52 K) := by
  intro v K; kernel_rfl
def csstok_first.b76 : Code := findD 76 csstok_first.body
theorem csstok_first.s76 (w0 : World) (k : Nat) : ∀ v K, csstok_first.L76 k v K = runK (cfg w0 (tab22 k)) Tryd.f75.ntmps (csstok_first.kr w0 k) (annot (csstok_first.cuts w0 k) csstok_first.b76) (mkSt [2, 3] (io34.enc v)) (outK (cfg w0 (tab22 k)) 0 csstok_first.x76 K) := by
  intro v K; kernel_rfl
theorem csstok_first.e (w0 : World) (k : Nat) : ∀ v, (fun v => csstok_first k v) v = runK (cfg w0 (tab22 k)) Tryd.f75.ntmps (csstok_first.kr w0 k) (annot (csstok_first.cuts w0 k) csstok_first.body) (entry (io1.enc v).1 (io1.enc v).2) (endK (csstok_first.kr w0 k)) := by
  intro v; kernel_rfl
theorem csstok_first.hb : Tryd.f75.body = some csstok_first.body := by kernel_rfl
def tab23 (k : Nat) : Tab T := addTab 75 (line io1 io9 ((0 : Int), [], [], (0 : Int)) (fun v => csstok_first k v)) (tab22 k)
def csstok_Cut.c5 (k : Nat) : Nat → (List UInt8) → (List S106) → ((List S106) → Option (List S106)) → Option (List S106)
  | 0, _, _, _ => none
  | n + 1, x2, x3, k0 =>
    cond (!(x2 == ([] : List UInt8))) (
    (csstok_first k x2).bind fun r4 =>
    let v5 : List S106 := [(⟨r4.1, r4.2.1, r4.2.2.1, r4.2.2.2⟩ : S106)]
    cond (decide ((x3 ++ v5).length < most)) (
    cond (decide (0 ≤ (r4.2.1.length : Int) ∧ (r4.2.1.length : Int) ≤ (x2.length : Int))) (
    let v6 : List UInt8 := (x2.drop (r4.2.1.length : Int).toNat)
    csstok_Cut.c5 k n v6 (x3 ++ v5) k0) none) none) (
    k0 x3)
def csstok_Cut (k : Nat) (a1 : List UInt8) : Option (List S106) :=
csstok_Cut.c5 k k a1 ([] : List S106) (fun (y7 : List S106) =>
some y7)
def csstok_Cut.kr (w0 : World) (k : Nat) : St T → Option (List S106) := (retK (cfg w0 (tab23 k)) Tryd.f34.results.toList 0 [.own 0 106] io35.pat)
def csstok_Cut.x5 : Ex → Option (List Nat × List Sp)
  | .exit 0 => some ([3], [.own 3 106])
  | _ => none
def csstok_Cut.L5 (k : Nat) (n : Nat) (v : (List UInt8) × (List S106)) (K : Ex → St T → Option (List S106)) : Option (List S106) := csstok_Cut.c5 k n v.1 v.2 (fun y36 => K (.exit 0) (mkSt [3] (io35.enc y36)))
def csstok_Cut.cuts (w0 : World) (k : Nat) : Cuts T (List S106) := fun n => bif n.beq 5 then some (entK (cfg w0 (tab23 k)) 0 [0, 3] [.own 3 106] io36.pat (csstok_Cut.L5 k k)) else none
def csstok_Cut.body : Code := bodyOf Tryd.f34
def csstok_Cut.b5 : Code := findD 5 csstok_Cut.body
theorem csstok_Cut.s5 (w0 : World) (k : Nat) : ∀ n v K, csstok_Cut.L5 k (n + 1) v K = runK (cfg w0 (tab23 k)) Tryd.f34.ntmps (csstok_Cut.kr w0 k) (annot (csstok_Cut.cuts w0 k) csstok_Cut.b5) (mkSt [0, 3] (io36.enc v)) (loopK (cfg w0 (tab23 k)) 0 csstok_Cut.x5 (entK (cfg w0 (tab23 k)) 0 [0, 3] [.own 3 106] io36.pat (csstok_Cut.L5 k n)) K) := by
  intro n v K; kernel_rfl
theorem csstok_Cut.e (w0 : World) (k : Nat) : ∀ v, (fun v => csstok_Cut k v) v = runK (cfg w0 (tab23 k)) Tryd.f34.ntmps (csstok_Cut.kr w0 k) (annot (csstok_Cut.cuts w0 k) csstok_Cut.body) (entry (io1.enc v).1 (io1.enc v).2) (endK (csstok_Cut.kr w0 k)) := by
  intro v; kernel_rfl
theorem csstok_Cut.hb : Tryd.f34.body = some csstok_Cut.body := by kernel_rfl
def tab24 (k : Nat) : Tab T := addTab 34 (line io1 io35 [] (fun v => csstok_Cut k v)) (tab23 k)
def cssrule_silent (k : Nat) (a1 : Int) (a2 : List UInt8) (a3 : List UInt8) (a4 : Int) : Option (Bool) :=
let v5 : Bool := (cond (a1 == (8 : Int)) true (a1 == (9 : Int)))
some v5
def cssrule_silent.kr (w0 : World) (k : Nat) : St T → Option (Bool) := (retK (cfg w0 (tab24 k)) Tryd.f107.results.toList 0 [] io2.pat)
def cssrule_silent.cuts (w0 : World) (k : Nat) : Cuts T (Bool) := fun n => none
def cssrule_silent.body : Code := bodyOf Tryd.f107
theorem cssrule_silent.e (w0 : World) (k : Nat) : ∀ v, (fun v => cssrule_silent k v.1 v.2.1 v.2.2.1 v.2.2.2) v = runK (cfg w0 (tab24 k)) Tryd.f107.ntmps (cssrule_silent.kr w0 k) (annot (cssrule_silent.cuts w0 k) cssrule_silent.body) (entry (io9.enc v).1 (io9.enc v).2) (endK (cssrule_silent.kr w0 k)) := by
  intro v; kernel_rfl
theorem cssrule_silent.hb : Tryd.f107.body = some cssrule_silent.body := by kernel_rfl
def tab25 (k : Nat) : Tab T := addTab 107 (line io9 io2 false (fun v => cssrule_silent k v.1 v.2.1 v.2.2.1 v.2.2.2)) (tab24 k)
def cssrule_solid.c3 (k : Nat) : Nat → (List S106) → ((List S106) → Option (List S106)) → Option (List S106)
  | 0, _, _ => none
  | n + 1, x2, k0 =>
    let v3 : Bool := (decide ((x2.length : Int) > (0 : Int)))
    cond ((decide (0 ≤ (0 : Int) ∧ (0 : Int) < (x2.length : Int))) || !v3) (
    let v4 : Int := (x2.getD ((0 : Int).toNat) S106.d).Kind
    let v5 : List UInt8 := (x2.getD ((0 : Int).toNat) S106.d).Raw
    let v6 : List UInt8 := (x2.getD ((0 : Int).toNat) S106.d).Value
    let v7 : Int := (x2.getD ((0 : Int).toNat) S106.d).Num
    (cond v3 (cssrule_silent k v4 v5 v6 v7) (some false)).bind fun r8 =>
    cond (cond v3 r8 false) (
    cond (decide (0 ≤ (1 : Int) ∧ (1 : Int) ≤ (x2.length : Int))) (
    cssrule_solid.c3 k n (x2.drop (1 : Int).toNat) k0) none) (
    k0 x2)) none
def cssrule_solid.c7 (k : Nat) : Nat → (List S106) → ((List S106) → Option (List S106)) → Option (List S106)
  | 0, _, _ => none
  | n + 1, x10, k2 =>
    let v11 : Bool := (decide ((x10.length : Int) > (0 : Int)))
    let v12 : Int := (IntKind.wrap .i64 ((x10.length : Int) - (1 : Int)))
    cond ((decide (0 ≤ v12 ∧ v12 < (x10.length : Int))) || !v11) (
    let v13 : Int := (x10.getD v12.toNat S106.d).Kind
    let v14 : List UInt8 := (x10.getD v12.toNat S106.d).Raw
    let v15 : List UInt8 := (x10.getD v12.toNat S106.d).Value
    let v16 : Int := (x10.getD v12.toNat S106.d).Num
    (cond v11 (cssrule_silent k v13 v14 v15 v16) (some false)).bind fun r17 =>
    cond (cond v11 r17 false) (
    let v18 : Int := (IntKind.wrap .i64 ((x10.length : Int) - (1 : Int)))
    cond (decide (0 ≤ v18 ∧ v18 ≤ (x10.length : Int))) (
    cssrule_solid.c7 k n (x10.take v18.toNat) k2) none) (
    k2 x10)) none
def cssrule_solid (k : Nat) (a1 : List S106) : Option (List S106) :=
cssrule_solid.c3 k k a1 (fun (y9 : List S106) =>
cssrule_solid.c7 k k y9 (fun (y19 : List S106) =>
some y19))
def cssrule_solid.kr (w0 : World) (k : Nat) : St T → Option (List S106) := (retK (cfg w0 (tab25 k)) Tryd.f68.results.toList 0 [] io37.pat)
def cssrule_solid.x3 : Ex → Option (List Nat × List Sp)
  | .exit 0 => some ([0], [])
  | _ => none
def cssrule_solid.L3 (k : Nat) (n : Nat) (v : List S106) (K : Ex → St T → Option (List S106)) : Option (List S106) := cssrule_solid.c3 k n v (fun y37 => K (.exit 0) (mkSt [0] (io37.enc y37)))
def cssrule_solid.x7 : Ex → Option (List Nat × List Sp)
  | .exit 2 => some ([0], [])
  | _ => none
def cssrule_solid.L7 (k : Nat) (n : Nat) (v : List S106) (K : Ex → St T → Option (List S106)) : Option (List S106) := cssrule_solid.c7 k n v (fun y38 => K (.exit 2) (mkSt [0] (io37.enc y38)))
def cssrule_solid.cuts (w0 : World) (k : Nat) : Cuts T (List S106) := fun n => bif n.beq 3 then some (entK (cfg w0 (tab25 k)) 0 [0] [] io37.pat (cssrule_solid.L3 k k)) else bif n.beq 7 then some (entK (cfg w0 (tab25 k)) 0 [0] [] io37.pat (cssrule_solid.L7 k k)) else none
def cssrule_solid.body : Code := bodyOf Tryd.f68
def cssrule_solid.b3 : Code := findD 3 cssrule_solid.body
theorem cssrule_solid.s3 (w0 : World) (k : Nat) : ∀ n v K, cssrule_solid.L3 k (n + 1) v K = runK (cfg w0 (tab25 k)) Tryd.f68.ntmps (cssrule_solid.kr w0 k) (annot (cssrule_solid.cuts w0 k) cssrule_solid.b3) (mkSt [0] (io37.enc v)) (loopK (cfg w0 (tab25 k)) 0 cssrule_solid.x3 (entK (cfg w0 (tab25 k)) 0 [0] [] io37.pat (cssrule_solid.L3 k n)) K) := by
  intro n v K; kernel_rfl
def cssrule_solid.b7 : Code := findD 7 cssrule_solid.body
theorem cssrule_solid.s7 (w0 : World) (k : Nat) : ∀ n v K, cssrule_solid.L7 k (n + 1) v K = runK (cfg w0 (tab25 k)) Tryd.f68.ntmps (cssrule_solid.kr w0 k) (annot (cssrule_solid.cuts w0 k) cssrule_solid.b7) (mkSt [0] (io37.enc v)) (loopK (cfg w0 (tab25 k)) 0 cssrule_solid.x7 (entK (cfg w0 (tab25 k)) 0 [0] [] io37.pat (cssrule_solid.L7 k n)) K) := by
  intro n v K; kernel_rfl
theorem cssrule_solid.e (w0 : World) (k : Nat) : ∀ v, (fun v => cssrule_solid k v) v = runK (cfg w0 (tab25 k)) Tryd.f68.ntmps (cssrule_solid.kr w0 k) (annot (cssrule_solid.cuts w0 k) cssrule_solid.body) (entry (io37.enc v).1 (io37.enc v).2) (endK (cssrule_solid.kr w0 k)) := by
  intro v; kernel_rfl
theorem cssrule_solid.hb : Tryd.f68.body = some cssrule_solid.body := by kernel_rfl
def tab26 (k : Nat) : Tab T := addTab 68 (line io37 io37 [] (fun v => cssrule_solid k v)) (tab25 k)
def cssrule_raw (k : Nat) (a1 : Int) (a2 : List UInt8) (a3 : List UInt8) (a4 : Int) (a5 : Int) (a6 : List UInt8) : Option (Bool) :=
let v7 : Bool := (cond (a1 == a5) (a2 == a6) false)
some v7
def cssrule_raw.kr (w0 : World) (k : Nat) : St T → Option (Bool) := (retK (cfg w0 (tab26 k)) Tryd.f109.results.toList 0 [] io2.pat)
def cssrule_raw.cuts (w0 : World) (k : Nat) : Cuts T (Bool) := fun n => none
def cssrule_raw.body : Code := bodyOf Tryd.f109
theorem cssrule_raw.e (w0 : World) (k : Nat) : ∀ v, (fun v => cssrule_raw k v.1 v.2.1 v.2.2.1 v.2.2.2.1 v.2.2.2.2.1 v.2.2.2.2.2) v = runK (cfg w0 (tab26 k)) Tryd.f109.ntmps (cssrule_raw.kr w0 k) (annot (cssrule_raw.cuts w0 k) cssrule_raw.body) (entry (io38.enc v).1 (io38.enc v).2) (endK (cssrule_raw.kr w0 k)) := by
  intro v; kernel_rfl
theorem cssrule_raw.hb : Tryd.f109.body = some cssrule_raw.body := by kernel_rfl
def tab27 (k : Nat) : Tab T := addTab 109 (line io38 io2 false (fun v => cssrule_raw k v.1 v.2.1 v.2.2.1 v.2.2.2.1 v.2.2.2.2.1 v.2.2.2.2.2)) (tab26 k)
def cssrule_brace (k : Nat) (a1 : Int) (a2 : List UInt8) (a3 : List UInt8) (a4 : Int) : Option (Bool) :=
(cssrule_raw k a1 a2 a3 a4 (10 : Int) ([123] : List UInt8)).bind fun r5 =>
some r5
def cssrule_brace.kr (w0 : World) (k : Nat) : St T → Option (Bool) := (retK (cfg w0 (tab27 k)) Tryd.f71.results.toList 0 [] io2.pat)
def cssrule_brace.cuts (w0 : World) (k : Nat) : Cuts T (Bool) := fun n => none
def cssrule_brace.body : Code := bodyOf Tryd.f71
theorem cssrule_brace.e (w0 : World) (k : Nat) : ∀ v, (fun v => cssrule_brace k v.1 v.2.1 v.2.2.1 v.2.2.2) v = runK (cfg w0 (tab27 k)) Tryd.f71.ntmps (cssrule_brace.kr w0 k) (annot (cssrule_brace.cuts w0 k) cssrule_brace.body) (entry (io9.enc v).1 (io9.enc v).2) (endK (cssrule_brace.kr w0 k)) := by
  intro v; kernel_rfl
theorem cssrule_brace.hb : Tryd.f71.body = some cssrule_brace.body := by kernel_rfl
def tab28 (k : Nat) : Tab T := addTab 71 (line io9 io2 false (fun v => cssrule_brace k v.1 v.2.1 v.2.2.1 v.2.2.2)) (tab27 k)
def cssrule_semi (k : Nat) (a1 : Int) (a2 : List UInt8) (a3 : List UInt8) (a4 : Int) : Option (Bool) :=
(cssrule_raw k a1 a2 a3 a4 (12 : Int) ([59] : List UInt8)).bind fun r5 =>
some r5
def cssrule_semi.kr (w0 : World) (k : Nat) : St T → Option (Bool) := (retK (cfg w0 (tab28 k)) Tryd.f72.results.toList 0 [] io2.pat)
def cssrule_semi.cuts (w0 : World) (k : Nat) : Cuts T (Bool) := fun n => none
def cssrule_semi.body : Code := bodyOf Tryd.f72
theorem cssrule_semi.e (w0 : World) (k : Nat) : ∀ v, (fun v => cssrule_semi k v.1 v.2.1 v.2.2.1 v.2.2.2) v = runK (cfg w0 (tab28 k)) Tryd.f72.ntmps (cssrule_semi.kr w0 k) (annot (cssrule_semi.cuts w0 k) cssrule_semi.body) (entry (io9.enc v).1 (io9.enc v).2) (endK (cssrule_semi.kr w0 k)) := by
  intro v; kernel_rfl
theorem cssrule_semi.hb : Tryd.f72.body = some cssrule_semi.body := by kernel_rfl
def tab29 (k : Nat) : Tab T := addTab 72 (line io9 io2 false (fun v => cssrule_semi k v.1 v.2.1 v.2.2.1 v.2.2.2)) (tab28 k)
def cssrule_rules_1 (k : Nat) (a1 : Int) (a2 : List UInt8) (a3 : List UInt8) (a4 : Int) (a5 : Bool) : Option (Bool × Bool) :=
(cssrule_brace k a1 a2 a3 a4).bind fun r6 =>
(cond ((!r6) && a5) (cssrule_semi k a1 a2 a3 a4) (some false)).bind fun r7 =>
let v8 : Bool := (cond r6 true (cond a5 r7 false))
some (v8, a5)
def cssrule_rules_1.kr (w0 : World) (k : Nat) : St T → Option (Bool × Bool) := (retK (cfg w0 (tab29 k)) Tryd.f70.results.toList 1 [] io40.pat)
def cssrule_rules_1.cuts (w0 : World) (k : Nat) : Cuts T (Bool × Bool) := fun n => none
def cssrule_rules_1.body : Code := bodyOf Tryd.f70
theorem cssrule_rules_1.e (w0 : World) (k : Nat) : ∀ v, (fun v => cssrule_rules_1 k v.1 v.2.1 v.2.2.1 v.2.2.2.1 v.2.2.2.2) v = runK (cfg w0 (tab29 k)) Tryd.f70.ntmps (cssrule_rules_1.kr w0 k) (annot (cssrule_rules_1.cuts w0 k) cssrule_rules_1.body) (entry (io39.enc v).1 (io39.enc v).2) (endK (cssrule_rules_1.kr w0 k)) := by
  intro v; kernel_rfl
theorem cssrule_rules_1.hb : Tryd.f70.body = some cssrule_rules_1.body := by kernel_rfl
def tab30 (k : Nat) : Tab T := addTab 70 (line io39 io40 (false, false) (fun v => cssrule_rules_1 k v.1 v.2.1 v.2.2.1 v.2.2.2.1 v.2.2.2.2)) (tab29 k)
def cssrule_opens (k : Nat) (a1 : Int) (a2 : List UInt8) (a3 : List UInt8) (a4 : Int) : Option (Bool) :=
let v5 : Bool := (cond (a1 == (10 : Int)) true (a1 == (2 : Int)))
some v5
def cssrule_opens.kr (w0 : World) (k : Nat) : St T → Option (Bool) := (retK (cfg w0 (tab30 k)) Tryd.f108.results.toList 0 [] io2.pat)
def cssrule_opens.cuts (w0 : World) (k : Nat) : Cuts T (Bool) := fun n => none
def cssrule_opens.body : Code := bodyOf Tryd.f108
theorem cssrule_opens.e (w0 : World) (k : Nat) : ∀ v, (fun v => cssrule_opens k v.1 v.2.1 v.2.2.1 v.2.2.2) v = runK (cfg w0 (tab30 k)) Tryd.f108.ntmps (cssrule_opens.kr w0 k) (annot (cssrule_opens.cuts w0 k) cssrule_opens.body) (entry (io9.enc v).1 (io9.enc v).2) (endK (cssrule_opens.kr w0 k)) := by
  intro v; kernel_rfl
theorem cssrule_opens.hb : Tryd.f108.body = some cssrule_opens.body := by kernel_rfl
def tab31 (k : Nat) : Tab T := addTab 108 (line io9 io2 false (fun v => cssrule_opens k v.1 v.2.1 v.2.2.1 v.2.2.2)) (tab30 k)
def cssrule_closer (k : Nat) (a1 : Int) (a2 : List UInt8) (a3 : List UInt8) (a4 : Int) : Option (List UInt8) :=
let v5 : Int := (IntKind.wrap .i64 ((a2.length : Int) - (1 : Int)))
cond (decide (0 ≤ v5 ∧ v5 < (a2.length : Int))) (
let v6 : Int := ((a2.getD v5.toNat 0).toNat : Int)
cond (v6 == (91 : Int)) (
some ([93] : List UInt8)) (
cond (v6 == (123 : Int)) (
some ([125] : List UInt8)) (
some ([41] : List UInt8)))) none
def cssrule_closer.kr (w0 : World) (k : Nat) : St T → Option (List UInt8) := (retK (cfg w0 (tab31 k)) Tryd.f110.results.toList 0 [] io1.pat)
def cssrule_closer.cuts (w0 : World) (k : Nat) : Cuts T (List UInt8) := fun n => none
def cssrule_closer.body : Code := bodyOf Tryd.f110
theorem cssrule_closer.e (w0 : World) (k : Nat) : ∀ v, (fun v => cssrule_closer k v.1 v.2.1 v.2.2.1 v.2.2.2) v = runK (cfg w0 (tab31 k)) Tryd.f110.ntmps (cssrule_closer.kr w0 k) (annot (cssrule_closer.cuts w0 k) cssrule_closer.body) (entry (io9.enc v).1 (io9.enc v).2) (endK (cssrule_closer.kr w0 k)) := by
  intro v; kernel_rfl
theorem cssrule_closer.hb : Tryd.f110.body = some cssrule_closer.body := by kernel_rfl
def tab32 (k : Nat) : Tab T := addTab 110 (line io9 io1 [] (fun v => cssrule_closer k v.1 v.2.1 v.2.2.1 v.2.2.2)) (tab31 k)
def cssrule_block.c7 (k : Nat) : Nat → (List S106) → Int → (List (List UInt8)) → ((List S106) → Option (Int × Bool)) → Option (Int × Bool)
  | 0, _, _, _, _ => none
  | n + 1, x6, x7, x8, k0 =>
    let v9 : Bool := (decide (x7 < (x6.length : Int)))
    cond v9 (
    cond (decide (0 ≤ x7 ∧ x7 < (x6.length : Int))) (
    let v10 : List UInt8 := (x6.getD x7.toNat S106.d).Value
    (cssrule_opens k ((x6.getD x7.toNat S106.d).Kind) ((x6.getD x7.toNat S106.d).Raw) v10 ((x6.getD x7.toNat S106.d).Num)).bind fun r11 =>
    cond r11 (
    cond (decide (0 ≤ x7 ∧ x7 < (x6.length : Int))) (
    let v12 : List UInt8 := (x6.getD x7.toNat S106.d).Value
    (cssrule_closer k ((x6.getD x7.toNat S106.d).Kind) ((x6.getD x7.toNat S106.d).Raw) v12 ((x6.getD x7.toNat S106.d).Num)).bind fun r13 =>
    cond (decide ((x8 ++ ([r13])).length < most)) (
    let v14 : Int := (IntKind.wrap .i64 (x7 + (1 : Int)))
    cssrule_block.c7 k n x6 v14 (x8 ++ ([r13])) k0) none) none) (
    cond (decide (0 ≤ x7 ∧ x7 < (x6.length : Int))) (
    let v15 : Bool := (((x6.getD x7.toNat S106.d).Kind) == (11 : Int))
    cond ((decide (0 ≤ x7 ∧ x7 < (x6.length : Int))) || !v15) (
    let v16 : Int := (IntKind.wrap .i64 ((x8.length : Int) - (1 : Int)))
    cond ((decide (0 ≤ v16 ∧ v16 < (x8.length : Int))) || !v15) (
    let v17 : Bool := (((x6.getD x7.toNat S106.d).Raw) == (x8.getD v16.toNat []))
    cond (cond v15 v17 false) (
    let v18 : Int := (IntKind.wrap .i64 ((x8.length : Int) - (1 : Int)))
    cond (decide (0 ≤ v18 ∧ v18 ≤ (x8.length : Int))) (
    let v19 : Bool := ((v18.toNat : Int) == (0 : Int))
    cond v19 (
    let v20 : Int := (IntKind.wrap .i64 (x7 + (1 : Int)))
    some (v20, true)) (
    let v21 : Int := (IntKind.wrap .i64 (x7 + (1 : Int)))
    cssrule_block.c7 k n x6 v21 ((x8.drop 0).take v18.toNat) k0)) none) (
    let v22 : Int := (IntKind.wrap .i64 (x7 + (1 : Int)))
    cssrule_block.c7 k n x6 v22 x8 k0)) none) none) none)) none) (
    k0 x6)
def cssrule_block (k : Nat) (a1 : List S106) (a2 : Int) : Option (Int × Bool) :=
cond (decide (0 ≤ a2 ∧ a2 < (a1.length : Int))) (
let v3 : List UInt8 := (a1.getD a2.toNat S106.d).Value
(cssrule_closer k ((a1.getD a2.toNat S106.d).Kind) ((a1.getD a2.toNat S106.d).Raw) v3 ((a1.getD a2.toNat S106.d).Num)).bind fun r4 =>
let v5 : Int := (IntKind.wrap .i64 (a2 + (1 : Int)))
cssrule_block.c7 k k a1 v5 ([r4]) (fun (y23 : List S106) =>
some ((y23.length : Int), false))) none
def cssrule_block.kr (w0 : World) (k : Nat) : St T → Option (Int × Bool) := (retK (cfg w0 (tab32 k)) Tryd.f73.results.toList 0 [] io42.pat)
def cssrule_block.x7 : Ex → Option (List Nat × List Sp)
  | .exit 0 => some ([0], [])
  | _ => none
def cssrule_block.L7 (k : Nat) (n : Nat) (v : (List S106) × Int × (List (List UInt8))) (K : Ex → St T → Option (Int × Bool)) : Option (Int × Bool) := cssrule_block.c7 k n v.1 v.2.1 v.2.2 (fun y39 => K (.exit 0) (mkSt [0] (io37.enc y39)))
def cssrule_block.cuts (w0 : World) (k : Nat) : Cuts T (Int × Bool) := fun n => bif n.beq 7 then some (entK (cfg w0 (tab32 k)) 0 [0, 6, 7] [.own 6 9] io43.pat (cssrule_block.L7 k k)) else none
def cssrule_block.body : Code := bodyOf Tryd.f73
def cssrule_block.b7 : Code := findD 7 cssrule_block.body
theorem cssrule_block.s7 (w0 : World) (k : Nat) : ∀ n v K, cssrule_block.L7 k (n + 1) v K = runK (cfg w0 (tab32 k)) Tryd.f73.ntmps (cssrule_block.kr w0 k) (annot (cssrule_block.cuts w0 k) cssrule_block.b7) (mkSt [0, 6, 7] (io43.enc v)) (loopK (cfg w0 (tab32 k)) 0 cssrule_block.x7 (entK (cfg w0 (tab32 k)) 0 [0, 6, 7] [.own 6 9] io43.pat (cssrule_block.L7 k n)) K) := by
  intro n v K; kernel_rfl
theorem cssrule_block.e (w0 : World) (k : Nat) : ∀ v, (fun v => cssrule_block k v.1 v.2) v = runK (cfg w0 (tab32 k)) Tryd.f73.ntmps (cssrule_block.kr w0 k) (annot (cssrule_block.cuts w0 k) cssrule_block.body) (entry (io41.enc v).1 (io41.enc v).2) (endK (cssrule_block.kr w0 k)) := by
  intro v; kernel_rfl
theorem cssrule_block.hb : Tryd.f73.body = some cssrule_block.body := by kernel_rfl
def tab33 (k : Nat) : Tab T := addTab 73 (line io41 io42 ((0 : Int), false) (fun v => cssrule_block k v.1 v.2)) (tab32 k)
def cssrule_find.c3 (k : Nat) : Nat → (List S106) → Int → Bool → (Int → Bool → Option (Int × Bool)) → Option (Int × Bool)
  | 0, _, _, _, _ => none
  | n + 1, x4, x5, x6, k0 =>
    let v7 : Bool := (decide (x5 < (x4.length : Int)))
    cond ((decide (0 ≤ x5 ∧ x5 < (x4.length : Int))) || !v7) (
    let v8 : List UInt8 := (x4.getD x5.toNat S106.d).Value
    cond v7 (
    (cssrule_rules_1 k ((x4.getD x5.toNat S106.d).Kind) ((x4.getD x5.toNat S106.d).Raw) v8 ((x4.getD x5.toNat S106.d).Num) x6).bind fun r9 =>
    cond (cond v7 (!r9.1) false) (
    cond (decide (0 ≤ x5 ∧ x5 < (x4.length : Int))) (
    let v10 : List UInt8 := (x4.getD x5.toNat S106.d).Value
    (cssrule_opens k ((x4.getD x5.toNat S106.d).Kind) ((x4.getD x5.toNat S106.d).Raw) v10 ((x4.getD x5.toNat S106.d).Num)).bind fun r11 =>
    cond r11 (
    (cssrule_block k x4 x5).bind fun r12 =>
    cssrule_find.c3 k n x4 r12.1 r9.2 k0) (
    let v13 : Int := (IntKind.wrap .i64 (x5 + (1 : Int)))
    cssrule_find.c3 k n x4 v13 r9.2 k0)) none) (
    k0 x5 r9.2)) (
    cond v7 none (
    cond (!v7) (
    k0 x5 x6) none))) none
def cssrule_find (k : Nat) (a1 : List S106) (a2 : Int) (a3 : Bool) : Option (Int × Bool) :=
cssrule_find.c3 k k a1 a2 a3 (fun (y14 : Int) (y15 : Bool) =>
some (y14, y15))
def cssrule_find.kr (w0 : World) (k : Nat) : St T → Option (Int × Bool) := (retK (cfg w0 (tab33 k)) Tryd.f69.results.toList 1 [] io45.pat)
def cssrule_find.x3 : Ex → Option (List Nat × List Sp)
  | .exit 0 => some ([1], [])
  | _ => none
def cssrule_find.L3 (k : Nat) (n : Nat) (v : (List S106) × Int × Bool) (K : Ex → St T → Option (Int × Bool)) : Option (Int × Bool) := cssrule_find.c3 k n v.1 v.2.1 v.2.2 (fun y40 y41 => K (.exit 0) (mkSt [1] (io45.enc (y40, y41))))
def cssrule_find.cuts (w0 : World) (k : Nat) : Cuts T (Int × Bool) := fun n => bif n.beq 3 then some (entK (cfg w0 (tab33 k)) 1 [0, 1, 2] [] io44.pat (cssrule_find.L3 k k)) else none
def cssrule_find.body : Code := bodyOf Tryd.f69
def cssrule_find.b3 : Code := findD 3 cssrule_find.body
theorem cssrule_find.s3 (w0 : World) (k : Nat) : ∀ n v K, cssrule_find.L3 k (n + 1) v K = runK (cfg w0 (tab33 k)) Tryd.f69.ntmps (cssrule_find.kr w0 k) (annot (cssrule_find.cuts w0 k) cssrule_find.b3) (mkSt [0, 1, 2] (io44.enc v)) (loopK (cfg w0 (tab33 k)) 1 cssrule_find.x3 (entK (cfg w0 (tab33 k)) 1 [0, 1, 2] [] io44.pat (cssrule_find.L3 k n)) K) := by
  intro n v K; kernel_rfl
theorem cssrule_find.e (w0 : World) (k : Nat) : ∀ v, (fun v => cssrule_find k v.1 v.2.1 v.2.2) v = runK (cfg w0 (tab33 k)) Tryd.f69.ntmps (cssrule_find.kr w0 k) (annot (cssrule_find.cuts w0 k) cssrule_find.body) (entry (io44.enc v).1 (io44.enc v).2) (endK (cssrule_find.kr w0 k)) := by
  intro v; kernel_rfl
theorem cssrule_find.hb : Tryd.f69.body = some cssrule_find.body := by kernel_rfl
def tab34 (k : Nat) : Tab T := addTab 69 (line io44 io45 ((0 : Int), false) (fun v => cssrule_find k v.1 v.2.1 v.2.2)) (tab33 k)
def cssrule_bad (k : Nat) (a1 : Int) (a2 : List UInt8) (a3 : List UInt8) (a4 : Int) : Option (Bool) :=
some (a1 == (6 : Int))
def cssrule_bad.kr (w0 : World) (k : Nat) : St T → Option (Bool) := (retK (cfg w0 (tab34 k)) Tryd.f112.results.toList 0 [] io2.pat)
def cssrule_bad.cuts (w0 : World) (k : Nat) : Cuts T (Bool) := fun n => none
def cssrule_bad.body : Code := bodyOf Tryd.f112
theorem cssrule_bad.e (w0 : World) (k : Nat) : ∀ v, (fun v => cssrule_bad k v.1 v.2.1 v.2.2.1 v.2.2.2) v = runK (cfg w0 (tab34 k)) Tryd.f112.ntmps (cssrule_bad.kr w0 k) (annot (cssrule_bad.cuts w0 k) cssrule_bad.body) (entry (io9.enc v).1 (io9.enc v).2) (endK (cssrule_bad.kr w0 k)) := by
  intro v; kernel_rfl
theorem cssrule_bad.hb : Tryd.f112.body = some cssrule_bad.body := by kernel_rfl
def tab35 (k : Nat) : Tab T := addTab 112 (line io9 io2 false (fun v => cssrule_bad k v.1 v.2.1 v.2.2.1 v.2.2.2)) (tab34 k)
def api_SToken__v2.c5 (k : Nat) : Nat → (List S106) → Int → Int → (Option (Int)) → Option (Int)
  | 0, _, _, _, _ => none
  | n + 1, x2, x3, x4, k0 =>
    cond (decide (x4 < x3)) (
    cond (decide (0 ≤ x4 ∧ x4 < (x2.length : Int))) (
    let v5 : List UInt8 := (x2.getD x4.toNat S106.d).Value
    (cssrule_bad k ((x2.getD x4.toNat S106.d).Kind) ((x2.getD x4.toNat S106.d).Raw) v5 ((x2.getD x4.toNat S106.d).Num)).bind fun r6 =>
    cond r6 (
    some x4) (
    let v7 : Int := (IntKind.wrap .i64 (x4 + (1 : Int)))
    api_SToken__v2.c5 k n x2 x3 v7 k0)) none) (
    k0)
def api_SToken__v2 (k : Nat) (a1 : List S106) : Option (Int) :=
api_SToken__v2.c5 k k a1 (a1.length : Int) (0 : Int) (
some (-1 : Int))
def api_SToken__v2.kr (w0 : World) (k : Nat) : St T → Option (Int) := (retK (cfg w0 (tab35 k)) Tryd.f163.results.toList 0 [] io4.pat)
def api_SToken__v2.x5 : Ex → Option (List Nat × List Sp)
  | .exit 0 => some ([], [])
  | _ => none
def api_SToken__v2.L5 (k : Nat) (n : Nat) (v : (List S106) × Int × Int) (K : Ex → St T → Option (Int)) : Option (Int) := api_SToken__v2.c5 k n v.1 v.2.1 v.2.2 ( K (.exit 0) (mkSt [] (io48.enc ())))
def api_SToken__v2.cuts (w0 : World) (k : Nat) : Cuts T (Int) := fun n => bif n.beq 5 then some (entK (cfg w0 (tab35 k)) 0 [0, 1, 7, 8] [] io47.pat (api_SToken__v2.L5 k k)) else none
def api_SToken__v2.body : Code := bodyOf Tryd.f163
def api_SToken__v2.b5 : Code := findD 5 api_SToken__v2.body
theorem api_SToken__v2.s5 (w0 : World) (k : Nat) : ∀ n v K, api_SToken__v2.L5 k (n + 1) v K = runK (cfg w0 (tab35 k)) Tryd.f163.ntmps (api_SToken__v2.kr w0 k) (annot (api_SToken__v2.cuts w0 k) api_SToken__v2.b5) (mkSt [0, 1, 7, 8] (io47.enc v)) (loopK (cfg w0 (tab35 k)) 0 api_SToken__v2.x5 (entK (cfg w0 (tab35 k)) 0 [0, 1, 7, 8] [] io47.pat (api_SToken__v2.L5 k n)) K) := by
  intro n v K; kernel_rfl
theorem api_SToken__v2.e (w0 : World) (k : Nat) : ∀ v, (fun v => api_SToken__v2 k v) v = runK (cfg w0 (tab35 k)) Tryd.f163.ntmps (api_SToken__v2.kr w0 k) (annot (api_SToken__v2.cuts w0 k) api_SToken__v2.body) (entry (io46.enc v).1 (io46.enc v).2) (endK (api_SToken__v2.kr w0 k)) := by
  intro v; kernel_rfl
theorem api_SToken__v2.hb : Tryd.f163.body = some api_SToken__v2.body := by kernel_rfl
def tab36 (k : Nat) : Tab T := addTab 163 (line io46 io4 (0 : Int) (fun v => api_SToken__v2 k v)) (tab35 k)
def api_SToken_ (k : Nat) (a1 : List S106) : Option (Bool) :=
(api_SToken__v2 k a1).bind fun r2 =>
some (decide (r2 ≥ (0 : Int)))
def api_SToken_.kr (w0 : World) (k : Nat) : St T → Option (Bool) := (retK (cfg w0 (tab36 k)) Tryd.f111.results.toList 0 [] io2.pat)
def api_SToken_.cuts (w0 : World) (k : Nat) : Cuts T (Bool) := fun n => none
def api_SToken_.body : Code := bodyOf Tryd.f111
theorem api_SToken_.e (w0 : World) (k : Nat) : ∀ v, (fun v => api_SToken_ k v) v = runK (cfg w0 (tab36 k)) Tryd.f111.ntmps (api_SToken_.kr w0 k) (annot (api_SToken_.cuts w0 k) api_SToken_.body) (entry (io46.enc v).1 (io46.enc v).2) (endK (api_SToken_.kr w0 k)) := by
  intro v; kernel_rfl
theorem api_SToken_.hb : Tryd.f111.body = some api_SToken_.body := by kernel_rfl
def tab37 (k : Nat) : Tab T := addTab 111 (line io46 io2 false (fun v => api_SToken_ k v)) (tab36 k)
def f__strings_Builder__Len (k : Nat) (a10 : List UInt8) : Option (Int × (List UInt8)) := some ((a10.length : Int), a10)
def tab38 (k : Nat) : Tab T := addTab 47 (line io5 io49 ((0 : Int), []) (fun v => f__strings_Builder__Len k v)) (tab37 k)
def f__strings_Builder__WriteString (k : Nat) (a22 : List UInt8) (a23 : List UInt8) : Option (Int × (List UInt8)) := (wStr a23 a22).map fun s => ((a22.length : Int), s)
def tab39 (k : Nat) : Tab T := addTab 83 (line io50 io51 ((0 : Int), []) (fun v => f__strings_Builder__WriteString k v.1 v.2)) (tab38 k)
def cssrule_Head.c20 (k : Nat) (x12 : List S106) (x13 : Int) (x14 : Int) (x15 : List UInt8) (x16 : Int) (x17 : List UInt8) (x18 : List UInt8) (x19 : Int) (kn : Bool → (List S106) → Int → Int → (List UInt8) → Option (List UInt8)) : Option (List UInt8) :=
(f__strings_Builder__WriteString k x17 x15).bind fun r20 =>
kn false x12 x13 x14 r20.2
def cssrule_Head.c9 (k : Nat) : Nat → Bool → (List S106) → Int → Int → (List UInt8) → ((List UInt8) → Option (List UInt8)) → Option (List UInt8)
  | 0, _, _, _, _, _, _ => none
  | n + 1, x2, x3, x4, x5, x6, k0 =>
    cond (decide (x5 < x4)) (
    cond (decide (0 ≤ x5 ∧ x5 < (x3.length : Int))) (
    let v7 : List UInt8 := (x3.getD x5.toNat S106.d).Value
    (cssrule_silent k ((x3.getD x5.toNat S106.d).Kind) ((x3.getD x5.toNat S106.d).Raw) v7 ((x3.getD x5.toNat S106.d).Num)).bind fun r8 =>
    cond r8 (
    (f__strings_Builder__Len k x6).bind fun r9 =>
    let v10 : Int := (IntKind.wrap .i64 (x5 + (1 : Int)))
    cssrule_Head.c9 k n (decide (r9.1 > (0 : Int))) x3 x4 v10 r9.2 k0) (
    cond x2 (
    (f__strings_Builder__WriteByte k (32 : Int) x6).bind fun r11 =>
    cssrule_Head.c20 k x3 x4 x5 r11 ((x3.getD x5.toNat S106.d).Kind) ((x3.getD x5.toNat S106.d).Raw) v7 ((x3.getD x5.toNat S106.d).Num) (fun (y21 : Bool) (y22 : List S106) (y23 : Int) (y24 : Int) (y25 : List UInt8) =>
    let v26 : Int := (IntKind.wrap .i64 (y24 + (1 : Int)))
    cssrule_Head.c9 k n y21 y22 y23 v26 y25 k0)) (
    cssrule_Head.c20 k x3 x4 x5 x6 ((x3.getD x5.toNat S106.d).Kind) ((x3.getD x5.toNat S106.d).Raw) v7 ((x3.getD x5.toNat S106.d).Num) (fun (y27 : Bool) (y28 : List S106) (y29 : Int) (y30 : Int) (y31 : List UInt8) =>
    let v32 : Int := (IntKind.wrap .i64 (y30 + (1 : Int)))
    cssrule_Head.c9 k n y27 y28 y29 v32 y31 k0)))) none) (
    k0 x6)
def cssrule_Head (k : Nat) (a1 : List S106) : Option (List UInt8) :=
cssrule_Head.c9 k k false a1 (a1.length : Int) (0 : Int) ([] : List UInt8) (fun (y33 : List UInt8) =>
(f__strings_Builder__String k y33).bind fun r34 =>
some r34.1)
def cssrule_Head.kr (w0 : World) (k : Nat) : St T → Option (List UInt8) := (retK (cfg w0 (tab39 k)) Tryd.f113.results.toList 0 [] io1.pat)
def cssrule_Head.x20 : Ex → Option (List Nat × List Sp)
  | .norm => some ([3, 4, 7, 8, 9], [])
  | _ => none
def cssrule_Head.L20 (k : Nat) (v : (List S106) × Int × Int × (List UInt8) × Int × (List UInt8) × (List UInt8) × Int) (K : Ex → St T → Option (List UInt8)) : Option (List UInt8) := cssrule_Head.c20 k v.1 v.2.1 v.2.2.1 v.2.2.2.1 v.2.2.2.2.1 v.2.2.2.2.2.1 v.2.2.2.2.2.2.1 v.2.2.2.2.2.2.2 (fun y42 y43 y44 y45 y46 => K .norm (mkSt [3, 4, 7, 8, 9] (io53.enc (y42, y43, y44, y45, y46))))
def cssrule_Head.x9 : Ex → Option (List Nat × List Sp)
  | .exit 0 => some ([3], [])
  | _ => none
def cssrule_Head.L9 (k : Nat) (n : Nat) (v : Bool × (List S106) × Int × Int × (List UInt8)) (K : Ex → St T → Option (List UInt8)) : Option (List UInt8) := cssrule_Head.c9 k n v.1 v.2.1 v.2.2.1 v.2.2.2.1 v.2.2.2.2 (fun y47 => K (.exit 0) (mkSt [3] (io5.enc y47)))
def cssrule_Head.cuts (w0 : World) (k : Nat) : Cuts T (List UInt8) := fun n => bif n.beq 20 then some (entK (cfg w0 (tab39 k)) 0 [3, 6, 7, 8, 9] [] io52.pat (cssrule_Head.L20 k)) else bif n.beq 9 then some (entK (cfg w0 (tab39 k)) 0 [3, 4, 7, 8, 9] [] io53.pat (cssrule_Head.L9 k k)) else none
def cssrule_Head.body : Code := bodyOf Tryd.f113
def cssrule_Head.b20 : Code := findD 20 cssrule_Head.body
theorem cssrule_Head.s20 (w0 : World) (k : Nat) : ∀ v K, cssrule_Head.L20 k v K = runK (cfg w0 (tab39 k)) Tryd.f113.ntmps (cssrule_Head.kr w0 k) (annot (cssrule_Head.cuts w0 k) cssrule_Head.b20) (mkSt [3, 6, 7, 8, 9] (io52.enc v)) (outK (cfg w0 (tab39 k)) 0 cssrule_Head.x20 K) := by
  intro v K; kernel_rfl
def cssrule_Head.b9 : Code := findD 9 cssrule_Head.body
theorem cssrule_Head.s9 (w0 : World) (k : Nat) : ∀ n v K, cssrule_Head.L9 k (n + 1) v K = runK (cfg w0 (tab39 k)) Tryd.f113.ntmps (cssrule_Head.kr w0 k) (annot (cssrule_Head.cuts w0 k) cssrule_Head.b9) (mkSt [3, 4, 7, 8, 9] (io53.enc v)) (loopK (cfg w0 (tab39 k)) 0 cssrule_Head.x9 (entK (cfg w0 (tab39 k)) 0 [3, 4, 7, 8, 9] [] io53.pat (cssrule_Head.L9 k n)) K) := by
  intro n v K; kernel_rfl
theorem cssrule_Head.e (w0 : World) (k : Nat) : ∀ v, (fun v => cssrule_Head k v) v = runK (cfg w0 (tab39 k)) Tryd.f113.ntmps (cssrule_Head.kr w0 k) (annot (cssrule_Head.cuts w0 k) cssrule_Head.body) (entry (io37.enc v).1 (io37.enc v).2) (endK (cssrule_Head.kr w0 k)) := by
  intro v; kernel_rfl
theorem cssrule_Head.hb : Tryd.f113.body = some cssrule_Head.body := by kernel_rfl
def tab40 (k : Nat) : Tab T := addTab 113 (line io37 io1 [] (fun v => cssrule_Head k v)) (tab39 k)
def cssrule_find_v2.c3 (k : Nat) : Nat → (List S106) → Int → (Int → Option (Int)) → Option (Int)
  | 0, _, _, _ => none
  | n + 1, x3, x4, k0 =>
    let v5 : Bool := (decide (x4 < (x3.length : Int)))
    cond ((decide (0 ≤ x4 ∧ x4 < (x3.length : Int))) || !v5) (
    let v6 : List UInt8 := (x3.getD x4.toNat S106.d).Value
    (cond v5 (cssrule_semi k ((x3.getD x4.toNat S106.d).Kind) ((x3.getD x4.toNat S106.d).Raw) v6 ((x3.getD x4.toNat S106.d).Num)) (some false)).bind fun r7 =>
    cond (cond v5 (!r7) false) (
    cond (decide (0 ≤ x4 ∧ x4 < (x3.length : Int))) (
    let v8 : List UInt8 := (x3.getD x4.toNat S106.d).Value
    (cssrule_opens k ((x3.getD x4.toNat S106.d).Kind) ((x3.getD x4.toNat S106.d).Raw) v8 ((x3.getD x4.toNat S106.d).Num)).bind fun r9 =>
    cond r9 (
    (cssrule_block k x3 x4).bind fun r10 =>
    cssrule_find_v2.c3 k n x3 r10.1 k0) (
    let v11 : Int := (IntKind.wrap .i64 (x4 + (1 : Int)))
    cssrule_find_v2.c3 k n x3 v11 k0)) none) (
    k0 x4)) none
def cssrule_find_v2 (k : Nat) (a1 : List S106) (a2 : Int) : Option (Int) :=
cssrule_find_v2.c3 k k a1 a2 (fun (y12 : Int) =>
some y12)
def cssrule_find_v2.kr (w0 : World) (k : Nat) : St T → Option (Int) := (retK (cfg w0 (tab40 k)) Tryd.f69.results.toList 0 [] io4.pat)
def cssrule_find_v2.x3 : Ex → Option (List Nat × List Sp)
  | .exit 0 => some ([1], [])
  | _ => none
def cssrule_find_v2.L3 (k : Nat) (n : Nat) (v : (List S106) × Int) (K : Ex → St T → Option (Int)) : Option (Int) := cssrule_find_v2.c3 k n v.1 v.2 (fun y48 => K (.exit 0) (mkSt [1] (io4.enc y48)))
def cssrule_find_v2.cuts (w0 : World) (k : Nat) : Cuts T (Int) := fun n => bif n.beq 3 then some (entK (cfg w0 (tab40 k)) 0 [0, 1, 2] [] io54.pat (cssrule_find_v2.L3 k k)) else none
def cssrule_find_v2.body : Code := bodyOf Tryd.f69
def cssrule_find_v2.b3 : Code := findD 3 cssrule_find_v2.body
theorem cssrule_find_v2.s3 (w0 : World) (k : Nat) : ∀ n v K, cssrule_find_v2.L3 k (n + 1) v K = runK (cfg w0 (tab40 k)) Tryd.f69.ntmps (cssrule_find_v2.kr w0 k) (annot (cssrule_find_v2.cuts w0 k) cssrule_find_v2.b3) (mkSt [0, 1, 2] (io54.enc v)) (loopK (cfg w0 (tab40 k)) 0 cssrule_find_v2.x3 (entK (cfg w0 (tab40 k)) 0 [0, 1, 2] [] io54.pat (cssrule_find_v2.L3 k n)) K) := by
  intro n v K; kernel_rfl
theorem cssrule_find_v2.e (w0 : World) (k : Nat) : ∀ v, (fun v => cssrule_find_v2 k v.1 v.2) v = runK (cfg w0 (tab40 k)) Tryd.f69.ntmps (cssrule_find_v2.kr w0 k) (annot (cssrule_find_v2.cuts w0 k) cssrule_find_v2.body) (entry (io54.enc v).1 (io54.enc v).2) (endK (cssrule_find_v2.kr w0 k)) := by
  intro v; kernel_rfl
theorem cssrule_find_v2.hb : Tryd.f69.body = some cssrule_find_v2.body := by kernel_rfl
def tab41 (k : Nat) : Tab T := addTab 69 (line io54 io4 (0 : Int) (fun v => cssrule_find_v2 k v.1 v.2)) (tab40 k)
def cssrule_lower.c7 (k : Nat) : Nat → Int → Int → (List Int) → ((List Int) → Option (List UInt8)) → Option (List UInt8)
  | 0, _, _, _, _ => none
  | n + 1, x2, x3, x4, k0 =>
    cond (decide (x3 < x2)) (
    cond (decide (0 ≤ x3 ∧ x3 < (x4.length : Int))) (
    let v5 : Bool := (decide ((x4.getD x3.toNat (0 : Int)) ≥ (65 : Int)))
    let v6 : Bool := (decide ((x4.getD x3.toNat (0 : Int)) ≤ (90 : Int)))
    cond (cond v5 v6 false) (
    let v7 : Int := (IntKind.wrap .u8 ((x4.getD x3.toNat (0 : Int)) + (32 : Int)))
    cond (decide (0 ≤ x3 ∧ x3 < (x4.length : Int))) (
    let v8 : Int := (IntKind.wrap .i64 (x3 + (1 : Int)))
    cssrule_lower.c7 k n x2 v8 (x4.set x3.toNat v7) k0) none) (
    let v9 : Int := (IntKind.wrap .i64 (x3 + (1 : Int)))
    cssrule_lower.c7 k n x2 v9 x4 k0)) none) (
    k0 x4)
def cssrule_lower (k : Nat) (a1 : List UInt8) : Option (List UInt8) :=
cssrule_lower.c7 k k ((bytesI a1).length : Int) (0 : Int) (bytesI a1) (fun (y10 : List Int) =>
some (bytesU y10))
def cssrule_lower.kr (w0 : World) (k : Nat) : St T → Option (List UInt8) := (retK (cfg w0 (tab41 k)) Tryd.f195.results.toList 0 [] io1.pat)
def cssrule_lower.x7 : Ex → Option (List Nat × List Sp)
  | .exit 0 => some ([3], [])
  | _ => none
def cssrule_lower.L7 (k : Nat) (n : Nat) (v : Int × Int × (List Int)) (K : Ex → St T → Option (List UInt8)) : Option (List UInt8) := cssrule_lower.c7 k n v.1 v.2.1 v.2.2 (fun y49 => K (.exit 0) (mkSt [3] (io28.enc y49)))
def cssrule_lower.cuts (w0 : World) (k : Nat) : Cuts T (List UInt8) := fun n => bif n.beq 7 then some (entK (cfg w0 (tab41 k)) 0 [3, 8, 9, 10] [] io27.pat (cssrule_lower.L7 k k)) else none
def cssrule_lower.body : Code := bodyOf Tryd.f195
def cssrule_lower.b7 : Code := findD 7 cssrule_lower.body
theorem cssrule_lower.s7 (w0 : World) (k : Nat) : ∀ n v K, cssrule_lower.L7 k (n + 1) v K = runK (cfg w0 (tab41 k)) Tryd.f195.ntmps (cssrule_lower.kr w0 k) (annot (cssrule_lower.cuts w0 k) cssrule_lower.b7) (mkSt [3, 8, 9, 10] (io27.enc v)) (loopK (cfg w0 (tab41 k)) 0 cssrule_lower.x7 (entK (cfg w0 (tab41 k)) 0 [3, 8, 9, 10] [] io27.pat (cssrule_lower.L7 k n)) K) := by
  intro n v K; kernel_rfl
theorem cssrule_lower.e (w0 : World) (k : Nat) : ∀ v, (fun v => cssrule_lower k v) v = runK (cfg w0 (tab41 k)) Tryd.f195.ntmps (cssrule_lower.kr w0 k) (annot (cssrule_lower.cuts w0 k) cssrule_lower.body) (entry (io1.enc v).1 (io1.enc v).2) (endK (cssrule_lower.kr w0 k)) := by
  intro v; kernel_rfl
theorem cssrule_lower.hb : Tryd.f195.body = some cssrule_lower.body := by kernel_rfl
def tab42 (k : Nat) : Tab T := addTab 195 (line io1 io1 [] (fun v => cssrule_lower k v)) (tab41 k)
def cssrule_colon (k : Nat) (a1 : Int) (a2 : List UInt8) (a3 : List UInt8) (a4 : Int) : Option (Bool) :=
(cssrule_raw k a1 a2 a3 a4 (12 : Int) ([58] : List UInt8)).bind fun r5 =>
some r5
def cssrule_colon.kr (w0 : World) (k : Nat) : St T → Option (Bool) := (retK (cfg w0 (tab42 k)) Tryd.f196.results.toList 0 [] io2.pat)
def cssrule_colon.cuts (w0 : World) (k : Nat) : Cuts T (Bool) := fun n => none
def cssrule_colon.body : Code := bodyOf Tryd.f196
theorem cssrule_colon.e (w0 : World) (k : Nat) : ∀ v, (fun v => cssrule_colon k v.1 v.2.1 v.2.2.1 v.2.2.2) v = runK (cfg w0 (tab42 k)) Tryd.f196.ntmps (cssrule_colon.kr w0 k) (annot (cssrule_colon.cuts w0 k) cssrule_colon.body) (entry (io9.enc v).1 (io9.enc v).2) (endK (cssrule_colon.kr w0 k)) := by
  intro v; kernel_rfl
theorem cssrule_colon.hb : Tryd.f196.body = some cssrule_colon.body := by kernel_rfl
def tab43 (k : Nat) : Tab T := addTab 196 (line io9 io2 false (fun v => cssrule_colon k v.1 v.2.1 v.2.2.1 v.2.2.2)) (tab42 k)
def cssrule_plain (k : Nat) (a1 : List UInt8) : Option (Bool) :=
(csstok_Cut k a1).bind fun r2 =>
let v3 : Bool := ((r2.length : Int) == (1 : Int))
cond ((decide (0 ≤ (0 : Int) ∧ (0 : Int) < (r2.length : Int))) || !v3) (
let v4 : Int := (r2.getD ((0 : Int).toNat) S106.d).Kind
let v5 : Bool := (cond v3 (v4 == (1 : Int)) false)
cond ((decide (0 ≤ (0 : Int) ∧ (0 : Int) < (r2.length : Int))) || !v5) (
let v6 : List UInt8 := (r2.getD ((0 : Int).toNat) S106.d).Value
cond ((decide (0 ≤ (0 : Int) ∧ (0 : Int) < (r2.length : Int))) || !(cond v5 (v6 == a1) false)) (
let v7 : List UInt8 := (r2.getD ((0 : Int).toNat) S106.d).Raw
let v8 : Bool := (cond (cond v5 (v6 == a1) false) (v7 == a1) false)
some v8) none) none) none
def cssrule_plain.kr (w0 : World) (k : Nat) : St T → Option (Bool) := (retK (cfg w0 (tab43 k)) Tryd.f197.results.toList 0 [] io2.pat)
def cssrule_plain.cuts (w0 : World) (k : Nat) : Cuts T (Bool) := fun n => none
def cssrule_plain.body : Code := bodyOf Tryd.f197
theorem cssrule_plain.e (w0 : World) (k : Nat) : ∀ v, (fun v => cssrule_plain k v) v = runK (cfg w0 (tab43 k)) Tryd.f197.ntmps (cssrule_plain.kr w0 k) (annot (cssrule_plain.cuts w0 k) cssrule_plain.body) (entry (io1.enc v).1 (io1.enc v).2) (endK (cssrule_plain.kr w0 k)) := by
  intro v; kernel_rfl
theorem cssrule_plain.hb : Tryd.f197.body = some cssrule_plain.body := by kernel_rfl
def tab44 (k : Nat) : Tab T := addTab 197 (line io1 io2 false (fun v => cssrule_plain k v)) (tab43 k)
def strings_EqualFold (k : Nat) (a8 : List UInt8) (a9 : List UInt8) : Option (Bool) := foldS a8 a9
def tab45 (k : Nat) : Tab T := addTab 115 (line io0 io2 false (fun v => strings_EqualFold k v.1 v.2)) (tab44 k)
def cssrule_mark (k : Nat) (a1 : Int) (a2 : List UInt8) (a3 : List UInt8) (a4 : Int) : Option (Bool) :=
(cssrule_raw k a1 a2 a3 a4 (12 : Int) ([33] : List UInt8)).bind fun r5 =>
some r5
def cssrule_mark.kr (w0 : World) (k : Nat) : St T → Option (Bool) := (retK (cfg w0 (tab45 k)) Tryd.f207.results.toList 0 [] io2.pat)
def cssrule_mark.cuts (w0 : World) (k : Nat) : Cuts T (Bool) := fun n => none
def cssrule_mark.body : Code := bodyOf Tryd.f207
theorem cssrule_mark.e (w0 : World) (k : Nat) : ∀ v, (fun v => cssrule_mark k v.1 v.2.1 v.2.2.1 v.2.2.2) v = runK (cfg w0 (tab45 k)) Tryd.f207.ntmps (cssrule_mark.kr w0 k) (annot (cssrule_mark.cuts w0 k) cssrule_mark.body) (entry (io9.enc v).1 (io9.enc v).2) (endK (cssrule_mark.kr w0 k)) := by
  intro v; kernel_rfl
theorem cssrule_mark.hb : Tryd.f207.body = some cssrule_mark.body := by kernel_rfl
def tab46 (k : Nat) : Tab T := addTab 207 (line io9 io2 false (fun v => cssrule_mark k v.1 v.2.1 v.2.2.1 v.2.2.2)) (tab45 k)
def cssrule_important (k : Nat) (a1 : List S106) : Option ((List S106) × Bool) :=
(cssrule_solid k a1).bind fun r2 =>
let v3 : Int := (IntKind.wrap .i64 ((r2.length : Int) - (1 : Int)))
cond ((decide (0 ≤ v3 ∧ v3 < (r2.length : Int))) || !(!(decide (v3 < (1 : Int))))) (
let v4 : Bool := (((r2.getD v3.toNat S106.d).Kind) != (1 : Int))
let v5 : Bool := (cond (decide (v3 < (1 : Int))) true v4)
cond ((decide (0 ≤ v3 ∧ v3 < (r2.length : Int))) || !(!v5)) (
let v6 : List UInt8 := (r2.getD v3.toNat S106.d).Value
(cond (!v5) (strings_EqualFold k v6 ([105, 109, 112, 111, 114, 116, 97, 110, 116] : List UInt8)) (some false)).bind fun r7 =>
cond (cond v5 true (!r7)) (
some (r2, false)) (
cond (decide (0 ≤ v3 ∧ v3 ≤ (r2.length : Int))) (
(cssrule_solid k (r2.take v3.toNat)).bind fun r8 =>
let v9 : Bool := ((r8.length : Int) == (0 : Int))
let v10 : Int := (IntKind.wrap .i64 ((r8.length : Int) - (1 : Int)))
cond ((decide (0 ≤ v10 ∧ v10 < (r8.length : Int))) || !(!v9)) (
let v11 : Int := (r8.getD v10.toNat S106.d).Kind
let v12 : List UInt8 := (r8.getD v10.toNat S106.d).Value
(cond (!v9) (cssrule_mark k v11 ((r8.getD v10.toNat S106.d).Raw) v12 ((r8.getD v10.toNat S106.d).Num)) (some false)).bind fun r13 =>
cond (cond v9 true (!r13)) (
some (r2, false)) (
let v14 : Int := (IntKind.wrap .i64 ((r8.length : Int) - (1 : Int)))
cond (decide (0 ≤ v14 ∧ v14 ≤ (r8.length : Int))) (
(cssrule_solid k (r8.take v14.toNat)).bind fun r15 =>
some (r15, true)) none)) none) none)) none) none
def cssrule_important.kr (w0 : World) (k : Nat) : St T → Option ((List S106) × Bool) := (retK (cfg w0 (tab46 k)) Tryd.f198.results.toList 0 [] io55.pat)
def cssrule_important.cuts (w0 : World) (k : Nat) : Cuts T ((List S106) × Bool) := fun n => none
def cssrule_important.body : Code := bodyOf Tryd.f198
theorem cssrule_important.e (w0 : World) (k : Nat) : ∀ v, (fun v => cssrule_important k v) v = runK (cfg w0 (tab46 k)) Tryd.f198.ntmps (cssrule_important.kr w0 k) (annot (cssrule_important.cuts w0 k) cssrule_important.body) (entry (io37.enc v).1 (io37.enc v).2) (endK (cssrule_important.kr w0 k)) := by
  intro v; kernel_rfl
theorem cssrule_important.hb : Tryd.f198.body = some cssrule_important.body := by kernel_rfl
def tab47 (k : Nat) : Tab T := addTab 198 (line io37 io55 ([], false) (fun v => cssrule_important k v)) (tab46 k)
structure cssrule_fair.G.R where
  cssrule_fair : (List S106) → Option (Bool)
def cssrule_fair.c5 (k : Nat) (r : cssrule_fair.G.R) : Nat → (List S106) → Int → (Option (Bool)) → Option (Bool)
  | 0, _, _, _ => none
  | n + 1, x2, x3, k0 =>
    let v4 : Bool := (decide (x3 < (x2.length : Int)))
    cond v4 (
    cond (decide (0 ≤ x3 ∧ x3 < (x2.length : Int))) (
    let v5 : List UInt8 := (x2.getD x3.toNat S106.d).Value
    (cssrule_bad k ((x2.getD x3.toNat S106.d).Kind) ((x2.getD x3.toNat S106.d).Raw) v5 ((x2.getD x3.toNat S106.d).Num)).bind fun r6 =>
    (cond (!r6) (cssrule_brace k ((x2.getD x3.toNat S106.d).Kind) ((x2.getD x3.toNat S106.d).Raw) v5 ((x2.getD x3.toNat S106.d).Num)) (some false)).bind fun r7 =>
    let v8 : Bool := (((x2.getD x3.toNat S106.d).Kind) == (11 : Int))
    let v9 : Bool := (cond (cond r6 true r7) true v8)
    cond v9 (
    some false) (
    (cssrule_opens k ((x2.getD x3.toNat S106.d).Kind) ((x2.getD x3.toNat S106.d).Raw) v5 ((x2.getD x3.toNat S106.d).Num)).bind fun r10 =>
    cond r10 (
    (cssrule_block k x2 x3).bind fun r11 =>
    let v12 : Int := (IntKind.wrap .i64 (x3 + (1 : Int)))
    let v13 : Int := (IntKind.wrap .i64 (r11.1 - (1 : Int)))
    cond ((decide (0 ≤ v12 ∧ v12 ≤ v13 ∧ v13 ≤ (x2.length : Int))) || !(!(!r11.2))) (
    let v14 : List S106 := ((x2.take v13.toNat).drop v12.toNat)
    (cond (!(!r11.2)) (r.cssrule_fair v14) (some false)).bind fun r15 =>
    cond (cond (!r11.2) true (!r15)) (
    some false) (
    cssrule_fair.c5 k r n x2 r11.1 k0)) none) (
    let v16 : Int := (IntKind.wrap .i64 (x3 + (1 : Int)))
    cssrule_fair.c5 k r n x2 v16 k0))) none) (
    k0)
def cssrule_fair.nat (k : Nat) (r : cssrule_fair.G.R) (a1 : List S106) : Option (Bool) :=
cssrule_fair.c5 k r k a1 (0 : Int) (
some true)
def cssrule_fair.G.rec (k : Nat) : Nat → cssrule_fair.G.R
  | 0 => ⟨fun _ => none⟩
  | n + 1 => ⟨cssrule_fair.nat k (cssrule_fair.G.rec k n)⟩
def cssrule_fair (k : Nat) : (List S106) → Option (Bool) := (cssrule_fair.G.rec k k).cssrule_fair
def cssrule_fair.G.tab (k : Nat) (r : cssrule_fair.G.R) : Tab T := addTab 199 (line io37 io2 false (fun v => r.cssrule_fair v)) (tab47 k)
def cssrule_fair.kr (w0 : World) (k : Nat) (r : cssrule_fair.G.R) : St T → Option (Bool) := (retK (cfg w0 (cssrule_fair.G.tab k r)) Tryd.f199.results.toList 0 [] io2.pat)
def cssrule_fair.x5 : Ex → Option (List Nat × List Sp)
  | .exit 0 => some ([], [])
  | _ => none
def cssrule_fair.L5 (k : Nat) (r : cssrule_fair.G.R) (n : Nat) (v : (List S106) × Int) (K : Ex → St T → Option (Bool)) : Option (Bool) := cssrule_fair.c5 k r n v.1 v.2 ( K (.exit 0) (mkSt [] (io48.enc ())))
def cssrule_fair.cuts (w0 : World) (k : Nat) (r : cssrule_fair.G.R) : Cuts T (Bool) := fun n => bif n.beq 5 then some (entK (cfg w0 (cssrule_fair.G.tab k r)) 0 [0, 3] [] io41.pat (cssrule_fair.L5 k r k)) else none
def cssrule_fair.body : Code := bodyOf Tryd.f199
def cssrule_fair.b5 : Code := findD 5 cssrule_fair.body
theorem cssrule_fair.s5 (w0 : World) (k : Nat) (r : cssrule_fair.G.R) : ∀ n v K, cssrule_fair.L5 k r (n + 1) v K = runK (cfg w0 (cssrule_fair.G.tab k r)) Tryd.f199.ntmps (cssrule_fair.kr w0 k r) (annot (cssrule_fair.cuts w0 k r) cssrule_fair.b5) (mkSt [0, 3] (io41.enc v)) (loopK (cfg w0 (cssrule_fair.G.tab k r)) 0 cssrule_fair.x5 (entK (cfg w0 (cssrule_fair.G.tab k r)) 0 [0, 3] [] io41.pat (cssrule_fair.L5 k r n)) K) := by
  intro n v K; kernel_rfl
theorem cssrule_fair.e (w0 : World) (k : Nat) (r : cssrule_fair.G.R) : ∀ v, (fun v => cssrule_fair.nat k r v) v = runK (cfg w0 (cssrule_fair.G.tab k r)) Tryd.f199.ntmps (cssrule_fair.kr w0 k r) (annot (cssrule_fair.cuts w0 k r) cssrule_fair.body) (entry (io37.enc v).1 (io37.enc v).2) (endK (cssrule_fair.kr w0 k r)) := by
  intro v; kernel_rfl
theorem cssrule_fair.hb : Tryd.f199.body = some cssrule_fair.body := by kernel_rfl
def tab48 (k : Nat) : Tab T := cssrule_fair.G.tab k (cssrule_fair.G.rec k k)
def cssrule_decl.c16 (k : Nat) (x9 : List S106) (x10 : Bool) (x11 : List UInt8) (x12 : List UInt8) (x13 : Bool) (x14 : List UInt8) (x15 : List UInt8) (x16 : Bool)  : Option ((List UInt8) × (List UInt8) × Bool × Bool) :=
cond (decide (0 ≤ (1 : Int) ∧ (1 : Int) ≤ (x9.length : Int))) (
(cssrule_solid k (x9.drop (1 : Int).toNat)).bind fun r17 =>
let v18 : Bool := ((r17.length : Int) == (0 : Int))
cond ((decide (0 ≤ (0 : Int) ∧ (0 : Int) < (r17.length : Int))) || !(!v18)) (
let v19 : Int := (r17.getD ((0 : Int).toNat) S106.d).Kind
let v20 : List UInt8 := (r17.getD ((0 : Int).toNat) S106.d).Raw
let v21 : List UInt8 := (r17.getD ((0 : Int).toNat) S106.d).Value
let v22 : Int := (r17.getD ((0 : Int).toNat) S106.d).Num
(cond (!v18) (cssrule_colon k v19 v20 v21 v22) (some false)).bind fun r23 =>
(cond (!(cond v18 true (!r23))) (cssrule_plain k x14) (some false)).bind fun r24 =>
let v25 : Bool := (cond (cond v18 true (!r23)) true (!r24))
cond v25 (
some ([], [], false, false)) (
cond (decide (0 ≤ (1 : Int) ∧ (1 : Int) ≤ (r17.length : Int))) (
(cssrule_important k (r17.drop (1 : Int).toNat)).bind fun r26 =>
(cssrule_Head k r26.1).bind fun r27 =>
(cssrule_fair k r26.1).bind fun r28 =>
let v29 : Bool := (cond x10 true (!(r27 == ([] : List UInt8))))
some (x14, r27, r26.2, (cond r28 v29 false))) none)) none) none
def cssrule_decl (k : Nat) (a1 : List S106) : Option ((List UInt8) × (List UInt8) × Bool × Bool) :=
(cssrule_solid k a1).bind fun r2 =>
let v3 : Bool := ((r2.length : Int) == (0 : Int))
cond ((decide (0 ≤ (0 : Int) ∧ (0 : Int) < (r2.length : Int))) || !(!v3)) (
let v4 : Int := (r2.getD ((0 : Int).toNat) S106.d).Kind
let v5 : Bool := (cond v3 true (v4 != (1 : Int)))
cond v5 (
some ([], [], false, false)) (
cond (decide (0 ≤ (0 : Int) ∧ (0 : Int) < (r2.length : Int))) (
let v6 : List UInt8 := (r2.getD ((0 : Int).toNat) S106.d).Value
(strings_HasPrefix k v6 ([45, 45] : List UInt8)).bind fun r7 =>
cond (!r7) (
(cssrule_lower k v6).bind fun r8 =>
cssrule_decl.c16 k r2 r7 ([]) ([]) false r8 ([]) false) (
cssrule_decl.c16 k r2 r7 ([]) ([]) false v6 ([]) false)) none)) none
def cssrule_decl.kr (w0 : World) (k : Nat) : St T → Option ((List UInt8) × (List UInt8) × Bool × Bool) := (retK (cfg w0 (tab48 k)) Tryd.f164.results.toList 0 [] io56.pat)
def cssrule_decl.x16 : Ex → Option (List Nat × List Sp)
  | _ => none
def cssrule_decl.L16 (k : Nat) (v : (List S106) × Bool × (List UInt8) × (List UInt8) × Bool × (List UInt8) × (List UInt8) × Bool) (K : Ex → St T → Option ((List UInt8) × (List UInt8) × Bool × Bool)) : Option ((List UInt8) × (List UInt8) × Bool × Bool) := cssrule_decl.c16 k v.1 v.2.1 v.2.2.1 v.2.2.2.1 v.2.2.2.2.1 v.2.2.2.2.2.1 v.2.2.2.2.2.2.1 v.2.2.2.2.2.2.2
def cssrule_decl.cuts (w0 : World) (k : Nat) : Cuts T ((List UInt8) × (List UInt8) × Bool × Bool) := fun n => bif n.beq 16 then some (entK (cfg w0 (tab48 k)) 0 [0, 2, 4, 5] [] io57.pat (cssrule_decl.L16 k)) else none
def cssrule_decl.body : Code := bodyOf Tryd.f164
def cssrule_decl.b16 : Code := findD 16 cssrule_decl.body
theorem cssrule_decl.s16 (w0 : World) (k : Nat) : ∀ v K, cssrule_decl.L16 k v K = runK (cfg w0 (tab48 k)) Tryd.f164.ntmps (cssrule_decl.kr w0 k) (annot (cssrule_decl.cuts w0 k) cssrule_decl.b16) (mkSt [0, 2, 4, 5] (io57.enc v)) (outK (cfg w0 (tab48 k)) 0 cssrule_decl.x16 K) := by
  intro v K; kernel_rfl
theorem cssrule_decl.e (w0 : World) (k : Nat) : ∀ v, (fun v => cssrule_decl k v) v = runK (cfg w0 (tab48 k)) Tryd.f164.ntmps (cssrule_decl.kr w0 k) (annot (cssrule_decl.cuts w0 k) cssrule_decl.body) (entry (io37.enc v).1 (io37.enc v).2) (endK (cssrule_decl.kr w0 k)) := by
  intro v; kernel_rfl
theorem cssrule_decl.hb : Tryd.f164.body = some cssrule_decl.body := by kernel_rfl
def tab49 (k : Nat) : Tab T := addTab 164 (line io37 io56 ([], [], false, false) (fun v => cssrule_decl k v)) (tab48 k)
def cssrule_decls.c7 (k : Nat) : Nat → (List S106) → Int → (List S66) → ((List S66) → Option (List S66)) → Option (List S66)
  | 0, _, _, _, _ => none
  | n + 1, x2, x3, x4, k0 =>
    let v5 : Bool := (decide (x3 < (x2.length : Int)))
    cond v5 (
    (cssrule_find_v2 k x2 x3).bind fun r6 =>
    cond (decide (0 ≤ x3 ∧ x3 ≤ r6 ∧ r6 ≤ (x2.length : Int))) (
    let v7 : List S106 := ((x2.take r6.toNat).drop x3.toNat)
    (cssrule_decl k v7).bind fun r8 =>
    cond r8.2.2.2 (
    let v9 : List S66 := [(⟨r8.1, r8.2.1, r8.2.2.1⟩ : S66)]
    cond (decide ((x4 ++ v9).length < most)) (
    let v10 : Int := (IntKind.wrap .i64 (r6 + (1 : Int)))
    cssrule_decls.c7 k n x2 v10 (x4 ++ v9) k0) none) (
    let v11 : Int := (IntKind.wrap .i64 (r6 + (1 : Int)))
    cssrule_decls.c7 k n x2 v11 x4 k0)) none) (
    k0 x4)
def cssrule_decls (k : Nat) (a1 : List S106) : Option (List S66) :=
cssrule_decls.c7 k k a1 (0 : Int) ([] : List S66) (fun (y12 : List S66) =>
some y12)
def cssrule_decls.kr (w0 : World) (k : Nat) : St T → Option (List S66) := (retK (cfg w0 (tab49 k)) Tryd.f114.results.toList 0 [.own 0 66] io58.pat)
def cssrule_decls.x7 : Ex → Option (List Nat × List Sp)
  | .exit 0 => some ([3], [.own 3 66])
  | _ => none
def cssrule_decls.L7 (k : Nat) (n : Nat) (v : (List S106) × Int × (List S66)) (K : Ex → St T → Option (List S66)) : Option (List S66) := cssrule_decls.c7 k n v.1 v.2.1 v.2.2 (fun y50 => K (.exit 0) (mkSt [3] (io58.enc y50)))
def cssrule_decls.cuts (w0 : World) (k : Nat) : Cuts T (List S66) := fun n => bif n.beq 7 then some (entK (cfg w0 (tab49 k)) 0 [0, 3, 4] [.own 3 66] io59.pat (cssrule_decls.L7 k k)) else none
def cssrule_decls.body : Code := bodyOf Tryd.f114
def cssrule_decls.b7 : Code := findD 7 cssrule_decls.body
theorem cssrule_decls.s7 (w0 : World) (k : Nat) : ∀ n v K, cssrule_decls.L7 k (n + 1) v K = runK (cfg w0 (tab49 k)) Tryd.f114.ntmps (cssrule_decls.kr w0 k) (annot (cssrule_decls.cuts w0 k) cssrule_decls.b7) (mkSt [0, 3, 4] (io59.enc v)) (loopK (cfg w0 (tab49 k)) 0 cssrule_decls.x7 (entK (cfg w0 (tab49 k)) 0 [0, 3, 4] [.own 3 66] io59.pat (cssrule_decls.L7 k n)) K) := by
  intro n v K; kernel_rfl
theorem cssrule_decls.e (w0 : World) (k : Nat) : ∀ v, (fun v => cssrule_decls k v) v = runK (cfg w0 (tab49 k)) Tryd.f114.ntmps (cssrule_decls.kr w0 k) (annot (cssrule_decls.cuts w0 k) cssrule_decls.body) (entry (io37.enc v).1 (io37.enc v).2) (endK (cssrule_decls.kr w0 k)) := by
  intro v; kernel_rfl
theorem cssrule_decls.hb : Tryd.f114.body = some cssrule_decls.body := by kernel_rfl
def tab50 (k : Nat) : Tab T := addTab 114 (line io37 io58 [] (fun v => cssrule_decls k v)) (tab49 k)
structure cssrule_rules.G.R where
  cssrule_rule : (List S106) → (List S106) → Int → Option (Bool × (List UInt8) × (List S66) × (List S38) × Bool)
  cssrule_rules : (List S106) → Int → Option (List S38)
def cssrule_rule.nat (k : Nat) (r : cssrule_rules.G.R) (a1 : List S106) (a2 : List S106) (a3 : Int) : Option (Bool × (List UInt8) × (List S66) × (List S38) × Bool) :=
(api_SToken_ k a1).bind fun r4 =>
cond r4 (
some (false, [], ([] : List S66), ([] : List S38), false)) (
let v5 : Bool := ((a1.length : Int) == (0 : Int))
cond ((decide (0 ≤ (0 : Int) ∧ (0 : Int) < (a1.length : Int))) || !(!v5)) (
let v6 : Int := (a1.getD ((0 : Int).toNat) S106.d).Kind
let v7 : Bool := (cond v5 true (v6 != (3 : Int)))
cond v7 (
(cssrule_Head k a1).bind fun r8 =>
(cssrule_decls k a2).bind fun r9 =>
some (false, r8, r9, ([] : List S38), true)) (
cond (decide (0 ≤ (0 : Int) ∧ (0 : Int) < (a1.length : Int))) (
let v10 : List UInt8 := (a1.getD ((0 : Int).toNat) S106.d).Value
(strings_EqualFold k v10 ([109, 101, 100, 105, 97] : List UInt8)).bind fun r11 =>
let v12 : Bool := (cond (!r11) true (decide (a3 ≥ (3 : Int))))
cond v12 (
some (false, [], ([] : List S66), ([] : List S38), false)) (
cond (decide (0 ≤ (1 : Int) ∧ (1 : Int) ≤ (a1.length : Int))) (
(cssrule_Head k (a1.drop (1 : Int).toNat)).bind fun r13 =>
let v14 : Int := (IntKind.wrap .i64 (a3 + (1 : Int)))
(r.cssrule_rules a2 v14).bind fun r15 =>
some (true, r13, ([] : List S66), r15, true)) none)) none)) none)
def cssrule_rules.c32 (k : Nat) (r : cssrule_rules.G.R) (x22 : List S106) (x23 : Int) (x24 : Int) (x25 : Int) (x26 : List S106) (x27 : List S38) (kn : (List S106) → Int → Int → (List S38) → Option (List S38)) : Option (List S38) :=
cond (decide (0 ≤ x24 ∧ x24 ≤ (x22.length : Int))) (
(r.cssrule_rule (x22.take x24.toNat) x26 x23).bind fun r28 =>
cond r28.2.2.2.2 (
let v16 : List S38 := [(⟨r28.1, r28.2.1, r28.2.2.1, r28.2.2.2.1⟩ : S38)]
cond (decide ((x27 ++ v16).length < most)) (
kn x22 x23 x25 (x27 ++ v16)) none) (
kn x22 x23 x25 x27)) none
def cssrule_rules.c38 (k : Nat) (r : cssrule_rules.G.R) (x21 : List S106) (x22 : Int) (x23 : Int) (x24 : List S38) (kn : (List S106) → Int → (List S38) → Option (List S38)) : Option (List S38) :=
cond (decide (0 ≤ x23 ∧ x23 ≤ (x21.length : Int))) (
kn (x21.drop x23.toNat) x22 x24) none
def cssrule_rules.c5 (k : Nat) (r : cssrule_rules.G.R) : Nat → (List S106) → Int → (List S38) → Option (List S38)
  | 0, _, _, _ => none
  | n + 1, x3, x4, x5 =>
    (cssrule_solid k x3).bind fun r6 =>
    let v7 : Bool := ((r6.length : Int) == (0 : Int))
    cond v7 (
    some x5) (
    cond (decide (0 ≤ (0 : Int) ∧ (0 : Int) < (r6.length : Int))) (
    let v8 : Int := (r6.getD ((0 : Int).toNat) S106.d).Kind
    (cssrule_find k r6 (0 : Int) (v8 == (3 : Int))).bind fun r9 =>
    cond (r9.1 == (r6.length : Int)) (
    some x5) (
    let v10 : Int := (IntKind.wrap .i64 (r9.1 + (1 : Int)))
    cond (decide (0 ≤ r9.1 ∧ r9.1 < (r6.length : Int))) (
    let v11 : Int := (r6.getD r9.1.toNat S106.d).Kind
    let v12 : List UInt8 := (r6.getD r9.1.toNat S106.d).Raw
    let v13 : List UInt8 := (r6.getD r9.1.toNat S106.d).Value
    let v14 : Int := (r6.getD r9.1.toNat S106.d).Num
    (cssrule_brace k v11 v12 v13 v14).bind fun r15 =>
    cond r15 (
    (cssrule_block k r6 r9.1).bind fun r16 =>
    let v17 : Int := (IntKind.wrap .i64 (r9.1 + (1 : Int)))
    cond (decide (0 ≤ v17 ∧ v17 ≤ r16.1 ∧ r16.1 ≤ (r6.length : Int))) (
    let v18 : List S106 := ((r6.take r16.1.toNat).drop v17.toNat)
    cond r16.2 (
    let v19 : Int := (IntKind.wrap .i64 (r9.1 + (1 : Int)))
    let v20 : Int := (IntKind.wrap .i64 (r16.1 - (1 : Int)))
    cond (decide (0 ≤ v19 ∧ v19 ≤ v20 ∧ v20 ≤ (r6.length : Int))) (
    let v21 : List S106 := ((r6.take v20.toNat).drop v19.toNat)
    cssrule_rules.c32 k r r6 x4 r9.1 r16.1 v21 x5 (fun (y17 : List S106) (y18 : Int) (y19 : Int) (y20 : List S38) =>
    cssrule_rules.c38 k r y17 y18 y19 y20 (fun (y25 : List S106) (y26 : Int) (y27 : List S38) =>
    cssrule_rules.c5 k r n y25 y26 y27))) none) (
    cssrule_rules.c32 k r r6 x4 r9.1 r16.1 v18 x5 (fun (y28 : List S106) (y29 : Int) (y30 : Int) (y31 : List S38) =>
    cssrule_rules.c38 k r y28 y29 y30 y31 (fun (y32 : List S106) (y33 : Int) (y34 : List S38) =>
    cssrule_rules.c5 k r n y32 y33 y34)))) none) (
    cssrule_rules.c38 k r r6 x4 v10 x5 (fun (y35 : List S106) (y36 : Int) (y37 : List S38) =>
    cssrule_rules.c5 k r n y35 y36 y37))) none)) none)
def cssrule_rules.nat (k : Nat) (r : cssrule_rules.G.R) (a1 : List S106) (a2 : Int) : Option (List S38) :=
cssrule_rules.c5 k r k a1 a2 ([] : List S38)
def cssrule_rules.G.rec (k : Nat) : Nat → cssrule_rules.G.R
  | 0 => ⟨fun _ _ _ => none, fun _ _ => none⟩
  | n + 1 => ⟨cssrule_rule.nat k (cssrule_rules.G.rec k n), cssrule_rules.nat k (cssrule_rules.G.rec k n)⟩
def cssrule_rule (k : Nat) : (List S106) → (List S106) → Int → Option (Bool × (List UInt8) × (List S66) × (List S38) × Bool) := (cssrule_rules.G.rec k k).cssrule_rule
def cssrule_rules (k : Nat) : (List S106) → Int → Option (List S38) := (cssrule_rules.G.rec k k).cssrule_rules
def cssrule_rules.G.tab (k : Nat) (r : cssrule_rules.G.R) : Tab T := addTab 33 (line io41 io62 [] (fun v => r.cssrule_rules v.1 v.2)) (addTab 74 (line io60 io61 (false, [], [], [], false) (fun v => r.cssrule_rule v.1 v.2.1 v.2.2)) (tab50 k))
def cssrule_rule.kr (w0 : World) (k : Nat) (r : cssrule_rules.G.R) : St T → Option (Bool × (List UInt8) × (List S66) × (List S38) × Bool) := (retK (cfg w0 (cssrule_rules.G.tab k r)) Tryd.f74.results.toList 0 [.agg 0 38] io61.pat)
def cssrule_rule.cuts (w0 : World) (k : Nat) (r : cssrule_rules.G.R) : Cuts T (Bool × (List UInt8) × (List S66) × (List S38) × Bool) := fun n => none
def cssrule_rule.body : Code := bodyOf Tryd.f74
theorem cssrule_rule.e (w0 : World) (k : Nat) (r : cssrule_rules.G.R) : ∀ v, (fun v => cssrule_rule.nat k r v.1 v.2.1 v.2.2) v = runK (cfg w0 (cssrule_rules.G.tab k r)) Tryd.f74.ntmps (cssrule_rule.kr w0 k r) (annot (cssrule_rule.cuts w0 k r) cssrule_rule.body) (entry (io60.enc v).1 (io60.enc v).2) (endK (cssrule_rule.kr w0 k r)) := by
  intro v; kernel_rfl
theorem cssrule_rule.hb : Tryd.f74.body = some cssrule_rule.body := by kernel_rfl
def cssrule_rules.kr (w0 : World) (k : Nat) (r : cssrule_rules.G.R) : St T → Option (List S38) := (retK (cfg w0 (cssrule_rules.G.tab k r)) Tryd.f33.results.toList 0 [.own 0 38] io62.pat)
def cssrule_rules.x32 : Ex → Option (List Nat × List Sp)
  | .norm => some ([0, 1, 5, 8], [.own 5 38])
  | _ => none
def cssrule_rules.L32 (k : Nat) (r : cssrule_rules.G.R) (v : (List S106) × Int × Int × Int × (List S106) × (List S38)) (K : Ex → St T → Option (List S38)) : Option (List S38) := cssrule_rules.c32 k r v.1 v.2.1 v.2.2.1 v.2.2.2.1 v.2.2.2.2.1 v.2.2.2.2.2 (fun y51 y52 y53 y54 => K .norm (mkSt [0, 1, 5, 8] (io64.enc (y51, y52, y53, y54))))
def cssrule_rules.x38 : Ex → Option (List Nat × List Sp)
  | .norm => some ([0, 1, 5], [])
  | _ => none
def cssrule_rules.L38 (k : Nat) (r : cssrule_rules.G.R) (v : (List S106) × Int × Int × (List S38)) (K : Ex → St T → Option (List S38)) : Option (List S38) := cssrule_rules.c38 k r v.1 v.2.1 v.2.2.1 v.2.2.2 (fun y55 y56 y57 => K .norm (mkSt [0, 1, 5] (io65.enc (y55, y56, y57))))
def cssrule_rules.x5 : Ex → Option (List Nat × List Sp)
  | _ => none
def cssrule_rules.L5 (k : Nat) (r : cssrule_rules.G.R) (n : Nat) (v : (List S106) × Int × (List S38)) (K : Ex → St T → Option (List S38)) : Option (List S38) := cssrule_rules.c5 k r n v.1 v.2.1 v.2.2
def cssrule_rules.cuts (w0 : World) (k : Nat) (r : cssrule_rules.G.R) : Cuts T (List S38) := fun n => bif n.beq 32 then some (entK (cfg w0 (cssrule_rules.G.tab k r)) 0 [0, 1, 5, 7, 8, 10] [.own 5 38] io63.pat (cssrule_rules.L32 k r)) else bif n.beq 38 then some (entK (cfg w0 (cssrule_rules.G.tab k r)) 0 [0, 1, 5, 8] [.own 5 38] io64.pat (cssrule_rules.L38 k r)) else bif n.beq 5 then some (entK (cfg w0 (cssrule_rules.G.tab k r)) 0 [0, 1, 5] [.own 5 38] io65.pat (cssrule_rules.L5 k r k)) else none
def cssrule_rules.body : Code := bodyOf Tryd.f33
def cssrule_rules.b32 : Code := findD 32 cssrule_rules.body
theorem cssrule_rules.s32 (w0 : World) (k : Nat) (r : cssrule_rules.G.R) : ∀ v K, cssrule_rules.L32 k r v K = runK (cfg w0 (cssrule_rules.G.tab k r)) Tryd.f33.ntmps (cssrule_rules.kr w0 k r) (annot (cssrule_rules.cuts w0 k r) cssrule_rules.b32) (mkSt [0, 1, 5, 7, 8, 10] (io63.enc v)) (outK (cfg w0 (cssrule_rules.G.tab k r)) 0 cssrule_rules.x32 K) := by
  intro v K; kernel_rfl
def cssrule_rules.b38 : Code := findD 38 cssrule_rules.body
theorem cssrule_rules.s38 (w0 : World) (k : Nat) (r : cssrule_rules.G.R) : ∀ v K, cssrule_rules.L38 k r v K = runK (cfg w0 (cssrule_rules.G.tab k r)) Tryd.f33.ntmps (cssrule_rules.kr w0 k r) (annot (cssrule_rules.cuts w0 k r) cssrule_rules.b38) (mkSt [0, 1, 5, 8] (io64.enc v)) (outK (cfg w0 (cssrule_rules.G.tab k r)) 0 cssrule_rules.x38 K) := by
  intro v K; kernel_rfl
def cssrule_rules.b5 : Code := findD 5 cssrule_rules.body
theorem cssrule_rules.s5 (w0 : World) (k : Nat) (r : cssrule_rules.G.R) : ∀ n v K, cssrule_rules.L5 k r (n + 1) v K = runK (cfg w0 (cssrule_rules.G.tab k r)) Tryd.f33.ntmps (cssrule_rules.kr w0 k r) (annot (cssrule_rules.cuts w0 k r) cssrule_rules.b5) (mkSt [0, 1, 5] (io65.enc v)) (loopK (cfg w0 (cssrule_rules.G.tab k r)) 0 cssrule_rules.x5 (entK (cfg w0 (cssrule_rules.G.tab k r)) 0 [0, 1, 5] [.own 5 38] io65.pat (cssrule_rules.L5 k r n)) K) := by
  intro n v K; kernel_rfl
theorem cssrule_rules.e (w0 : World) (k : Nat) (r : cssrule_rules.G.R) : ∀ v, (fun v => cssrule_rules.nat k r v.1 v.2) v = runK (cfg w0 (cssrule_rules.G.tab k r)) Tryd.f33.ntmps (cssrule_rules.kr w0 k r) (annot (cssrule_rules.cuts w0 k r) cssrule_rules.body) (entry (io41.enc v).1 (io41.enc v).2) (endK (cssrule_rules.kr w0 k r)) := by
  intro v; kernel_rfl
theorem cssrule_rules.hb : Tryd.f33.body = some cssrule_rules.body := by kernel_rfl
def tab51 (k : Nat) : Tab T := cssrule_rules.G.tab k (cssrule_rules.G.rec k k)
structure cssrule_many.G.R where
  cssrule_many : (List S38) → Option (Int × Bool)
def cssrule_many.c7 (k : Nat) (r : cssrule_many.G.R) : Nat → Int → (List S38) → Int → Int → (Int → Option (Int × Bool)) → Option (Int × Bool)
  | 0, _, _, _, _, _ => none
  | n + 1, x2, x3, x4, x5, k0 =>
    cond (decide (x5 < x4)) (
    cond (decide (0 ≤ x5 ∧ x5 < (x3.length : Int))) (
    (r.cssrule_many ((x3.getD x5.toNat S38.d).Rules)).bind fun r6 =>
    let v7 : Int := (IntKind.wrap .i64 (x2 + r6.1))
    let v8 : Int := (((x3.getD x5.toNat S38.d).Decls).length : Int)
    let v9 : Bool := (cond r6.2 true (decide (v8 > (30 : Int))))
    cond v9 (
    some (v7, true)) (
    let v10 : Int := (IntKind.wrap .i64 (x5 + (1 : Int)))
    cssrule_many.c7 k r n v7 x3 x4 v10 k0)) none) (
    k0 x2)
def cssrule_many.nat (k : Nat) (r : cssrule_many.G.R) (a1 : List S38) : Option (Int × Bool) :=
cssrule_many.c7 k r k (a1.length : Int) a1 (a1.length : Int) (0 : Int) (fun (y11 : Int) =>
some (y11, false))
def cssrule_many.G.rec (k : Nat) : Nat → cssrule_many.G.R
  | 0 => ⟨fun _ => none⟩
  | n + 1 => ⟨cssrule_many.nat k (cssrule_many.G.rec k n)⟩
def cssrule_many (k : Nat) : (List S38) → Option (Int × Bool) := (cssrule_many.G.rec k k).cssrule_many
def cssrule_many.G.tab (k : Nat) (r : cssrule_many.G.R) : Tab T := addTab 35 (line io66 io42 ((0 : Int), false) (fun v => r.cssrule_many v)) (tab51 k)
def cssrule_many.kr (w0 : World) (k : Nat) (r : cssrule_many.G.R) : St T → Option (Int × Bool) := (retK (cfg w0 (cssrule_many.G.tab k r)) Tryd.f35.results.toList 0 [] io42.pat)
def cssrule_many.x7 : Ex → Option (List Nat × List Sp)
  | .exit 0 => some ([4], [])
  | _ => none
def cssrule_many.L7 (k : Nat) (r : cssrule_many.G.R) (n : Nat) (v : Int × (List S38) × Int × Int) (K : Ex → St T → Option (Int × Bool)) : Option (Int × Bool) := cssrule_many.c7 k r n v.1 v.2.1 v.2.2.1 v.2.2.2 (fun y58 => K (.exit 0) (mkSt [4] (io4.enc y58)))
def cssrule_many.cuts (w0 : World) (k : Nat) (r : cssrule_many.G.R) : Cuts T (Int × Bool) := fun n => bif n.beq 7 then some (entK (cfg w0 (cssrule_many.G.tab k r)) 0 [4, 11, 12, 13] [] io67.pat (cssrule_many.L7 k r k)) else none
def cssrule_many.body : Code := bodyOf Tryd.f35
def cssrule_many.b7 : Code := findD 7 cssrule_many.body
theorem cssrule_many.s7 (w0 : World) (k : Nat) (r : cssrule_many.G.R) : ∀ n v K, cssrule_many.L7 k r (n + 1) v K = runK (cfg w0 (cssrule_many.G.tab k r)) Tryd.f35.ntmps (cssrule_many.kr w0 k r) (annot (cssrule_many.cuts w0 k r) cssrule_many.b7) (mkSt [4, 11, 12, 13] (io67.enc v)) (loopK (cfg w0 (cssrule_many.G.tab k r)) 0 cssrule_many.x7 (entK (cfg w0 (cssrule_many.G.tab k r)) 0 [4, 11, 12, 13] [] io67.pat (cssrule_many.L7 k r n)) K) := by
  intro n v K; kernel_rfl
theorem cssrule_many.e (w0 : World) (k : Nat) (r : cssrule_many.G.R) : ∀ v, (fun v => cssrule_many.nat k r v) v = runK (cfg w0 (cssrule_many.G.tab k r)) Tryd.f35.ntmps (cssrule_many.kr w0 k r) (annot (cssrule_many.cuts w0 k r) cssrule_many.body) (entry (io66.enc v).1 (io66.enc v).2) (endK (cssrule_many.kr w0 k r)) := by
  intro v; kernel_rfl
theorem cssrule_many.hb : Tryd.f35.body = some cssrule_many.body := by kernel_rfl
def tab52 (k : Nat) : Tab T := cssrule_many.G.tab k (cssrule_many.G.rec k k)
def cssrule_Parse (k : Nat) (a1 : List UInt8) : Option (Int × (List S38)) :=
let v2 : Bool := (decide ((a1.length : Int) > (3000 : Int)))
cond v2 (
some ((2 : Int), ([] : List S38))) (
(csstok_Cut k a1).bind fun r3 =>
(cssrule_rules k r3 (0 : Int)).bind fun r4 =>
(cssrule_many k r4).bind fun r5 =>
let v6 : Bool := (cond r5.2 true (decide (r5.1 > (60 : Int))))
cond v6 (
some ((2 : Int), ([] : List S38))) (
some ((0 : Int), r4)))
def cssrule_Parse.kr (w0 : World) (k : Nat) : St T → Option (Int × (List S38)) := (retK (cfg w0 (tab52 k)) Tryd.f14.results.toList 0 [.own 0 38] io68.pat)
def cssrule_Parse.cuts (w0 : World) (k : Nat) : Cuts T (Int × (List S38)) := fun n => none
def cssrule_Parse.body : Code := bodyOf Tryd.f14
theorem cssrule_Parse.e (w0 : World) (k : Nat) : ∀ v, (fun v => cssrule_Parse k v) v = runK (cfg w0 (tab52 k)) Tryd.f14.ntmps (cssrule_Parse.kr w0 k) (annot (cssrule_Parse.cuts w0 k) cssrule_Parse.body) (entry (io1.enc v).1 (io1.enc v).2) (endK (cssrule_Parse.kr w0 k)) := by
  intro v; kernel_rfl
theorem cssrule_Parse.hb : Tryd.f14.body = some cssrule_Parse.body := by kernel_rfl
def tab53 (k : Nat) : Tab T := addTab 14 (line io1 io68 ((0 : Int), []) (fun v => cssrule_Parse k v)) (tab52 k)
def clerestorykeep2_sameDecls.c9 (k : Nat) : Nat → (List S66) → (List S66) → Int → (Option (Bool)) → Option (Bool)
  | 0, _, _, _, _ => none
  | n + 1, x4, x5, x6, k0 =>
    let v7 : Bool := (decide (x6 < (x4.length : Int)))
    cond v7 (
    cond (decide (0 ≤ x6 ∧ x6 < (x4.length : Int))) (
    let v8 : Bool := (x4.getD x6.toNat S66.d).Important
    cond (decide (0 ≤ x6 ∧ x6 < (x5.length : Int))) (
    let v9 : Bool := (x5.getD x6.toNat S66.d).Important
    let v10 : Bool := (!((((x4.getD x6.toNat S66.d).Name) == ((x5.getD x6.toNat S66.d).Name)) && ((((x4.getD x6.toNat S66.d).Value) == ((x5.getD x6.toNat S66.d).Value)) && ((v8 == v9) && true))))
    cond v10 (
    some false) (
    let v11 : Int := (IntKind.wrap .i64 (x6 + (1 : Int)))
    clerestorykeep2_sameDecls.c9 k n x4 x5 v11 k0)) none) none) (
    k0)
def clerestorykeep2_sameDecls (k : Nat) (a1 : List S66) (a2 : List S66) : Option (Bool) :=
let v3 : Bool := ((a1.length : Int) != (a2.length : Int))
cond v3 (
some false) (
clerestorykeep2_sameDecls.c9 k k a1 a2 (0 : Int) (
some true))
def clerestorykeep2_sameDecls.kr (w0 : World) (k : Nat) : St T → Option (Bool) := (retK (cfg w0 (tab53 k)) Tryd.f36.results.toList 0 [] io2.pat)
def clerestorykeep2_sameDecls.x9 : Ex → Option (List Nat × List Sp)
  | .exit 0 => some ([], [])
  | _ => none
def clerestorykeep2_sameDecls.L9 (k : Nat) (n : Nat) (v : (List S66) × (List S66) × Int) (K : Ex → St T → Option (Bool)) : Option (Bool) := clerestorykeep2_sameDecls.c9 k n v.1 v.2.1 v.2.2 ( K (.exit 0) (mkSt [] (io48.enc ())))
def clerestorykeep2_sameDecls.cuts (w0 : World) (k : Nat) : Cuts T (Bool) := fun n => bif n.beq 9 then some (entK (cfg w0 (tab53 k)) 0 [0, 1, 5] [] io70.pat (clerestorykeep2_sameDecls.L9 k k)) else none
def clerestorykeep2_sameDecls.body : Code := bodyOf Tryd.f36
def clerestorykeep2_sameDecls.b9 : Code := findD 9 clerestorykeep2_sameDecls.body
theorem clerestorykeep2_sameDecls.s9 (w0 : World) (k : Nat) : ∀ n v K, clerestorykeep2_sameDecls.L9 k (n + 1) v K = runK (cfg w0 (tab53 k)) Tryd.f36.ntmps (clerestorykeep2_sameDecls.kr w0 k) (annot (clerestorykeep2_sameDecls.cuts w0 k) clerestorykeep2_sameDecls.b9) (mkSt [0, 1, 5] (io70.enc v)) (loopK (cfg w0 (tab53 k)) 0 clerestorykeep2_sameDecls.x9 (entK (cfg w0 (tab53 k)) 0 [0, 1, 5] [] io70.pat (clerestorykeep2_sameDecls.L9 k n)) K) := by
  intro n v K; kernel_rfl
theorem clerestorykeep2_sameDecls.e (w0 : World) (k : Nat) : ∀ v, (fun v => clerestorykeep2_sameDecls k v.1 v.2) v = runK (cfg w0 (tab53 k)) Tryd.f36.ntmps (clerestorykeep2_sameDecls.kr w0 k) (annot (clerestorykeep2_sameDecls.cuts w0 k) clerestorykeep2_sameDecls.body) (entry (io69.enc v).1 (io69.enc v).2) (endK (clerestorykeep2_sameDecls.kr w0 k)) := by
  intro v; kernel_rfl
theorem clerestorykeep2_sameDecls.hb : Tryd.f36.body = some clerestorykeep2_sameDecls.body := by kernel_rfl
def tab54 (k : Nat) : Tab T := addTab 36 (line io69 io2 false (fun v => clerestorykeep2_sameDecls k v.1 v.2)) (tab53 k)
structure clerestorykeep2_sameRules.G.R where
  clerestorykeep2_sameRules : (List S38) → (List S38) → Option (Bool)
def clerestorykeep2_sameRules.c9 (k : Nat) (r : clerestorykeep2_sameRules.G.R) : Nat → (List S38) → (List S38) → Int → (Option (Bool)) → Option (Bool)
  | 0, _, _, _, _ => none
  | n + 1, x4, x5, x6, k0 =>
    let v7 : Bool := (decide (x6 < (x4.length : Int)))
    cond v7 (
    cond (decide (0 ≤ x6 ∧ x6 < (x4.length : Int))) (
    cond (decide (0 ≤ x6 ∧ x6 < (x5.length : Int))) (
    let v8 : Bool := (!(((x4.getD x6.toNat S38.d).Media) == ((x5.getD x6.toNat S38.d).Media)))
    cond ((decide (0 ≤ x6 ∧ x6 < (x4.length : Int))) || !(!v8)) (
    cond ((decide (0 ≤ x6 ∧ x6 < (x5.length : Int))) || !(!v8)) (
    let v9 : Bool := (!(((x4.getD x6.toNat S38.d).Head) == ((x5.getD x6.toNat S38.d).Head)))
    cond ((decide (0 ≤ x6 ∧ x6 < (x4.length : Int))) || !(!(cond v8 true v9))) (
    cond ((decide (0 ≤ x6 ∧ x6 < (x5.length : Int))) || !(!(cond v8 true v9))) (
    (cond (!(cond v8 true v9)) (clerestorykeep2_sameDecls k ((x4.getD x6.toNat S38.d).Decls) ((x5.getD x6.toNat S38.d).Decls)) (some false)).bind fun r10 =>
    let v11 : Bool := (cond (cond v8 true v9) true (!r10))
    cond ((decide (0 ≤ x6 ∧ x6 < (x4.length : Int))) || !(!v11)) (
    cond ((decide (0 ≤ x6 ∧ x6 < (x5.length : Int))) || !(!v11)) (
    (cond (!v11) (r.clerestorykeep2_sameRules ((x4.getD x6.toNat S38.d).Rules) ((x5.getD x6.toNat S38.d).Rules)) (some false)).bind fun r12 =>
    cond (cond v11 true (!r12)) (
    some false) (
    let v13 : Int := (IntKind.wrap .i64 (x6 + (1 : Int)))
    clerestorykeep2_sameRules.c9 k r n x4 x5 v13 k0)) none) none) none) none) none) none) none) none) (
    k0)
def clerestorykeep2_sameRules.nat (k : Nat) (r : clerestorykeep2_sameRules.G.R) (a1 : List S38) (a2 : List S38) : Option (Bool) :=
let v3 : Bool := ((a1.length : Int) != (a2.length : Int))
cond v3 (
some false) (
clerestorykeep2_sameRules.c9 k r k a1 a2 (0 : Int) (
some true))
def clerestorykeep2_sameRules.G.rec (k : Nat) : Nat → clerestorykeep2_sameRules.G.R
  | 0 => ⟨fun _ _ => none⟩
  | n + 1 => ⟨clerestorykeep2_sameRules.nat k (clerestorykeep2_sameRules.G.rec k n)⟩
def clerestorykeep2_sameRules (k : Nat) : (List S38) → (List S38) → Option (Bool) := (clerestorykeep2_sameRules.G.rec k k).clerestorykeep2_sameRules
def clerestorykeep2_sameRules.G.tab (k : Nat) (r : clerestorykeep2_sameRules.G.R) : Tab T := addTab 15 (line io71 io2 false (fun v => r.clerestorykeep2_sameRules v.1 v.2)) (tab54 k)
def clerestorykeep2_sameRules.kr (w0 : World) (k : Nat) (r : clerestorykeep2_sameRules.G.R) : St T → Option (Bool) := (retK (cfg w0 (clerestorykeep2_sameRules.G.tab k r)) Tryd.f15.results.toList 0 [] io2.pat)
def clerestorykeep2_sameRules.x9 : Ex → Option (List Nat × List Sp)
  | .exit 0 => some ([], [])
  | _ => none
def clerestorykeep2_sameRules.L9 (k : Nat) (r : clerestorykeep2_sameRules.G.R) (n : Nat) (v : (List S38) × (List S38) × Int) (K : Ex → St T → Option (Bool)) : Option (Bool) := clerestorykeep2_sameRules.c9 k r n v.1 v.2.1 v.2.2 ( K (.exit 0) (mkSt [] (io48.enc ())))
def clerestorykeep2_sameRules.cuts (w0 : World) (k : Nat) (r : clerestorykeep2_sameRules.G.R) : Cuts T (Bool) := fun n => bif n.beq 9 then some (entK (cfg w0 (clerestorykeep2_sameRules.G.tab k r)) 0 [0, 1, 5] [] io72.pat (clerestorykeep2_sameRules.L9 k r k)) else none
def clerestorykeep2_sameRules.body : Code := bodyOf Tryd.f15
def clerestorykeep2_sameRules.b9 : Code := findD 9 clerestorykeep2_sameRules.body
theorem clerestorykeep2_sameRules.s9 (w0 : World) (k : Nat) (r : clerestorykeep2_sameRules.G.R) : ∀ n v K, clerestorykeep2_sameRules.L9 k r (n + 1) v K = runK (cfg w0 (clerestorykeep2_sameRules.G.tab k r)) Tryd.f15.ntmps (clerestorykeep2_sameRules.kr w0 k r) (annot (clerestorykeep2_sameRules.cuts w0 k r) clerestorykeep2_sameRules.b9) (mkSt [0, 1, 5] (io72.enc v)) (loopK (cfg w0 (clerestorykeep2_sameRules.G.tab k r)) 0 clerestorykeep2_sameRules.x9 (entK (cfg w0 (clerestorykeep2_sameRules.G.tab k r)) 0 [0, 1, 5] [] io72.pat (clerestorykeep2_sameRules.L9 k r n)) K) := by
  intro n v K; kernel_rfl
theorem clerestorykeep2_sameRules.e (w0 : World) (k : Nat) (r : clerestorykeep2_sameRules.G.R) : ∀ v, (fun v => clerestorykeep2_sameRules.nat k r v.1 v.2) v = runK (cfg w0 (clerestorykeep2_sameRules.G.tab k r)) Tryd.f15.ntmps (clerestorykeep2_sameRules.kr w0 k r) (annot (clerestorykeep2_sameRules.cuts w0 k r) clerestorykeep2_sameRules.body) (entry (io71.enc v).1 (io71.enc v).2) (endK (clerestorykeep2_sameRules.kr w0 k r)) := by
  intro v; kernel_rfl
theorem clerestorykeep2_sameRules.hb : Tryd.f15.body = some clerestorykeep2_sameRules.body := by kernel_rfl
def tab55 (k : Nat) : Tab T := clerestorykeep2_sameRules.G.tab k (clerestorykeep2_sameRules.G.rec k k)
def clerestorykeep2_ruleFact (k : Nat)  : Option (Bool) :=
(cssrule_Parse k ([97, 32, 123, 32, 98, 58, 32, 99, 32, 125] : List UInt8)).bind fun r1 =>
cond (r1.1 == (0 : Int)) (
let v2 : List S66 := [(⟨([98] : List UInt8), ([99] : List UInt8), false⟩ : S66)]
cond (r1.1 == (0 : Int)) (
let v3 : List S38 := [(⟨false, ([97] : List UInt8), v2, []⟩ : S38)]
(cond (r1.1 == (0 : Int)) (clerestorykeep2_sameRules k r1.2 v3) (some false)).bind fun r4 =>
let v5 : Bool := (cond (r1.1 == (0 : Int)) r4 false)
some v5) (
cond (r1.1 == (0 : Int)) none (
cond (!(r1.1 == (0 : Int))) (
some false) none))) (
cond (r1.1 == (0 : Int)) none (
cond (r1.1 == (0 : Int)) none (
cond (r1.1 == (0 : Int)) none (
cond (!(r1.1 == (0 : Int))) (
some false) none))))
def clerestorykeep2_ruleFact.kr (w0 : World) (k : Nat) : St T → Option (Bool) := (retK (cfg w0 (tab55 k)) Tryd.f12.results.toList 0 [] io2.pat)
def clerestorykeep2_ruleFact.cuts (w0 : World) (k : Nat) : Cuts T (Bool) := fun n => none
def clerestorykeep2_ruleFact.body : Code := bodyOf Tryd.f12
theorem clerestorykeep2_ruleFact.e (w0 : World) (k : Nat) : ∀ v, (fun v => clerestorykeep2_ruleFact k ) v = runK (cfg w0 (tab55 k)) Tryd.f12.ntmps (clerestorykeep2_ruleFact.kr w0 k) (annot (clerestorykeep2_ruleFact.cuts w0 k) clerestorykeep2_ruleFact.body) (entry (io48.enc v).1 (io48.enc v).2) (endK (clerestorykeep2_ruleFact.kr w0 k)) := by
  intro v; kernel_rfl
theorem clerestorykeep2_ruleFact.hb : Tryd.f12.body = some clerestorykeep2_ruleFact.body := by kernel_rfl
def tab56 (k : Nat) : Tab T := addTab 12 (line io48 io2 false (fun v => clerestorykeep2_ruleFact k )) (tab55 k)
structure cssrule_show.G.R where
  cssrule_show : (List S38) → (List UInt8) → Option (List UInt8)
def cssrule_show.c23 (k : Nat) (r : cssrule_show.G.R) : Nat → (List S38) → Int → Int → (List S66) → Int → Int → (List UInt8) → Bool → (List UInt8) → (List S66) → (List S38) → ((List S38) → Int → Int → (List UInt8) → Bool → (List UInt8) → (List S66) → (List S38) → Option (List UInt8)) → Option (List UInt8)
  | 0, _, _, _, _, _, _, _, _, _, _, _, _ => none
  | n + 1, x28, x29, x30, x31, x32, x33, x34, x35, x36, x37, x38, k2 =>
    cond (decide (x33 < x32)) (
    cond (decide (0 ≤ x33 ∧ x33 < (x31.length : Int))) (
    let v39 : List UInt8 := (x31.getD x33.toNat S66.d).Name
    let v40 : List UInt8 := (x31.getD x33.toNat S66.d).Value
    let v41 : Bool := (x31.getD x33.toNat S66.d).Important
    cond (Nat.ble (v39.length + ([58, 32] : List UInt8).length) 9223372036854775807) (
    let v42 : List UInt8 := (v39 ++ ([58, 32] : List UInt8))
    cond (Nat.ble (v42.length + v40.length) 9223372036854775807) (
    (f__strings_Builder__WriteString k (v42 ++ v40) x34).bind fun r43 =>
    cond v41 (
    (f__strings_Builder__WriteString k ([32, 33, 105, 109, 112, 111, 114, 116, 97, 110, 116] : List UInt8) r43.2).bind fun r44 =>
    (f__strings_Builder__WriteString k ([59, 10] : List UInt8) r44.2).bind fun r45 =>
    let v46 : Int := (IntKind.wrap .i64 (x33 + (1 : Int)))
    cssrule_show.c23 k r n x28 x29 x30 x31 x32 v46 r45.2 x35 x36 x37 x38 k2) (
    (f__strings_Builder__WriteString k ([59, 10] : List UInt8) r43.2).bind fun r47 =>
    let v48 : Int := (IntKind.wrap .i64 (x33 + (1 : Int)))
    cssrule_show.c23 k r n x28 x29 x30 x31 x32 v48 r47.2 x35 x36 x37 x38 k2)) none) none) none) (
    k2 x28 x29 x30 x34 x35 x36 x37 x38)
def cssrule_show.c18 (k : Nat) (r : cssrule_show.G.R) (x19 : List S38) (x20 : Int) (x21 : Int) (x22 : List UInt8) (x23 : Bool) (x24 : List UInt8) (x25 : List S66) (x26 : List S38) (kn : (List S38) → Int → Int → (List UInt8) → Option (List UInt8)) : Option (List UInt8) :=
(f__strings_Builder__WriteString k ([123, 10] : List UInt8) x22).bind fun r27 =>
cssrule_show.c23 k r k x19 x20 x21 x25 (x25.length : Int) (0 : Int) r27.2 x23 x24 x25 x26 (fun (y49 : List S38) (y50 : Int) (y51 : Int) (y52 : List UInt8) (y53 : Bool) (y54 : List UInt8) (y55 : List S66) (y56 : List S38) =>
(r.cssrule_show y56 y52).bind fun r57 =>
(f__strings_Builder__WriteString k ([125, 10] : List UInt8) r57).bind fun r58 =>
kn y49 y50 y51 r58.2)
def cssrule_show.c12 (k : Nat) (r : cssrule_show.G.R) (x9 : List S38) (x10 : Int) (x11 : Int) (x12 : List UInt8) (x13 : Bool) (x14 : List UInt8) (x15 : List S66) (x16 : List S38) (kn : (List S38) → Int → Int → (List UInt8) → Option (List UInt8)) : Option (List UInt8) :=
(f__strings_Builder__WriteString k x14 x12).bind fun r17 =>
cond (!(x14 == ([] : List UInt8))) (
(f__strings_Builder__WriteByte k (32 : Int) r17.2).bind fun r18 =>
cssrule_show.c18 k r x9 x10 x11 r18 x13 x14 x15 x16 (fun (y59 : List S38) (y60 : Int) (y61 : Int) (y62 : List UInt8) =>
kn y59 y60 y61 y62)) (
cssrule_show.c18 k r x9 x10 x11 r17.2 x13 x14 x15 x16 (fun (y63 : List S38) (y64 : Int) (y65 : Int) (y66 : List UInt8) =>
kn y63 y64 y65 y66))
def cssrule_show.c3 (k : Nat) (r : cssrule_show.G.R) : Nat → (List S38) → Int → Int → (List UInt8) → ((List UInt8) → Option (List UInt8)) → Option (List UInt8)
  | 0, _, _, _, _, _ => none
  | n + 1, x3, x4, x5, x6, k0 =>
    cond (decide (x5 < x4)) (
    cond (decide (0 ≤ x5 ∧ x5 < (x3.length : Int))) (
    (f__strings_Builder__Len k x6).bind fun r7 =>
    cond (decide (r7.1 > (3000 : Int))) (
    some r7.2) (
    cond ((x3.getD x5.toNat S38.d).Media) (
    (f__strings_Builder__WriteString k ([64, 109, 101, 100, 105, 97, 32] : List UInt8) r7.2).bind fun r8 =>
    cssrule_show.c12 k r x3 x4 x5 r8.2 ((x3.getD x5.toNat S38.d).Media) ((x3.getD x5.toNat S38.d).Head) ((x3.getD x5.toNat S38.d).Decls) ((x3.getD x5.toNat S38.d).Rules) (fun (y67 : List S38) (y68 : Int) (y69 : Int) (y70 : List UInt8) =>
    let v71 : Int := (IntKind.wrap .i64 (y69 + (1 : Int)))
    cssrule_show.c3 k r n y67 y68 v71 y70 k0)) (
    cssrule_show.c12 k r x3 x4 x5 r7.2 ((x3.getD x5.toNat S38.d).Media) ((x3.getD x5.toNat S38.d).Head) ((x3.getD x5.toNat S38.d).Decls) ((x3.getD x5.toNat S38.d).Rules) (fun (y72 : List S38) (y73 : Int) (y74 : Int) (y75 : List UInt8) =>
    let v76 : Int := (IntKind.wrap .i64 (y74 + (1 : Int)))
    cssrule_show.c3 k r n y72 y73 v76 y75 k0)))) none) (
    k0 x6)
def cssrule_show.nat (k : Nat) (r : cssrule_show.G.R) (a1 : List S38) (a2 : List UInt8) : Option (List UInt8) :=
cssrule_show.c3 k r k a1 (a1.length : Int) (0 : Int) a2 (fun (y77 : List UInt8) =>
some y77)
def cssrule_show.G.rec (k : Nat) : Nat → cssrule_show.G.R
  | 0 => ⟨fun _ _ => none⟩
  | n + 1 => ⟨cssrule_show.nat k (cssrule_show.G.rec k n)⟩
def cssrule_show (k : Nat) : (List S38) → (List UInt8) → Option (List UInt8) := (cssrule_show.G.rec k k).cssrule_show
def cssrule_show.G.tab (k : Nat) (r : cssrule_show.G.R) : Tab T := addTab 46 (line io73 io74 [] (fun v => r.cssrule_show v.1 v.2)) (tab56 k)
def cssrule_show.kr (w0 : World) (k : Nat) (r : cssrule_show.G.R) : St T → Option (List UInt8) := (retK (cfg w0 (cssrule_show.G.tab k r)) Tryd.f46.results.toList 1 [] io74.pat)
def cssrule_show.x23 : Ex → Option (List Nat × List Sp)
  | .exit 2 => some ([0, 5, 8, 9, 10], [])
  | _ => none
def cssrule_show.L23 (k : Nat) (r : cssrule_show.G.R) (n : Nat) (v : (List S38) × Int × Int × (List S66) × Int × Int × (List UInt8) × Bool × (List UInt8) × (List S66) × (List S38)) (K : Ex → St T → Option (List UInt8)) : Option (List UInt8) := cssrule_show.c23 k r n v.1 v.2.1 v.2.2.1 v.2.2.2.1 v.2.2.2.2.1 v.2.2.2.2.2.1 v.2.2.2.2.2.2.1 v.2.2.2.2.2.2.2.1 v.2.2.2.2.2.2.2.2.1 v.2.2.2.2.2.2.2.2.2.1 v.2.2.2.2.2.2.2.2.2.2 (fun y59 y60 y61 y62 y63 y64 y65 y66 => K (.exit 2) (mkSt [0, 5, 8, 9, 10] (io76.enc (y59, y60, y61, y62, y63, y64, y65, y66))))
def cssrule_show.x18 : Ex → Option (List Nat × List Sp)
  | .norm => some ([0, 8, 9, 10], [])
  | _ => none
def cssrule_show.L18 (k : Nat) (r : cssrule_show.G.R) (v : (List S38) × Int × Int × (List UInt8) × Bool × (List UInt8) × (List S66) × (List S38)) (K : Ex → St T → Option (List UInt8)) : Option (List UInt8) := cssrule_show.c18 k r v.1 v.2.1 v.2.2.1 v.2.2.2.1 v.2.2.2.2.1 v.2.2.2.2.2.1 v.2.2.2.2.2.2.1 v.2.2.2.2.2.2.2 (fun y67 y68 y69 y70 => K .norm (mkSt [0, 8, 9, 10] (io77.enc (y67, y68, y69, y70))))
def cssrule_show.x12 : Ex → Option (List Nat × List Sp)
  | .norm => some ([0, 8, 9, 10], [])
  | _ => none
def cssrule_show.L12 (k : Nat) (r : cssrule_show.G.R) (v : (List S38) × Int × Int × (List UInt8) × Bool × (List UInt8) × (List S66) × (List S38)) (K : Ex → St T → Option (List UInt8)) : Option (List UInt8) := cssrule_show.c12 k r v.1 v.2.1 v.2.2.1 v.2.2.2.1 v.2.2.2.2.1 v.2.2.2.2.2.1 v.2.2.2.2.2.2.1 v.2.2.2.2.2.2.2 (fun y71 y72 y73 y74 => K .norm (mkSt [0, 8, 9, 10] (io77.enc (y71, y72, y73, y74))))
def cssrule_show.x3 : Ex → Option (List Nat × List Sp)
  | .exit 0 => some ([], [])
  | _ => none
def cssrule_show.L3 (k : Nat) (r : cssrule_show.G.R) (n : Nat) (v : (List S38) × Int × Int × (List UInt8)) (K : Ex → St T → Option (List UInt8)) : Option (List UInt8) := cssrule_show.c3 k r n v.1 v.2.1 v.2.2.1 v.2.2.2 (fun y75 => K (.exit 0) (mkSt [] (io74.enc y75)))
def cssrule_show.cuts (w0 : World) (k : Nat) (r : cssrule_show.G.R) : Cuts T (List UInt8) := fun n => bif n.beq 23 then some (entK (cfg w0 (cssrule_show.G.tab k r)) 1 [0, 5, 8, 9, 10, 33, 34, 35] [] io75.pat (cssrule_show.L23 k r k)) else bif n.beq 18 then some (entK (cfg w0 (cssrule_show.G.tab k r)) 1 [0, 5, 8, 9, 10] [] io76.pat (cssrule_show.L18 k r)) else bif n.beq 12 then some (entK (cfg w0 (cssrule_show.G.tab k r)) 1 [0, 5, 8, 9, 10] [] io76.pat (cssrule_show.L12 k r)) else bif n.beq 3 then some (entK (cfg w0 (cssrule_show.G.tab k r)) 1 [0, 8, 9, 10] [] io77.pat (cssrule_show.L3 k r k)) else none
def cssrule_show.body : Code := bodyOf Tryd.f46
def cssrule_show.b23 : Code := findD 23 cssrule_show.body
theorem cssrule_show.s23 (w0 : World) (k : Nat) (r : cssrule_show.G.R) : ∀ n v K, cssrule_show.L23 k r (n + 1) v K = runK (cfg w0 (cssrule_show.G.tab k r)) Tryd.f46.ntmps (cssrule_show.kr w0 k r) (annot (cssrule_show.cuts w0 k r) cssrule_show.b23) (mkSt [0, 5, 8, 9, 10, 33, 34, 35] (io75.enc v)) (loopK (cfg w0 (cssrule_show.G.tab k r)) 1 cssrule_show.x23 (entK (cfg w0 (cssrule_show.G.tab k r)) 1 [0, 5, 8, 9, 10, 33, 34, 35] [] io75.pat (cssrule_show.L23 k r n)) K) := by
  intro n v K; kernel_rfl
def cssrule_show.b18 : Code := findD 18 cssrule_show.body
theorem cssrule_show.s18 (w0 : World) (k : Nat) (r : cssrule_show.G.R) : ∀ v K, cssrule_show.L18 k r v K = runK (cfg w0 (cssrule_show.G.tab k r)) Tryd.f46.ntmps (cssrule_show.kr w0 k r) (annot (cssrule_show.cuts w0 k r) cssrule_show.b18) (mkSt [0, 5, 8, 9, 10] (io76.enc v)) (outK (cfg w0 (cssrule_show.G.tab k r)) 1 cssrule_show.x18 K) := by
  intro v K; kernel_rfl
def cssrule_show.b12 : Code := findD 12 cssrule_show.body
theorem cssrule_show.s12 (w0 : World) (k : Nat) (r : cssrule_show.G.R) : ∀ v K, cssrule_show.L12 k r v K = runK (cfg w0 (cssrule_show.G.tab k r)) Tryd.f46.ntmps (cssrule_show.kr w0 k r) (annot (cssrule_show.cuts w0 k r) cssrule_show.b12) (mkSt [0, 5, 8, 9, 10] (io76.enc v)) (outK (cfg w0 (cssrule_show.G.tab k r)) 1 cssrule_show.x12 K) := by
  intro v K; kernel_rfl
def cssrule_show.b3 : Code := findD 3 cssrule_show.body
theorem cssrule_show.s3 (w0 : World) (k : Nat) (r : cssrule_show.G.R) : ∀ n v K, cssrule_show.L3 k r (n + 1) v K = runK (cfg w0 (cssrule_show.G.tab k r)) Tryd.f46.ntmps (cssrule_show.kr w0 k r) (annot (cssrule_show.cuts w0 k r) cssrule_show.b3) (mkSt [0, 8, 9, 10] (io77.enc v)) (loopK (cfg w0 (cssrule_show.G.tab k r)) 1 cssrule_show.x3 (entK (cfg w0 (cssrule_show.G.tab k r)) 1 [0, 8, 9, 10] [] io77.pat (cssrule_show.L3 k r n)) K) := by
  intro n v K; kernel_rfl
theorem cssrule_show.e (w0 : World) (k : Nat) (r : cssrule_show.G.R) : ∀ v, (fun v => cssrule_show.nat k r v.1 v.2) v = runK (cfg w0 (cssrule_show.G.tab k r)) Tryd.f46.ntmps (cssrule_show.kr w0 k r) (annot (cssrule_show.cuts w0 k r) cssrule_show.body) (entry (io73.enc v).1 (io73.enc v).2) (endK (cssrule_show.kr w0 k r)) := by
  intro v; kernel_rfl
theorem cssrule_show.hb : Tryd.f46.body = some cssrule_show.body := by kernel_rfl
def tab57 (k : Nat) : Tab T := cssrule_show.G.tab k (cssrule_show.G.rec k k)
def api_SDecl_.c9 (k : Nat) : Nat → (List S66) → (List S66) → Int → Int → (Option (Bool)) → Option (Bool)
  | 0, _, _, _, _, _ => none
  | n + 1, x4, x5, x6, x7, k0 =>
    cond (decide (x7 < x6)) (
    cond (decide (0 ≤ x7 ∧ x7 < (x4.length : Int))) (
    let v8 : Bool := (x4.getD x7.toNat S66.d).Important
    cond (decide (0 ≤ x7 ∧ x7 < (x5.length : Int))) (
    let v9 : Bool := (x5.getD x7.toNat S66.d).Important
    let v10 : Bool := (!((((x4.getD x7.toNat S66.d).Name) == ((x5.getD x7.toNat S66.d).Name)) && ((((x4.getD x7.toNat S66.d).Value) == ((x5.getD x7.toNat S66.d).Value)) && ((v8 == v9) && true))))
    cond v10 (
    some false) (
    let v11 : Int := (IntKind.wrap .i64 (x7 + (1 : Int)))
    api_SDecl_.c9 k n x4 x5 x6 v11 k0)) none) none) (
    k0)
def api_SDecl_ (k : Nat) (a1 : List S66) (a2 : List S66) : Option (Bool) :=
let v3 : Bool := ((a1.length : Int) != (a2.length : Int))
cond v3 (
some false) (
api_SDecl_.c9 k k a1 a2 (a1.length : Int) (0 : Int) (
some true))
def api_SDecl_.kr (w0 : World) (k : Nat) : St T → Option (Bool) := (retK (cfg w0 (tab57 k)) Tryd.f91.results.toList 0 [] io2.pat)
def api_SDecl_.x9 : Ex → Option (List Nat × List Sp)
  | .exit 0 => some ([], [])
  | _ => none
def api_SDecl_.L9 (k : Nat) (n : Nat) (v : (List S66) × (List S66) × Int × Int) (K : Ex → St T → Option (Bool)) : Option (Bool) := api_SDecl_.c9 k n v.1 v.2.1 v.2.2.1 v.2.2.2 ( K (.exit 0) (mkSt [] (io48.enc ())))
def api_SDecl_.cuts (w0 : World) (k : Nat) : Cuts T (Bool) := fun n => bif n.beq 9 then some (entK (cfg w0 (tab57 k)) 0 [0, 1, 12, 13] [] io78.pat (api_SDecl_.L9 k k)) else none
def api_SDecl_.body : Code := bodyOf Tryd.f91
def api_SDecl_.b9 : Code := findD 9 api_SDecl_.body
theorem api_SDecl_.s9 (w0 : World) (k : Nat) : ∀ n v K, api_SDecl_.L9 k (n + 1) v K = runK (cfg w0 (tab57 k)) Tryd.f91.ntmps (api_SDecl_.kr w0 k) (annot (api_SDecl_.cuts w0 k) api_SDecl_.b9) (mkSt [0, 1, 12, 13] (io78.enc v)) (loopK (cfg w0 (tab57 k)) 0 api_SDecl_.x9 (entK (cfg w0 (tab57 k)) 0 [0, 1, 12, 13] [] io78.pat (api_SDecl_.L9 k n)) K) := by
  intro n v K; kernel_rfl
theorem api_SDecl_.e (w0 : World) (k : Nat) : ∀ v, (fun v => api_SDecl_ k v.1 v.2) v = runK (cfg w0 (tab57 k)) Tryd.f91.ntmps (api_SDecl_.kr w0 k) (annot (api_SDecl_.cuts w0 k) api_SDecl_.body) (entry (io69.enc v).1 (io69.enc v).2) (endK (api_SDecl_.kr w0 k)) := by
  intro v; kernel_rfl
theorem api_SDecl_.hb : Tryd.f91.body = some api_SDecl_.body := by kernel_rfl
def tab58 (k : Nat) : Tab T := addTab 91 (line io69 io2 false (fun v => api_SDecl_ k v.1 v.2)) (tab57 k)
structure cssrule_same.G.R where
  cssrule_same_1 : Bool → (List UInt8) → (List S66) → (List S38) → Bool → (List UInt8) → (List S66) → (List S38) → Option (Bool)
  api_SRule_ : (List S38) → (List S38) → Option (Bool)
  cssrule_same : (List S38) → (List S38) → Option (Bool)
def cssrule_same_1.nat (k : Nat) (r : cssrule_same.G.R) (a1 : Bool) (a2 : List UInt8) (a3 : List S66) (a4 : List S38) (a5 : Bool) (a6 : List UInt8) (a7 : List S66) (a8 : List S38) : Option (Bool) :=
let v9 : Bool := (cond (a1 == a5) (a2 == a6) false)
(cond v9 (api_SDecl_ k a3 a7) (some false)).bind fun r10 =>
(cond (cond v9 r10 false) (r.cssrule_same a4 a8) (some false)).bind fun r11 =>
let v12 : Bool := (cond (cond v9 r10 false) r11 false)
some v12
def api_SRule_.c9 (k : Nat) (r : cssrule_same.G.R) : Nat → (List S38) → (List S38) → Int → Int → (Option (Bool)) → Option (Bool)
  | 0, _, _, _, _, _ => none
  | n + 1, x4, x5, x6, x7, k0 =>
    cond (decide (x7 < x6)) (
    cond (decide (0 ≤ x7 ∧ x7 < (x5.length : Int))) (
    cond (decide (0 ≤ x7 ∧ x7 < (x4.length : Int))) (
    (r.cssrule_same_1 ((x5.getD x7.toNat S38.d).Media) ((x5.getD x7.toNat S38.d).Head) ((x5.getD x7.toNat S38.d).Decls) ((x5.getD x7.toNat S38.d).Rules) ((x4.getD x7.toNat S38.d).Media) ((x4.getD x7.toNat S38.d).Head) ((x4.getD x7.toNat S38.d).Decls) ((x4.getD x7.toNat S38.d).Rules)).bind fun r8 =>
    cond (!r8) (
    some false) (
    let v9 : Int := (IntKind.wrap .i64 (x7 + (1 : Int)))
    api_SRule_.c9 k r n x4 x5 x6 v9 k0)) none) none) (
    k0)
def api_SRule_.nat (k : Nat) (r : cssrule_same.G.R) (a1 : List S38) (a2 : List S38) : Option (Bool) :=
let v3 : Bool := ((a1.length : Int) != (a2.length : Int))
cond v3 (
some false) (
api_SRule_.c9 k r k a2 a1 (a1.length : Int) (0 : Int) (
some true))
def cssrule_same.nat (k : Nat) (r : cssrule_same.G.R) (a1 : List S38) (a2 : List S38) : Option (Bool) :=
(r.api_SRule_ a1 a2).bind fun r3 =>
some r3
def cssrule_same.G.rec (k : Nat) : Nat → cssrule_same.G.R
  | 0 => ⟨fun _ _ _ _ _ _ _ _ => none, fun _ _ => none, fun _ _ => none⟩
  | n + 1 => ⟨cssrule_same_1.nat k (cssrule_same.G.rec k n), api_SRule_.nat k (cssrule_same.G.rec k n), cssrule_same.nat k (cssrule_same.G.rec k n)⟩
def cssrule_same_1 (k : Nat) : Bool → (List UInt8) → (List S66) → (List S38) → Bool → (List UInt8) → (List S66) → (List S38) → Option (Bool) := (cssrule_same.G.rec k k).cssrule_same_1
def api_SRule_ (k : Nat) : (List S38) → (List S38) → Option (Bool) := (cssrule_same.G.rec k k).api_SRule_
def cssrule_same (k : Nat) : (List S38) → (List S38) → Option (Bool) := (cssrule_same.G.rec k k).cssrule_same
def cssrule_same.G.tab (k : Nat) (r : cssrule_same.G.R) : Tab T := addTab 49 (line io71 io2 false (fun v => r.cssrule_same v.1 v.2)) (addTab 89 (line io80 io2 false (fun v => r.api_SRule_ v.1 v.2)) (addTab 90 (line io79 io2 false (fun v => r.cssrule_same_1 v.1 v.2.1 v.2.2.1 v.2.2.2.1 v.2.2.2.2.1 v.2.2.2.2.2.1 v.2.2.2.2.2.2.1 v.2.2.2.2.2.2.2)) (tab58 k)))
def cssrule_same_1.kr (w0 : World) (k : Nat) (r : cssrule_same.G.R) : St T → Option (Bool) := (retK (cfg w0 (cssrule_same.G.tab k r)) Tryd.f90.results.toList 0 [] io2.pat)
def cssrule_same_1.cuts (w0 : World) (k : Nat) (r : cssrule_same.G.R) : Cuts T (Bool) := fun n => none
def cssrule_same_1.body : Code := bodyOf Tryd.f90
theorem cssrule_same_1.e (w0 : World) (k : Nat) (r : cssrule_same.G.R) : ∀ v, (fun v => cssrule_same_1.nat k r v.1 v.2.1 v.2.2.1 v.2.2.2.1 v.2.2.2.2.1 v.2.2.2.2.2.1 v.2.2.2.2.2.2.1 v.2.2.2.2.2.2.2) v = runK (cfg w0 (cssrule_same.G.tab k r)) Tryd.f90.ntmps (cssrule_same_1.kr w0 k r) (annot (cssrule_same_1.cuts w0 k r) cssrule_same_1.body) (entry (io79.enc v).1 (io79.enc v).2) (endK (cssrule_same_1.kr w0 k r)) := by
  intro v; kernel_rfl
theorem cssrule_same_1.hb : Tryd.f90.body = some cssrule_same_1.body := by kernel_rfl
def api_SRule_.kr (w0 : World) (k : Nat) (r : cssrule_same.G.R) : St T → Option (Bool) := (retK (cfg w0 (cssrule_same.G.tab k r)) Tryd.f89.results.toList 0 [] io2.pat)
def api_SRule_.x9 : Ex → Option (List Nat × List Sp)
  | .exit 0 => some ([], [])
  | _ => none
def api_SRule_.L9 (k : Nat) (r : cssrule_same.G.R) (n : Nat) (v : (List S38) × (List S38) × Int × Int) (K : Ex → St T → Option (Bool)) : Option (Bool) := api_SRule_.c9 k r n v.1 v.2.1 v.2.2.1 v.2.2.2 ( K (.exit 0) (mkSt [] (io48.enc ())))
def api_SRule_.cuts (w0 : World) (k : Nat) (r : cssrule_same.G.R) : Cuts T (Bool) := fun n => bif n.beq 9 then some (entK (cfg w0 (cssrule_same.G.tab k r)) 0 [1, 2, 15, 16, 17] [] io81.pat (api_SRule_.L9 k r k)) else none
def api_SRule_.body : Code := bodyOf Tryd.f89
def api_SRule_.b9 : Code := findD 9 api_SRule_.body
theorem api_SRule_.s9 (w0 : World) (k : Nat) (r : cssrule_same.G.R) : ∀ n v K, api_SRule_.L9 k r (n + 1) v K = runK (cfg w0 (cssrule_same.G.tab k r)) Tryd.f89.ntmps (api_SRule_.kr w0 k r) (annot (api_SRule_.cuts w0 k r) api_SRule_.b9) (mkSt [1, 2, 15, 16, 17] (io81.enc v)) (loopK (cfg w0 (cssrule_same.G.tab k r)) 0 api_SRule_.x9 (entK (cfg w0 (cssrule_same.G.tab k r)) 0 [1, 2, 15, 16, 17] [] io81.pat (api_SRule_.L9 k r n)) K) := by
  intro n v K; kernel_rfl
theorem api_SRule_.e (w0 : World) (k : Nat) (r : cssrule_same.G.R) : ∀ v, (fun v => api_SRule_.nat k r v.1 v.2) v = runK (cfg w0 (cssrule_same.G.tab k r)) Tryd.f89.ntmps (api_SRule_.kr w0 k r) (annot (api_SRule_.cuts w0 k r) api_SRule_.body) (entry (io80.enc v).1 (io80.enc v).2) (endK (api_SRule_.kr w0 k r)) := by
  intro v; kernel_rfl
theorem api_SRule_.hb : Tryd.f89.body = some api_SRule_.body := by kernel_rfl
def cssrule_same.kr (w0 : World) (k : Nat) (r : cssrule_same.G.R) : St T → Option (Bool) := (retK (cfg w0 (cssrule_same.G.tab k r)) Tryd.f49.results.toList 0 [] io2.pat)
def cssrule_same.cuts (w0 : World) (k : Nat) (r : cssrule_same.G.R) : Cuts T (Bool) := fun n => none
def cssrule_same.body : Code := bodyOf Tryd.f49
theorem cssrule_same.e (w0 : World) (k : Nat) (r : cssrule_same.G.R) : ∀ v, (fun v => cssrule_same.nat k r v.1 v.2) v = runK (cfg w0 (cssrule_same.G.tab k r)) Tryd.f49.ntmps (cssrule_same.kr w0 k r) (annot (cssrule_same.cuts w0 k r) cssrule_same.body) (entry (io71.enc v).1 (io71.enc v).2) (endK (cssrule_same.kr w0 k r)) := by
  intro v; kernel_rfl
theorem cssrule_same.hb : Tryd.f49.body = some cssrule_same.body := by kernel_rfl
def tab59 (k : Nat) : Tab T := cssrule_same.G.tab k (cssrule_same.G.rec k k)
def cssrule_Show (k : Nat) (a1 : List S38) : Option ((List UInt8) × Int) :=
(cssrule_show k a1 ([] : List UInt8)).bind fun r2 =>
(f__strings_Builder__Len k r2).bind fun r3 =>
cond (decide (r3.1 > (3000 : Int))) (
some (([] : List UInt8), (2 : Int))) (
(f__strings_Builder__String k r3.2).bind fun r4 =>
(cssrule_Parse k r4.1).bind fun r5 =>
(cond (!(r5.1 != (0 : Int))) (cssrule_same k r5.2 a1) (some false)).bind fun r6 =>
let v7 : Bool := (cond (r5.1 != (0 : Int)) true (!r6))
cond v7 (
some (([] : List UInt8), (3 : Int))) (
(f__strings_Builder__String k r4.2).bind fun r8 =>
some (r8.1, (0 : Int))))
def cssrule_Show.kr (w0 : World) (k : Nat) : St T → Option ((List UInt8) × Int) := (retK (cfg w0 (tab59 k)) Tryd.f22.results.toList 0 [] io13.pat)
def cssrule_Show.cuts (w0 : World) (k : Nat) : Cuts T ((List UInt8) × Int) := fun n => none
def cssrule_Show.body : Code := bodyOf Tryd.f22
theorem cssrule_Show.e (w0 : World) (k : Nat) : ∀ v, (fun v => cssrule_Show k v) v = runK (cfg w0 (tab59 k)) Tryd.f22.ntmps (cssrule_Show.kr w0 k) (annot (cssrule_Show.cuts w0 k) cssrule_Show.body) (entry (io66.enc v).1 (io66.enc v).2) (endK (cssrule_Show.kr w0 k)) := by
  intro v; kernel_rfl
theorem cssrule_Show.hb : Tryd.f22.body = some cssrule_Show.body := by kernel_rfl
def tab60 (k : Nat) : Tab T := addTab 22 (line io66 io13 ([], (0 : Int)) (fun v => cssrule_Show k v)) (tab59 k)
def clerestorykeep2_shown (k : Nat) (a1 : List UInt8) : Option ((List UInt8) × Bool × (List S38)) :=
(cssrule_Parse k a1).bind fun r2 =>
(cssrule_Show k r2.2).bind fun r3 =>
let v4 : Bool := (cond (r2.1 == (0 : Int)) (r3.2 == (0 : Int)) false)
some (r3.1, v4, r2.2)
def clerestorykeep2_shown.kr (w0 : World) (k : Nat) : St T → Option ((List UInt8) × Bool × (List S38)) := (retK (cfg w0 (tab60 k)) Tryd.f13.results.toList 0 [] io82.pat)
def clerestorykeep2_shown.cuts (w0 : World) (k : Nat) : Cuts T ((List UInt8) × Bool × (List S38)) := fun n => none
def clerestorykeep2_shown.body : Code := bodyOf Tryd.f13
theorem clerestorykeep2_shown.e (w0 : World) (k : Nat) : ∀ v, (fun v => clerestorykeep2_shown k v) v = runK (cfg w0 (tab60 k)) Tryd.f13.ntmps (clerestorykeep2_shown.kr w0 k) (annot (clerestorykeep2_shown.cuts w0 k) clerestorykeep2_shown.body) (entry (io1.enc v).1 (io1.enc v).2) (endK (clerestorykeep2_shown.kr w0 k)) := by
  intro v; kernel_rfl
theorem clerestorykeep2_shown.hb : Tryd.f13.body = some clerestorykeep2_shown.body := by kernel_rfl
def tab61 (k : Nat) : Tab T := addTab 13 (line io1 io82 ([], false, []) (fun v => clerestorykeep2_shown k v)) (tab60 k)
def clerestorykeep2_RuleBehind (k : Nat) (a1 : List UInt8) (a2 : List UInt8) : Option (Bool) :=
(clerestorykeep2_ruleFact k).bind fun r3 =>
(clerestorykeep2_shown k a1).bind fun r4 =>
(cssrule_Parse k a2).bind fun r5 =>
cond (Nat.ble (r4.1.length + a2.length) 9223372036854775807) (
(cssrule_Parse k (r4.1 ++ a2)).bind fun r6 =>
let v7 : Bool := (cond (!r4.2.1) true (r5.1 != (0 : Int)))
let v8 : Bool := (cond v7 true (r6.1 != (0 : Int)))
cond v8 (
some r3) (
cond (decide ((r4.2.2 ++ r5.2).length < most)) (
(clerestorykeep2_sameRules k r6.2 (r4.2.2 ++ r5.2)).bind fun r9 =>
some (cond r3 r9 false)) none)) none
def clerestorykeep2_RuleBehind.kr (w0 : World) (k : Nat) : St T → Option (Bool) := (retK (cfg w0 (tab61 k)) Tryd.f3.results.toList 0 [] io2.pat)
def clerestorykeep2_RuleBehind.cuts (w0 : World) (k : Nat) : Cuts T (Bool) := fun n => none
def clerestorykeep2_RuleBehind.body : Code := bodyOf Tryd.f3
theorem clerestorykeep2_RuleBehind.e (w0 : World) (k : Nat) : ∀ v, (fun v => clerestorykeep2_RuleBehind k v.1 v.2) v = runK (cfg w0 (tab61 k)) Tryd.f3.ntmps (clerestorykeep2_RuleBehind.kr w0 k) (annot (clerestorykeep2_RuleBehind.cuts w0 k) clerestorykeep2_RuleBehind.body) (entry (io0.enc v).1 (io0.enc v).2) (endK (clerestorykeep2_RuleBehind.kr w0 k)) := by
  intro v; kernel_rfl
theorem clerestorykeep2_RuleBehind.hb : Tryd.f3.body = some clerestorykeep2_RuleBehind.body := by kernel_rfl
def tab62 (k : Nat) : Tab T := addTab 3 (line io0 io2 false (fun v => clerestorykeep2_RuleBehind k v.1 v.2)) (tab61 k)
def clerestorykeep2_RuleSpoils (k : Nat) (a1 : List UInt8) (a2 : List UInt8) (a3 : Int) : Option (Bool) :=
(clerestorykeep2_ruleFact k).bind fun r4 =>
(clerestorykeep2_shown k a1).bind fun r5 =>
(cssrule_Parse k a2).bind fun r6 =>
let v7 : List (List UInt8) := [([64, 120, 32, 39, 121, 39, 59] : List UInt8), ([64, 120, 32, 123, 32, 97, 32, 123, 32, 98, 58, 32, 99, 32, 125, 32, 125] : List UInt8), ([47, 42, 32, 123, 32, 42, 47] : List UInt8), ([64, 120, 32, 40, 59, 41, 32, 91, 123, 125, 93, 32, 123, 32, 93, 32, 125] : List UInt8), ([10, 12, 32] : List UInt8), ([64, 120, 59, 64, 121, 59] : List UInt8), ([39, 10, 123, 32, 97, 58, 32, 98, 32, 125] : List UInt8), ([64, 109, 101, 100, 105, 97, 32, 39, 10, 32, 123, 32, 97, 32, 123, 32, 98, 58, 32, 99, 32, 125, 32, 125] : List UInt8)]
cond ((8 : Int) != 0) (
let v8 : Int := (Int.tmod (IntKind.wrap .u64 a3) (8 : Int))
cond (decide (0 ≤ v8 ∧ v8 < (v7.length : Int))) (
cond (Nat.ble (r5.1.length + (v7.getD v8.toNat []).length) 9223372036854775807) (
let v9 : List UInt8 := (r5.1 ++ (v7.getD v8.toNat []))
cond (Nat.ble (v9.length + a2.length) 9223372036854775807) (
(cssrule_Parse k (v9 ++ a2)).bind fun r10 =>
let v11 : Bool := (cond (!r5.2.1) true (r6.1 != (0 : Int)))
let v12 : Bool := (cond v11 true (r10.1 != (0 : Int)))
cond v12 (
some r4) (
cond (decide ((r5.2.2 ++ r6.2).length < most)) (
(clerestorykeep2_sameRules k r10.2 (r5.2.2 ++ r6.2)).bind fun r13 =>
some (cond r4 r13 false)) none)) none) none) none) none
def clerestorykeep2_RuleSpoils.kr (w0 : World) (k : Nat) : St T → Option (Bool) := (retK (cfg w0 (tab62 k)) Tryd.f4.results.toList 0 [] io2.pat)
def clerestorykeep2_RuleSpoils.cuts (w0 : World) (k : Nat) : Cuts T (Bool) := fun n => none
def clerestorykeep2_RuleSpoils.body : Code := bodyOf Tryd.f4
theorem clerestorykeep2_RuleSpoils.e (w0 : World) (k : Nat) : ∀ v, (fun v => clerestorykeep2_RuleSpoils k v.1 v.2.1 v.2.2) v = runK (cfg w0 (tab62 k)) Tryd.f4.ntmps (clerestorykeep2_RuleSpoils.kr w0 k) (annot (clerestorykeep2_RuleSpoils.cuts w0 k) clerestorykeep2_RuleSpoils.body) (entry (io83.enc v).1 (io83.enc v).2) (endK (clerestorykeep2_RuleSpoils.kr w0 k)) := by
  intro v; kernel_rfl
theorem clerestorykeep2_RuleSpoils.hb : Tryd.f4.body = some clerestorykeep2_RuleSpoils.body := by kernel_rfl
def tab63 (k : Nat) : Tab T := addTab 4 (line io83 io2 false (fun v => clerestorykeep2_RuleSpoils k v.1 v.2.1 v.2.2)) (tab62 k)
structure clerestorykeep2_deep.G.R where
  clerestorykeep2_deep : (List S38) → Option (Int)
def clerestorykeep2_deep.c7 (k : Nat) (r : clerestorykeep2_deep.G.R) : Nat → (List S38) → Int → Int → (Int → Option (Int)) → Option (Int)
  | 0, _, _, _, _ => none
  | n + 1, x2, x3, x4, k0 =>
    let v5 : Bool := (decide (x4 < (x2.length : Int)))
    cond v5 (
    cond (decide (0 ≤ x4 ∧ x4 < (x2.length : Int))) (
    cond ((x2.getD x4.toNat S38.d).Media) (
    cond (decide (0 ≤ x4 ∧ x4 < (x2.length : Int))) (
    (r.clerestorykeep2_deep ((x2.getD x4.toNat S38.d).Rules)).bind fun r6 =>
    let v7 : Int := (IntKind.wrap .i64 ((1 : Int) + r6))
    let v8 : Int := (IntKind.wrap .i64 (x4 + (1 : Int)))
    clerestorykeep2_deep.c7 k r n x2 (if v7 > x3 then v7 else x3) v8 k0) none) (
    let v9 : Int := (IntKind.wrap .i64 (x4 + (1 : Int)))
    clerestorykeep2_deep.c7 k r n x2 x3 v9 k0)) none) (
    k0 x3)
def clerestorykeep2_deep.nat (k : Nat) (r : clerestorykeep2_deep.G.R) (a1 : List S38) : Option (Int) :=
clerestorykeep2_deep.c7 k r k a1 (0 : Int) (0 : Int) (fun (y10 : Int) =>
some y10)
def clerestorykeep2_deep.G.rec (k : Nat) : Nat → clerestorykeep2_deep.G.R
  | 0 => ⟨fun _ => none⟩
  | n + 1 => ⟨clerestorykeep2_deep.nat k (clerestorykeep2_deep.G.rec k n)⟩
def clerestorykeep2_deep (k : Nat) : (List S38) → Option (Int) := (clerestorykeep2_deep.G.rec k k).clerestorykeep2_deep
def clerestorykeep2_deep.G.tab (k : Nat) (r : clerestorykeep2_deep.G.R) : Tab T := addTab 16 (line io66 io4 (0 : Int) (fun v => r.clerestorykeep2_deep v)) (tab63 k)
def clerestorykeep2_deep.kr (w0 : World) (k : Nat) (r : clerestorykeep2_deep.G.R) : St T → Option (Int) := (retK (cfg w0 (clerestorykeep2_deep.G.tab k r)) Tryd.f16.results.toList 0 [] io4.pat)
def clerestorykeep2_deep.x7 : Ex → Option (List Nat × List Sp)
  | .exit 0 => some ([3], [])
  | _ => none
def clerestorykeep2_deep.L7 (k : Nat) (r : clerestorykeep2_deep.G.R) (n : Nat) (v : (List S38) × Int × Int) (K : Ex → St T → Option (Int)) : Option (Int) := clerestorykeep2_deep.c7 k r n v.1 v.2.1 v.2.2 (fun y76 => K (.exit 0) (mkSt [3] (io4.enc y76)))
def clerestorykeep2_deep.cuts (w0 : World) (k : Nat) (r : clerestorykeep2_deep.G.R) : Cuts T (Int) := fun n => bif n.beq 7 then some (entK (cfg w0 (clerestorykeep2_deep.G.tab k r)) 0 [0, 3, 4] [] io84.pat (clerestorykeep2_deep.L7 k r k)) else none
def clerestorykeep2_deep.body : Code := bodyOf Tryd.f16
def clerestorykeep2_deep.b7 : Code := findD 7 clerestorykeep2_deep.body
theorem clerestorykeep2_deep.s7 (w0 : World) (k : Nat) (r : clerestorykeep2_deep.G.R) : ∀ n v K, clerestorykeep2_deep.L7 k r (n + 1) v K = runK (cfg w0 (clerestorykeep2_deep.G.tab k r)) Tryd.f16.ntmps (clerestorykeep2_deep.kr w0 k r) (annot (clerestorykeep2_deep.cuts w0 k r) clerestorykeep2_deep.b7) (mkSt [0, 3, 4] (io84.enc v)) (loopK (cfg w0 (clerestorykeep2_deep.G.tab k r)) 0 clerestorykeep2_deep.x7 (entK (cfg w0 (clerestorykeep2_deep.G.tab k r)) 0 [0, 3, 4] [] io84.pat (clerestorykeep2_deep.L7 k r n)) K) := by
  intro n v K; kernel_rfl
theorem clerestorykeep2_deep.e (w0 : World) (k : Nat) (r : clerestorykeep2_deep.G.R) : ∀ v, (fun v => clerestorykeep2_deep.nat k r v) v = runK (cfg w0 (clerestorykeep2_deep.G.tab k r)) Tryd.f16.ntmps (clerestorykeep2_deep.kr w0 k r) (annot (clerestorykeep2_deep.cuts w0 k r) clerestorykeep2_deep.body) (entry (io66.enc v).1 (io66.enc v).2) (endK (clerestorykeep2_deep.kr w0 k r)) := by
  intro v; kernel_rfl
theorem clerestorykeep2_deep.hb : Tryd.f16.body = some clerestorykeep2_deep.body := by kernel_rfl
def tab64 (k : Nat) : Tab T := clerestorykeep2_deep.G.tab k (clerestorykeep2_deep.G.rec k k)
def clerestorykeep2_closes.c11 (k : Nat) : Nat → (List S38) → Int → Int → ((List S38) → Int → Option (Bool)) → Option (Bool)
  | 0, _, _, _, _ => none
  | n + 1, x5, x6, x7, k2 =>
    cond (decide (0 ≤ x6 ∧ x6 < (x5.length : Int))) (
    let v8 : Int := (((x5.getD x6.toNat S38.d).Head).length : Int)
    cond (decide (x7 < v8)) (
    cond (decide (0 ≤ x6 ∧ x6 < (x5.length : Int))) (
    cond (decide (0 ≤ x7 ∧ x7 < (((x5.getD x6.toNat S38.d).Head).length : Int))) (
    let v9 : Int := ((((x5.getD x6.toNat S38.d).Head).getD x7.toNat 0).toNat : Int)
    cond (v9 == (125 : Int)) (
    some true) (
    let v10 : Int := (IntKind.wrap .i64 (x7 + (1 : Int)))
    clerestorykeep2_closes.c11 k n x5 x6 v10 k2)) none) none) (
    k2 x5 x6)) none
def clerestorykeep2_closes.c5 (k : Nat) : Nat → (List S38) → Int → (Option (Bool)) → Option (Bool)
  | 0, _, _, _ => none
  | n + 1, x2, x3, k0 =>
    let v4 : Bool := (decide (x3 < (x2.length : Int)))
    cond v4 (
    clerestorykeep2_closes.c11 k k x2 x3 (0 : Int) (fun (y11 : List S38) (y12 : Int) =>
    let v13 : Int := (IntKind.wrap .i64 (y12 + (1 : Int)))
    clerestorykeep2_closes.c5 k n y11 v13 k0)) (
    k0)
def clerestorykeep2_closes (k : Nat) (a1 : List S38) : Option (Bool) :=
clerestorykeep2_closes.c5 k k a1 (0 : Int) (
some false)
def clerestorykeep2_closes.kr (w0 : World) (k : Nat) : St T → Option (Bool) := (retK (cfg w0 (tab64 k)) Tryd.f17.results.toList 0 [] io2.pat)
def clerestorykeep2_closes.x11 : Ex → Option (List Nat × List Sp)
  | .exit 2 => some ([0, 3], [])
  | _ => none
def clerestorykeep2_closes.L11 (k : Nat) (n : Nat) (v : (List S38) × Int × Int) (K : Ex → St T → Option (Bool)) : Option (Bool) := clerestorykeep2_closes.c11 k n v.1 v.2.1 v.2.2 (fun y77 y78 => K (.exit 2) (mkSt [0, 3] (io85.enc (y77, y78))))
def clerestorykeep2_closes.x5 : Ex → Option (List Nat × List Sp)
  | .exit 0 => some ([], [])
  | _ => none
def clerestorykeep2_closes.L5 (k : Nat) (n : Nat) (v : (List S38) × Int) (K : Ex → St T → Option (Bool)) : Option (Bool) := clerestorykeep2_closes.c5 k n v.1 v.2 ( K (.exit 0) (mkSt [] (io48.enc ())))
def clerestorykeep2_closes.cuts (w0 : World) (k : Nat) : Cuts T (Bool) := fun n => bif n.beq 11 then some (entK (cfg w0 (tab64 k)) 0 [0, 3, 4] [] io84.pat (clerestorykeep2_closes.L11 k k)) else bif n.beq 5 then some (entK (cfg w0 (tab64 k)) 0 [0, 3] [] io85.pat (clerestorykeep2_closes.L5 k k)) else none
def clerestorykeep2_closes.body : Code := bodyOf Tryd.f17
def clerestorykeep2_closes.b11 : Code := findD 11 clerestorykeep2_closes.body
theorem clerestorykeep2_closes.s11 (w0 : World) (k : Nat) : ∀ n v K, clerestorykeep2_closes.L11 k (n + 1) v K = runK (cfg w0 (tab64 k)) Tryd.f17.ntmps (clerestorykeep2_closes.kr w0 k) (annot (clerestorykeep2_closes.cuts w0 k) clerestorykeep2_closes.b11) (mkSt [0, 3, 4] (io84.enc v)) (loopK (cfg w0 (tab64 k)) 0 clerestorykeep2_closes.x11 (entK (cfg w0 (tab64 k)) 0 [0, 3, 4] [] io84.pat (clerestorykeep2_closes.L11 k n)) K) := by
  intro n v K; kernel_rfl
def clerestorykeep2_closes.b5 : Code := findD 5 clerestorykeep2_closes.body
theorem clerestorykeep2_closes.s5 (w0 : World) (k : Nat) : ∀ n v K, clerestorykeep2_closes.L5 k (n + 1) v K = runK (cfg w0 (tab64 k)) Tryd.f17.ntmps (clerestorykeep2_closes.kr w0 k) (annot (clerestorykeep2_closes.cuts w0 k) clerestorykeep2_closes.b5) (mkSt [0, 3] (io85.enc v)) (loopK (cfg w0 (tab64 k)) 0 clerestorykeep2_closes.x5 (entK (cfg w0 (tab64 k)) 0 [0, 3] [] io85.pat (clerestorykeep2_closes.L5 k n)) K) := by
  intro n v K; kernel_rfl
theorem clerestorykeep2_closes.e (w0 : World) (k : Nat) : ∀ v, (fun v => clerestorykeep2_closes k v) v = runK (cfg w0 (tab64 k)) Tryd.f17.ntmps (clerestorykeep2_closes.kr w0 k) (annot (clerestorykeep2_closes.cuts w0 k) clerestorykeep2_closes.body) (entry (io66.enc v).1 (io66.enc v).2) (endK (clerestorykeep2_closes.kr w0 k)) := by
  intro v; kernel_rfl
theorem clerestorykeep2_closes.hb : Tryd.f17.body = some clerestorykeep2_closes.body := by kernel_rfl
def tab65 (k : Nat) : Tab T := addTab 17 (line io66 io2 false (fun v => clerestorykeep2_closes k v)) (tab64 k)
def clerestorykeep2_RuleWithin (k : Nat) (a1 : List UInt8) (a2 : Int) : Option (Bool) :=
(clerestorykeep2_ruleFact k).bind fun r3 =>
(clerestorykeep2_shown k a1).bind fun r4 =>
let v5 : List (List UInt8) := [([97, 108, 108] : List UInt8), ([112, 114, 105, 110, 116] : List UInt8), ([40, 109, 105, 110, 45, 119, 105, 100, 116, 104, 58, 32, 49, 112, 120, 41] : List UInt8), ([110, 111, 116, 32, 97, 108, 108] : List UInt8), ([] : List UInt8), ([120, 32, 121] : List UInt8)]
cond ((6 : Int) != 0) (
let v6 : Int := (Int.tmod (IntKind.wrap .u64 a2) (6 : Int))
cond (decide (0 ≤ v6 ∧ v6 < (v5.length : Int))) (
cond (Nat.ble (([64, 77, 69, 68, 73, 65, 32] : List UInt8).length + (v5.getD v6.toNat []).length) 9223372036854775807) (
let v7 : List UInt8 := (([64, 77, 69, 68, 73, 65, 32] : List UInt8) ++ (v5.getD v6.toNat []))
cond (Nat.ble (v7.length + ([123] : List UInt8).length) 9223372036854775807) (
cond (Nat.ble ((v7 ++ ([123] : List UInt8)).length + r4.1.length) 9223372036854775807) (
let v8 : List UInt8 := ((v7 ++ ([123] : List UInt8)) ++ r4.1)
cond (Nat.ble (v8.length + ([125] : List UInt8).length) 9223372036854775807) (
(cssrule_Parse k (v8 ++ ([125] : List UInt8))).bind fun r9 =>
let v10 : Bool := (cond (!r4.2.1) true (r9.1 != (0 : Int)))
(cond (!v10) (clerestorykeep2_deep k r4.2.2) (some (0 : Int))).bind fun r11 =>
let v12 : Bool := (cond v10 true (decide (r11 ≥ (3 : Int))))
(cond (!v12) (clerestorykeep2_closes k r4.2.2) (some false)).bind fun r13 =>
cond (cond v12 true r13) (
some r3) (
let v14 : List S38 := [(⟨true, (v5.getD v6.toNat []), [], r4.2.2⟩ : S38)]
(clerestorykeep2_sameRules k r9.2 v14).bind fun r15 =>
some (cond r3 r15 false))) none) none) none) none) none) none
def clerestorykeep2_RuleWithin.kr (w0 : World) (k : Nat) : St T → Option (Bool) := (retK (cfg w0 (tab65 k)) Tryd.f5.results.toList 0 [] io2.pat)
def clerestorykeep2_RuleWithin.cuts (w0 : World) (k : Nat) : Cuts T (Bool) := fun n => none
def clerestorykeep2_RuleWithin.body : Code := bodyOf Tryd.f5
theorem clerestorykeep2_RuleWithin.e (w0 : World) (k : Nat) : ∀ v, (fun v => clerestorykeep2_RuleWithin k v.1 v.2) v = runK (cfg w0 (tab65 k)) Tryd.f5.ntmps (clerestorykeep2_RuleWithin.kr w0 k) (annot (clerestorykeep2_RuleWithin.cuts w0 k) clerestorykeep2_RuleWithin.body) (entry (io13.enc v).1 (io13.enc v).2) (endK (clerestorykeep2_RuleWithin.kr w0 k)) := by
  intro v; kernel_rfl
theorem clerestorykeep2_RuleWithin.hb : Tryd.f5.body = some clerestorykeep2_RuleWithin.body := by kernel_rfl
def tab66 (k : Nat) : Tab T := addTab 5 (line io13 io2 false (fun v => clerestorykeep2_RuleWithin k v.1 v.2)) (tab65 k)
def strings_Count (k : Nat) (a8 : List UInt8) (a9 : List UInt8) : Option (Int) := cntS a8 a9
def tab67 (k : Nat) : Tab T := addTab 21 (line io0 io4 (0 : Int) (fun v => strings_Count k v.1 v.2)) (tab66 k)
structure clerestorykeep2_showing.G.R where
  clerestorykeep2_showing : (List S38) → Option (Int)
def clerestorykeep2_showing.c23 (k : Nat) (r : clerestorykeep2_showing.G.R) : Nat → (List S38) → Int → Int → Int → ((List S38) → Int → Int → Option (Int)) → Option (Int)
  | 0, _, _, _, _, _ => none
  | n + 1, x18, x19, x20, x21, k2 =>
    cond (decide (0 ≤ x20 ∧ x20 < (x18.length : Int))) (
    let v22 : List S66 := (x18.getD x20.toNat S38.d).Decls
    let v23 : Bool := (decide (x21 < (v22.length : Int)))
    cond v23 (
    cond (decide (0 ≤ x20 ∧ x20 < (x18.length : Int))) (
    let v24 : List S66 := (x18.getD x20.toNat S38.d).Decls
    cond (decide (0 ≤ x21 ∧ x21 < (v24.length : Int))) (
    let v25 : List UInt8 := (v24.getD x21.toNat S66.d).Name
    cond (decide (0 ≤ x20 ∧ x20 < (x18.length : Int))) (
    let v26 : List S66 := (x18.getD x20.toNat S38.d).Decls
    cond (decide (0 ≤ x21 ∧ x21 < (v26.length : Int))) (
    let v27 : List UInt8 := (v26.getD x21.toNat S66.d).Value
    let v28 : Int := (IntKind.wrap .i64 ((v25.length : Int) + (v27.length : Int)))
    let v29 : Int := (IntKind.wrap .i64 (v28 + (4 : Int)))
    let v30 : Int := (IntKind.wrap .i64 (x19 + v29))
    cond (decide (0 ≤ x20 ∧ x20 < (x18.length : Int))) (
    let v31 : List S66 := (x18.getD x20.toNat S38.d).Decls
    cond (decide (0 ≤ x21 ∧ x21 < (v31.length : Int))) (
    let v32 : Bool := (v31.getD x21.toNat S66.d).Important
    cond v32 (
    let v33 : Int := (IntKind.wrap .i64 (v30 + (11 : Int)))
    let v34 : Int := (IntKind.wrap .i64 (x21 + (1 : Int)))
    clerestorykeep2_showing.c23 k r n x18 v33 x20 v34 k2) (
    let v35 : Int := (IntKind.wrap .i64 (x21 + (1 : Int)))
    clerestorykeep2_showing.c23 k r n x18 v30 x20 v35 k2)) none) none) none) none) none) none) (
    k2 x18 x19 x20)) none
def clerestorykeep2_showing.c20 (k : Nat) (r : clerestorykeep2_showing.G.R) (x15 : List S38) (x16 : Int) (x17 : Int) (kn : (List S38) → Int → Int → Option (Int)) : Option (Int) :=
clerestorykeep2_showing.c23 k r k x15 x16 x17 (0 : Int) (fun (y36 : List S38) (y37 : Int) (y38 : Int) =>
cond (decide (0 ≤ y38 ∧ y38 < (y36.length : Int))) (
let v39 : List S38 := (y36.getD y38.toNat S38.d).Rules
(r.clerestorykeep2_showing v39).bind fun r40 =>
let v41 : Int := (IntKind.wrap .i64 (y37 + r40))
kn y36 v41 y38) none)
def clerestorykeep2_showing.c16 (k : Nat) (r : clerestorykeep2_showing.G.R) (x10 : List S38) (x11 : Int) (x12 : Int) (kn : (List S38) → Int → Int → Option (Int)) : Option (Int) :=
cond (decide (0 ≤ x12 ∧ x12 < (x10.length : Int))) (
let v13 : Bool := (x10.getD x12.toNat S38.d).Media
cond v13 (
let v14 : Int := (IntKind.wrap .i64 (x11 + (7 : Int)))
clerestorykeep2_showing.c20 k r x10 v14 x12 (fun (y42 : List S38) (y43 : Int) (y44 : Int) =>
kn y42 y43 y44)) (
clerestorykeep2_showing.c20 k r x10 x11 x12 (fun (y45 : List S38) (y46 : Int) (y47 : Int) =>
kn y45 y46 y47))) none
def clerestorykeep2_showing.c7 (k : Nat) (r : clerestorykeep2_showing.G.R) : Nat → (List S38) → Int → Int → (Int → Option (Int)) → Option (Int)
  | 0, _, _, _, _ => none
  | n + 1, x2, x3, x4, k0 =>
    let v5 : Bool := (decide (x4 < (x2.length : Int)))
    cond v5 (
    cond (decide (0 ≤ x4 ∧ x4 < (x2.length : Int))) (
    let v6 : Int := (((x2.getD x4.toNat S38.d).Head).length : Int)
    let v7 : Int := (IntKind.wrap .i64 (v6 + (4 : Int)))
    cond (decide (0 ≤ x4 ∧ x4 < (x2.length : Int))) (
    let v8 : Bool := (!(((x2.getD x4.toNat S38.d).Head) == ([] : List UInt8)))
    cond v8 (
    let v9 : Int := (IntKind.wrap .i64 ((IntKind.wrap .i64 (x3 + v7)) + (1 : Int)))
    clerestorykeep2_showing.c16 k r x2 v9 x4 (fun (y48 : List S38) (y49 : Int) (y50 : Int) =>
    let v51 : Int := (IntKind.wrap .i64 (y50 + (1 : Int)))
    clerestorykeep2_showing.c7 k r n y48 y49 v51 k0)) (
    clerestorykeep2_showing.c16 k r x2 (IntKind.wrap .i64 (x3 + v7)) x4 (fun (y52 : List S38) (y53 : Int) (y54 : Int) =>
    let v55 : Int := (IntKind.wrap .i64 (y54 + (1 : Int)))
    clerestorykeep2_showing.c7 k r n y52 y53 v55 k0))) none) none) (
    k0 x3)
def clerestorykeep2_showing.nat (k : Nat) (r : clerestorykeep2_showing.G.R) (a1 : List S38) : Option (Int) :=
clerestorykeep2_showing.c7 k r k a1 (0 : Int) (0 : Int) (fun (y56 : Int) =>
some y56)
def clerestorykeep2_showing.G.rec (k : Nat) : Nat → clerestorykeep2_showing.G.R
  | 0 => ⟨fun _ => none⟩
  | n + 1 => ⟨clerestorykeep2_showing.nat k (clerestorykeep2_showing.G.rec k n)⟩
def clerestorykeep2_showing (k : Nat) : (List S38) → Option (Int) := (clerestorykeep2_showing.G.rec k k).clerestorykeep2_showing
def clerestorykeep2_showing.G.tab (k : Nat) (r : clerestorykeep2_showing.G.R) : Tab T := addTab 23 (line io66 io4 (0 : Int) (fun v => r.clerestorykeep2_showing v)) (tab67 k)
def clerestorykeep2_showing.kr (w0 : World) (k : Nat) (r : clerestorykeep2_showing.G.R) : St T → Option (Int) := (retK (cfg w0 (clerestorykeep2_showing.G.tab k r)) Tryd.f23.results.toList 0 [] io4.pat)
def clerestorykeep2_showing.x23 : Ex → Option (List Nat × List Sp)
  | .exit 2 => some ([0, 3, 4], [])
  | _ => none
def clerestorykeep2_showing.L23 (k : Nat) (r : clerestorykeep2_showing.G.R) (n : Nat) (v : (List S38) × Int × Int × Int) (K : Ex → St T → Option (Int)) : Option (Int) := clerestorykeep2_showing.c23 k r n v.1 v.2.1 v.2.2.1 v.2.2.2 (fun y79 y80 y81 => K (.exit 2) (mkSt [0, 3, 4] (io84.enc (y79, y80, y81))))
def clerestorykeep2_showing.x20 : Ex → Option (List Nat × List Sp)
  | .norm => some ([0, 3, 4], [])
  | _ => none
def clerestorykeep2_showing.L20 (k : Nat) (r : clerestorykeep2_showing.G.R) (v : (List S38) × Int × Int) (K : Ex → St T → Option (Int)) : Option (Int) := clerestorykeep2_showing.c20 k r v.1 v.2.1 v.2.2 (fun y82 y83 y84 => K .norm (mkSt [0, 3, 4] (io84.enc (y82, y83, y84))))
def clerestorykeep2_showing.x16 : Ex → Option (List Nat × List Sp)
  | .norm => some ([0, 3, 4], [])
  | _ => none
def clerestorykeep2_showing.L16 (k : Nat) (r : clerestorykeep2_showing.G.R) (v : (List S38) × Int × Int) (K : Ex → St T → Option (Int)) : Option (Int) := clerestorykeep2_showing.c16 k r v.1 v.2.1 v.2.2 (fun y85 y86 y87 => K .norm (mkSt [0, 3, 4] (io84.enc (y85, y86, y87))))
def clerestorykeep2_showing.x7 : Ex → Option (List Nat × List Sp)
  | .exit 0 => some ([3], [])
  | _ => none
def clerestorykeep2_showing.L7 (k : Nat) (r : clerestorykeep2_showing.G.R) (n : Nat) (v : (List S38) × Int × Int) (K : Ex → St T → Option (Int)) : Option (Int) := clerestorykeep2_showing.c7 k r n v.1 v.2.1 v.2.2 (fun y88 => K (.exit 0) (mkSt [3] (io4.enc y88)))
def clerestorykeep2_showing.cuts (w0 : World) (k : Nat) (r : clerestorykeep2_showing.G.R) : Cuts T (Int) := fun n => bif n.beq 23 then some (entK (cfg w0 (clerestorykeep2_showing.G.tab k r)) 0 [0, 3, 4, 5] [] io86.pat (clerestorykeep2_showing.L23 k r k)) else bif n.beq 20 then some (entK (cfg w0 (clerestorykeep2_showing.G.tab k r)) 0 [0, 3, 4] [] io84.pat (clerestorykeep2_showing.L20 k r)) else bif n.beq 16 then some (entK (cfg w0 (clerestorykeep2_showing.G.tab k r)) 0 [0, 3, 4] [] io84.pat (clerestorykeep2_showing.L16 k r)) else bif n.beq 7 then some (entK (cfg w0 (clerestorykeep2_showing.G.tab k r)) 0 [0, 3, 4] [] io84.pat (clerestorykeep2_showing.L7 k r k)) else none
def clerestorykeep2_showing.body : Code := bodyOf Tryd.f23
def clerestorykeep2_showing.b23 : Code := findD 23 clerestorykeep2_showing.body
theorem clerestorykeep2_showing.s23 (w0 : World) (k : Nat) (r : clerestorykeep2_showing.G.R) : ∀ n v K, clerestorykeep2_showing.L23 k r (n + 1) v K = runK (cfg w0 (clerestorykeep2_showing.G.tab k r)) Tryd.f23.ntmps (clerestorykeep2_showing.kr w0 k r) (annot (clerestorykeep2_showing.cuts w0 k r) clerestorykeep2_showing.b23) (mkSt [0, 3, 4, 5] (io86.enc v)) (loopK (cfg w0 (clerestorykeep2_showing.G.tab k r)) 0 clerestorykeep2_showing.x23 (entK (cfg w0 (clerestorykeep2_showing.G.tab k r)) 0 [0, 3, 4, 5] [] io86.pat (clerestorykeep2_showing.L23 k r n)) K) := by
  intro n v K; kernel_rfl
def clerestorykeep2_showing.b20 : Code := findD 20 clerestorykeep2_showing.body
theorem clerestorykeep2_showing.s20 (w0 : World) (k : Nat) (r : clerestorykeep2_showing.G.R) : ∀ v K, clerestorykeep2_showing.L20 k r v K = runK (cfg w0 (clerestorykeep2_showing.G.tab k r)) Tryd.f23.ntmps (clerestorykeep2_showing.kr w0 k r) (annot (clerestorykeep2_showing.cuts w0 k r) clerestorykeep2_showing.b20) (mkSt [0, 3, 4] (io84.enc v)) (outK (cfg w0 (clerestorykeep2_showing.G.tab k r)) 0 clerestorykeep2_showing.x20 K) := by
  intro v K; kernel_rfl
def clerestorykeep2_showing.b16 : Code := findD 16 clerestorykeep2_showing.body
theorem clerestorykeep2_showing.s16 (w0 : World) (k : Nat) (r : clerestorykeep2_showing.G.R) : ∀ v K, clerestorykeep2_showing.L16 k r v K = runK (cfg w0 (clerestorykeep2_showing.G.tab k r)) Tryd.f23.ntmps (clerestorykeep2_showing.kr w0 k r) (annot (clerestorykeep2_showing.cuts w0 k r) clerestorykeep2_showing.b16) (mkSt [0, 3, 4] (io84.enc v)) (outK (cfg w0 (clerestorykeep2_showing.G.tab k r)) 0 clerestorykeep2_showing.x16 K) := by
  intro v K; kernel_rfl
def clerestorykeep2_showing.b7 : Code := findD 7 clerestorykeep2_showing.body
theorem clerestorykeep2_showing.s7 (w0 : World) (k : Nat) (r : clerestorykeep2_showing.G.R) : ∀ n v K, clerestorykeep2_showing.L7 k r (n + 1) v K = runK (cfg w0 (clerestorykeep2_showing.G.tab k r)) Tryd.f23.ntmps (clerestorykeep2_showing.kr w0 k r) (annot (clerestorykeep2_showing.cuts w0 k r) clerestorykeep2_showing.b7) (mkSt [0, 3, 4] (io84.enc v)) (loopK (cfg w0 (clerestorykeep2_showing.G.tab k r)) 0 clerestorykeep2_showing.x7 (entK (cfg w0 (clerestorykeep2_showing.G.tab k r)) 0 [0, 3, 4] [] io84.pat (clerestorykeep2_showing.L7 k r n)) K) := by
  intro n v K; kernel_rfl
theorem clerestorykeep2_showing.e (w0 : World) (k : Nat) (r : clerestorykeep2_showing.G.R) : ∀ v, (fun v => clerestorykeep2_showing.nat k r v) v = runK (cfg w0 (clerestorykeep2_showing.G.tab k r)) Tryd.f23.ntmps (clerestorykeep2_showing.kr w0 k r) (annot (clerestorykeep2_showing.cuts w0 k r) clerestorykeep2_showing.body) (entry (io66.enc v).1 (io66.enc v).2) (endK (clerestorykeep2_showing.kr w0 k r)) := by
  intro v; kernel_rfl
theorem clerestorykeep2_showing.hb : Tryd.f23.body = some clerestorykeep2_showing.body := by kernel_rfl
def tab68 (k : Nat) : Tab T := clerestorykeep2_showing.G.tab k (clerestorykeep2_showing.G.rec k k)
def clerestorykeep2_RuleShown (k : Nat) (a1 : List UInt8) : Option (Bool) :=
(clerestorykeep2_ruleFact k).bind fun r2 =>
(cssrule_Parse k a1).bind fun r3 =>
cond (r3.1 != (0 : Int)) (
let v4 : Bool := (cond r2 (r3.1 == (2 : Int)) false)
let v5 : Bool := ((r3.2.length : Int) == (0 : Int))
let v6 : Bool := (decide ((a1.length : Int) > (3000 : Int)))
(cond ((cond v4 v5 false) && (!v6)) (strings_Count k a1 ([123] : List UInt8)) (some (0 : Int))).bind fun r7 =>
let v8 : Bool := (cond v6 true (decide (r7 > (60 : Int))))
(cond ((cond v4 v5 false) && (!v8)) (strings_Count k a1 ([59] : List UInt8)) (some (0 : Int))).bind fun r9 =>
let v10 : Bool := (cond v8 true (decide (r9 ≥ (30 : Int))))
let v11 : Bool := (cond (cond v4 v5 false) v10 false)
some v11) (
(cssrule_Show k r3.2).bind fun r12 =>
cond (r12.2 != (0 : Int)) (
let v13 : Bool := (cond r2 (r12.2 == (2 : Int)) false)
let v14 : Bool := (cond v13 (r12.1 == ([] : List UInt8)) false)
(cond v14 (clerestorykeep2_showing k r3.2) (some (0 : Int))).bind fun r15 =>
let v16 : Bool := (cond v14 (decide (r15 > (3000 : Int))) false)
some v16) (
(cssrule_Parse k r12.1).bind fun r17 =>
(clerestorykeep2_sameRules k r3.2 r17.2).bind fun r18 =>
let v19 : Bool := (cond r2 (r17.1 == (0 : Int)) false)
some (cond v19 r18 false)))
def clerestorykeep2_RuleShown.kr (w0 : World) (k : Nat) : St T → Option (Bool) := (retK (cfg w0 (tab68 k)) Tryd.f7.results.toList 0 [] io2.pat)
def clerestorykeep2_RuleShown.cuts (w0 : World) (k : Nat) : Cuts T (Bool) := fun n => none
def clerestorykeep2_RuleShown.body : Code := bodyOf Tryd.f7
theorem clerestorykeep2_RuleShown.e (w0 : World) (k : Nat) : ∀ v, (fun v => clerestorykeep2_RuleShown k v) v = runK (cfg w0 (tab68 k)) Tryd.f7.ntmps (clerestorykeep2_RuleShown.kr w0 k) (annot (clerestorykeep2_RuleShown.cuts w0 k) clerestorykeep2_RuleShown.body) (entry (io1.enc v).1 (io1.enc v).2) (endK (clerestorykeep2_RuleShown.kr w0 k)) := by
  intro v; kernel_rfl
theorem clerestorykeep2_RuleShown.hb : Tryd.f7.body = some clerestorykeep2_RuleShown.body := by kernel_rfl
def tab69 (k : Nat) : Tab T := addTab 7 (line io1 io2 false (fun v => clerestorykeep2_RuleShown k v)) (tab68 k)
attribute [local irreducible] runK retK annot entry
end
end Go.Ev.Rb
