/- A part of the evaluator of Go code over small heaps and of its proof: no condition beyond those that each theorem names. -/
import Derived.Test.YtahodlnphioepaaDoorEvLib
import Derived.Test.YtahodlnphioepaaDoorEvShD
import Derived.Test.YtahodlnphioepaaDoorProg
import Derived.KernelRfl
set_option linter.unusedVariables false
set_option maxRecDepth 100000
namespace Go.Ev.Ru
noncomputable section
open Go.Proofs Go.Ev

structure S58 where
  Name : List UInt8
  Value : List UInt8
  Important : Bool
def S58.d : S58 := ⟨[], [], false⟩
structure S77 where
  Kind : Int
  Raw : List UInt8
  Value : List UInt8
  Num : Int
def S77.d : S77 := ⟨0, [], [], 0⟩
structure S91 where
  Media : Bool
  Head : List UInt8
  Decls : List S58
  Rules : List S91
def S91.d : S91 := ⟨false, [], [], []⟩
def base : TypeId → (α : Type) × α
  | 5 => ⟨Int, (0 : Int)⟩
  | 9 => ⟨List UInt8, []⟩
  | 58 => ⟨S58, S58.d⟩
  | 77 => ⟨S77, S77.d⟩
  | 91 => ⟨S91, S91.d⟩
  | _ => ⟨Unit, ()⟩
def T (t : TypeId) : Type := (base t).1
def dflt (t : TypeId) : T t := (base t).2
def dl (t : TypeId) : D T → Option (List (T t))
  | .l t' xs => asT t t' xs
  | .ns => some []
  | _ => none
theorem dl_le {t : TypeId} {d : D T} {l : List (T t)} (h : dl t d = some l) : leD d (.l t l) := by
  unfold dl at h
  split at h
  · rw [asT_l h]; exact .refl _
  · cases h; exact .ns _
  · cases h
def enc5 (x : Int) : List (D T) := [.i .u8 x]
def dec5 (ds : List (D T)) : Option (Int) := match ds with
  | [.i .u8 x0] => some x0
  | _ => none
theorem dec5_ok {ds : List (D T)} {x : Int} (h : dec5 ds = some x) : leDs ds (enc5 x) := by
  unfold dec5 at h
  split at h
  · cases h
    exact .cons (.refl _) <| .nil
  · cases h
def enc9 (x : List UInt8) : List (D T) := [.s x]
def dec9 (ds : List (D T)) : Option (List UInt8) := match ds with
  | [.s x0] => some x0
  | _ => none
theorem dec9_ok {ds : List (D T)} {x : List UInt8} (h : dec9 ds = some x) : leDs ds (enc9 x) := by
  unfold dec9 at h
  split at h
  · cases h
    exact .cons (.refl _) <| .nil
  · cases h
def enc58 (x : S58) : List (D T) := [.s x.Name, .s x.Value, .b x.Important]
def dec58 (ds : List (D T)) : Option (S58) := match ds with
  | [.s x0, .s x1, .b x2] => some ⟨x0, x1, x2⟩
  | _ => none
theorem dec58_ok {ds : List (D T)} {x : S58} (h : dec58 ds = some x) : leDs ds (enc58 x) := by
  unfold dec58 at h
  split at h
  · cases h
    exact .cons (.refl _) <| .cons (.refl _) <| .cons (.refl _) <| .nil
  · cases h
def enc77 (x : S77) : List (D T) := [.i .i64 x.Kind, .s x.Raw, .s x.Value, .i .i64 x.Num]
def dec77 (ds : List (D T)) : Option (S77) := match ds with
  | [.i .i64 x0, .s x1, .s x2, .i .i64 x3] => some ⟨x0, x1, x2, x3⟩
  | _ => none
theorem dec77_ok {ds : List (D T)} {x : S77} (h : dec77 ds = some x) : leDs ds (enc77 x) := by
  unfold dec77 at h
  split at h
  · cases h
    exact .cons (.refl _) <| .cons (.refl _) <| .cons (.refl _) <| .cons (.refl _) <| .nil
  · cases h
def enc91 (x : S91) : List (D T) := [.b x.Media, .s x.Head, .l 58 x.Decls, .l 91 x.Rules]
def dec91 (ds : List (D T)) : Option (S91) := match ds with
  | [.b x0, .s x1, d2, d3] => (dl 58 d2).bind fun l2 => (dl 91 d3).bind fun l3 => some ⟨x0, x1, l2, l3⟩
  | _ => none
theorem dec91_ok {ds : List (D T)} {x : S91} (h : dec91 ds = some x) : leDs ds (enc91 x) := by
  unfold dec91 at h
  split at h
  · obtain ⟨l2, h2, h⟩ := Option.bind_eq_some_iff.1 h
    obtain ⟨l3, h3, h⟩ := Option.bind_eq_some_iff.1 h
    cases h
    exact .cons (.refl _) <| .cons (.refl _) <| .cons (dl_le h2) <| .cons (dl_le h3) <| .nil
  · cases h
def enc : (t : TypeId) → T t → List (D T)
  | 5, x => enc5 x
  | 9, x => enc9 x
  | 58, x => enc58 x
  | 77, x => enc77 x
  | 91, x => enc91 x
  | _, _ => []
def dec (t : TypeId) (ds : List (D T)) : Option (T t) := if h : t = 5 then (h ▸ (dec5 ds : Option (T 5))) else if h : t = 9 then (h ▸ (dec9 ds : Option (T 9))) else if h : t = 58 then (h ▸ (dec58 ds : Option (T 58))) else if h : t = 77 then (h ▸ (dec77 ds : Option (T 77))) else if h : t = 91 then (h ▸ (dec91 ds : Option (T 91))) else none
theorem dec_ok (t : TypeId) (ds : List (D T)) (x : T t) (h : dec t ds = some x) : leDs ds (enc t x) := by
  unfold dec at h
  by_cases h5 : t = 5
  · subst h5; exact dec5_ok (show dec5 ds = some x from h)
  rw [dif_neg h5] at h
  by_cases h9 : t = 9
  · subst h9; exact dec9_ok (show dec9 ds = some x from h)
  rw [dif_neg h9] at h
  by_cases h58 : t = 58
  · subst h58; exact dec58_ok (show dec58 ds = some x from h)
  rw [dif_neg h58] at h
  by_cases h77 : t = 77
  · subst h77; exact dec77_ok (show dec77 ds = some x from h)
  rw [dif_neg h77] at h
  by_cases h91 : t = 91
  · subst h91; exact dec91_ok (show dec91 ds = some x from h)
  rw [dif_neg h91] at h
  cases h
def knl : List TypeId := [5, 9, 58, 77, 91]

def ofB : (t : TypeId) → List UInt8 → List (T t)
  | 5, l => bytesI l
  | _, _ => []
def toB : (t : TypeId) → List (T t) → List UInt8
  | 5, l => bytesU l
  | _, _ => []
def cod : Cod T := ⟨fun t => knl.any (·.beq t), enc, dec, dflt, ofB, toB⟩
def gv : Nat → Option (List (D T))
  | _ => none
def eql : List TypeId := [58]
def hdl : List FuncId := []
def cfg (w0 : World) (t : Tab T) : Cfg T := ⟨Tryd.prog, cod, t, fun t => eql.any (·.beq t), w0, gv, 74, 5, fun f => hdl.any (·.beq f)⟩
/-- What is asked of the first world. -/
structure Wd (w0 : World) : Prop where
  gv : GvOk (cfg w0 noTab)
  mx : NumAt w0 (Sh.ren143.g 1)
  af : Lib.TabIs Tryd.prog w0 "unicode.asciiFold" .u16 afTab

theorem mem_of {l : List TypeId} {t : TypeId} (h : l.any (·.beq t) = true) : t ∈ l := by
  rw [List.any_eq_true] at h
  obtain ⟨x, hx, hb⟩ := h
  rw [← Nat.eq_of_beq_eq_true hb]; exact hx
theorem len5 : 1 = Tryd.prog.cellsOf 5 := by kernel_rfl
theorem len9 : 1 = Tryd.prog.cellsOf 9 := by kernel_rfl
theorem u8_9 : isU8 Tryd.prog 9 = false := by kernel_rfl
theorem len58 : 3 = Tryd.prog.cellsOf 58 := by kernel_rfl
theorem u8_58 : isU8 Tryd.prog 58 = false := by kernel_rfl
theorem len77 : 4 = Tryd.prog.cellsOf 77 := by kernel_rfl
theorem u8_77 : isU8 Tryd.prog 77 = false := by kernel_rfl
theorem len91 : 4 = Tryd.prog.cellsOf 91 := by kernel_rfl
theorem u8_91 : isU8 Tryd.prog 91 = false := by kernel_rfl
theorem fl91 : flatT Tryd.prog 20 91 = false := by kernel_rfl
theorem eqk58 : Tryd.prog.stoodInHeld 58 = false ∧ Tryd.prog.eqGuardType Tryd.prog.depth 58 = false := ⟨by kernel_rfl, by kernel_rfl⟩
theorem zr5 : zeroShape Tryd.prog 5 = true ∧ ∃ ds, zeroCells (T := T) Tryd.prog 5 = some (ofDs ds) ∧ leDs ds (enc5 (0 : Int)) := ⟨by kernel_rfl, [.i .u8 (0 : Int)], by kernel_rfl, .cons (.refl _) <| .nil⟩
theorem zr9 : zeroShape Tryd.prog 9 = true ∧ ∃ ds, zeroCells (T := T) Tryd.prog 9 = some (ofDs ds) ∧ leDs ds (enc9 []) := ⟨by kernel_rfl, [.s ([])], by kernel_rfl, .cons (.refl _) <| .nil⟩
theorem zr58 : zeroShape Tryd.prog 58 = true ∧ ∃ ds, zeroCells (T := T) Tryd.prog 58 = some (ofDs ds) ∧ leDs ds (enc58 S58.d) := ⟨by kernel_rfl, [.s ([]), .s ([]), .b false], by kernel_rfl, .cons (.refl _) <| .cons (.refl _) <| .cons (.refl _) <| .nil⟩
theorem zr77 : zeroShape Tryd.prog 77 = true ∧ ∃ ds, zeroCells (T := T) Tryd.prog 77 = some (ofDs ds) ∧ leDs ds (enc77 S77.d) := ⟨by kernel_rfl, [.i .i64 (0 : Int), .s ([]), .s ([]), .i .i64 (0 : Int)], by kernel_rfl, .cons (.refl _) <| .cons (.refl _) <| .cons (.refl _) <| .cons (.refl _) <| .nil⟩
theorem zr91 : zeroShape Tryd.prog 91 = true ∧ ∃ ds, zeroCells (T := T) Tryd.prog 91 = some (ofDs ds) ∧ leDs ds (enc91 S91.d) := ⟨by kernel_rfl, [.b false, .s ([]), .ns, .ns], by kernel_rfl, .cons (.refl _) <| .cons (.refl _) <| .cons (.ns _) <| .cons (.ns _) <| .nil⟩
theorem fl : Tryd.prog.follows .mixedOrders = true := by kernel_rfl
theorem bytesOk (w0 : World) (t : Tab T) : BytesOk (cfg w0 t) := fun e h1 h2 => by
  have hm := mem_of (l := knl) h2
  simp only [knl, List.mem_cons, List.not_mem_nil, or_false] at hm
  rcases hm with rfl | rfl | rfl | rfl | rfl
  · exact ⟨fun l => by induction l with
      | nil => rfl
      | cons b l ih => exact congrArg (List.cons _) ih, fun xs => ⟨xs, rfl, rfl⟩⟩
  · exact absurd h1 (by rw [show isU8 (cfg w0 _).P 9 = false from u8_9]; exact Bool.false_ne_true)
  · exact absurd h1 (by rw [show isU8 (cfg w0 _).P 58 = false from u8_58]; exact Bool.false_ne_true)
  · exact absurd h1 (by rw [show isU8 (cfg w0 _).P 77 = false from u8_77]; exact Bool.false_ne_true)
  · exact absurd h1 (by rw [show isU8 (cfg w0 _).P 91 = false from u8_91]; exact Bool.false_ne_true)
theorem fine (w0 : World) (hw : Wd w0) (t : Tab T) (h : CfOk (cfg w0 t)) : Fine (cfg w0 t) where
  gv := hw.gv
  bytes := bytesOk w0 t
  cod := by
    refine ⟨fun t ht x => ?_, fun t ds x h => ?_⟩
    · have hm := mem_of (l := knl) ht
      simp only [knl, List.mem_cons, List.not_mem_nil, or_false] at hm
      rcases hm with rfl | rfl | rfl | rfl | rfl
      · exact len5
      · exact len9
      · exact len58
      · exact len77
      · exact len91
    · exact dec_ok t ds x h
  zero := fun t ht => by
    have hm := mem_of (l := knl) ht
    simp only [knl, List.mem_cons, List.not_mem_nil, or_false] at hm
    rcases hm with rfl | rfl | rfl | rfl | rfl
    · exact zr5
    · exact zr9
    · exact zr58
    · exact zr77
    · exact zr91
  eqk := fun t h => by
    have hm := mem_of (l := eql) h
    simp only [eql, List.mem_cons, List.not_mem_nil, or_false] at hm
    rcases hm with rfl
    · exact eqk58
  flat := fun t hf hk x d hd => by
    have hm := mem_of (l := knl) hk
    simp only [knl, List.mem_cons, List.not_mem_nil, or_false] at hm
    rcases hm with rfl | rfl | rfl | rfl | rfl
    · have hd : d ∈ enc5 x := hd
      simp only [enc5, List.mem_cons, List.not_mem_nil, or_false] at hd
      rcases hd with rfl <;> rfl
    · have hd : d ∈ enc9 x := hd
      simp only [enc9, List.mem_cons, List.not_mem_nil, or_false] at hd
      rcases hd with rfl <;> rfl
    · have hd : d ∈ enc58 x := hd
      simp only [enc58, List.mem_cons, List.not_mem_nil, or_false] at hd
      rcases hd with rfl | rfl | rfl <;> rfl
    · have hd : d ∈ enc77 x := hd
      simp only [enc77, List.mem_cons, List.not_mem_nil, or_false] at hd
      rcases hd with rfl | rfl | rfl | rfl <;> rfl
    · exact absurd hf (by rw [show flatT (cfg w0 _).P 20 91 = false from fl91]; exact Bool.false_ne_true)
  cf := h
theorem dr (w0 : World) (hw : Wd w0) (t : Tab T) (h : CfOk (cfg w0 t)) : DrawOk (cfg w0 t) := drawOk_ok (fine w0 hw t h) fl
def io0 : Io T ((List UInt8) × (List UInt8)) where
  enc v := ([.d (.s v.1), .d (.s v.2)], [])
  pat
    | ([.d (.s p1), .d (.s p2)], []) => some (p1, p2)
    | _ => none
  ok z v h := by
    split at h
    · cases h
      all_goals rfl
    · cases h
def io1 : Io T (List UInt8) where
  enc v := ([.d (.s v)], [])
  pat
    | ([.d (.s p1)], []) => some p1
    | _ => none
  ok z v h := by
    split at h
    · cases h
      all_goals rfl
    · cases h
def io2 : Io T (Bool) where
  enc v := ([.d (.b v)], [])
  pat
    | ([.d (.b p1)], []) => some p1
    | _ => none
  ok z v h := by
    split at h
    · cases h
      all_goals rfl
    · cases h
def io3 : Io T ((List UInt8) × Bool) where
  enc v := ([.d (.s v.1), .d (.b v.2)], [])
  pat
    | ([.d (.s p1), .d (.b p2)], []) => some (p1, p2)
    | _ => none
  ok z v h := by
    split at h
    · cases h
      all_goals rfl
    · cases h
def io4 : Io T (Int) where
  enc v := ([.d (.i .i64 v)], [])
  pat
    | ([.d (.i .i64 p1)], []) => some p1
    | _ => none
  ok z v h := by
    split at h
    · cases h
      all_goals rfl
    · cases h
def io5 : Io T (List UInt8) where
  enc v := ([.bp 0], [.bl v])
  pat
    | ([.bp 0], [.bl p1]) => some p1
    | _ => none
  ok z v h := by
    split at h
    · cases h
      all_goals rfl
    · cases h
def io6 : Io T ((List UInt8) × (List UInt8)) where
  enc v := ([.d (.s v.1)], [.bl v.2])
  pat
    | ([.d (.s p1)], [.bl p2]) => some (p1, p2)
    | _ => none
  ok z v h := by
    split at h
    · cases h
      all_goals rfl
    · cases h
def io7 : Io T (Int × (List UInt8)) where
  enc v := ([.bp 0, .d (.i .u8 v.1)], [.bl v.2])
  pat
    | ([.bp 0, .d (.i .u8 p1)], [.bl p2]) => some (p1, p2)
    | _ => none
  ok z v h := by
    split at h
    · cases h
      all_goals rfl
    · cases h
def io8 : Io T (List UInt8) where
  enc v := ([.d .ni], [.bl v])
  pat
    | ([.d .ni], [.bl p1]) => some p1
    | _ => none
  ok z v h := by
    split at h
    · cases h
      all_goals rfl
    · cases h
def io9 : Io T (Int × (List UInt8) × (List UInt8) × Int) where
  enc v := ([.agg [.d (.i .i64 v.1), .d (.s v.2.1), .d (.s v.2.2.1), .d (.i .i64 v.2.2.2)]], [])
  pat
    | ([.agg [.d (.i .i64 p1), .d (.s p2), .d (.s p3), .d (.i .i64 p4)]], []) => some (p1, p2, p3, p4)
    | _ => none
  ok z v h := by
    split at h
    · cases h
      all_goals rfl
    · cases h
def io10 : Io T ((List UInt8) × Int × Int × (List UInt8) × (List UInt8) × Int × (List UInt8)) where
  enc v := ([.d (.s v.1), .ptr 0 0, .bp 1, .d (.i .i64 v.2.1)], [.box [.d (.i .i64 v.2.2.1), .d (.s v.2.2.2.1), .d (.s v.2.2.2.2.1), .d (.i .i64 v.2.2.2.2.2.1)], .bl v.2.2.2.2.2.2])
  pat
    | ([.d (.s p1), .ptr 0 0, .bp 1, .d (.i .i64 p2)], [.box [.d (.i .i64 p3), .d (.s p4), .d (.s p5), .d (.i .i64 p6)], .bl p7]) => some (p1, p2, p3, p4, p5, p6, p7)
    | _ => none
  ok z v h := by
    split at h
    · cases h
      all_goals rfl
    · cases h
def io11 : Io T ((List UInt8) × Int × (List UInt8) × (List UInt8) × Int) where
  enc v := ([.d (.s v.1), .ptr 0 0], [.box [.d (.i .i64 v.2.1), .d (.s v.2.2.1), .d (.s v.2.2.2.1), .d (.i .i64 v.2.2.2.2)]])
  pat
    | ([.d (.s p1), .ptr 0 0], [.box [.d (.i .i64 p2), .d (.s p3), .d (.s p4), .d (.i .i64 p5)]]) => some (p1, p2, p3, p4, p5)
    | _ => none
  ok z v h := by
    split at h
    · cases h
      all_goals rfl
    · cases h
def io12 : Io T (Int) where
  enc v := ([.d (.i .u8 v)], [])
  pat
    | ([.d (.i .u8 p1)], []) => some p1
    | _ => none
  ok z v h := by
    split at h
    · cases h
      all_goals rfl
    · cases h
def io13 : Io T ((List UInt8) × Int) where
  enc v := ([.d (.s v.1), .d (.i .i64 v.2)], [])
  pat
    | ([.d (.s p1), .d (.i .i64 p2)], []) => some (p1, p2)
    | _ => none
  ok z v h := by
    split at h
    · cases h
      all_goals rfl
    · cases h
def io14 : Io T ((List UInt8) × Int × (List UInt8)) where
  enc v := ([.d (.s v.1), .bp 0, .d (.i .i64 v.2.1)], [.bl v.2.2])
  pat
    | ([.d (.s p1), .bp 0, .d (.i .i64 p2)], [.bl p3]) => some (p1, p2, p3)
    | _ => none
  ok z v h := by
    split at h
    · cases h
      all_goals rfl
    · cases h
def io15 : Io T (Int × (List UInt8)) where
  enc v := ([.bp 0, .d (.i .i64 v.1)], [.bl v.2])
  pat
    | ([.bp 0, .d (.i .i64 p1)], [.bl p2]) => some (p1, p2)
    | _ => none
  ok z v h := by
    split at h
    · cases h
      all_goals rfl
    · cases h
def io16 : Io T (Int × (List UInt8) × Int) where
  enc v := ([.d (.i .i64 v.1), .d (.s v.2.1), .d (.i .i64 v.2.2)], [])
  pat
    | ([.d (.i .i64 p1), .d (.s p2), .d (.i .i64 p3)], []) => some (p1, p2, p3)
    | _ => none
  ok z v h := by
    split at h
    · cases h
      all_goals rfl
    · cases h
def io17 : Io T (Int × Int) where
  enc v := ([.d (.i .u8 v.1), .ptr 0 0], [.box [.d (.i .i64 v.2)]])
  pat
    | ([.d (.i .u8 p1), .ptr 0 0], [.box [.d (.i .i64 p2)]]) => some (p1, p2)
    | _ => none
  ok z v h := by
    split at h
    · cases h
      all_goals rfl
    · cases h
def io18 : Io T (Int) where
  enc v := ([], [.box [.d (.i .i64 v)]])
  pat
    | ([], [.box [.d (.i .i64 p1)]]) => some p1
    | _ => none
  ok z v h := by
    split at h
    · cases h
      all_goals rfl
    · cases h
def io19 : Io T (Int × Int) where
  enc v := ([.d (.i .i64 v.1), .d (.i .i64 v.2)], [])
  pat
    | ([.d (.i .i64 p1), .d (.i .i64 p2)], []) => some (p1, p2)
    | _ => none
  ok z v h := by
    split at h
    · cases h
      all_goals rfl
    · cases h
def io20 : Io T ((List UInt8) × Int × Int × Int × Int × Int × Int × (List Int)) where
  enc v := ([.d (.s v.1), .d (.i .i64 v.2.1), .d (.i .i64 v.2.2.1), .d (.i .i64 v.2.2.2.1), .ptr 0 0, .fn 148 [.ptr 0 0], .sl 1 none, .d (.i .i64 v.2.2.2.2.1), .d (.i .i64 v.2.2.2.2.2.1)], [.box [.d (.i .i64 v.2.2.2.2.2.2.1)], .arr 5 v.2.2.2.2.2.2.2])
  pat
    | ([.d (.s p1), .d (.i .i64 p2), .d (.i .i64 p3), .d (.i .i64 p4), .ptr 0 0, .fn 148 [.ptr 0 0], .sl 1 none, .d (.i .i64 p5), .d (.i .i64 p6)], [.box [.d (.i .i64 p7)], .arr tp8 p8]) => (asT 5 tp8 p8).bind fun q8 => some (p1, p2, p3, p4, p5, p6, p7, q8)
    | _ => none
  ok z v h := by
    split at h
    · obtain ⟨q8, hp8, h⟩ := Option.bind_eq_some_iff.1 h
      cases h
      rw [asT_a hp8]
      all_goals rfl
    · cases h
def io21 : Io T ((List UInt8) × Int × Int × Int × Int) where
  enc v := ([.d (.s v.1), .d (.i .i64 v.2.1), .d (.i .i64 v.2.2.1), .d (.i .i64 v.2.2.2.1), .ptr 0 0, .fn 148 [.ptr 0 0]], [.box [.d (.i .i64 v.2.2.2.2)]])
  pat
    | ([.d (.s p1), .d (.i .i64 p2), .d (.i .i64 p3), .d (.i .i64 p4), .ptr 0 0, .fn 148 [.ptr 0 0]], [.box [.d (.i .i64 p5)]]) => some (p1, p2, p3, p4, p5)
    | _ => none
  ok z v h := by
    split at h
    · cases h
      all_goals rfl
    · cases h
def io22 : Io T ((List UInt8) × Int × (List UInt8) × Int × Int) where
  enc v := ([.d (.s v.1), .ptr 0 0, .fn 148 [.ptr 0 0], .d (.i .i64 v.2.1), .d (.s v.2.2.1), .d (.i .i64 v.2.2.2.1)], [.box [.d (.i .i64 v.2.2.2.2)]])
  pat
    | ([.d (.s p1), .ptr 0 0, .fn 148 [.ptr 0 0], .d (.i .i64 p2), .d (.s p3), .d (.i .i64 p4)], [.box [.d (.i .i64 p5)]]) => some (p1, p2, p3, p4, p5)
    | _ => none
  ok z v h := by
    split at h
    · cases h
      all_goals rfl
    · cases h
def io23 : Io T ((List UInt8) × Int × Int) where
  enc v := ([.d (.s v.1), .ptr 0 0, .d (.i .i64 v.2.1)], [.box [.d (.i .i64 v.2.2)]])
  pat
    | ([.d (.s p1), .ptr 0 0, .d (.i .i64 p2)], [.box [.d (.i .i64 p3)]]) => some (p1, p2, p3)
    | _ => none
  ok z v h := by
    split at h
    · cases h
      all_goals rfl
    · cases h
def io24 : Io T (Int × Int) where
  enc v := ([.ptr 0 0, .d (.i .i64 v.1)], [.box [.d (.i .i64 v.2)]])
  pat
    | ([.ptr 0 0, .d (.i .i64 p1)], [.box [.d (.i .i64 p2)]]) => some (p1, p2)
    | _ => none
  ok z v h := by
    split at h
    · cases h
      all_goals rfl
    · cases h
def io25 : Io T ((List UInt8) × Int × (List UInt8) × Int) where
  enc v := ([.d (.s v.1), .ptr 0 0, .fn 148 [.ptr 0 0], .d (.i .i64 v.2.1), .d (.s v.2.2.1)], [.box [.d (.i .i64 v.2.2.2)]])
  pat
    | ([.d (.s p1), .ptr 0 0, .fn 148 [.ptr 0 0], .d (.i .i64 p2), .d (.s p3)], [.box [.d (.i .i64 p4)]]) => some (p1, p2, p3, p4)
    | _ => none
  ok z v h := by
    split at h
    · cases h
      all_goals rfl
    · cases h
def io26 : Io T ((List UInt8) × Int × Int × Int) where
  enc v := ([.d (.s v.1), .d (.i .i64 v.2.1), .d (.i .i64 v.2.2.1), .d (.i .i64 v.2.2.2)], [])
  pat
    | ([.d (.s p1), .d (.i .i64 p2), .d (.i .i64 p3), .d (.i .i64 p4)], []) => some (p1, p2, p3, p4)
    | _ => none
  ok z v h := by
    split at h
    · cases h
      all_goals rfl
    · cases h
def io27 : Io T (Int × Int × (List Int)) where
  enc v := ([.sl 0 none, .sl 0 none, .d (.i .i64 v.1), .d (.i .i64 v.2.1)], [.arr 5 v.2.2])
  pat
    | ([.sl 0 none, .sl 0 none, .d (.i .i64 p1), .d (.i .i64 p2)], [.arr tp3 p3]) => (asT 5 tp3 p3).bind fun q3 => some (p1, p2, q3)
    | _ => none
  ok z v h := by
    split at h
    · obtain ⟨q3, hp3, h⟩ := Option.bind_eq_some_iff.1 h
      cases h
      rw [asT_a hp3]
      all_goals rfl
    · cases h
def io28 : Io T (List Int) where
  enc v := ([.sl 0 none], [.arr 5 v])
  pat
    | ([.sl 0 none], [.arr tp1 p1]) => (asT 5 tp1 p1).bind fun q1 => some q1
    | _ => none
  ok z v h := by
    split at h
    · obtain ⟨q1, hp1, h⟩ := Option.bind_eq_some_iff.1 h
      cases h
      rw [asT_a hp1]
      all_goals rfl
    · cases h
def io29 : Io T ((List UInt8) × Int × Int) where
  enc v := ([.d (.s v.1), .d (.i .i64 v.2.1), .d (.i .i64 v.2.2)], [])
  pat
    | ([.d (.s p1), .d (.i .i64 p2), .d (.i .i64 p3)], []) => some (p1, p2, p3)
    | _ => none
  ok z v h := by
    split at h
    · cases h
      all_goals rfl
    · cases h
def io30 : Io T (Int × (List UInt8) × (List UInt8) × Int × Int × (List UInt8) × (List UInt8) × Int) where
  enc v := ([.ptr 0 0, .ptr 1 0], [.box [.d (.i .i64 v.1), .d (.s v.2.1), .d (.s v.2.2.1), .d (.i .i64 v.2.2.2.1)], .box [.d (.i .i64 v.2.2.2.2.1), .d (.s v.2.2.2.2.2.1), .d (.s v.2.2.2.2.2.2.1), .d (.i .i64 v.2.2.2.2.2.2.2)]])
  pat
    | ([.ptr 0 0, .ptr 1 0], [.box [.d (.i .i64 p1), .d (.s p2), .d (.s p3), .d (.i .i64 p4)], .box [.d (.i .i64 p5), .d (.s p6), .d (.s p7), .d (.i .i64 p8)]]) => some (p1, p2, p3, p4, p5, p6, p7, p8)
    | _ => none
  ok z v h := by
    split at h
    · cases h
      all_goals rfl
    · cases h
def io31 : Io T (Int × (List UInt8)) where
  enc v := ([.d (.i .i64 v.1), .ptr 0 0], [.box [.d (.s v.2)]])
  pat
    | ([.d (.i .i64 p1), .ptr 0 0], [.box [.d (.s p2)]]) => some (p1, p2)
    | _ => none
  ok z v h := by
    split at h
    · cases h
      all_goals rfl
    · cases h
def io32 : Io T (Int × (List UInt8) × (List UInt8) × Int × (List UInt8)) where
  enc v := ([.agg [.d (.i .i64 v.1), .d (.s v.2.1), .d (.s v.2.2.1), .d (.i .i64 v.2.2.2.1)]], [.box [.d (.s v.2.2.2.2)]])
  pat
    | ([.agg [.d (.i .i64 p1), .d (.s p2), .d (.s p3), .d (.i .i64 p4)]], [.box [.d (.s p5)]]) => some (p1, p2, p3, p4, p5)
    | _ => none
  ok z v h := by
    split at h
    · cases h
      all_goals rfl
    · cases h
def io33 : Io T ((List UInt8) × Int × (List UInt8) × (List UInt8) × Int) where
  enc v := ([.ptr 0 0, .ptr 1 0], [.box [.d (.s v.1)], .box [.d (.i .i64 v.2.1), .d (.s v.2.2.1), .d (.s v.2.2.2.1), .d (.i .i64 v.2.2.2.2)]])
  pat
    | ([.ptr 0 0, .ptr 1 0], [.box [.d (.s p1)], .box [.d (.i .i64 p2), .d (.s p3), .d (.s p4), .d (.i .i64 p5)]]) => some (p1, p2, p3, p4, p5)
    | _ => none
  ok z v h := by
    split at h
    · cases h
      all_goals rfl
    · cases h
def io34 : Io T (Int × (List UInt8) × (List UInt8) × Int × (List UInt8)) where
  enc v := ([.ptr 0 0, .fn 101 [.ptr 1 0]], [.box [.d (.i .i64 v.1), .d (.s v.2.1), .d (.s v.2.2.1), .d (.i .i64 v.2.2.2.1)], .box [.d (.s v.2.2.2.2)]])
  pat
    | ([.ptr 0 0, .fn 101 [.ptr 1 0]], [.box [.d (.i .i64 p1), .d (.s p2), .d (.s p3), .d (.i .i64 p4)], .box [.d (.s p5)]]) => some (p1, p2, p3, p4, p5)
    | _ => none
  ok z v h := by
    split at h
    · cases h
      all_goals rfl
    · cases h
def io35 : Io T (List S77) where
  enc v := ([.sl 0 none], [.arr 77 v])
  pat
    | ([.sl 0 none], [.arr tp1 p1]) => (asT 77 tp1 p1).bind fun q1 => some q1
    | _ => none
  ok z v h := by
    split at h
    · obtain ⟨q1, hp1, h⟩ := Option.bind_eq_some_iff.1 h
      cases h
      rw [asT_a hp1]
      all_goals rfl
    · cases h
def io36 : Io T ((List UInt8) × (List S77)) where
  enc v := ([.d (.s v.1), .sl 0 none], [.arr 77 v.2])
  pat
    | ([.d (.s p1), .sl 0 none], [.arr tp2 p2]) => (asT 77 tp2 p2).bind fun q2 => some (p1, q2)
    | _ => none
  ok z v h := by
    split at h
    · obtain ⟨q2, hp2, h⟩ := Option.bind_eq_some_iff.1 h
      cases h
      rw [asT_a hp2]
      all_goals rfl
    · cases h
def io37 : Io T (List S77) where
  enc v := ([.d (.l 77 v)], [])
  pat
    | ([.d (.l tp1 p1)], []) => (asT 77 tp1 p1).bind fun q1 => some q1
    | _ => none
  ok z v h := by
    split at h
    · obtain ⟨q1, hp1, h⟩ := Option.bind_eq_some_iff.1 h
      cases h
      rw [asT_l hp1]
      all_goals rfl
    · cases h
def io38 : Io T (Int × (List UInt8) × (List UInt8) × Int × Int × (List UInt8)) where
  enc v := ([.agg [.d (.i .i64 v.1), .d (.s v.2.1), .d (.s v.2.2.1), .d (.i .i64 v.2.2.2.1)], .d (.i .i64 v.2.2.2.2.1), .d (.s v.2.2.2.2.2)], [])
  pat
    | ([.agg [.d (.i .i64 p1), .d (.s p2), .d (.s p3), .d (.i .i64 p4)], .d (.i .i64 p5), .d (.s p6)], []) => some (p1, p2, p3, p4, p5, p6)
    | _ => none
  ok z v h := by
    split at h
    · cases h
      all_goals rfl
    · cases h
def io39 : Io T (Int × (List UInt8) × (List UInt8) × Int × Bool) where
  enc v := ([.agg [.d (.i .i64 v.1), .d (.s v.2.1), .d (.s v.2.2.1), .d (.i .i64 v.2.2.2.1)], .ptr 0 0], [.box [.d (.b v.2.2.2.2)]])
  pat
    | ([.agg [.d (.i .i64 p1), .d (.s p2), .d (.s p3), .d (.i .i64 p4)], .ptr 0 0], [.box [.d (.b p5)]]) => some (p1, p2, p3, p4, p5)
    | _ => none
  ok z v h := by
    split at h
    · cases h
      all_goals rfl
    · cases h
def io40 : Io T (Bool × Bool) where
  enc v := ([.d (.b v.1)], [.box [.d (.b v.2)]])
  pat
    | ([.d (.b p1)], [.box [.d (.b p2)]]) => some (p1, p2)
    | _ => none
  ok z v h := by
    split at h
    · cases h
      all_goals rfl
    · cases h
def io41 : Io T ((List S77) × Int) where
  enc v := ([.d (.l 77 v.1), .d (.i .i64 v.2)], [])
  pat
    | ([.d (.l tp1 p1), .d (.i .i64 p2)], []) => (asT 77 tp1 p1).bind fun q1 => some (q1, p2)
    | _ => none
  ok z v h := by
    split at h
    · obtain ⟨q1, hp1, h⟩ := Option.bind_eq_some_iff.1 h
      cases h
      rw [asT_l hp1]
      all_goals rfl
    · cases h
def io42 : Io T (Int × Bool) where
  enc v := ([.d (.i .i64 v.1), .d (.b v.2)], [])
  pat
    | ([.d (.i .i64 p1), .d (.b p2)], []) => some (p1, p2)
    | _ => none
  ok z v h := by
    split at h
    · cases h
      all_goals rfl
    · cases h
def io43 : Io T ((List S77) × Int × (List (List UInt8))) where
  enc v := ([.d (.l 77 v.1), .sl 0 none, .d (.i .i64 v.2.1)], [.arr 9 v.2.2])
  pat
    | ([.d (.l tp1 p1), .sl 0 none, .d (.i .i64 p2)], [.arr tp3 p3]) => (asT 77 tp1 p1).bind fun q1 => (asT 9 tp3 p3).bind fun q3 => some (q1, p2, q3)
    | _ => none
  ok z v h := by
    split at h
    · obtain ⟨q1, hp1, h⟩ := Option.bind_eq_some_iff.1 h
      obtain ⟨q3, hp3, h⟩ := Option.bind_eq_some_iff.1 h
      cases h
      rw [asT_l hp1]
      rw [asT_a hp3]
      all_goals rfl
    · cases h
def io44 : Io T ((List S77) × Int × Bool) where
  enc v := ([.d (.l 77 v.1), .d (.i .i64 v.2.1), .fn 83 [.ptr 0 0]], [.box [.d (.b v.2.2)]])
  pat
    | ([.d (.l tp1 p1), .d (.i .i64 p2), .fn 83 [.ptr 0 0]], [.box [.d (.b p3)]]) => (asT 77 tp1 p1).bind fun q1 => some (q1, p2, p3)
    | _ => none
  ok z v h := by
    split at h
    · obtain ⟨q1, hp1, h⟩ := Option.bind_eq_some_iff.1 h
      cases h
      rw [asT_l hp1]
      all_goals rfl
    · cases h
def io45 : Io T (Int × Bool) where
  enc v := ([.d (.i .i64 v.1)], [.box [.d (.b v.2)]])
  pat
    | ([.d (.i .i64 p1)], [.box [.d (.b p2)]]) => some (p1, p2)
    | _ => none
  ok z v h := by
    split at h
    · cases h
      all_goals rfl
    · cases h
def io46 : Io T (List S77) where
  enc v := ([.d (.l 77 v), .fn 123 []], [])
  pat
    | ([.d (.l tp1 p1), .fn 123 []], []) => (asT 77 tp1 p1).bind fun q1 => some q1
    | _ => none
  ok z v h := by
    split at h
    · obtain ⟨q1, hp1, h⟩ := Option.bind_eq_some_iff.1 h
      cases h
      rw [asT_l hp1]
      all_goals rfl
    · cases h
def io47 : Io T ((List S77) × Int × Int) where
  enc v := ([.d (.l 77 v.1), .fn 123 [], .d (.i .i64 v.2.1), .d (.i .i64 v.2.2)], [])
  pat
    | ([.d (.l tp1 p1), .fn 123 [], .d (.i .i64 p2), .d (.i .i64 p3)], []) => (asT 77 tp1 p1).bind fun q1 => some (q1, p2, p3)
    | _ => none
  ok z v h := by
    split at h
    · obtain ⟨q1, hp1, h⟩ := Option.bind_eq_some_iff.1 h
      cases h
      rw [asT_l hp1]
      all_goals rfl
    · cases h
def io48 : Io T (Unit) where
  enc v := ([], [])
  pat
    | ([], []) => some ()
    | _ => none
  ok z v h := by
    split at h <;> cases h; rfl
def io49 : Io T (Int × (List UInt8)) where
  enc v := ([.d (.i .i64 v.1)], [.bl v.2])
  pat
    | ([.d (.i .i64 p1)], [.bl p2]) => some (p1, p2)
    | _ => none
  ok z v h := by
    split at h
    · cases h
      all_goals rfl
    · cases h
def io50 : Io T ((List UInt8) × (List UInt8)) where
  enc v := ([.bp 0, .d (.s v.1)], [.bl v.2])
  pat
    | ([.bp 0, .d (.s p1)], [.bl p2]) => some (p1, p2)
    | _ => none
  ok z v h := by
    split at h
    · cases h
      all_goals rfl
    · cases h
def io51 : Io T (Int × (List UInt8)) where
  enc v := ([.d (.i .i64 v.1), .d .ni], [.bl v.2])
  pat
    | ([.d (.i .i64 p1), .d .ni], [.bl p2]) => some (p1, p2)
    | _ => none
  ok z v h := by
    split at h
    · cases h
      all_goals rfl
    · cases h
def io52 : Io T ((List S77) × Int × Int × (List UInt8) × Int × (List UInt8) × (List UInt8) × Int) where
  enc v := ([.bp 0, .ptr 1 0, .d (.l 77 v.1), .d (.i .i64 v.2.1), .d (.i .i64 v.2.2.1)], [.bl v.2.2.2.1, .box [.d (.i .i64 v.2.2.2.2.1), .d (.s v.2.2.2.2.2.1), .d (.s v.2.2.2.2.2.2.1), .d (.i .i64 v.2.2.2.2.2.2.2)]])
  pat
    | ([.bp 0, .ptr 1 0, .d (.l tp1 p1), .d (.i .i64 p2), .d (.i .i64 p3)], [.bl p4, .box [.d (.i .i64 p5), .d (.s p6), .d (.s p7), .d (.i .i64 p8)]]) => (asT 77 tp1 p1).bind fun q1 => some (q1, p2, p3, p4, p5, p6, p7, p8)
    | _ => none
  ok z v h := by
    split at h
    · obtain ⟨q1, hp1, h⟩ := Option.bind_eq_some_iff.1 h
      cases h
      rw [asT_l hp1]
      all_goals rfl
    · cases h
def io53 : Io T (Bool × (List S77) × Int × Int × (List UInt8)) where
  enc v := ([.bp 0, .d (.b v.1), .d (.l 77 v.2.1), .d (.i .i64 v.2.2.1), .d (.i .i64 v.2.2.2.1)], [.bl v.2.2.2.2])
  pat
    | ([.bp 0, .d (.b p1), .d (.l tp2 p2), .d (.i .i64 p3), .d (.i .i64 p4)], [.bl p5]) => (asT 77 tp2 p2).bind fun q2 => some (p1, q2, p3, p4, p5)
    | _ => none
  ok z v h := by
    split at h
    · obtain ⟨q2, hp2, h⟩ := Option.bind_eq_some_iff.1 h
      cases h
      rw [asT_l hp2]
      all_goals rfl
    · cases h
def io54 : Io T ((List S77) × Int) where
  enc v := ([.d (.l 77 v.1), .d (.i .i64 v.2), .fn 85 []], [])
  pat
    | ([.d (.l tp1 p1), .d (.i .i64 p2), .fn 85 []], []) => (asT 77 tp1 p1).bind fun q1 => some (q1, p2)
    | _ => none
  ok z v h := by
    split at h
    · obtain ⟨q1, hp1, h⟩ := Option.bind_eq_some_iff.1 h
      cases h
      rw [asT_l hp1]
      all_goals rfl
    · cases h
def io55 : Io T ((List S77) × Bool) where
  enc v := ([.d (.l 77 v.1), .d (.b v.2)], [])
  pat
    | ([.d (.l tp1 p1), .d (.b p2)], []) => (asT 77 tp1 p1).bind fun q1 => some (q1, p2)
    | _ => none
  ok z v h := by
    split at h
    · obtain ⟨q1, hp1, h⟩ := Option.bind_eq_some_iff.1 h
      cases h
      rw [asT_l hp1]
      all_goals rfl
    · cases h
def io56 : Io T ((List UInt8) × (List UInt8) × Bool × Bool) where
  enc v := ([.agg [.d (.s v.1), .d (.s v.2.1), .d (.b v.2.2.1)], .d (.b v.2.2.2)], [])
  pat
    | ([.agg [.d (.s p1), .d (.s p2), .d (.b p3)], .d (.b p4)], []) => some (p1, p2, p3, p4)
    | _ => none
  ok z v h := by
    split at h
    · cases h
      all_goals rfl
    · cases h
def io57 : Io T ((List S77) × Bool × (List UInt8) × (List UInt8) × Bool × (List UInt8) × (List UInt8) × Bool) where
  enc v := ([.d (.l 77 v.1), .ptr 0 0, .ptr 1 0, .d (.b v.2.1)], [.box [.d (.s v.2.2.1), .d (.s v.2.2.2.1), .d (.b v.2.2.2.2.1)], .box [.d (.s v.2.2.2.2.2.1), .d (.s v.2.2.2.2.2.2.1), .d (.b v.2.2.2.2.2.2.2)]])
  pat
    | ([.d (.l tp1 p1), .ptr 0 0, .ptr 1 0, .d (.b p2)], [.box [.d (.s p3), .d (.s p4), .d (.b p5)], .box [.d (.s p6), .d (.s p7), .d (.b p8)]]) => (asT 77 tp1 p1).bind fun q1 => some (q1, p2, p3, p4, p5, p6, p7, p8)
    | _ => none
  ok z v h := by
    split at h
    · obtain ⟨q1, hp1, h⟩ := Option.bind_eq_some_iff.1 h
      cases h
      rw [asT_l hp1]
      all_goals rfl
    · cases h
def io58 : Io T (List S58) where
  enc v := ([.sl 0 none], [.arr 58 v])
  pat
    | ([.sl 0 none], [.arr tp1 p1]) => (asT 58 tp1 p1).bind fun q1 => some q1
    | _ => none
  ok z v h := by
    split at h
    · obtain ⟨q1, hp1, h⟩ := Option.bind_eq_some_iff.1 h
      cases h
      rw [asT_a hp1]
      all_goals rfl
    · cases h
def io59 : Io T ((List S77) × Int × (List S58)) where
  enc v := ([.d (.l 77 v.1), .sl 0 none, .d (.i .i64 v.2.1)], [.arr 58 v.2.2])
  pat
    | ([.d (.l tp1 p1), .sl 0 none, .d (.i .i64 p2)], [.arr tp3 p3]) => (asT 77 tp1 p1).bind fun q1 => (asT 58 tp3 p3).bind fun q3 => some (q1, p2, q3)
    | _ => none
  ok z v h := by
    split at h
    · obtain ⟨q1, hp1, h⟩ := Option.bind_eq_some_iff.1 h
      obtain ⟨q3, hp3, h⟩ := Option.bind_eq_some_iff.1 h
      cases h
      rw [asT_l hp1]
      rw [asT_a hp3]
      all_goals rfl
    · cases h
def io60 : Io T ((List S77) × (List S77) × Int) where
  enc v := ([.d (.l 77 v.1), .d (.l 77 v.2.1), .d (.i .i64 v.2.2)], [])
  pat
    | ([.d (.l tp1 p1), .d (.l tp2 p2), .d (.i .i64 p3)], []) => (asT 77 tp1 p1).bind fun q1 => (asT 77 tp2 p2).bind fun q2 => some (q1, q2, p3)
    | _ => none
  ok z v h := by
    split at h
    · obtain ⟨q1, hp1, h⟩ := Option.bind_eq_some_iff.1 h
      obtain ⟨q2, hp2, h⟩ := Option.bind_eq_some_iff.1 h
      cases h
      rw [asT_l hp1]
      rw [asT_l hp2]
      all_goals rfl
    · cases h
def io61 : Io T (Bool × (List UInt8) × (List S58) × (List S91) × Bool) where
  enc v := ([.agg [.d (.b v.1), .d (.s v.2.1), .d (.l 58 v.2.2.1), .d (.l 91 v.2.2.2.1)], .d (.b v.2.2.2.2)], [])
  pat
    | ([.agg [.d (.b p1), .d (.s p2), .d (.l tp3 p3), .d (.l tp4 p4)], .d (.b p5)], []) => (asT 58 tp3 p3).bind fun q3 => (asT 91 tp4 p4).bind fun q4 => some (p1, p2, q3, q4, p5)
    | _ => none
  ok z v h := by
    split at h
    · obtain ⟨q3, hp3, h⟩ := Option.bind_eq_some_iff.1 h
      obtain ⟨q4, hp4, h⟩ := Option.bind_eq_some_iff.1 h
      cases h
      rw [asT_l hp3]
      rw [asT_l hp4]
      all_goals rfl
    · cases h
def io62 : Io T (List S91) where
  enc v := ([.sl 0 none], [.arr 91 v])
  pat
    | ([.sl 0 none], [.arr tp1 p1]) => (asT 91 tp1 p1).bind fun q1 => some q1
    | _ => none
  ok z v h := by
    split at h
    · obtain ⟨q1, hp1, h⟩ := Option.bind_eq_some_iff.1 h
      cases h
      rw [asT_a hp1]
      all_goals rfl
    · cases h
def io63 : Io T ((List S77) × Int × Int × Int × (List S77) × (List S91)) where
  enc v := ([.d (.l 77 v.1), .d (.i .i64 v.2.1), .sl 0 none, .d (.i .i64 v.2.2.1), .d (.i .i64 v.2.2.2.1), .d (.l 77 v.2.2.2.2.1)], [.arr 91 v.2.2.2.2.2])
  pat
    | ([.d (.l tp1 p1), .d (.i .i64 p2), .sl 0 none, .d (.i .i64 p3), .d (.i .i64 p4), .d (.l tp5 p5)], [.arr tp6 p6]) => (asT 77 tp1 p1).bind fun q1 => (asT 77 tp5 p5).bind fun q5 => (asT 91 tp6 p6).bind fun q6 => some (q1, p2, p3, p4, q5, q6)
    | _ => none
  ok z v h := by
    split at h
    · obtain ⟨q1, hp1, h⟩ := Option.bind_eq_some_iff.1 h
      obtain ⟨q5, hp5, h⟩ := Option.bind_eq_some_iff.1 h
      obtain ⟨q6, hp6, h⟩ := Option.bind_eq_some_iff.1 h
      cases h
      rw [asT_l hp1]
      rw [asT_l hp5]
      rw [asT_a hp6]
      all_goals rfl
    · cases h
def io64 : Io T ((List S77) × Int × Int × (List S91)) where
  enc v := ([.d (.l 77 v.1), .d (.i .i64 v.2.1), .sl 0 none, .d (.i .i64 v.2.2.1)], [.arr 91 v.2.2.2])
  pat
    | ([.d (.l tp1 p1), .d (.i .i64 p2), .sl 0 none, .d (.i .i64 p3)], [.arr tp4 p4]) => (asT 77 tp1 p1).bind fun q1 => (asT 91 tp4 p4).bind fun q4 => some (q1, p2, p3, q4)
    | _ => none
  ok z v h := by
    split at h
    · obtain ⟨q1, hp1, h⟩ := Option.bind_eq_some_iff.1 h
      obtain ⟨q4, hp4, h⟩ := Option.bind_eq_some_iff.1 h
      cases h
      rw [asT_l hp1]
      rw [asT_a hp4]
      all_goals rfl
    · cases h
def io65 : Io T ((List S77) × Int × (List S91)) where
  enc v := ([.d (.l 77 v.1), .d (.i .i64 v.2.1), .sl 0 none], [.arr 91 v.2.2])
  pat
    | ([.d (.l tp1 p1), .d (.i .i64 p2), .sl 0 none], [.arr tp3 p3]) => (asT 77 tp1 p1).bind fun q1 => (asT 91 tp3 p3).bind fun q3 => some (q1, p2, q3)
    | _ => none
  ok z v h := by
    split at h
    · obtain ⟨q1, hp1, h⟩ := Option.bind_eq_some_iff.1 h
      obtain ⟨q3, hp3, h⟩ := Option.bind_eq_some_iff.1 h
      cases h
      rw [asT_l hp1]
      rw [asT_a hp3]
      all_goals rfl
    · cases h
def io66 : Io T (List S91) where
  enc v := ([.d (.l 91 v)], [])
  pat
    | ([.d (.l tp1 p1)], []) => (asT 91 tp1 p1).bind fun q1 => some q1
    | _ => none
  ok z v h := by
    split at h
    · obtain ⟨q1, hp1, h⟩ := Option.bind_eq_some_iff.1 h
      cases h
      rw [asT_l hp1]
      all_goals rfl
    · cases h
def io67 : Io T (Int × (List S91) × Int × Int) where
  enc v := ([.d (.i .i64 v.1), .d (.l 91 v.2.1), .d (.i .i64 v.2.2.1), .d (.i .i64 v.2.2.2)], [])
  pat
    | ([.d (.i .i64 p1), .d (.l tp2 p2), .d (.i .i64 p3), .d (.i .i64 p4)], []) => (asT 91 tp2 p2).bind fun q2 => some (p1, q2, p3, p4)
    | _ => none
  ok z v h := by
    split at h
    · obtain ⟨q2, hp2, h⟩ := Option.bind_eq_some_iff.1 h
      cases h
      rw [asT_l hp2]
      all_goals rfl
    · cases h
def io68 : Io T (Int × (List S91)) where
  enc v := ([.sl 0 none, .d (.i .i64 v.1)], [.arr 91 v.2])
  pat
    | ([.sl 0 none, .d (.i .i64 p1)], [.arr tp2 p2]) => (asT 91 tp2 p2).bind fun q2 => some (p1, q2)
    | _ => none
  ok z v h := by
    split at h
    · obtain ⟨q2, hp2, h⟩ := Option.bind_eq_some_iff.1 h
      cases h
      rw [asT_a hp2]
      all_goals rfl
    · cases h
def io69 : Io T ((List S58) × (List S58)) where
  enc v := ([.d (.l 58 v.1), .d (.l 58 v.2)], [])
  pat
    | ([.d (.l tp1 p1), .d (.l tp2 p2)], []) => (asT 58 tp1 p1).bind fun q1 => (asT 58 tp2 p2).bind fun q2 => some (q1, q2)
    | _ => none
  ok z v h := by
    split at h
    · obtain ⟨q1, hp1, h⟩ := Option.bind_eq_some_iff.1 h
      obtain ⟨q2, hp2, h⟩ := Option.bind_eq_some_iff.1 h
      cases h
      rw [asT_l hp1]
      rw [asT_l hp2]
      all_goals rfl
    · cases h
def io70 : Io T ((List S58) × (List S58) × Int) where
  enc v := ([.d (.l 58 v.1), .d (.l 58 v.2.1), .d (.i .i64 v.2.2)], [])
  pat
    | ([.d (.l tp1 p1), .d (.l tp2 p2), .d (.i .i64 p3)], []) => (asT 58 tp1 p1).bind fun q1 => (asT 58 tp2 p2).bind fun q2 => some (q1, q2, p3)
    | _ => none
  ok z v h := by
    split at h
    · obtain ⟨q1, hp1, h⟩ := Option.bind_eq_some_iff.1 h
      obtain ⟨q2, hp2, h⟩ := Option.bind_eq_some_iff.1 h
      cases h
      rw [asT_l hp1]
      rw [asT_l hp2]
      all_goals rfl
    · cases h
def io71 : Io T ((List S91) × (List S91)) where
  enc v := ([.d (.l 91 v.1), .d (.l 91 v.2)], [])
  pat
    | ([.d (.l tp1 p1), .d (.l tp2 p2)], []) => (asT 91 tp1 p1).bind fun q1 => (asT 91 tp2 p2).bind fun q2 => some (q1, q2)
    | _ => none
  ok z v h := by
    split at h
    · obtain ⟨q1, hp1, h⟩ := Option.bind_eq_some_iff.1 h
      obtain ⟨q2, hp2, h⟩ := Option.bind_eq_some_iff.1 h
      cases h
      rw [asT_l hp1]
      rw [asT_l hp2]
      all_goals rfl
    · cases h
def io72 : Io T ((List S91) × (List S91) × Int) where
  enc v := ([.d (.l 91 v.1), .d (.l 91 v.2.1), .d (.i .i64 v.2.2)], [])
  pat
    | ([.d (.l tp1 p1), .d (.l tp2 p2), .d (.i .i64 p3)], []) => (asT 91 tp1 p1).bind fun q1 => (asT 91 tp2 p2).bind fun q2 => some (q1, q2, p3)
    | _ => none
  ok z v h := by
    split at h
    · obtain ⟨q1, hp1, h⟩ := Option.bind_eq_some_iff.1 h
      obtain ⟨q2, hp2, h⟩ := Option.bind_eq_some_iff.1 h
      cases h
      rw [asT_l hp1]
      rw [asT_l hp2]
      all_goals rfl
    · cases h
def io73 : Io T (Bool × Int × Int × (List UInt8) × Int) where
  enc v := ([.d (.b v.1), .d (.i .i64 v.2.1), .d (.i .i64 v.2.2.1), .d (.s v.2.2.2.1), .d (.i .i64 v.2.2.2.2)], [])
  pat
    | ([.d (.b p1), .d (.i .i64 p2), .d (.i .i64 p3), .d (.s p4), .d (.i .i64 p5)], []) => some (p1, p2, p3, p4, p5)
    | _ => none
  ok z v h := by
    split at h
    · cases h
      all_goals rfl
    · cases h
def io74 : Io T (Bool × Int × Int × (List UInt8)) where
  enc v := ([.d (.b v.1), .d (.i .i64 v.2.1), .d (.i .i64 v.2.2.1), .d (.s v.2.2.2)], [])
  pat
    | ([.d (.b p1), .d (.i .i64 p2), .d (.i .i64 p3), .d (.s p4)], []) => some (p1, p2, p3, p4)
    | _ => none
  ok z v h := by
    split at h
    · cases h
      all_goals rfl
    · cases h
def io75 : Io T (Bool × Int × (List UInt8)) where
  enc v := ([.d (.b v.1), .d (.i .i64 v.2.1), .d (.s v.2.2)], [])
  pat
    | ([.d (.b p1), .d (.i .i64 p2), .d (.s p3)], []) => some (p1, p2, p3)
    | _ => none
  ok z v h := by
    split at h
    · cases h
      all_goals rfl
    · cases h
def io76 : Io T (Int × (List S58)) where
  enc v := ([.sl 0 none, .d (.i .i64 v.1)], [.arr 58 v.2])
  pat
    | ([.sl 0 none, .d (.i .i64 p1)], [.arr tp2 p2]) => (asT 58 tp2 p2).bind fun q2 => some (p1, q2)
    | _ => none
  ok z v h := by
    split at h
    · obtain ⟨q2, hp2, h⟩ := Option.bind_eq_some_iff.1 h
      cases h
      rw [asT_a hp2]
      all_goals rfl
    · cases h
def io77 : Io T (List S58) where
  enc v := ([.d (.l 58 v)], [])
  pat
    | ([.d (.l tp1 p1)], []) => (asT 58 tp1 p1).bind fun q1 => some q1
    | _ => none
  ok z v h := by
    split at h
    · obtain ⟨q1, hp1, h⟩ := Option.bind_eq_some_iff.1 h
      cases h
      rw [asT_l hp1]
      all_goals rfl
    · cases h
def io78 : Io T ((List S58) × (List UInt8) × Int) where
  enc v := ([.d (.l 58 v.1), .d (.s v.2.1), .d (.i .i64 v.2.2)], [])
  pat
    | ([.d (.l tp1 p1), .d (.s p2), .d (.i .i64 p3)], []) => (asT 58 tp1 p1).bind fun q1 => some (q1, p2, p3)
    | _ => none
  ok z v h := by
    split at h
    · obtain ⟨q1, hp1, h⟩ := Option.bind_eq_some_iff.1 h
      cases h
      rw [asT_l hp1]
      all_goals rfl
    · cases h
def io79 : Io T ((List UInt8) × (List UInt8) × Int) where
  enc v := ([.d (.s v.1), .d (.s v.2.1), .d (.i .i64 v.2.2)], [])
  pat
    | ([.d (.s p1), .d (.s p2), .d (.i .i64 p3)], []) => some (p1, p2, p3)
    | _ => none
  ok z v h := by
    split at h
    · cases h
      all_goals rfl
    · cases h
def tab0 (k : Nat) : Tab T := noTab
def strings_TrimLeft (k : Nat) (a3 : List UInt8) (a4 : List UInt8) : Option (List UInt8) := trimL a3 a4
def tab1 (k : Nat) : Tab T := addTab 102 (line io0 io1 [] (fun v => strings_TrimLeft k v.1 v.2)) (tab0 k)
def stringslite_HasPrefix (k : Nat) (a1 : List UInt8) (a2 : List UInt8) : Option (Bool) :=
let v3 : Bool := (decide ((a1.length : Int) ≥ (a2.length : Int)))
cond ((decide (0 ≤ (a2.length : Int) ∧ (a2.length : Int) ≤ (a1.length : Int))) || !v3) (
let v4 : List UInt8 := (a1.take (a2.length : Int).toNat)
some (cond v3 (v4 == a2) false)) none
def stringslite_HasPrefix.kr (w0 : World) (k : Nat) : St T → Option (Bool) := (retK (cfg w0 (tab1 k)) Tryd.f133.results.toList 0 [] io2.pat)
def stringslite_HasPrefix.cuts (w0 : World) (k : Nat) : Cuts T (Bool) := fun n => none
def stringslite_HasPrefix.body : Code := bodyOf Tryd.f133
theorem stringslite_HasPrefix.e (w0 : World) (k : Nat) : ∀ v, (fun v => stringslite_HasPrefix k v.1 v.2) v = runK (cfg w0 (tab1 k)) Tryd.f133.ntmps (stringslite_HasPrefix.kr w0 k) (annot (stringslite_HasPrefix.cuts w0 k) stringslite_HasPrefix.body) (entry (io0.enc v).1 (io0.enc v).2) (endK (stringslite_HasPrefix.kr w0 k)) := by
  intro v; kernel_rfl
theorem stringslite_HasPrefix.hb : Tryd.f133.body = some stringslite_HasPrefix.body := by kernel_rfl
def tab2 (k : Nat) : Tab T := addTab 133 (line io0 io2 false (fun v => stringslite_HasPrefix k v.1 v.2)) (tab1 k)
def stringslite_CutPrefix (k : Nat) (a1 : List UInt8) (a2 : List UInt8) : Option ((List UInt8) × Bool) :=
(stringslite_HasPrefix k a1 a2).bind fun r3 =>
cond (!r3) (
some (a1, false)) (
cond (decide (0 ≤ (a2.length : Int) ∧ (a2.length : Int) ≤ (a1.length : Int))) (
let v4 : List UInt8 := (a1.drop (a2.length : Int).toNat)
some (v4, true)) none)
def stringslite_CutPrefix.kr (w0 : World) (k : Nat) : St T → Option ((List UInt8) × Bool) := (retK (cfg w0 (tab2 k)) Tryd.f143.results.toList 0 [] io3.pat)
def stringslite_CutPrefix.cuts (w0 : World) (k : Nat) : Cuts T ((List UInt8) × Bool) := fun n => none
def stringslite_CutPrefix.body : Code := bodyOf Tryd.f143
theorem stringslite_CutPrefix.e (w0 : World) (k : Nat) : ∀ v, (fun v => stringslite_CutPrefix k v.1 v.2) v = runK (cfg w0 (tab2 k)) Tryd.f143.ntmps (stringslite_CutPrefix.kr w0 k) (annot (stringslite_CutPrefix.cuts w0 k) stringslite_CutPrefix.body) (entry (io0.enc v).1 (io0.enc v).2) (endK (stringslite_CutPrefix.kr w0 k)) := by
  intro v; kernel_rfl
theorem stringslite_CutPrefix.hb : Tryd.f143.body = some stringslite_CutPrefix.body := by kernel_rfl
def tab3 (k : Nat) : Tab T := addTab 143 (line io0 io3 ([], false) (fun v => stringslite_CutPrefix k v.1 v.2)) (tab2 k)
def strings_CutPrefix (k : Nat) (a1 : List UInt8) (a2 : List UInt8) : Option ((List UInt8) × Bool) :=
(stringslite_CutPrefix k a1 a2).bind fun r3 =>
some (r3.1, r3.2)
def strings_CutPrefix.kr (w0 : World) (k : Nat) : St T → Option ((List UInt8) × Bool) := (retK (cfg w0 (tab3 k)) Tryd.f103.results.toList 0 [] io3.pat)
def strings_CutPrefix.cuts (w0 : World) (k : Nat) : Cuts T ((List UInt8) × Bool) := fun n => none
def strings_CutPrefix.body : Code := bodyOf Tryd.f103
theorem strings_CutPrefix.e (w0 : World) (k : Nat) : ∀ v, (fun v => strings_CutPrefix k v.1 v.2) v = runK (cfg w0 (tab3 k)) Tryd.f103.ntmps (strings_CutPrefix.kr w0 k) (annot (strings_CutPrefix.cuts w0 k) strings_CutPrefix.body) (entry (io0.enc v).1 (io0.enc v).2) (endK (strings_CutPrefix.kr w0 k)) := by
  intro v; kernel_rfl
theorem strings_CutPrefix.hb : Tryd.f103.body = some strings_CutPrefix.body := by kernel_rfl
def tab4 (k : Nat) : Tab T := addTab 103 (line io0 io3 ([], false) (fun v => strings_CutPrefix k v.1 v.2)) (tab3 k)
def strings_Index (k : Nat) (a5 : List UInt8) (a6 : List UInt8) : Option (Int) := findS a5 a6
def tab5 (k : Nat) : Tab T := addTab 53 (line io0 io4 (0 : Int) (fun v => strings_Index k v.1 v.2)) (tab4 k)
def f__strings_Builder__String (k : Nat) (a14 : List UInt8) : Option ((List UInt8) × (List UInt8)) := some (a14, a14)
def tab6 (k : Nat) : Tab T := addTab 43 (line io5 io6 ([], []) (fun v => f__strings_Builder__String k v)) (tab5 k)
def f__strings_Builder__WriteByte (k : Nat) (a21 : Int) (a22 : List UInt8) : Option (List UInt8) := wByte a22 a21
def tab7 (k : Nat) : Tab T := addTab 98 (line io7 io8 [] (fun v => f__strings_Builder__WriteByte k v.1 v.2)) (tab6 k)
def csstok_text.c7 (k : Nat) : Nat → (List UInt8) → Int → Int → (List UInt8) → (List UInt8) → Int → (List UInt8) → ((List UInt8) → Int → (List UInt8) → (List UInt8) → Int → Option (Int × (List UInt8) × (List UInt8) × Int)) → Option (Int × (List UInt8) × (List UInt8) × Int)
  | 0, _, _, _, _, _, _, _, _ => none
  | n + 1, x2, x3, x4, x5, x6, x7, x8, k0 =>
    let v9 : Bool := (decide (x3 < (x2.length : Int)))
    cond v9 (
    cond (decide (0 ≤ x3 ∧ x3 < (x2.length : Int))) (
    let v10 : Int := ((x2.getD x3.toNat 0).toNat : Int)
    cond (decide (0 ≤ (0 : Int) ∧ (0 : Int) < (x2.length : Int))) (
    let v11 : Int := ((x2.getD (0 : Int).toNat 0).toNat : Int)
    cond (v10 == v11) (
    let v12 : Int := (IntKind.wrap .i64 (x3 + (1 : Int)))
    cond (decide (0 ≤ v12 ∧ v12 ≤ (x2.length : Int))) (
    (f__strings_Builder__String k x8).bind fun r13 =>
    some ((5 : Int), (x2.take v12.toNat), r13.1, (0 : Int))) none) (
    cond (v10 == (10 : Int)) (
    cond (decide (0 ≤ x3 ∧ x3 ≤ (x2.length : Int))) (
    some ((6 : Int), (x2.take x3.toNat), [], (0 : Int))) none) (
    let v14 : Int := (IntKind.wrap .i64 (x3 + (1 : Int)))
    let v15 : Bool := (decide (v14 < (x2.length : Int)))
    let v16 : Bool := (cond (v10 == (92 : Int)) v15 false)
    cond v16 (
    let v17 : Int := (IntKind.wrap .i64 (x3 + (1 : Int)))
    cond (decide (0 ≤ v17 ∧ v17 < (x2.length : Int))) (
    let v18 : Int := ((x2.getD v17.toNat 0).toNat : Int)
    (f__strings_Builder__WriteByte k v18 x8).bind fun r19 =>
    let v20 : Int := (IntKind.wrap .i64 (v17 + (1 : Int)))
    csstok_text.c7 k n x2 v20 x4 x5 x6 x7 r19 k0) none) (
    (f__strings_Builder__WriteByte k v10 x8).bind fun r21 =>
    let v22 : Int := (IntKind.wrap .i64 (x3 + (1 : Int)))
    csstok_text.c7 k n x2 v22 x4 x5 x6 x7 r21 k0)))) none) none) (
    k0 x2 x4 x5 x6 x7)
def csstok_text (k : Nat) (a1 : List UInt8) : Option (Int × (List UInt8) × (List UInt8) × Int) :=
csstok_text.c7 k k a1 (1 : Int) (0 : Int) ([]) ([]) (0 : Int) ([] : List UInt8) (fun (y23 : List UInt8) (y24 : Int) (y25 : List UInt8) (y26 : List UInt8) (y27 : Int) =>
some ((6 : Int), y23, [], (0 : Int)))
def csstok_text.kr (w0 : World) (k : Nat) : St T → Option (Int × (List UInt8) × (List UInt8) × Int) := (retK (cfg w0 (tab7 k)) Tryd.f104.results.toList 0 [] io9.pat)
def csstok_text.x7 : Ex → Option (List Nat × List Sp)
  | .exit 0 => some ([0, 2], [])
  | _ => none
def csstok_text.L7 (k : Nat) (n : Nat) (v : (List UInt8) × Int × Int × (List UInt8) × (List UInt8) × Int × (List UInt8)) (K : Ex → St T → Option (Int × (List UInt8) × (List UInt8) × Int)) : Option (Int × (List UInt8) × (List UInt8) × Int) := csstok_text.c7 k n v.1 v.2.1 v.2.2.1 v.2.2.2.1 v.2.2.2.2.1 v.2.2.2.2.2.1 v.2.2.2.2.2.2 (fun y16 y17 y18 y19 y20 => K (.exit 0) (mkSt [0, 2] (io11.enc (y16, y17, y18, y19, y20))))
def csstok_text.cuts (w0 : World) (k : Nat) : Cuts T (Int × (List UInt8) × (List UInt8) × Int) := fun n => bif n.beq 7 then some (entK (cfg w0 (tab7 k)) 0 [0, 2, 3, 4] [] io10.pat (csstok_text.L7 k k)) else none
def csstok_text.body : Code := bodyOf Tryd.f104
def csstok_text.b7 : Code := findD 7 csstok_text.body
theorem csstok_text.s7 (w0 : World) (k : Nat) : ∀ n v K, csstok_text.L7 k (n + 1) v K = runK (cfg w0 (tab7 k)) Tryd.f104.ntmps (csstok_text.kr w0 k) (annot (csstok_text.cuts w0 k) csstok_text.b7) (mkSt [0, 2, 3, 4] (io10.enc v)) (loopK (cfg w0 (tab7 k)) 0 csstok_text.x7 (entK (cfg w0 (tab7 k)) 0 [0, 2, 3, 4] [] io10.pat (csstok_text.L7 k n)) K) := by
  intro n v K; kernel_rfl
theorem csstok_text.e (w0 : World) (k : Nat) : ∀ v, (fun v => csstok_text k v) v = runK (cfg w0 (tab7 k)) Tryd.f104.ntmps (csstok_text.kr w0 k) (annot (csstok_text.cuts w0 k) csstok_text.body) (entry (io1.enc v).1 (io1.enc v).2) (endK (csstok_text.kr w0 k)) := by
  intro v; kernel_rfl
theorem csstok_text.hb : Tryd.f104.body = some csstok_text.body := by kernel_rfl
def tab8 (k : Nat) : Tab T := addTab 104 (line io1 io9 ((0 : Int), [], [], (0 : Int)) (fun v => csstok_text k v)) (tab7 k)
def csstok_starts (k : Nat) (a1 : Int) : Option (Bool) :=
let v2 : Bool := (cond (decide (a1 ≥ (128 : Int))) true (a1 == (95 : Int)))
let v3 : Int := (IntKind.wrap .u8 (((BitVec.ofInt (IntKind.bits .u8) a1 ||| BitVec.ofInt (IntKind.bits .u8) (32 : Int)).toNat : Int)))
let v4 : Int := (IntKind.wrap .u8 (((BitVec.ofInt (IntKind.bits .u8) a1 ||| BitVec.ofInt (IntKind.bits .u8) (32 : Int)).toNat : Int)))
let v5 : Bool := (cond (decide (v3 ≥ (97 : Int))) (decide (v4 ≤ (122 : Int))) false)
some (cond v2 true v5)
def csstok_starts.kr (w0 : World) (k : Nat) : St T → Option (Bool) := (retK (cfg w0 (tab8 k)) Tryd.f144.results.toList 0 [] io2.pat)
def csstok_starts.cuts (w0 : World) (k : Nat) : Cuts T (Bool) := fun n => none
def csstok_starts.body : Code := bodyOf Tryd.f144
theorem csstok_starts.e (w0 : World) (k : Nat) : ∀ v, (fun v => csstok_starts k v) v = runK (cfg w0 (tab8 k)) Tryd.f144.ntmps (csstok_starts.kr w0 k) (annot (csstok_starts.cuts w0 k) csstok_starts.body) (entry (io12.enc v).1 (io12.enc v).2) (endK (csstok_starts.kr w0 k)) := by
  intro v; kernel_rfl
theorem csstok_starts.hb : Tryd.f144.body = some csstok_starts.body := by kernel_rfl
def tab9 (k : Nat) : Tab T := addTab 144 (line io12 io2 false (fun v => csstok_starts k v)) (tab8 k)
def csstok_digit (k : Nat) (a1 : Int) : Option (Bool) :=
let v2 : Bool := (cond (decide (a1 ≥ (48 : Int))) (decide (a1 ≤ (57 : Int))) false)
some v2
def csstok_digit.kr (w0 : World) (k : Nat) : St T → Option (Bool) := (retK (cfg w0 (tab9 k)) Tryd.f145.results.toList 0 [] io2.pat)
def csstok_digit.cuts (w0 : World) (k : Nat) : Cuts T (Bool) := fun n => none
def csstok_digit.body : Code := bodyOf Tryd.f145
theorem csstok_digit.e (w0 : World) (k : Nat) : ∀ v, (fun v => csstok_digit k v) v = runK (cfg w0 (tab9 k)) Tryd.f145.ntmps (csstok_digit.kr w0 k) (annot (csstok_digit.cuts w0 k) csstok_digit.body) (entry (io12.enc v).1 (io12.enc v).2) (endK (csstok_digit.kr w0 k)) := by
  intro v; kernel_rfl
theorem csstok_digit.hb : Tryd.f145.body = some csstok_digit.body := by kernel_rfl
def tab10 (k : Nat) : Tab T := addTab 145 (line io12 io2 false (fun v => csstok_digit k v)) (tab9 k)
def csstok_sign (k : Nat) (a1 : Int) : Option (Bool) :=
(csstok_starts k a1).bind fun r2 =>
(cond (!r2) (csstok_digit k a1) (some false)).bind fun r3 =>
let v4 : Bool := (cond (cond r2 true r3) true (a1 == (45 : Int)))
some v4
def csstok_sign.kr (w0 : World) (k : Nat) : St T → Option (Bool) := (retK (cfg w0 (tab10 k)) Tryd.f105.results.toList 0 [] io2.pat)
def csstok_sign.cuts (w0 : World) (k : Nat) : Cuts T (Bool) := fun n => none
def csstok_sign.body : Code := bodyOf Tryd.f105
theorem csstok_sign.e (w0 : World) (k : Nat) : ∀ v, (fun v => csstok_sign k v) v = runK (cfg w0 (tab10 k)) Tryd.f105.ntmps (csstok_sign.kr w0 k) (annot (csstok_sign.cuts w0 k) csstok_sign.body) (entry (io12.enc v).1 (io12.enc v).2) (endK (csstok_sign.kr w0 k)) := by
  intro v; kernel_rfl
theorem csstok_sign.hb : Tryd.f105.body = some csstok_sign.body := by kernel_rfl
def tab11 (k : Nat) : Tab T := addTab 105 (line io12 io2 false (fun v => csstok_sign k v)) (tab10 k)
def csstok_escape (k : Nat) (a1 : List UInt8) : Option (Bool) :=
let v2 : Bool := (decide ((a1.length : Int) > (1 : Int)))
cond ((decide (0 ≤ (0 : Int) ∧ (0 : Int) < (a1.length : Int))) || !v2) (
let v3 : Int := ((a1.getD (0 : Int).toNat 0).toNat : Int)
let v4 : Bool := (cond v2 (v3 == (92 : Int)) false)
cond ((decide (0 ≤ (1 : Int) ∧ (1 : Int) < (a1.length : Int))) || !v4) (
let v5 : Int := ((a1.getD (1 : Int).toNat 0).toNat : Int)
let v6 : Bool := (cond v4 (v5 != (10 : Int)) false)
some v6) none) none
def csstok_escape.kr (w0 : World) (k : Nat) : St T → Option (Bool) := (retK (cfg w0 (tab11 k)) Tryd.f106.results.toList 0 [] io2.pat)
def csstok_escape.cuts (w0 : World) (k : Nat) : Cuts T (Bool) := fun n => none
def csstok_escape.body : Code := bodyOf Tryd.f106
theorem csstok_escape.e (w0 : World) (k : Nat) : ∀ v, (fun v => csstok_escape k v) v = runK (cfg w0 (tab11 k)) Tryd.f106.ntmps (csstok_escape.kr w0 k) (annot (csstok_escape.cuts w0 k) csstok_escape.body) (entry (io1.enc v).1 (io1.enc v).2) (endK (csstok_escape.kr w0 k)) := by
  intro v; kernel_rfl
theorem csstok_escape.hb : Tryd.f106.body = some csstok_escape.body := by kernel_rfl
def tab12 (k : Nat) : Tab T := addTab 106 (line io1 io2 false (fun v => csstok_escape k v)) (tab11 k)
def csstok_name.c7 (k : Nat) : Nat → (List UInt8) → Int → (List UInt8) → (Int → (List UInt8) → Option ((List UInt8) × Int)) → Option ((List UInt8) × Int)
  | 0, _, _, _, _ => none
  | n + 1, x2, x3, x4, k0 =>
    let v5 : Bool := (decide (x3 < (x2.length : Int)))
    cond v5 (
    cond (decide (0 ≤ x3 ∧ x3 ≤ (x2.length : Int))) (
    (csstok_escape k (x2.drop x3.toNat)).bind fun r6 =>
    cond r6 (
    let v7 : Int := (IntKind.wrap .i64 (x3 + (1 : Int)))
    cond (decide (0 ≤ v7 ∧ v7 < (x2.length : Int))) (
    let v8 : Int := ((x2.getD v7.toNat 0).toNat : Int)
    (f__strings_Builder__WriteByte k v8 x4).bind fun r9 =>
    let v10 : Int := (IntKind.wrap .i64 (x3 + (2 : Int)))
    csstok_name.c7 k n x2 v10 r9 k0) none) (
    cond (decide (0 ≤ x3 ∧ x3 < (x2.length : Int))) (
    let v11 : Int := ((x2.getD x3.toNat 0).toNat : Int)
    (csstok_sign k v11).bind fun r12 =>
    cond r12 (
    cond (decide (0 ≤ x3 ∧ x3 < (x2.length : Int))) (
    let v13 : Int := ((x2.getD x3.toNat 0).toNat : Int)
    (f__strings_Builder__WriteByte k v13 x4).bind fun r14 =>
    let v15 : Int := (IntKind.wrap .i64 (x3 + (1 : Int)))
    csstok_name.c7 k n x2 v15 r14 k0) none) (
    (f__strings_Builder__String k x4).bind fun r16 =>
    some (r16.1, x3))) none)) none) (
    k0 x3 x4)
def csstok_name (k : Nat) (a1 : List UInt8) : Option ((List UInt8) × Int) :=
csstok_name.c7 k k a1 (0 : Int) ([] : List UInt8) (fun (y17 : Int) (y18 : List UInt8) =>
(f__strings_Builder__String k y18).bind fun r19 =>
some (r19.1, y17))
def csstok_name.kr (w0 : World) (k : Nat) : St T → Option ((List UInt8) × Int) := (retK (cfg w0 (tab12 k)) Tryd.f146.results.toList 0 [] io13.pat)
def csstok_name.x7 : Ex → Option (List Nat × List Sp)
  | .exit 0 => some ([4, 5], [])
  | _ => none
def csstok_name.L7 (k : Nat) (n : Nat) (v : (List UInt8) × Int × (List UInt8)) (K : Ex → St T → Option ((List UInt8) × Int)) : Option ((List UInt8) × Int) := csstok_name.c7 k n v.1 v.2.1 v.2.2 (fun y21 y22 => K (.exit 0) (mkSt [4, 5] (io15.enc (y21, y22))))
def csstok_name.cuts (w0 : World) (k : Nat) : Cuts T ((List UInt8) × Int) := fun n => bif n.beq 7 then some (entK (cfg w0 (tab12 k)) 0 [0, 4, 5] [] io14.pat (csstok_name.L7 k k)) else none
def csstok_name.body : Code := bodyOf Tryd.f146
def csstok_name.b7 : Code := findD 7 csstok_name.body
theorem csstok_name.s7 (w0 : World) (k : Nat) : ∀ n v K, csstok_name.L7 k (n + 1) v K = runK (cfg w0 (tab12 k)) Tryd.f146.ntmps (csstok_name.kr w0 k) (annot (csstok_name.cuts w0 k) csstok_name.b7) (mkSt [0, 4, 5] (io14.enc v)) (loopK (cfg w0 (tab12 k)) 0 csstok_name.x7 (entK (cfg w0 (tab12 k)) 0 [0, 4, 5] [] io14.pat (csstok_name.L7 k n)) K) := by
  intro n v K; kernel_rfl
theorem csstok_name.e (w0 : World) (k : Nat) : ∀ v, (fun v => csstok_name k v) v = runK (cfg w0 (tab12 k)) Tryd.f146.ntmps (csstok_name.kr w0 k) (annot (csstok_name.cuts w0 k) csstok_name.body) (entry (io1.enc v).1 (io1.enc v).2) (endK (csstok_name.kr w0 k)) := by
  intro v; kernel_rfl
theorem csstok_name.hb : Tryd.f146.body = some csstok_name.body := by kernel_rfl
def tab13 (k : Nat) : Tab T := addTab 146 (line io1 io13 ([], (0 : Int)) (fun v => csstok_name k v)) (tab12 k)
def csstok_named (k : Nat) (a1 : Int) (a2 : List UInt8) (a3 : Int) : Option (Int × (List UInt8) × (List UInt8) × Int) :=
cond (decide (0 ≤ a3 ∧ a3 ≤ (a2.length : Int))) (
(csstok_name k (a2.drop a3.toNat)).bind fun r4 =>
let v5 : Int := (IntKind.wrap .i64 (a3 + r4.2))
cond (decide (0 ≤ v5 ∧ v5 ≤ (a2.length : Int))) (
some (a1, (a2.take v5.toNat), r4.1, (0 : Int))) none) none
def csstok_named.kr (w0 : World) (k : Nat) : St T → Option (Int × (List UInt8) × (List UInt8) × Int) := (retK (cfg w0 (tab13 k)) Tryd.f107.results.toList 0 [] io9.pat)
def csstok_named.cuts (w0 : World) (k : Nat) : Cuts T (Int × (List UInt8) × (List UInt8) × Int) := fun n => none
def csstok_named.body : Code := bodyOf Tryd.f107
theorem csstok_named.e (w0 : World) (k : Nat) : ∀ v, (fun v => csstok_named k v.1 v.2.1 v.2.2) v = runK (cfg w0 (tab13 k)) Tryd.f107.ntmps (csstok_named.kr w0 k) (annot (csstok_named.cuts w0 k) csstok_named.body) (entry (io16.enc v).1 (io16.enc v).2) (endK (csstok_named.kr w0 k)) := by
  intro v; kernel_rfl
theorem csstok_named.hb : Tryd.f107.body = some csstok_named.body := by kernel_rfl
def tab14 (k : Nat) : Tab T := addTab 107 (line io16 io9 ((0 : Int), [], [], (0 : Int)) (fun v => csstok_named k v.1 v.2.1 v.2.2)) (tab13 k)
def csstok_begins (k : Nat) (a1 : List UInt8) : Option (Bool) :=
cond (a1 == ([] : List UInt8)) (
some false) (
cond (decide (0 ≤ (0 : Int) ∧ (0 : Int) < (a1.length : Int))) (
let v2 : Int := ((a1.getD (0 : Int).toNat 0).toNat : Int)
let v3 : Bool := (decide ((a1.length : Int) > (1 : Int)))
let v4 : Bool := (cond (v2 == (45 : Int)) v3 false)
cond v4 (
cond (decide (0 ≤ (1 : Int) ∧ (1 : Int) < (a1.length : Int))) (
let v5 : Int := ((a1.getD (1 : Int).toNat 0).toNat : Int)
cond ((decide (0 ≤ (1 : Int) ∧ (1 : Int) < (a1.length : Int))) || !(!(v5 == (45 : Int)))) (
let v6 : Int := ((a1.getD (1 : Int).toNat 0).toNat : Int)
(cond (!(v5 == (45 : Int))) (csstok_starts k v6) (some false)).bind fun r7 =>
let v8 : Bool := (cond (v5 == (45 : Int)) true r7)
cond ((decide (0 ≤ (1 : Int) ∧ (1 : Int) ≤ (a1.length : Int))) || !(!v8)) (
(cond (!v8) (csstok_escape k (a1.drop (1 : Int).toNat)) (some false)).bind fun r9 =>
some (cond v8 true r9)) none) none) none) (
cond (decide (0 ≤ (0 : Int) ∧ (0 : Int) < (a1.length : Int))) (
let v10 : Int := ((a1.getD (0 : Int).toNat 0).toNat : Int)
(csstok_starts k v10).bind fun r11 =>
(cond (!r11) (csstok_escape k a1) (some false)).bind fun r12 =>
some (cond r11 true r12)) none)) none)
def csstok_begins.kr (w0 : World) (k : Nat) : St T → Option (Bool) := (retK (cfg w0 (tab14 k)) Tryd.f108.results.toList 0 [] io2.pat)
def csstok_begins.cuts (w0 : World) (k : Nat) : Cuts T (Bool) := fun n => none
def csstok_begins.body : Code := bodyOf Tryd.f108
theorem csstok_begins.e (w0 : World) (k : Nat) : ∀ v, (fun v => csstok_begins k v) v = runK (cfg w0 (tab14 k)) Tryd.f108.ntmps (csstok_begins.kr w0 k) (annot (csstok_begins.cuts w0 k) csstok_begins.body) (entry (io1.enc v).1 (io1.enc v).2) (endK (csstok_begins.kr w0 k)) := by
  intro v; kernel_rfl
theorem csstok_begins.hb : Tryd.f108.body = some csstok_begins.body := by kernel_rfl
def tab15 (k : Nat) : Tab T := addTab 108 (line io1 io2 false (fun v => csstok_begins k v)) (tab14 k)
def csstok_digits (k : Nat) (a1 : List UInt8) : Option (Int) :=
(strings_TrimLeft k a1 ([48, 49, 50, 51, 52, 53, 54, 55, 56, 57] : List UInt8)).bind fun r2 =>
let v3 : Int := (IntKind.wrap .i64 ((a1.length : Int) - (r2.length : Int)))
some v3
def csstok_digits.kr (w0 : World) (k : Nat) : St T → Option (Int) := (retK (cfg w0 (tab15 k)) Tryd.f147.results.toList 0 [] io4.pat)
def csstok_digits.cuts (w0 : World) (k : Nat) : Cuts T (Int) := fun n => none
def csstok_digits.body : Code := bodyOf Tryd.f147
theorem csstok_digits.e (w0 : World) (k : Nat) : ∀ v, (fun v => csstok_digits k v) v = runK (cfg w0 (tab15 k)) Tryd.f147.ntmps (csstok_digits.kr w0 k) (annot (csstok_digits.cuts w0 k) csstok_digits.body) (entry (io1.enc v).1 (io1.enc v).2) (endK (csstok_digits.kr w0 k)) := by
  intro v; kernel_rfl
theorem csstok_digits.hb : Tryd.f147.body = some csstok_digits.body := by kernel_rfl
def tab16 (k : Nat) : Tab T := addTab 147 (line io1 io4 (0 : Int) (fun v => csstok_digits k v)) (tab15 k)
def strings_HasPrefix (k : Nat) (a1 : List UInt8) (a2 : List UInt8) : Option (Bool) :=
(stringslite_HasPrefix k a1 a2).bind fun r3 =>
some r3
def strings_HasPrefix.kr (w0 : World) (k : Nat) : St T → Option (Bool) := (retK (cfg w0 (tab16 k)) Tryd.f92.results.toList 0 [] io2.pat)
def strings_HasPrefix.cuts (w0 : World) (k : Nat) : Cuts T (Bool) := fun n => none
def strings_HasPrefix.body : Code := bodyOf Tryd.f92
theorem strings_HasPrefix.e (w0 : World) (k : Nat) : ∀ v, (fun v => strings_HasPrefix k v.1 v.2) v = runK (cfg w0 (tab16 k)) Tryd.f92.ntmps (strings_HasPrefix.kr w0 k) (annot (strings_HasPrefix.cuts w0 k) strings_HasPrefix.body) (entry (io0.enc v).1 (io0.enc v).2) (endK (strings_HasPrefix.kr w0 k)) := by
  intro v; kernel_rfl
theorem strings_HasPrefix.hb : Tryd.f92.body = some strings_HasPrefix.body := by kernel_rfl
def tab17 (k : Nat) : Tab T := addTab 92 (line io0 io2 false (fun v => strings_HasPrefix k v.1 v.2)) (tab16 k)
def csstok_Number_1 (k : Nat) (a1 : Int) (a2 : Int) : Option (Int) :=
let v3 : Int := (IntKind.wrap .i64 ((10 : Int) * a2))
let v4 : Int := (IntKind.wrap .u8 (a1 - (48 : Int)))
let v5 : Int := (IntKind.wrap .i64 (v3 + (IntKind.wrap .i64 v4)))
let v6 : Int := (if (1000000000 : Int) < v5 then (1000000000 : Int) else v5)
some v6
def csstok_Number_1.kr (w0 : World) (k : Nat) : St T → Option (Int) := (retK (cfg w0 (tab17 k)) Tryd.f148.results.toList 1 [] io18.pat)
def csstok_Number_1.cuts (w0 : World) (k : Nat) : Cuts T (Int) := fun n => none
def csstok_Number_1.body : Code := bodyOf Tryd.f148
theorem csstok_Number_1.e (w0 : World) (k : Nat) : ∀ v, (fun v => csstok_Number_1 k v.1 v.2) v = runK (cfg w0 (tab17 k)) Tryd.f148.ntmps (csstok_Number_1.kr w0 k) (annot (csstok_Number_1.cuts w0 k) csstok_Number_1.body) (entry (io17.enc v).1 (io17.enc v).2) (endK (csstok_Number_1.kr w0 k)) := by
  intro v; kernel_rfl
theorem csstok_Number_1.hb : Tryd.f148.body = some csstok_Number_1.body := by kernel_rfl
def tab18 (k : Nat) : Tab T := addTab 148 (line io17 io18 (0 : Int) (fun v => csstok_Number_1 k v.1 v.2)) (tab17 k)
def csstok_Number.c29 (k : Nat) : Nat → (List UInt8) → Int → Int → Int → Int → Int → Int → (List Int) → ((List UInt8) → Int → Int → Int → Int → Option (Int × Int)) → Option (Int × Int)
  | 0, _, _, _, _, _, _, _, _, _ => none
  | n + 1, x19, x20, x21, x22, x23, x24, x25, x26, k0 =>
    cond (decide (x24 < x23)) (
    cond (decide (0 ≤ x24 ∧ x24 < (x26.length : Int))) (
    (csstok_Number_1 k (x26.getD x24.toNat (0 : Int)) x25).bind fun r27 =>
    let v28 : Int := (IntKind.wrap .i64 (x24 + (1 : Int)))
    csstok_Number.c29 k n x19 x20 x21 x22 x23 v28 r27 x26 k0) none) (
    k0 x19 x20 x21 x22 x25)
def csstok_Number.c49 (k : Nat) : Nat → (List UInt8) → Int → (List UInt8) → Int → Int → ((List UInt8) → Int → Int → Option (Int × Int)) → Option (Int × Int)
  | 0, _, _, _, _, _, _ => none
  | n + 1, x45, x46, x47, x48, x49, k2 =>
    cond (decide (x48 < (3 : Int))) (
    let v50 : Bool := (decide (x48 < (x47.length : Int)))
    cond v50 (
    cond (decide (0 ≤ x48 ∧ x48 < (x47.length : Int))) (
    let v51 : Int := ((x47.getD x48.toNat 0).toNat : Int)
    (csstok_Number_1 k v51 x49).bind fun r52 =>
    let v53 : Int := (IntKind.wrap .i64 (x48 + (1 : Int)))
    csstok_Number.c49 k n x45 x46 x47 v53 r52 k2) none) (
    (csstok_Number_1 k (48 : Int) x49).bind fun r54 =>
    let v55 : Int := (IntKind.wrap .i64 (x48 + (1 : Int)))
    csstok_Number.c49 k n x45 x46 x47 v55 r54 k2)) (
    k2 x45 x46 x49)
def csstok_Number.c64 (k : Nat) (x60 : Int) (x61 : Int)  : Option (Int × Int) :=
some (x61, x60)
def csstok_Number.c46 (k : Nat) (x41 : List UInt8) (x42 : Int) (x43 : List UInt8) (x44 : Int)  : Option (Int × Int) :=
csstok_Number.c49 k k x41 x42 x43 (0 : Int) x44 (fun (y56 : List UInt8) (y57 : Int) (y58 : Int) =>
cond (decide (0 ≤ (0 : Int) ∧ (0 : Int) < (y56.length : Int))) (
let v59 : Int := ((y56.getD (0 : Int).toNat 0).toNat : Int)
cond (v59 == (45 : Int)) (
csstok_Number.c64 k y57 (IntKind.wrap .i64 (0 - y58))) (
csstok_Number.c64 k y57 y58)) none)
def csstok_Number.c18 (k : Nat) (x12 : List UInt8) (x13 : Int) (x14 : Int) (x15 : Int)  : Option (Int × Int) :=
let v16 : Int := (IntKind.wrap .i64 (x14 + x15))
cond (v16 == (0 : Int)) (
some ((0 : Int), (0 : Int))) (
let v17 : Int := (IntKind.wrap .i64 (x13 + x14))
cond (decide (0 ≤ x13 ∧ x13 ≤ v17 ∧ v17 ≤ (x12.length : Int))) (
let v18 : List UInt8 := ((x12.take v17.toNat).drop x13.toNat)
csstok_Number.c29 k k x12 x13 x14 x15 ((bytesI v18).length : Int) (0 : Int) (0 : Int) (bytesI v18) (fun (y29 : List UInt8) (y30 : Int) (y31 : Int) (y32 : Int) (y33 : Int) =>
let v34 : Int := (IntKind.wrap .i64 (y30 + y31))
cond (decide (y32 > (0 : Int))) (
let v35 : Int := (IntKind.wrap .i64 (v34 + (1 : Int)))
let v36 : Int := (IntKind.wrap .i64 (v34 + (1 : Int)))
let v37 : Int := (IntKind.wrap .i64 (v36 + y32))
cond (decide (0 ≤ v35 ∧ v35 ≤ v37 ∧ v37 ≤ (y29.length : Int))) (
let v38 : List UInt8 := ((y29.take v37.toNat).drop v35.toNat)
let v39 : Int := (IntKind.wrap .i64 ((1 : Int) + y32))
let v40 : Int := (IntKind.wrap .i64 (v34 + v39))
csstok_Number.c46 k y29 v40 v38 y33) none) (
csstok_Number.c46 k y29 v34 ([] : List UInt8) y33))) none)
def csstok_Number.c8 (k : Nat) (x6 : List UInt8) (x7 : Int)  : Option (Int × Int) :=
cond (decide (0 ≤ x7 ∧ x7 ≤ (x6.length : Int))) (
(csstok_digits k (x6.drop x7.toNat)).bind fun r8 =>
cond (decide (0 ≤ (IntKind.wrap .i64 (x7 + r8)) ∧ (IntKind.wrap .i64 (x7 + r8)) ≤ (x6.length : Int))) (
let v9 : List UInt8 := (x6.drop (IntKind.wrap .i64 (x7 + r8)).toNat)
(strings_HasPrefix k v9 ([46] : List UInt8)).bind fun r10 =>
cond r10 (
cond (decide (0 ≤ (1 : Int) ∧ (1 : Int) ≤ (v9.length : Int))) (
(csstok_digits k (v9.drop (1 : Int).toNat)).bind fun r11 =>
csstok_Number.c18 k x6 x7 r8 r11) none) (
csstok_Number.c18 k x6 x7 r8 (0 : Int))) none) none
def csstok_Number (k : Nat) (a1 : List UInt8) : Option (Int × Int) :=
cond ((decide (0 ≤ (0 : Int) ∧ (0 : Int) < (a1.length : Int))) || !(!(a1 == ([] : List UInt8)))) (
let v2 : Int := ((a1.getD (0 : Int).toNat 0).toNat : Int)
cond ((decide (0 ≤ (0 : Int) ∧ (0 : Int) < (a1.length : Int))) || !((!(a1 == ([] : List UInt8))) && (!(v2 == (43 : Int))))) (
let v3 : Int := ((a1.getD (0 : Int).toNat 0).toNat : Int)
let v4 : Bool := (cond (v2 == (43 : Int)) true (v3 == (45 : Int)))
let v5 : Bool := (cond (!(a1 == ([] : List UInt8))) v4 false)
cond v5 (
csstok_Number.c8 k a1 (1 : Int)) (
csstok_Number.c8 k a1 (0 : Int))) none) none
def csstok_Number.kr (w0 : World) (k : Nat) : St T → Option (Int × Int) := (retK (cfg w0 (tab18 k)) Tryd.f109.results.toList 0 [] io19.pat)
def csstok_Number.x29 : Ex → Option (List Nat × List Sp)
  | .exit 0 => some ([0, 4, 5, 6, 8, 9], [])
  | _ => none
def csstok_Number.L29 (k : Nat) (n : Nat) (v : (List UInt8) × Int × Int × Int × Int × Int × Int × (List Int)) (K : Ex → St T → Option (Int × Int)) : Option (Int × Int) := csstok_Number.c29 k n v.1 v.2.1 v.2.2.1 v.2.2.2.1 v.2.2.2.2.1 v.2.2.2.2.2.1 v.2.2.2.2.2.2.1 v.2.2.2.2.2.2.2 (fun y23 y24 y25 y26 y27 => K (.exit 0) (mkSt [0, 4, 5, 6, 8, 9] (io21.enc (y23, y24, y25, y26, y27))))
def csstok_Number.x49 : Ex → Option (List Nat × List Sp)
  | .exit 2 => some ([0, 8, 12], [])
  | _ => none
def csstok_Number.L49 (k : Nat) (n : Nat) (v : (List UInt8) × Int × (List UInt8) × Int × Int) (K : Ex → St T → Option (Int × Int)) : Option (Int × Int) := csstok_Number.c49 k n v.1 v.2.1 v.2.2.1 v.2.2.2.1 v.2.2.2.2 (fun y28 y29 y30 => K (.exit 2) (mkSt [0, 8, 12] (io23.enc (y28, y29, y30))))
def csstok_Number.x64 : Ex → Option (List Nat × List Sp)
  | _ => none
def csstok_Number.L64 (k : Nat) (v : Int × Int) (K : Ex → St T → Option (Int × Int)) : Option (Int × Int) := csstok_Number.c64 k v.1 v.2
def csstok_Number.x46 : Ex → Option (List Nat × List Sp)
  | _ => none
def csstok_Number.L46 (k : Nat) (v : (List UInt8) × Int × (List UInt8) × Int) (K : Ex → St T → Option (Int × Int)) : Option (Int × Int) := csstok_Number.c46 k v.1 v.2.1 v.2.2.1 v.2.2.2
def csstok_Number.x18 : Ex → Option (List Nat × List Sp)
  | _ => none
def csstok_Number.L18 (k : Nat) (v : (List UInt8) × Int × Int × Int) (K : Ex → St T → Option (Int × Int)) : Option (Int × Int) := csstok_Number.c18 k v.1 v.2.1 v.2.2.1 v.2.2.2
def csstok_Number.x8 : Ex → Option (List Nat × List Sp)
  | _ => none
def csstok_Number.L8 (k : Nat) (v : (List UInt8) × Int) (K : Ex → St T → Option (Int × Int)) : Option (Int × Int) := csstok_Number.c8 k v.1 v.2
def csstok_Number.cuts (w0 : World) (k : Nat) : Cuts T (Int × Int) := fun n => bif n.beq 29 then some (entK (cfg w0 (tab18 k)) 0 [0, 4, 5, 6, 8, 9, 52, 53, 54] [] io20.pat (csstok_Number.L29 k k)) else bif n.beq 49 then some (entK (cfg w0 (tab18 k)) 0 [0, 8, 9, 12, 13, 79] [] io22.pat (csstok_Number.L49 k k)) else bif n.beq 64 then some (entK (cfg w0 (tab18 k)) 0 [8, 12] [] io24.pat (csstok_Number.L64 k)) else bif n.beq 46 then some (entK (cfg w0 (tab18 k)) 0 [0, 8, 9, 12, 13] [] io25.pat (csstok_Number.L46 k)) else bif n.beq 18 then some (entK (cfg w0 (tab18 k)) 0 [0, 4, 5, 6] [] io26.pat (csstok_Number.L18 k)) else bif n.beq 8 then some (entK (cfg w0 (tab18 k)) 0 [0, 4] [] io13.pat (csstok_Number.L8 k)) else none
def csstok_Number.body : Code := bodyOf Tryd.f109
def csstok_Number.b29 : Code := findD 29 csstok_Number.body
theorem csstok_Number.s29 (w0 : World) (k : Nat) : ∀ n v K, csstok_Number.L29 k (n + 1) v K = runK (cfg w0 (tab18 k)) Tryd.f109.ntmps (csstok_Number.kr w0 k) (annot (csstok_Number.cuts w0 k) csstok_Number.b29) (mkSt [0, 4, 5, 6, 8, 9, 52, 53, 54] (io20.enc v)) (loopK (cfg w0 (tab18 k)) 0 csstok_Number.x29 (entK (cfg w0 (tab18 k)) 0 [0, 4, 5, 6, 8, 9, 52, 53, 54] [] io20.pat (csstok_Number.L29 k n)) K) := by
  intro n v K; kernel_rfl
def csstok_Number.b49 : Code := findD 49 csstok_Number.body
theorem csstok_Number.s49 (w0 : World) (k : Nat) : ∀ n v K, csstok_Number.L49 k (n + 1) v K = runK (cfg w0 (tab18 k)) Tryd.f109.ntmps (csstok_Number.kr w0 k) (annot (csstok_Number.cuts w0 k) csstok_Number.b49) (mkSt [0, 8, 9, 12, 13, 79] (io22.enc v)) (loopK (cfg w0 (tab18 k)) 0 csstok_Number.x49 (entK (cfg w0 (tab18 k)) 0 [0, 8, 9, 12, 13, 79] [] io22.pat (csstok_Number.L49 k n)) K) := by
  intro n v K; kernel_rfl
def csstok_Number.b64 : Code := findD 64 csstok_Number.body
theorem csstok_Number.s64 (w0 : World) (k : Nat) : ∀ v K, csstok_Number.L64 k v K = runK (cfg w0 (tab18 k)) Tryd.f109.ntmps (csstok_Number.kr w0 k) (annot (csstok_Number.cuts w0 k) csstok_Number.b64) (mkSt [8, 12] (io24.enc v)) (outK (cfg w0 (tab18 k)) 0 csstok_Number.x64 K) := by
  intro v K; kernel_rfl
def csstok_Number.b46 : Code := findD 46 csstok_Number.body
theorem csstok_Number.s46 (w0 : World) (k : Nat) : ∀ v K, csstok_Number.L46 k v K = runK (cfg w0 (tab18 k)) Tryd.f109.ntmps (csstok_Number.kr w0 k) (annot (csstok_Number.cuts w0 k) csstok_Number.b46) (mkSt [0, 8, 9, 12, 13] (io25.enc v)) (outK (cfg w0 (tab18 k)) 0 csstok_Number.x46 K) := by
  intro v K; kernel_rfl
def csstok_Number.b18 : Code := findD 18 csstok_Number.body
theorem csstok_Number.s18 (w0 : World) (k : Nat) : ∀ v K, csstok_Number.L18 k v K = runK (cfg w0 (tab18 k)) Tryd.f109.ntmps (csstok_Number.kr w0 k) (annot (csstok_Number.cuts w0 k) csstok_Number.b18) (mkSt [0, 4, 5, 6] (io26.enc v)) (outK (cfg w0 (tab18 k)) 0 csstok_Number.x18 K) := by
  intro v K; kernel_rfl
def csstok_Number.b8 : Code := findD 8 csstok_Number.body
theorem csstok_Number.s8 (w0 : World) (k : Nat) : ∀ v K, csstok_Number.L8 k v K = runK (cfg w0 (tab18 k)) Tryd.f109.ntmps (csstok_Number.kr w0 k) (annot (csstok_Number.cuts w0 k) csstok_Number.b8) (mkSt [0, 4] (io13.enc v)) (outK (cfg w0 (tab18 k)) 0 csstok_Number.x8 K) := by
  intro v K; kernel_rfl
theorem csstok_Number.e (w0 : World) (k : Nat) : ∀ v, (fun v => csstok_Number k v) v = runK (cfg w0 (tab18 k)) Tryd.f109.ntmps (csstok_Number.kr w0 k) (annot (csstok_Number.cuts w0 k) csstok_Number.body) (entry (io1.enc v).1 (io1.enc v).2) (endK (csstok_Number.kr w0 k)) := by
  intro v; kernel_rfl
theorem csstok_Number.hb : Tryd.f109.body = some csstok_Number.body := by kernel_rfl
def tab19 (k : Nat) : Tab T := addTab 109 (line io1 io19 ((0 : Int), (0 : Int)) (fun v => csstok_Number k v)) (tab18 k)
def csstok_lower.c7 (k : Nat) : Nat → Int → Int → (List Int) → ((List Int) → Option (List UInt8)) → Option (List UInt8)
  | 0, _, _, _, _ => none
  | n + 1, x2, x3, x4, k0 =>
    cond (decide (x3 < x2)) (
    cond (decide (0 ≤ x3 ∧ x3 < (x4.length : Int))) (
    let v5 : Bool := (decide ((x4.getD x3.toNat (0 : Int)) ≥ (65 : Int)))
    let v6 : Bool := (decide ((x4.getD x3.toNat (0 : Int)) ≤ (90 : Int)))
    cond (cond v5 v6 false) (
    let v7 : Int := (IntKind.wrap .u8 ((x4.getD x3.toNat (0 : Int)) + (32 : Int)))
    cond (decide (0 ≤ x3 ∧ x3 < (x4.length : Int))) (
    let v8 : Int := (IntKind.wrap .i64 (x3 + (1 : Int)))
    csstok_lower.c7 k n x2 v8 (x4.set x3.toNat v7) k0) none) (
    let v9 : Int := (IntKind.wrap .i64 (x3 + (1 : Int)))
    csstok_lower.c7 k n x2 v9 x4 k0)) none) (
    k0 x4)
def csstok_lower (k : Nat) (a1 : List UInt8) : Option (List UInt8) :=
csstok_lower.c7 k k ((bytesI a1).length : Int) (0 : Int) (bytesI a1) (fun (y10 : List Int) =>
some (bytesU y10))
def csstok_lower.kr (w0 : World) (k : Nat) : St T → Option (List UInt8) := (retK (cfg w0 (tab19 k)) Tryd.f149.results.toList 0 [] io1.pat)
def csstok_lower.x7 : Ex → Option (List Nat × List Sp)
  | .exit 0 => some ([3], [])
  | _ => none
def csstok_lower.L7 (k : Nat) (n : Nat) (v : Int × Int × (List Int)) (K : Ex → St T → Option (List UInt8)) : Option (List UInt8) := csstok_lower.c7 k n v.1 v.2.1 v.2.2 (fun y31 => K (.exit 0) (mkSt [3] (io28.enc y31)))
def csstok_lower.cuts (w0 : World) (k : Nat) : Cuts T (List UInt8) := fun n => bif n.beq 7 then some (entK (cfg w0 (tab19 k)) 0 [3, 8, 9, 10] [] io27.pat (csstok_lower.L7 k k)) else none
def csstok_lower.body : Code := bodyOf Tryd.f149
def csstok_lower.b7 : Code := findD 7 csstok_lower.body
theorem csstok_lower.s7 (w0 : World) (k : Nat) : ∀ n v K, csstok_lower.L7 k (n + 1) v K = runK (cfg w0 (tab19 k)) Tryd.f149.ntmps (csstok_lower.kr w0 k) (annot (csstok_lower.cuts w0 k) csstok_lower.b7) (mkSt [3, 8, 9, 10] (io27.enc v)) (loopK (cfg w0 (tab19 k)) 0 csstok_lower.x7 (entK (cfg w0 (tab19 k)) 0 [3, 8, 9, 10] [] io27.pat (csstok_lower.L7 k n)) K) := by
  intro n v K; kernel_rfl
theorem csstok_lower.e (w0 : World) (k : Nat) : ∀ v, (fun v => csstok_lower k v) v = runK (cfg w0 (tab19 k)) Tryd.f149.ntmps (csstok_lower.kr w0 k) (annot (csstok_lower.cuts w0 k) csstok_lower.body) (entry (io1.enc v).1 (io1.enc v).2) (endK (csstok_lower.kr w0 k)) := by
  intro v; kernel_rfl
theorem csstok_lower.hb : Tryd.f149.body = some csstok_lower.body := by kernel_rfl
def tab20 (k : Nat) : Tab T := addTab 149 (line io1 io1 [] (fun v => csstok_lower k v)) (tab19 k)
def csstok_number.c16 (k : Nat) (x6 : Int) (x7 : List UInt8) (x8 : List UInt8) (x9 : Int) (x10 : Int) (x11 : List UInt8) (x12 : List UInt8) (x13 : Int)  : Option (Int × (List UInt8) × (List UInt8) × Int) :=
some (x10, x11, x12, x13)
def csstok_number (k : Nat) (a1 : List UInt8) (a2 : Int) (a3 : Int) : Option (Int × (List UInt8) × (List UInt8) × Int) :=
cond (decide (0 ≤ a3 ∧ a3 ≤ (a1.length : Int))) (
cond (decide (0 ≤ a3 ∧ a3 ≤ (a1.length : Int))) (
(strings_HasPrefix k (a1.drop a3.toNat) ([37] : List UInt8)).bind fun r4 =>
cond r4 (
let v5 : Int := (IntKind.wrap .i64 (a3 + (1 : Int)))
cond (decide (0 ≤ v5 ∧ v5 ≤ (a1.length : Int))) (
csstok_number.c16 k (0 : Int) ([]) ([]) (0 : Int) (7 : Int) (a1.take v5.toNat) ([37] : List UInt8) a2) none) (
(csstok_begins k (a1.drop a3.toNat)).bind fun r14 =>
cond r14 (
(csstok_name k (a1.drop a3.toNat)).bind fun r15 =>
let v16 : Int := (IntKind.wrap .i64 (a3 + r15.2))
cond (decide (0 ≤ v16 ∧ v16 ≤ (a1.length : Int))) (
(csstok_lower k r15.1).bind fun r17 =>
csstok_number.c16 k (0 : Int) ([]) ([]) (0 : Int) (7 : Int) (a1.take v16.toNat) r17 a2) none) (
csstok_number.c16 k (0 : Int) ([]) ([]) (0 : Int) (7 : Int) (a1.take a3.toNat) ([]) a2))) none) none
def csstok_number.kr (w0 : World) (k : Nat) : St T → Option (Int × (List UInt8) × (List UInt8) × Int) := (retK (cfg w0 (tab20 k)) Tryd.f110.results.toList 0 [] io9.pat)
def csstok_number.x16 : Ex → Option (List Nat × List Sp)
  | _ => none
def csstok_number.L16 (k : Nat) (v : Int × (List UInt8) × (List UInt8) × Int × Int × (List UInt8) × (List UInt8) × Int) (K : Ex → St T → Option (Int × (List UInt8) × (List UInt8) × Int)) : Option (Int × (List UInt8) × (List UInt8) × Int) := csstok_number.c16 k v.1 v.2.1 v.2.2.1 v.2.2.2.1 v.2.2.2.2.1 v.2.2.2.2.2.1 v.2.2.2.2.2.2.1 v.2.2.2.2.2.2.2
def csstok_number.cuts (w0 : World) (k : Nat) : Cuts T (Int × (List UInt8) × (List UInt8) × Int) := fun n => bif n.beq 16 then some (entK (cfg w0 (tab20 k)) 0 [6, 7] [] io30.pat (csstok_number.L16 k)) else none
def csstok_number.body : Code := bodyOf Tryd.f110
def csstok_number.b16 : Code := findD 16 csstok_number.body
theorem csstok_number.s16 (w0 : World) (k : Nat) : ∀ v K, csstok_number.L16 k v K = runK (cfg w0 (tab20 k)) Tryd.f110.ntmps (csstok_number.kr w0 k) (annot (csstok_number.cuts w0 k) csstok_number.b16) (mkSt [6, 7] (io30.enc v)) (outK (cfg w0 (tab20 k)) 0 csstok_number.x16 K) := by
  intro v K; kernel_rfl
theorem csstok_number.e (w0 : World) (k : Nat) : ∀ v, (fun v => csstok_number k v.1 v.2.1 v.2.2) v = runK (cfg w0 (tab20 k)) Tryd.f110.ntmps (csstok_number.kr w0 k) (annot (csstok_number.cuts w0 k) csstok_number.body) (entry (io29.enc v).1 (io29.enc v).2) (endK (csstok_number.kr w0 k)) := by
  intro v; kernel_rfl
theorem csstok_number.hb : Tryd.f110.body = some csstok_number.body := by kernel_rfl
def tab21 (k : Nat) : Tab T := addTab 110 (line io29 io9 ((0 : Int), [], [], (0 : Int)) (fun v => csstok_number k v.1 v.2.1 v.2.2)) (tab20 k)
def csstok_first_1 (k : Nat) (a1 : Int) (a2 : List UInt8) : Option (Int × (List UInt8) × (List UInt8) × Int × (List UInt8)) :=
cond (decide (0 ≤ (1 : Int) ∧ (1 : Int) ≤ (a2.length : Int))) (
some (a1, (a2.take (1 : Int).toNat), [], (0 : Int), a2)) none
def csstok_first_1.kr (w0 : World) (k : Nat) : St T → Option (Int × (List UInt8) × (List UInt8) × Int × (List UInt8)) := (retK (cfg w0 (tab21 k)) Tryd.f101.results.toList 1 [] io32.pat)
def csstok_first_1.cuts (w0 : World) (k : Nat) : Cuts T (Int × (List UInt8) × (List UInt8) × Int × (List UInt8)) := fun n => none
def csstok_first_1.body : Code := bodyOf Tryd.f101
theorem csstok_first_1.e (w0 : World) (k : Nat) : ∀ v, (fun v => csstok_first_1 k v.1 v.2) v = runK (cfg w0 (tab21 k)) Tryd.f101.ntmps (csstok_first_1.kr w0 k) (annot (csstok_first_1.cuts w0 k) csstok_first_1.body) (entry (io31.enc v).1 (io31.enc v).2) (endK (csstok_first_1.kr w0 k)) := by
  intro v; kernel_rfl
theorem csstok_first_1.hb : Tryd.f101.body = some csstok_first_1.body := by kernel_rfl
def tab22 (k : Nat) : Tab T := addTab 101 (line io31 io32 ((0 : Int), [], [], (0 : Int), []) (fun v => csstok_first_1 k v.1 v.2)) (tab21 k)
def csstok_first.c20 (k : Nat) (x7 : List UInt8) (x8 : Int) (x9 : List UInt8) (x10 : List UInt8) (x11 : Int)  : Option (Int × (List UInt8) × (List UInt8) × Int) :=
some ((9 : Int), x7, [], (0 : Int))
def csstok_first.c52 (k : Nat) (x32 : Int) (x33 : List UInt8) (x34 : List UInt8) (x35 : Int) (x36 : Int) (x37 : List UInt8) (x38 : List UInt8) (x39 : Int)  : Option (Int × (List UInt8) × (List UInt8) × Int) :=
some (x36, x37, x38, x39)
def csstok_first.c76 (k : Nat) (x44 : Int) (x45 : List UInt8) (x46 : List UInt8) (x47 : Int) (x48 : List UInt8)  : Option (Int × (List UInt8) × (List UInt8) × Int) :=
(csstok_first_1 k (12 : Int) x48).bind fun r49 =>
some (r49.1, r49.2.1, r49.2.2.1, r49.2.2.2.1)
def csstok_first (k : Nat) (a1 : List UInt8) : Option (Int × (List UInt8) × (List UInt8) × Int) :=
(strings_TrimLeft k a1 ([32, 9, 10, 12, 13] : List UInt8)).bind fun r2 =>
let v3 : Int := (IntKind.wrap .i64 ((a1.length : Int) - (r2.length : Int)))
cond (decide (v3 > (0 : Int))) (
cond (decide (0 ≤ v3 ∧ v3 ≤ (a1.length : Int))) (
some ((8 : Int), (a1.take v3.toNat), [], (0 : Int))) none) (
(strings_CutPrefix k a1 ([47, 42] : List UInt8)).bind fun r4 =>
cond r4.2 (
(strings_Index k r4.1 ([42, 47] : List UInt8)).bind fun r5 =>
cond (decide (r5 ≥ (0 : Int))) (
let v6 : Int := (IntKind.wrap .i64 (r5 + (4 : Int)))
cond (decide (0 ≤ v6 ∧ v6 ≤ (a1.length : Int))) (
csstok_first.c20 k (a1.take v6.toNat) (0 : Int) ([]) ([]) (0 : Int)) none) (
csstok_first.c20 k a1 (0 : Int) ([]) ([]) (0 : Int))) (
cond (decide (0 ≤ (0 : Int) ∧ (0 : Int) < (a1.length : Int))) (
let v12 : Int := ((a1.getD (0 : Int).toNat 0).toNat : Int)
let v13 : Bool := (cond (v12 == (39 : Int)) true (v12 == (34 : Int)))
cond v13 (
(csstok_text k a1).bind fun r14 =>
some (r14.1, r14.2.1, r14.2.2.1, r14.2.2.2)) (
let v15 : Bool := (decide ((a1.length : Int) > (1 : Int)))
let v16 : Bool := (cond (v12 == (35 : Int)) v15 false)
cond ((decide (0 ≤ (1 : Int) ∧ (1 : Int) < (a1.length : Int))) || !v16) (
let v17 : Int := ((a1.getD (1 : Int).toNat 0).toNat : Int)
(cond v16 (csstok_sign k v17) (some false)).bind fun r18 =>
cond ((decide (0 ≤ (1 : Int) ∧ (1 : Int) ≤ (a1.length : Int))) || !(v16 && (!r18))) (
(cond (v16 && (!r18)) (csstok_escape k (a1.drop (1 : Int).toNat)) (some false)).bind fun r19 =>
let v20 : Bool := (cond v16 (cond r18 true r19) false)
cond v20 (
(csstok_named k (4 : Int) a1 (1 : Int)).bind fun r21 =>
some (r21.1, r21.2.1, r21.2.2.1, r21.2.2.2)) (
cond ((decide (0 ≤ (1 : Int) ∧ (1 : Int) ≤ (a1.length : Int))) || !(v12 == (64 : Int))) (
(cond (v12 == (64 : Int)) (csstok_begins k (a1.drop (1 : Int).toNat)) (some false)).bind fun r22 =>
let v23 : Bool := (cond (v12 == (64 : Int)) r22 false)
cond v23 (
(csstok_named k (3 : Int) a1 (1 : Int)).bind fun r24 =>
some (r24.1, r24.2.1, r24.2.2.1, r24.2.2.2)) (
(csstok_Number k a1).bind fun r25 =>
cond (decide (r25.2 > (0 : Int))) (
(csstok_number k a1 r25.1 r25.2).bind fun r26 =>
some (r26.1, r26.2.1, r26.2.2.1, r26.2.2.2)) (
(csstok_begins k a1).bind fun r27 =>
cond r27 (
(csstok_named k (1 : Int) a1 (0 : Int)).bind fun r28 =>
cond (decide (0 ≤ (r28.2.1.length : Int) ∧ (r28.2.1.length : Int) ≤ (a1.length : Int))) (
let v29 : List UInt8 := (a1.drop (r28.2.1.length : Int).toNat)
(strings_HasPrefix k v29 ([40] : List UInt8)).bind fun r30 =>
cond r30 (
let v31 : Int := (IntKind.wrap .i64 ((r28.2.1.length : Int) + (1 : Int)))
cond (decide (0 ≤ v31 ∧ v31 ≤ (a1.length : Int))) (
csstok_first.c52 k (0 : Int) ([]) ([]) (0 : Int) (2 : Int) (a1.take v31.toNat) r28.2.2.1 r28.2.2.2) none) (
csstok_first.c52 k (0 : Int) ([]) ([]) (0 : Int) r28.1 r28.2.1 r28.2.2.1 r28.2.2.2)) none) (
cond (decide (0 ≤ (0 : Int) ∧ (0 : Int) < (a1.length : Int))) (
let v40 : Int := ((a1.getD (0 : Int).toNat 0).toNat : Int)
cond (v40 == (40 : Int)) (
cond (v40 == (40 : Int)) (
(csstok_first_1 k (10 : Int) a1).bind fun r41 =>
some (r41.1, r41.2.1, r41.2.2.1, r41.2.2.2.1)) (
cond (v40 == (41 : Int)) (
cond (v40 == (41 : Int)) (
(csstok_first_1 k (11 : Int) a1).bind fun r42 =>
some (r42.1, r42.2.1, r42.2.2.1, r42.2.2.2.1)) (
cond (v40 == (92 : Int)) (
(csstok_first_1 k (6 : Int) a1).bind fun r43 =>
some (r43.1, r43.2.1, r43.2.2.1, r43.2.2.2.1)) (
csstok_first.c76 k (0 : Int) ([]) ([]) (0 : Int) a1))) (
cond (v40 == (93 : Int)) (
cond (v40 == (93 : Int)) (
(csstok_first_1 k (11 : Int) a1).bind fun r50 =>
some (r50.1, r50.2.1, r50.2.2.1, r50.2.2.2.1)) (
cond (v40 == (92 : Int)) (
(csstok_first_1 k (6 : Int) a1).bind fun r51 =>
some (r51.1, r51.2.1, r51.2.2.1, r51.2.2.2.1)) (
csstok_first.c76 k (0 : Int) ([]) ([]) (0 : Int) a1))) (
cond (v40 == (125 : Int)) (
(csstok_first_1 k (11 : Int) a1).bind fun r52 =>
some (r52.1, r52.2.1, r52.2.2.1, r52.2.2.2.1)) (
cond (v40 == (92 : Int)) (
(csstok_first_1 k (6 : Int) a1).bind fun r53 =>
some (r53.1, r53.2.1, r53.2.2.1, r53.2.2.2.1)) (
csstok_first.c76 k (0 : Int) ([]) ([]) (0 : Int) a1)))))) (
cond (v40 == (91 : Int)) (
cond (v40 == (91 : Int)) (
(csstok_first_1 k (10 : Int) a1).bind fun r54 =>
some (r54.1, r54.2.1, r54.2.2.1, r54.2.2.2.1)) (
cond (v40 == (41 : Int)) (
cond (v40 == (41 : Int)) (
(csstok_first_1 k (11 : Int) a1).bind fun r55 =>
some (r55.1, r55.2.1, r55.2.2.1, r55.2.2.2.1)) (
cond (v40 == (92 : Int)) (
(csstok_first_1 k (6 : Int) a1).bind fun r56 =>
some (r56.1, r56.2.1, r56.2.2.1, r56.2.2.2.1)) (
csstok_first.c76 k (0 : Int) ([]) ([]) (0 : Int) a1))) (
cond (v40 == (93 : Int)) (
cond (v40 == (93 : Int)) (
(csstok_first_1 k (11 : Int) a1).bind fun r57 =>
some (r57.1, r57.2.1, r57.2.2.1, r57.2.2.2.1)) (
cond (v40 == (92 : Int)) (
(csstok_first_1 k (6 : Int) a1).bind fun r58 =>
some (r58.1, r58.2.1, r58.2.2.1, r58.2.2.2.1)) (
csstok_first.c76 k (0 : Int) ([]) ([]) (0 : Int) a1))) (
cond (v40 == (125 : Int)) (
(csstok_first_1 k (11 : Int) a1).bind fun r59 =>
some (r59.1, r59.2.1, r59.2.2.1, r59.2.2.2.1)) (
cond (v40 == (92 : Int)) (
(csstok_first_1 k (6 : Int) a1).bind fun r60 =>
some (r60.1, r60.2.1, r60.2.2.1, r60.2.2.2.1)) (
csstok_first.c76 k (0 : Int) ([]) ([]) (0 : Int) a1)))))) (
cond (v40 == (123 : Int)) (
(csstok_first_1 k (10 : Int) a1).bind fun r61 =>
some (r61.1, r61.2.1, r61.2.2.1, r61.2.2.2.1)) (
cond (v40 == (41 : Int)) (
cond (v40 == (41 : Int)) (
(csstok_first_1 k (11 : Int) a1).bind fun r62 =>
some (r62.1, r62.2.1, r62.2.2.1, r62.2.2.2.1)) (
cond (v40 == (92 : Int)) (
(csstok_first_1 k (6 : Int) a1).bind fun r63 =>
some (r63.1, r63.2.1, r63.2.2.1, r63.2.2.2.1)) (
csstok_first.c76 k (0 : Int) ([]) ([]) (0 : Int) a1))) (
cond (v40 == (93 : Int)) (
cond (v40 == (93 : Int)) (
(csstok_first_1 k (11 : Int) a1).bind fun r64 =>
some (r64.1, r64.2.1, r64.2.2.1, r64.2.2.2.1)) (
cond (v40 == (92 : Int)) (
(csstok_first_1 k (6 : Int) a1).bind fun r65 =>
some (r65.1, r65.2.1, r65.2.2.1, r65.2.2.2.1)) (
csstok_first.c76 k (0 : Int) ([]) ([]) (0 : Int) a1))) (
cond (v40 == (125 : Int)) (
(csstok_first_1 k (11 : Int) a1).bind fun r66 =>
some (r66.1, r66.2.1, r66.2.2.1, r66.2.2.2.1)) (
cond (v40 == (92 : Int)) (
(csstok_first_1 k (6 : Int) a1).bind fun r67 =>
some (r67.1, r67.2.1, r67.2.2.1, r67.2.2.2.1)) (
csstok_first.c76 k (0 : Int) ([]) ([]) (0 : Int) a1)))))))) none)))) none)) none) none)) none))
def csstok_first.kr (w0 : World) (k : Nat) : St T → Option (Int × (List UInt8) × (List UInt8) × Int) := (retK (cfg w0 (tab22 k)) Tryd.f69.results.toList 0 [] io9.pat)
def csstok_first.x20 : Ex → Option (List Nat × List Sp)
  | _ => none
def csstok_first.L20 (k : Nat) (v : (List UInt8) × Int × (List UInt8) × (List UInt8) × Int) (K : Ex → St T → Option (Int × (List UInt8) × (List UInt8) × Int)) : Option (Int × (List UInt8) × (List UInt8) × Int) := csstok_first.c20 k v.1 v.2.1 v.2.2.1 v.2.2.2.1 v.2.2.2.2
def csstok_first.x52 : Ex → Option (List Nat × List Sp)
  | _ => none
def csstok_first.L52 (k : Nat) (v : Int × (List UInt8) × (List UInt8) × Int × Int × (List UInt8) × (List UInt8) × Int) (K : Ex → St T → Option (Int × (List UInt8) × (List UInt8) × Int)) : Option (Int × (List UInt8) × (List UInt8) × Int) := csstok_first.c52 k v.1 v.2.1 v.2.2.1 v.2.2.2.1 v.2.2.2.2.1 v.2.2.2.2.2.1 v.2.2.2.2.2.2.1 v.2.2.2.2.2.2.2
def csstok_first.x76 : Ex → Option (List Nat × List Sp)
  | _ => none
def csstok_first.L76 (k : Nat) (v : Int × (List UInt8) × (List UInt8) × Int × (List UInt8)) (K : Ex → St T → Option (Int × (List UInt8) × (List UInt8) × Int)) : Option (Int × (List UInt8) × (List UInt8) × Int) := csstok_first.c76 k v.1 v.2.1 v.2.2.1 v.2.2.2.1 v.2.2.2.2
def csstok_first.cuts (w0 : World) (k : Nat) : Cuts T (Int × (List UInt8) × (List UInt8) × Int) := fun n => bif n.beq 20 then some (entK (cfg w0 (tab22 k)) 0 [1, 2] [] io33.pat (csstok_first.L20 k)) else bif n.beq 52 then some (entK (cfg w0 (tab22 k)) 0 [2, 11] [] io30.pat (csstok_first.L52 k)) else bif n.beq 76 then some (entK (cfg w0 (tab22 k)) 0 [2, 3] [] io34.pat (csstok_first.L76 k)) else none
def csstok_first.body : Code := bodyOf Tryd.f69
def csstok_first.b20 : Code := findD 20 csstok_first.body
theorem csstok_first.s20 (w0 : World) (k : Nat) : ∀ v K, csstok_first.L20 k v K = runK (cfg w0 (tab22 k)) Tryd.f69.ntmps (csstok_first.kr w0 k) (annot (csstok_first.cuts w0 k) csstok_first.b20) (mkSt [1, 2] (io33.enc v)) (outK (cfg w0 (tab22 k)) 0 csstok_first.x20 K) := by
  intro v K; kernel_rfl
def csstok_first.b52 : Code := findD 52 csstok_first.body
theorem csstok_first.s52 (w0 : World) (k : Nat) : ∀ v K, csstok_first.L52 k v K = runK (cfg w0 (tab22 k)) Tryd.f69.ntmps (csstok_first.kr w0 k) (annot (csstok_first.cuts w0 k) csstok_first.b52) (mkSt [2, 11] (io30.enc v)) (outK (cfg w0 (tab22 k)) 0 csstok_first.x52 K) := by
  intro v K; kernel_rfl
def csstok_first.b76 : Code := findD 76 csstok_first.body
theorem csstok_first.s76 (w0 : World) (k : Nat) : ∀ v K, csstok_first.L76 k v K = runK (cfg w0 (tab22 k)) Tryd.f69.ntmps (csstok_first.kr w0 k) (annot (csstok_first.cuts w0 k) csstok_first.b76) (mkSt [2, 3] (io34.enc v)) (outK (cfg w0 (tab22 k)) 0 csstok_first.x76 K) := by
  intro v K; kernel_rfl
theorem csstok_first.e (w0 : World) (k : Nat) : ∀ v, (fun v => csstok_first k v) v = runK (cfg w0 (tab22 k)) Tryd.f69.ntmps (csstok_first.kr w0 k) (annot (csstok_first.cuts w0 k) csstok_first.body) (entry (io1.enc v).1 (io1.enc v).2) (endK (csstok_first.kr w0 k)) := by
  intro v; kernel_rfl
theorem csstok_first.hb : Tryd.f69.body = some csstok_first.body := by kernel_rfl
def tab23 (k : Nat) : Tab T := addTab 69 (line io1 io9 ((0 : Int), [], [], (0 : Int)) (fun v => csstok_first k v)) (tab22 k)
def csstok_Cut.c5 (k : Nat) : Nat → (List UInt8) → (List S77) → ((List S77) → Option (List S77)) → Option (List S77)
  | 0, _, _, _ => none
  | n + 1, x2, x3, k0 =>
    cond (!(x2 == ([] : List UInt8))) (
    (csstok_first k x2).bind fun r4 =>
    let v5 : List S77 := [(⟨r4.1, r4.2.1, r4.2.2.1, r4.2.2.2⟩ : S77)]
    cond (decide ((x3 ++ v5).length < most)) (
    cond (decide (0 ≤ (r4.2.1.length : Int) ∧ (r4.2.1.length : Int) ≤ (x2.length : Int))) (
    let v6 : List UInt8 := (x2.drop (r4.2.1.length : Int).toNat)
    csstok_Cut.c5 k n v6 (x3 ++ v5) k0) none) none) (
    k0 x3)
def csstok_Cut (k : Nat) (a1 : List UInt8) : Option (List S77) :=
csstok_Cut.c5 k k a1 ([] : List S77) (fun (y7 : List S77) =>
some y7)
def csstok_Cut.kr (w0 : World) (k : Nat) : St T → Option (List S77) := (retK (cfg w0 (tab23 k)) Tryd.f37.results.toList 0 [.own 0 77] io35.pat)
def csstok_Cut.x5 : Ex → Option (List Nat × List Sp)
  | .exit 0 => some ([3], [.own 3 77])
  | _ => none
def csstok_Cut.L5 (k : Nat) (n : Nat) (v : (List UInt8) × (List S77)) (K : Ex → St T → Option (List S77)) : Option (List S77) := csstok_Cut.c5 k n v.1 v.2 (fun y32 => K (.exit 0) (mkSt [3] (io35.enc y32)))
def csstok_Cut.cuts (w0 : World) (k : Nat) : Cuts T (List S77) := fun n => bif n.beq 5 then some (entK (cfg w0 (tab23 k)) 0 [0, 3] [.own 3 77] io36.pat (csstok_Cut.L5 k k)) else none
def csstok_Cut.body : Code := bodyOf Tryd.f37
def csstok_Cut.b5 : Code := findD 5 csstok_Cut.body
theorem csstok_Cut.s5 (w0 : World) (k : Nat) : ∀ n v K, csstok_Cut.L5 k (n + 1) v K = runK (cfg w0 (tab23 k)) Tryd.f37.ntmps (csstok_Cut.kr w0 k) (annot (csstok_Cut.cuts w0 k) csstok_Cut.b5) (mkSt [0, 3] (io36.enc v)) (loopK (cfg w0 (tab23 k)) 0 csstok_Cut.x5 (entK (cfg w0 (tab23 k)) 0 [0, 3] [.own 3 77] io36.pat (csstok_Cut.L5 k n)) K) := by
  intro n v K; kernel_rfl
theorem csstok_Cut.e (w0 : World) (k : Nat) : ∀ v, (fun v => csstok_Cut k v) v = runK (cfg w0 (tab23 k)) Tryd.f37.ntmps (csstok_Cut.kr w0 k) (annot (csstok_Cut.cuts w0 k) csstok_Cut.body) (entry (io1.enc v).1 (io1.enc v).2) (endK (csstok_Cut.kr w0 k)) := by
  intro v; kernel_rfl
theorem csstok_Cut.hb : Tryd.f37.body = some csstok_Cut.body := by kernel_rfl
def tab24 (k : Nat) : Tab T := addTab 37 (line io1 io35 [] (fun v => csstok_Cut k v)) (tab23 k)
def cssrule_silent (k : Nat) (a1 : Int) (a2 : List UInt8) (a3 : List UInt8) (a4 : Int) : Option (Bool) :=
let v5 : Bool := (cond (a1 == (8 : Int)) true (a1 == (9 : Int)))
some v5
def cssrule_silent.kr (w0 : World) (k : Nat) : St T → Option (Bool) := (retK (cfg w0 (tab24 k)) Tryd.f114.results.toList 0 [] io2.pat)
def cssrule_silent.cuts (w0 : World) (k : Nat) : Cuts T (Bool) := fun n => none
def cssrule_silent.body : Code := bodyOf Tryd.f114
theorem cssrule_silent.e (w0 : World) (k : Nat) : ∀ v, (fun v => cssrule_silent k v.1 v.2.1 v.2.2.1 v.2.2.2) v = runK (cfg w0 (tab24 k)) Tryd.f114.ntmps (cssrule_silent.kr w0 k) (annot (cssrule_silent.cuts w0 k) cssrule_silent.body) (entry (io9.enc v).1 (io9.enc v).2) (endK (cssrule_silent.kr w0 k)) := by
  intro v; kernel_rfl
theorem cssrule_silent.hb : Tryd.f114.body = some cssrule_silent.body := by kernel_rfl
def tab25 (k : Nat) : Tab T := addTab 114 (line io9 io2 false (fun v => cssrule_silent k v.1 v.2.1 v.2.2.1 v.2.2.2)) (tab24 k)
def cssrule_solid.c3 (k : Nat) : Nat → (List S77) → ((List S77) → Option (List S77)) → Option (List S77)
  | 0, _, _ => none
  | n + 1, x2, k0 =>
    let v3 : Bool := (decide ((x2.length : Int) > (0 : Int)))
    cond ((decide (0 ≤ (0 : Int) ∧ (0 : Int) < (x2.length : Int))) || !v3) (
    let v4 : Int := (x2.getD ((0 : Int).toNat) S77.d).Kind
    let v5 : List UInt8 := (x2.getD ((0 : Int).toNat) S77.d).Raw
    let v6 : List UInt8 := (x2.getD ((0 : Int).toNat) S77.d).Value
    let v7 : Int := (x2.getD ((0 : Int).toNat) S77.d).Num
    (cond v3 (cssrule_silent k v4 v5 v6 v7) (some false)).bind fun r8 =>
    cond (cond v3 r8 false) (
    cond (decide (0 ≤ (1 : Int) ∧ (1 : Int) ≤ (x2.length : Int))) (
    cssrule_solid.c3 k n (x2.drop (1 : Int).toNat) k0) none) (
    k0 x2)) none
def cssrule_solid.c7 (k : Nat) : Nat → (List S77) → ((List S77) → Option (List S77)) → Option (List S77)
  | 0, _, _ => none
  | n + 1, x10, k2 =>
    let v11 : Bool := (decide ((x10.length : Int) > (0 : Int)))
    let v12 : Int := (IntKind.wrap .i64 ((x10.length : Int) - (1 : Int)))
    cond ((decide (0 ≤ v12 ∧ v12 < (x10.length : Int))) || !v11) (
    let v13 : Int := (x10.getD v12.toNat S77.d).Kind
    let v14 : List UInt8 := (x10.getD v12.toNat S77.d).Value
    (cond v11 (cssrule_silent k v13 ((x10.getD v12.toNat S77.d).Raw) v14 ((x10.getD v12.toNat S77.d).Num)) (some false)).bind fun r15 =>
    cond (cond v11 r15 false) (
    let v16 : Int := (IntKind.wrap .i64 ((x10.length : Int) - (1 : Int)))
    cond (decide (0 ≤ v16 ∧ v16 ≤ (x10.length : Int))) (
    cssrule_solid.c7 k n (x10.take v16.toNat) k2) none) (
    k2 x10)) none
def cssrule_solid (k : Nat) (a1 : List S77) : Option (List S77) :=
cssrule_solid.c3 k k a1 (fun (y9 : List S77) =>
cssrule_solid.c7 k k y9 (fun (y17 : List S77) =>
some y17))
def cssrule_solid.kr (w0 : World) (k : Nat) : St T → Option (List S77) := (retK (cfg w0 (tab25 k)) Tryd.f81.results.toList 0 [] io37.pat)
def cssrule_solid.x3 : Ex → Option (List Nat × List Sp)
  | .exit 0 => some ([0], [])
  | _ => none
def cssrule_solid.L3 (k : Nat) (n : Nat) (v : List S77) (K : Ex → St T → Option (List S77)) : Option (List S77) := cssrule_solid.c3 k n v (fun y33 => K (.exit 0) (mkSt [0] (io37.enc y33)))
def cssrule_solid.x7 : Ex → Option (List Nat × List Sp)
  | .exit 2 => some ([0], [])
  | _ => none
def cssrule_solid.L7 (k : Nat) (n : Nat) (v : List S77) (K : Ex → St T → Option (List S77)) : Option (List S77) := cssrule_solid.c7 k n v (fun y34 => K (.exit 2) (mkSt [0] (io37.enc y34)))
def cssrule_solid.cuts (w0 : World) (k : Nat) : Cuts T (List S77) := fun n => bif n.beq 3 then some (entK (cfg w0 (tab25 k)) 0 [0] [] io37.pat (cssrule_solid.L3 k k)) else bif n.beq 7 then some (entK (cfg w0 (tab25 k)) 0 [0] [] io37.pat (cssrule_solid.L7 k k)) else none
def cssrule_solid.body : Code := bodyOf Tryd.f81
def cssrule_solid.b3 : Code := findD 3 cssrule_solid.body
theorem cssrule_solid.s3 (w0 : World) (k : Nat) : ∀ n v K, cssrule_solid.L3 k (n + 1) v K = runK (cfg w0 (tab25 k)) Tryd.f81.ntmps (cssrule_solid.kr w0 k) (annot (cssrule_solid.cuts w0 k) cssrule_solid.b3) (mkSt [0] (io37.enc v)) (loopK (cfg w0 (tab25 k)) 0 cssrule_solid.x3 (entK (cfg w0 (tab25 k)) 0 [0] [] io37.pat (cssrule_solid.L3 k n)) K) := by
  intro n v K; kernel_rfl
def cssrule_solid.b7 : Code := findD 7 cssrule_solid.body
theorem cssrule_solid.s7 (w0 : World) (k : Nat) : ∀ n v K, cssrule_solid.L7 k (n + 1) v K = runK (cfg w0 (tab25 k)) Tryd.f81.ntmps (cssrule_solid.kr w0 k) (annot (cssrule_solid.cuts w0 k) cssrule_solid.b7) (mkSt [0] (io37.enc v)) (loopK (cfg w0 (tab25 k)) 0 cssrule_solid.x7 (entK (cfg w0 (tab25 k)) 0 [0] [] io37.pat (cssrule_solid.L7 k n)) K) := by
  intro n v K; kernel_rfl
theorem cssrule_solid.e (w0 : World) (k : Nat) : ∀ v, (fun v => cssrule_solid k v) v = runK (cfg w0 (tab25 k)) Tryd.f81.ntmps (cssrule_solid.kr w0 k) (annot (cssrule_solid.cuts w0 k) cssrule_solid.body) (entry (io37.enc v).1 (io37.enc v).2) (endK (cssrule_solid.kr w0 k)) := by
  intro v; kernel_rfl
theorem cssrule_solid.hb : Tryd.f81.body = some cssrule_solid.body := by kernel_rfl
def tab26 (k : Nat) : Tab T := addTab 81 (line io37 io37 [] (fun v => cssrule_solid k v)) (tab25 k)
def cssrule_raw (k : Nat) (a1 : Int) (a2 : List UInt8) (a3 : List UInt8) (a4 : Int) (a5 : Int) (a6 : List UInt8) : Option (Bool) :=
let v7 : Bool := (cond (a1 == a5) (a2 == a6) false)
some v7
def cssrule_raw.kr (w0 : World) (k : Nat) : St T → Option (Bool) := (retK (cfg w0 (tab26 k)) Tryd.f120.results.toList 0 [] io2.pat)
def cssrule_raw.cuts (w0 : World) (k : Nat) : Cuts T (Bool) := fun n => none
def cssrule_raw.body : Code := bodyOf Tryd.f120
theorem cssrule_raw.e (w0 : World) (k : Nat) : ∀ v, (fun v => cssrule_raw k v.1 v.2.1 v.2.2.1 v.2.2.2.1 v.2.2.2.2.1 v.2.2.2.2.2) v = runK (cfg w0 (tab26 k)) Tryd.f120.ntmps (cssrule_raw.kr w0 k) (annot (cssrule_raw.cuts w0 k) cssrule_raw.body) (entry (io38.enc v).1 (io38.enc v).2) (endK (cssrule_raw.kr w0 k)) := by
  intro v; kernel_rfl
theorem cssrule_raw.hb : Tryd.f120.body = some cssrule_raw.body := by kernel_rfl
def tab27 (k : Nat) : Tab T := addTab 120 (line io38 io2 false (fun v => cssrule_raw k v.1 v.2.1 v.2.2.1 v.2.2.2.1 v.2.2.2.2.1 v.2.2.2.2.2)) (tab26 k)
def cssrule_brace (k : Nat) (a1 : Int) (a2 : List UInt8) (a3 : List UInt8) (a4 : Int) : Option (Bool) :=
(cssrule_raw k a1 a2 a3 a4 (10 : Int) ([123] : List UInt8)).bind fun r5 =>
some r5
def cssrule_brace.kr (w0 : World) (k : Nat) : St T → Option (Bool) := (retK (cfg w0 (tab27 k)) Tryd.f84.results.toList 0 [] io2.pat)
def cssrule_brace.cuts (w0 : World) (k : Nat) : Cuts T (Bool) := fun n => none
def cssrule_brace.body : Code := bodyOf Tryd.f84
theorem cssrule_brace.e (w0 : World) (k : Nat) : ∀ v, (fun v => cssrule_brace k v.1 v.2.1 v.2.2.1 v.2.2.2) v = runK (cfg w0 (tab27 k)) Tryd.f84.ntmps (cssrule_brace.kr w0 k) (annot (cssrule_brace.cuts w0 k) cssrule_brace.body) (entry (io9.enc v).1 (io9.enc v).2) (endK (cssrule_brace.kr w0 k)) := by
  intro v; kernel_rfl
theorem cssrule_brace.hb : Tryd.f84.body = some cssrule_brace.body := by kernel_rfl
def tab28 (k : Nat) : Tab T := addTab 84 (line io9 io2 false (fun v => cssrule_brace k v.1 v.2.1 v.2.2.1 v.2.2.2)) (tab27 k)
def cssrule_semi (k : Nat) (a1 : Int) (a2 : List UInt8) (a3 : List UInt8) (a4 : Int) : Option (Bool) :=
(cssrule_raw k a1 a2 a3 a4 (12 : Int) ([59] : List UInt8)).bind fun r5 =>
some r5
def cssrule_semi.kr (w0 : World) (k : Nat) : St T → Option (Bool) := (retK (cfg w0 (tab28 k)) Tryd.f85.results.toList 0 [] io2.pat)
def cssrule_semi.cuts (w0 : World) (k : Nat) : Cuts T (Bool) := fun n => none
def cssrule_semi.body : Code := bodyOf Tryd.f85
theorem cssrule_semi.e (w0 : World) (k : Nat) : ∀ v, (fun v => cssrule_semi k v.1 v.2.1 v.2.2.1 v.2.2.2) v = runK (cfg w0 (tab28 k)) Tryd.f85.ntmps (cssrule_semi.kr w0 k) (annot (cssrule_semi.cuts w0 k) cssrule_semi.body) (entry (io9.enc v).1 (io9.enc v).2) (endK (cssrule_semi.kr w0 k)) := by
  intro v; kernel_rfl
theorem cssrule_semi.hb : Tryd.f85.body = some cssrule_semi.body := by kernel_rfl
def tab29 (k : Nat) : Tab T := addTab 85 (line io9 io2 false (fun v => cssrule_semi k v.1 v.2.1 v.2.2.1 v.2.2.2)) (tab28 k)
def cssrule_rules_1 (k : Nat) (a1 : Int) (a2 : List UInt8) (a3 : List UInt8) (a4 : Int) (a5 : Bool) : Option (Bool × Bool) :=
(cssrule_brace k a1 a2 a3 a4).bind fun r6 =>
(cond ((!r6) && a5) (cssrule_semi k a1 a2 a3 a4) (some false)).bind fun r7 =>
let v8 : Bool := (cond r6 true (cond a5 r7 false))
some (v8, a5)
def cssrule_rules_1.kr (w0 : World) (k : Nat) : St T → Option (Bool × Bool) := (retK (cfg w0 (tab29 k)) Tryd.f83.results.toList 1 [] io40.pat)
def cssrule_rules_1.cuts (w0 : World) (k : Nat) : Cuts T (Bool × Bool) := fun n => none
def cssrule_rules_1.body : Code := bodyOf Tryd.f83
theorem cssrule_rules_1.e (w0 : World) (k : Nat) : ∀ v, (fun v => cssrule_rules_1 k v.1 v.2.1 v.2.2.1 v.2.2.2.1 v.2.2.2.2) v = runK (cfg w0 (tab29 k)) Tryd.f83.ntmps (cssrule_rules_1.kr w0 k) (annot (cssrule_rules_1.cuts w0 k) cssrule_rules_1.body) (entry (io39.enc v).1 (io39.enc v).2) (endK (cssrule_rules_1.kr w0 k)) := by
  intro v; kernel_rfl
theorem cssrule_rules_1.hb : Tryd.f83.body = some cssrule_rules_1.body := by kernel_rfl
def tab30 (k : Nat) : Tab T := addTab 83 (line io39 io40 (false, false) (fun v => cssrule_rules_1 k v.1 v.2.1 v.2.2.1 v.2.2.2.1 v.2.2.2.2)) (tab29 k)
def cssrule_opens (k : Nat) (a1 : Int) (a2 : List UInt8) (a3 : List UInt8) (a4 : Int) : Option (Bool) :=
let v5 : Bool := (cond (a1 == (10 : Int)) true (a1 == (2 : Int)))
some v5
def cssrule_opens.kr (w0 : World) (k : Nat) : St T → Option (Bool) := (retK (cfg w0 (tab30 k)) Tryd.f119.results.toList 0 [] io2.pat)
def cssrule_opens.cuts (w0 : World) (k : Nat) : Cuts T (Bool) := fun n => none
def cssrule_opens.body : Code := bodyOf Tryd.f119
theorem cssrule_opens.e (w0 : World) (k : Nat) : ∀ v, (fun v => cssrule_opens k v.1 v.2.1 v.2.2.1 v.2.2.2) v = runK (cfg w0 (tab30 k)) Tryd.f119.ntmps (cssrule_opens.kr w0 k) (annot (cssrule_opens.cuts w0 k) cssrule_opens.body) (entry (io9.enc v).1 (io9.enc v).2) (endK (cssrule_opens.kr w0 k)) := by
  intro v; kernel_rfl
theorem cssrule_opens.hb : Tryd.f119.body = some cssrule_opens.body := by kernel_rfl
def tab31 (k : Nat) : Tab T := addTab 119 (line io9 io2 false (fun v => cssrule_opens k v.1 v.2.1 v.2.2.1 v.2.2.2)) (tab30 k)
def cssrule_closer (k : Nat) (a1 : Int) (a2 : List UInt8) (a3 : List UInt8) (a4 : Int) : Option (List UInt8) :=
let v5 : Int := (IntKind.wrap .i64 ((a2.length : Int) - (1 : Int)))
cond (decide (0 ≤ v5 ∧ v5 < (a2.length : Int))) (
let v6 : Int := ((a2.getD v5.toNat 0).toNat : Int)
cond (v6 == (91 : Int)) (
some ([93] : List UInt8)) (
cond (v6 == (123 : Int)) (
some ([125] : List UInt8)) (
some ([41] : List UInt8)))) none
def cssrule_closer.kr (w0 : World) (k : Nat) : St T → Option (List UInt8) := (retK (cfg w0 (tab31 k)) Tryd.f121.results.toList 0 [] io1.pat)
def cssrule_closer.cuts (w0 : World) (k : Nat) : Cuts T (List UInt8) := fun n => none
def cssrule_closer.body : Code := bodyOf Tryd.f121
theorem cssrule_closer.e (w0 : World) (k : Nat) : ∀ v, (fun v => cssrule_closer k v.1 v.2.1 v.2.2.1 v.2.2.2) v = runK (cfg w0 (tab31 k)) Tryd.f121.ntmps (cssrule_closer.kr w0 k) (annot (cssrule_closer.cuts w0 k) cssrule_closer.body) (entry (io9.enc v).1 (io9.enc v).2) (endK (cssrule_closer.kr w0 k)) := by
  intro v; kernel_rfl
theorem cssrule_closer.hb : Tryd.f121.body = some cssrule_closer.body := by kernel_rfl
def tab32 (k : Nat) : Tab T := addTab 121 (line io9 io1 [] (fun v => cssrule_closer k v.1 v.2.1 v.2.2.1 v.2.2.2)) (tab31 k)
def cssrule_block.c7 (k : Nat) : Nat → (List S77) → Int → (List (List UInt8)) → ((List S77) → Option (Int × Bool)) → Option (Int × Bool)
  | 0, _, _, _, _ => none
  | n + 1, x5, x6, x7, k0 =>
    let v8 : Bool := (decide (x6 < (x5.length : Int)))
    cond v8 (
    cond (decide (0 ≤ x6 ∧ x6 < (x5.length : Int))) (
    (cssrule_opens k ((x5.getD x6.toNat S77.d).Kind) ((x5.getD x6.toNat S77.d).Raw) ((x5.getD x6.toNat S77.d).Value) ((x5.getD x6.toNat S77.d).Num)).bind fun r9 =>
    cond r9 (
    cond (decide (0 ≤ x6 ∧ x6 < (x5.length : Int))) (
    (cssrule_closer k ((x5.getD x6.toNat S77.d).Kind) ((x5.getD x6.toNat S77.d).Raw) ((x5.getD x6.toNat S77.d).Value) ((x5.getD x6.toNat S77.d).Num)).bind fun r10 =>
    cond (decide ((x7 ++ ([r10])).length < most)) (
    let v11 : Int := (IntKind.wrap .i64 (x6 + (1 : Int)))
    cssrule_block.c7 k n x5 v11 (x7 ++ ([r10])) k0) none) none) (
    cond (decide (0 ≤ x6 ∧ x6 < (x5.length : Int))) (
    let v12 : Bool := (((x5.getD x6.toNat S77.d).Kind) == (11 : Int))
    cond ((decide (0 ≤ x6 ∧ x6 < (x5.length : Int))) || !v12) (
    let v13 : Int := (IntKind.wrap .i64 ((x7.length : Int) - (1 : Int)))
    cond ((decide (0 ≤ v13 ∧ v13 < (x7.length : Int))) || !v12) (
    let v14 : Bool := (((x5.getD x6.toNat S77.d).Raw) == (x7.getD v13.toNat []))
    cond (cond v12 v14 false) (
    let v15 : Int := (IntKind.wrap .i64 ((x7.length : Int) - (1 : Int)))
    cond (decide (0 ≤ v15 ∧ v15 ≤ (x7.length : Int))) (
    let v16 : Bool := ((v15.toNat : Int) == (0 : Int))
    cond v16 (
    let v17 : Int := (IntKind.wrap .i64 (x6 + (1 : Int)))
    some (v17, true)) (
    let v18 : Int := (IntKind.wrap .i64 (x6 + (1 : Int)))
    cssrule_block.c7 k n x5 v18 ((x7.drop 0).take v15.toNat) k0)) none) (
    let v19 : Int := (IntKind.wrap .i64 (x6 + (1 : Int)))
    cssrule_block.c7 k n x5 v19 x7 k0)) none) none) none)) none) (
    k0 x5)
def cssrule_block (k : Nat) (a1 : List S77) (a2 : Int) : Option (Int × Bool) :=
cond (decide (0 ≤ a2 ∧ a2 < (a1.length : Int))) (
(cssrule_closer k ((a1.getD a2.toNat S77.d).Kind) ((a1.getD a2.toNat S77.d).Raw) ((a1.getD a2.toNat S77.d).Value) ((a1.getD a2.toNat S77.d).Num)).bind fun r3 =>
let v4 : Int := (IntKind.wrap .i64 (a2 + (1 : Int)))
cssrule_block.c7 k k a1 v4 ([r3]) (fun (y20 : List S77) =>
some ((y20.length : Int), false))) none
def cssrule_block.kr (w0 : World) (k : Nat) : St T → Option (Int × Bool) := (retK (cfg w0 (tab32 k)) Tryd.f86.results.toList 0 [] io42.pat)
def cssrule_block.x7 : Ex → Option (List Nat × List Sp)
  | .exit 0 => some ([0], [])
  | _ => none
def cssrule_block.L7 (k : Nat) (n : Nat) (v : (List S77) × Int × (List (List UInt8))) (K : Ex → St T → Option (Int × Bool)) : Option (Int × Bool) := cssrule_block.c7 k n v.1 v.2.1 v.2.2 (fun y35 => K (.exit 0) (mkSt [0] (io37.enc y35)))
def cssrule_block.cuts (w0 : World) (k : Nat) : Cuts T (Int × Bool) := fun n => bif n.beq 7 then some (entK (cfg w0 (tab32 k)) 0 [0, 6, 7] [.own 6 9] io43.pat (cssrule_block.L7 k k)) else none
def cssrule_block.body : Code := bodyOf Tryd.f86
def cssrule_block.b7 : Code := findD 7 cssrule_block.body
theorem cssrule_block.s7 (w0 : World) (k : Nat) : ∀ n v K, cssrule_block.L7 k (n + 1) v K = runK (cfg w0 (tab32 k)) Tryd.f86.ntmps (cssrule_block.kr w0 k) (annot (cssrule_block.cuts w0 k) cssrule_block.b7) (mkSt [0, 6, 7] (io43.enc v)) (loopK (cfg w0 (tab32 k)) 0 cssrule_block.x7 (entK (cfg w0 (tab32 k)) 0 [0, 6, 7] [.own 6 9] io43.pat (cssrule_block.L7 k n)) K) := by
  intro n v K; kernel_rfl
theorem cssrule_block.e (w0 : World) (k : Nat) : ∀ v, (fun v => cssrule_block k v.1 v.2) v = runK (cfg w0 (tab32 k)) Tryd.f86.ntmps (cssrule_block.kr w0 k) (annot (cssrule_block.cuts w0 k) cssrule_block.body) (entry (io41.enc v).1 (io41.enc v).2) (endK (cssrule_block.kr w0 k)) := by
  intro v; kernel_rfl
theorem cssrule_block.hb : Tryd.f86.body = some cssrule_block.body := by kernel_rfl
def tab33 (k : Nat) : Tab T := addTab 86 (line io41 io42 ((0 : Int), false) (fun v => cssrule_block k v.1 v.2)) (tab32 k)
def cssrule_find.c3 (k : Nat) : Nat → (List S77) → Int → Bool → (Int → Bool → Option (Int × Bool)) → Option (Int × Bool)
  | 0, _, _, _, _ => none
  | n + 1, x4, x5, x6, k0 =>
    let v7 : Bool := (decide (x5 < (x4.length : Int)))
    cond ((decide (0 ≤ x5 ∧ x5 < (x4.length : Int))) || !v7) (
    cond v7 (
    (cssrule_rules_1 k ((x4.getD x5.toNat S77.d).Kind) ((x4.getD x5.toNat S77.d).Raw) ((x4.getD x5.toNat S77.d).Value) ((x4.getD x5.toNat S77.d).Num) x6).bind fun r8 =>
    cond (cond v7 (!r8.1) false) (
    cond (decide (0 ≤ x5 ∧ x5 < (x4.length : Int))) (
    (cssrule_opens k ((x4.getD x5.toNat S77.d).Kind) ((x4.getD x5.toNat S77.d).Raw) ((x4.getD x5.toNat S77.d).Value) ((x4.getD x5.toNat S77.d).Num)).bind fun r9 =>
    cond r9 (
    (cssrule_block k x4 x5).bind fun r10 =>
    cssrule_find.c3 k n x4 r10.1 r8.2 k0) (
    let v11 : Int := (IntKind.wrap .i64 (x5 + (1 : Int)))
    cssrule_find.c3 k n x4 v11 r8.2 k0)) none) (
    k0 x5 r8.2)) (
    cond v7 none (
    cond (!v7) (
    k0 x5 x6) none))) none
def cssrule_find (k : Nat) (a1 : List S77) (a2 : Int) (a3 : Bool) : Option (Int × Bool) :=
cssrule_find.c3 k k a1 a2 a3 (fun (y12 : Int) (y13 : Bool) =>
some (y12, y13))
def cssrule_find.kr (w0 : World) (k : Nat) : St T → Option (Int × Bool) := (retK (cfg w0 (tab33 k)) Tryd.f82.results.toList 1 [] io45.pat)
def cssrule_find.x3 : Ex → Option (List Nat × List Sp)
  | .exit 0 => some ([1], [])
  | _ => none
def cssrule_find.L3 (k : Nat) (n : Nat) (v : (List S77) × Int × Bool) (K : Ex → St T → Option (Int × Bool)) : Option (Int × Bool) := cssrule_find.c3 k n v.1 v.2.1 v.2.2 (fun y36 y37 => K (.exit 0) (mkSt [1] (io45.enc (y36, y37))))
def cssrule_find.cuts (w0 : World) (k : Nat) : Cuts T (Int × Bool) := fun n => bif n.beq 3 then some (entK (cfg w0 (tab33 k)) 1 [0, 1, 2] [] io44.pat (cssrule_find.L3 k k)) else none
def cssrule_find.body : Code := bodyOf Tryd.f82
def cssrule_find.b3 : Code := findD 3 cssrule_find.body
theorem cssrule_find.s3 (w0 : World) (k : Nat) : ∀ n v K, cssrule_find.L3 k (n + 1) v K = runK (cfg w0 (tab33 k)) Tryd.f82.ntmps (cssrule_find.kr w0 k) (annot (cssrule_find.cuts w0 k) cssrule_find.b3) (mkSt [0, 1, 2] (io44.enc v)) (loopK (cfg w0 (tab33 k)) 1 cssrule_find.x3 (entK (cfg w0 (tab33 k)) 1 [0, 1, 2] [] io44.pat (cssrule_find.L3 k n)) K) := by
  intro n v K; kernel_rfl
theorem cssrule_find.e (w0 : World) (k : Nat) : ∀ v, (fun v => cssrule_find k v.1 v.2.1 v.2.2) v = runK (cfg w0 (tab33 k)) Tryd.f82.ntmps (cssrule_find.kr w0 k) (annot (cssrule_find.cuts w0 k) cssrule_find.body) (entry (io44.enc v).1 (io44.enc v).2) (endK (cssrule_find.kr w0 k)) := by
  intro v; kernel_rfl
theorem cssrule_find.hb : Tryd.f82.body = some cssrule_find.body := by kernel_rfl
def tab34 (k : Nat) : Tab T := addTab 82 (line io44 io45 ((0 : Int), false) (fun v => cssrule_find k v.1 v.2.1 v.2.2)) (tab33 k)
def cssrule_bad (k : Nat) (a1 : Int) (a2 : List UInt8) (a3 : List UInt8) (a4 : Int) : Option (Bool) :=
some (a1 == (6 : Int))
def cssrule_bad.kr (w0 : World) (k : Nat) : St T → Option (Bool) := (retK (cfg w0 (tab34 k)) Tryd.f123.results.toList 0 [] io2.pat)
def cssrule_bad.cuts (w0 : World) (k : Nat) : Cuts T (Bool) := fun n => none
def cssrule_bad.body : Code := bodyOf Tryd.f123
theorem cssrule_bad.e (w0 : World) (k : Nat) : ∀ v, (fun v => cssrule_bad k v.1 v.2.1 v.2.2.1 v.2.2.2) v = runK (cfg w0 (tab34 k)) Tryd.f123.ntmps (cssrule_bad.kr w0 k) (annot (cssrule_bad.cuts w0 k) cssrule_bad.body) (entry (io9.enc v).1 (io9.enc v).2) (endK (cssrule_bad.kr w0 k)) := by
  intro v; kernel_rfl
theorem cssrule_bad.hb : Tryd.f123.body = some cssrule_bad.body := by kernel_rfl
def tab35 (k : Nat) : Tab T := addTab 123 (line io9 io2 false (fun v => cssrule_bad k v.1 v.2.1 v.2.2.1 v.2.2.2)) (tab34 k)
def api_SToken__v2.c5 (k : Nat) : Nat → (List S77) → Int → Int → (Option (Int)) → Option (Int)
  | 0, _, _, _, _ => none
  | n + 1, x2, x3, x4, k0 =>
    cond (decide (x4 < x3)) (
    cond (decide (0 ≤ x4 ∧ x4 < (x2.length : Int))) (
    (cssrule_bad k ((x2.getD x4.toNat S77.d).Kind) ((x2.getD x4.toNat S77.d).Raw) ((x2.getD x4.toNat S77.d).Value) ((x2.getD x4.toNat S77.d).Num)).bind fun r5 =>
    cond r5 (
    some x4) (
    let v6 : Int := (IntKind.wrap .i64 (x4 + (1 : Int)))
    api_SToken__v2.c5 k n x2 x3 v6 k0)) none) (
    k0)
def api_SToken__v2 (k : Nat) (a1 : List S77) : Option (Int) :=
api_SToken__v2.c5 k k a1 (a1.length : Int) (0 : Int) (
some (-1 : Int))
def api_SToken__v2.kr (w0 : World) (k : Nat) : St T → Option (Int) := (retK (cfg w0 (tab35 k)) Tryd.f159.results.toList 0 [] io4.pat)
def api_SToken__v2.x5 : Ex → Option (List Nat × List Sp)
  | .exit 0 => some ([], [])
  | _ => none
def api_SToken__v2.L5 (k : Nat) (n : Nat) (v : (List S77) × Int × Int) (K : Ex → St T → Option (Int)) : Option (Int) := api_SToken__v2.c5 k n v.1 v.2.1 v.2.2 ( K (.exit 0) (mkSt [] (io48.enc ())))
def api_SToken__v2.cuts (w0 : World) (k : Nat) : Cuts T (Int) := fun n => bif n.beq 5 then some (entK (cfg w0 (tab35 k)) 0 [0, 1, 7, 8] [] io47.pat (api_SToken__v2.L5 k k)) else none
def api_SToken__v2.body : Code := bodyOf Tryd.f159
def api_SToken__v2.b5 : Code := findD 5 api_SToken__v2.body
theorem api_SToken__v2.s5 (w0 : World) (k : Nat) : ∀ n v K, api_SToken__v2.L5 k (n + 1) v K = runK (cfg w0 (tab35 k)) Tryd.f159.ntmps (api_SToken__v2.kr w0 k) (annot (api_SToken__v2.cuts w0 k) api_SToken__v2.b5) (mkSt [0, 1, 7, 8] (io47.enc v)) (loopK (cfg w0 (tab35 k)) 0 api_SToken__v2.x5 (entK (cfg w0 (tab35 k)) 0 [0, 1, 7, 8] [] io47.pat (api_SToken__v2.L5 k n)) K) := by
  intro n v K; kernel_rfl
theorem api_SToken__v2.e (w0 : World) (k : Nat) : ∀ v, (fun v => api_SToken__v2 k v) v = runK (cfg w0 (tab35 k)) Tryd.f159.ntmps (api_SToken__v2.kr w0 k) (annot (api_SToken__v2.cuts w0 k) api_SToken__v2.body) (entry (io46.enc v).1 (io46.enc v).2) (endK (api_SToken__v2.kr w0 k)) := by
  intro v; kernel_rfl
theorem api_SToken__v2.hb : Tryd.f159.body = some api_SToken__v2.body := by kernel_rfl
def tab36 (k : Nat) : Tab T := addTab 159 (line io46 io4 (0 : Int) (fun v => api_SToken__v2 k v)) (tab35 k)
def api_SToken_ (k : Nat) (a1 : List S77) : Option (Bool) :=
(api_SToken__v2 k a1).bind fun r2 =>
some (decide (r2 ≥ (0 : Int)))
def api_SToken_.kr (w0 : World) (k : Nat) : St T → Option (Bool) := (retK (cfg w0 (tab36 k)) Tryd.f122.results.toList 0 [] io2.pat)
def api_SToken_.cuts (w0 : World) (k : Nat) : Cuts T (Bool) := fun n => none
def api_SToken_.body : Code := bodyOf Tryd.f122
theorem api_SToken_.e (w0 : World) (k : Nat) : ∀ v, (fun v => api_SToken_ k v) v = runK (cfg w0 (tab36 k)) Tryd.f122.ntmps (api_SToken_.kr w0 k) (annot (api_SToken_.cuts w0 k) api_SToken_.body) (entry (io46.enc v).1 (io46.enc v).2) (endK (api_SToken_.kr w0 k)) := by
  intro v; kernel_rfl
theorem api_SToken_.hb : Tryd.f122.body = some api_SToken_.body := by kernel_rfl
def tab37 (k : Nat) : Tab T := addTab 122 (line io46 io2 false (fun v => api_SToken_ k v)) (tab36 k)
def f__strings_Builder__Len (k : Nat) (a9 : List UInt8) : Option (Int × (List UInt8)) := some ((a9.length : Int), a9)
def tab38 (k : Nat) : Tab T := addTab 42 (line io5 io49 ((0 : Int), []) (fun v => f__strings_Builder__Len k v)) (tab37 k)
def f__strings_Builder__WriteString (k : Nat) (a21 : List UInt8) (a22 : List UInt8) : Option (Int × (List UInt8)) := (wStr a22 a21).map fun s => ((a21.length : Int), s)
def tab39 (k : Nat) : Tab T := addTab 39 (line io50 io51 ((0 : Int), []) (fun v => f__strings_Builder__WriteString k v.1 v.2)) (tab38 k)
def cssrule_Head.c20 (k : Nat) (x11 : List S77) (x12 : Int) (x13 : Int) (x14 : List UInt8) (x15 : Int) (x16 : List UInt8) (x17 : List UInt8) (x18 : Int) (kn : Bool → (List S77) → Int → Int → (List UInt8) → Option (List UInt8)) : Option (List UInt8) :=
(f__strings_Builder__WriteString k x16 x14).bind fun r19 =>
kn false x11 x12 x13 r19.2
def cssrule_Head.c9 (k : Nat) : Nat → Bool → (List S77) → Int → Int → (List UInt8) → ((List UInt8) → Option (List UInt8)) → Option (List UInt8)
  | 0, _, _, _, _, _, _ => none
  | n + 1, x2, x3, x4, x5, x6, k0 =>
    cond (decide (x5 < x4)) (
    cond (decide (0 ≤ x5 ∧ x5 < (x3.length : Int))) (
    (cssrule_silent k ((x3.getD x5.toNat S77.d).Kind) ((x3.getD x5.toNat S77.d).Raw) ((x3.getD x5.toNat S77.d).Value) ((x3.getD x5.toNat S77.d).Num)).bind fun r7 =>
    cond r7 (
    (f__strings_Builder__Len k x6).bind fun r8 =>
    let v9 : Int := (IntKind.wrap .i64 (x5 + (1 : Int)))
    cssrule_Head.c9 k n (decide (r8.1 > (0 : Int))) x3 x4 v9 r8.2 k0) (
    cond x2 (
    (f__strings_Builder__WriteByte k (32 : Int) x6).bind fun r10 =>
    cssrule_Head.c20 k x3 x4 x5 r10 ((x3.getD x5.toNat S77.d).Kind) ((x3.getD x5.toNat S77.d).Raw) ((x3.getD x5.toNat S77.d).Value) ((x3.getD x5.toNat S77.d).Num) (fun (y20 : Bool) (y21 : List S77) (y22 : Int) (y23 : Int) (y24 : List UInt8) =>
    let v25 : Int := (IntKind.wrap .i64 (y23 + (1 : Int)))
    cssrule_Head.c9 k n y20 y21 y22 v25 y24 k0)) (
    cssrule_Head.c20 k x3 x4 x5 x6 ((x3.getD x5.toNat S77.d).Kind) ((x3.getD x5.toNat S77.d).Raw) ((x3.getD x5.toNat S77.d).Value) ((x3.getD x5.toNat S77.d).Num) (fun (y26 : Bool) (y27 : List S77) (y28 : Int) (y29 : Int) (y30 : List UInt8) =>
    let v31 : Int := (IntKind.wrap .i64 (y29 + (1 : Int)))
    cssrule_Head.c9 k n y26 y27 y28 v31 y30 k0)))) none) (
    k0 x6)
def cssrule_Head (k : Nat) (a1 : List S77) : Option (List UInt8) :=
cssrule_Head.c9 k k false a1 (a1.length : Int) (0 : Int) ([] : List UInt8) (fun (y32 : List UInt8) =>
(f__strings_Builder__String k y32).bind fun r33 =>
some r33.1)
def cssrule_Head.kr (w0 : World) (k : Nat) : St T → Option (List UInt8) := (retK (cfg w0 (tab39 k)) Tryd.f74.results.toList 0 [] io1.pat)
def cssrule_Head.x20 : Ex → Option (List Nat × List Sp)
  | .norm => some ([3, 4, 7, 8, 9], [])
  | _ => none
def cssrule_Head.L20 (k : Nat) (v : (List S77) × Int × Int × (List UInt8) × Int × (List UInt8) × (List UInt8) × Int) (K : Ex → St T → Option (List UInt8)) : Option (List UInt8) := cssrule_Head.c20 k v.1 v.2.1 v.2.2.1 v.2.2.2.1 v.2.2.2.2.1 v.2.2.2.2.2.1 v.2.2.2.2.2.2.1 v.2.2.2.2.2.2.2 (fun y38 y39 y40 y41 y42 => K .norm (mkSt [3, 4, 7, 8, 9] (io53.enc (y38, y39, y40, y41, y42))))
def cssrule_Head.x9 : Ex → Option (List Nat × List Sp)
  | .exit 0 => some ([3], [])
  | _ => none
def cssrule_Head.L9 (k : Nat) (n : Nat) (v : Bool × (List S77) × Int × Int × (List UInt8)) (K : Ex → St T → Option (List UInt8)) : Option (List UInt8) := cssrule_Head.c9 k n v.1 v.2.1 v.2.2.1 v.2.2.2.1 v.2.2.2.2 (fun y43 => K (.exit 0) (mkSt [3] (io5.enc y43)))
def cssrule_Head.cuts (w0 : World) (k : Nat) : Cuts T (List UInt8) := fun n => bif n.beq 20 then some (entK (cfg w0 (tab39 k)) 0 [3, 6, 7, 8, 9] [] io52.pat (cssrule_Head.L20 k)) else bif n.beq 9 then some (entK (cfg w0 (tab39 k)) 0 [3, 4, 7, 8, 9] [] io53.pat (cssrule_Head.L9 k k)) else none
def cssrule_Head.body : Code := bodyOf Tryd.f74
def cssrule_Head.b20 : Code := findD 20 cssrule_Head.body
theorem cssrule_Head.s20 (w0 : World) (k : Nat) : ∀ v K, cssrule_Head.L20 k v K = runK (cfg w0 (tab39 k)) Tryd.f74.ntmps (cssrule_Head.kr w0 k) (annot (cssrule_Head.cuts w0 k) cssrule_Head.b20) (mkSt [3, 6, 7, 8, 9] (io52.enc v)) (outK (cfg w0 (tab39 k)) 0 cssrule_Head.x20 K) := by
  intro v K; kernel_rfl
def cssrule_Head.b9 : Code := findD 9 cssrule_Head.body
theorem cssrule_Head.s9 (w0 : World) (k : Nat) : ∀ n v K, cssrule_Head.L9 k (n + 1) v K = runK (cfg w0 (tab39 k)) Tryd.f74.ntmps (cssrule_Head.kr w0 k) (annot (cssrule_Head.cuts w0 k) cssrule_Head.b9) (mkSt [3, 4, 7, 8, 9] (io53.enc v)) (loopK (cfg w0 (tab39 k)) 0 cssrule_Head.x9 (entK (cfg w0 (tab39 k)) 0 [3, 4, 7, 8, 9] [] io53.pat (cssrule_Head.L9 k n)) K) := by
  intro n v K; kernel_rfl
theorem cssrule_Head.e (w0 : World) (k : Nat) : ∀ v, (fun v => cssrule_Head k v) v = runK (cfg w0 (tab39 k)) Tryd.f74.ntmps (cssrule_Head.kr w0 k) (annot (cssrule_Head.cuts w0 k) cssrule_Head.body) (entry (io37.enc v).1 (io37.enc v).2) (endK (cssrule_Head.kr w0 k)) := by
  intro v; kernel_rfl
theorem cssrule_Head.hb : Tryd.f74.body = some cssrule_Head.body := by kernel_rfl
def tab40 (k : Nat) : Tab T := addTab 74 (line io37 io1 [] (fun v => cssrule_Head k v)) (tab39 k)
def cssrule_find_v2.c3 (k : Nat) : Nat → (List S77) → Int → (Int → Option (Int)) → Option (Int)
  | 0, _, _, _ => none
  | n + 1, x3, x4, k0 =>
    let v5 : Bool := (decide (x4 < (x3.length : Int)))
    cond ((decide (0 ≤ x4 ∧ x4 < (x3.length : Int))) || !v5) (
    (cond v5 (cssrule_semi k ((x3.getD x4.toNat S77.d).Kind) ((x3.getD x4.toNat S77.d).Raw) ((x3.getD x4.toNat S77.d).Value) ((x3.getD x4.toNat S77.d).Num)) (some false)).bind fun r6 =>
    cond (cond v5 (!r6) false) (
    cond (decide (0 ≤ x4 ∧ x4 < (x3.length : Int))) (
    (cssrule_opens k ((x3.getD x4.toNat S77.d).Kind) ((x3.getD x4.toNat S77.d).Raw) ((x3.getD x4.toNat S77.d).Value) ((x3.getD x4.toNat S77.d).Num)).bind fun r7 =>
    cond r7 (
    (cssrule_block k x3 x4).bind fun r8 =>
    cssrule_find_v2.c3 k n x3 r8.1 k0) (
    let v9 : Int := (IntKind.wrap .i64 (x4 + (1 : Int)))
    cssrule_find_v2.c3 k n x3 v9 k0)) none) (
    k0 x4)) none
def cssrule_find_v2 (k : Nat) (a1 : List S77) (a2 : Int) : Option (Int) :=
cssrule_find_v2.c3 k k a1 a2 (fun (y10 : Int) =>
some y10)
def cssrule_find_v2.kr (w0 : World) (k : Nat) : St T → Option (Int) := (retK (cfg w0 (tab40 k)) Tryd.f82.results.toList 0 [] io4.pat)
def cssrule_find_v2.x3 : Ex → Option (List Nat × List Sp)
  | .exit 0 => some ([1], [])
  | _ => none
def cssrule_find_v2.L3 (k : Nat) (n : Nat) (v : (List S77) × Int) (K : Ex → St T → Option (Int)) : Option (Int) := cssrule_find_v2.c3 k n v.1 v.2 (fun y44 => K (.exit 0) (mkSt [1] (io4.enc y44)))
def cssrule_find_v2.cuts (w0 : World) (k : Nat) : Cuts T (Int) := fun n => bif n.beq 3 then some (entK (cfg w0 (tab40 k)) 0 [0, 1, 2] [] io54.pat (cssrule_find_v2.L3 k k)) else none
def cssrule_find_v2.body : Code := bodyOf Tryd.f82
def cssrule_find_v2.b3 : Code := findD 3 cssrule_find_v2.body
theorem cssrule_find_v2.s3 (w0 : World) (k : Nat) : ∀ n v K, cssrule_find_v2.L3 k (n + 1) v K = runK (cfg w0 (tab40 k)) Tryd.f82.ntmps (cssrule_find_v2.kr w0 k) (annot (cssrule_find_v2.cuts w0 k) cssrule_find_v2.b3) (mkSt [0, 1, 2] (io54.enc v)) (loopK (cfg w0 (tab40 k)) 0 cssrule_find_v2.x3 (entK (cfg w0 (tab40 k)) 0 [0, 1, 2] [] io54.pat (cssrule_find_v2.L3 k n)) K) := by
  intro n v K; kernel_rfl
theorem cssrule_find_v2.e (w0 : World) (k : Nat) : ∀ v, (fun v => cssrule_find_v2 k v.1 v.2) v = runK (cfg w0 (tab40 k)) Tryd.f82.ntmps (cssrule_find_v2.kr w0 k) (annot (cssrule_find_v2.cuts w0 k) cssrule_find_v2.body) (entry (io54.enc v).1 (io54.enc v).2) (endK (cssrule_find_v2.kr w0 k)) := by
  intro v; kernel_rfl
theorem cssrule_find_v2.hb : Tryd.f82.body = some cssrule_find_v2.body := by kernel_rfl
def tab41 (k : Nat) : Tab T := addTab 82 (line io54 io4 (0 : Int) (fun v => cssrule_find_v2 k v.1 v.2)) (tab40 k)
def cssrule_lower.c7 (k : Nat) : Nat → Int → Int → (List Int) → ((List Int) → Option (List UInt8)) → Option (List UInt8)
  | 0, _, _, _, _ => none
  | n + 1, x2, x3, x4, k0 =>
    cond (decide (x3 < x2)) (
    cond (decide (0 ≤ x3 ∧ x3 < (x4.length : Int))) (
    let v5 : Bool := (decide ((x4.getD x3.toNat (0 : Int)) ≥ (65 : Int)))
    let v6 : Bool := (decide ((x4.getD x3.toNat (0 : Int)) ≤ (90 : Int)))
    cond (cond v5 v6 false) (
    let v7 : Int := (IntKind.wrap .u8 ((x4.getD x3.toNat (0 : Int)) + (32 : Int)))
    cond (decide (0 ≤ x3 ∧ x3 < (x4.length : Int))) (
    let v8 : Int := (IntKind.wrap .i64 (x3 + (1 : Int)))
    cssrule_lower.c7 k n x2 v8 (x4.set x3.toNat v7) k0) none) (
    let v9 : Int := (IntKind.wrap .i64 (x3 + (1 : Int)))
    cssrule_lower.c7 k n x2 v9 x4 k0)) none) (
    k0 x4)
def cssrule_lower (k : Nat) (a1 : List UInt8) : Option (List UInt8) :=
cssrule_lower.c7 k k ((bytesI a1).length : Int) (0 : Int) (bytesI a1) (fun (y10 : List Int) =>
some (bytesU y10))
def cssrule_lower.kr (w0 : World) (k : Nat) : St T → Option (List UInt8) := (retK (cfg w0 (tab41 k)) Tryd.f124.results.toList 0 [] io1.pat)
def cssrule_lower.x7 : Ex → Option (List Nat × List Sp)
  | .exit 0 => some ([3], [])
  | _ => none
def cssrule_lower.L7 (k : Nat) (n : Nat) (v : Int × Int × (List Int)) (K : Ex → St T → Option (List UInt8)) : Option (List UInt8) := cssrule_lower.c7 k n v.1 v.2.1 v.2.2 (fun y45 => K (.exit 0) (mkSt [3] (io28.enc y45)))
def cssrule_lower.cuts (w0 : World) (k : Nat) : Cuts T (List UInt8) := fun n => bif n.beq 7 then some (entK (cfg w0 (tab41 k)) 0 [3, 8, 9, 10] [] io27.pat (cssrule_lower.L7 k k)) else none
def cssrule_lower.body : Code := bodyOf Tryd.f124
def cssrule_lower.b7 : Code := findD 7 cssrule_lower.body
theorem cssrule_lower.s7 (w0 : World) (k : Nat) : ∀ n v K, cssrule_lower.L7 k (n + 1) v K = runK (cfg w0 (tab41 k)) Tryd.f124.ntmps (cssrule_lower.kr w0 k) (annot (cssrule_lower.cuts w0 k) cssrule_lower.b7) (mkSt [3, 8, 9, 10] (io27.enc v)) (loopK (cfg w0 (tab41 k)) 0 cssrule_lower.x7 (entK (cfg w0 (tab41 k)) 0 [3, 8, 9, 10] [] io27.pat (cssrule_lower.L7 k n)) K) := by
  intro n v K; kernel_rfl
theorem cssrule_lower.e (w0 : World) (k : Nat) : ∀ v, (fun v => cssrule_lower k v) v = runK (cfg w0 (tab41 k)) Tryd.f124.ntmps (cssrule_lower.kr w0 k) (annot (cssrule_lower.cuts w0 k) cssrule_lower.body) (entry (io1.enc v).1 (io1.enc v).2) (endK (cssrule_lower.kr w0 k)) := by
  intro v; kernel_rfl
theorem cssrule_lower.hb : Tryd.f124.body = some cssrule_lower.body := by kernel_rfl
def tab42 (k : Nat) : Tab T := addTab 124 (line io1 io1 [] (fun v => cssrule_lower k v)) (tab41 k)
def cssrule_colon (k : Nat) (a1 : Int) (a2 : List UInt8) (a3 : List UInt8) (a4 : Int) : Option (Bool) :=
(cssrule_raw k a1 a2 a3 a4 (12 : Int) ([58] : List UInt8)).bind fun r5 =>
some r5
def cssrule_colon.kr (w0 : World) (k : Nat) : St T → Option (Bool) := (retK (cfg w0 (tab42 k)) Tryd.f125.results.toList 0 [] io2.pat)
def cssrule_colon.cuts (w0 : World) (k : Nat) : Cuts T (Bool) := fun n => none
def cssrule_colon.body : Code := bodyOf Tryd.f125
theorem cssrule_colon.e (w0 : World) (k : Nat) : ∀ v, (fun v => cssrule_colon k v.1 v.2.1 v.2.2.1 v.2.2.2) v = runK (cfg w0 (tab42 k)) Tryd.f125.ntmps (cssrule_colon.kr w0 k) (annot (cssrule_colon.cuts w0 k) cssrule_colon.body) (entry (io9.enc v).1 (io9.enc v).2) (endK (cssrule_colon.kr w0 k)) := by
  intro v; kernel_rfl
theorem cssrule_colon.hb : Tryd.f125.body = some cssrule_colon.body := by kernel_rfl
def tab43 (k : Nat) : Tab T := addTab 125 (line io9 io2 false (fun v => cssrule_colon k v.1 v.2.1 v.2.2.1 v.2.2.2)) (tab42 k)
def cssrule_plain (k : Nat) (a1 : List UInt8) : Option (Bool) :=
(csstok_Cut k a1).bind fun r2 =>
let v3 : Bool := ((r2.length : Int) == (1 : Int))
cond ((decide (0 ≤ (0 : Int) ∧ (0 : Int) < (r2.length : Int))) || !v3) (
let v4 : Int := (r2.getD ((0 : Int).toNat) S77.d).Kind
let v5 : Bool := (cond v3 (v4 == (1 : Int)) false)
cond ((decide (0 ≤ (0 : Int) ∧ (0 : Int) < (r2.length : Int))) || !v5) (
let v6 : List UInt8 := (r2.getD ((0 : Int).toNat) S77.d).Value
cond ((decide (0 ≤ (0 : Int) ∧ (0 : Int) < (r2.length : Int))) || !(cond v5 (v6 == a1) false)) (
let v7 : List UInt8 := (r2.getD ((0 : Int).toNat) S77.d).Raw
let v8 : Bool := (cond (cond v5 (v6 == a1) false) (v7 == a1) false)
some v8) none) none) none
def cssrule_plain.kr (w0 : World) (k : Nat) : St T → Option (Bool) := (retK (cfg w0 (tab43 k)) Tryd.f126.results.toList 0 [] io2.pat)
def cssrule_plain.cuts (w0 : World) (k : Nat) : Cuts T (Bool) := fun n => none
def cssrule_plain.body : Code := bodyOf Tryd.f126
theorem cssrule_plain.e (w0 : World) (k : Nat) : ∀ v, (fun v => cssrule_plain k v) v = runK (cfg w0 (tab43 k)) Tryd.f126.ntmps (cssrule_plain.kr w0 k) (annot (cssrule_plain.cuts w0 k) cssrule_plain.body) (entry (io1.enc v).1 (io1.enc v).2) (endK (cssrule_plain.kr w0 k)) := by
  intro v; kernel_rfl
theorem cssrule_plain.hb : Tryd.f126.body = some cssrule_plain.body := by kernel_rfl
def tab44 (k : Nat) : Tab T := addTab 126 (line io1 io2 false (fun v => cssrule_plain k v)) (tab43 k)
def strings_EqualFold (k : Nat) (a7 : List UInt8) (a8 : List UInt8) : Option (Bool) := foldS a7 a8
def tab45 (k : Nat) : Tab T := addTab 70 (line io0 io2 false (fun v => strings_EqualFold k v.1 v.2)) (tab44 k)
def cssrule_mark (k : Nat) (a1 : Int) (a2 : List UInt8) (a3 : List UInt8) (a4 : Int) : Option (Bool) :=
(cssrule_raw k a1 a2 a3 a4 (12 : Int) ([33] : List UInt8)).bind fun r5 =>
some r5
def cssrule_mark.kr (w0 : World) (k : Nat) : St T → Option (Bool) := (retK (cfg w0 (tab45 k)) Tryd.f160.results.toList 0 [] io2.pat)
def cssrule_mark.cuts (w0 : World) (k : Nat) : Cuts T (Bool) := fun n => none
def cssrule_mark.body : Code := bodyOf Tryd.f160
theorem cssrule_mark.e (w0 : World) (k : Nat) : ∀ v, (fun v => cssrule_mark k v.1 v.2.1 v.2.2.1 v.2.2.2) v = runK (cfg w0 (tab45 k)) Tryd.f160.ntmps (cssrule_mark.kr w0 k) (annot (cssrule_mark.cuts w0 k) cssrule_mark.body) (entry (io9.enc v).1 (io9.enc v).2) (endK (cssrule_mark.kr w0 k)) := by
  intro v; kernel_rfl
theorem cssrule_mark.hb : Tryd.f160.body = some cssrule_mark.body := by kernel_rfl
def tab46 (k : Nat) : Tab T := addTab 160 (line io9 io2 false (fun v => cssrule_mark k v.1 v.2.1 v.2.2.1 v.2.2.2)) (tab45 k)
def cssrule_important (k : Nat) (a1 : List S77) : Option ((List S77) × Bool) :=
(cssrule_solid k a1).bind fun r2 =>
let v3 : Int := (IntKind.wrap .i64 ((r2.length : Int) - (1 : Int)))
cond ((decide (0 ≤ v3 ∧ v3 < (r2.length : Int))) || !(!(decide (v3 < (1 : Int))))) (
let v4 : Bool := (((r2.getD v3.toNat S77.d).Kind) != (1 : Int))
let v5 : Bool := (cond (decide (v3 < (1 : Int))) true v4)
cond ((decide (0 ≤ v3 ∧ v3 < (r2.length : Int))) || !(!v5)) (
(cond (!v5) (strings_EqualFold k ((r2.getD v3.toNat S77.d).Value) ([105, 109, 112, 111, 114, 116, 97, 110, 116] : List UInt8)) (some false)).bind fun r6 =>
cond (cond v5 true (!r6)) (
some (r2, false)) (
cond (decide (0 ≤ v3 ∧ v3 ≤ (r2.length : Int))) (
(cssrule_solid k (r2.take v3.toNat)).bind fun r7 =>
let v8 : Bool := ((r7.length : Int) == (0 : Int))
let v9 : Int := (IntKind.wrap .i64 ((r7.length : Int) - (1 : Int)))
cond ((decide (0 ≤ v9 ∧ v9 < (r7.length : Int))) || !(!v8)) (
(cond (!v8) (cssrule_mark k ((r7.getD v9.toNat S77.d).Kind) ((r7.getD v9.toNat S77.d).Raw) ((r7.getD v9.toNat S77.d).Value) ((r7.getD v9.toNat S77.d).Num)) (some false)).bind fun r10 =>
cond (cond v8 true (!r10)) (
some (r2, false)) (
let v11 : Int := (IntKind.wrap .i64 ((r7.length : Int) - (1 : Int)))
cond (decide (0 ≤ v11 ∧ v11 ≤ (r7.length : Int))) (
(cssrule_solid k (r7.take v11.toNat)).bind fun r12 =>
some (r12, true)) none)) none) none)) none) none
def cssrule_important.kr (w0 : World) (k : Nat) : St T → Option ((List S77) × Bool) := (retK (cfg w0 (tab46 k)) Tryd.f127.results.toList 0 [] io55.pat)
def cssrule_important.cuts (w0 : World) (k : Nat) : Cuts T ((List S77) × Bool) := fun n => none
def cssrule_important.body : Code := bodyOf Tryd.f127
theorem cssrule_important.e (w0 : World) (k : Nat) : ∀ v, (fun v => cssrule_important k v) v = runK (cfg w0 (tab46 k)) Tryd.f127.ntmps (cssrule_important.kr w0 k) (annot (cssrule_important.cuts w0 k) cssrule_important.body) (entry (io37.enc v).1 (io37.enc v).2) (endK (cssrule_important.kr w0 k)) := by
  intro v; kernel_rfl
theorem cssrule_important.hb : Tryd.f127.body = some cssrule_important.body := by kernel_rfl
def tab47 (k : Nat) : Tab T := addTab 127 (line io37 io55 ([], false) (fun v => cssrule_important k v)) (tab46 k)
structure cssrule_fair.G.R where
  cssrule_fair : (List S77) → Option (Bool)
def cssrule_fair.c5 (k : Nat) (r : cssrule_fair.G.R) : Nat → (List S77) → Int → (Option (Bool)) → Option (Bool)
  | 0, _, _, _ => none
  | n + 1, x2, x3, k0 =>
    let v4 : Bool := (decide (x3 < (x2.length : Int)))
    cond v4 (
    cond (decide (0 ≤ x3 ∧ x3 < (x2.length : Int))) (
    (cssrule_bad k ((x2.getD x3.toNat S77.d).Kind) ((x2.getD x3.toNat S77.d).Raw) ((x2.getD x3.toNat S77.d).Value) ((x2.getD x3.toNat S77.d).Num)).bind fun r5 =>
    (cond (!r5) (cssrule_brace k ((x2.getD x3.toNat S77.d).Kind) ((x2.getD x3.toNat S77.d).Raw) ((x2.getD x3.toNat S77.d).Value) ((x2.getD x3.toNat S77.d).Num)) (some false)).bind fun r6 =>
    let v7 : Bool := (((x2.getD x3.toNat S77.d).Kind) == (11 : Int))
    let v8 : Bool := (cond (cond r5 true r6) true v7)
    cond v8 (
    some false) (
    (cssrule_opens k ((x2.getD x3.toNat S77.d).Kind) ((x2.getD x3.toNat S77.d).Raw) ((x2.getD x3.toNat S77.d).Value) ((x2.getD x3.toNat S77.d).Num)).bind fun r9 =>
    cond r9 (
    (cssrule_block k x2 x3).bind fun r10 =>
    let v11 : Int := (IntKind.wrap .i64 (x3 + (1 : Int)))
    let v12 : Int := (IntKind.wrap .i64 (r10.1 - (1 : Int)))
    cond ((decide (0 ≤ v11 ∧ v11 ≤ v12 ∧ v12 ≤ (x2.length : Int))) || !(!(!r10.2))) (
    let v13 : List S77 := ((x2.take v12.toNat).drop v11.toNat)
    (cond (!(!r10.2)) (r.cssrule_fair v13) (some false)).bind fun r14 =>
    cond (cond (!r10.2) true (!r14)) (
    some false) (
    cssrule_fair.c5 k r n x2 r10.1 k0)) none) (
    let v15 : Int := (IntKind.wrap .i64 (x3 + (1 : Int)))
    cssrule_fair.c5 k r n x2 v15 k0))) none) (
    k0)
def cssrule_fair.nat (k : Nat) (r : cssrule_fair.G.R) (a1 : List S77) : Option (Bool) :=
cssrule_fair.c5 k r k a1 (0 : Int) (
some true)
def cssrule_fair.G.rec (k : Nat) : Nat → cssrule_fair.G.R
  | 0 => ⟨fun _ => none⟩
  | n + 1 => ⟨cssrule_fair.nat k (cssrule_fair.G.rec k n)⟩
def cssrule_fair (k : Nat) : (List S77) → Option (Bool) := (cssrule_fair.G.rec k k).cssrule_fair
def cssrule_fair.G.tab (k : Nat) (r : cssrule_fair.G.R) : Tab T := addTab 128 (line io37 io2 false (fun v => r.cssrule_fair v)) (tab47 k)
def cssrule_fair.kr (w0 : World) (k : Nat) (r : cssrule_fair.G.R) : St T → Option (Bool) := (retK (cfg w0 (cssrule_fair.G.tab k r)) Tryd.f128.results.toList 0 [] io2.pat)
def cssrule_fair.x5 : Ex → Option (List Nat × List Sp)
  | .exit 0 => some ([], [])
  | _ => none
def cssrule_fair.L5 (k : Nat) (r : cssrule_fair.G.R) (n : Nat) (v : (List S77) × Int) (K : Ex → St T → Option (Bool)) : Option (Bool) := cssrule_fair.c5 k r n v.1 v.2 ( K (.exit 0) (mkSt [] (io48.enc ())))
def cssrule_fair.cuts (w0 : World) (k : Nat) (r : cssrule_fair.G.R) : Cuts T (Bool) := fun n => bif n.beq 5 then some (entK (cfg w0 (cssrule_fair.G.tab k r)) 0 [0, 3] [] io41.pat (cssrule_fair.L5 k r k)) else none
def cssrule_fair.body : Code := bodyOf Tryd.f128
def cssrule_fair.b5 : Code := findD 5 cssrule_fair.body
theorem cssrule_fair.s5 (w0 : World) (k : Nat) (r : cssrule_fair.G.R) : ∀ n v K, cssrule_fair.L5 k r (n + 1) v K = runK (cfg w0 (cssrule_fair.G.tab k r)) Tryd.f128.ntmps (cssrule_fair.kr w0 k r) (annot (cssrule_fair.cuts w0 k r) cssrule_fair.b5) (mkSt [0, 3] (io41.enc v)) (loopK (cfg w0 (cssrule_fair.G.tab k r)) 0 cssrule_fair.x5 (entK (cfg w0 (cssrule_fair.G.tab k r)) 0 [0, 3] [] io41.pat (cssrule_fair.L5 k r n)) K) := by
  intro n v K; kernel_rfl
theorem cssrule_fair.e (w0 : World) (k : Nat) (r : cssrule_fair.G.R) : ∀ v, (fun v => cssrule_fair.nat k r v) v = runK (cfg w0 (cssrule_fair.G.tab k r)) Tryd.f128.ntmps (cssrule_fair.kr w0 k r) (annot (cssrule_fair.cuts w0 k r) cssrule_fair.body) (entry (io37.enc v).1 (io37.enc v).2) (endK (cssrule_fair.kr w0 k r)) := by
  intro v; kernel_rfl
theorem cssrule_fair.hb : Tryd.f128.body = some cssrule_fair.body := by kernel_rfl
def tab48 (k : Nat) : Tab T := cssrule_fair.G.tab k (cssrule_fair.G.rec k k)
def cssrule_decl.c16 (k : Nat) (x9 : List S77) (x10 : Bool) (x11 : List UInt8) (x12 : List UInt8) (x13 : Bool) (x14 : List UInt8) (x15 : List UInt8) (x16 : Bool)  : Option ((List UInt8) × (List UInt8) × Bool × Bool) :=
cond (decide (0 ≤ (1 : Int) ∧ (1 : Int) ≤ (x9.length : Int))) (
(cssrule_solid k (x9.drop (1 : Int).toNat)).bind fun r17 =>
let v18 : Bool := ((r17.length : Int) == (0 : Int))
cond ((decide (0 ≤ (0 : Int) ∧ (0 : Int) < (r17.length : Int))) || !(!v18)) (
let v19 : Int := (r17.getD ((0 : Int).toNat) S77.d).Kind
let v20 : List UInt8 := (r17.getD ((0 : Int).toNat) S77.d).Raw
let v21 : List UInt8 := (r17.getD ((0 : Int).toNat) S77.d).Value
let v22 : Int := (r17.getD ((0 : Int).toNat) S77.d).Num
(cond (!v18) (cssrule_colon k v19 v20 v21 v22) (some false)).bind fun r23 =>
(cond (!(cond v18 true (!r23))) (cssrule_plain k x14) (some false)).bind fun r24 =>
let v25 : Bool := (cond (cond v18 true (!r23)) true (!r24))
cond v25 (
some ([], [], false, false)) (
cond (decide (0 ≤ (1 : Int) ∧ (1 : Int) ≤ (r17.length : Int))) (
(cssrule_important k (r17.drop (1 : Int).toNat)).bind fun r26 =>
(cssrule_Head k r26.1).bind fun r27 =>
(cssrule_fair k r26.1).bind fun r28 =>
let v29 : Bool := (cond x10 true (!(r27 == ([] : List UInt8))))
some (x14, r27, r26.2, (cond r28 v29 false))) none)) none) none
def cssrule_decl (k : Nat) (a1 : List S77) : Option ((List UInt8) × (List UInt8) × Bool × Bool) :=
(cssrule_solid k a1).bind fun r2 =>
let v3 : Bool := ((r2.length : Int) == (0 : Int))
cond ((decide (0 ≤ (0 : Int) ∧ (0 : Int) < (r2.length : Int))) || !(!v3)) (
let v4 : Int := (r2.getD ((0 : Int).toNat) S77.d).Kind
let v5 : Bool := (cond v3 true (v4 != (1 : Int)))
cond v5 (
some ([], [], false, false)) (
cond (decide (0 ≤ (0 : Int) ∧ (0 : Int) < (r2.length : Int))) (
let v6 : List UInt8 := (r2.getD ((0 : Int).toNat) S77.d).Value
(strings_HasPrefix k v6 ([45, 45] : List UInt8)).bind fun r7 =>
cond (!r7) (
(cssrule_lower k v6).bind fun r8 =>
cssrule_decl.c16 k r2 r7 ([]) ([]) false r8 ([]) false) (
cssrule_decl.c16 k r2 r7 ([]) ([]) false v6 ([]) false)) none)) none
def cssrule_decl.kr (w0 : World) (k : Nat) : St T → Option ((List UInt8) × (List UInt8) × Bool × Bool) := (retK (cfg w0 (tab48 k)) Tryd.f88.results.toList 0 [] io56.pat)
def cssrule_decl.x16 : Ex → Option (List Nat × List Sp)
  | _ => none
def cssrule_decl.L16 (k : Nat) (v : (List S77) × Bool × (List UInt8) × (List UInt8) × Bool × (List UInt8) × (List UInt8) × Bool) (K : Ex → St T → Option ((List UInt8) × (List UInt8) × Bool × Bool)) : Option ((List UInt8) × (List UInt8) × Bool × Bool) := cssrule_decl.c16 k v.1 v.2.1 v.2.2.1 v.2.2.2.1 v.2.2.2.2.1 v.2.2.2.2.2.1 v.2.2.2.2.2.2.1 v.2.2.2.2.2.2.2
def cssrule_decl.cuts (w0 : World) (k : Nat) : Cuts T ((List UInt8) × (List UInt8) × Bool × Bool) := fun n => bif n.beq 16 then some (entK (cfg w0 (tab48 k)) 0 [0, 2, 4, 5] [] io57.pat (cssrule_decl.L16 k)) else none
def cssrule_decl.body : Code := bodyOf Tryd.f88
def cssrule_decl.b16 : Code := findD 16 cssrule_decl.body
theorem cssrule_decl.s16 (w0 : World) (k : Nat) : ∀ v K, cssrule_decl.L16 k v K = runK (cfg w0 (tab48 k)) Tryd.f88.ntmps (cssrule_decl.kr w0 k) (annot (cssrule_decl.cuts w0 k) cssrule_decl.b16) (mkSt [0, 2, 4, 5] (io57.enc v)) (outK (cfg w0 (tab48 k)) 0 cssrule_decl.x16 K) := by
  intro v K; kernel_rfl
theorem cssrule_decl.e (w0 : World) (k : Nat) : ∀ v, (fun v => cssrule_decl k v) v = runK (cfg w0 (tab48 k)) Tryd.f88.ntmps (cssrule_decl.kr w0 k) (annot (cssrule_decl.cuts w0 k) cssrule_decl.body) (entry (io37.enc v).1 (io37.enc v).2) (endK (cssrule_decl.kr w0 k)) := by
  intro v; kernel_rfl
theorem cssrule_decl.hb : Tryd.f88.body = some cssrule_decl.body := by kernel_rfl
def tab49 (k : Nat) : Tab T := addTab 88 (line io37 io56 ([], [], false, false) (fun v => cssrule_decl k v)) (tab48 k)
def cssrule_decls.c7 (k : Nat) : Nat → (List S77) → Int → (List S58) → ((List S58) → Option (List S58)) → Option (List S58)
  | 0, _, _, _, _ => none
  | n + 1, x2, x3, x4, k0 =>
    let v5 : Bool := (decide (x3 < (x2.length : Int)))
    cond v5 (
    (cssrule_find_v2 k x2 x3).bind fun r6 =>
    cond (decide (0 ≤ x3 ∧ x3 ≤ r6 ∧ r6 ≤ (x2.length : Int))) (
    let v7 : List S77 := ((x2.take r6.toNat).drop x3.toNat)
    (cssrule_decl k v7).bind fun r8 =>
    cond r8.2.2.2 (
    let v9 : List S58 := [(⟨r8.1, r8.2.1, r8.2.2.1⟩ : S58)]
    cond (decide ((x4 ++ v9).length < most)) (
    let v10 : Int := (IntKind.wrap .i64 (r6 + (1 : Int)))
    cssrule_decls.c7 k n x2 v10 (x4 ++ v9) k0) none) (
    let v11 : Int := (IntKind.wrap .i64 (r6 + (1 : Int)))
    cssrule_decls.c7 k n x2 v11 x4 k0)) none) (
    k0 x4)
def cssrule_decls (k : Nat) (a1 : List S77) : Option (List S58) :=
cssrule_decls.c7 k k a1 (0 : Int) ([] : List S58) (fun (y12 : List S58) =>
some y12)
def cssrule_decls.kr (w0 : World) (k : Nat) : St T → Option (List S58) := (retK (cfg w0 (tab49 k)) Tryd.f50.results.toList 0 [.own 0 58] io58.pat)
def cssrule_decls.x7 : Ex → Option (List Nat × List Sp)
  | .exit 0 => some ([3], [.own 3 58])
  | _ => none
def cssrule_decls.L7 (k : Nat) (n : Nat) (v : (List S77) × Int × (List S58)) (K : Ex → St T → Option (List S58)) : Option (List S58) := cssrule_decls.c7 k n v.1 v.2.1 v.2.2 (fun y46 => K (.exit 0) (mkSt [3] (io58.enc y46)))
def cssrule_decls.cuts (w0 : World) (k : Nat) : Cuts T (List S58) := fun n => bif n.beq 7 then some (entK (cfg w0 (tab49 k)) 0 [0, 3, 4] [.own 3 58] io59.pat (cssrule_decls.L7 k k)) else none
def cssrule_decls.body : Code := bodyOf Tryd.f50
def cssrule_decls.b7 : Code := findD 7 cssrule_decls.body
theorem cssrule_decls.s7 (w0 : World) (k : Nat) : ∀ n v K, cssrule_decls.L7 k (n + 1) v K = runK (cfg w0 (tab49 k)) Tryd.f50.ntmps (cssrule_decls.kr w0 k) (annot (cssrule_decls.cuts w0 k) cssrule_decls.b7) (mkSt [0, 3, 4] (io59.enc v)) (loopK (cfg w0 (tab49 k)) 0 cssrule_decls.x7 (entK (cfg w0 (tab49 k)) 0 [0, 3, 4] [.own 3 58] io59.pat (cssrule_decls.L7 k n)) K) := by
  intro n v K; kernel_rfl
theorem cssrule_decls.e (w0 : World) (k : Nat) : ∀ v, (fun v => cssrule_decls k v) v = runK (cfg w0 (tab49 k)) Tryd.f50.ntmps (cssrule_decls.kr w0 k) (annot (cssrule_decls.cuts w0 k) cssrule_decls.body) (entry (io37.enc v).1 (io37.enc v).2) (endK (cssrule_decls.kr w0 k)) := by
  intro v; kernel_rfl
theorem cssrule_decls.hb : Tryd.f50.body = some cssrule_decls.body := by kernel_rfl
def tab50 (k : Nat) : Tab T := addTab 50 (line io37 io58 [] (fun v => cssrule_decls k v)) (tab49 k)
structure cssrule_rules.G.R where
  cssrule_rule : (List S77) → (List S77) → Int → Option (Bool × (List UInt8) × (List S58) × (List S91) × Bool)
  cssrule_rules : (List S77) → Int → Option (List S91)
def cssrule_rule.nat (k : Nat) (r : cssrule_rules.G.R) (a1 : List S77) (a2 : List S77) (a3 : Int) : Option (Bool × (List UInt8) × (List S58) × (List S91) × Bool) :=
(api_SToken_ k a1).bind fun r4 =>
cond r4 (
some (false, [], ([] : List S58), ([] : List S91), false)) (
let v5 : Bool := ((a1.length : Int) == (0 : Int))
cond ((decide (0 ≤ (0 : Int) ∧ (0 : Int) < (a1.length : Int))) || !(!v5)) (
let v6 : Int := (a1.getD ((0 : Int).toNat) S77.d).Kind
let v7 : Bool := (cond v5 true (v6 != (3 : Int)))
cond v7 (
(cssrule_Head k a1).bind fun r8 =>
(cssrule_decls k a2).bind fun r9 =>
some (false, r8, r9, ([] : List S91), true)) (
cond (decide (0 ≤ (0 : Int) ∧ (0 : Int) < (a1.length : Int))) (
let v10 : List UInt8 := (a1.getD ((0 : Int).toNat) S77.d).Value
(strings_EqualFold k v10 ([109, 101, 100, 105, 97] : List UInt8)).bind fun r11 =>
let v12 : Bool := (cond (!r11) true (decide (a3 ≥ (3 : Int))))
cond v12 (
some (false, [], ([] : List S58), ([] : List S91), false)) (
cond (decide (0 ≤ (1 : Int) ∧ (1 : Int) ≤ (a1.length : Int))) (
(cssrule_Head k (a1.drop (1 : Int).toNat)).bind fun r13 =>
let v14 : Int := (IntKind.wrap .i64 (a3 + (1 : Int)))
(r.cssrule_rules a2 v14).bind fun r15 =>
some (true, r13, ([] : List S58), r15, true)) none)) none)) none)
def cssrule_rules.c32 (k : Nat) (r : cssrule_rules.G.R) (x20 : List S77) (x21 : Int) (x22 : Int) (x23 : Int) (x24 : List S77) (x25 : List S91) (kn : (List S77) → Int → Int → (List S91) → Option (List S91)) : Option (List S91) :=
cond (decide (0 ≤ x22 ∧ x22 ≤ (x20.length : Int))) (
(r.cssrule_rule (x20.take x22.toNat) x24 x21).bind fun r26 =>
cond r26.2.2.2.2 (
let v16 : List S91 := [(⟨r26.1, r26.2.1, r26.2.2.1, r26.2.2.2.1⟩ : S91)]
cond (decide ((x25 ++ v16).length < most)) (
kn x20 x21 x23 (x25 ++ v16)) none) (
kn x20 x21 x23 x25)) none
def cssrule_rules.c38 (k : Nat) (r : cssrule_rules.G.R) (x21 : List S77) (x22 : Int) (x23 : Int) (x24 : List S91) (kn : (List S77) → Int → (List S91) → Option (List S91)) : Option (List S91) :=
cond (decide (0 ≤ x23 ∧ x23 ≤ (x21.length : Int))) (
kn (x21.drop x23.toNat) x22 x24) none
def cssrule_rules.c5 (k : Nat) (r : cssrule_rules.G.R) : Nat → (List S77) → Int → (List S91) → Option (List S91)
  | 0, _, _, _ => none
  | n + 1, x3, x4, x5 =>
    (cssrule_solid k x3).bind fun r6 =>
    let v7 : Bool := ((r6.length : Int) == (0 : Int))
    cond v7 (
    some x5) (
    cond (decide (0 ≤ (0 : Int) ∧ (0 : Int) < (r6.length : Int))) (
    let v8 : Int := (r6.getD ((0 : Int).toNat) S77.d).Kind
    (cssrule_find k r6 (0 : Int) (v8 == (3 : Int))).bind fun r9 =>
    cond (r9.1 == (r6.length : Int)) (
    some x5) (
    let v10 : Int := (IntKind.wrap .i64 (r9.1 + (1 : Int)))
    cond (decide (0 ≤ r9.1 ∧ r9.1 < (r6.length : Int))) (
    let v11 : Int := (r6.getD r9.1.toNat S77.d).Kind
    let v12 : List UInt8 := (r6.getD r9.1.toNat S77.d).Value
    (cssrule_brace k v11 ((r6.getD r9.1.toNat S77.d).Raw) v12 ((r6.getD r9.1.toNat S77.d).Num)).bind fun r13 =>
    cond r13 (
    (cssrule_block k r6 r9.1).bind fun r14 =>
    let v15 : Int := (IntKind.wrap .i64 (r9.1 + (1 : Int)))
    cond (decide (0 ≤ v15 ∧ v15 ≤ r14.1 ∧ r14.1 ≤ (r6.length : Int))) (
    let v16 : List S77 := ((r6.take r14.1.toNat).drop v15.toNat)
    cond r14.2 (
    let v17 : Int := (IntKind.wrap .i64 (r9.1 + (1 : Int)))
    let v18 : Int := (IntKind.wrap .i64 (r14.1 - (1 : Int)))
    cond (decide (0 ≤ v17 ∧ v17 ≤ v18 ∧ v18 ≤ (r6.length : Int))) (
    let v19 : List S77 := ((r6.take v18.toNat).drop v17.toNat)
    cssrule_rules.c32 k r r6 x4 r9.1 r14.1 v19 x5 (fun (y17 : List S77) (y18 : Int) (y19 : Int) (y20 : List S91) =>
    cssrule_rules.c38 k r y17 y18 y19 y20 (fun (y25 : List S77) (y26 : Int) (y27 : List S91) =>
    cssrule_rules.c5 k r n y25 y26 y27))) none) (
    cssrule_rules.c32 k r r6 x4 r9.1 r14.1 v16 x5 (fun (y28 : List S77) (y29 : Int) (y30 : Int) (y31 : List S91) =>
    cssrule_rules.c38 k r y28 y29 y30 y31 (fun (y32 : List S77) (y33 : Int) (y34 : List S91) =>
    cssrule_rules.c5 k r n y32 y33 y34)))) none) (
    cssrule_rules.c38 k r r6 x4 v10 x5 (fun (y35 : List S77) (y36 : Int) (y37 : List S91) =>
    cssrule_rules.c5 k r n y35 y36 y37))) none)) none)
def cssrule_rules.nat (k : Nat) (r : cssrule_rules.G.R) (a1 : List S77) (a2 : Int) : Option (List S91) :=
cssrule_rules.c5 k r k a1 a2 ([] : List S91)
def cssrule_rules.G.rec (k : Nat) : Nat → cssrule_rules.G.R
  | 0 => ⟨fun _ _ _ => none, fun _ _ => none⟩
  | n + 1 => ⟨cssrule_rule.nat k (cssrule_rules.G.rec k n), cssrule_rules.nat k (cssrule_rules.G.rec k n)⟩
def cssrule_rule (k : Nat) : (List S77) → (List S77) → Int → Option (Bool × (List UInt8) × (List S58) × (List S91) × Bool) := (cssrule_rules.G.rec k k).cssrule_rule
def cssrule_rules (k : Nat) : (List S77) → Int → Option (List S91) := (cssrule_rules.G.rec k k).cssrule_rules
def cssrule_rules.G.tab (k : Nat) (r : cssrule_rules.G.R) : Tab T := addTab 48 (line io41 io62 [] (fun v => r.cssrule_rules v.1 v.2)) (addTab 87 (line io60 io61 (false, [], [], [], false) (fun v => r.cssrule_rule v.1 v.2.1 v.2.2)) (tab50 k))
def cssrule_rule.kr (w0 : World) (k : Nat) (r : cssrule_rules.G.R) : St T → Option (Bool × (List UInt8) × (List S58) × (List S91) × Bool) := (retK (cfg w0 (cssrule_rules.G.tab k r)) Tryd.f87.results.toList 0 [.agg 0 91] io61.pat)
def cssrule_rule.cuts (w0 : World) (k : Nat) (r : cssrule_rules.G.R) : Cuts T (Bool × (List UInt8) × (List S58) × (List S91) × Bool) := fun n => none
def cssrule_rule.body : Code := bodyOf Tryd.f87
theorem cssrule_rule.e (w0 : World) (k : Nat) (r : cssrule_rules.G.R) : ∀ v, (fun v => cssrule_rule.nat k r v.1 v.2.1 v.2.2) v = runK (cfg w0 (cssrule_rules.G.tab k r)) Tryd.f87.ntmps (cssrule_rule.kr w0 k r) (annot (cssrule_rule.cuts w0 k r) cssrule_rule.body) (entry (io60.enc v).1 (io60.enc v).2) (endK (cssrule_rule.kr w0 k r)) := by
  intro v; kernel_rfl
theorem cssrule_rule.hb : Tryd.f87.body = some cssrule_rule.body := by kernel_rfl
def cssrule_rules.kr (w0 : World) (k : Nat) (r : cssrule_rules.G.R) : St T → Option (List S91) := (retK (cfg w0 (cssrule_rules.G.tab k r)) Tryd.f48.results.toList 0 [.own 0 91] io62.pat)
def cssrule_rules.x32 : Ex → Option (List Nat × List Sp)
  | .norm => some ([0, 1, 5, 8], [.own 5 91])
  | _ => none
def cssrule_rules.L32 (k : Nat) (r : cssrule_rules.G.R) (v : (List S77) × Int × Int × Int × (List S77) × (List S91)) (K : Ex → St T → Option (List S91)) : Option (List S91) := cssrule_rules.c32 k r v.1 v.2.1 v.2.2.1 v.2.2.2.1 v.2.2.2.2.1 v.2.2.2.2.2 (fun y47 y48 y49 y50 => K .norm (mkSt [0, 1, 5, 8] (io64.enc (y47, y48, y49, y50))))
def cssrule_rules.x38 : Ex → Option (List Nat × List Sp)
  | .norm => some ([0, 1, 5], [])
  | _ => none
def cssrule_rules.L38 (k : Nat) (r : cssrule_rules.G.R) (v : (List S77) × Int × Int × (List S91)) (K : Ex → St T → Option (List S91)) : Option (List S91) := cssrule_rules.c38 k r v.1 v.2.1 v.2.2.1 v.2.2.2 (fun y51 y52 y53 => K .norm (mkSt [0, 1, 5] (io65.enc (y51, y52, y53))))
def cssrule_rules.x5 : Ex → Option (List Nat × List Sp)
  | _ => none
def cssrule_rules.L5 (k : Nat) (r : cssrule_rules.G.R) (n : Nat) (v : (List S77) × Int × (List S91)) (K : Ex → St T → Option (List S91)) : Option (List S91) := cssrule_rules.c5 k r n v.1 v.2.1 v.2.2
def cssrule_rules.cuts (w0 : World) (k : Nat) (r : cssrule_rules.G.R) : Cuts T (List S91) := fun n => bif n.beq 32 then some (entK (cfg w0 (cssrule_rules.G.tab k r)) 0 [0, 1, 5, 7, 8, 10] [.own 5 91] io63.pat (cssrule_rules.L32 k r)) else bif n.beq 38 then some (entK (cfg w0 (cssrule_rules.G.tab k r)) 0 [0, 1, 5, 8] [.own 5 91] io64.pat (cssrule_rules.L38 k r)) else bif n.beq 5 then some (entK (cfg w0 (cssrule_rules.G.tab k r)) 0 [0, 1, 5] [.own 5 91] io65.pat (cssrule_rules.L5 k r k)) else none
def cssrule_rules.body : Code := bodyOf Tryd.f48
def cssrule_rules.b32 : Code := findD 32 cssrule_rules.body
theorem cssrule_rules.s32 (w0 : World) (k : Nat) (r : cssrule_rules.G.R) : ∀ v K, cssrule_rules.L32 k r v K = runK (cfg w0 (cssrule_rules.G.tab k r)) Tryd.f48.ntmps (cssrule_rules.kr w0 k r) (annot (cssrule_rules.cuts w0 k r) cssrule_rules.b32) (mkSt [0, 1, 5, 7, 8, 10] (io63.enc v)) (outK (cfg w0 (cssrule_rules.G.tab k r)) 0 cssrule_rules.x32 K) := by
  intro v K; kernel_rfl
def cssrule_rules.b38 : Code := findD 38 cssrule_rules.body
theorem cssrule_rules.s38 (w0 : World) (k : Nat) (r : cssrule_rules.G.R) : ∀ v K, cssrule_rules.L38 k r v K = runK (cfg w0 (cssrule_rules.G.tab k r)) Tryd.f48.ntmps (cssrule_rules.kr w0 k r) (annot (cssrule_rules.cuts w0 k r) cssrule_rules.b38) (mkSt [0, 1, 5, 8] (io64.enc v)) (outK (cfg w0 (cssrule_rules.G.tab k r)) 0 cssrule_rules.x38 K) := by
  intro v K; kernel_rfl
def cssrule_rules.b5 : Code := findD 5 cssrule_rules.body
theorem cssrule_rules.s5 (w0 : World) (k : Nat) (r : cssrule_rules.G.R) : ∀ n v K, cssrule_rules.L5 k r (n + 1) v K = runK (cfg w0 (cssrule_rules.G.tab k r)) Tryd.f48.ntmps (cssrule_rules.kr w0 k r) (annot (cssrule_rules.cuts w0 k r) cssrule_rules.b5) (mkSt [0, 1, 5] (io65.enc v)) (loopK (cfg w0 (cssrule_rules.G.tab k r)) 0 cssrule_rules.x5 (entK (cfg w0 (cssrule_rules.G.tab k r)) 0 [0, 1, 5] [.own 5 91] io65.pat (cssrule_rules.L5 k r n)) K) := by
  intro n v K; kernel_rfl
theorem cssrule_rules.e (w0 : World) (k : Nat) (r : cssrule_rules.G.R) : ∀ v, (fun v => cssrule_rules.nat k r v.1 v.2) v = runK (cfg w0 (cssrule_rules.G.tab k r)) Tryd.f48.ntmps (cssrule_rules.kr w0 k r) (annot (cssrule_rules.cuts w0 k r) cssrule_rules.body) (entry (io41.enc v).1 (io41.enc v).2) (endK (cssrule_rules.kr w0 k r)) := by
  intro v; kernel_rfl
theorem cssrule_rules.hb : Tryd.f48.body = some cssrule_rules.body := by kernel_rfl
def tab51 (k : Nat) : Tab T := cssrule_rules.G.tab k (cssrule_rules.G.rec k k)
structure cssrule_many.G.R where
  cssrule_many : (List S91) → Option (Int × Bool)
def cssrule_many.c7 (k : Nat) (r : cssrule_many.G.R) : Nat → Int → (List S91) → Int → Int → (Int → Option (Int × Bool)) → Option (Int × Bool)
  | 0, _, _, _, _, _ => none
  | n + 1, x2, x3, x4, x5, k0 =>
    cond (decide (x5 < x4)) (
    cond (decide (0 ≤ x5 ∧ x5 < (x3.length : Int))) (
    (r.cssrule_many ((x3.getD x5.toNat S91.d).Rules)).bind fun r6 =>
    let v7 : Int := (IntKind.wrap .i64 (x2 + r6.1))
    let v8 : Int := (((x3.getD x5.toNat S91.d).Decls).length : Int)
    let v9 : Bool := (cond r6.2 true (decide (v8 > (30 : Int))))
    cond v9 (
    some (v7, true)) (
    let v10 : Int := (IntKind.wrap .i64 (x5 + (1 : Int)))
    cssrule_many.c7 k r n v7 x3 x4 v10 k0)) none) (
    k0 x2)
def cssrule_many.nat (k : Nat) (r : cssrule_many.G.R) (a1 : List S91) : Option (Int × Bool) :=
cssrule_many.c7 k r k (a1.length : Int) a1 (a1.length : Int) (0 : Int) (fun (y11 : Int) =>
some (y11, false))
def cssrule_many.G.rec (k : Nat) : Nat → cssrule_many.G.R
  | 0 => ⟨fun _ => none⟩
  | n + 1 => ⟨cssrule_many.nat k (cssrule_many.G.rec k n)⟩
def cssrule_many (k : Nat) : (List S91) → Option (Int × Bool) := (cssrule_many.G.rec k k).cssrule_many
def cssrule_many.G.tab (k : Nat) (r : cssrule_many.G.R) : Tab T := addTab 49 (line io66 io42 ((0 : Int), false) (fun v => r.cssrule_many v)) (tab51 k)
def cssrule_many.kr (w0 : World) (k : Nat) (r : cssrule_many.G.R) : St T → Option (Int × Bool) := (retK (cfg w0 (cssrule_many.G.tab k r)) Tryd.f49.results.toList 0 [] io42.pat)
def cssrule_many.x7 : Ex → Option (List Nat × List Sp)
  | .exit 0 => some ([4], [])
  | _ => none
def cssrule_many.L7 (k : Nat) (r : cssrule_many.G.R) (n : Nat) (v : Int × (List S91) × Int × Int) (K : Ex → St T → Option (Int × Bool)) : Option (Int × Bool) := cssrule_many.c7 k r n v.1 v.2.1 v.2.2.1 v.2.2.2 (fun y54 => K (.exit 0) (mkSt [4] (io4.enc y54)))
def cssrule_many.cuts (w0 : World) (k : Nat) (r : cssrule_many.G.R) : Cuts T (Int × Bool) := fun n => bif n.beq 7 then some (entK (cfg w0 (cssrule_many.G.tab k r)) 0 [4, 11, 12, 13] [] io67.pat (cssrule_many.L7 k r k)) else none
def cssrule_many.body : Code := bodyOf Tryd.f49
def cssrule_many.b7 : Code := findD 7 cssrule_many.body
theorem cssrule_many.s7 (w0 : World) (k : Nat) (r : cssrule_many.G.R) : ∀ n v K, cssrule_many.L7 k r (n + 1) v K = runK (cfg w0 (cssrule_many.G.tab k r)) Tryd.f49.ntmps (cssrule_many.kr w0 k r) (annot (cssrule_many.cuts w0 k r) cssrule_many.b7) (mkSt [4, 11, 12, 13] (io67.enc v)) (loopK (cfg w0 (cssrule_many.G.tab k r)) 0 cssrule_many.x7 (entK (cfg w0 (cssrule_many.G.tab k r)) 0 [4, 11, 12, 13] [] io67.pat (cssrule_many.L7 k r n)) K) := by
  intro n v K; kernel_rfl
theorem cssrule_many.e (w0 : World) (k : Nat) (r : cssrule_many.G.R) : ∀ v, (fun v => cssrule_many.nat k r v) v = runK (cfg w0 (cssrule_many.G.tab k r)) Tryd.f49.ntmps (cssrule_many.kr w0 k r) (annot (cssrule_many.cuts w0 k r) cssrule_many.body) (entry (io66.enc v).1 (io66.enc v).2) (endK (cssrule_many.kr w0 k r)) := by
  intro v; kernel_rfl
theorem cssrule_many.hb : Tryd.f49.body = some cssrule_many.body := by kernel_rfl
def tab52 (k : Nat) : Tab T := cssrule_many.G.tab k (cssrule_many.G.rec k k)
def cssrule_Parse (k : Nat) (a1 : List UInt8) : Option (Int × (List S91)) :=
let v2 : Bool := (decide ((a1.length : Int) > (3000 : Int)))
cond v2 (
some ((2 : Int), ([] : List S91))) (
(csstok_Cut k a1).bind fun r3 =>
(cssrule_rules k r3 (0 : Int)).bind fun r4 =>
(cssrule_many k r4).bind fun r5 =>
let v6 : Bool := (cond r5.2 true (decide (r5.1 > (60 : Int))))
cond v6 (
some ((2 : Int), ([] : List S91))) (
some ((0 : Int), r4)))
def cssrule_Parse.kr (w0 : World) (k : Nat) : St T → Option (Int × (List S91)) := (retK (cfg w0 (tab52 k)) Tryd.f25.results.toList 0 [.own 0 91] io68.pat)
def cssrule_Parse.cuts (w0 : World) (k : Nat) : Cuts T (Int × (List S91)) := fun n => none
def cssrule_Parse.body : Code := bodyOf Tryd.f25
theorem cssrule_Parse.e (w0 : World) (k : Nat) : ∀ v, (fun v => cssrule_Parse k v) v = runK (cfg w0 (tab52 k)) Tryd.f25.ntmps (cssrule_Parse.kr w0 k) (annot (cssrule_Parse.cuts w0 k) cssrule_Parse.body) (entry (io1.enc v).1 (io1.enc v).2) (endK (cssrule_Parse.kr w0 k)) := by
  intro v; kernel_rfl
theorem cssrule_Parse.hb : Tryd.f25.body = some cssrule_Parse.body := by kernel_rfl
def tab53 (k : Nat) : Tab T := addTab 25 (line io1 io68 ((0 : Int), []) (fun v => cssrule_Parse k v)) (tab52 k)
def clerestorykeep2_sameDecls.c9 (k : Nat) : Nat → (List S58) → (List S58) → Int → (Option (Bool)) → Option (Bool)
  | 0, _, _, _, _ => none
  | n + 1, x4, x5, x6, k0 =>
    let v7 : Bool := (decide (x6 < (x4.length : Int)))
    cond v7 (
    cond (decide (0 ≤ x6 ∧ x6 < (x4.length : Int))) (
    let v8 : Bool := (x4.getD x6.toNat S58.d).Important
    cond (decide (0 ≤ x6 ∧ x6 < (x5.length : Int))) (
    let v9 : Bool := (x5.getD x6.toNat S58.d).Important
    let v10 : Bool := (!((((x4.getD x6.toNat S58.d).Name) == ((x5.getD x6.toNat S58.d).Name)) && ((((x4.getD x6.toNat S58.d).Value) == ((x5.getD x6.toNat S58.d).Value)) && ((v8 == v9) && true))))
    cond v10 (
    some false) (
    let v11 : Int := (IntKind.wrap .i64 (x6 + (1 : Int)))
    clerestorykeep2_sameDecls.c9 k n x4 x5 v11 k0)) none) none) (
    k0)
def clerestorykeep2_sameDecls (k : Nat) (a1 : List S58) (a2 : List S58) : Option (Bool) :=
let v3 : Bool := ((a1.length : Int) != (a2.length : Int))
cond v3 (
some false) (
clerestorykeep2_sameDecls.c9 k k a1 a2 (0 : Int) (
some true))
def clerestorykeep2_sameDecls.kr (w0 : World) (k : Nat) : St T → Option (Bool) := (retK (cfg w0 (tab53 k)) Tryd.f28.results.toList 0 [] io2.pat)
def clerestorykeep2_sameDecls.x9 : Ex → Option (List Nat × List Sp)
  | .exit 0 => some ([], [])
  | _ => none
def clerestorykeep2_sameDecls.L9 (k : Nat) (n : Nat) (v : (List S58) × (List S58) × Int) (K : Ex → St T → Option (Bool)) : Option (Bool) := clerestorykeep2_sameDecls.c9 k n v.1 v.2.1 v.2.2 ( K (.exit 0) (mkSt [] (io48.enc ())))
def clerestorykeep2_sameDecls.cuts (w0 : World) (k : Nat) : Cuts T (Bool) := fun n => bif n.beq 9 then some (entK (cfg w0 (tab53 k)) 0 [0, 1, 5] [] io70.pat (clerestorykeep2_sameDecls.L9 k k)) else none
def clerestorykeep2_sameDecls.body : Code := bodyOf Tryd.f28
def clerestorykeep2_sameDecls.b9 : Code := findD 9 clerestorykeep2_sameDecls.body
theorem clerestorykeep2_sameDecls.s9 (w0 : World) (k : Nat) : ∀ n v K, clerestorykeep2_sameDecls.L9 k (n + 1) v K = runK (cfg w0 (tab53 k)) Tryd.f28.ntmps (clerestorykeep2_sameDecls.kr w0 k) (annot (clerestorykeep2_sameDecls.cuts w0 k) clerestorykeep2_sameDecls.b9) (mkSt [0, 1, 5] (io70.enc v)) (loopK (cfg w0 (tab53 k)) 0 clerestorykeep2_sameDecls.x9 (entK (cfg w0 (tab53 k)) 0 [0, 1, 5] [] io70.pat (clerestorykeep2_sameDecls.L9 k n)) K) := by
  intro n v K; kernel_rfl
theorem clerestorykeep2_sameDecls.e (w0 : World) (k : Nat) : ∀ v, (fun v => clerestorykeep2_sameDecls k v.1 v.2) v = runK (cfg w0 (tab53 k)) Tryd.f28.ntmps (clerestorykeep2_sameDecls.kr w0 k) (annot (clerestorykeep2_sameDecls.cuts w0 k) clerestorykeep2_sameDecls.body) (entry (io69.enc v).1 (io69.enc v).2) (endK (clerestorykeep2_sameDecls.kr w0 k)) := by
  intro v; kernel_rfl
theorem clerestorykeep2_sameDecls.hb : Tryd.f28.body = some clerestorykeep2_sameDecls.body := by kernel_rfl
def tab54 (k : Nat) : Tab T := addTab 28 (line io69 io2 false (fun v => clerestorykeep2_sameDecls k v.1 v.2)) (tab53 k)
structure clerestorykeep2_sameRules.G.R where
  clerestorykeep2_sameRules : (List S91) → (List S91) → Option (Bool)
def clerestorykeep2_sameRules.c9 (k : Nat) (r : clerestorykeep2_sameRules.G.R) : Nat → (List S91) → (List S91) → Int → (Option (Bool)) → Option (Bool)
  | 0, _, _, _, _ => none
  | n + 1, x4, x5, x6, k0 =>
    let v7 : Bool := (decide (x6 < (x4.length : Int)))
    cond v7 (
    cond (decide (0 ≤ x6 ∧ x6 < (x4.length : Int))) (
    cond (decide (0 ≤ x6 ∧ x6 < (x5.length : Int))) (
    let v8 : Bool := (!(((x4.getD x6.toNat S91.d).Media) == ((x5.getD x6.toNat S91.d).Media)))
    cond ((decide (0 ≤ x6 ∧ x6 < (x4.length : Int))) || !(!v8)) (
    cond ((decide (0 ≤ x6 ∧ x6 < (x5.length : Int))) || !(!v8)) (
    let v9 : Bool := (!(((x4.getD x6.toNat S91.d).Head) == ((x5.getD x6.toNat S91.d).Head)))
    cond ((decide (0 ≤ x6 ∧ x6 < (x4.length : Int))) || !(!(cond v8 true v9))) (
    cond ((decide (0 ≤ x6 ∧ x6 < (x5.length : Int))) || !(!(cond v8 true v9))) (
    (cond (!(cond v8 true v9)) (clerestorykeep2_sameDecls k ((x4.getD x6.toNat S91.d).Decls) ((x5.getD x6.toNat S91.d).Decls)) (some false)).bind fun r10 =>
    let v11 : Bool := (cond (cond v8 true v9) true (!r10))
    cond ((decide (0 ≤ x6 ∧ x6 < (x4.length : Int))) || !(!v11)) (
    cond ((decide (0 ≤ x6 ∧ x6 < (x5.length : Int))) || !(!v11)) (
    (cond (!v11) (r.clerestorykeep2_sameRules ((x4.getD x6.toNat S91.d).Rules) ((x5.getD x6.toNat S91.d).Rules)) (some false)).bind fun r12 =>
    cond (cond v11 true (!r12)) (
    some false) (
    let v13 : Int := (IntKind.wrap .i64 (x6 + (1 : Int)))
    clerestorykeep2_sameRules.c9 k r n x4 x5 v13 k0)) none) none) none) none) none) none) none) none) (
    k0)
def clerestorykeep2_sameRules.nat (k : Nat) (r : clerestorykeep2_sameRules.G.R) (a1 : List S91) (a2 : List S91) : Option (Bool) :=
let v3 : Bool := ((a1.length : Int) != (a2.length : Int))
cond v3 (
some false) (
clerestorykeep2_sameRules.c9 k r k a1 a2 (0 : Int) (
some true))
def clerestorykeep2_sameRules.G.rec (k : Nat) : Nat → clerestorykeep2_sameRules.G.R
  | 0 => ⟨fun _ _ => none⟩
  | n + 1 => ⟨clerestorykeep2_sameRules.nat k (clerestorykeep2_sameRules.G.rec k n)⟩
def clerestorykeep2_sameRules (k : Nat) : (List S91) → (List S91) → Option (Bool) := (clerestorykeep2_sameRules.G.rec k k).clerestorykeep2_sameRules
def clerestorykeep2_sameRules.G.tab (k : Nat) (r : clerestorykeep2_sameRules.G.R) : Tab T := addTab 47 (line io71 io2 false (fun v => r.clerestorykeep2_sameRules v.1 v.2)) (tab54 k)
def clerestorykeep2_sameRules.kr (w0 : World) (k : Nat) (r : clerestorykeep2_sameRules.G.R) : St T → Option (Bool) := (retK (cfg w0 (clerestorykeep2_sameRules.G.tab k r)) Tryd.f47.results.toList 0 [] io2.pat)
def clerestorykeep2_sameRules.x9 : Ex → Option (List Nat × List Sp)
  | .exit 0 => some ([], [])
  | _ => none
def clerestorykeep2_sameRules.L9 (k : Nat) (r : clerestorykeep2_sameRules.G.R) (n : Nat) (v : (List S91) × (List S91) × Int) (K : Ex → St T → Option (Bool)) : Option (Bool) := clerestorykeep2_sameRules.c9 k r n v.1 v.2.1 v.2.2 ( K (.exit 0) (mkSt [] (io48.enc ())))
def clerestorykeep2_sameRules.cuts (w0 : World) (k : Nat) (r : clerestorykeep2_sameRules.G.R) : Cuts T (Bool) := fun n => bif n.beq 9 then some (entK (cfg w0 (clerestorykeep2_sameRules.G.tab k r)) 0 [0, 1, 5] [] io72.pat (clerestorykeep2_sameRules.L9 k r k)) else none
def clerestorykeep2_sameRules.body : Code := bodyOf Tryd.f47
def clerestorykeep2_sameRules.b9 : Code := findD 9 clerestorykeep2_sameRules.body
theorem clerestorykeep2_sameRules.s9 (w0 : World) (k : Nat) (r : clerestorykeep2_sameRules.G.R) : ∀ n v K, clerestorykeep2_sameRules.L9 k r (n + 1) v K = runK (cfg w0 (clerestorykeep2_sameRules.G.tab k r)) Tryd.f47.ntmps (clerestorykeep2_sameRules.kr w0 k r) (annot (clerestorykeep2_sameRules.cuts w0 k r) clerestorykeep2_sameRules.b9) (mkSt [0, 1, 5] (io72.enc v)) (loopK (cfg w0 (clerestorykeep2_sameRules.G.tab k r)) 0 clerestorykeep2_sameRules.x9 (entK (cfg w0 (clerestorykeep2_sameRules.G.tab k r)) 0 [0, 1, 5] [] io72.pat (clerestorykeep2_sameRules.L9 k r n)) K) := by
  intro n v K; kernel_rfl
theorem clerestorykeep2_sameRules.e (w0 : World) (k : Nat) (r : clerestorykeep2_sameRules.G.R) : ∀ v, (fun v => clerestorykeep2_sameRules.nat k r v.1 v.2) v = runK (cfg w0 (clerestorykeep2_sameRules.G.tab k r)) Tryd.f47.ntmps (clerestorykeep2_sameRules.kr w0 k r) (annot (clerestorykeep2_sameRules.cuts w0 k r) clerestorykeep2_sameRules.body) (entry (io71.enc v).1 (io71.enc v).2) (endK (clerestorykeep2_sameRules.kr w0 k r)) := by
  intro v; kernel_rfl
theorem clerestorykeep2_sameRules.hb : Tryd.f47.body = some clerestorykeep2_sameRules.body := by kernel_rfl
def tab55 (k : Nat) : Tab T := clerestorykeep2_sameRules.G.tab k (clerestorykeep2_sameRules.G.rec k k)
def clerestorykeep2_ruleFact (k : Nat)  : Option (Bool) :=
(cssrule_Parse k ([97, 32, 123, 32, 98, 58, 32, 99, 32, 125] : List UInt8)).bind fun r1 =>
cond (r1.1 == (0 : Int)) (
let v2 : List S58 := [(⟨([98] : List UInt8), ([99] : List UInt8), false⟩ : S58)]
cond (r1.1 == (0 : Int)) (
let v3 : List S91 := [(⟨false, ([97] : List UInt8), v2, []⟩ : S91)]
(cond (r1.1 == (0 : Int)) (clerestorykeep2_sameRules k r1.2 v3) (some false)).bind fun r4 =>
let v5 : Bool := (cond (r1.1 == (0 : Int)) r4 false)
some v5) (
cond (r1.1 == (0 : Int)) none (
cond (!(r1.1 == (0 : Int))) (
some false) none))) (
cond (r1.1 == (0 : Int)) none (
cond (r1.1 == (0 : Int)) none (
cond (r1.1 == (0 : Int)) none (
cond (!(r1.1 == (0 : Int))) (
some false) none))))
def clerestorykeep2_ruleFact.kr (w0 : World) (k : Nat) : St T → Option (Bool) := (retK (cfg w0 (tab55 k)) Tryd.f24.results.toList 0 [] io2.pat)
def clerestorykeep2_ruleFact.cuts (w0 : World) (k : Nat) : Cuts T (Bool) := fun n => none
def clerestorykeep2_ruleFact.body : Code := bodyOf Tryd.f24
theorem clerestorykeep2_ruleFact.e (w0 : World) (k : Nat) : ∀ v, (fun v => clerestorykeep2_ruleFact k ) v = runK (cfg w0 (tab55 k)) Tryd.f24.ntmps (clerestorykeep2_ruleFact.kr w0 k) (annot (clerestorykeep2_ruleFact.cuts w0 k) clerestorykeep2_ruleFact.body) (entry (io48.enc v).1 (io48.enc v).2) (endK (clerestorykeep2_ruleFact.kr w0 k)) := by
  intro v; kernel_rfl
theorem clerestorykeep2_ruleFact.hb : Tryd.f24.body = some clerestorykeep2_ruleFact.body := by kernel_rfl
def tab56 (k : Nat) : Tab T := addTab 24 (line io48 io2 false (fun v => clerestorykeep2_ruleFact k )) (tab55 k)
def clerestorykeep2_RuleLarge.c13 (k : Nat) : Nat → Bool → Int → Int → (List UInt8) → Int → (Bool → Int → Int → (List UInt8) → Option (Bool)) → Option (Bool)
  | 0, _, _, _, _, _, _ => none
  | n + 1, x6, x7, x8, x9, x10, k0 =>
    cond (decide (x10 < x7)) (
    cond (Nat.ble (x9.length + ([97, 123, 125] : List UInt8).length) 9223372036854775807) (
    let v11 : List UInt8 := (x9 ++ ([97, 123, 125] : List UInt8))
    let v12 : Int := (IntKind.wrap .i64 (x10 + (1 : Int)))
    clerestorykeep2_RuleLarge.c13 k n x6 x7 x8 v11 v12 k0) none) (
    k0 x6 x7 x8 x9)
def clerestorykeep2_RuleLarge.c21 (k : Nat) : Nat → Bool → Int → Int → (List UInt8) → Int → (Bool → Int → (List UInt8) → Option (Bool)) → Option (Bool)
  | 0, _, _, _, _, _, _ => none
  | n + 1, x17, x18, x19, x20, x21, k2 =>
    cond (decide (x21 < x19)) (
    cond (Nat.ble (x20.length + ([32] : List UInt8).length) 9223372036854775807) (
    let v22 : Int := (IntKind.wrap .i64 (x21 + (1 : Int)))
    clerestorykeep2_RuleLarge.c21 k n x17 x18 x19 (x20 ++ ([32] : List UInt8)) v22 k2) none) (
    k2 x17 x18 x20)
def clerestorykeep2_RuleLarge (k : Nat) (a1 : Int) (a2 : Int) : Option (Bool) :=
(clerestorykeep2_ruleFact k).bind fun r3 =>
cond ((80 : Int) != 0) (
let v4 : Int := (Int.tmod (IntKind.wrap .u64 a1) (80 : Int))
cond ((3200 : Int) != 0) (
let v5 : Int := (Int.tmod (IntKind.wrap .u64 a2) (3200 : Int))
clerestorykeep2_RuleLarge.c13 k k r3 (IntKind.wrap .i64 v4) (IntKind.wrap .i64 v5) ([] : List UInt8) (0 : Int) (fun (y13 : Bool) (y14 : Int) (y15 : Int) (y16 : List UInt8) =>
clerestorykeep2_RuleLarge.c21 k k y13 y14 y15 y16 (0 : Int) (fun (y23 : Bool) (y24 : Int) (y25 : List UInt8) =>
(cssrule_Parse k y25).bind fun r26 =>
let v27 : Bool := (decide ((y25.length : Int) > (3000 : Int)))
let v28 : Bool := (cond (decide (y24 > (60 : Int))) true v27)
cond v28 (
let v29 : Bool := (cond y23 (r26.1 == (2 : Int)) false)
let v30 : Bool := ((r26.2.length : Int) == (0 : Int))
some (cond v29 v30 false)) (
let v31 : Bool := (cond y23 (r26.1 == (0 : Int)) false)
let v32 : Bool := (cond v31 ((r26.2.length : Int) == y24) false)
some v32)))) none) none
def clerestorykeep2_RuleLarge.kr (w0 : World) (k : Nat) : St T → Option (Bool) := (retK (cfg w0 (tab56 k)) Tryd.f8.results.toList 0 [] io2.pat)
def clerestorykeep2_RuleLarge.x13 : Ex → Option (List Nat × List Sp)
  | .exit 0 => some ([5, 6, 7, 8], [])
  | _ => none
def clerestorykeep2_RuleLarge.L13 (k : Nat) (n : Nat) (v : Bool × Int × Int × (List UInt8) × Int) (K : Ex → St T → Option (Bool)) : Option (Bool) := clerestorykeep2_RuleLarge.c13 k n v.1 v.2.1 v.2.2.1 v.2.2.2.1 v.2.2.2.2 (fun y55 y56 y57 y58 => K (.exit 0) (mkSt [5, 6, 7, 8] (io74.enc (y55, y56, y57, y58))))
def clerestorykeep2_RuleLarge.x21 : Ex → Option (List Nat × List Sp)
  | .exit 2 => some ([5, 6, 8], [])
  | _ => none
def clerestorykeep2_RuleLarge.L21 (k : Nat) (n : Nat) (v : Bool × Int × Int × (List UInt8) × Int) (K : Ex → St T → Option (Bool)) : Option (Bool) := clerestorykeep2_RuleLarge.c21 k n v.1 v.2.1 v.2.2.1 v.2.2.2.1 v.2.2.2.2 (fun y59 y60 y61 => K (.exit 2) (mkSt [5, 6, 8] (io75.enc (y59, y60, y61))))
def clerestorykeep2_RuleLarge.cuts (w0 : World) (k : Nat) : Cuts T (Bool) := fun n => bif n.beq 13 then some (entK (cfg w0 (tab56 k)) 0 [5, 6, 7, 8, 9] [] io73.pat (clerestorykeep2_RuleLarge.L13 k k)) else bif n.beq 21 then some (entK (cfg w0 (tab56 k)) 0 [5, 6, 7, 8, 10] [] io73.pat (clerestorykeep2_RuleLarge.L21 k k)) else none
def clerestorykeep2_RuleLarge.body : Code := bodyOf Tryd.f8
def clerestorykeep2_RuleLarge.b13 : Code := findD 13 clerestorykeep2_RuleLarge.body
theorem clerestorykeep2_RuleLarge.s13 (w0 : World) (k : Nat) : ∀ n v K, clerestorykeep2_RuleLarge.L13 k (n + 1) v K = runK (cfg w0 (tab56 k)) Tryd.f8.ntmps (clerestorykeep2_RuleLarge.kr w0 k) (annot (clerestorykeep2_RuleLarge.cuts w0 k) clerestorykeep2_RuleLarge.b13) (mkSt [5, 6, 7, 8, 9] (io73.enc v)) (loopK (cfg w0 (tab56 k)) 0 clerestorykeep2_RuleLarge.x13 (entK (cfg w0 (tab56 k)) 0 [5, 6, 7, 8, 9] [] io73.pat (clerestorykeep2_RuleLarge.L13 k n)) K) := by
  intro n v K; kernel_rfl
def clerestorykeep2_RuleLarge.b21 : Code := findD 21 clerestorykeep2_RuleLarge.body
theorem clerestorykeep2_RuleLarge.s21 (w0 : World) (k : Nat) : ∀ n v K, clerestorykeep2_RuleLarge.L21 k (n + 1) v K = runK (cfg w0 (tab56 k)) Tryd.f8.ntmps (clerestorykeep2_RuleLarge.kr w0 k) (annot (clerestorykeep2_RuleLarge.cuts w0 k) clerestorykeep2_RuleLarge.b21) (mkSt [5, 6, 7, 8, 10] (io73.enc v)) (loopK (cfg w0 (tab56 k)) 0 clerestorykeep2_RuleLarge.x21 (entK (cfg w0 (tab56 k)) 0 [5, 6, 7, 8, 10] [] io73.pat (clerestorykeep2_RuleLarge.L21 k n)) K) := by
  intro n v K; kernel_rfl
theorem clerestorykeep2_RuleLarge.e (w0 : World) (k : Nat) : ∀ v, (fun v => clerestorykeep2_RuleLarge k v.1 v.2) v = runK (cfg w0 (tab56 k)) Tryd.f8.ntmps (clerestorykeep2_RuleLarge.kr w0 k) (annot (clerestorykeep2_RuleLarge.cuts w0 k) clerestorykeep2_RuleLarge.body) (entry (io19.enc v).1 (io19.enc v).2) (endK (clerestorykeep2_RuleLarge.kr w0 k)) := by
  intro v; kernel_rfl
theorem clerestorykeep2_RuleLarge.hb : Tryd.f8.body = some clerestorykeep2_RuleLarge.body := by kernel_rfl
def tab57 (k : Nat) : Tab T := addTab 8 (line io19 io2 false (fun v => clerestorykeep2_RuleLarge k v.1 v.2)) (tab56 k)
def cssrule_Decls (k : Nat) (a1 : List UInt8) : Option (Int × (List S58)) :=
let v2 : Bool := (decide ((a1.length : Int) > (3000 : Int)))
cond v2 (
some ((2 : Int), ([] : List S58))) (
(csstok_Cut k a1).bind fun r3 =>
(cssrule_decls k r3).bind fun r4 =>
let v5 : Bool := (decide ((r4.length : Int) > (30 : Int)))
cond v5 (
some ((2 : Int), ([] : List S58))) (
some ((0 : Int), r4)))
def cssrule_Decls.kr (w0 : World) (k : Nat) : St T → Option (Int × (List S58)) := (retK (cfg w0 (tab57 k)) Tryd.f26.results.toList 0 [.own 0 58] io76.pat)
def cssrule_Decls.cuts (w0 : World) (k : Nat) : Cuts T (Int × (List S58)) := fun n => none
def cssrule_Decls.body : Code := bodyOf Tryd.f26
theorem cssrule_Decls.e (w0 : World) (k : Nat) : ∀ v, (fun v => cssrule_Decls k v) v = runK (cfg w0 (tab57 k)) Tryd.f26.ntmps (cssrule_Decls.kr w0 k) (annot (cssrule_Decls.cuts w0 k) cssrule_Decls.body) (entry (io1.enc v).1 (io1.enc v).2) (endK (cssrule_Decls.kr w0 k)) := by
  intro v; kernel_rfl
theorem cssrule_Decls.hb : Tryd.f26.body = some cssrule_Decls.body := by kernel_rfl
def tab58 (k : Nat) : Tab T := addTab 26 (line io1 io76 ((0 : Int), []) (fun v => cssrule_Decls k v)) (tab57 k)
def clerestorykeep2_declText.c7 (k : Nat) : Nat → (List S58) → (List UInt8) → Int → ((List UInt8) → Option (List UInt8)) → Option (List UInt8)
  | 0, _, _, _, _ => none
  | n + 1, x2, x3, x4, k0 =>
    let v5 : Bool := (decide (x4 < (x2.length : Int)))
    cond v5 (
    cond (decide (0 ≤ x4 ∧ x4 < (x2.length : Int))) (
    cond (Nat.ble (x3.length + ((x2.getD x4.toNat S58.d).Name).length) 9223372036854775807) (
    let v6 : List UInt8 := (x3 ++ ((x2.getD x4.toNat S58.d).Name))
    cond (Nat.ble (v6.length + ([58] : List UInt8).length) 9223372036854775807) (
    cond (decide (0 ≤ x4 ∧ x4 < (x2.length : Int))) (
    cond (Nat.ble ((v6 ++ ([58] : List UInt8)).length + ((x2.getD x4.toNat S58.d).Value).length) 9223372036854775807) (
    let v7 : List UInt8 := ((v6 ++ ([58] : List UInt8)) ++ ((x2.getD x4.toNat S58.d).Value))
    cond (decide (0 ≤ x4 ∧ x4 < (x2.length : Int))) (
    let v8 : Bool := (x2.getD x4.toNat S58.d).Important
    cond v8 (
    cond (Nat.ble (v7.length + ([33, 105, 109, 112, 111, 114, 116, 97, 110, 116] : List UInt8).length) 9223372036854775807) (
    let v9 : List UInt8 := (v7 ++ ([33, 105, 109, 112, 111, 114, 116, 97, 110, 116] : List UInt8))
    cond (Nat.ble (v9.length + ([59] : List UInt8).length) 9223372036854775807) (
    let v10 : Int := (IntKind.wrap .i64 (x4 + (1 : Int)))
    clerestorykeep2_declText.c7 k n x2 (v9 ++ ([59] : List UInt8)) v10 k0) none) none) (
    cond (Nat.ble (v7.length + ([59] : List UInt8).length) 9223372036854775807) (
    let v11 : Int := (IntKind.wrap .i64 (x4 + (1 : Int)))
    clerestorykeep2_declText.c7 k n x2 (v7 ++ ([59] : List UInt8)) v11 k0) none)) none) none) none) none) none) none) (
    k0 x3)
def clerestorykeep2_declText (k : Nat) (a1 : List S58) : Option (List UInt8) :=
clerestorykeep2_declText.c7 k k a1 ([] : List UInt8) (0 : Int) (fun (y12 : List UInt8) =>
some y12)
def clerestorykeep2_declText.kr (w0 : World) (k : Nat) : St T → Option (List UInt8) := (retK (cfg w0 (tab58 k)) Tryd.f27.results.toList 0 [] io1.pat)
def clerestorykeep2_declText.x7 : Ex → Option (List Nat × List Sp)
  | .exit 0 => some ([3], [])
  | _ => none
def clerestorykeep2_declText.L7 (k : Nat) (n : Nat) (v : (List S58) × (List UInt8) × Int) (K : Ex → St T → Option (List UInt8)) : Option (List UInt8) := clerestorykeep2_declText.c7 k n v.1 v.2.1 v.2.2 (fun y62 => K (.exit 0) (mkSt [3] (io1.enc y62)))
def clerestorykeep2_declText.cuts (w0 : World) (k : Nat) : Cuts T (List UInt8) := fun n => bif n.beq 7 then some (entK (cfg w0 (tab58 k)) 0 [0, 3, 4] [] io78.pat (clerestorykeep2_declText.L7 k k)) else none
def clerestorykeep2_declText.body : Code := bodyOf Tryd.f27
def clerestorykeep2_declText.b7 : Code := findD 7 clerestorykeep2_declText.body
theorem clerestorykeep2_declText.s7 (w0 : World) (k : Nat) : ∀ n v K, clerestorykeep2_declText.L7 k (n + 1) v K = runK (cfg w0 (tab58 k)) Tryd.f27.ntmps (clerestorykeep2_declText.kr w0 k) (annot (clerestorykeep2_declText.cuts w0 k) clerestorykeep2_declText.b7) (mkSt [0, 3, 4] (io78.enc v)) (loopK (cfg w0 (tab58 k)) 0 clerestorykeep2_declText.x7 (entK (cfg w0 (tab58 k)) 0 [0, 3, 4] [] io78.pat (clerestorykeep2_declText.L7 k n)) K) := by
  intro n v K; kernel_rfl
theorem clerestorykeep2_declText.e (w0 : World) (k : Nat) : ∀ v, (fun v => clerestorykeep2_declText k v) v = runK (cfg w0 (tab58 k)) Tryd.f27.ntmps (clerestorykeep2_declText.kr w0 k) (annot (clerestorykeep2_declText.cuts w0 k) clerestorykeep2_declText.body) (entry (io77.enc v).1 (io77.enc v).2) (endK (clerestorykeep2_declText.kr w0 k)) := by
  intro v; kernel_rfl
theorem clerestorykeep2_declText.hb : Tryd.f27.body = some clerestorykeep2_declText.body := by kernel_rfl
def tab59 (k : Nat) : Tab T := addTab 27 (line io77 io1 [] (fun v => clerestorykeep2_declText k v)) (tab58 k)
def clerestorykeep2_DeclSpoils (k : Nat) (a1 : List UInt8) (a2 : List UInt8) (a3 : Int) : Option (Bool) :=
(clerestorykeep2_ruleFact k).bind fun r4 =>
(cssrule_Decls k a1).bind fun r5 =>
(cssrule_Decls k a2).bind fun r6 =>
let v7 : List (List UInt8) := [([120] : List UInt8), ([49, 58, 32, 50] : List UInt8), ([97, 58, 32, 93] : List UInt8), ([97, 58, 32, 39, 98, 10] : List UInt8), ([98, 58] : List UInt8), ([99, 58, 32, 100, 123, 59, 125, 101] : List UInt8), ([58] : List UInt8), ([97, 32, 98, 58, 32, 99] : List UInt8), ([47, 42, 32, 59, 32, 42, 47] : List UInt8), ([97, 58, 32, 40, 93, 41] : List UInt8), ([97, 58, 32, 125] : List UInt8), ([97, 58, 32, 92, 10] : List UInt8)]
cond ((12 : Int) != 0) (
let v8 : Int := (Int.tmod (IntKind.wrap .u64 a3) (12 : Int))
cond (decide (0 ≤ v8 ∧ v8 < (v7.length : Int))) (
(clerestorykeep2_declText k r5.2).bind fun r9 =>
cond (Nat.ble (r9.length + (v7.getD v8.toNat []).length) 9223372036854775807) (
cond (Nat.ble ((r9 ++ (v7.getD v8.toNat [])).length + ([59] : List UInt8).length) 9223372036854775807) (
let v10 : List UInt8 := ((r9 ++ (v7.getD v8.toNat [])) ++ ([59] : List UInt8))
cond (Nat.ble (v10.length + a2.length) 9223372036854775807) (
(cssrule_Decls k (v10 ++ a2)).bind fun r11 =>
let v12 : Bool := (cond (r5.1 != (0 : Int)) true (r6.1 != (0 : Int)))
let v13 : Bool := (cond v12 true (r11.1 != (0 : Int)))
let v14 : Bool := (decide ((r9.length : Int) > (1000 : Int)))
cond (cond v13 true v14) (
some r4) (
cond (decide ((r5.2 ++ r6.2).length < most)) (
(clerestorykeep2_sameDecls k r11.2 (r5.2 ++ r6.2)).bind fun r15 =>
some (cond r4 r15 false)) none)) none) none) none) none) none
def clerestorykeep2_DeclSpoils.kr (w0 : World) (k : Nat) : St T → Option (Bool) := (retK (cfg w0 (tab59 k)) Tryd.f9.results.toList 0 [] io2.pat)
def clerestorykeep2_DeclSpoils.cuts (w0 : World) (k : Nat) : Cuts T (Bool) := fun n => none
def clerestorykeep2_DeclSpoils.body : Code := bodyOf Tryd.f9
theorem clerestorykeep2_DeclSpoils.e (w0 : World) (k : Nat) : ∀ v, (fun v => clerestorykeep2_DeclSpoils k v.1 v.2.1 v.2.2) v = runK (cfg w0 (tab59 k)) Tryd.f9.ntmps (clerestorykeep2_DeclSpoils.kr w0 k) (annot (clerestorykeep2_DeclSpoils.cuts w0 k) clerestorykeep2_DeclSpoils.body) (entry (io79.enc v).1 (io79.enc v).2) (endK (clerestorykeep2_DeclSpoils.kr w0 k)) := by
  intro v; kernel_rfl
theorem clerestorykeep2_DeclSpoils.hb : Tryd.f9.body = some clerestorykeep2_DeclSpoils.body := by kernel_rfl
def tab60 (k : Nat) : Tab T := addTab 9 (line io79 io2 false (fun v => clerestorykeep2_DeclSpoils k v.1 v.2.1 v.2.2)) (tab59 k)
def clerestorykeep2_DeclImportant (k : Nat) (a1 : List UInt8) (a2 : Int) : Option (Bool) :=
(clerestorykeep2_ruleFact k).bind fun r3 =>
(cssrule_Decls k a1).bind fun r4 =>
let v5 : Bool := ((r4.2.length : Int) != (1 : Int))
let v6 : Bool := (cond (r4.1 != (0 : Int)) true v5)
cond ((decide (0 ≤ (0 : Int) ∧ (0 : Int) < (r4.2.length : Int))) || !(!v6)) (
let v7 : Bool := (r4.2.getD ((0 : Int).toNat) S58.d).Important
cond (cond v6 true v7) (
some r3) (
let v8 : List (List UInt8) := [([33, 105, 109, 112, 111, 114, 116, 97, 110, 116] : List UInt8), ([32, 33, 32, 73, 77, 80, 79, 82, 84, 65, 78, 84, 32] : List UInt8), ([47, 42, 42, 47, 33, 47, 42, 32, 120, 32, 42, 47, 105, 109, 112, 111, 114, 116, 97, 110, 116] : List UInt8), ([10, 33, 10, 73, 109, 80, 111, 114, 116, 97, 110, 116, 10] : List UInt8)]
cond ((4 : Int) != 0) (
let v9 : Int := (Int.tmod (IntKind.wrap .u64 a2) (4 : Int))
cond (decide (0 ≤ v9 ∧ v9 < (v8.length : Int))) (
cond (decide (0 ≤ (0 : Int) ∧ (0 : Int) < (r4.2.length : Int))) (
let v10 : List UInt8 := (r4.2.getD ((0 : Int).toNat) S58.d).Name
cond (Nat.ble (v10.length + ([32, 58, 32] : List UInt8).length) 9223372036854775807) (
let v11 : List UInt8 := (v10 ++ ([32, 58, 32] : List UInt8))
cond (decide (0 ≤ (0 : Int) ∧ (0 : Int) < (r4.2.length : Int))) (
let v12 : List UInt8 := (r4.2.getD ((0 : Int).toNat) S58.d).Value
cond (Nat.ble (v11.length + v12.length) 9223372036854775807) (
cond (Nat.ble ((v11 ++ v12).length + (v8.getD v9.toNat []).length) 9223372036854775807) (
let v13 : List UInt8 := ((v11 ++ v12) ++ (v8.getD v9.toNat []))
cond (Nat.ble (v13.length + ([59] : List UInt8).length) 9223372036854775807) (
(cssrule_Decls k (v13 ++ ([59] : List UInt8))).bind fun r14 =>
cond (decide (0 ≤ (0 : Int) ∧ (0 : Int) < (r4.2.length : Int))) (
let v15 : List S58 := (r4.2.set ((0 : Int).toNat) (⟨(r4.2.getD ((0 : Int).toNat) S58.d).Name, (r4.2.getD ((0 : Int).toNat) S58.d).Value, true⟩ : S58))
(clerestorykeep2_sameDecls k r14.2 v15).bind fun r16 =>
let v17 : Bool := (cond (r14.1 == (0 : Int)) r16 false)
let v18 : Bool := (cond (r14.1 == (2 : Int)) true v17)
some (cond r3 v18 false)) none) none) none) none) none) none) none) none) none)) none
def clerestorykeep2_DeclImportant.kr (w0 : World) (k : Nat) : St T → Option (Bool) := (retK (cfg w0 (tab60 k)) Tryd.f10.results.toList 0 [] io2.pat)
def clerestorykeep2_DeclImportant.cuts (w0 : World) (k : Nat) : Cuts T (Bool) := fun n => none
def clerestorykeep2_DeclImportant.body : Code := bodyOf Tryd.f10
theorem clerestorykeep2_DeclImportant.e (w0 : World) (k : Nat) : ∀ v, (fun v => clerestorykeep2_DeclImportant k v.1 v.2) v = runK (cfg w0 (tab60 k)) Tryd.f10.ntmps (clerestorykeep2_DeclImportant.kr w0 k) (annot (clerestorykeep2_DeclImportant.cuts w0 k) clerestorykeep2_DeclImportant.body) (entry (io13.enc v).1 (io13.enc v).2) (endK (clerestorykeep2_DeclImportant.kr w0 k)) := by
  intro v; kernel_rfl
theorem clerestorykeep2_DeclImportant.hb : Tryd.f10.body = some clerestorykeep2_DeclImportant.body := by kernel_rfl
def tab61 (k : Nat) : Tab T := addTab 10 (line io13 io2 false (fun v => clerestorykeep2_DeclImportant k v.1 v.2)) (tab60 k)
def strings_Count (k : Nat) (a8 : List UInt8) (a9 : List UInt8) : Option (Int) := cntS a8 a9
def tab62 (k : Nat) : Tab T := addTab 29 (line io0 io4 (0 : Int) (fun v => strings_Count k v.1 v.2)) (tab61 k)
def clerestorykeep2_DeclShown (k : Nat) (a1 : List UInt8) : Option (Bool) :=
(clerestorykeep2_ruleFact k).bind fun r2 =>
(cssrule_Decls k a1).bind fun r3 =>
cond (r3.1 != (0 : Int)) (
let v4 : Bool := (cond r2 (r3.1 == (2 : Int)) false)
let v5 : Bool := ((r3.2.length : Int) == (0 : Int))
let v6 : Bool := (decide ((a1.length : Int) > (3000 : Int)))
(cond ((cond v4 v5 false) && (!v6)) (strings_Count k a1 ([59] : List UInt8)) (some (0 : Int))).bind fun r7 =>
let v8 : Bool := (cond v6 true (decide (r7 ≥ (30 : Int))))
let v9 : Bool := (cond (cond v4 v5 false) v8 false)
some v9) (
(clerestorykeep2_declText k r3.2).bind fun r10 =>
(cssrule_Decls k r10).bind fun r11 =>
(clerestorykeep2_sameDecls k r3.2 r11.2).bind fun r12 =>
let v13 : Bool := (cond r12 (r11.1 == (0 : Int)) false)
let v14 : Bool := (decide ((r10.length : Int) > (3000 : Int)))
let v15 : Bool := (cond r2 (cond v13 true v14) false)
some v15)
def clerestorykeep2_DeclShown.kr (w0 : World) (k : Nat) : St T → Option (Bool) := (retK (cfg w0 (tab62 k)) Tryd.f11.results.toList 0 [] io2.pat)
def clerestorykeep2_DeclShown.cuts (w0 : World) (k : Nat) : Cuts T (Bool) := fun n => none
def clerestorykeep2_DeclShown.body : Code := bodyOf Tryd.f11
theorem clerestorykeep2_DeclShown.e (w0 : World) (k : Nat) : ∀ v, (fun v => clerestorykeep2_DeclShown k v) v = runK (cfg w0 (tab62 k)) Tryd.f11.ntmps (clerestorykeep2_DeclShown.kr w0 k) (annot (clerestorykeep2_DeclShown.cuts w0 k) clerestorykeep2_DeclShown.body) (entry (io1.enc v).1 (io1.enc v).2) (endK (clerestorykeep2_DeclShown.kr w0 k)) := by
  intro v; kernel_rfl
theorem clerestorykeep2_DeclShown.hb : Tryd.f11.body = some clerestorykeep2_DeclShown.body := by kernel_rfl
def tab63 (k : Nat) : Tab T := addTab 11 (line io1 io2 false (fun v => clerestorykeep2_DeclShown k v)) (tab62 k)
attribute [local irreducible] runK retK annot entry
theorem ok0 (w0 : World) (hw : Wd w0) (k : Nat) : CfOk (cfg w0 (tab0 k)) := noTab_ok fun _ _ _ => rfl
theorem sim_cf {w0 : World} {t t' : Tab T} {f : FuncId} {a : List (V T)} {b : List (Obj T)} {c : List (V T)} {d : List (Obj T)} (h : Sim (cfg w0 t) f a b c d) : Sim (cfg w0 t') f a b c d := h
theorem strings_TrimLeft.sim (w0 : World) (hw : Wd w0) (k : Nat) : ∀ v x, (fun v => strings_TrimLeft k v.1 v.2) v = some x → Sim (cfg w0 (tab0 k)) 102 (io0.enc v).1 (io0.enc v).2 (io1.enc x).1 (io1.enc x).2 := by
  intro v x h; exact sim_trimL (c := cfg w0 (tab0 k)) (ρ := Sh.ren161) Sh.l161 (by kernel_rfl) h
theorem ok1 (w0 : World) (hw : Wd w0) (k : Nat) : CfOk (cfg w0 (tab1 k)) := addTab_ok (ok0 w0 hw k) (strings_TrimLeft.sim w0 hw k)
theorem stringslite_HasPrefix.a (w0 : World) (k : Nat) : cutsAt (fun n => (stringslite_HasPrefix.cuts w0 k n).isSome) stringslite_HasPrefix.body = [] := by kernel_rfl
theorem stringslite_HasPrefix.sim (w0 : World) (hw : Wd w0) (k : Nat) : ∀ v x, (fun v => stringslite_HasPrefix k v.1 v.2) v = some x → Sim (cfg w0 (tab1 k)) 133 (io0.enc v).1 (io0.enc v).2 (io2.enc x).1 (io2.enc x).2 :=
  sim_of (c := (cfg w0 (tab1 k))) (fine w0 hw _ (ok1 w0 hw k)) (dr w0 hw _ (ok1 w0 hw k)) (i := io0) (o := io2) (ps := []) (cuts := fun _ => stringslite_HasPrefix.cuts w0 k) (m := 0) (g := fun v => stringslite_HasPrefix k v.1 v.2) Tryd.func133 (by kernel_rfl) stringslite_HasPrefix.hb (fun _ => rfl) (fun _ => Nat.le_of_ble_eq_true rfl) (good_cuts (stringslite_HasPrefix.a w0 k) trivial) (stringslite_HasPrefix.e w0 k)
theorem ok2 (w0 : World) (hw : Wd w0) (k : Nat) : CfOk (cfg w0 (tab2 k)) := addTab_ok (ok1 w0 hw k) (stringslite_HasPrefix.sim w0 hw k)
theorem stringslite_CutPrefix.a (w0 : World) (k : Nat) : cutsAt (fun n => (stringslite_CutPrefix.cuts w0 k n).isSome) stringslite_CutPrefix.body = [] := by kernel_rfl
theorem stringslite_CutPrefix.sim (w0 : World) (hw : Wd w0) (k : Nat) : ∀ v x, (fun v => stringslite_CutPrefix k v.1 v.2) v = some x → Sim (cfg w0 (tab2 k)) 143 (io0.enc v).1 (io0.enc v).2 (io3.enc x).1 (io3.enc x).2 :=
  sim_of (c := (cfg w0 (tab2 k))) (fine w0 hw _ (ok2 w0 hw k)) (dr w0 hw _ (ok2 w0 hw k)) (i := io0) (o := io3) (ps := []) (cuts := fun _ => stringslite_CutPrefix.cuts w0 k) (m := 0) (g := fun v => stringslite_CutPrefix k v.1 v.2) Tryd.func143 (by kernel_rfl) stringslite_CutPrefix.hb (fun _ => rfl) (fun _ => Nat.le_of_ble_eq_true rfl) (good_cuts (stringslite_CutPrefix.a w0 k) trivial) (stringslite_CutPrefix.e w0 k)
theorem ok3 (w0 : World) (hw : Wd w0) (k : Nat) : CfOk (cfg w0 (tab3 k)) := addTab_ok (ok2 w0 hw k) (stringslite_CutPrefix.sim w0 hw k)
theorem strings_CutPrefix.a (w0 : World) (k : Nat) : cutsAt (fun n => (strings_CutPrefix.cuts w0 k n).isSome) strings_CutPrefix.body = [] := by kernel_rfl
theorem strings_CutPrefix.sim (w0 : World) (hw : Wd w0) (k : Nat) : ∀ v x, (fun v => strings_CutPrefix k v.1 v.2) v = some x → Sim (cfg w0 (tab3 k)) 103 (io0.enc v).1 (io0.enc v).2 (io3.enc x).1 (io3.enc x).2 :=
  sim_of (c := (cfg w0 (tab3 k))) (fine w0 hw _ (ok3 w0 hw k)) (dr w0 hw _ (ok3 w0 hw k)) (i := io0) (o := io3) (ps := []) (cuts := fun _ => strings_CutPrefix.cuts w0 k) (m := 0) (g := fun v => strings_CutPrefix k v.1 v.2) Tryd.func103 (by kernel_rfl) strings_CutPrefix.hb (fun _ => rfl) (fun _ => Nat.le_of_ble_eq_true rfl) (good_cuts (strings_CutPrefix.a w0 k) trivial) (strings_CutPrefix.e w0 k)
theorem ok4 (w0 : World) (hw : Wd w0) (k : Nat) : CfOk (cfg w0 (tab4 k)) := addTab_ok (ok3 w0 hw k) (strings_CutPrefix.sim w0 hw k)
theorem strings_Index.sim (w0 : World) (hw : Wd w0) (k : Nat) : ∀ v x, (fun v => strings_Index k v.1 v.2) v = some x → Sim (cfg w0 (tab4 k)) 53 (io0.enc v).1 (io0.enc v).2 (io4.enc x).1 (io4.enc x).2 := by
  intro v x h; exact sim_findS (c := cfg w0 (tab4 k)) (ρ := Sh.ren143) Sh.l143 hw.mx h
theorem ok5 (w0 : World) (hw : Wd w0) (k : Nat) : CfOk (cfg w0 (tab5 k)) := addTab_ok (ok4 w0 hw k) (strings_Index.sim w0 hw k)
theorem f__strings_Builder__String.sim (w0 : World) (hw : Wd w0) (k : Nat) : ∀ v x, (fun v => f__strings_Builder__String k v) v = some x → Sim (cfg w0 (tab5 k)) 43 (io5.enc v).1 (io5.enc v).2 (io6.enc x).1 (io6.enc x).2 := by
  intro v x h; cases h; exact sim_str (c := cfg w0 (tab5 k)) (ρ := Sh.blr) Sh.bl Sh.bl.f169 Sh.ext rfl rfl _
theorem ok6 (w0 : World) (hw : Wd w0) (k : Nat) : CfOk (cfg w0 (tab6 k)) := addTab_ok (ok5 w0 hw k) (f__strings_Builder__String.sim w0 hw k)
theorem f__strings_Builder__WriteByte.sim (w0 : World) (hw : Wd w0) (k : Nat) : ∀ v x, (fun v => f__strings_Builder__WriteByte k v.1 v.2) v = some x → Sim (cfg w0 (tab6 k)) 98 (io7.enc v).1 (io7.enc v).2 (io8.enc x).1 (io8.enc x).2 := by
  intro v x h; exact sim_wByte (c := cfg w0 (tab6 k)) (ρ := Sh.blr) Sh.bl Sh.fWriteByte Sh.ext rfl rfl h
theorem ok7 (w0 : World) (hw : Wd w0) (k : Nat) : CfOk (cfg w0 (tab7 k)) := addTab_ok (ok6 w0 hw k) (f__strings_Builder__WriteByte.sim w0 hw k)
theorem csstok_text.a7 (w0 : World) (k : Nat) : cutsAt (fun n => (csstok_text.cuts w0 k n).isSome) csstok_text.b7 = [] := by kernel_rfl
theorem csstok_text.a (w0 : World) (k : Nat) : cutsAt (fun n => (csstok_text.cuts w0 k n).isSome) csstok_text.body = [(7, Code.loop csstok_text.b7)] := by kernel_rfl
theorem csstok_text.so7 (w0 : World) (hw : Wd w0) (k : Nat) : Sound (cfg w0 (tab7 k)) Tryd.f104.ntmps 0 (csstok_text.kr w0 k) (.loop csstok_text.b7) (entK (cfg w0 (tab7 k)) 0 [0, 2, 3, 4] [] io10.pat (csstok_text.L7 k k)) :=
  loop_ok (fine w0 hw _ (ok7 w0 hw k)) (dr w0 hw _ (ok7 w0 hw k)) (good_cuts (csstok_text.a7 w0 k) trivial) io10.ok (xn := csstok_text.x7) (L := csstok_text.L7 k) (fun v K => rfl) (csstok_text.s7 w0 k) k
theorem csstok_text.sim (w0 : World) (hw : Wd w0) (k : Nat) : ∀ v x, (fun v => csstok_text k v) v = some x → Sim (cfg w0 (tab7 k)) 104 (io1.enc v).1 (io1.enc v).2 (io9.enc x).1 (io9.enc x).2 :=
  sim_of (c := (cfg w0 (tab7 k))) (fine w0 hw _ (ok7 w0 hw k)) (dr w0 hw _ (ok7 w0 hw k)) (i := io1) (o := io9) (ps := []) (cuts := fun _ => csstok_text.cuts w0 k) (m := 0) (g := fun v => csstok_text k v) Tryd.func104 (by kernel_rfl) csstok_text.hb (fun _ => rfl) (fun _ => Nat.le_of_ble_eq_true rfl) (good_cuts (csstok_text.a w0 k) ⟨fun f hf => by cases hf; exact csstok_text.so7 w0 hw k, trivial⟩) (csstok_text.e w0 k)
theorem ok8 (w0 : World) (hw : Wd w0) (k : Nat) : CfOk (cfg w0 (tab8 k)) := addTab_ok (ok7 w0 hw k) (csstok_text.sim w0 hw k)
theorem csstok_starts.a (w0 : World) (k : Nat) : cutsAt (fun n => (csstok_starts.cuts w0 k n).isSome) csstok_starts.body = [] := by kernel_rfl
theorem csstok_starts.sim (w0 : World) (hw : Wd w0) (k : Nat) : ∀ v x, (fun v => csstok_starts k v) v = some x → Sim (cfg w0 (tab8 k)) 144 (io12.enc v).1 (io12.enc v).2 (io2.enc x).1 (io2.enc x).2 :=
  sim_of (c := (cfg w0 (tab8 k))) (fine w0 hw _ (ok8 w0 hw k)) (dr w0 hw _ (ok8 w0 hw k)) (i := io12) (o := io2) (ps := []) (cuts := fun _ => csstok_starts.cuts w0 k) (m := 0) (g := fun v => csstok_starts k v) Tryd.func144 (by kernel_rfl) csstok_starts.hb (fun _ => rfl) (fun _ => Nat.le_of_ble_eq_true rfl) (good_cuts (csstok_starts.a w0 k) trivial) (csstok_starts.e w0 k)
theorem ok9 (w0 : World) (hw : Wd w0) (k : Nat) : CfOk (cfg w0 (tab9 k)) := addTab_ok (ok8 w0 hw k) (csstok_starts.sim w0 hw k)
theorem csstok_digit.a (w0 : World) (k : Nat) : cutsAt (fun n => (csstok_digit.cuts w0 k n).isSome) csstok_digit.body = [] := by kernel_rfl
theorem csstok_digit.sim (w0 : World) (hw : Wd w0) (k : Nat) : ∀ v x, (fun v => csstok_digit k v) v = some x → Sim (cfg w0 (tab9 k)) 145 (io12.enc v).1 (io12.enc v).2 (io2.enc x).1 (io2.enc x).2 :=
  sim_of (c := (cfg w0 (tab9 k))) (fine w0 hw _ (ok9 w0 hw k)) (dr w0 hw _ (ok9 w0 hw k)) (i := io12) (o := io2) (ps := []) (cuts := fun _ => csstok_digit.cuts w0 k) (m := 0) (g := fun v => csstok_digit k v) Tryd.func145 (by kernel_rfl) csstok_digit.hb (fun _ => rfl) (fun _ => Nat.le_of_ble_eq_true rfl) (good_cuts (csstok_digit.a w0 k) trivial) (csstok_digit.e w0 k)
theorem ok10 (w0 : World) (hw : Wd w0) (k : Nat) : CfOk (cfg w0 (tab10 k)) := addTab_ok (ok9 w0 hw k) (csstok_digit.sim w0 hw k)
theorem csstok_sign.a (w0 : World) (k : Nat) : cutsAt (fun n => (csstok_sign.cuts w0 k n).isSome) csstok_sign.body = [] := by kernel_rfl
theorem csstok_sign.sim (w0 : World) (hw : Wd w0) (k : Nat) : ∀ v x, (fun v => csstok_sign k v) v = some x → Sim (cfg w0 (tab10 k)) 105 (io12.enc v).1 (io12.enc v).2 (io2.enc x).1 (io2.enc x).2 :=
  sim_of (c := (cfg w0 (tab10 k))) (fine w0 hw _ (ok10 w0 hw k)) (dr w0 hw _ (ok10 w0 hw k)) (i := io12) (o := io2) (ps := []) (cuts := fun _ => csstok_sign.cuts w0 k) (m := 0) (g := fun v => csstok_sign k v) Tryd.func105 (by kernel_rfl) csstok_sign.hb (fun _ => rfl) (fun _ => Nat.le_of_ble_eq_true rfl) (good_cuts (csstok_sign.a w0 k) trivial) (csstok_sign.e w0 k)
theorem ok11 (w0 : World) (hw : Wd w0) (k : Nat) : CfOk (cfg w0 (tab11 k)) := addTab_ok (ok10 w0 hw k) (csstok_sign.sim w0 hw k)
theorem csstok_escape.a (w0 : World) (k : Nat) : cutsAt (fun n => (csstok_escape.cuts w0 k n).isSome) csstok_escape.body = [] := by kernel_rfl
theorem csstok_escape.sim (w0 : World) (hw : Wd w0) (k : Nat) : ∀ v x, (fun v => csstok_escape k v) v = some x → Sim (cfg w0 (tab11 k)) 106 (io1.enc v).1 (io1.enc v).2 (io2.enc x).1 (io2.enc x).2 :=
  sim_of (c := (cfg w0 (tab11 k))) (fine w0 hw _ (ok11 w0 hw k)) (dr w0 hw _ (ok11 w0 hw k)) (i := io1) (o := io2) (ps := []) (cuts := fun _ => csstok_escape.cuts w0 k) (m := 0) (g := fun v => csstok_escape k v) Tryd.func106 (by kernel_rfl) csstok_escape.hb (fun _ => rfl) (fun _ => Nat.le_of_ble_eq_true rfl) (good_cuts (csstok_escape.a w0 k) trivial) (csstok_escape.e w0 k)
theorem ok12 (w0 : World) (hw : Wd w0) (k : Nat) : CfOk (cfg w0 (tab12 k)) := addTab_ok (ok11 w0 hw k) (csstok_escape.sim w0 hw k)
theorem csstok_name.a7 (w0 : World) (k : Nat) : cutsAt (fun n => (csstok_name.cuts w0 k n).isSome) csstok_name.b7 = [] := by kernel_rfl
theorem csstok_name.a (w0 : World) (k : Nat) : cutsAt (fun n => (csstok_name.cuts w0 k n).isSome) csstok_name.body = [(7, Code.loop csstok_name.b7)] := by kernel_rfl
theorem csstok_name.so7 (w0 : World) (hw : Wd w0) (k : Nat) : Sound (cfg w0 (tab12 k)) Tryd.f146.ntmps 0 (csstok_name.kr w0 k) (.loop csstok_name.b7) (entK (cfg w0 (tab12 k)) 0 [0, 4, 5] [] io14.pat (csstok_name.L7 k k)) :=
  loop_ok (fine w0 hw _ (ok12 w0 hw k)) (dr w0 hw _ (ok12 w0 hw k)) (good_cuts (csstok_name.a7 w0 k) trivial) io14.ok (xn := csstok_name.x7) (L := csstok_name.L7 k) (fun v K => rfl) (csstok_name.s7 w0 k) k
theorem csstok_name.sim (w0 : World) (hw : Wd w0) (k : Nat) : ∀ v x, (fun v => csstok_name k v) v = some x → Sim (cfg w0 (tab12 k)) 146 (io1.enc v).1 (io1.enc v).2 (io13.enc x).1 (io13.enc x).2 :=
  sim_of (c := (cfg w0 (tab12 k))) (fine w0 hw _ (ok12 w0 hw k)) (dr w0 hw _ (ok12 w0 hw k)) (i := io1) (o := io13) (ps := []) (cuts := fun _ => csstok_name.cuts w0 k) (m := 0) (g := fun v => csstok_name k v) Tryd.func146 (by kernel_rfl) csstok_name.hb (fun _ => rfl) (fun _ => Nat.le_of_ble_eq_true rfl) (good_cuts (csstok_name.a w0 k) ⟨fun f hf => by cases hf; exact csstok_name.so7 w0 hw k, trivial⟩) (csstok_name.e w0 k)
theorem ok13 (w0 : World) (hw : Wd w0) (k : Nat) : CfOk (cfg w0 (tab13 k)) := addTab_ok (ok12 w0 hw k) (csstok_name.sim w0 hw k)
theorem csstok_named.a (w0 : World) (k : Nat) : cutsAt (fun n => (csstok_named.cuts w0 k n).isSome) csstok_named.body = [] := by kernel_rfl
theorem csstok_named.sim (w0 : World) (hw : Wd w0) (k : Nat) : ∀ v x, (fun v => csstok_named k v.1 v.2.1 v.2.2) v = some x → Sim (cfg w0 (tab13 k)) 107 (io16.enc v).1 (io16.enc v).2 (io9.enc x).1 (io9.enc x).2 :=
  sim_of (c := (cfg w0 (tab13 k))) (fine w0 hw _ (ok13 w0 hw k)) (dr w0 hw _ (ok13 w0 hw k)) (i := io16) (o := io9) (ps := []) (cuts := fun _ => csstok_named.cuts w0 k) (m := 0) (g := fun v => csstok_named k v.1 v.2.1 v.2.2) Tryd.func107 (by kernel_rfl) csstok_named.hb (fun _ => rfl) (fun _ => Nat.le_of_ble_eq_true rfl) (good_cuts (csstok_named.a w0 k) trivial) (csstok_named.e w0 k)
theorem ok14 (w0 : World) (hw : Wd w0) (k : Nat) : CfOk (cfg w0 (tab14 k)) := addTab_ok (ok13 w0 hw k) (csstok_named.sim w0 hw k)
theorem csstok_begins.a (w0 : World) (k : Nat) : cutsAt (fun n => (csstok_begins.cuts w0 k n).isSome) csstok_begins.body = [] := by kernel_rfl
theorem csstok_begins.sim (w0 : World) (hw : Wd w0) (k : Nat) : ∀ v x, (fun v => csstok_begins k v) v = some x → Sim (cfg w0 (tab14 k)) 108 (io1.enc v).1 (io1.enc v).2 (io2.enc x).1 (io2.enc x).2 :=
  sim_of (c := (cfg w0 (tab14 k))) (fine w0 hw _ (ok14 w0 hw k)) (dr w0 hw _ (ok14 w0 hw k)) (i := io1) (o := io2) (ps := []) (cuts := fun _ => csstok_begins.cuts w0 k) (m := 0) (g := fun v => csstok_begins k v) Tryd.func108 (by kernel_rfl) csstok_begins.hb (fun _ => rfl) (fun _ => Nat.le_of_ble_eq_true rfl) (good_cuts (csstok_begins.a w0 k) trivial) (csstok_begins.e w0 k)
theorem ok15 (w0 : World) (hw : Wd w0) (k : Nat) : CfOk (cfg w0 (tab15 k)) := addTab_ok (ok14 w0 hw k) (csstok_begins.sim w0 hw k)
theorem csstok_digits.a (w0 : World) (k : Nat) : cutsAt (fun n => (csstok_digits.cuts w0 k n).isSome) csstok_digits.body = [] := by kernel_rfl
theorem csstok_digits.sim (w0 : World) (hw : Wd w0) (k : Nat) : ∀ v x, (fun v => csstok_digits k v) v = some x → Sim (cfg w0 (tab15 k)) 147 (io1.enc v).1 (io1.enc v).2 (io4.enc x).1 (io4.enc x).2 :=
  sim_of (c := (cfg w0 (tab15 k))) (fine w0 hw _ (ok15 w0 hw k)) (dr w0 hw _ (ok15 w0 hw k)) (i := io1) (o := io4) (ps := []) (cuts := fun _ => csstok_digits.cuts w0 k) (m := 0) (g := fun v => csstok_digits k v) Tryd.func147 (by kernel_rfl) csstok_digits.hb (fun _ => rfl) (fun _ => Nat.le_of_ble_eq_true rfl) (good_cuts (csstok_digits.a w0 k) trivial) (csstok_digits.e w0 k)
theorem ok16 (w0 : World) (hw : Wd w0) (k : Nat) : CfOk (cfg w0 (tab16 k)) := addTab_ok (ok15 w0 hw k) (csstok_digits.sim w0 hw k)
theorem strings_HasPrefix.a (w0 : World) (k : Nat) : cutsAt (fun n => (strings_HasPrefix.cuts w0 k n).isSome) strings_HasPrefix.body = [] := by kernel_rfl
theorem strings_HasPrefix.sim (w0 : World) (hw : Wd w0) (k : Nat) : ∀ v x, (fun v => strings_HasPrefix k v.1 v.2) v = some x → Sim (cfg w0 (tab16 k)) 92 (io0.enc v).1 (io0.enc v).2 (io2.enc x).1 (io2.enc x).2 :=
  sim_of (c := (cfg w0 (tab16 k))) (fine w0 hw _ (ok16 w0 hw k)) (dr w0 hw _ (ok16 w0 hw k)) (i := io0) (o := io2) (ps := []) (cuts := fun _ => strings_HasPrefix.cuts w0 k) (m := 0) (g := fun v => strings_HasPrefix k v.1 v.2) Tryd.func92 (by kernel_rfl) strings_HasPrefix.hb (fun _ => rfl) (fun _ => Nat.le_of_ble_eq_true rfl) (good_cuts (strings_HasPrefix.a w0 k) trivial) (strings_HasPrefix.e w0 k)
theorem ok17 (w0 : World) (hw : Wd w0) (k : Nat) : CfOk (cfg w0 (tab17 k)) := addTab_ok (ok16 w0 hw k) (strings_HasPrefix.sim w0 hw k)
theorem csstok_Number_1.a (w0 : World) (k : Nat) : cutsAt (fun n => (csstok_Number_1.cuts w0 k n).isSome) csstok_Number_1.body = [] := by kernel_rfl
theorem csstok_Number_1.sim (w0 : World) (hw : Wd w0) (k : Nat) : ∀ v x, (fun v => csstok_Number_1 k v.1 v.2) v = some x → Sim (cfg w0 (tab17 k)) 148 (io17.enc v).1 (io17.enc v).2 (io18.enc x).1 (io18.enc x).2 :=
  sim_of (c := (cfg w0 (tab17 k))) (fine w0 hw _ (ok17 w0 hw k)) (dr w0 hw _ (ok17 w0 hw k)) (i := io17) (o := io18) (ps := []) (cuts := fun _ => csstok_Number_1.cuts w0 k) (m := 1) (g := fun v => csstok_Number_1 k v.1 v.2) Tryd.func148 (by kernel_rfl) csstok_Number_1.hb (fun _ => rfl) (fun _ => Nat.le_of_ble_eq_true rfl) (good_cuts (csstok_Number_1.a w0 k) trivial) (csstok_Number_1.e w0 k)
theorem ok18 (w0 : World) (hw : Wd w0) (k : Nat) : CfOk (cfg w0 (tab18 k)) := addTab_ok (ok17 w0 hw k) (csstok_Number_1.sim w0 hw k)
theorem csstok_Number.a29 (w0 : World) (k : Nat) : cutsAt (fun n => (csstok_Number.cuts w0 k n).isSome) csstok_Number.b29 = [] := by kernel_rfl
theorem csstok_Number.a49 (w0 : World) (k : Nat) : cutsAt (fun n => (csstok_Number.cuts w0 k n).isSome) csstok_Number.b49 = [] := by kernel_rfl
theorem csstok_Number.a64 (w0 : World) (k : Nat) : cutsAt (fun n => (csstok_Number.cuts w0 k n).isSome) csstok_Number.b64 = [] := by kernel_rfl
theorem csstok_Number.a46 (w0 : World) (k : Nat) : cutsAt (fun n => (csstok_Number.cuts w0 k n).isSome) csstok_Number.b46 = [(49, Code.loop csstok_Number.b49), (64, csstok_Number.b64)] := by kernel_rfl
theorem csstok_Number.a18 (w0 : World) (k : Nat) : cutsAt (fun n => (csstok_Number.cuts w0 k n).isSome) csstok_Number.b18 = [(29, Code.loop csstok_Number.b29), (46, csstok_Number.b46)] := by kernel_rfl
theorem csstok_Number.a8 (w0 : World) (k : Nat) : cutsAt (fun n => (csstok_Number.cuts w0 k n).isSome) csstok_Number.b8 = [(18, csstok_Number.b18)] := by kernel_rfl
theorem csstok_Number.a (w0 : World) (k : Nat) : cutsAt (fun n => (csstok_Number.cuts w0 k n).isSome) csstok_Number.body = [(8, csstok_Number.b8)] := by kernel_rfl
theorem csstok_Number.so29 (w0 : World) (hw : Wd w0) (k : Nat) : Sound (cfg w0 (tab18 k)) Tryd.f109.ntmps 0 (csstok_Number.kr w0 k) (.loop csstok_Number.b29) (entK (cfg w0 (tab18 k)) 0 [0, 4, 5, 6, 8, 9, 52, 53, 54] [] io20.pat (csstok_Number.L29 k k)) :=
  loop_ok (fine w0 hw _ (ok18 w0 hw k)) (dr w0 hw _ (ok18 w0 hw k)) (good_cuts (csstok_Number.a29 w0 k) trivial) io20.ok (xn := csstok_Number.x29) (L := csstok_Number.L29 k) (fun v K => rfl) (csstok_Number.s29 w0 k) k
theorem csstok_Number.so49 (w0 : World) (hw : Wd w0) (k : Nat) : Sound (cfg w0 (tab18 k)) Tryd.f109.ntmps 0 (csstok_Number.kr w0 k) (.loop csstok_Number.b49) (entK (cfg w0 (tab18 k)) 0 [0, 8, 9, 12, 13, 79] [] io22.pat (csstok_Number.L49 k k)) :=
  loop_ok (fine w0 hw _ (ok18 w0 hw k)) (dr w0 hw _ (ok18 w0 hw k)) (good_cuts (csstok_Number.a49 w0 k) trivial) io22.ok (xn := csstok_Number.x49) (L := csstok_Number.L49 k) (fun v K => rfl) (csstok_Number.s49 w0 k) k
theorem csstok_Number.so64 (w0 : World) (hw : Wd w0) (k : Nat) : Sound (cfg w0 (tab18 k)) Tryd.f109.ntmps 0 (csstok_Number.kr w0 k) csstok_Number.b64 (entK (cfg w0 (tab18 k)) 0 [8, 12] [] io24.pat (csstok_Number.L64 k)) :=
  join_ok (fine w0 hw _ (ok18 w0 hw k)) (dr w0 hw _ (ok18 w0 hw k)) (good_cuts (csstok_Number.a64 w0 k) trivial) io24.ok (xn := csstok_Number.x64) (L := csstok_Number.L64 k) (csstok_Number.s64 w0 k)
theorem csstok_Number.so46 (w0 : World) (hw : Wd w0) (k : Nat) : Sound (cfg w0 (tab18 k)) Tryd.f109.ntmps 0 (csstok_Number.kr w0 k) csstok_Number.b46 (entK (cfg w0 (tab18 k)) 0 [0, 8, 9, 12, 13] [] io25.pat (csstok_Number.L46 k)) :=
  join_ok (fine w0 hw _ (ok18 w0 hw k)) (dr w0 hw _ (ok18 w0 hw k)) (good_cuts (csstok_Number.a46 w0 k) ⟨fun f hf => by cases hf; exact csstok_Number.so49 w0 hw k, fun f hf => by cases hf; exact csstok_Number.so64 w0 hw k, trivial⟩) io25.ok (xn := csstok_Number.x46) (L := csstok_Number.L46 k) (csstok_Number.s46 w0 k)
theorem csstok_Number.so18 (w0 : World) (hw : Wd w0) (k : Nat) : Sound (cfg w0 (tab18 k)) Tryd.f109.ntmps 0 (csstok_Number.kr w0 k) csstok_Number.b18 (entK (cfg w0 (tab18 k)) 0 [0, 4, 5, 6] [] io26.pat (csstok_Number.L18 k)) :=
  join_ok (fine w0 hw _ (ok18 w0 hw k)) (dr w0 hw _ (ok18 w0 hw k)) (good_cuts (csstok_Number.a18 w0 k) ⟨fun f hf => by cases hf; exact csstok_Number.so29 w0 hw k, fun f hf => by cases hf; exact csstok_Number.so46 w0 hw k, trivial⟩) io26.ok (xn := csstok_Number.x18) (L := csstok_Number.L18 k) (csstok_Number.s18 w0 k)
theorem csstok_Number.so8 (w0 : World) (hw : Wd w0) (k : Nat) : Sound (cfg w0 (tab18 k)) Tryd.f109.ntmps 0 (csstok_Number.kr w0 k) csstok_Number.b8 (entK (cfg w0 (tab18 k)) 0 [0, 4] [] io13.pat (csstok_Number.L8 k)) :=
  join_ok (fine w0 hw _ (ok18 w0 hw k)) (dr w0 hw _ (ok18 w0 hw k)) (good_cuts (csstok_Number.a8 w0 k) ⟨fun f hf => by cases hf; exact csstok_Number.so18 w0 hw k, trivial⟩) io13.ok (xn := csstok_Number.x8) (L := csstok_Number.L8 k) (csstok_Number.s8 w0 k)
theorem csstok_Number.sim (w0 : World) (hw : Wd w0) (k : Nat) : ∀ v x, (fun v => csstok_Number k v) v = some x → Sim (cfg w0 (tab18 k)) 109 (io1.enc v).1 (io1.enc v).2 (io19.enc x).1 (io19.enc x).2 :=
  sim_of (c := (cfg w0 (tab18 k))) (fine w0 hw _ (ok18 w0 hw k)) (dr w0 hw _ (ok18 w0 hw k)) (i := io1) (o := io19) (ps := []) (cuts := fun _ => csstok_Number.cuts w0 k) (m := 0) (g := fun v => csstok_Number k v) Tryd.func109 (by kernel_rfl) csstok_Number.hb (fun _ => rfl) (fun _ => Nat.le_of_ble_eq_true rfl) (good_cuts (csstok_Number.a w0 k) ⟨fun f hf => by cases hf; exact csstok_Number.so8 w0 hw k, trivial⟩) (csstok_Number.e w0 k)
theorem ok19 (w0 : World) (hw : Wd w0) (k : Nat) : CfOk (cfg w0 (tab19 k)) := addTab_ok (ok18 w0 hw k) (csstok_Number.sim w0 hw k)
theorem csstok_lower.a7 (w0 : World) (k : Nat) : cutsAt (fun n => (csstok_lower.cuts w0 k n).isSome) csstok_lower.b7 = [] := by kernel_rfl
theorem csstok_lower.a (w0 : World) (k : Nat) : cutsAt (fun n => (csstok_lower.cuts w0 k n).isSome) csstok_lower.body = [(7, Code.loop csstok_lower.b7)] := by kernel_rfl
theorem csstok_lower.so7 (w0 : World) (hw : Wd w0) (k : Nat) : Sound (cfg w0 (tab19 k)) Tryd.f149.ntmps 0 (csstok_lower.kr w0 k) (.loop csstok_lower.b7) (entK (cfg w0 (tab19 k)) 0 [3, 8, 9, 10] [] io27.pat (csstok_lower.L7 k k)) :=
  loop_ok (fine w0 hw _ (ok19 w0 hw k)) (dr w0 hw _ (ok19 w0 hw k)) (good_cuts (csstok_lower.a7 w0 k) trivial) io27.ok (xn := csstok_lower.x7) (L := csstok_lower.L7 k) (fun v K => rfl) (csstok_lower.s7 w0 k) k
theorem csstok_lower.sim (w0 : World) (hw : Wd w0) (k : Nat) : ∀ v x, (fun v => csstok_lower k v) v = some x → Sim (cfg w0 (tab19 k)) 149 (io1.enc v).1 (io1.enc v).2 (io1.enc x).1 (io1.enc x).2 :=
  sim_of (c := (cfg w0 (tab19 k))) (fine w0 hw _ (ok19 w0 hw k)) (dr w0 hw _ (ok19 w0 hw k)) (i := io1) (o := io1) (ps := []) (cuts := fun _ => csstok_lower.cuts w0 k) (m := 0) (g := fun v => csstok_lower k v) Tryd.func149 (by kernel_rfl) csstok_lower.hb (fun _ => rfl) (fun _ => Nat.le_of_ble_eq_true rfl) (good_cuts (csstok_lower.a w0 k) ⟨fun f hf => by cases hf; exact csstok_lower.so7 w0 hw k, trivial⟩) (csstok_lower.e w0 k)
theorem ok20 (w0 : World) (hw : Wd w0) (k : Nat) : CfOk (cfg w0 (tab20 k)) := addTab_ok (ok19 w0 hw k) (csstok_lower.sim w0 hw k)
theorem csstok_number.a16 (w0 : World) (k : Nat) : cutsAt (fun n => (csstok_number.cuts w0 k n).isSome) csstok_number.b16 = [] := by kernel_rfl
theorem csstok_number.a (w0 : World) (k : Nat) : cutsAt (fun n => (csstok_number.cuts w0 k n).isSome) csstok_number.body = [(16, csstok_number.b16)] := by kernel_rfl
theorem csstok_number.so16 (w0 : World) (hw : Wd w0) (k : Nat) : Sound (cfg w0 (tab20 k)) Tryd.f110.ntmps 0 (csstok_number.kr w0 k) csstok_number.b16 (entK (cfg w0 (tab20 k)) 0 [6, 7] [] io30.pat (csstok_number.L16 k)) :=
  join_ok (fine w0 hw _ (ok20 w0 hw k)) (dr w0 hw _ (ok20 w0 hw k)) (good_cuts (csstok_number.a16 w0 k) trivial) io30.ok (xn := csstok_number.x16) (L := csstok_number.L16 k) (csstok_number.s16 w0 k)
theorem csstok_number.sim (w0 : World) (hw : Wd w0) (k : Nat) : ∀ v x, (fun v => csstok_number k v.1 v.2.1 v.2.2) v = some x → Sim (cfg w0 (tab20 k)) 110 (io29.enc v).1 (io29.enc v).2 (io9.enc x).1 (io9.enc x).2 :=
  sim_of (c := (cfg w0 (tab20 k))) (fine w0 hw _ (ok20 w0 hw k)) (dr w0 hw _ (ok20 w0 hw k)) (i := io29) (o := io9) (ps := []) (cuts := fun _ => csstok_number.cuts w0 k) (m := 0) (g := fun v => csstok_number k v.1 v.2.1 v.2.2) Tryd.func110 (by kernel_rfl) csstok_number.hb (fun _ => rfl) (fun _ => Nat.le_of_ble_eq_true rfl) (good_cuts (csstok_number.a w0 k) ⟨fun f hf => by cases hf; exact csstok_number.so16 w0 hw k, trivial⟩) (csstok_number.e w0 k)
theorem ok21 (w0 : World) (hw : Wd w0) (k : Nat) : CfOk (cfg w0 (tab21 k)) := addTab_ok (ok20 w0 hw k) (csstok_number.sim w0 hw k)
theorem csstok_first_1.a (w0 : World) (k : Nat) : cutsAt (fun n => (csstok_first_1.cuts w0 k n).isSome) csstok_first_1.body = [] := by kernel_rfl
theorem csstok_first_1.sim (w0 : World) (hw : Wd w0) (k : Nat) : ∀ v x, (fun v => csstok_first_1 k v.1 v.2) v = some x → Sim (cfg w0 (tab21 k)) 101 (io31.enc v).1 (io31.enc v).2 (io32.enc x).1 (io32.enc x).2 :=
  sim_of (c := (cfg w0 (tab21 k))) (fine w0 hw _ (ok21 w0 hw k)) (dr w0 hw _ (ok21 w0 hw k)) (i := io31) (o := io32) (ps := []) (cuts := fun _ => csstok_first_1.cuts w0 k) (m := 1) (g := fun v => csstok_first_1 k v.1 v.2) Tryd.func101 (by kernel_rfl) csstok_first_1.hb (fun _ => rfl) (fun _ => Nat.le_of_ble_eq_true rfl) (good_cuts (csstok_first_1.a w0 k) trivial) (csstok_first_1.e w0 k)
theorem ok22 (w0 : World) (hw : Wd w0) (k : Nat) : CfOk (cfg w0 (tab22 k)) := addTab_ok (ok21 w0 hw k) (csstok_first_1.sim w0 hw k)
theorem csstok_first.a20 (w0 : World) (k : Nat) : cutsAt (fun n => (csstok_first.cuts w0 k n).isSome) csstok_first.b20 = [] := by kernel_rfl
theorem csstok_first.a52 (w0 : World) (k : Nat) : cutsAt (fun n => (csstok_first.cuts w0 k n).isSome) csstok_first.b52 = [] := by kernel_rfl
theorem csstok_first.a76 (w0 : World) (k : Nat) : cutsAt (fun n => (csstok_first.cuts w0 k n).isSome) csstok_first.b76 = [] := by kernel_rfl
theorem csstok_first.a (w0 : World) (k : Nat) : cutsAt (fun n => (csstok_first.cuts w0 k n).isSome) csstok_first.body = [(20, csstok_first.b20), (52, csstok_first.b52), (76, csstok_first.b76)] := by kernel_rfl
theorem csstok_first.so20 (w0 : World) (hw : Wd w0) (k : Nat) : Sound (cfg w0 (tab22 k)) Tryd.f69.ntmps 0 (csstok_first.kr w0 k) csstok_first.b20 (entK (cfg w0 (tab22 k)) 0 [1, 2] [] io33.pat (csstok_first.L20 k)) :=
  join_ok (fine w0 hw _ (ok22 w0 hw k)) (dr w0 hw _ (ok22 w0 hw k)) (good_cuts (csstok_first.a20 w0 k) trivial) io33.ok (xn := csstok_first.x20) (L := csstok_first.L20 k) (csstok_first.s20 w0 k)
theorem csstok_first.so52 (w0 : World) (hw : Wd w0) (k : Nat) : Sound (cfg w0 (tab22 k)) Tryd.f69.ntmps 0 (csstok_first.kr w0 k) csstok_first.b52 (entK (cfg w0 (tab22 k)) 0 [2, 11] [] io30.pat (csstok_first.L52 k)) :=
  join_ok (fine w0 hw _ (ok22 w0 hw k)) (dr w0 hw _ (ok22 w0 hw k)) (good_cuts (csstok_first.a52 w0 k) trivial) io30.ok (xn := csstok_first.x52) (L := csstok_first.L52 k) (csstok_first.s52 w0 k)
theorem csstok_first.so76 (w0 : World) (hw : Wd w0) (k : Nat) : Sound (cfg w0 (tab22 k)) Tryd.f69.ntmps 0 (csstok_first.kr w0 k) csstok_first.b76 (entK (cfg w0 (tab22 k)) 0 [2, 3] [] io34.pat (csstok_first.L76 k)) :=
  join_ok (fine w0 hw _ (ok22 w0 hw k)) (dr w0 hw _ (ok22 w0 hw k)) (good_cuts (csstok_first.a76 w0 k) trivial) io34.ok (xn := csstok_first.x76) (L := csstok_first.L76 k) (csstok_first.s76 w0 k)
theorem csstok_first.sim (w0 : World) (hw : Wd w0) (k : Nat) : ∀ v x, (fun v => csstok_first k v) v = some x → Sim (cfg w0 (tab22 k)) 69 (io1.enc v).1 (io1.enc v).2 (io9.enc x).1 (io9.enc x).2 :=
  sim_of (c := (cfg w0 (tab22 k))) (fine w0 hw _ (ok22 w0 hw k)) (dr w0 hw _ (ok22 w0 hw k)) (i := io1) (o := io9) (ps := []) (cuts := fun _ => csstok_first.cuts w0 k) (m := 0) (g := fun v => csstok_first k v) Tryd.func69 (by kernel_rfl) csstok_first.hb (fun _ => rfl) (fun _ => Nat.le_of_ble_eq_true rfl) (good_cuts (csstok_first.a w0 k) ⟨fun f hf => by cases hf; exact csstok_first.so20 w0 hw k, fun f hf => by cases hf; exact csstok_first.so52 w0 hw k, fun f hf => by cases hf; exact csstok_first.so76 w0 hw k, trivial⟩) (csstok_first.e w0 k)
theorem ok23 (w0 : World) (hw : Wd w0) (k : Nat) : CfOk (cfg w0 (tab23 k)) := addTab_ok (ok22 w0 hw k) (csstok_first.sim w0 hw k)
theorem csstok_Cut.a5 (w0 : World) (k : Nat) : cutsAt (fun n => (csstok_Cut.cuts w0 k n).isSome) csstok_Cut.b5 = [] := by kernel_rfl
theorem csstok_Cut.a (w0 : World) (k : Nat) : cutsAt (fun n => (csstok_Cut.cuts w0 k n).isSome) csstok_Cut.body = [(5, Code.loop csstok_Cut.b5)] := by kernel_rfl
theorem csstok_Cut.so5 (w0 : World) (hw : Wd w0) (k : Nat) : Sound (cfg w0 (tab23 k)) Tryd.f37.ntmps 0 (csstok_Cut.kr w0 k) (.loop csstok_Cut.b5) (entK (cfg w0 (tab23 k)) 0 [0, 3] [.own 3 77] io36.pat (csstok_Cut.L5 k k)) :=
  loop_ok (fine w0 hw _ (ok23 w0 hw k)) (dr w0 hw _ (ok23 w0 hw k)) (good_cuts (csstok_Cut.a5 w0 k) trivial) io36.ok (xn := csstok_Cut.x5) (L := csstok_Cut.L5 k) (fun v K => rfl) (csstok_Cut.s5 w0 k) k
theorem csstok_Cut.sim (w0 : World) (hw : Wd w0) (k : Nat) : ∀ v x, (fun v => csstok_Cut k v) v = some x → Sim (cfg w0 (tab23 k)) 37 (io1.enc v).1 (io1.enc v).2 (io35.enc x).1 (io35.enc x).2 :=
  sim_of (c := (cfg w0 (tab23 k))) (fine w0 hw _ (ok23 w0 hw k)) (dr w0 hw _ (ok23 w0 hw k)) (i := io1) (o := io35) (ps := [.own 0 77]) (cuts := fun _ => csstok_Cut.cuts w0 k) (m := 0) (g := fun v => csstok_Cut k v) Tryd.func37 (by kernel_rfl) csstok_Cut.hb (fun _ => rfl) (fun _ => Nat.le_of_ble_eq_true rfl) (good_cuts (csstok_Cut.a w0 k) ⟨fun f hf => by cases hf; exact csstok_Cut.so5 w0 hw k, trivial⟩) (csstok_Cut.e w0 k)
theorem ok24 (w0 : World) (hw : Wd w0) (k : Nat) : CfOk (cfg w0 (tab24 k)) := addTab_ok (ok23 w0 hw k) (csstok_Cut.sim w0 hw k)
theorem cssrule_silent.a (w0 : World) (k : Nat) : cutsAt (fun n => (cssrule_silent.cuts w0 k n).isSome) cssrule_silent.body = [] := by kernel_rfl
theorem cssrule_silent.sim (w0 : World) (hw : Wd w0) (k : Nat) : ∀ v x, (fun v => cssrule_silent k v.1 v.2.1 v.2.2.1 v.2.2.2) v = some x → Sim (cfg w0 (tab24 k)) 114 (io9.enc v).1 (io9.enc v).2 (io2.enc x).1 (io2.enc x).2 :=
  sim_of (c := (cfg w0 (tab24 k))) (fine w0 hw _ (ok24 w0 hw k)) (dr w0 hw _ (ok24 w0 hw k)) (i := io9) (o := io2) (ps := []) (cuts := fun _ => cssrule_silent.cuts w0 k) (m := 0) (g := fun v => cssrule_silent k v.1 v.2.1 v.2.2.1 v.2.2.2) Tryd.func114 (by kernel_rfl) cssrule_silent.hb (fun _ => rfl) (fun _ => Nat.le_of_ble_eq_true rfl) (good_cuts (cssrule_silent.a w0 k) trivial) (cssrule_silent.e w0 k)
theorem ok25 (w0 : World) (hw : Wd w0) (k : Nat) : CfOk (cfg w0 (tab25 k)) := addTab_ok (ok24 w0 hw k) (cssrule_silent.sim w0 hw k)
theorem cssrule_solid.a3 (w0 : World) (k : Nat) : cutsAt (fun n => (cssrule_solid.cuts w0 k n).isSome) cssrule_solid.b3 = [] := by kernel_rfl
theorem cssrule_solid.a7 (w0 : World) (k : Nat) : cutsAt (fun n => (cssrule_solid.cuts w0 k n).isSome) cssrule_solid.b7 = [] := by kernel_rfl
theorem cssrule_solid.a (w0 : World) (k : Nat) : cutsAt (fun n => (cssrule_solid.cuts w0 k n).isSome) cssrule_solid.body = [(3, Code.loop cssrule_solid.b3), (7, Code.loop cssrule_solid.b7)] := by kernel_rfl
theorem cssrule_solid.so3 (w0 : World) (hw : Wd w0) (k : Nat) : Sound (cfg w0 (tab25 k)) Tryd.f81.ntmps 0 (cssrule_solid.kr w0 k) (.loop cssrule_solid.b3) (entK (cfg w0 (tab25 k)) 0 [0] [] io37.pat (cssrule_solid.L3 k k)) :=
  loop_ok (fine w0 hw _ (ok25 w0 hw k)) (dr w0 hw _ (ok25 w0 hw k)) (good_cuts (cssrule_solid.a3 w0 k) trivial) io37.ok (xn := cssrule_solid.x3) (L := cssrule_solid.L3 k) (fun v K => rfl) (cssrule_solid.s3 w0 k) k
theorem cssrule_solid.so7 (w0 : World) (hw : Wd w0) (k : Nat) : Sound (cfg w0 (tab25 k)) Tryd.f81.ntmps 0 (cssrule_solid.kr w0 k) (.loop cssrule_solid.b7) (entK (cfg w0 (tab25 k)) 0 [0] [] io37.pat (cssrule_solid.L7 k k)) :=
  loop_ok (fine w0 hw _ (ok25 w0 hw k)) (dr w0 hw _ (ok25 w0 hw k)) (good_cuts (cssrule_solid.a7 w0 k) trivial) io37.ok (xn := cssrule_solid.x7) (L := cssrule_solid.L7 k) (fun v K => rfl) (cssrule_solid.s7 w0 k) k
theorem cssrule_solid.sim (w0 : World) (hw : Wd w0) (k : Nat) : ∀ v x, (fun v => cssrule_solid k v) v = some x → Sim (cfg w0 (tab25 k)) 81 (io37.enc v).1 (io37.enc v).2 (io37.enc x).1 (io37.enc x).2 :=
  sim_of (c := (cfg w0 (tab25 k))) (fine w0 hw _ (ok25 w0 hw k)) (dr w0 hw _ (ok25 w0 hw k)) (i := io37) (o := io37) (ps := []) (cuts := fun _ => cssrule_solid.cuts w0 k) (m := 0) (g := fun v => cssrule_solid k v) Tryd.func81 (by kernel_rfl) cssrule_solid.hb (fun _ => rfl) (fun _ => Nat.le_of_ble_eq_true rfl) (good_cuts (cssrule_solid.a w0 k) ⟨fun f hf => by cases hf; exact cssrule_solid.so3 w0 hw k, fun f hf => by cases hf; exact cssrule_solid.so7 w0 hw k, trivial⟩) (cssrule_solid.e w0 k)
theorem ok26 (w0 : World) (hw : Wd w0) (k : Nat) : CfOk (cfg w0 (tab26 k)) := addTab_ok (ok25 w0 hw k) (cssrule_solid.sim w0 hw k)
theorem cssrule_raw.a (w0 : World) (k : Nat) : cutsAt (fun n => (cssrule_raw.cuts w0 k n).isSome) cssrule_raw.body = [] := by kernel_rfl
theorem cssrule_raw.sim (w0 : World) (hw : Wd w0) (k : Nat) : ∀ v x, (fun v => cssrule_raw k v.1 v.2.1 v.2.2.1 v.2.2.2.1 v.2.2.2.2.1 v.2.2.2.2.2) v = some x → Sim (cfg w0 (tab26 k)) 120 (io38.enc v).1 (io38.enc v).2 (io2.enc x).1 (io2.enc x).2 :=
  sim_of (c := (cfg w0 (tab26 k))) (fine w0 hw _ (ok26 w0 hw k)) (dr w0 hw _ (ok26 w0 hw k)) (i := io38) (o := io2) (ps := []) (cuts := fun _ => cssrule_raw.cuts w0 k) (m := 0) (g := fun v => cssrule_raw k v.1 v.2.1 v.2.2.1 v.2.2.2.1 v.2.2.2.2.1 v.2.2.2.2.2) Tryd.func120 (by kernel_rfl) cssrule_raw.hb (fun _ => rfl) (fun _ => Nat.le_of_ble_eq_true rfl) (good_cuts (cssrule_raw.a w0 k) trivial) (cssrule_raw.e w0 k)
theorem ok27 (w0 : World) (hw : Wd w0) (k : Nat) : CfOk (cfg w0 (tab27 k)) := addTab_ok (ok26 w0 hw k) (cssrule_raw.sim w0 hw k)
theorem cssrule_brace.a (w0 : World) (k : Nat) : cutsAt (fun n => (cssrule_brace.cuts w0 k n).isSome) cssrule_brace.body = [] := by kernel_rfl
theorem cssrule_brace.sim (w0 : World) (hw : Wd w0) (k : Nat) : ∀ v x, (fun v => cssrule_brace k v.1 v.2.1 v.2.2.1 v.2.2.2) v = some x → Sim (cfg w0 (tab27 k)) 84 (io9.enc v).1 (io9.enc v).2 (io2.enc x).1 (io2.enc x).2 :=
  sim_of (c := (cfg w0 (tab27 k))) (fine w0 hw _ (ok27 w0 hw k)) (dr w0 hw _ (ok27 w0 hw k)) (i := io9) (o := io2) (ps := []) (cuts := fun _ => cssrule_brace.cuts w0 k) (m := 0) (g := fun v => cssrule_brace k v.1 v.2.1 v.2.2.1 v.2.2.2) Tryd.func84 (by kernel_rfl) cssrule_brace.hb (fun _ => rfl) (fun _ => Nat.le_of_ble_eq_true rfl) (good_cuts (cssrule_brace.a w0 k) trivial) (cssrule_brace.e w0 k)
theorem ok28 (w0 : World) (hw : Wd w0) (k : Nat) : CfOk (cfg w0 (tab28 k)) := addTab_ok (ok27 w0 hw k) (cssrule_brace.sim w0 hw k)
theorem cssrule_semi.a (w0 : World) (k : Nat) : cutsAt (fun n => (cssrule_semi.cuts w0 k n).isSome) cssrule_semi.body = [] := by kernel_rfl
theorem cssrule_semi.sim (w0 : World) (hw : Wd w0) (k : Nat) : ∀ v x, (fun v => cssrule_semi k v.1 v.2.1 v.2.2.1 v.2.2.2) v = some x → Sim (cfg w0 (tab28 k)) 85 (io9.enc v).1 (io9.enc v).2 (io2.enc x).1 (io2.enc x).2 :=
  sim_of (c := (cfg w0 (tab28 k))) (fine w0 hw _ (ok28 w0 hw k)) (dr w0 hw _ (ok28 w0 hw k)) (i := io9) (o := io2) (ps := []) (cuts := fun _ => cssrule_semi.cuts w0 k) (m := 0) (g := fun v => cssrule_semi k v.1 v.2.1 v.2.2.1 v.2.2.2) Tryd.func85 (by kernel_rfl) cssrule_semi.hb (fun _ => rfl) (fun _ => Nat.le_of_ble_eq_true rfl) (good_cuts (cssrule_semi.a w0 k) trivial) (cssrule_semi.e w0 k)
theorem ok29 (w0 : World) (hw : Wd w0) (k : Nat) : CfOk (cfg w0 (tab29 k)) := addTab_ok (ok28 w0 hw k) (cssrule_semi.sim w0 hw k)
theorem cssrule_rules_1.a (w0 : World) (k : Nat) : cutsAt (fun n => (cssrule_rules_1.cuts w0 k n).isSome) cssrule_rules_1.body = [] := by kernel_rfl
theorem cssrule_rules_1.sim (w0 : World) (hw : Wd w0) (k : Nat) : ∀ v x, (fun v => cssrule_rules_1 k v.1 v.2.1 v.2.2.1 v.2.2.2.1 v.2.2.2.2) v = some x → Sim (cfg w0 (tab29 k)) 83 (io39.enc v).1 (io39.enc v).2 (io40.enc x).1 (io40.enc x).2 :=
  sim_of (c := (cfg w0 (tab29 k))) (fine w0 hw _ (ok29 w0 hw k)) (dr w0 hw _ (ok29 w0 hw k)) (i := io39) (o := io40) (ps := []) (cuts := fun _ => cssrule_rules_1.cuts w0 k) (m := 1) (g := fun v => cssrule_rules_1 k v.1 v.2.1 v.2.2.1 v.2.2.2.1 v.2.2.2.2) Tryd.func83 (by kernel_rfl) cssrule_rules_1.hb (fun _ => rfl) (fun _ => Nat.le_of_ble_eq_true rfl) (good_cuts (cssrule_rules_1.a w0 k) trivial) (cssrule_rules_1.e w0 k)
theorem ok30 (w0 : World) (hw : Wd w0) (k : Nat) : CfOk (cfg w0 (tab30 k)) := addTab_ok (ok29 w0 hw k) (cssrule_rules_1.sim w0 hw k)
theorem cssrule_opens.a (w0 : World) (k : Nat) : cutsAt (fun n => (cssrule_opens.cuts w0 k n).isSome) cssrule_opens.body = [] := by kernel_rfl
theorem cssrule_opens.sim (w0 : World) (hw : Wd w0) (k : Nat) : ∀ v x, (fun v => cssrule_opens k v.1 v.2.1 v.2.2.1 v.2.2.2) v = some x → Sim (cfg w0 (tab30 k)) 119 (io9.enc v).1 (io9.enc v).2 (io2.enc x).1 (io2.enc x).2 :=
  sim_of (c := (cfg w0 (tab30 k))) (fine w0 hw _ (ok30 w0 hw k)) (dr w0 hw _ (ok30 w0 hw k)) (i := io9) (o := io2) (ps := []) (cuts := fun _ => cssrule_opens.cuts w0 k) (m := 0) (g := fun v => cssrule_opens k v.1 v.2.1 v.2.2.1 v.2.2.2) Tryd.func119 (by kernel_rfl) cssrule_opens.hb (fun _ => rfl) (fun _ => Nat.le_of_ble_eq_true rfl) (good_cuts (cssrule_opens.a w0 k) trivial) (cssrule_opens.e w0 k)
theorem ok31 (w0 : World) (hw : Wd w0) (k : Nat) : CfOk (cfg w0 (tab31 k)) := addTab_ok (ok30 w0 hw k) (cssrule_opens.sim w0 hw k)
theorem cssrule_closer.a (w0 : World) (k : Nat) : cutsAt (fun n => (cssrule_closer.cuts w0 k n).isSome) cssrule_closer.body = [] := by kernel_rfl
theorem cssrule_closer.sim (w0 : World) (hw : Wd w0) (k : Nat) : ∀ v x, (fun v => cssrule_closer k v.1 v.2.1 v.2.2.1 v.2.2.2) v = some x → Sim (cfg w0 (tab31 k)) 121 (io9.enc v).1 (io9.enc v).2 (io1.enc x).1 (io1.enc x).2 :=
  sim_of (c := (cfg w0 (tab31 k))) (fine w0 hw _ (ok31 w0 hw k)) (dr w0 hw _ (ok31 w0 hw k)) (i := io9) (o := io1) (ps := []) (cuts := fun _ => cssrule_closer.cuts w0 k) (m := 0) (g := fun v => cssrule_closer k v.1 v.2.1 v.2.2.1 v.2.2.2) Tryd.func121 (by kernel_rfl) cssrule_closer.hb (fun _ => rfl) (fun _ => Nat.le_of_ble_eq_true rfl) (good_cuts (cssrule_closer.a w0 k) trivial) (cssrule_closer.e w0 k)
theorem ok32 (w0 : World) (hw : Wd w0) (k : Nat) : CfOk (cfg w0 (tab32 k)) := addTab_ok (ok31 w0 hw k) (cssrule_closer.sim w0 hw k)
theorem cssrule_block.a7 (w0 : World) (k : Nat) : cutsAt (fun n => (cssrule_block.cuts w0 k n).isSome) cssrule_block.b7 = [] := by kernel_rfl
theorem cssrule_block.a (w0 : World) (k : Nat) : cutsAt (fun n => (cssrule_block.cuts w0 k n).isSome) cssrule_block.body = [(7, Code.loop cssrule_block.b7)] := by kernel_rfl
theorem cssrule_block.so7 (w0 : World) (hw : Wd w0) (k : Nat) : Sound (cfg w0 (tab32 k)) Tryd.f86.ntmps 0 (cssrule_block.kr w0 k) (.loop cssrule_block.b7) (entK (cfg w0 (tab32 k)) 0 [0, 6, 7] [.own 6 9] io43.pat (cssrule_block.L7 k k)) :=
  loop_ok (fine w0 hw _ (ok32 w0 hw k)) (dr w0 hw _ (ok32 w0 hw k)) (good_cuts (cssrule_block.a7 w0 k) trivial) io43.ok (xn := cssrule_block.x7) (L := cssrule_block.L7 k) (fun v K => rfl) (cssrule_block.s7 w0 k) k
theorem cssrule_block.sim (w0 : World) (hw : Wd w0) (k : Nat) : ∀ v x, (fun v => cssrule_block k v.1 v.2) v = some x → Sim (cfg w0 (tab32 k)) 86 (io41.enc v).1 (io41.enc v).2 (io42.enc x).1 (io42.enc x).2 :=
  sim_of (c := (cfg w0 (tab32 k))) (fine w0 hw _ (ok32 w0 hw k)) (dr w0 hw _ (ok32 w0 hw k)) (i := io41) (o := io42) (ps := []) (cuts := fun _ => cssrule_block.cuts w0 k) (m := 0) (g := fun v => cssrule_block k v.1 v.2) Tryd.func86 (by kernel_rfl) cssrule_block.hb (fun _ => rfl) (fun _ => Nat.le_of_ble_eq_true rfl) (good_cuts (cssrule_block.a w0 k) ⟨fun f hf => by cases hf; exact cssrule_block.so7 w0 hw k, trivial⟩) (cssrule_block.e w0 k)
theorem ok33 (w0 : World) (hw : Wd w0) (k : Nat) : CfOk (cfg w0 (tab33 k)) := addTab_ok (ok32 w0 hw k) (cssrule_block.sim w0 hw k)
theorem cssrule_find.a3 (w0 : World) (k : Nat) : cutsAt (fun n => (cssrule_find.cuts w0 k n).isSome) cssrule_find.b3 = [] := by kernel_rfl
theorem cssrule_find.a (w0 : World) (k : Nat) : cutsAt (fun n => (cssrule_find.cuts w0 k n).isSome) cssrule_find.body = [(3, Code.loop cssrule_find.b3)] := by kernel_rfl
theorem cssrule_find.so3 (w0 : World) (hw : Wd w0) (k : Nat) : Sound (cfg w0 (tab33 k)) Tryd.f82.ntmps 1 (cssrule_find.kr w0 k) (.loop cssrule_find.b3) (entK (cfg w0 (tab33 k)) 1 [0, 1, 2] [] io44.pat (cssrule_find.L3 k k)) :=
  loop_ok (fine w0 hw _ (ok33 w0 hw k)) (dr w0 hw _ (ok33 w0 hw k)) (good_cuts (cssrule_find.a3 w0 k) trivial) io44.ok (xn := cssrule_find.x3) (L := cssrule_find.L3 k) (fun v K => rfl) (cssrule_find.s3 w0 k) k
theorem cssrule_find.sim (w0 : World) (hw : Wd w0) (k : Nat) : ∀ v x, (fun v => cssrule_find k v.1 v.2.1 v.2.2) v = some x → Sim (cfg w0 (tab33 k)) 82 (io44.enc v).1 (io44.enc v).2 (io45.enc x).1 (io45.enc x).2 :=
  sim_of (c := (cfg w0 (tab33 k))) (fine w0 hw _ (ok33 w0 hw k)) (dr w0 hw _ (ok33 w0 hw k)) (i := io44) (o := io45) (ps := []) (cuts := fun _ => cssrule_find.cuts w0 k) (m := 1) (g := fun v => cssrule_find k v.1 v.2.1 v.2.2) Tryd.func82 (by kernel_rfl) cssrule_find.hb (fun _ => rfl) (fun _ => Nat.le_of_ble_eq_true rfl) (good_cuts (cssrule_find.a w0 k) ⟨fun f hf => by cases hf; exact cssrule_find.so3 w0 hw k, trivial⟩) (cssrule_find.e w0 k)
theorem ok34 (w0 : World) (hw : Wd w0) (k : Nat) : CfOk (cfg w0 (tab34 k)) := addTab_ok (ok33 w0 hw k) (cssrule_find.sim w0 hw k)
theorem cssrule_bad.a (w0 : World) (k : Nat) : cutsAt (fun n => (cssrule_bad.cuts w0 k n).isSome) cssrule_bad.body = [] := by kernel_rfl
theorem cssrule_bad.sim (w0 : World) (hw : Wd w0) (k : Nat) : ∀ v x, (fun v => cssrule_bad k v.1 v.2.1 v.2.2.1 v.2.2.2) v = some x → Sim (cfg w0 (tab34 k)) 123 (io9.enc v).1 (io9.enc v).2 (io2.enc x).1 (io2.enc x).2 :=
  sim_of (c := (cfg w0 (tab34 k))) (fine w0 hw _ (ok34 w0 hw k)) (dr w0 hw _ (ok34 w0 hw k)) (i := io9) (o := io2) (ps := []) (cuts := fun _ => cssrule_bad.cuts w0 k) (m := 0) (g := fun v => cssrule_bad k v.1 v.2.1 v.2.2.1 v.2.2.2) Tryd.func123 (by kernel_rfl) cssrule_bad.hb (fun _ => rfl) (fun _ => Nat.le_of_ble_eq_true rfl) (good_cuts (cssrule_bad.a w0 k) trivial) (cssrule_bad.e w0 k)
theorem ok35 (w0 : World) (hw : Wd w0) (k : Nat) : CfOk (cfg w0 (tab35 k)) := addTab_ok (ok34 w0 hw k) (cssrule_bad.sim w0 hw k)
theorem api_SToken__v2.a5 (w0 : World) (k : Nat) : cutsAt (fun n => (api_SToken__v2.cuts w0 k n).isSome) api_SToken__v2.b5 = [] := by kernel_rfl
theorem api_SToken__v2.a (w0 : World) (k : Nat) : cutsAt (fun n => (api_SToken__v2.cuts w0 k n).isSome) api_SToken__v2.body = [(5, Code.loop api_SToken__v2.b5)] := by kernel_rfl
theorem api_SToken__v2.so5 (w0 : World) (hw : Wd w0) (k : Nat) : Sound (cfg w0 (tab35 k)) Tryd.f159.ntmps 0 (api_SToken__v2.kr w0 k) (.loop api_SToken__v2.b5) (entK (cfg w0 (tab35 k)) 0 [0, 1, 7, 8] [] io47.pat (api_SToken__v2.L5 k k)) :=
  loop_ok (fine w0 hw _ (ok35 w0 hw k)) (dr w0 hw _ (ok35 w0 hw k)) (good_cuts (api_SToken__v2.a5 w0 k) trivial) io47.ok (xn := api_SToken__v2.x5) (L := api_SToken__v2.L5 k) (fun v K => rfl) (api_SToken__v2.s5 w0 k) k
theorem api_SToken__v2.sim (w0 : World) (hw : Wd w0) (k : Nat) : ∀ v x, (fun v => api_SToken__v2 k v) v = some x → Sim (cfg w0 (tab35 k)) 159 (io46.enc v).1 (io46.enc v).2 (io4.enc x).1 (io4.enc x).2 :=
  sim_of (c := (cfg w0 (tab35 k))) (fine w0 hw _ (ok35 w0 hw k)) (dr w0 hw _ (ok35 w0 hw k)) (i := io46) (o := io4) (ps := []) (cuts := fun _ => api_SToken__v2.cuts w0 k) (m := 0) (g := fun v => api_SToken__v2 k v) Tryd.func159 (by kernel_rfl) api_SToken__v2.hb (fun _ => rfl) (fun _ => Nat.le_of_ble_eq_true rfl) (good_cuts (api_SToken__v2.a w0 k) ⟨fun f hf => by cases hf; exact api_SToken__v2.so5 w0 hw k, trivial⟩) (api_SToken__v2.e w0 k)
theorem ok36 (w0 : World) (hw : Wd w0) (k : Nat) : CfOk (cfg w0 (tab36 k)) := addTab_ok (ok35 w0 hw k) (api_SToken__v2.sim w0 hw k)
theorem api_SToken_.a (w0 : World) (k : Nat) : cutsAt (fun n => (api_SToken_.cuts w0 k n).isSome) api_SToken_.body = [] := by kernel_rfl
theorem api_SToken_.sim (w0 : World) (hw : Wd w0) (k : Nat) : ∀ v x, (fun v => api_SToken_ k v) v = some x → Sim (cfg w0 (tab36 k)) 122 (io46.enc v).1 (io46.enc v).2 (io2.enc x).1 (io2.enc x).2 :=
  sim_of (c := (cfg w0 (tab36 k))) (fine w0 hw _ (ok36 w0 hw k)) (dr w0 hw _ (ok36 w0 hw k)) (i := io46) (o := io2) (ps := []) (cuts := fun _ => api_SToken_.cuts w0 k) (m := 0) (g := fun v => api_SToken_ k v) Tryd.func122 (by kernel_rfl) api_SToken_.hb (fun _ => rfl) (fun _ => Nat.le_of_ble_eq_true rfl) (good_cuts (api_SToken_.a w0 k) trivial) (api_SToken_.e w0 k)
theorem ok37 (w0 : World) (hw : Wd w0) (k : Nat) : CfOk (cfg w0 (tab37 k)) := addTab_ok (ok36 w0 hw k) (api_SToken_.sim w0 hw k)
theorem f__strings_Builder__Len.sim (w0 : World) (hw : Wd w0) (k : Nat) : ∀ v x, (fun v => f__strings_Builder__Len k v) v = some x → Sim (cfg w0 (tab37 k)) 42 (io5.enc v).1 (io5.enc v).2 (io49.enc x).1 (io49.enc x).2 := by
  intro v x h; cases h; exact sim_len (c := cfg w0 (tab37 k)) (ρ := Sh.blr) Sh.bl Sh.fLen rfl rfl _
theorem ok38 (w0 : World) (hw : Wd w0) (k : Nat) : CfOk (cfg w0 (tab38 k)) := addTab_ok (ok37 w0 hw k) (f__strings_Builder__Len.sim w0 hw k)
theorem f__strings_Builder__WriteString.sim (w0 : World) (hw : Wd w0) (k : Nat) : ∀ v x, (fun v => f__strings_Builder__WriteString k v.1 v.2) v = some x → Sim (cfg w0 (tab38 k)) 39 (io50.enc v).1 (io50.enc v).2 (io51.enc x).1 (io51.enc x).2 := by
  intro v x h; obtain ⟨s, hs, rfl⟩ := Option.map_eq_some_iff.1 h; exact sim_wStr (c := cfg w0 (tab38 k)) (ρ := Sh.blr) Sh.bl Sh.fWriteString Sh.ext rfl rfl hs
theorem ok39 (w0 : World) (hw : Wd w0) (k : Nat) : CfOk (cfg w0 (tab39 k)) := addTab_ok (ok38 w0 hw k) (f__strings_Builder__WriteString.sim w0 hw k)
theorem cssrule_Head.a20 (w0 : World) (k : Nat) : cutsAt (fun n => (cssrule_Head.cuts w0 k n).isSome) cssrule_Head.b20 = [] := by kernel_rfl
theorem cssrule_Head.a9 (w0 : World) (k : Nat) : cutsAt (fun n => (cssrule_Head.cuts w0 k n).isSome) cssrule_Head.b9 = [(20, cssrule_Head.b20)] := by kernel_rfl
theorem cssrule_Head.a (w0 : World) (k : Nat) : cutsAt (fun n => (cssrule_Head.cuts w0 k n).isSome) cssrule_Head.body = [(9, Code.loop cssrule_Head.b9)] := by kernel_rfl
theorem cssrule_Head.so20 (w0 : World) (hw : Wd w0) (k : Nat) : Sound (cfg w0 (tab39 k)) Tryd.f74.ntmps 0 (cssrule_Head.kr w0 k) cssrule_Head.b20 (entK (cfg w0 (tab39 k)) 0 [3, 6, 7, 8, 9] [] io52.pat (cssrule_Head.L20 k)) :=
  join_ok (fine w0 hw _ (ok39 w0 hw k)) (dr w0 hw _ (ok39 w0 hw k)) (good_cuts (cssrule_Head.a20 w0 k) trivial) io52.ok (xn := cssrule_Head.x20) (L := cssrule_Head.L20 k) (cssrule_Head.s20 w0 k)
theorem cssrule_Head.so9 (w0 : World) (hw : Wd w0) (k : Nat) : Sound (cfg w0 (tab39 k)) Tryd.f74.ntmps 0 (cssrule_Head.kr w0 k) (.loop cssrule_Head.b9) (entK (cfg w0 (tab39 k)) 0 [3, 4, 7, 8, 9] [] io53.pat (cssrule_Head.L9 k k)) :=
  loop_ok (fine w0 hw _ (ok39 w0 hw k)) (dr w0 hw _ (ok39 w0 hw k)) (good_cuts (cssrule_Head.a9 w0 k) ⟨fun f hf => by cases hf; exact cssrule_Head.so20 w0 hw k, trivial⟩) io53.ok (xn := cssrule_Head.x9) (L := cssrule_Head.L9 k) (fun v K => rfl) (cssrule_Head.s9 w0 k) k
theorem cssrule_Head.sim (w0 : World) (hw : Wd w0) (k : Nat) : ∀ v x, (fun v => cssrule_Head k v) v = some x → Sim (cfg w0 (tab39 k)) 74 (io37.enc v).1 (io37.enc v).2 (io1.enc x).1 (io1.enc x).2 :=
  sim_of (c := (cfg w0 (tab39 k))) (fine w0 hw _ (ok39 w0 hw k)) (dr w0 hw _ (ok39 w0 hw k)) (i := io37) (o := io1) (ps := []) (cuts := fun _ => cssrule_Head.cuts w0 k) (m := 0) (g := fun v => cssrule_Head k v) Tryd.func74 (by kernel_rfl) cssrule_Head.hb (fun _ => rfl) (fun _ => Nat.le_of_ble_eq_true rfl) (good_cuts (cssrule_Head.a w0 k) ⟨fun f hf => by cases hf; exact cssrule_Head.so9 w0 hw k, trivial⟩) (cssrule_Head.e w0 k)
theorem ok40 (w0 : World) (hw : Wd w0) (k : Nat) : CfOk (cfg w0 (tab40 k)) := addTab_ok (ok39 w0 hw k) (cssrule_Head.sim w0 hw k)
theorem cssrule_find_v2.a3 (w0 : World) (k : Nat) : cutsAt (fun n => (cssrule_find_v2.cuts w0 k n).isSome) cssrule_find_v2.b3 = [] := by kernel_rfl
theorem cssrule_find_v2.a (w0 : World) (k : Nat) : cutsAt (fun n => (cssrule_find_v2.cuts w0 k n).isSome) cssrule_find_v2.body = [(3, Code.loop cssrule_find_v2.b3)] := by kernel_rfl
theorem cssrule_find_v2.so3 (w0 : World) (hw : Wd w0) (k : Nat) : Sound (cfg w0 (tab40 k)) Tryd.f82.ntmps 0 (cssrule_find_v2.kr w0 k) (.loop cssrule_find_v2.b3) (entK (cfg w0 (tab40 k)) 0 [0, 1, 2] [] io54.pat (cssrule_find_v2.L3 k k)) :=
  loop_ok (fine w0 hw _ (ok40 w0 hw k)) (dr w0 hw _ (ok40 w0 hw k)) (good_cuts (cssrule_find_v2.a3 w0 k) trivial) io54.ok (xn := cssrule_find_v2.x3) (L := cssrule_find_v2.L3 k) (fun v K => rfl) (cssrule_find_v2.s3 w0 k) k
theorem cssrule_find_v2.sim (w0 : World) (hw : Wd w0) (k : Nat) : ∀ v x, (fun v => cssrule_find_v2 k v.1 v.2) v = some x → Sim (cfg w0 (tab40 k)) 82 (io54.enc v).1 (io54.enc v).2 (io4.enc x).1 (io4.enc x).2 :=
  sim_of (c := (cfg w0 (tab40 k))) (fine w0 hw _ (ok40 w0 hw k)) (dr w0 hw _ (ok40 w0 hw k)) (i := io54) (o := io4) (ps := []) (cuts := fun _ => cssrule_find_v2.cuts w0 k) (m := 0) (g := fun v => cssrule_find_v2 k v.1 v.2) Tryd.func82 (by kernel_rfl) cssrule_find_v2.hb (fun _ => rfl) (fun _ => Nat.le_of_ble_eq_true rfl) (good_cuts (cssrule_find_v2.a w0 k) ⟨fun f hf => by cases hf; exact cssrule_find_v2.so3 w0 hw k, trivial⟩) (cssrule_find_v2.e w0 k)
theorem ok41 (w0 : World) (hw : Wd w0) (k : Nat) : CfOk (cfg w0 (tab41 k)) := addTab_ok (ok40 w0 hw k) (cssrule_find_v2.sim w0 hw k)
theorem cssrule_lower.a7 (w0 : World) (k : Nat) : cutsAt (fun n => (cssrule_lower.cuts w0 k n).isSome) cssrule_lower.b7 = [] := by kernel_rfl
theorem cssrule_lower.a (w0 : World) (k : Nat) : cutsAt (fun n => (cssrule_lower.cuts w0 k n).isSome) cssrule_lower.body = [(7, Code.loop cssrule_lower.b7)] := by kernel_rfl
theorem cssrule_lower.so7 (w0 : World) (hw : Wd w0) (k : Nat) : Sound (cfg w0 (tab41 k)) Tryd.f124.ntmps 0 (cssrule_lower.kr w0 k) (.loop cssrule_lower.b7) (entK (cfg w0 (tab41 k)) 0 [3, 8, 9, 10] [] io27.pat (cssrule_lower.L7 k k)) :=
  loop_ok (fine w0 hw _ (ok41 w0 hw k)) (dr w0 hw _ (ok41 w0 hw k)) (good_cuts (cssrule_lower.a7 w0 k) trivial) io27.ok (xn := cssrule_lower.x7) (L := cssrule_lower.L7 k) (fun v K => rfl) (cssrule_lower.s7 w0 k) k
theorem cssrule_lower.sim (w0 : World) (hw : Wd w0) (k : Nat) : ∀ v x, (fun v => cssrule_lower k v) v = some x → Sim (cfg w0 (tab41 k)) 124 (io1.enc v).1 (io1.enc v).2 (io1.enc x).1 (io1.enc x).2 :=
  sim_of (c := (cfg w0 (tab41 k))) (fine w0 hw _ (ok41 w0 hw k)) (dr w0 hw _ (ok41 w0 hw k)) (i := io1) (o := io1) (ps := []) (cuts := fun _ => cssrule_lower.cuts w0 k) (m := 0) (g := fun v => cssrule_lower k v) Tryd.func124 (by kernel_rfl) cssrule_lower.hb (fun _ => rfl) (fun _ => Nat.le_of_ble_eq_true rfl) (good_cuts (cssrule_lower.a w0 k) ⟨fun f hf => by cases hf; exact cssrule_lower.so7 w0 hw k, trivial⟩) (cssrule_lower.e w0 k)
theorem ok42 (w0 : World) (hw : Wd w0) (k : Nat) : CfOk (cfg w0 (tab42 k)) := addTab_ok (ok41 w0 hw k) (cssrule_lower.sim w0 hw k)
theorem cssrule_colon.a (w0 : World) (k : Nat) : cutsAt (fun n => (cssrule_colon.cuts w0 k n).isSome) cssrule_colon.body = [] := by kernel_rfl
theorem cssrule_colon.sim (w0 : World) (hw : Wd w0) (k : Nat) : ∀ v x, (fun v => cssrule_colon k v.1 v.2.1 v.2.2.1 v.2.2.2) v = some x → Sim (cfg w0 (tab42 k)) 125 (io9.enc v).1 (io9.enc v).2 (io2.enc x).1 (io2.enc x).2 :=
  sim_of (c := (cfg w0 (tab42 k))) (fine w0 hw _ (ok42 w0 hw k)) (dr w0 hw _ (ok42 w0 hw k)) (i := io9) (o := io2) (ps := []) (cuts := fun _ => cssrule_colon.cuts w0 k) (m := 0) (g := fun v => cssrule_colon k v.1 v.2.1 v.2.2.1 v.2.2.2) Tryd.func125 (by kernel_rfl) cssrule_colon.hb (fun _ => rfl) (fun _ => Nat.le_of_ble_eq_true rfl) (good_cuts (cssrule_colon.a w0 k) trivial) (cssrule_colon.e w0 k)
theorem ok43 (w0 : World) (hw : Wd w0) (k : Nat) : CfOk (cfg w0 (tab43 k)) := addTab_ok (ok42 w0 hw k) (cssrule_colon.sim w0 hw k)
theorem cssrule_plain.a (w0 : World) (k : Nat) : cutsAt (fun n => (cssrule_plain.cuts w0 k n).isSome) cssrule_plain.body = [] := by kernel_rfl
theorem cssrule_plain.sim (w0 : World) (hw : Wd w0) (k : Nat) : ∀ v x, (fun v => cssrule_plain k v) v = some x → Sim (cfg w0 (tab43 k)) 126 (io1.enc v).1 (io1.enc v).2 (io2.enc x).1 (io2.enc x).2 :=
  sim_of (c := (cfg w0 (tab43 k))) (fine w0 hw _ (ok43 w0 hw k)) (dr w0 hw _ (ok43 w0 hw k)) (i := io1) (o := io2) (ps := []) (cuts := fun _ => cssrule_plain.cuts w0 k) (m := 0) (g := fun v => cssrule_plain k v) Tryd.func126 (by kernel_rfl) cssrule_plain.hb (fun _ => rfl) (fun _ => Nat.le_of_ble_eq_true rfl) (good_cuts (cssrule_plain.a w0 k) trivial) (cssrule_plain.e w0 k)
theorem ok44 (w0 : World) (hw : Wd w0) (k : Nat) : CfOk (cfg w0 (tab44 k)) := addTab_ok (ok43 w0 hw k) (cssrule_plain.sim w0 hw k)
theorem strings_EqualFold.sim (w0 : World) (hw : Wd w0) (k : Nat) : ∀ v x, (fun v => strings_EqualFold k v.1 v.2) v = some x → Sim (cfg w0 (tab44 k)) 70 (io0.enc v).1 (io0.enc v).2 (io2.enc x).1 (io2.enc x).2 := by
  intro v x h; exact sim_fold (c := cfg w0 (tab44 k)) (ρ := Sh.ren164) Sh.l164 (by kernel_rfl) hw.af h
theorem ok45 (w0 : World) (hw : Wd w0) (k : Nat) : CfOk (cfg w0 (tab45 k)) := addTab_ok (ok44 w0 hw k) (strings_EqualFold.sim w0 hw k)
theorem cssrule_mark.a (w0 : World) (k : Nat) : cutsAt (fun n => (cssrule_mark.cuts w0 k n).isSome) cssrule_mark.body = [] := by kernel_rfl
theorem cssrule_mark.sim (w0 : World) (hw : Wd w0) (k : Nat) : ∀ v x, (fun v => cssrule_mark k v.1 v.2.1 v.2.2.1 v.2.2.2) v = some x → Sim (cfg w0 (tab45 k)) 160 (io9.enc v).1 (io9.enc v).2 (io2.enc x).1 (io2.enc x).2 :=
  sim_of (c := (cfg w0 (tab45 k))) (fine w0 hw _ (ok45 w0 hw k)) (dr w0 hw _ (ok45 w0 hw k)) (i := io9) (o := io2) (ps := []) (cuts := fun _ => cssrule_mark.cuts w0 k) (m := 0) (g := fun v => cssrule_mark k v.1 v.2.1 v.2.2.1 v.2.2.2) Tryd.func160 (by kernel_rfl) cssrule_mark.hb (fun _ => rfl) (fun _ => Nat.le_of_ble_eq_true rfl) (good_cuts (cssrule_mark.a w0 k) trivial) (cssrule_mark.e w0 k)
theorem ok46 (w0 : World) (hw : Wd w0) (k : Nat) : CfOk (cfg w0 (tab46 k)) := addTab_ok (ok45 w0 hw k) (cssrule_mark.sim w0 hw k)
theorem cssrule_important.a (w0 : World) (k : Nat) : cutsAt (fun n => (cssrule_important.cuts w0 k n).isSome) cssrule_important.body = [] := by kernel_rfl
theorem cssrule_important.sim (w0 : World) (hw : Wd w0) (k : Nat) : ∀ v x, (fun v => cssrule_important k v) v = some x → Sim (cfg w0 (tab46 k)) 127 (io37.enc v).1 (io37.enc v).2 (io55.enc x).1 (io55.enc x).2 :=
  sim_of (c := (cfg w0 (tab46 k))) (fine w0 hw _ (ok46 w0 hw k)) (dr w0 hw _ (ok46 w0 hw k)) (i := io37) (o := io55) (ps := []) (cuts := fun _ => cssrule_important.cuts w0 k) (m := 0) (g := fun v => cssrule_important k v) Tryd.func127 (by kernel_rfl) cssrule_important.hb (fun _ => rfl) (fun _ => Nat.le_of_ble_eq_true rfl) (good_cuts (cssrule_important.a w0 k) trivial) (cssrule_important.e w0 k)
theorem ok47 (w0 : World) (hw : Wd w0) (k : Nat) : CfOk (cfg w0 (tab47 k)) := addTab_ok (ok46 w0 hw k) (cssrule_important.sim w0 hw k)
theorem cssrule_fair.a5 (w0 : World) (k : Nat) (r : cssrule_fair.G.R) : cutsAt (fun n => (cssrule_fair.cuts w0 k r n).isSome) cssrule_fair.b5 = [] := by kernel_rfl
theorem cssrule_fair.a (w0 : World) (k : Nat) (r : cssrule_fair.G.R) : cutsAt (fun n => (cssrule_fair.cuts w0 k r n).isSome) cssrule_fair.body = [(5, Code.loop cssrule_fair.b5)] := by kernel_rfl
theorem cssrule_fair.so5 (w0 : World) (hw : Wd w0) (k : Nat) (r : cssrule_fair.G.R) (hr : CfOk (cfg w0 (cssrule_fair.G.tab k r))) : Sound (cfg w0 (cssrule_fair.G.tab k r)) Tryd.f128.ntmps 0 (cssrule_fair.kr w0 k r) (.loop cssrule_fair.b5) (entK (cfg w0 (cssrule_fair.G.tab k r)) 0 [0, 3] [] io41.pat (cssrule_fair.L5 k r k)) :=
  loop_ok (fine w0 hw _ hr) (dr w0 hw _ hr) (good_cuts (cssrule_fair.a5 w0 k r) trivial) io41.ok (xn := cssrule_fair.x5) (L := cssrule_fair.L5 k r) (fun v K => rfl) (cssrule_fair.s5 w0 k r) k
theorem cssrule_fair.simr (w0 : World) (hw : Wd w0) (k : Nat) (r : cssrule_fair.G.R) (hr : CfOk (cfg w0 (cssrule_fair.G.tab k r))) : ∀ v x, (fun v => cssrule_fair.nat k r v) v = some x → Sim (cfg w0 (cssrule_fair.G.tab k r)) 128 (io37.enc v).1 (io37.enc v).2 (io2.enc x).1 (io2.enc x).2 :=
  sim_of (c := (cfg w0 (cssrule_fair.G.tab k r))) (fine w0 hw _ hr) (dr w0 hw _ hr) (i := io37) (o := io2) (ps := []) (cuts := fun _ => cssrule_fair.cuts w0 k r) (m := 0) (g := fun v => cssrule_fair.nat k r v) Tryd.func128 (by kernel_rfl) cssrule_fair.hb (fun _ => rfl) (fun _ => Nat.le_of_ble_eq_true rfl) (good_cuts (cssrule_fair.a w0 k r) ⟨fun f hf => by cases hf; exact cssrule_fair.so5 w0 hw k r hr, trivial⟩) (cssrule_fair.e w0 k r)
theorem cssrule_fair.G.tab_ok (w0 : World) (k : Nat) (r : cssrule_fair.G.R) (h0 : CfOk (cfg w0 (tab47 k))) (h_cssrule_fair : ∀ v x, (fun v => r.cssrule_fair v) v = some x → Sim (cfg w0 (tab47 k)) 128 (io37.enc v).1 (io37.enc v).2 (io2.enc x).1 (io2.enc x).2) : CfOk (cfg w0 (cssrule_fair.G.tab k r)) :=
  addTab_ok (h0) (fun v x h => sim_cf (h_cssrule_fair v x h))
theorem cssrule_fair.z (k : Nat) : ∀ v : List S77, (fun v : List S77 => (cssrule_fair.G.rec k 0).cssrule_fair v) v = none := fun v => rfl
theorem cssrule_fair.u (k n : Nat) : ∀ v : List S77, (fun v : List S77 => (cssrule_fair.G.rec k (n + 1)).cssrule_fair v) v = (fun v : List S77 => cssrule_fair.nat k (cssrule_fair.G.rec k n) v) v := fun v => rfl
theorem cssrule_fair.G.ok (w0 : World) (hw : Wd w0) (k : Nat) : ∀ n, CfOk (cfg w0 (cssrule_fair.G.tab k (cssrule_fair.G.rec k n)))
  | 0 => cssrule_fair.G.tab_ok w0 k _ (ok47 w0 hw k) (fun v x h => by rw [cssrule_fair.z k v] at h; cases h)
  | n + 1 => cssrule_fair.G.tab_ok w0 k _ (ok47 w0 hw k) (fun v x h => sim_cf (cssrule_fair.simr w0 hw k _ (cssrule_fair.G.ok w0 hw k n) v x ((cssrule_fair.u k n v).symm.trans h)))
theorem ok48 (w0 : World) (hw : Wd w0) (k : Nat) : CfOk (cfg w0 (tab48 k)) := cssrule_fair.G.ok w0 hw k k
theorem cssrule_decl.a16 (w0 : World) (k : Nat) : cutsAt (fun n => (cssrule_decl.cuts w0 k n).isSome) cssrule_decl.b16 = [] := by kernel_rfl
theorem cssrule_decl.a (w0 : World) (k : Nat) : cutsAt (fun n => (cssrule_decl.cuts w0 k n).isSome) cssrule_decl.body = [(16, cssrule_decl.b16)] := by kernel_rfl
theorem cssrule_decl.so16 (w0 : World) (hw : Wd w0) (k : Nat) : Sound (cfg w0 (tab48 k)) Tryd.f88.ntmps 0 (cssrule_decl.kr w0 k) cssrule_decl.b16 (entK (cfg w0 (tab48 k)) 0 [0, 2, 4, 5] [] io57.pat (cssrule_decl.L16 k)) :=
  join_ok (fine w0 hw _ (ok48 w0 hw k)) (dr w0 hw _ (ok48 w0 hw k)) (good_cuts (cssrule_decl.a16 w0 k) trivial) io57.ok (xn := cssrule_decl.x16) (L := cssrule_decl.L16 k) (cssrule_decl.s16 w0 k)
theorem cssrule_decl.sim (w0 : World) (hw : Wd w0) (k : Nat) : ∀ v x, (fun v => cssrule_decl k v) v = some x → Sim (cfg w0 (tab48 k)) 88 (io37.enc v).1 (io37.enc v).2 (io56.enc x).1 (io56.enc x).2 :=
  sim_of (c := (cfg w0 (tab48 k))) (fine w0 hw _ (ok48 w0 hw k)) (dr w0 hw _ (ok48 w0 hw k)) (i := io37) (o := io56) (ps := []) (cuts := fun _ => cssrule_decl.cuts w0 k) (m := 0) (g := fun v => cssrule_decl k v) Tryd.func88 (by kernel_rfl) cssrule_decl.hb (fun _ => rfl) (fun _ => Nat.le_of_ble_eq_true rfl) (good_cuts (cssrule_decl.a w0 k) ⟨fun f hf => by cases hf; exact cssrule_decl.so16 w0 hw k, trivial⟩) (cssrule_decl.e w0 k)
theorem ok49 (w0 : World) (hw : Wd w0) (k : Nat) : CfOk (cfg w0 (tab49 k)) := addTab_ok (ok48 w0 hw k) (cssrule_decl.sim w0 hw k)
theorem cssrule_decls.a7 (w0 : World) (k : Nat) : cutsAt (fun n => (cssrule_decls.cuts w0 k n).isSome) cssrule_decls.b7 = [] := by kernel_rfl
theorem cssrule_decls.a (w0 : World) (k : Nat) : cutsAt (fun n => (cssrule_decls.cuts w0 k n).isSome) cssrule_decls.body = [(7, Code.loop cssrule_decls.b7)] := by kernel_rfl
theorem cssrule_decls.so7 (w0 : World) (hw : Wd w0) (k : Nat) : Sound (cfg w0 (tab49 k)) Tryd.f50.ntmps 0 (cssrule_decls.kr w0 k) (.loop cssrule_decls.b7) (entK (cfg w0 (tab49 k)) 0 [0, 3, 4] [.own 3 58] io59.pat (cssrule_decls.L7 k k)) :=
  loop_ok (fine w0 hw _ (ok49 w0 hw k)) (dr w0 hw _ (ok49 w0 hw k)) (good_cuts (cssrule_decls.a7 w0 k) trivial) io59.ok (xn := cssrule_decls.x7) (L := cssrule_decls.L7 k) (fun v K => rfl) (cssrule_decls.s7 w0 k) k
theorem cssrule_decls.sim (w0 : World) (hw : Wd w0) (k : Nat) : ∀ v x, (fun v => cssrule_decls k v) v = some x → Sim (cfg w0 (tab49 k)) 50 (io37.enc v).1 (io37.enc v).2 (io58.enc x).1 (io58.enc x).2 :=
  sim_of (c := (cfg w0 (tab49 k))) (fine w0 hw _ (ok49 w0 hw k)) (dr w0 hw _ (ok49 w0 hw k)) (i := io37) (o := io58) (ps := [.own 0 58]) (cuts := fun _ => cssrule_decls.cuts w0 k) (m := 0) (g := fun v => cssrule_decls k v) Tryd.func50 (by kernel_rfl) cssrule_decls.hb (fun _ => rfl) (fun _ => Nat.le_of_ble_eq_true rfl) (good_cuts (cssrule_decls.a w0 k) ⟨fun f hf => by cases hf; exact cssrule_decls.so7 w0 hw k, trivial⟩) (cssrule_decls.e w0 k)
theorem ok50 (w0 : World) (hw : Wd w0) (k : Nat) : CfOk (cfg w0 (tab50 k)) := addTab_ok (ok49 w0 hw k) (cssrule_decls.sim w0 hw k)
theorem cssrule_rule.a (w0 : World) (k : Nat) (r : cssrule_rules.G.R) : cutsAt (fun n => (cssrule_rule.cuts w0 k r n).isSome) cssrule_rule.body = [] := by kernel_rfl
theorem cssrule_rule.simr (w0 : World) (hw : Wd w0) (k : Nat) (r : cssrule_rules.G.R) (hr : CfOk (cfg w0 (cssrule_rules.G.tab k r))) : ∀ v x, (fun v => cssrule_rule.nat k r v.1 v.2.1 v.2.2) v = some x → Sim (cfg w0 (cssrule_rules.G.tab k r)) 87 (io60.enc v).1 (io60.enc v).2 (io61.enc x).1 (io61.enc x).2 :=
  sim_of (c := (cfg w0 (cssrule_rules.G.tab k r))) (fine w0 hw _ hr) (dr w0 hw _ hr) (i := io60) (o := io61) (ps := [.agg 0 91]) (cuts := fun _ => cssrule_rule.cuts w0 k r) (m := 0) (g := fun v => cssrule_rule.nat k r v.1 v.2.1 v.2.2) Tryd.func87 (by kernel_rfl) cssrule_rule.hb (fun _ => rfl) (fun _ => Nat.le_of_ble_eq_true rfl) (good_cuts (cssrule_rule.a w0 k r) trivial) (cssrule_rule.e w0 k r)
theorem cssrule_rules.a32 (w0 : World) (k : Nat) (r : cssrule_rules.G.R) : cutsAt (fun n => (cssrule_rules.cuts w0 k r n).isSome) cssrule_rules.b32 = [] := by kernel_rfl
theorem cssrule_rules.a38 (w0 : World) (k : Nat) (r : cssrule_rules.G.R) : cutsAt (fun n => (cssrule_rules.cuts w0 k r n).isSome) cssrule_rules.b38 = [] := by kernel_rfl
theorem cssrule_rules.a5 (w0 : World) (k : Nat) (r : cssrule_rules.G.R) : cutsAt (fun n => (cssrule_rules.cuts w0 k r n).isSome) cssrule_rules.b5 = [(32, cssrule_rules.b32), (38, cssrule_rules.b38)] := by kernel_rfl
theorem cssrule_rules.a (w0 : World) (k : Nat) (r : cssrule_rules.G.R) : cutsAt (fun n => (cssrule_rules.cuts w0 k r n).isSome) cssrule_rules.body = [(5, Code.loop cssrule_rules.b5)] := by kernel_rfl
theorem cssrule_rules.so32 (w0 : World) (hw : Wd w0) (k : Nat) (r : cssrule_rules.G.R) (hr : CfOk (cfg w0 (cssrule_rules.G.tab k r))) : Sound (cfg w0 (cssrule_rules.G.tab k r)) Tryd.f48.ntmps 0 (cssrule_rules.kr w0 k r) cssrule_rules.b32 (entK (cfg w0 (cssrule_rules.G.tab k r)) 0 [0, 1, 5, 7, 8, 10] [.own 5 91] io63.pat (cssrule_rules.L32 k r)) :=
  join_ok (fine w0 hw _ hr) (dr w0 hw _ hr) (good_cuts (cssrule_rules.a32 w0 k r) trivial) io63.ok (xn := cssrule_rules.x32) (L := cssrule_rules.L32 k r) (cssrule_rules.s32 w0 k r)
theorem cssrule_rules.so38 (w0 : World) (hw : Wd w0) (k : Nat) (r : cssrule_rules.G.R) (hr : CfOk (cfg w0 (cssrule_rules.G.tab k r))) : Sound (cfg w0 (cssrule_rules.G.tab k r)) Tryd.f48.ntmps 0 (cssrule_rules.kr w0 k r) cssrule_rules.b38 (entK (cfg w0 (cssrule_rules.G.tab k r)) 0 [0, 1, 5, 8] [.own 5 91] io64.pat (cssrule_rules.L38 k r)) :=
  join_ok (fine w0 hw _ hr) (dr w0 hw _ hr) (good_cuts (cssrule_rules.a38 w0 k r) trivial) io64.ok (xn := cssrule_rules.x38) (L := cssrule_rules.L38 k r) (cssrule_rules.s38 w0 k r)
theorem cssrule_rules.so5 (w0 : World) (hw : Wd w0) (k : Nat) (r : cssrule_rules.G.R) (hr : CfOk (cfg w0 (cssrule_rules.G.tab k r))) : Sound (cfg w0 (cssrule_rules.G.tab k r)) Tryd.f48.ntmps 0 (cssrule_rules.kr w0 k r) (.loop cssrule_rules.b5) (entK (cfg w0 (cssrule_rules.G.tab k r)) 0 [0, 1, 5] [.own 5 91] io65.pat (cssrule_rules.L5 k r k)) :=
  loop_ok (fine w0 hw _ hr) (dr w0 hw _ hr) (good_cuts (cssrule_rules.a5 w0 k r) ⟨fun f hf => by cases hf; exact cssrule_rules.so32 w0 hw k r hr, fun f hf => by cases hf; exact cssrule_rules.so38 w0 hw k r hr, trivial⟩) io65.ok (xn := cssrule_rules.x5) (L := cssrule_rules.L5 k r) (fun v K => rfl) (cssrule_rules.s5 w0 k r) k
theorem cssrule_rules.simr (w0 : World) (hw : Wd w0) (k : Nat) (r : cssrule_rules.G.R) (hr : CfOk (cfg w0 (cssrule_rules.G.tab k r))) : ∀ v x, (fun v => cssrule_rules.nat k r v.1 v.2) v = some x → Sim (cfg w0 (cssrule_rules.G.tab k r)) 48 (io41.enc v).1 (io41.enc v).2 (io62.enc x).1 (io62.enc x).2 :=
  sim_of (c := (cfg w0 (cssrule_rules.G.tab k r))) (fine w0 hw _ hr) (dr w0 hw _ hr) (i := io41) (o := io62) (ps := [.own 0 91]) (cuts := fun _ => cssrule_rules.cuts w0 k r) (m := 0) (g := fun v => cssrule_rules.nat k r v.1 v.2) Tryd.func48 (by kernel_rfl) cssrule_rules.hb (fun _ => rfl) (fun _ => Nat.le_of_ble_eq_true rfl) (good_cuts (cssrule_rules.a w0 k r) ⟨fun f hf => by cases hf; exact cssrule_rules.so5 w0 hw k r hr, trivial⟩) (cssrule_rules.e w0 k r)
theorem cssrule_rules.G.tab_ok (w0 : World) (k : Nat) (r : cssrule_rules.G.R) (h0 : CfOk (cfg w0 (tab50 k))) (h_cssrule_rule : ∀ v x, (fun v => r.cssrule_rule v.1 v.2.1 v.2.2) v = some x → Sim (cfg w0 (tab50 k)) 87 (io60.enc v).1 (io60.enc v).2 (io61.enc x).1 (io61.enc x).2) (h_cssrule_rules : ∀ v x, (fun v => r.cssrule_rules v.1 v.2) v = some x → Sim (cfg w0 (tab50 k)) 48 (io41.enc v).1 (io41.enc v).2 (io62.enc x).1 (io62.enc x).2) : CfOk (cfg w0 (cssrule_rules.G.tab k r)) :=
  addTab_ok (addTab_ok (h0) (fun v x h => sim_cf (h_cssrule_rule v x h))) (fun v x h => sim_cf (h_cssrule_rules v x h))
theorem cssrule_rule.z (k : Nat) : ∀ v : (List S77) × (List S77) × Int, (fun v : (List S77) × (List S77) × Int => (cssrule_rules.G.rec k 0).cssrule_rule v.1 v.2.1 v.2.2) v = none := fun v => rfl
theorem cssrule_rule.u (k n : Nat) : ∀ v : (List S77) × (List S77) × Int, (fun v : (List S77) × (List S77) × Int => (cssrule_rules.G.rec k (n + 1)).cssrule_rule v.1 v.2.1 v.2.2) v = (fun v : (List S77) × (List S77) × Int => cssrule_rule.nat k (cssrule_rules.G.rec k n) v.1 v.2.1 v.2.2) v := fun v => rfl
theorem cssrule_rules.z (k : Nat) : ∀ v : (List S77) × Int, (fun v : (List S77) × Int => (cssrule_rules.G.rec k 0).cssrule_rules v.1 v.2) v = none := fun v => rfl
theorem cssrule_rules.u (k n : Nat) : ∀ v : (List S77) × Int, (fun v : (List S77) × Int => (cssrule_rules.G.rec k (n + 1)).cssrule_rules v.1 v.2) v = (fun v : (List S77) × Int => cssrule_rules.nat k (cssrule_rules.G.rec k n) v.1 v.2) v := fun v => rfl
theorem cssrule_rules.G.ok (w0 : World) (hw : Wd w0) (k : Nat) : ∀ n, CfOk (cfg w0 (cssrule_rules.G.tab k (cssrule_rules.G.rec k n)))
  | 0 => cssrule_rules.G.tab_ok w0 k _ (ok50 w0 hw k) (fun v x h => by rw [cssrule_rule.z k v] at h; cases h) (fun v x h => by rw [cssrule_rules.z k v] at h; cases h)
  | n + 1 => cssrule_rules.G.tab_ok w0 k _ (ok50 w0 hw k) (fun v x h => sim_cf (cssrule_rule.simr w0 hw k _ (cssrule_rules.G.ok w0 hw k n) v x ((cssrule_rule.u k n v).symm.trans h))) (fun v x h => sim_cf (cssrule_rules.simr w0 hw k _ (cssrule_rules.G.ok w0 hw k n) v x ((cssrule_rules.u k n v).symm.trans h)))
theorem ok51 (w0 : World) (hw : Wd w0) (k : Nat) : CfOk (cfg w0 (tab51 k)) := cssrule_rules.G.ok w0 hw k k
theorem cssrule_many.a7 (w0 : World) (k : Nat) (r : cssrule_many.G.R) : cutsAt (fun n => (cssrule_many.cuts w0 k r n).isSome) cssrule_many.b7 = [] := by kernel_rfl
theorem cssrule_many.a (w0 : World) (k : Nat) (r : cssrule_many.G.R) : cutsAt (fun n => (cssrule_many.cuts w0 k r n).isSome) cssrule_many.body = [(7, Code.loop cssrule_many.b7)] := by kernel_rfl
theorem cssrule_many.so7 (w0 : World) (hw : Wd w0) (k : Nat) (r : cssrule_many.G.R) (hr : CfOk (cfg w0 (cssrule_many.G.tab k r))) : Sound (cfg w0 (cssrule_many.G.tab k r)) Tryd.f49.ntmps 0 (cssrule_many.kr w0 k r) (.loop cssrule_many.b7) (entK (cfg w0 (cssrule_many.G.tab k r)) 0 [4, 11, 12, 13] [] io67.pat (cssrule_many.L7 k r k)) :=
  loop_ok (fine w0 hw _ hr) (dr w0 hw _ hr) (good_cuts (cssrule_many.a7 w0 k r) trivial) io67.ok (xn := cssrule_many.x7) (L := cssrule_many.L7 k r) (fun v K => rfl) (cssrule_many.s7 w0 k r) k
theorem cssrule_many.simr (w0 : World) (hw : Wd w0) (k : Nat) (r : cssrule_many.G.R) (hr : CfOk (cfg w0 (cssrule_many.G.tab k r))) : ∀ v x, (fun v => cssrule_many.nat k r v) v = some x → Sim (cfg w0 (cssrule_many.G.tab k r)) 49 (io66.enc v).1 (io66.enc v).2 (io42.enc x).1 (io42.enc x).2 :=
  sim_of (c := (cfg w0 (cssrule_many.G.tab k r))) (fine w0 hw _ hr) (dr w0 hw _ hr) (i := io66) (o := io42) (ps := []) (cuts := fun _ => cssrule_many.cuts w0 k r) (m := 0) (g := fun v => cssrule_many.nat k r v) Tryd.func49 (by kernel_rfl) cssrule_many.hb (fun _ => rfl) (fun _ => Nat.le_of_ble_eq_true rfl) (good_cuts (cssrule_many.a w0 k r) ⟨fun f hf => by cases hf; exact cssrule_many.so7 w0 hw k r hr, trivial⟩) (cssrule_many.e w0 k r)
theorem cssrule_many.G.tab_ok (w0 : World) (k : Nat) (r : cssrule_many.G.R) (h0 : CfOk (cfg w0 (tab51 k))) (h_cssrule_many : ∀ v x, (fun v => r.cssrule_many v) v = some x → Sim (cfg w0 (tab51 k)) 49 (io66.enc v).1 (io66.enc v).2 (io42.enc x).1 (io42.enc x).2) : CfOk (cfg w0 (cssrule_many.G.tab k r)) :=
  addTab_ok (h0) (fun v x h => sim_cf (h_cssrule_many v x h))
theorem cssrule_many.z (k : Nat) : ∀ v : List S91, (fun v : List S91 => (cssrule_many.G.rec k 0).cssrule_many v) v = none := fun v => rfl
theorem cssrule_many.u (k n : Nat) : ∀ v : List S91, (fun v : List S91 => (cssrule_many.G.rec k (n + 1)).cssrule_many v) v = (fun v : List S91 => cssrule_many.nat k (cssrule_many.G.rec k n) v) v := fun v => rfl
theorem cssrule_many.G.ok (w0 : World) (hw : Wd w0) (k : Nat) : ∀ n, CfOk (cfg w0 (cssrule_many.G.tab k (cssrule_many.G.rec k n)))
  | 0 => cssrule_many.G.tab_ok w0 k _ (ok51 w0 hw k) (fun v x h => by rw [cssrule_many.z k v] at h; cases h)
  | n + 1 => cssrule_many.G.tab_ok w0 k _ (ok51 w0 hw k) (fun v x h => sim_cf (cssrule_many.simr w0 hw k _ (cssrule_many.G.ok w0 hw k n) v x ((cssrule_many.u k n v).symm.trans h)))
theorem ok52 (w0 : World) (hw : Wd w0) (k : Nat) : CfOk (cfg w0 (tab52 k)) := cssrule_many.G.ok w0 hw k k
theorem cssrule_Parse.a (w0 : World) (k : Nat) : cutsAt (fun n => (cssrule_Parse.cuts w0 k n).isSome) cssrule_Parse.body = [] := by kernel_rfl
theorem cssrule_Parse.sim (w0 : World) (hw : Wd w0) (k : Nat) : ∀ v x, (fun v => cssrule_Parse k v) v = some x → Sim (cfg w0 (tab52 k)) 25 (io1.enc v).1 (io1.enc v).2 (io68.enc x).1 (io68.enc x).2 :=
  sim_of (c := (cfg w0 (tab52 k))) (fine w0 hw _ (ok52 w0 hw k)) (dr w0 hw _ (ok52 w0 hw k)) (i := io1) (o := io68) (ps := [.own 0 91]) (cuts := fun _ => cssrule_Parse.cuts w0 k) (m := 0) (g := fun v => cssrule_Parse k v) Tryd.func25 (by kernel_rfl) cssrule_Parse.hb (fun _ => rfl) (fun _ => Nat.le_of_ble_eq_true rfl) (good_cuts (cssrule_Parse.a w0 k) trivial) (cssrule_Parse.e w0 k)
theorem ok53 (w0 : World) (hw : Wd w0) (k : Nat) : CfOk (cfg w0 (tab53 k)) := addTab_ok (ok52 w0 hw k) (cssrule_Parse.sim w0 hw k)
theorem clerestorykeep2_sameDecls.a9 (w0 : World) (k : Nat) : cutsAt (fun n => (clerestorykeep2_sameDecls.cuts w0 k n).isSome) clerestorykeep2_sameDecls.b9 = [] := by kernel_rfl
theorem clerestorykeep2_sameDecls.a (w0 : World) (k : Nat) : cutsAt (fun n => (clerestorykeep2_sameDecls.cuts w0 k n).isSome) clerestorykeep2_sameDecls.body = [(9, Code.loop clerestorykeep2_sameDecls.b9)] := by kernel_rfl
theorem clerestorykeep2_sameDecls.so9 (w0 : World) (hw : Wd w0) (k : Nat) : Sound (cfg w0 (tab53 k)) Tryd.f28.ntmps 0 (clerestorykeep2_sameDecls.kr w0 k) (.loop clerestorykeep2_sameDecls.b9) (entK (cfg w0 (tab53 k)) 0 [0, 1, 5] [] io70.pat (clerestorykeep2_sameDecls.L9 k k)) :=
  loop_ok (fine w0 hw _ (ok53 w0 hw k)) (dr w0 hw _ (ok53 w0 hw k)) (good_cuts (clerestorykeep2_sameDecls.a9 w0 k) trivial) io70.ok (xn := clerestorykeep2_sameDecls.x9) (L := clerestorykeep2_sameDecls.L9 k) (fun v K => rfl) (clerestorykeep2_sameDecls.s9 w0 k) k
theorem clerestorykeep2_sameDecls.sim (w0 : World) (hw : Wd w0) (k : Nat) : ∀ v x, (fun v => clerestorykeep2_sameDecls k v.1 v.2) v = some x → Sim (cfg w0 (tab53 k)) 28 (io69.enc v).1 (io69.enc v).2 (io2.enc x).1 (io2.enc x).2 :=
  sim_of (c := (cfg w0 (tab53 k))) (fine w0 hw _ (ok53 w0 hw k)) (dr w0 hw _ (ok53 w0 hw k)) (i := io69) (o := io2) (ps := []) (cuts := fun _ => clerestorykeep2_sameDecls.cuts w0 k) (m := 0) (g := fun v => clerestorykeep2_sameDecls k v.1 v.2) Tryd.func28 (by kernel_rfl) clerestorykeep2_sameDecls.hb (fun _ => rfl) (fun _ => Nat.le_of_ble_eq_true rfl) (good_cuts (clerestorykeep2_sameDecls.a w0 k) ⟨fun f hf => by cases hf; exact clerestorykeep2_sameDecls.so9 w0 hw k, trivial⟩) (clerestorykeep2_sameDecls.e w0 k)
theorem ok54 (w0 : World) (hw : Wd w0) (k : Nat) : CfOk (cfg w0 (tab54 k)) := addTab_ok (ok53 w0 hw k) (clerestorykeep2_sameDecls.sim w0 hw k)
theorem clerestorykeep2_sameRules.a9 (w0 : World) (k : Nat) (r : clerestorykeep2_sameRules.G.R) : cutsAt (fun n => (clerestorykeep2_sameRules.cuts w0 k r n).isSome) clerestorykeep2_sameRules.b9 = [] := by kernel_rfl
theorem clerestorykeep2_sameRules.a (w0 : World) (k : Nat) (r : clerestorykeep2_sameRules.G.R) : cutsAt (fun n => (clerestorykeep2_sameRules.cuts w0 k r n).isSome) clerestorykeep2_sameRules.body = [(9, Code.loop clerestorykeep2_sameRules.b9)] := by kernel_rfl
theorem clerestorykeep2_sameRules.so9 (w0 : World) (hw : Wd w0) (k : Nat) (r : clerestorykeep2_sameRules.G.R) (hr : CfOk (cfg w0 (clerestorykeep2_sameRules.G.tab k r))) : Sound (cfg w0 (clerestorykeep2_sameRules.G.tab k r)) Tryd.f47.ntmps 0 (clerestorykeep2_sameRules.kr w0 k r) (.loop clerestorykeep2_sameRules.b9) (entK (cfg w0 (clerestorykeep2_sameRules.G.tab k r)) 0 [0, 1, 5] [] io72.pat (clerestorykeep2_sameRules.L9 k r k)) :=
  loop_ok (fine w0 hw _ hr) (dr w0 hw _ hr) (good_cuts (clerestorykeep2_sameRules.a9 w0 k r) trivial) io72.ok (xn := clerestorykeep2_sameRules.x9) (L := clerestorykeep2_sameRules.L9 k r) (fun v K => rfl) (clerestorykeep2_sameRules.s9 w0 k r) k
theorem clerestorykeep2_sameRules.simr (w0 : World) (hw : Wd w0) (k : Nat) (r : clerestorykeep2_sameRules.G.R) (hr : CfOk (cfg w0 (clerestorykeep2_sameRules.G.tab k r))) : ∀ v x, (fun v => clerestorykeep2_sameRules.nat k r v.1 v.2) v = some x → Sim (cfg w0 (clerestorykeep2_sameRules.G.tab k r)) 47 (io71.enc v).1 (io71.enc v).2 (io2.enc x).1 (io2.enc x).2 :=
  sim_of (c := (cfg w0 (clerestorykeep2_sameRules.G.tab k r))) (fine w0 hw _ hr) (dr w0 hw _ hr) (i := io71) (o := io2) (ps := []) (cuts := fun _ => clerestorykeep2_sameRules.cuts w0 k r) (m := 0) (g := fun v => clerestorykeep2_sameRules.nat k r v.1 v.2) Tryd.func47 (by kernel_rfl) clerestorykeep2_sameRules.hb (fun _ => rfl) (fun _ => Nat.le_of_ble_eq_true rfl) (good_cuts (clerestorykeep2_sameRules.a w0 k r) ⟨fun f hf => by cases hf; exact clerestorykeep2_sameRules.so9 w0 hw k r hr, trivial⟩) (clerestorykeep2_sameRules.e w0 k r)
theorem clerestorykeep2_sameRules.G.tab_ok (w0 : World) (k : Nat) (r : clerestorykeep2_sameRules.G.R) (h0 : CfOk (cfg w0 (tab54 k))) (h_clerestorykeep2_sameRules : ∀ v x, (fun v => r.clerestorykeep2_sameRules v.1 v.2) v = some x → Sim (cfg w0 (tab54 k)) 47 (io71.enc v).1 (io71.enc v).2 (io2.enc x).1 (io2.enc x).2) : CfOk (cfg w0 (clerestorykeep2_sameRules.G.tab k r)) :=
  addTab_ok (h0) (fun v x h => sim_cf (h_clerestorykeep2_sameRules v x h))
theorem clerestorykeep2_sameRules.z (k : Nat) : ∀ v : (List S91) × (List S91), (fun v : (List S91) × (List S91) => (clerestorykeep2_sameRules.G.rec k 0).clerestorykeep2_sameRules v.1 v.2) v = none := fun v => rfl
theorem clerestorykeep2_sameRules.u (k n : Nat) : ∀ v : (List S91) × (List S91), (fun v : (List S91) × (List S91) => (clerestorykeep2_sameRules.G.rec k (n + 1)).clerestorykeep2_sameRules v.1 v.2) v = (fun v : (List S91) × (List S91) => clerestorykeep2_sameRules.nat k (clerestorykeep2_sameRules.G.rec k n) v.1 v.2) v := fun v => rfl
theorem clerestorykeep2_sameRules.G.ok (w0 : World) (hw : Wd w0) (k : Nat) : ∀ n, CfOk (cfg w0 (clerestorykeep2_sameRules.G.tab k (clerestorykeep2_sameRules.G.rec k n)))
  | 0 => clerestorykeep2_sameRules.G.tab_ok w0 k _ (ok54 w0 hw k) (fun v x h => by rw [clerestorykeep2_sameRules.z k v] at h; cases h)
  | n + 1 => clerestorykeep2_sameRules.G.tab_ok w0 k _ (ok54 w0 hw k) (fun v x h => sim_cf (clerestorykeep2_sameRules.simr w0 hw k _ (clerestorykeep2_sameRules.G.ok w0 hw k n) v x ((clerestorykeep2_sameRules.u k n v).symm.trans h)))
theorem ok55 (w0 : World) (hw : Wd w0) (k : Nat) : CfOk (cfg w0 (tab55 k)) := clerestorykeep2_sameRules.G.ok w0 hw k k
theorem clerestorykeep2_ruleFact.a (w0 : World) (k : Nat) : cutsAt (fun n => (clerestorykeep2_ruleFact.cuts w0 k n).isSome) clerestorykeep2_ruleFact.body = [] := by kernel_rfl
theorem clerestorykeep2_ruleFact.sim (w0 : World) (hw : Wd w0) (k : Nat) : ∀ v x, (fun v => clerestorykeep2_ruleFact k ) v = some x → Sim (cfg w0 (tab55 k)) 24 (io48.enc v).1 (io48.enc v).2 (io2.enc x).1 (io2.enc x).2 :=
  sim_of (c := (cfg w0 (tab55 k))) (fine w0 hw _ (ok55 w0 hw k)) (dr w0 hw _ (ok55 w0 hw k)) (i := io48) (o := io2) (ps := []) (cuts := fun _ => clerestorykeep2_ruleFact.cuts w0 k) (m := 0) (g := fun v => clerestorykeep2_ruleFact k ) Tryd.func24 (by kernel_rfl) clerestorykeep2_ruleFact.hb (fun _ => rfl) (fun _ => Nat.le_of_ble_eq_true rfl) (good_cuts (clerestorykeep2_ruleFact.a w0 k) trivial) (clerestorykeep2_ruleFact.e w0 k)
theorem ok56 (w0 : World) (hw : Wd w0) (k : Nat) : CfOk (cfg w0 (tab56 k)) := addTab_ok (ok55 w0 hw k) (clerestorykeep2_ruleFact.sim w0 hw k)
theorem clerestorykeep2_RuleLarge.a13 (w0 : World) (k : Nat) : cutsAt (fun n => (clerestorykeep2_RuleLarge.cuts w0 k n).isSome) clerestorykeep2_RuleLarge.b13 = [] := by kernel_rfl
theorem clerestorykeep2_RuleLarge.a21 (w0 : World) (k : Nat) : cutsAt (fun n => (clerestorykeep2_RuleLarge.cuts w0 k n).isSome) clerestorykeep2_RuleLarge.b21 = [] := by kernel_rfl
theorem clerestorykeep2_RuleLarge.a (w0 : World) (k : Nat) : cutsAt (fun n => (clerestorykeep2_RuleLarge.cuts w0 k n).isSome) clerestorykeep2_RuleLarge.body = [(13, Code.loop clerestorykeep2_RuleLarge.b13), (21, Code.loop clerestorykeep2_RuleLarge.b21)] := by kernel_rfl
theorem clerestorykeep2_RuleLarge.so13 (w0 : World) (hw : Wd w0) (k : Nat) : Sound (cfg w0 (tab56 k)) Tryd.f8.ntmps 0 (clerestorykeep2_RuleLarge.kr w0 k) (.loop clerestorykeep2_RuleLarge.b13) (entK (cfg w0 (tab56 k)) 0 [5, 6, 7, 8, 9] [] io73.pat (clerestorykeep2_RuleLarge.L13 k k)) :=
  loop_ok (fine w0 hw _ (ok56 w0 hw k)) (dr w0 hw _ (ok56 w0 hw k)) (good_cuts (clerestorykeep2_RuleLarge.a13 w0 k) trivial) io73.ok (xn := clerestorykeep2_RuleLarge.x13) (L := clerestorykeep2_RuleLarge.L13 k) (fun v K => rfl) (clerestorykeep2_RuleLarge.s13 w0 k) k
theorem clerestorykeep2_RuleLarge.so21 (w0 : World) (hw : Wd w0) (k : Nat) : Sound (cfg w0 (tab56 k)) Tryd.f8.ntmps 0 (clerestorykeep2_RuleLarge.kr w0 k) (.loop clerestorykeep2_RuleLarge.b21) (entK (cfg w0 (tab56 k)) 0 [5, 6, 7, 8, 10] [] io73.pat (clerestorykeep2_RuleLarge.L21 k k)) :=
  loop_ok (fine w0 hw _ (ok56 w0 hw k)) (dr w0 hw _ (ok56 w0 hw k)) (good_cuts (clerestorykeep2_RuleLarge.a21 w0 k) trivial) io73.ok (xn := clerestorykeep2_RuleLarge.x21) (L := clerestorykeep2_RuleLarge.L21 k) (fun v K => rfl) (clerestorykeep2_RuleLarge.s21 w0 k) k
theorem clerestorykeep2_RuleLarge.sim (w0 : World) (hw : Wd w0) (k : Nat) : ∀ v x, (fun v => clerestorykeep2_RuleLarge k v.1 v.2) v = some x → Sim (cfg w0 (tab56 k)) 8 (io19.enc v).1 (io19.enc v).2 (io2.enc x).1 (io2.enc x).2 :=
  sim_of (c := (cfg w0 (tab56 k))) (fine w0 hw _ (ok56 w0 hw k)) (dr w0 hw _ (ok56 w0 hw k)) (i := io19) (o := io2) (ps := []) (cuts := fun _ => clerestorykeep2_RuleLarge.cuts w0 k) (m := 0) (g := fun v => clerestorykeep2_RuleLarge k v.1 v.2) Tryd.func8 (by kernel_rfl) clerestorykeep2_RuleLarge.hb (fun _ => rfl) (fun _ => Nat.le_of_ble_eq_true rfl) (good_cuts (clerestorykeep2_RuleLarge.a w0 k) ⟨fun f hf => by cases hf; exact clerestorykeep2_RuleLarge.so13 w0 hw k, fun f hf => by cases hf; exact clerestorykeep2_RuleLarge.so21 w0 hw k, trivial⟩) (clerestorykeep2_RuleLarge.e w0 k)
theorem ok57 (w0 : World) (hw : Wd w0) (k : Nat) : CfOk (cfg w0 (tab57 k)) := addTab_ok (ok56 w0 hw k) (clerestorykeep2_RuleLarge.sim w0 hw k)
theorem cssrule_Decls.a (w0 : World) (k : Nat) : cutsAt (fun n => (cssrule_Decls.cuts w0 k n).isSome) cssrule_Decls.body = [] := by kernel_rfl
theorem cssrule_Decls.sim (w0 : World) (hw : Wd w0) (k : Nat) : ∀ v x, (fun v => cssrule_Decls k v) v = some x → Sim (cfg w0 (tab57 k)) 26 (io1.enc v).1 (io1.enc v).2 (io76.enc x).1 (io76.enc x).2 :=
  sim_of (c := (cfg w0 (tab57 k))) (fine w0 hw _ (ok57 w0 hw k)) (dr w0 hw _ (ok57 w0 hw k)) (i := io1) (o := io76) (ps := [.own 0 58]) (cuts := fun _ => cssrule_Decls.cuts w0 k) (m := 0) (g := fun v => cssrule_Decls k v) Tryd.func26 (by kernel_rfl) cssrule_Decls.hb (fun _ => rfl) (fun _ => Nat.le_of_ble_eq_true rfl) (good_cuts (cssrule_Decls.a w0 k) trivial) (cssrule_Decls.e w0 k)
theorem ok58 (w0 : World) (hw : Wd w0) (k : Nat) : CfOk (cfg w0 (tab58 k)) := addTab_ok (ok57 w0 hw k) (cssrule_Decls.sim w0 hw k)
theorem clerestorykeep2_declText.a7 (w0 : World) (k : Nat) : cutsAt (fun n => (clerestorykeep2_declText.cuts w0 k n).isSome) clerestorykeep2_declText.b7 = [] := by kernel_rfl
theorem clerestorykeep2_declText.a (w0 : World) (k : Nat) : cutsAt (fun n => (clerestorykeep2_declText.cuts w0 k n).isSome) clerestorykeep2_declText.body = [(7, Code.loop clerestorykeep2_declText.b7)] := by kernel_rfl
theorem clerestorykeep2_declText.so7 (w0 : World) (hw : Wd w0) (k : Nat) : Sound (cfg w0 (tab58 k)) Tryd.f27.ntmps 0 (clerestorykeep2_declText.kr w0 k) (.loop clerestorykeep2_declText.b7) (entK (cfg w0 (tab58 k)) 0 [0, 3, 4] [] io78.pat (clerestorykeep2_declText.L7 k k)) :=
  loop_ok (fine w0 hw _ (ok58 w0 hw k)) (dr w0 hw _ (ok58 w0 hw k)) (good_cuts (clerestorykeep2_declText.a7 w0 k) trivial) io78.ok (xn := clerestorykeep2_declText.x7) (L := clerestorykeep2_declText.L7 k) (fun v K => rfl) (clerestorykeep2_declText.s7 w0 k) k
theorem clerestorykeep2_declText.sim (w0 : World) (hw : Wd w0) (k : Nat) : ∀ v x, (fun v => clerestorykeep2_declText k v) v = some x → Sim (cfg w0 (tab58 k)) 27 (io77.enc v).1 (io77.enc v).2 (io1.enc x).1 (io1.enc x).2 :=
  sim_of (c := (cfg w0 (tab58 k))) (fine w0 hw _ (ok58 w0 hw k)) (dr w0 hw _ (ok58 w0 hw k)) (i := io77) (o := io1) (ps := []) (cuts := fun _ => clerestorykeep2_declText.cuts w0 k) (m := 0) (g := fun v => clerestorykeep2_declText k v) Tryd.func27 (by kernel_rfl) clerestorykeep2_declText.hb (fun _ => rfl) (fun _ => Nat.le_of_ble_eq_true rfl) (good_cuts (clerestorykeep2_declText.a w0 k) ⟨fun f hf => by cases hf; exact clerestorykeep2_declText.so7 w0 hw k, trivial⟩) (clerestorykeep2_declText.e w0 k)
theorem ok59 (w0 : World) (hw : Wd w0) (k : Nat) : CfOk (cfg w0 (tab59 k)) := addTab_ok (ok58 w0 hw k) (clerestorykeep2_declText.sim w0 hw k)
theorem clerestorykeep2_DeclSpoils.a (w0 : World) (k : Nat) : cutsAt (fun n => (clerestorykeep2_DeclSpoils.cuts w0 k n).isSome) clerestorykeep2_DeclSpoils.body = [] := by kernel_rfl
theorem clerestorykeep2_DeclSpoils.sim (w0 : World) (hw : Wd w0) (k : Nat) : ∀ v x, (fun v => clerestorykeep2_DeclSpoils k v.1 v.2.1 v.2.2) v = some x → Sim (cfg w0 (tab59 k)) 9 (io79.enc v).1 (io79.enc v).2 (io2.enc x).1 (io2.enc x).2 :=
  sim_of (c := (cfg w0 (tab59 k))) (fine w0 hw _ (ok59 w0 hw k)) (dr w0 hw _ (ok59 w0 hw k)) (i := io79) (o := io2) (ps := []) (cuts := fun _ => clerestorykeep2_DeclSpoils.cuts w0 k) (m := 0) (g := fun v => clerestorykeep2_DeclSpoils k v.1 v.2.1 v.2.2) Tryd.func9 (by kernel_rfl) clerestorykeep2_DeclSpoils.hb (fun _ => rfl) (fun _ => Nat.le_of_ble_eq_true rfl) (good_cuts (clerestorykeep2_DeclSpoils.a w0 k) trivial) (clerestorykeep2_DeclSpoils.e w0 k)
theorem ok60 (w0 : World) (hw : Wd w0) (k : Nat) : CfOk (cfg w0 (tab60 k)) := addTab_ok (ok59 w0 hw k) (clerestorykeep2_DeclSpoils.sim w0 hw k)
theorem clerestorykeep2_DeclImportant.a (w0 : World) (k : Nat) : cutsAt (fun n => (clerestorykeep2_DeclImportant.cuts w0 k n).isSome) clerestorykeep2_DeclImportant.body = [] := by kernel_rfl
theorem clerestorykeep2_DeclImportant.sim (w0 : World) (hw : Wd w0) (k : Nat) : ∀ v x, (fun v => clerestorykeep2_DeclImportant k v.1 v.2) v = some x → Sim (cfg w0 (tab60 k)) 10 (io13.enc v).1 (io13.enc v).2 (io2.enc x).1 (io2.enc x).2 :=
  sim_of (c := (cfg w0 (tab60 k))) (fine w0 hw _ (ok60 w0 hw k)) (dr w0 hw _ (ok60 w0 hw k)) (i := io13) (o := io2) (ps := []) (cuts := fun _ => clerestorykeep2_DeclImportant.cuts w0 k) (m := 0) (g := fun v => clerestorykeep2_DeclImportant k v.1 v.2) Tryd.func10 (by kernel_rfl) clerestorykeep2_DeclImportant.hb (fun _ => rfl) (fun _ => Nat.le_of_ble_eq_true rfl) (good_cuts (clerestorykeep2_DeclImportant.a w0 k) trivial) (clerestorykeep2_DeclImportant.e w0 k)
theorem ok61 (w0 : World) (hw : Wd w0) (k : Nat) : CfOk (cfg w0 (tab61 k)) := addTab_ok (ok60 w0 hw k) (clerestorykeep2_DeclImportant.sim w0 hw k)
theorem strings_Count.sim (w0 : World) (hw : Wd w0) (k : Nat) : ∀ v x, (fun v => strings_Count k v.1 v.2) v = some x → Sim (cfg w0 (tab61 k)) 29 (io0.enc v).1 (io0.enc v).2 (io4.enc x).1 (io4.enc x).2 := by
  intro v x h; exact sim_cnt (c := cfg w0 (tab61 k)) (ρ := Sh.ren138) Sh.l138 h
theorem ok62 (w0 : World) (hw : Wd w0) (k : Nat) : CfOk (cfg w0 (tab62 k)) := addTab_ok (ok61 w0 hw k) (strings_Count.sim w0 hw k)
theorem clerestorykeep2_DeclShown.a (w0 : World) (k : Nat) : cutsAt (fun n => (clerestorykeep2_DeclShown.cuts w0 k n).isSome) clerestorykeep2_DeclShown.body = [] := by kernel_rfl
theorem clerestorykeep2_DeclShown.sim (w0 : World) (hw : Wd w0) (k : Nat) : ∀ v x, (fun v => clerestorykeep2_DeclShown k v) v = some x → Sim (cfg w0 (tab62 k)) 11 (io1.enc v).1 (io1.enc v).2 (io2.enc x).1 (io2.enc x).2 :=
  sim_of (c := (cfg w0 (tab62 k))) (fine w0 hw _ (ok62 w0 hw k)) (dr w0 hw _ (ok62 w0 hw k)) (i := io1) (o := io2) (ps := []) (cuts := fun _ => clerestorykeep2_DeclShown.cuts w0 k) (m := 0) (g := fun v => clerestorykeep2_DeclShown k v) Tryd.func11 (by kernel_rfl) clerestorykeep2_DeclShown.hb (fun _ => rfl) (fun _ => Nat.le_of_ble_eq_true rfl) (good_cuts (clerestorykeep2_DeclShown.a w0 k) trivial) (clerestorykeep2_DeclShown.e w0 k)
theorem ok63 (w0 : World) (hw : Wd w0) (k : Nat) : CfOk (cfg w0 (tab63 k)) := addTab_ok (ok62 w0 hw k) (clerestorykeep2_DeclShown.sim w0 hw k)
end
end Go.Ev.Ru
