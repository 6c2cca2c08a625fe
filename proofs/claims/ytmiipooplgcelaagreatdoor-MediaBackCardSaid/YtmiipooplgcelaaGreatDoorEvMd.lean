/- A part of the evaluator of Go code over small heaps and of its proof: no condition beyond those that each theorem names. -/
import Derived.Test.YtmiipooplgcelaaGreatDoorEvDfr
import Derived.Test.YtmiipooplgcelaaGreatDoorEvShX
import Derived.Test.YtmiipooplgcelaaGreatDoorProg
import Derived.KernelRfl
set_option linter.unusedVariables false
set_option maxRecDepth 100000
namespace Go.Ev.Md
noncomputable section
open Go.Proofs Go.Ev

structure S38 where
  Kind : Int
  Num : Int
def S38.d : S38 := ⟨0, 0⟩
structure S36 where
  Not : Bool
  Features : List S38
def S36.d : S36 := ⟨false, []⟩
structure S55 where
  Kind : Int
  Raw : List UInt8
  Value : List UInt8
  Num : Int
def S55.d : S55 := ⟨0, [], [], 0⟩
def base : TypeId → (α : Type) × α
  | 5 => ⟨Int, (0 : Int)⟩
  | 9 => ⟨List UInt8, []⟩
  | 38 => ⟨S38, S38.d⟩
  | 36 => ⟨S36, S36.d⟩
  | 55 => ⟨S55, S55.d⟩
  | 43 => ⟨List S55, []⟩
  | _ => ⟨Unit, ()⟩
def T (t : TypeId) : Type := (base t).1
def dflt (t : TypeId) : T t := (base t).2
def dl (t : TypeId) : D T → Option (List (T t))
  | .l t' xs => asT t t' xs
  | .ns => some []
  | _ => none
theorem dl_le {t : TypeId} {d : D T} {l : List (T t)} (h : dl t d = some l) : leD d (.l t l) := by
  unfold dl at h
  split at h
  · rw [asT_l h]; exact .refl _
  · cases h; exact .ns _
  · cases h
def enc5 (x : Int) : List (D T) := [.i .u8 x]
def dec5 (ds : List (D T)) : Option (Int) := match ds with
  | [.i .u8 x0] => some x0
  | _ => none
theorem dec5_ok {ds : List (D T)} {x : Int} (h : dec5 ds = some x) : leDs ds (enc5 x) := by
  unfold dec5 at h
  split at h
  · cases h
    exact .cons (.refl _) <| .nil
  · cases h
def enc9 (x : List UInt8) : List (D T) := [.s x]
def dec9 (ds : List (D T)) : Option (List UInt8) := match ds with
  | [.s x0] => some x0
  | _ => none
theorem dec9_ok {ds : List (D T)} {x : List UInt8} (h : dec9 ds = some x) : leDs ds (enc9 x) := by
  unfold dec9 at h
  split at h
  · cases h
    exact .cons (.refl _) <| .nil
  · cases h
def enc38 (x : S38) : List (D T) := [.i .i64 x.Kind, .i .i64 x.Num]
def dec38 (ds : List (D T)) : Option (S38) := match ds with
  | [.i .i64 x0, .i .i64 x1] => some ⟨x0, x1⟩
  | _ => none
theorem dec38_ok {ds : List (D T)} {x : S38} (h : dec38 ds = some x) : leDs ds (enc38 x) := by
  unfold dec38 at h
  split at h
  · cases h
    exact .cons (.refl _) <| .cons (.refl _) <| .nil
  · cases h
def enc36 (x : S36) : List (D T) := [.b x.Not, .l 38 x.Features]
def dec36 (ds : List (D T)) : Option (S36) := match ds with
  | [.b x0, d1] => (dl 38 d1).bind fun l1 => some ⟨x0, l1⟩
  | _ => none
theorem dec36_ok {ds : List (D T)} {x : S36} (h : dec36 ds = some x) : leDs ds (enc36 x) := by
  unfold dec36 at h
  split at h
  · obtain ⟨l1, h1, h⟩ := Option.bind_eq_some_iff.1 h
    cases h
    exact .cons (.refl _) <| .cons (dl_le h1) <| .nil
  · cases h
def enc55 (x : S55) : List (D T) := [.i .i64 x.Kind, .s x.Raw, .s x.Value, .i .i64 x.Num]
def dec55 (ds : List (D T)) : Option (S55) := match ds with
  | [.i .i64 x0, .s x1, .s x2, .i .i64 x3] => some ⟨x0, x1, x2, x3⟩
  | _ => none
theorem dec55_ok {ds : List (D T)} {x : S55} (h : dec55 ds = some x) : leDs ds (enc55 x) := by
  unfold dec55 at h
  split at h
  · cases h
    exact .cons (.refl _) <| .cons (.refl _) <| .cons (.refl _) <| .cons (.refl _) <| .nil
  · cases h
def enc43 (x : List S55) : List (D T) := [.l 55 x]
def dec43 (ds : List (D T)) : Option (List S55) := match ds with
  | [d0] => (dl 55 d0).bind fun l0 => some l0
  | _ => none
theorem dec43_ok {ds : List (D T)} {x : List S55} (h : dec43 ds = some x) : leDs ds (enc43 x) := by
  unfold dec43 at h
  split at h
  · obtain ⟨l0, h0, h⟩ := Option.bind_eq_some_iff.1 h
    cases h
    exact .cons (dl_le h0) <| .nil
  · cases h
def enc : (t : TypeId) → T t → List (D T)
  | 5, x => enc5 x
  | 9, x => enc9 x
  | 38, x => enc38 x
  | 36, x => enc36 x
  | 55, x => enc55 x
  | 43, x => enc43 x
  | _, _ => []
def dec (t : TypeId) (ds : List (D T)) : Option (T t) := if h : t = 5 then (h ▸ (dec5 ds : Option (T 5))) else if h : t = 9 then (h ▸ (dec9 ds : Option (T 9))) else if h : t = 38 then (h ▸ (dec38 ds : Option (T 38))) else if h : t = 36 then (h ▸ (dec36 ds : Option (T 36))) else if h : t = 55 then (h ▸ (dec55 ds : Option (T 55))) else if h : t = 43 then (h ▸ (dec43 ds : Option (T 43))) else none
theorem dec_ok (t : TypeId) (ds : List (D T)) (x : T t) (h : dec t ds = some x) : leDs ds (enc t x) := by
  unfold dec at h
  by_cases h5 : t = 5
  · subst h5; exact dec5_ok (show dec5 ds = some x from h)
  rw [dif_neg h5] at h
  by_cases h9 : t = 9
  · subst h9; exact dec9_ok (show dec9 ds = some x from h)
  rw [dif_neg h9] at h
  by_cases h38 : t = 38
  · subst h38; exact dec38_ok (show dec38 ds = some x from h)
  rw [dif_neg h38] at h
  by_cases h36 : t = 36
  · subst h36; exact dec36_ok (show dec36 ds = some x from h)
  rw [dif_neg h36] at h
  by_cases h55 : t = 55
  · subst h55; exact dec55_ok (show dec55 ds = some x from h)
  rw [dif_neg h55] at h
  by_cases h43 : t = 43
  · subst h43; exact dec43_ok (show dec43 ds = some x from h)
  rw [dif_neg h43] at h
  cases h
def knl : List TypeId := [5, 9, 38, 36, 55, 43]

def ofB : (t : TypeId) → List UInt8 → List (T t)
  | 5, l => bytesI l
  | _, _ => []
def toB : (t : TypeId) → List (T t) → List UInt8
  | 5, l => bytesU l
  | _, _ => []
def cod : Cod T := ⟨fun t => knl.any (·.beq t), enc, dec, dflt, ofB, toB⟩
def g0_0 : List UInt8 := ([] : List UInt8)
def g0_1 : List UInt8 := ([97, 108, 108] : List UInt8)
def g0_2 : List UInt8 := ([115, 99, 114, 101, 101, 110] : List UInt8)
def g0_3 : List UInt8 := ([112, 114, 105, 110, 116] : List UInt8)
def g0_4 : List UInt8 := ([109, 105, 110, 45, 119, 105, 100, 116, 104] : List UInt8)
def g0_5 : List UInt8 := ([109, 97, 120, 45, 119, 105, 100, 116, 104] : List UInt8)
def g0_6 : List UInt8 := ([109, 105, 110, 45, 104, 101, 105, 103, 104, 116] : List UInt8)
def g0_7 : List UInt8 := ([109, 97, 120, 45, 104, 101, 105, 103, 104, 116] : List UInt8)
def g0_8 : List UInt8 := ([112, 114, 101, 102, 101, 114, 115, 45, 99, 111, 108, 111, 114, 45, 115, 99, 104, 101, 109, 101, 58, 100, 97, 114, 107] : List UInt8)
def g0_9 : List UInt8 := ([112, 114, 101, 102, 101, 114, 115, 45, 99, 111, 108, 111, 114, 45, 115, 99, 104, 101, 109, 101, 58, 108, 105, 103, 104, 116] : List UInt8)
def g0_10 : List UInt8 := ([111, 114, 105, 101, 110, 116, 97, 116, 105, 111, 110, 58, 112, 111, 114, 116, 114, 97, 105, 116] : List UInt8)
def g0_11 : List UInt8 := ([111, 114, 105, 101, 110, 116, 97, 116, 105, 111, 110, 58, 108, 97, 110, 100, 115, 99, 97, 112, 101] : List UInt8)
def gv : Nat → Option (List (D T))
  | 0 => some [.s g0_0, .s g0_1, .s g0_2, .s g0_3, .s g0_4, .s g0_5, .s g0_6, .s g0_7, .s g0_8, .s g0_9, .s g0_10, .s g0_11]
  | _ => none
def eql : List TypeId := [38]
def hdl : List FuncId := []
def cfg (w0 : World) (t : Tab T) : Cfg T := ⟨Tryz.prog, cod, t, fun t => eql.any (·.beq t), w0, gv, 67, 5, fun f => hdl.any (·.beq f)⟩
/-- What is asked of the first world. -/
structure Wd (w0 : World) : Prop where
  gv : GvOk (cfg w0 noTab)
  mx : NumAt w0 (Sh.ren143.g 1)
  pw : Lib.TabIs Tryz.prog w0 "internal/strconv.uint64pow10" .u64 Lib.pow10Tab
  es : IfAt w0 (Sh.ren172.g 15)
  er : IfAt w0 (Sh.ren172.g 16)

theorem mem_of {l : List TypeId} {t : TypeId} (h : l.any (·.beq t) = true) : t ∈ l := by
  rw [List.any_eq_true] at h
  obtain ⟨x, hx, hb⟩ := h
  rw [← Nat.eq_of_beq_eq_true hb]; exact hx
theorem len5 : 1 = Tryz.prog.cellsOf 5 := by kernel_rfl
theorem len9 : 1 = Tryz.prog.cellsOf 9 := by kernel_rfl
theorem u8_9 : isU8 Tryz.prog 9 = false := by kernel_rfl
theorem len38 : 2 = Tryz.prog.cellsOf 38 := by kernel_rfl
theorem u8_38 : isU8 Tryz.prog 38 = false := by kernel_rfl
theorem len36 : 2 = Tryz.prog.cellsOf 36 := by kernel_rfl
theorem u8_36 : isU8 Tryz.prog 36 = false := by kernel_rfl
theorem fl36 : flatT Tryz.prog 20 36 = false := by kernel_rfl
theorem len55 : 4 = Tryz.prog.cellsOf 55 := by kernel_rfl
theorem u8_55 : isU8 Tryz.prog 55 = false := by kernel_rfl
theorem len43 : 1 = Tryz.prog.cellsOf 43 := by kernel_rfl
theorem u8_43 : isU8 Tryz.prog 43 = false := by kernel_rfl
theorem fl43 : flatT Tryz.prog 20 43 = false := by kernel_rfl
theorem eqk38 : Tryz.prog.stoodInHeld 38 = false ∧ Tryz.prog.eqGuardType Tryz.prog.depth 38 = false := ⟨by kernel_rfl, by kernel_rfl⟩
theorem zr5 : zeroShape Tryz.prog 5 = true ∧ ∃ ds, zeroCells (T := T) Tryz.prog 5 = some (ofDs ds) ∧ leDs ds (enc5 (0 : Int)) := ⟨by kernel_rfl, [.i .u8 (0 : Int)], by kernel_rfl, .cons (.refl _) <| .nil⟩
theorem zr9 : zeroShape Tryz.prog 9 = true ∧ ∃ ds, zeroCells (T := T) Tryz.prog 9 = some (ofDs ds) ∧ leDs ds (enc9 []) := ⟨by kernel_rfl, [.s ([])], by kernel_rfl, .cons (.refl _) <| .nil⟩
theorem zr38 : zeroShape Tryz.prog 38 = true ∧ ∃ ds, zeroCells (T := T) Tryz.prog 38 = some (ofDs ds) ∧ leDs ds (enc38 S38.d) := ⟨by kernel_rfl, [.i .i64 (0 : Int), .i .i64 (0 : Int)], by kernel_rfl, .cons (.refl _) <| .cons (.refl _) <| .nil⟩
theorem zr36 : zeroShape Tryz.prog 36 = true ∧ ∃ ds, zeroCells (T := T) Tryz.prog 36 = some (ofDs ds) ∧ leDs ds (enc36 S36.d) := ⟨by kernel_rfl, [.b false, .ns], by kernel_rfl, .cons (.refl _) <| .cons (.ns _) <| .nil⟩
theorem zr55 : zeroShape Tryz.prog 55 = true ∧ ∃ ds, zeroCells (T := T) Tryz.prog 55 = some (ofDs ds) ∧ leDs ds (enc55 S55.d) := ⟨by kernel_rfl, [.i .i64 (0 : Int), .s ([]), .s ([]), .i .i64 (0 : Int)], by kernel_rfl, .cons (.refl _) <| .cons (.refl _) <| .cons (.refl _) <| .cons (.refl _) <| .nil⟩
theorem zr43 : zeroShape Tryz.prog 43 = true ∧ ∃ ds, zeroCells (T := T) Tryz.prog 43 = some (ofDs ds) ∧ leDs ds (enc43 []) := ⟨by kernel_rfl, [.ns], by kernel_rfl, .cons (.ns _) <| .nil⟩
theorem fl : Tryz.prog.follows .mixedOrders = true := by kernel_rfl
theorem bytesOk (w0 : World) (t : Tab T) : BytesOk (cfg w0 t) := fun e h1 h2 => by
  have hm := mem_of (l := knl) h2
  simp only [knl, List.mem_cons, List.not_mem_nil, or_false] at hm
  rcases hm with rfl | rfl | rfl | rfl | rfl | rfl
  · exact ⟨fun l => by induction l with
      | nil => rfl
      | cons b l ih => exact congrArg (List.cons _) ih, fun xs => ⟨xs, rfl, rfl⟩⟩
  · exact absurd h1 (by rw [show isU8 (cfg w0 _).P 9 = false from u8_9]; exact Bool.false_ne_true)
  · exact absurd h1 (by rw [show isU8 (cfg w0 _).P 38 = false from u8_38]; exact Bool.false_ne_true)
  · exact absurd h1 (by rw [show isU8 (cfg w0 _).P 36 = false from u8_36]; exact Bool.false_ne_true)
  · exact absurd h1 (by rw [show isU8 (cfg w0 _).P 55 = false from u8_55]; exact Bool.false_ne_true)
  · exact absurd h1 (by rw [show isU8 (cfg w0 _).P 43 = false from u8_43]; exact Bool.false_ne_true)
theorem fine (w0 : World) (hw : Wd w0) (t : Tab T) (h : CfOk (cfg w0 t)) : Fine (cfg w0 t) where
  gv := hw.gv
  bytes := bytesOk w0 t
  cod := by
    refine ⟨fun t ht x => ?_, fun t ds x h => ?_⟩
    · have hm := mem_of (l := knl) ht
      simp only [knl, List.mem_cons, List.not_mem_nil, or_false] at hm
      rcases hm with rfl | rfl | rfl | rfl | rfl | rfl
      · exact len5
      · exact len9
      · exact len38
      · exact len36
      · exact len55
      · exact len43
    · exact dec_ok t ds x h
  zero := fun t ht => by
    have hm := mem_of (l := knl) ht
    simp only [knl, List.mem_cons, List.not_mem_nil, or_false] at hm
    rcases hm with rfl | rfl | rfl | rfl | rfl | rfl
    · exact zr5
    · exact zr9
    · exact zr38
    · exact zr36
    · exact zr55
    · exact zr43
  eqk := fun t h => by
    have hm := mem_of (l := eql) h
    simp only [eql, List.mem_cons, List.not_mem_nil, or_false] at hm
    rcases hm with rfl
    · exact eqk38
  flat := fun t hf hk x d hd => by
    have hm := mem_of (l := knl) hk
    simp only [knl, List.mem_cons, List.not_mem_nil, or_false] at hm
    rcases hm with rfl | rfl | rfl | rfl | rfl | rfl
    · have hd : d ∈ enc5 x := hd
      simp only [enc5, List.mem_cons, List.not_mem_nil, or_false] at hd
      rcases hd with rfl <;> rfl
    · have hd : d ∈ enc9 x := hd
      simp only [enc9, List.mem_cons, List.not_mem_nil, or_false] at hd
      rcases hd with rfl <;> rfl
    · have hd : d ∈ enc38 x := hd
      simp only [enc38, List.mem_cons, List.not_mem_nil, or_false] at hd
      rcases hd with rfl | rfl <;> rfl
    · exact absurd hf (by rw [show flatT (cfg w0 _).P 20 36 = false from fl36]; exact Bool.false_ne_true)
    · have hd : d ∈ enc55 x := hd
      simp only [enc55, List.mem_cons, List.not_mem_nil, or_false] at hd
      rcases hd with rfl | rfl | rfl | rfl <;> rfl
    · exact absurd hf (by rw [show flatT (cfg w0 _).P 20 43 = false from fl43]; exact Bool.false_ne_true)
  cf := h
theorem dr (w0 : World) (hw : Wd w0) (t : Tab T) (h : CfOk (cfg w0 t)) : DrawOk (cfg w0 t) := drawOk_ok (fine w0 hw t h) fl
def io0 : Io T ((List UInt8) × (List UInt8)) where
  enc v := ([.d (.s v.1), .d (.s v.2)], [])
  pat
    | ([.d (.s p1), .d (.s p2)], []) => some (p1, p2)
    | _ => none
  ok z v h := by
    split at h
    · cases h
      all_goals rfl
    · cases h
def io1 : Io T (List UInt8) where
  enc v := ([.d (.s v)], [])
  pat
    | ([.d (.s p1)], []) => some p1
    | _ => none
  ok z v h := by
    split at h
    · cases h
      all_goals rfl
    · cases h
def io2 : Io T (Bool) where
  enc v := ([.d (.b v)], [])
  pat
    | ([.d (.b p1)], []) => some p1
    | _ => none
  ok z v h := by
    split at h
    · cases h
      all_goals rfl
    · cases h
def io3 : Io T ((List UInt8) × Bool) where
  enc v := ([.d (.s v.1), .d (.b v.2)], [])
  pat
    | ([.d (.s p1), .d (.b p2)], []) => some (p1, p2)
    | _ => none
  ok z v h := by
    split at h
    · cases h
      all_goals rfl
    · cases h
def io4 : Io T (Int) where
  enc v := ([.d (.i .i64 v)], [])
  pat
    | ([.d (.i .i64 p1)], []) => some p1
    | _ => none
  ok z v h := by
    split at h
    · cases h
      all_goals rfl
    · cases h
def io5 : Io T (List UInt8) where
  enc v := ([.bp 0], [.bl v])
  pat
    | ([.bp 0], [.bl p1]) => some p1
    | _ => none
  ok z v h := by
    split at h
    · cases h
      all_goals rfl
    · cases h
def io6 : Io T ((List UInt8) × (List UInt8)) where
  enc v := ([.d (.s v.1)], [.bl v.2])
  pat
    | ([.d (.s p1)], [.bl p2]) => some (p1, p2)
    | _ => none
  ok z v h := by
    split at h
    · cases h
      all_goals rfl
    · cases h
def io7 : Io T (Int × (List UInt8)) where
  enc v := ([.bp 0, .d (.i .u8 v.1)], [.bl v.2])
  pat
    | ([.bp 0, .d (.i .u8 p1)], [.bl p2]) => some (p1, p2)
    | _ => none
  ok z v h := by
    split at h
    · cases h
      all_goals rfl
    · cases h
def io8 : Io T (List UInt8) where
  enc v := ([.d .ni], [.bl v])
  pat
    | ([.d .ni], [.bl p1]) => some p1
    | _ => none
  ok z v h := by
    split at h
    · cases h
      all_goals rfl
    · cases h
def io9 : Io T (Int × (List UInt8) × (List UInt8) × Int) where
  enc v := ([.agg [.d (.i .i64 v.1), .d (.s v.2.1), .d (.s v.2.2.1), .d (.i .i64 v.2.2.2)]], [])
  pat
    | ([.agg [.d (.i .i64 p1), .d (.s p2), .d (.s p3), .d (.i .i64 p4)]], []) => some (p1, p2, p3, p4)
    | _ => none
  ok z v h := by
    split at h
    · cases h
      all_goals rfl
    · cases h
def io10 : Io T ((List UInt8) × Int × Int × (List UInt8) × (List UInt8) × Int × (List UInt8)) where
  enc v := ([.d (.s v.1), .ptr 0 0, .bp 1, .d (.i .i64 v.2.1)], [.box [.d (.i .i64 v.2.2.1), .d (.s v.2.2.2.1), .d (.s v.2.2.2.2.1), .d (.i .i64 v.2.2.2.2.2.1)], .bl v.2.2.2.2.2.2])
  pat
    | ([.d (.s p1), .ptr 0 0, .bp 1, .d (.i .i64 p2)], [.box [.d (.i .i64 p3), .d (.s p4), .d (.s p5), .d (.i .i64 p6)], .bl p7]) => some (p1, p2, p3, p4, p5, p6, p7)
    | _ => none
  ok z v h := by
    split at h
    · cases h
      all_goals rfl
    · cases h
def io11 : Io T ((List UInt8) × Int × (List UInt8) × (List UInt8) × Int) where
  enc v := ([.d (.s v.1), .ptr 0 0], [.box [.d (.i .i64 v.2.1), .d (.s v.2.2.1), .d (.s v.2.2.2.1), .d (.i .i64 v.2.2.2.2)]])
  pat
    | ([.d (.s p1), .ptr 0 0], [.box [.d (.i .i64 p2), .d (.s p3), .d (.s p4), .d (.i .i64 p5)]]) => some (p1, p2, p3, p4, p5)
    | _ => none
  ok z v h := by
    split at h
    · cases h
      all_goals rfl
    · cases h
def io12 : Io T (Int) where
  enc v := ([.d (.i .u8 v)], [])
  pat
    | ([.d (.i .u8 p1)], []) => some p1
    | _ => none
  ok z v h := by
    split at h
    · cases h
      all_goals rfl
    · cases h
def io13 : Io T ((List UInt8) × Int) where
  enc v := ([.d (.s v.1), .d (.i .i64 v.2)], [])
  pat
    | ([.d (.s p1), .d (.i .i64 p2)], []) => some (p1, p2)
    | _ => none
  ok z v h := by
    split at h
    · cases h
      all_goals rfl
    · cases h
def io14 : Io T ((List UInt8) × Int × (List UInt8)) where
  enc v := ([.d (.s v.1), .bp 0, .d (.i .i64 v.2.1)], [.bl v.2.2])
  pat
    | ([.d (.s p1), .bp 0, .d (.i .i64 p2)], [.bl p3]) => some (p1, p2, p3)
    | _ => none
  ok z v h := by
    split at h
    · cases h
      all_goals rfl
    · cases h
def io15 : Io T (Int × (List UInt8)) where
  enc v := ([.bp 0, .d (.i .i64 v.1)], [.bl v.2])
  pat
    | ([.bp 0, .d (.i .i64 p1)], [.bl p2]) => some (p1, p2)
    | _ => none
  ok z v h := by
    split at h
    · cases h
      all_goals rfl
    · cases h
def io16 : Io T (Int × (List UInt8) × Int) where
  enc v := ([.d (.i .i64 v.1), .d (.s v.2.1), .d (.i .i64 v.2.2)], [])
  pat
    | ([.d (.i .i64 p1), .d (.s p2), .d (.i .i64 p3)], []) => some (p1, p2, p3)
    | _ => none
  ok z v h := by
    split at h
    · cases h
      all_goals rfl
    · cases h
def io17 : Io T (Int × Int) where
  enc v := ([.d (.i .u8 v.1), .ptr 0 0], [.box [.d (.i .i64 v.2)]])
  pat
    | ([.d (.i .u8 p1), .ptr 0 0], [.box [.d (.i .i64 p2)]]) => some (p1, p2)
    | _ => none
  ok z v h := by
    split at h
    · cases h
      all_goals rfl
    · cases h
def io18 : Io T (Int) where
  enc v := ([], [.box [.d (.i .i64 v)]])
  pat
    | ([], [.box [.d (.i .i64 p1)]]) => some p1
    | _ => none
  ok z v h := by
    split at h
    · cases h
      all_goals rfl
    · cases h
def io19 : Io T (Int × Int) where
  enc v := ([.d (.i .i64 v.1), .d (.i .i64 v.2)], [])
  pat
    | ([.d (.i .i64 p1), .d (.i .i64 p2)], []) => some (p1, p2)
    | _ => none
  ok z v h := by
    split at h
    · cases h
      all_goals rfl
    · cases h
def io20 : Io T ((List UInt8) × Int × Int × Int × Int × Int × Int × (List Int)) where
  enc v := ([.d (.s v.1), .d (.i .i64 v.2.1), .d (.i .i64 v.2.2.1), .d (.i .i64 v.2.2.2.1), .ptr 0 0, .fn 61 [.ptr 0 0], .sl 1 none, .d (.i .i64 v.2.2.2.2.1), .d (.i .i64 v.2.2.2.2.2.1)], [.box [.d (.i .i64 v.2.2.2.2.2.2.1)], .arr 5 v.2.2.2.2.2.2.2])
  pat
    | ([.d (.s p1), .d (.i .i64 p2), .d (.i .i64 p3), .d (.i .i64 p4), .ptr 0 0, .fn 61 [.ptr 0 0], .sl 1 none, .d (.i .i64 p5), .d (.i .i64 p6)], [.box [.d (.i .i64 p7)], .arr tp8 p8]) => (asT 5 tp8 p8).bind fun q8 => some (p1, p2, p3, p4, p5, p6, p7, q8)
    | _ => none
  ok z v h := by
    split at h
    · obtain ⟨q8, hp8, h⟩ := Option.bind_eq_some_iff.1 h
      cases h
      rw [asT_a hp8]
      all_goals rfl
    · cases h
def io21 : Io T ((List UInt8) × Int × Int × Int × Int) where
  enc v := ([.d (.s v.1), .d (.i .i64 v.2.1), .d (.i .i64 v.2.2.1), .d (.i .i64 v.2.2.2.1), .ptr 0 0, .fn 61 [.ptr 0 0]], [.box [.d (.i .i64 v.2.2.2.2)]])
  pat
    | ([.d (.s p1), .d (.i .i64 p2), .d (.i .i64 p3), .d (.i .i64 p4), .ptr 0 0, .fn 61 [.ptr 0 0]], [.box [.d (.i .i64 p5)]]) => some (p1, p2, p3, p4, p5)
    | _ => none
  ok z v h := by
    split at h
    · cases h
      all_goals rfl
    · cases h
def io22 : Io T ((List UInt8) × Int × (List UInt8) × Int × Int) where
  enc v := ([.d (.s v.1), .ptr 0 0, .fn 61 [.ptr 0 0], .d (.i .i64 v.2.1), .d (.s v.2.2.1), .d (.i .i64 v.2.2.2.1)], [.box [.d (.i .i64 v.2.2.2.2)]])
  pat
    | ([.d (.s p1), .ptr 0 0, .fn 61 [.ptr 0 0], .d (.i .i64 p2), .d (.s p3), .d (.i .i64 p4)], [.box [.d (.i .i64 p5)]]) => some (p1, p2, p3, p4, p5)
    | _ => none
  ok z v h := by
    split at h
    · cases h
      all_goals rfl
    · cases h
def io23 : Io T ((List UInt8) × Int × Int) where
  enc v := ([.d (.s v.1), .ptr 0 0, .d (.i .i64 v.2.1)], [.box [.d (.i .i64 v.2.2)]])
  pat
    | ([.d (.s p1), .ptr 0 0, .d (.i .i64 p2)], [.box [.d (.i .i64 p3)]]) => some (p1, p2, p3)
    | _ => none
  ok z v h := by
    split at h
    · cases h
      all_goals rfl
    · cases h
def io24 : Io T (Int × Int) where
  enc v := ([.ptr 0 0, .d (.i .i64 v.1)], [.box [.d (.i .i64 v.2)]])
  pat
    | ([.ptr 0 0, .d (.i .i64 p1)], [.box [.d (.i .i64 p2)]]) => some (p1, p2)
    | _ => none
  ok z v h := by
    split at h
    · cases h
      all_goals rfl
    · cases h
def io25 : Io T ((List UInt8) × Int × (List UInt8) × Int) where
  enc v := ([.d (.s v.1), .ptr 0 0, .fn 61 [.ptr 0 0], .d (.i .i64 v.2.1), .d (.s v.2.2.1)], [.box [.d (.i .i64 v.2.2.2)]])
  pat
    | ([.d (.s p1), .ptr 0 0, .fn 61 [.ptr 0 0], .d (.i .i64 p2), .d (.s p3)], [.box [.d (.i .i64 p4)]]) => some (p1, p2, p3, p4)
    | _ => none
  ok z v h := by
    split at h
    · cases h
      all_goals rfl
    · cases h
def io26 : Io T ((List UInt8) × Int × Int × Int) where
  enc v := ([.d (.s v.1), .d (.i .i64 v.2.1), .d (.i .i64 v.2.2.1), .d (.i .i64 v.2.2.2)], [])
  pat
    | ([.d (.s p1), .d (.i .i64 p2), .d (.i .i64 p3), .d (.i .i64 p4)], []) => some (p1, p2, p3, p4)
    | _ => none
  ok z v h := by
    split at h
    · cases h
      all_goals rfl
    · cases h
def io27 : Io T (Int × Int × (List Int)) where
  enc v := ([.sl 0 none, .sl 0 none, .d (.i .i64 v.1), .d (.i .i64 v.2.1)], [.arr 5 v.2.2])
  pat
    | ([.sl 0 none, .sl 0 none, .d (.i .i64 p1), .d (.i .i64 p2)], [.arr tp3 p3]) => (asT 5 tp3 p3).bind fun q3 => some (p1, p2, q3)
    | _ => none
  ok z v h := by
    split at h
    · obtain ⟨q3, hp3, h⟩ := Option.bind_eq_some_iff.1 h
      cases h
      rw [asT_a hp3]
      all_goals rfl
    · cases h
def io28 : Io T (List Int) where
  enc v := ([.sl 0 none], [.arr 5 v])
  pat
    | ([.sl 0 none], [.arr tp1 p1]) => (asT 5 tp1 p1).bind fun q1 => some q1
    | _ => none
  ok z v h := by
    split at h
    · obtain ⟨q1, hp1, h⟩ := Option.bind_eq_some_iff.1 h
      cases h
      rw [asT_a hp1]
      all_goals rfl
    · cases h
def io29 : Io T ((List UInt8) × Int × Int) where
  enc v := ([.d (.s v.1), .d (.i .i64 v.2.1), .d (.i .i64 v.2.2)], [])
  pat
    | ([.d (.s p1), .d (.i .i64 p2), .d (.i .i64 p3)], []) => some (p1, p2, p3)
    | _ => none
  ok z v h := by
    split at h
    · cases h
      all_goals rfl
    · cases h
def io30 : Io T (Int × (List UInt8) × (List UInt8) × Int × Int × (List UInt8) × (List UInt8) × Int) where
  enc v := ([.ptr 0 0, .ptr 1 0], [.box [.d (.i .i64 v.1), .d (.s v.2.1), .d (.s v.2.2.1), .d (.i .i64 v.2.2.2.1)], .box [.d (.i .i64 v.2.2.2.2.1), .d (.s v.2.2.2.2.2.1), .d (.s v.2.2.2.2.2.2.1), .d (.i .i64 v.2.2.2.2.2.2.2)]])
  pat
    | ([.ptr 0 0, .ptr 1 0], [.box [.d (.i .i64 p1), .d (.s p2), .d (.s p3), .d (.i .i64 p4)], .box [.d (.i .i64 p5), .d (.s p6), .d (.s p7), .d (.i .i64 p8)]]) => some (p1, p2, p3, p4, p5, p6, p7, p8)
    | _ => none
  ok z v h := by
    split at h
    · cases h
      all_goals rfl
    · cases h
def io31 : Io T (Int × (List UInt8)) where
  enc v := ([.d (.i .i64 v.1), .ptr 0 0], [.box [.d (.s v.2)]])
  pat
    | ([.d (.i .i64 p1), .ptr 0 0], [.box [.d (.s p2)]]) => some (p1, p2)
    | _ => none
  ok z v h := by
    split at h
    · cases h
      all_goals rfl
    · cases h
def io32 : Io T (Int × (List UInt8) × (List UInt8) × Int × (List UInt8)) where
  enc v := ([.agg [.d (.i .i64 v.1), .d (.s v.2.1), .d (.s v.2.2.1), .d (.i .i64 v.2.2.2.1)]], [.box [.d (.s v.2.2.2.2)]])
  pat
    | ([.agg [.d (.i .i64 p1), .d (.s p2), .d (.s p3), .d (.i .i64 p4)]], [.box [.d (.s p5)]]) => some (p1, p2, p3, p4, p5)
    | _ => none
  ok z v h := by
    split at h
    · cases h
      all_goals rfl
    · cases h
def io33 : Io T ((List UInt8) × Int × (List UInt8) × (List UInt8) × Int) where
  enc v := ([.ptr 0 0, .ptr 1 0], [.box [.d (.s v.1)], .box [.d (.i .i64 v.2.1), .d (.s v.2.2.1), .d (.s v.2.2.2.1), .d (.i .i64 v.2.2.2.2)]])
  pat
    | ([.ptr 0 0, .ptr 1 0], [.box [.d (.s p1)], .box [.d (.i .i64 p2), .d (.s p3), .d (.s p4), .d (.i .i64 p5)]]) => some (p1, p2, p3, p4, p5)
    | _ => none
  ok z v h := by
    split at h
    · cases h
      all_goals rfl
    · cases h
def io34 : Io T (Int × (List UInt8) × (List UInt8) × Int × (List UInt8)) where
  enc v := ([.ptr 0 0, .fn 30 [.ptr 1 0]], [.box [.d (.i .i64 v.1), .d (.s v.2.1), .d (.s v.2.2.1), .d (.i .i64 v.2.2.2.1)], .box [.d (.s v.2.2.2.2)]])
  pat
    | ([.ptr 0 0, .fn 30 [.ptr 1 0]], [.box [.d (.i .i64 p1), .d (.s p2), .d (.s p3), .d (.i .i64 p4)], .box [.d (.s p5)]]) => some (p1, p2, p3, p4, p5)
    | _ => none
  ok z v h := by
    split at h
    · cases h
      all_goals rfl
    · cases h
def io35 : Io T (List S55) where
  enc v := ([.sl 0 none], [.arr 55 v])
  pat
    | ([.sl 0 none], [.arr tp1 p1]) => (asT 55 tp1 p1).bind fun q1 => some q1
    | _ => none
  ok z v h := by
    split at h
    · obtain ⟨q1, hp1, h⟩ := Option.bind_eq_some_iff.1 h
      cases h
      rw [asT_a hp1]
      all_goals rfl
    · cases h
def io36 : Io T ((List UInt8) × (List S55)) where
  enc v := ([.d (.s v.1), .sl 0 none], [.arr 55 v.2])
  pat
    | ([.d (.s p1), .sl 0 none], [.arr tp2 p2]) => (asT 55 tp2 p2).bind fun q2 => some (p1, q2)
    | _ => none
  ok z v h := by
    split at h
    · obtain ⟨q2, hp2, h⟩ := Option.bind_eq_some_iff.1 h
      cases h
      rw [asT_a hp2]
      all_goals rfl
    · cases h
def io37 : Io T (List S55) where
  enc v := ([.d (.l 55 v)], [])
  pat
    | ([.d (.l tp1 p1)], []) => (asT 55 tp1 p1).bind fun q1 => some q1
    | _ => none
  ok z v h := by
    split at h
    · obtain ⟨q1, hp1, h⟩ := Option.bind_eq_some_iff.1 h
      cases h
      rw [asT_l hp1]
      all_goals rfl
    · cases h
def io38 : Io T ((List S55) × Int × Int × (List S55)) where
  enc v := ([.sl 0 none, .d (.l 55 v.1), .d (.i .i64 v.2.1), .d (.i .i64 v.2.2.1)], [.arr 55 v.2.2.2])
  pat
    | ([.sl 0 none, .d (.l tp1 p1), .d (.i .i64 p2), .d (.i .i64 p3)], [.arr tp4 p4]) => (asT 55 tp1 p1).bind fun q1 => (asT 55 tp4 p4).bind fun q4 => some (q1, p2, p3, q4)
    | _ => none
  ok z v h := by
    split at h
    · obtain ⟨q1, hp1, h⟩ := Option.bind_eq_some_iff.1 h
      obtain ⟨q4, hp4, h⟩ := Option.bind_eq_some_iff.1 h
      cases h
      rw [asT_l hp1]
      rw [asT_a hp4]
      all_goals rfl
    · cases h
def io39 : Io T (Int × (List S55) × Int × Int × (List (Int × Int)) × (List Int)) where
  enc v := ([.mp 0, .sl 1 none, .d (.i .i64 v.1), .d (.l 55 v.2.1), .d (.i .i64 v.2.2.1), .d (.i .i64 v.2.2.2.1)], [.mp (some .u8) 5 v.2.2.2.2.1, .arr 5 v.2.2.2.2.2])
  pat
    | ([.mp 0, .sl 1 none, .d (.i .i64 p1), .d (.l tp2 p2), .d (.i .i64 p3), .d (.i .i64 p4)], [.mp kp5 tp5 p5, .arr tp6 p6]) => (asT 55 tp2 p2).bind fun q2 => (asM (some .u8) 5 kp5 tp5 p5).bind fun q5 => (asT 5 tp6 p6).bind fun q6 => some (p1, q2, p3, p4, q5, q6)
    | _ => none
  ok z v h := by
    split at h
    · obtain ⟨q2, hp2, h⟩ := Option.bind_eq_some_iff.1 h
      obtain ⟨q5, hp5, h⟩ := Option.bind_eq_some_iff.1 h
      obtain ⟨q6, hp6, h⟩ := Option.bind_eq_some_iff.1 h
      cases h
      rw [asT_l hp2]
      rw [asM_a hp5]
      rw [asT_a hp6]
      all_goals rfl
    · cases h
def io40 : Io T ((List S55) × Int × Int × (List (Int × Int)) × (List Int)) where
  enc v := ([.mp 0, .sl 1 none, .d (.l 55 v.1), .d (.i .i64 v.2.1), .d (.i .i64 v.2.2.1)], [.mp (some .u8) 5 v.2.2.2.1, .arr 5 v.2.2.2.2])
  pat
    | ([.mp 0, .sl 1 none, .d (.l tp1 p1), .d (.i .i64 p2), .d (.i .i64 p3)], [.mp kp4 tp4 p4, .arr tp5 p5]) => (asT 55 tp1 p1).bind fun q1 => (asM (some .u8) 5 kp4 tp4 p4).bind fun q4 => (asT 5 tp5 p5).bind fun q5 => some (q1, p2, p3, q4, q5)
    | _ => none
  ok z v h := by
    split at h
    · obtain ⟨q1, hp1, h⟩ := Option.bind_eq_some_iff.1 h
      obtain ⟨q4, hp4, h⟩ := Option.bind_eq_some_iff.1 h
      obtain ⟨q5, hp5, h⟩ := Option.bind_eq_some_iff.1 h
      cases h
      rw [asT_l hp1]
      rw [asM_a hp4]
      rw [asT_a hp5]
      all_goals rfl
    · cases h
def io41 : Io T (Unit) where
  enc v := ([], [])
  pat
    | ([], []) => some ()
    | _ => none
  ok z v h := by
    split at h <;> cases h; rfl
def io42 : Io T (List (List S55)) where
  enc v := ([.sl 0 none], [.arr 43 v])
  pat
    | ([.sl 0 none], [.arr tp1 p1]) => (asT 43 tp1 p1).bind fun q1 => some q1
    | _ => none
  ok z v h := by
    split at h
    · obtain ⟨q1, hp1, h⟩ := Option.bind_eq_some_iff.1 h
      cases h
      rw [asT_a hp1]
      all_goals rfl
    · cases h
def io43 : Io T ((List S55) × Int × Int × Int × (List (List S55))) where
  enc v := ([.d (.l 55 v.1), .sl 0 none, .d (.i .i64 v.2.1), .d (.i .i64 v.2.2.1), .d (.i .i64 v.2.2.2.1)], [.arr 43 v.2.2.2.2])
  pat
    | ([.d (.l tp1 p1), .sl 0 none, .d (.i .i64 p2), .d (.i .i64 p3), .d (.i .i64 p4)], [.arr tp5 p5]) => (asT 55 tp1 p1).bind fun q1 => (asT 43 tp5 p5).bind fun q5 => some (q1, p2, p3, p4, q5)
    | _ => none
  ok z v h := by
    split at h
    · obtain ⟨q1, hp1, h⟩ := Option.bind_eq_some_iff.1 h
      obtain ⟨q5, hp5, h⟩ := Option.bind_eq_some_iff.1 h
      cases h
      rw [asT_l hp1]
      rw [asT_a hp5]
      all_goals rfl
    · cases h
def io44 : Io T ((List S55) × Int × Int × (List (List S55))) where
  enc v := ([.d (.l 55 v.1), .sl 0 none, .d (.i .i64 v.2.1), .d (.i .i64 v.2.2.1)], [.arr 43 v.2.2.2])
  pat
    | ([.d (.l tp1 p1), .sl 0 none, .d (.i .i64 p2), .d (.i .i64 p3)], [.arr tp4 p4]) => (asT 55 tp1 p1).bind fun q1 => (asT 43 tp4 p4).bind fun q4 => some (q1, p2, p3, q4)
    | _ => none
  ok z v h := by
    split at h
    · obtain ⟨q1, hp1, h⟩ := Option.bind_eq_some_iff.1 h
      obtain ⟨q4, hp4, h⟩ := Option.bind_eq_some_iff.1 h
      cases h
      rw [asT_l hp1]
      rw [asT_a hp4]
      all_goals rfl
    · cases h
def io45 : Io T ((List S55) × Int × (List (List S55))) where
  enc v := ([.d (.l 55 v.1), .sl 0 none, .d (.i .i64 v.2.1)], [.arr 43 v.2.2])
  pat
    | ([.d (.l tp1 p1), .sl 0 none, .d (.i .i64 p2)], [.arr tp3 p3]) => (asT 55 tp1 p1).bind fun q1 => (asT 43 tp3 p3).bind fun q3 => some (q1, p2, q3)
    | _ => none
  ok z v h := by
    split at h
    · obtain ⟨q1, hp1, h⟩ := Option.bind_eq_some_iff.1 h
      obtain ⟨q3, hp3, h⟩ := Option.bind_eq_some_iff.1 h
      cases h
      rw [asT_l hp1]
      rw [asT_a hp3]
      all_goals rfl
    · cases h
def io46 : Io T ((List UInt8) × (List UInt8) × (List UInt8) × (List UInt8) × (List UInt8) × (List UInt8) × (List UInt8) × (List UInt8) × (List UInt8) × (List UInt8) × (List UInt8) × (List UInt8) × (List UInt8) × Int) where
  enc v := ([.d (.s v.1), .agg [.d (.s v.2.1), .d (.s v.2.2.1), .d (.s v.2.2.2.1), .d (.s v.2.2.2.2.1), .d (.s v.2.2.2.2.2.1), .d (.s v.2.2.2.2.2.2.1), .d (.s v.2.2.2.2.2.2.2.1), .d (.s v.2.2.2.2.2.2.2.2.1), .d (.s v.2.2.2.2.2.2.2.2.2.1), .d (.s v.2.2.2.2.2.2.2.2.2.2.1), .d (.s v.2.2.2.2.2.2.2.2.2.2.2.1), .d (.s v.2.2.2.2.2.2.2.2.2.2.2.2.1)], .d (.i .i64 v.2.2.2.2.2.2.2.2.2.2.2.2.2)], [])
  pat
    | ([.d (.s p1), .agg [.d (.s p2), .d (.s p3), .d (.s p4), .d (.s p5), .d (.s p6), .d (.s p7), .d (.s p8), .d (.s p9), .d (.s p10), .d (.s p11), .d (.s p12), .d (.s p13)], .d (.i .i64 p14)], []) => some (p1, p2, p3, p4, p5, p6, p7, p8, p9, p10, p11, p12, p13, p14)
    | _ => none
  ok z v h := by
    split at h
    · cases h
      all_goals rfl
    · cases h
def io47 : Io T (Int × Bool) where
  enc v := ([.d (.i .i64 v.1), .d (.ie v.2)], [])
  pat
    | ([.d (.i .i64 p1), .d (.ie p2)], []) => some (p1, p2)
    | _ => none
  ok z v h := by
    split at h
    · cases h
      all_goals rfl
    · cases h
def io48 : Io T (Int × Int) where
  enc v := ([.agg [.d (.i .i64 v.1), .d (.i .i64 v.2)]], [])
  pat
    | ([.agg [.d (.i .i64 p1), .d (.i .i64 p2)]], []) => some (p1, p2)
    | _ => none
  ok z v h := by
    split at h
    · cases h
      all_goals rfl
    · cases h
def io49 : Io T (Bool × (List S38) × Bool) where
  enc v := ([.agg [.d (.b v.1), .d (.l 38 v.2.1)], .d (.b v.2.2)], [])
  pat
    | ([.agg [.d (.b p1), .d (.l tp2 p2)], .d (.b p3)], []) => (asT 38 tp2 p2).bind fun q2 => some (p1, q2, p3)
    | _ => none
  ok z v h := by
    split at h
    · obtain ⟨q2, hp2, h⟩ := Option.bind_eq_some_iff.1 h
      cases h
      rw [asT_l hp2]
      all_goals rfl
    · cases h
def io50 : Io T ((List S55) × Int × Bool × Bool × Int × Int × (List S38)) where
  enc v := ([.d (.l 55 v.1), .ptr 0 0, .ptr 1 0, .d (.i .i64 v.2.1), .ptr 2 0], [.box [.d (.b v.2.2.1), .d .ns], .box [.d (.b v.2.2.2.1), .sl 3 none], .box [.d (.i .i64 v.2.2.2.2.1), .d (.i .i64 v.2.2.2.2.2.1)], .arr 38 v.2.2.2.2.2.2])
  pat
    | ([.d (.l tp1 p1), .ptr 0 0, .ptr 1 0, .d (.i .i64 p2), .ptr 2 0], [.box [.d (.b p3), .d .ns], .box [.d (.b p4), .sl 3 none], .box [.d (.i .i64 p5), .d (.i .i64 p6)], .arr tp7 p7]) => (asT 55 tp1 p1).bind fun q1 => (asT 38 tp7 p7).bind fun q7 => some (q1, p2, p3, p4, p5, p6, q7)
    | _ => none
  ok z v h := by
    split at h
    · obtain ⟨q1, hp1, h⟩ := Option.bind_eq_some_iff.1 h
      obtain ⟨q7, hp7, h⟩ := Option.bind_eq_some_iff.1 h
      cases h
      rw [asT_l hp1]
      rw [asT_a hp7]
      all_goals rfl
    · cases h
def io51 : Io T ((List S55) × Bool × Bool × (List S38)) where
  enc v := ([.d (.l 55 v.1), .ptr 0 0, .ptr 1 0], [.box [.d (.b v.2.1), .d .ns], .box [.d (.b v.2.2.1), .sl 2 none], .arr 38 v.2.2.2])
  pat
    | ([.d (.l tp1 p1), .ptr 0 0, .ptr 1 0], [.box [.d (.b p2), .d .ns], .box [.d (.b p3), .sl 2 none], .arr tp4 p4]) => (asT 55 tp1 p1).bind fun q1 => (asT 38 tp4 p4).bind fun q4 => some (q1, p2, p3, q4)
    | _ => none
  ok z v h := by
    split at h
    · obtain ⟨q1, hp1, h⟩ := Option.bind_eq_some_iff.1 h
      obtain ⟨q4, hp4, h⟩ := Option.bind_eq_some_iff.1 h
      cases h
      rw [asT_l hp1]
      rw [asT_a hp4]
      all_goals rfl
    · cases h
def io52 : Io T (Bool × Bool × (List S38)) where
  enc v := ([.ptr 0 0, .ptr 1 0], [.box [.d (.b v.1), .d .ns], .box [.d (.b v.2.1), .sl 2 none], .arr 38 v.2.2])
  pat
    | ([.ptr 0 0, .ptr 1 0], [.box [.d (.b p1), .d .ns], .box [.d (.b p2), .sl 2 none], .arr tp3 p3]) => (asT 38 tp3 p3).bind fun q3 => some (p1, p2, q3)
    | _ => none
  ok z v h := by
    split at h
    · obtain ⟨q3, hp3, h⟩ := Option.bind_eq_some_iff.1 h
      cases h
      rw [asT_a hp3]
      all_goals rfl
    · cases h
def io53 : Io T ((List S55) × Bool × Bool) where
  enc v := ([.d (.l 55 v.1), .ptr 0 0, .ptr 1 0], [.box [.d (.b v.2.1), .d .ns], .box [.d (.b v.2.2), .d .ns]])
  pat
    | ([.d (.l tp1 p1), .ptr 0 0, .ptr 1 0], [.box [.d (.b p2), .d .ns], .box [.d (.b p3), .d .ns]]) => (asT 55 tp1 p1).bind fun q1 => some (q1, p2, p3)
    | _ => none
  ok z v h := by
    split at h
    · obtain ⟨q1, hp1, h⟩ := Option.bind_eq_some_iff.1 h
      cases h
      rw [asT_l hp1]
      all_goals rfl
    · cases h
def io54 : Io T (Int × (List S36)) where
  enc v := ([.sl 0 none, .d (.i .i64 v.1)], [.arr 36 v.2])
  pat
    | ([.sl 0 none, .d (.i .i64 p1)], [.arr tp2 p2]) => (asT 36 tp2 p2).bind fun q2 => some (p1, q2)
    | _ => none
  ok z v h := by
    split at h
    · obtain ⟨q2, hp2, h⟩ := Option.bind_eq_some_iff.1 h
      cases h
      rw [asT_a hp2]
      all_goals rfl
    · cases h
def io55 : Io T (Int × Int × (List S36) × Bool × (List S38) × (List (List S55))) where
  enc v := ([.sl 0 none, .ptr 1 0, .sl 2 none, .d (.i .i64 v.1), .d (.i .i64 v.2.1)], [.arr 36 v.2.2.1, .box [.d (.b v.2.2.2.1), .d (.l 38 v.2.2.2.2.1)], .arr 43 v.2.2.2.2.2])
  pat
    | ([.sl 0 none, .ptr 1 0, .sl 2 none, .d (.i .i64 p1), .d (.i .i64 p2)], [.arr tp3 p3, .box [.d (.b p4), .d (.l tp5 p5)], .arr tp6 p6]) => (asT 36 tp3 p3).bind fun q3 => (asT 38 tp5 p5).bind fun q5 => (asT 43 tp6 p6).bind fun q6 => some (p1, p2, q3, p4, q5, q6)
    | _ => none
  ok z v h := by
    split at h
    · obtain ⟨q3, hp3, h⟩ := Option.bind_eq_some_iff.1 h
      obtain ⟨q5, hp5, h⟩ := Option.bind_eq_some_iff.1 h
      obtain ⟨q6, hp6, h⟩ := Option.bind_eq_some_iff.1 h
      cases h
      rw [asT_l hp5]
      rw [asT_a hp3]
      rw [asT_a hp6]
      all_goals rfl
    · cases h
def io56 : Io T (Int × Int × (List S36) × (List (List S55))) where
  enc v := ([.sl 0 none, .sl 1 none, .d (.i .i64 v.1), .d (.i .i64 v.2.1)], [.arr 36 v.2.2.1, .arr 43 v.2.2.2])
  pat
    | ([.sl 0 none, .sl 1 none, .d (.i .i64 p1), .d (.i .i64 p2)], [.arr tp3 p3, .arr tp4 p4]) => (asT 36 tp3 p3).bind fun q3 => (asT 43 tp4 p4).bind fun q4 => some (p1, p2, q3, q4)
    | _ => none
  ok z v h := by
    split at h
    · obtain ⟨q3, hp3, h⟩ := Option.bind_eq_some_iff.1 h
      obtain ⟨q4, hp4, h⟩ := Option.bind_eq_some_iff.1 h
      cases h
      rw [asT_a hp3]
      rw [asT_a hp4]
      all_goals rfl
    · cases h
def io57 : Io T (List S36) where
  enc v := ([.sl 0 none], [.arr 36 v])
  pat
    | ([.sl 0 none], [.arr tp1 p1]) => (asT 36 tp1 p1).bind fun q1 => some q1
    | _ => none
  ok z v h := by
    split at h
    · obtain ⟨q1, hp1, h⟩ := Option.bind_eq_some_iff.1 h
      cases h
      rw [asT_a hp1]
      all_goals rfl
    · cases h
def io58 : Io T (Int × Int × Int × Int × Bool × Bool) where
  enc v := ([.agg [.d (.i .i64 v.1), .d (.i .i64 v.2.1)], .agg [.d (.i .i64 v.2.2.1), .d (.i .i64 v.2.2.2.1), .d (.b v.2.2.2.2.1), .d (.b v.2.2.2.2.2)]], [])
  pat
    | ([.agg [.d (.i .i64 p1), .d (.i .i64 p2)], .agg [.d (.i .i64 p3), .d (.i .i64 p4), .d (.b p5), .d (.b p6)]], []) => some (p1, p2, p3, p4, p5, p6)
    | _ => none
  ok z v h := by
    split at h
    · cases h
      all_goals rfl
    · cases h
def io59 : Io T (Bool × (List S38) × Int × Int × Bool × Bool) where
  enc v := ([.agg [.d (.b v.1), .d (.l 38 v.2.1)], .agg [.d (.i .i64 v.2.2.1), .d (.i .i64 v.2.2.2.1), .d (.b v.2.2.2.2.1), .d (.b v.2.2.2.2.2)]], [])
  pat
    | ([.agg [.d (.b p1), .d (.l tp2 p2)], .agg [.d (.i .i64 p3), .d (.i .i64 p4), .d (.b p5), .d (.b p6)]], []) => (asT 38 tp2 p2).bind fun q2 => some (p1, q2, p3, p4, p5, p6)
    | _ => none
  ok z v h := by
    split at h
    · obtain ⟨q2, hp2, h⟩ := Option.bind_eq_some_iff.1 h
      cases h
      rw [asT_l hp2]
      all_goals rfl
    · cases h
def io60 : Io T (Int × (List S38) × Int × Int × Bool × (List S38) × Int × Int × Bool × Bool) where
  enc v := ([.ptr 0 0, .ptr 1 0, .d (.i .i64 v.1), .d (.l 38 v.2.1), .d (.i .i64 v.2.2.1), .d (.i .i64 v.2.2.2.1)], [.box [.d (.b v.2.2.2.2.1), .d (.l 38 v.2.2.2.2.2.1)], .box [.d (.i .i64 v.2.2.2.2.2.2.1), .d (.i .i64 v.2.2.2.2.2.2.2.1), .d (.b v.2.2.2.2.2.2.2.2.1), .d (.b v.2.2.2.2.2.2.2.2.2)]])
  pat
    | ([.ptr 0 0, .ptr 1 0, .d (.i .i64 p1), .d (.l tp2 p2), .d (.i .i64 p3), .d (.i .i64 p4)], [.box [.d (.b p5), .d (.l tp6 p6)], .box [.d (.i .i64 p7), .d (.i .i64 p8), .d (.b p9), .d (.b p10)]]) => (asT 38 tp2 p2).bind fun q2 => (asT 38 tp6 p6).bind fun q6 => some (p1, q2, p3, p4, p5, q6, p7, p8, p9, p10)
    | _ => none
  ok z v h := by
    split at h
    · obtain ⟨q2, hp2, h⟩ := Option.bind_eq_some_iff.1 h
      obtain ⟨q6, hp6, h⟩ := Option.bind_eq_some_iff.1 h
      cases h
      rw [asT_l hp2]
      rw [asT_l hp6]
      all_goals rfl
    · cases h
def io61 : Io T (Int × Bool × (List S38)) where
  enc v := ([.ptr 0 0, .d (.i .i64 v.1)], [.box [.d (.b v.2.1), .d (.l 38 v.2.2)]])
  pat
    | ([.ptr 0 0, .d (.i .i64 p1)], [.box [.d (.b p2), .d (.l tp3 p3)]]) => (asT 38 tp3 p3).bind fun q3 => some (p1, p2, q3)
    | _ => none
  ok z v h := by
    split at h
    · obtain ⟨q3, hp3, h⟩ := Option.bind_eq_some_iff.1 h
      cases h
      rw [asT_l hp3]
      all_goals rfl
    · cases h
def io62 : Io T ((List UInt8) × Int × Int × Bool × Bool) where
  enc v := ([.d (.s v.1), .agg [.d (.i .i64 v.2.1), .d (.i .i64 v.2.2.1), .d (.b v.2.2.2.1), .d (.b v.2.2.2.2)]], [])
  pat
    | ([.d (.s p1), .agg [.d (.i .i64 p2), .d (.i .i64 p3), .d (.b p4), .d (.b p5)]], []) => some (p1, p2, p3, p4, p5)
    | _ => none
  ok z v h := by
    split at h
    · cases h
      all_goals rfl
    · cases h
def io63 : Io T (Bool × Int) where
  enc v := ([.d (.b v.1), .d (.i .i64 v.2)], [])
  pat
    | ([.d (.b p1), .d (.i .i64 p2)], []) => some (p1, p2)
    | _ => none
  ok z v h := by
    split at h
    · cases h
      all_goals rfl
    · cases h
def io64 : Io T (Int × Int × Int × Int × Bool × Bool × (List S36)) where
  enc v := ([.ptr 0 0, .sl 1 none, .d (.i .i64 v.1), .d (.i .i64 v.2.1)], [.box [.d (.i .i64 v.2.2.1), .d (.i .i64 v.2.2.2.1), .d (.b v.2.2.2.2.1), .d (.b v.2.2.2.2.2.1)], .arr 36 v.2.2.2.2.2.2])
  pat
    | ([.ptr 0 0, .sl 1 none, .d (.i .i64 p1), .d (.i .i64 p2)], [.box [.d (.i .i64 p3), .d (.i .i64 p4), .d (.b p5), .d (.b p6)], .arr tp7 p7]) => (asT 36 tp7 p7).bind fun q7 => some (p1, p2, p3, p4, p5, p6, q7)
    | _ => none
  ok z v h := by
    split at h
    · obtain ⟨q7, hp7, h⟩ := Option.bind_eq_some_iff.1 h
      cases h
      rw [asT_a hp7]
      all_goals rfl
    · cases h
def io65 : Io T (List UInt8) where
  enc v := ([], [.bl v])
  pat
    | ([], [.bl p1]) => some p1
    | _ => none
  ok z v h := by
    split at h
    · cases h
      all_goals rfl
    · cases h
def io66 : Io T ((List UInt8) × (List UInt8)) where
  enc v := ([.bp 0, .d (.s v.1)], [.bl v.2])
  pat
    | ([.bp 0, .d (.s p1)], [.bl p2]) => some (p1, p2)
    | _ => none
  ok z v h := by
    split at h
    · cases h
      all_goals rfl
    · cases h
def io67 : Io T (Int × (List UInt8)) where
  enc v := ([.d (.i .i64 v.1), .d .ni], [.bl v.2])
  pat
    | ([.d (.i .i64 p1), .d .ni], [.bl p2]) => some (p1, p2)
    | _ => none
  ok z v h := by
    split at h
    · cases h
      all_goals rfl
    · cases h
def io68 : Io T (Int × Int) where
  enc v := ([.d (.i .i32 v.1), .d (.i .i64 v.2)], [])
  pat
    | ([.d (.i .i32 p1), .d (.i .i64 p2)], []) => some (p1, p2)
    | _ => none
  ok z v h := by
    split at h
    · cases h
      all_goals rfl
    · cases h
def io69 : Io T ((List UInt8) × (List UInt8) × (List UInt8) × Int) where
  enc v := ([.d (.s v.1), .d (.s v.2.1), .d (.s v.2.2.1), .d (.i .i64 v.2.2.2)], [])
  pat
    | ([.d (.s p1), .d (.s p2), .d (.s p3), .d (.i .i64 p4)], []) => some (p1, p2, p3, p4)
    | _ => none
  ok z v h := by
    split at h
    · cases h
      all_goals rfl
    · cases h
def io70 : Io T ((List UInt8) × (List UInt8) × (List UInt8) × Int × Int × Int × (List UInt8)) where
  enc v := ([.d (.s v.1), .d (.s v.2.1), .d (.s v.2.2.1), .bp 0, .d (.i .i64 v.2.2.2.1), .d (.i .i64 v.2.2.2.2.1), .d (.i .i64 v.2.2.2.2.2.1)], [.bl v.2.2.2.2.2.2])
  pat
    | ([.d (.s p1), .d (.s p2), .d (.s p3), .bp 0, .d (.i .i64 p4), .d (.i .i64 p5), .d (.i .i64 p6)], [.bl p7]) => some (p1, p2, p3, p4, p5, p6, p7)
    | _ => none
  ok z v h := by
    split at h
    · cases h
      all_goals rfl
    · cases h
def io71 : Io T ((List UInt8) × (List UInt8) × Int × Int × Int × (List UInt8)) where
  enc v := ([.d (.s v.1), .d (.s v.2.1), .bp 0, .d (.i .i64 v.2.2.1), .d (.i .i64 v.2.2.2.1), .d (.i .i64 v.2.2.2.2.1)], [.bl v.2.2.2.2.2])
  pat
    | ([.d (.s p1), .d (.s p2), .bp 0, .d (.i .i64 p3), .d (.i .i64 p4), .d (.i .i64 p5)], [.bl p6]) => some (p1, p2, p3, p4, p5, p6)
    | _ => none
  ok z v h := by
    split at h
    · cases h
      all_goals rfl
    · cases h
def io72 : Io T (List UInt8) where
  enc v := ([.d .ns, .d (.s v)], [])
  pat
    | ([.d .ns, .d (.s p1)], []) => some p1
    | _ => none
  ok z v h := by
    split at h
    · cases h
      all_goals rfl
    · cases h
def io73 : Io T ((List UInt8) × Int) where
  enc v := ([.d .ns, .d (.s v.1), .d (.i .i64 v.2)], [])
  pat
    | ([.d .ns, .d (.s p1), .d (.i .i64 p2)], []) => some (p1, p2)
    | _ => none
  ok z v h := by
    split at h
    · cases h
      all_goals rfl
    · cases h
def io74 : Io T ((List UInt8) × Int × Int × Int) where
  enc v := ([.d .ns, .d (.s v.1), .d (.i .i64 v.2.1), .d .ns, .d (.i .i64 v.2.2.1), .d (.i .i64 v.2.2.2)], [])
  pat
    | ([.d .ns, .d (.s p1), .d (.i .i64 p2), .d .ns, .d (.i .i64 p3), .d (.i .i64 p4)], []) => some (p1, p2, p3, p4)
    | _ => none
  ok z v h := by
    split at h
    · cases h
      all_goals rfl
    · cases h
def io75 : Io T ((List (List UInt8)) × (List UInt8)) where
  enc v := ([.d (.l 9 v.1), .d (.s v.2)], [])
  pat
    | ([.d (.l tp1 p1), .d (.s p2)], []) => (asT 9 tp1 p1).bind fun q1 => some (q1, p2)
    | _ => none
  ok z v h := by
    split at h
    · obtain ⟨q1, hp1, h⟩ := Option.bind_eq_some_iff.1 h
      cases h
      rw [asT_l hp1]
      all_goals rfl
    · cases h
def io76 : Io T ((List (List UInt8)) × (List UInt8) × Int) where
  enc v := ([.d (.l 9 v.1), .d (.s v.2.1), .d (.i .i64 v.2.2)], [])
  pat
    | ([.d (.l tp1 p1), .d (.s p2), .d (.i .i64 p3)], []) => (asT 9 tp1 p1).bind fun q1 => some (q1, p2, p3)
    | _ => none
  ok z v h := by
    split at h
    · obtain ⟨q1, hp1, h⟩ := Option.bind_eq_some_iff.1 h
      cases h
      rw [asT_l hp1]
      all_goals rfl
    · cases h
def io77 : Io T ((List (List UInt8)) × (List UInt8) × Int × (List UInt8) × (List (List UInt8)) × Int × Int) where
  enc v := ([.d (.l 9 v.1), .d (.s v.2.1), .d (.i .i64 v.2.2.1), .d (.s v.2.2.2.1), .d (.l 9 v.2.2.2.2.1), .d (.i .i64 v.2.2.2.2.2.1), .d (.i .i64 v.2.2.2.2.2.2)], [])
  pat
    | ([.d (.l tp1 p1), .d (.s p2), .d (.i .i64 p3), .d (.s p4), .d (.l tp5 p5), .d (.i .i64 p6), .d (.i .i64 p7)], []) => (asT 9 tp1 p1).bind fun q1 => (asT 9 tp5 p5).bind fun q5 => some (q1, p2, p3, p4, q5, p6, p7)
    | _ => none
  ok z v h := by
    split at h
    · obtain ⟨q1, hp1, h⟩ := Option.bind_eq_some_iff.1 h
      obtain ⟨q5, hp5, h⟩ := Option.bind_eq_some_iff.1 h
      cases h
      rw [asT_l hp1]
      rw [asT_l hp5]
      all_goals rfl
    · cases h
def io78 : Io T ((List (List UInt8)) × (List UInt8) × Int × (List (List UInt8)) × Int × Int) where
  enc v := ([.d (.l 9 v.1), .d (.s v.2.1), .d (.i .i64 v.2.2.1), .d (.l 9 v.2.2.2.1), .d (.i .i64 v.2.2.2.2.1), .d (.i .i64 v.2.2.2.2.2)], [])
  pat
    | ([.d (.l tp1 p1), .d (.s p2), .d (.i .i64 p3), .d (.l tp4 p4), .d (.i .i64 p5), .d (.i .i64 p6)], []) => (asT 9 tp1 p1).bind fun q1 => (asT 9 tp4 p4).bind fun q4 => some (q1, p2, p3, q4, p5, p6)
    | _ => none
  ok z v h := by
    split at h
    · obtain ⟨q1, hp1, h⟩ := Option.bind_eq_some_iff.1 h
      obtain ⟨q4, hp4, h⟩ := Option.bind_eq_some_iff.1 h
      cases h
      rw [asT_l hp1]
      rw [asT_l hp4]
      all_goals rfl
    · cases h
def io79 : Io T ((List UInt8) × (List (List UInt8)) × Int × Int × (List UInt8)) where
  enc v := ([.d (.s v.1), .bp 0, .d (.l 9 v.2.1), .d (.i .i64 v.2.2.1), .d (.i .i64 v.2.2.2.1)], [.bl v.2.2.2.2])
  pat
    | ([.d (.s p1), .bp 0, .d (.l tp2 p2), .d (.i .i64 p3), .d (.i .i64 p4)], [.bl p5]) => (asT 9 tp2 p2).bind fun q2 => some (p1, q2, p3, p4, p5)
    | _ => none
  ok z v h := by
    split at h
    · obtain ⟨q2, hp2, h⟩ := Option.bind_eq_some_iff.1 h
      cases h
      rw [asT_l hp2]
      all_goals rfl
    · cases h
def io80 : Io T (List S36) where
  enc v := ([.d (.l 36 v)], [])
  pat
    | ([.d (.l tp1 p1)], []) => (asT 36 tp1 p1).bind fun q1 => some q1
    | _ => none
  ok z v h := by
    split at h
    · obtain ⟨q1, hp1, h⟩ := Option.bind_eq_some_iff.1 h
      cases h
      rw [asT_l hp1]
      all_goals rfl
    · cases h
def io81 : Io T ((List S36) × Int × Int × (List S38) × Int × Int × (List (List UInt8)) × Bool × (List S38) × (List (List UInt8))) where
  enc v := ([.sl 0 none, .ptr 1 0, .sl 2 none, .d (.l 36 v.1), .d (.i .i64 v.2.1), .d (.i .i64 v.2.2.1), .d (.l 38 v.2.2.2.1), .d (.i .i64 v.2.2.2.2.1), .d (.i .i64 v.2.2.2.2.2.1)], [.arr 9 v.2.2.2.2.2.2.1, .box [.d (.b v.2.2.2.2.2.2.2.1), .d (.l 38 v.2.2.2.2.2.2.2.2.1)], .arr 9 v.2.2.2.2.2.2.2.2.2])
  pat
    | ([.sl 0 none, .ptr 1 0, .sl 2 none, .d (.l tp1 p1), .d (.i .i64 p2), .d (.i .i64 p3), .d (.l tp4 p4), .d (.i .i64 p5), .d (.i .i64 p6)], [.arr tp7 p7, .box [.d (.b p8), .d (.l tp9 p9)], .arr tp10 p10]) => (asT 36 tp1 p1).bind fun q1 => (asT 38 tp4 p4).bind fun q4 => (asT 9 tp7 p7).bind fun q7 => (asT 38 tp9 p9).bind fun q9 => (asT 9 tp10 p10).bind fun q10 => some (q1, p2, p3, q4, p5, p6, q7, p8, q9, q10)
    | _ => none
  ok z v h := by
    split at h
    · obtain ⟨q1, hp1, h⟩ := Option.bind_eq_some_iff.1 h
      obtain ⟨q4, hp4, h⟩ := Option.bind_eq_some_iff.1 h
      obtain ⟨q7, hp7, h⟩ := Option.bind_eq_some_iff.1 h
      obtain ⟨q9, hp9, h⟩ := Option.bind_eq_some_iff.1 h
      obtain ⟨q10, hp10, h⟩ := Option.bind_eq_some_iff.1 h
      cases h
      rw [asT_l hp1]
      rw [asT_l hp4]
      rw [asT_l hp9]
      rw [asT_a hp7]
      rw [asT_a hp10]
      all_goals rfl
    · cases h
def io82 : Io T ((List S36) × Int × Int × (List (List UInt8)) × Bool × (List S38) × (List (List UInt8))) where
  enc v := ([.sl 0 none, .ptr 1 0, .sl 2 none, .d (.l 36 v.1), .d (.i .i64 v.2.1), .d (.i .i64 v.2.2.1)], [.arr 9 v.2.2.2.1, .box [.d (.b v.2.2.2.2.1), .d (.l 38 v.2.2.2.2.2.1)], .arr 9 v.2.2.2.2.2.2])
  pat
    | ([.sl 0 none, .ptr 1 0, .sl 2 none, .d (.l tp1 p1), .d (.i .i64 p2), .d (.i .i64 p3)], [.arr tp4 p4, .box [.d (.b p5), .d (.l tp6 p6)], .arr tp7 p7]) => (asT 36 tp1 p1).bind fun q1 => (asT 9 tp4 p4).bind fun q4 => (asT 38 tp6 p6).bind fun q6 => (asT 9 tp7 p7).bind fun q7 => some (q1, p2, p3, q4, p5, q6, q7)
    | _ => none
  ok z v h := by
    split at h
    · obtain ⟨q1, hp1, h⟩ := Option.bind_eq_some_iff.1 h
      obtain ⟨q4, hp4, h⟩ := Option.bind_eq_some_iff.1 h
      obtain ⟨q6, hp6, h⟩ := Option.bind_eq_some_iff.1 h
      obtain ⟨q7, hp7, h⟩ := Option.bind_eq_some_iff.1 h
      cases h
      rw [asT_l hp1]
      rw [asT_l hp6]
      rw [asT_a hp4]
      rw [asT_a hp7]
      all_goals rfl
    · cases h
def io83 : Io T ((List UInt8) × (List S36) × Int × Int × (List (List UInt8))) where
  enc v := ([.sl 0 none, .d (.s v.1), .d (.l 36 v.2.1), .d (.i .i64 v.2.2.1), .d (.i .i64 v.2.2.2.1)], [.arr 9 v.2.2.2.2])
  pat
    | ([.sl 0 none, .d (.s p1), .d (.l tp2 p2), .d (.i .i64 p3), .d (.i .i64 p4)], [.arr tp5 p5]) => (asT 36 tp2 p2).bind fun q2 => (asT 9 tp5 p5).bind fun q5 => some (p1, q2, p3, p4, q5)
    | _ => none
  ok z v h := by
    split at h
    · obtain ⟨q2, hp2, h⟩ := Option.bind_eq_some_iff.1 h
      obtain ⟨q5, hp5, h⟩ := Option.bind_eq_some_iff.1 h
      cases h
      rw [asT_l hp2]
      rw [asT_a hp5]
      all_goals rfl
    · cases h
def io84 : Io T ((List S36) × Int × Int × (List (List UInt8))) where
  enc v := ([.sl 0 none, .d (.l 36 v.1), .d (.i .i64 v.2.1), .d (.i .i64 v.2.2.1)], [.arr 9 v.2.2.2])
  pat
    | ([.sl 0 none, .d (.l tp1 p1), .d (.i .i64 p2), .d (.i .i64 p3)], [.arr tp4 p4]) => (asT 36 tp1 p1).bind fun q1 => (asT 9 tp4 p4).bind fun q4 => some (q1, p2, p3, q4)
    | _ => none
  ok z v h := by
    split at h
    · obtain ⟨q1, hp1, h⟩ := Option.bind_eq_some_iff.1 h
      obtain ⟨q4, hp4, h⟩ := Option.bind_eq_some_iff.1 h
      cases h
      rw [asT_l hp1]
      rw [asT_a hp4]
      all_goals rfl
    · cases h
def io85 : Io T (List (List UInt8)) where
  enc v := ([.sl 0 none], [.arr 9 v])
  pat
    | ([.sl 0 none], [.arr tp1 p1]) => (asT 9 tp1 p1).bind fun q1 => some q1
    | _ => none
  ok z v h := by
    split at h
    · obtain ⟨q1, hp1, h⟩ := Option.bind_eq_some_iff.1 h
      cases h
      rw [asT_a hp1]
      all_goals rfl
    · cases h
def io86 : Io T ((List S36) × (List S36)) where
  enc v := ([.d (.l 36 v.1), .d (.l 36 v.2)], [])
  pat
    | ([.d (.l tp1 p1), .d (.l tp2 p2)], []) => (asT 36 tp1 p1).bind fun q1 => (asT 36 tp2 p2).bind fun q2 => some (q1, q2)
    | _ => none
  ok z v h := by
    split at h
    · obtain ⟨q1, hp1, h⟩ := Option.bind_eq_some_iff.1 h
      obtain ⟨q2, hp2, h⟩ := Option.bind_eq_some_iff.1 h
      cases h
      rw [asT_l hp1]
      rw [asT_l hp2]
      all_goals rfl
    · cases h
def io87 : Io T ((List S36) × (List S36) × Int × Int) where
  enc v := ([.d (.l 36 v.1), .d (.l 36 v.2.1), .d (.i .i64 v.2.2.1), .d (.i .i64 v.2.2.2)], [])
  pat
    | ([.d (.l tp1 p1), .d (.l tp2 p2), .d (.i .i64 p3), .d (.i .i64 p4)], []) => (asT 36 tp1 p1).bind fun q1 => (asT 36 tp2 p2).bind fun q2 => some (q1, q2, p3, p4)
    | _ => none
  ok z v h := by
    split at h
    · obtain ⟨q1, hp1, h⟩ := Option.bind_eq_some_iff.1 h
      obtain ⟨q2, hp2, h⟩ := Option.bind_eq_some_iff.1 h
      cases h
      rw [asT_l hp1]
      rw [asT_l hp2]
      all_goals rfl
    · cases h
def io88 : Io T ((List S36) × (List S36) × Int) where
  enc v := ([.d (.l 36 v.1), .d (.l 36 v.2.1), .d (.i .i64 v.2.2)], [])
  pat
    | ([.d (.l tp1 p1), .d (.l tp2 p2), .d (.i .i64 p3)], []) => (asT 36 tp1 p1).bind fun q1 => (asT 36 tp2 p2).bind fun q2 => some (q1, q2, p3)
    | _ => none
  ok z v h := by
    split at h
    · obtain ⟨q1, hp1, h⟩ := Option.bind_eq_some_iff.1 h
      obtain ⟨q2, hp2, h⟩ := Option.bind_eq_some_iff.1 h
      cases h
      rw [asT_l hp1]
      rw [asT_l hp2]
      all_goals rfl
    · cases h
def io89 : Io T (Bool × Bool × Bool × Int × Int × Int × Bool × Bool × (List S36)) where
  enc v := ([.ptr 0 0, .d (.b v.1), .sl 1 none, .d (.b v.2.1), .d (.b v.2.2.1), .d (.i .i64 v.2.2.2.1)], [.box [.d (.i .i64 v.2.2.2.2.1), .d (.i .i64 v.2.2.2.2.2.1), .d (.b v.2.2.2.2.2.2.1), .d (.b v.2.2.2.2.2.2.2.1)], .arr 36 v.2.2.2.2.2.2.2.2])
  pat
    | ([.ptr 0 0, .d (.b p1), .sl 1 none, .d (.b p2), .d (.b p3), .d (.i .i64 p4)], [.box [.d (.i .i64 p5), .d (.i .i64 p6), .d (.b p7), .d (.b p8)], .arr tp9 p9]) => (asT 36 tp9 p9).bind fun q9 => some (p1, p2, p3, p4, p5, p6, p7, p8, q9)
    | _ => none
  ok z v h := by
    split at h
    · obtain ⟨q9, hp9, h⟩ := Option.bind_eq_some_iff.1 h
      cases h
      rw [asT_a hp9]
      all_goals rfl
    · cases h
def io90 : Io T (Bool × Bool × Bool × Int × Int × Bool × Bool × (List S36)) where
  enc v := ([.ptr 0 0, .d (.b v.1), .sl 1 none, .d (.b v.2.1), .d (.b v.2.2.1)], [.box [.d (.i .i64 v.2.2.2.1), .d (.i .i64 v.2.2.2.2.1), .d (.b v.2.2.2.2.2.1), .d (.b v.2.2.2.2.2.2.1)], .arr 36 v.2.2.2.2.2.2.2])
  pat
    | ([.ptr 0 0, .d (.b p1), .sl 1 none, .d (.b p2), .d (.b p3)], [.box [.d (.i .i64 p4), .d (.i .i64 p5), .d (.b p6), .d (.b p7)], .arr tp8 p8]) => (asT 36 tp8 p8).bind fun q8 => some (p1, p2, p3, p4, p5, p6, p7, q8)
    | _ => none
  ok z v h := by
    split at h
    · obtain ⟨q8, hp8, h⟩ := Option.bind_eq_some_iff.1 h
      cases h
      rw [asT_a hp8]
      all_goals rfl
    · cases h
def io91 : Io T (Int × Int × Int × Int × Bool × Bool × Int) where
  enc v := ([.d (.i .i64 v.1), .d (.i .i64 v.2.1), .agg [.d (.i .i64 v.2.2.1), .d (.i .i64 v.2.2.2.1), .d (.b v.2.2.2.2.1), .d (.b v.2.2.2.2.2.1)], .d (.i .i64 v.2.2.2.2.2.2)], [])
  pat
    | ([.d (.i .i64 p1), .d (.i .i64 p2), .agg [.d (.i .i64 p3), .d (.i .i64 p4), .d (.b p5), .d (.b p6)], .d (.i .i64 p7)], []) => some (p1, p2, p3, p4, p5, p6, p7)
    | _ => none
  ok z v h := by
    split at h
    · cases h
      all_goals rfl
    · cases h
def io92 : Io T ((List UInt8) × (List UInt8) × Int × Int × Bool × Bool) where
  enc v := ([.d (.s v.1), .d (.s v.2.1), .agg [.d (.i .i64 v.2.2.1), .d (.i .i64 v.2.2.2.1), .d (.b v.2.2.2.2.1), .d (.b v.2.2.2.2.2)]], [])
  pat
    | ([.d (.s p1), .d (.s p2), .agg [.d (.i .i64 p3), .d (.i .i64 p4), .d (.b p5), .d (.b p6)]], []) => some (p1, p2, p3, p4, p5, p6)
    | _ => none
  ok z v h := by
    split at h
    · cases h
      all_goals rfl
    · cases h
def pe9 (p : List UInt8) : V T := .pv 9 [.s p]
def pp9 : V T → Option (List UInt8)
  | .pv t [.s x0] => bif t.beq 9 then some x0 else none
  | _ => none
theorem pp9_ok : ∀ (v : V T) (p : List UInt8), pp9 v = some p → v = pe9 p := by
  intro v p h
  unfold pp9 at h
  split at h
  · rename_i t x0
    cases hb : t.beq 9 with
    | false => rw [hb] at h; cases h
    | true => rw [hb] at h; cases h; rw [Nat.eq_of_beq_eq_true hb]; rfl
  · cases h
theorem pe9_pv : ∀ p : List UInt8, ∃ t ds, pe9 p = (.pv t ds : V T) := fun p => ⟨_, _, rfl⟩
def tab0 (k : Nat) : Tab T := noTab
def strings_TrimLeft (k : Nat) (a3 : List UInt8) (a4 : List UInt8) : Option (List UInt8) := trimL a3 a4
def tab1 (k : Nat) : Tab T := addTab 31 (line io0 io1 [] (fun v => strings_TrimLeft k v.1 v.2)) (tab0 k)
def stringslite_HasPrefix (k : Nat) (a1 : List UInt8) (a2 : List UInt8) : Option (Bool) :=
let v3 : Bool := (decide ((a1.length : Int) ≥ (a2.length : Int)))
cond ((decide (0 ≤ (a2.length : Int) ∧ (a2.length : Int) ≤ (a1.length : Int))) || !v3) (
let v4 : List UInt8 := (a1.take (a2.length : Int).toNat)
some (cond v3 (v4 == a2) false)) none
def stringslite_HasPrefix.kr (w0 : World) (k : Nat) : Kr T (Bool) := (kret (retK (cfg w0 (tab1 k)) Tryz.f63.results.toList 0 [] io2.pat))
def stringslite_HasPrefix.cuts (w0 : World) (k : Nat) : Cuts T (Bool) := fun n => none
def stringslite_HasPrefix.body : Code := bodyOf Tryz.f63
theorem stringslite_HasPrefix.e (w0 : World) (k : Nat) : ∀ v, (fun v => stringslite_HasPrefix k v.1 v.2) v = runK (cfg w0 (tab1 k)) Tryz.f63.ntmps (stringslite_HasPrefix.kr w0 k) (annot (stringslite_HasPrefix.cuts w0 k) stringslite_HasPrefix.body) (entry (io0.enc v).1 (io0.enc v).2) (endK (stringslite_HasPrefix.kr w0 k)) := by
  intro v; kernel_rfl
theorem stringslite_HasPrefix.hb : Tryz.f63.body = some stringslite_HasPrefix.body := by kernel_rfl
def tab2 (k : Nat) : Tab T := addTab 63 (line io0 io2 false (fun v => stringslite_HasPrefix k v.1 v.2)) (tab1 k)
def stringslite_CutPrefix (k : Nat) (a1 : List UInt8) (a2 : List UInt8) : Option ((List UInt8) × Bool) :=
(stringslite_HasPrefix k a1 a2).bind fun r3 =>
cond (!r3) (
some (a1, false)) (
cond (decide (0 ≤ (a2.length : Int) ∧ (a2.length : Int) ≤ (a1.length : Int))) (
let v4 : List UInt8 := (a1.drop (a2.length : Int).toNat)
some (v4, true)) none)
def stringslite_CutPrefix.kr (w0 : World) (k : Nat) : Kr T ((List UInt8) × Bool) := (kret (retK (cfg w0 (tab2 k)) Tryz.f54.results.toList 0 [] io3.pat))
def stringslite_CutPrefix.cuts (w0 : World) (k : Nat) : Cuts T ((List UInt8) × Bool) := fun n => none
def stringslite_CutPrefix.body : Code := bodyOf Tryz.f54
theorem stringslite_CutPrefix.e (w0 : World) (k : Nat) : ∀ v, (fun v => stringslite_CutPrefix k v.1 v.2) v = runK (cfg w0 (tab2 k)) Tryz.f54.ntmps (stringslite_CutPrefix.kr w0 k) (annot (stringslite_CutPrefix.cuts w0 k) stringslite_CutPrefix.body) (entry (io0.enc v).1 (io0.enc v).2) (endK (stringslite_CutPrefix.kr w0 k)) := by
  intro v; kernel_rfl
theorem stringslite_CutPrefix.hb : Tryz.f54.body = some stringslite_CutPrefix.body := by kernel_rfl
def tab3 (k : Nat) : Tab T := addTab 54 (line io0 io3 ([], false) (fun v => stringslite_CutPrefix k v.1 v.2)) (tab2 k)
def strings_CutPrefix (k : Nat) (a1 : List UInt8) (a2 : List UInt8) : Option ((List UInt8) × Bool) :=
(stringslite_CutPrefix k a1 a2).bind fun r3 =>
some (r3.1, r3.2)
def strings_CutPrefix.kr (w0 : World) (k : Nat) : Kr T ((List UInt8) × Bool) := (kret (retK (cfg w0 (tab3 k)) Tryz.f32.results.toList 0 [] io3.pat))
def strings_CutPrefix.cuts (w0 : World) (k : Nat) : Cuts T ((List UInt8) × Bool) := fun n => none
def strings_CutPrefix.body : Code := bodyOf Tryz.f32
theorem strings_CutPrefix.e (w0 : World) (k : Nat) : ∀ v, (fun v => strings_CutPrefix k v.1 v.2) v = runK (cfg w0 (tab3 k)) Tryz.f32.ntmps (strings_CutPrefix.kr w0 k) (annot (strings_CutPrefix.cuts w0 k) strings_CutPrefix.body) (entry (io0.enc v).1 (io0.enc v).2) (endK (strings_CutPrefix.kr w0 k)) := by
  intro v; kernel_rfl
theorem strings_CutPrefix.hb : Tryz.f32.body = some strings_CutPrefix.body := by kernel_rfl
def tab4 (k : Nat) : Tab T := addTab 32 (line io0 io3 ([], false) (fun v => strings_CutPrefix k v.1 v.2)) (tab3 k)
def strings_Index (k : Nat) (a5 : List UInt8) (a6 : List UInt8) : Option (Int) := findS a5 a6
def tab5 (k : Nat) : Tab T := addTab 33 (line io0 io4 (0 : Int) (fun v => strings_Index k v.1 v.2)) (tab4 k)
def f__strings_Builder__String (k : Nat) (a14 : List UInt8) : Option ((List UInt8) × (List UInt8)) := some (a14, a14)
def tab6 (k : Nat) : Tab T := addTab 28 (line io5 io6 ([], []) (fun v => f__strings_Builder__String k v)) (tab5 k)
def f__strings_Builder__WriteByte (k : Nat) (a21 : Int) (a22 : List UInt8) : Option (List UInt8) := wByte a22 a21
def tab7 (k : Nat) : Tab T := addTab 56 (line io7 io8 [] (fun v => f__strings_Builder__WriteByte k v.1 v.2)) (tab6 k)
def csstok_text.c7 (k : Nat) : Nat → (List UInt8) → Int → Int → (List UInt8) → (List UInt8) → Int → (List UInt8) → ((List UInt8) → Int → (List UInt8) → (List UInt8) → Int → Option (Int × (List UInt8) × (List UInt8) × Int)) → Option (Int × (List UInt8) × (List UInt8) × Int)
  | 0, _, _, _, _, _, _, _, _ => none
  | n + 1, x2, x3, x4, x5, x6, x7, x8, k0 =>
    let v9 : Bool := (decide (x3 < (x2.length : Int)))
    cond v9 (
    cond (decide (0 ≤ x3 ∧ x3 < (x2.length : Int))) (
    let v10 : Int := ((x2.getD x3.toNat 0).toNat : Int)
    cond (decide (0 ≤ (0 : Int) ∧ (0 : Int) < (x2.length : Int))) (
    let v11 : Int := ((x2.getD (0 : Int).toNat 0).toNat : Int)
    cond (v10 == v11) (
    let v12 : Int := (IntKind.wrap .i64 (x3 + (1 : Int)))
    cond (decide (0 ≤ v12 ∧ v12 ≤ (x2.length : Int))) (
    (f__strings_Builder__String k x8).bind fun r13 =>
    some ((5 : Int), (x2.take v12.toNat), r13.1, (0 : Int))) none) (
    cond (v10 == (10 : Int)) (
    cond (decide (0 ≤ x3 ∧ x3 ≤ (x2.length : Int))) (
    some ((6 : Int), (x2.take x3.toNat), [], (0 : Int))) none) (
    let v14 : Int := (IntKind.wrap .i64 (x3 + (1 : Int)))
    let v15 : Bool := (decide (v14 < (x2.length : Int)))
    let v16 : Bool := (cond (v10 == (92 : Int)) v15 false)
    cond v16 (
    let v17 : Int := (IntKind.wrap .i64 (x3 + (1 : Int)))
    cond (decide (0 ≤ v17 ∧ v17 < (x2.length : Int))) (
    let v18 : Int := ((x2.getD v17.toNat 0).toNat : Int)
    (f__strings_Builder__WriteByte k v18 x8).bind fun r19 =>
    let v20 : Int := (IntKind.wrap .i64 (v17 + (1 : Int)))
    csstok_text.c7 k n x2 v20 x4 x5 x6 x7 r19 k0) none) (
    (f__strings_Builder__WriteByte k v10 x8).bind fun r21 =>
    let v22 : Int := (IntKind.wrap .i64 (x3 + (1 : Int)))
    csstok_text.c7 k n x2 v22 x4 x5 x6 x7 r21 k0)))) none) none) (
    k0 x2 x4 x5 x6 x7)
def csstok_text (k : Nat) (a1 : List UInt8) : Option (Int × (List UInt8) × (List UInt8) × Int) :=
csstok_text.c7 k k a1 (1 : Int) (0 : Int) ([]) ([]) (0 : Int) ([] : List UInt8) (fun (y23 : List UInt8) (y24 : Int) (y25 : List UInt8) (y26 : List UInt8) (y27 : Int) =>
some ((6 : Int), y23, [], (0 : Int)))
def csstok_text.kr (w0 : World) (k : Nat) : Kr T (Int × (List UInt8) × (List UInt8) × Int) := (kret (retK (cfg w0 (tab7 k)) Tryz.f34.results.toList 0 [] io9.pat))
def csstok_text.x7 : Ex → Option (List Nat × List Sp)
  | .exit 0 => some ([0, 2], [])
  | _ => none
def csstok_text.L7 (k : Nat) (n : Nat) (v : (List UInt8) × Int × Int × (List UInt8) × (List UInt8) × Int × (List UInt8)) (K : Ex → St T → Option (Int × (List UInt8) × (List UInt8) × Int)) : Option (Int × (List UInt8) × (List UInt8) × Int) := csstok_text.c7 k n v.1 v.2.1 v.2.2.1 v.2.2.2.1 v.2.2.2.2.1 v.2.2.2.2.2.1 v.2.2.2.2.2.2 (fun y23 y24 y25 y26 y27 => K (.exit 0) (mkSt [0, 2] (io11.enc (y23, y24, y25, y26, y27))))
def csstok_text.cuts (w0 : World) (k : Nat) : Cuts T (Int × (List UInt8) × (List UInt8) × Int) := fun n => bif n.beq 7 then some (entK (cfg w0 (tab7 k)) 0 [0, 2, 3, 4] [] io10.pat (csstok_text.L7 k k)) else none
def csstok_text.body : Code := bodyOf Tryz.f34
def csstok_text.b7 : Code := findD 7 csstok_text.body
theorem csstok_text.s7 (w0 : World) (k : Nat) : ∀ n v K, csstok_text.L7 k (n + 1) v K = runK (cfg w0 (tab7 k)) Tryz.f34.ntmps (csstok_text.kr w0 k) (annot (csstok_text.cuts w0 k) csstok_text.b7) (mkSt [0, 2, 3, 4] (io10.enc v)) (loopK (cfg w0 (tab7 k)) 0 csstok_text.x7 (entK (cfg w0 (tab7 k)) 0 [0, 2, 3, 4] [] io10.pat (csstok_text.L7 k n)) K) := by
  intro n v K; kernel_rfl
theorem csstok_text.e (w0 : World) (k : Nat) : ∀ v, (fun v => csstok_text k v) v = runK (cfg w0 (tab7 k)) Tryz.f34.ntmps (csstok_text.kr w0 k) (annot (csstok_text.cuts w0 k) csstok_text.body) (entry (io1.enc v).1 (io1.enc v).2) (endK (csstok_text.kr w0 k)) := by
  intro v; kernel_rfl
theorem csstok_text.hb : Tryz.f34.body = some csstok_text.body := by kernel_rfl
def tab8 (k : Nat) : Tab T := addTab 34 (line io1 io9 ((0 : Int), [], [], (0 : Int)) (fun v => csstok_text k v)) (tab7 k)
def csstok_starts (k : Nat) (a1 : Int) : Option (Bool) :=
let v2 : Bool := (cond (decide (a1 ≥ (128 : Int))) true (a1 == (95 : Int)))
let v3 : Int := (IntKind.wrap .u8 (((BitVec.ofInt (IntKind.bits .u8) a1 ||| BitVec.ofInt (IntKind.bits .u8) (32 : Int)).toNat : Int)))
let v4 : Int := (IntKind.wrap .u8 (((BitVec.ofInt (IntKind.bits .u8) a1 ||| BitVec.ofInt (IntKind.bits .u8) (32 : Int)).toNat : Int)))
let v5 : Bool := (cond (decide (v3 ≥ (97 : Int))) (decide (v4 ≤ (122 : Int))) false)
some (cond v2 true v5)
def csstok_starts.kr (w0 : World) (k : Nat) : Kr T (Bool) := (kret (retK (cfg w0 (tab8 k)) Tryz.f57.results.toList 0 [] io2.pat))
def csstok_starts.cuts (w0 : World) (k : Nat) : Cuts T (Bool) := fun n => none
def csstok_starts.body : Code := bodyOf Tryz.f57
theorem csstok_starts.e (w0 : World) (k : Nat) : ∀ v, (fun v => csstok_starts k v) v = runK (cfg w0 (tab8 k)) Tryz.f57.ntmps (csstok_starts.kr w0 k) (annot (csstok_starts.cuts w0 k) csstok_starts.body) (entry (io12.enc v).1 (io12.enc v).2) (endK (csstok_starts.kr w0 k)) := by
  intro v; kernel_rfl
theorem csstok_starts.hb : Tryz.f57.body = some csstok_starts.body := by kernel_rfl
def tab9 (k : Nat) : Tab T := addTab 57 (line io12 io2 false (fun v => csstok_starts k v)) (tab8 k)
def csstok_digit (k : Nat) (a1 : Int) : Option (Bool) :=
let v2 : Bool := (cond (decide (a1 ≥ (48 : Int))) (decide (a1 ≤ (57 : Int))) false)
some v2
def csstok_digit.kr (w0 : World) (k : Nat) : Kr T (Bool) := (kret (retK (cfg w0 (tab9 k)) Tryz.f58.results.toList 0 [] io2.pat))
def csstok_digit.cuts (w0 : World) (k : Nat) : Cuts T (Bool) := fun n => none
def csstok_digit.body : Code := bodyOf Tryz.f58
theorem csstok_digit.e (w0 : World) (k : Nat) : ∀ v, (fun v => csstok_digit k v) v = runK (cfg w0 (tab9 k)) Tryz.f58.ntmps (csstok_digit.kr w0 k) (annot (csstok_digit.cuts w0 k) csstok_digit.body) (entry (io12.enc v).1 (io12.enc v).2) (endK (csstok_digit.kr w0 k)) := by
  intro v; kernel_rfl
theorem csstok_digit.hb : Tryz.f58.body = some csstok_digit.body := by kernel_rfl
def tab10 (k : Nat) : Tab T := addTab 58 (line io12 io2 false (fun v => csstok_digit k v)) (tab9 k)
def csstok_sign (k : Nat) (a1 : Int) : Option (Bool) :=
(csstok_starts k a1).bind fun r2 =>
(cond (!r2) (csstok_digit k a1) (some false)).bind fun r3 =>
let v4 : Bool := (cond (cond r2 true r3) true (a1 == (45 : Int)))
some v4
def csstok_sign.kr (w0 : World) (k : Nat) : Kr T (Bool) := (kret (retK (cfg w0 (tab10 k)) Tryz.f35.results.toList 0 [] io2.pat))
def csstok_sign.cuts (w0 : World) (k : Nat) : Cuts T (Bool) := fun n => none
def csstok_sign.body : Code := bodyOf Tryz.f35
theorem csstok_sign.e (w0 : World) (k : Nat) : ∀ v, (fun v => csstok_sign k v) v = runK (cfg w0 (tab10 k)) Tryz.f35.ntmps (csstok_sign.kr w0 k) (annot (csstok_sign.cuts w0 k) csstok_sign.body) (entry (io12.enc v).1 (io12.enc v).2) (endK (csstok_sign.kr w0 k)) := by
  intro v; kernel_rfl
theorem csstok_sign.hb : Tryz.f35.body = some csstok_sign.body := by kernel_rfl
def tab11 (k : Nat) : Tab T := addTab 35 (line io12 io2 false (fun v => csstok_sign k v)) (tab10 k)
def csstok_escape (k : Nat) (a1 : List UInt8) : Option (Bool) :=
let v2 : Bool := (decide ((a1.length : Int) > (1 : Int)))
cond ((decide (0 ≤ (0 : Int) ∧ (0 : Int) < (a1.length : Int))) || !v2) (
let v3 : Int := ((a1.getD (0 : Int).toNat 0).toNat : Int)
let v4 : Bool := (cond v2 (v3 == (92 : Int)) false)
cond ((decide (0 ≤ (1 : Int) ∧ (1 : Int) < (a1.length : Int))) || !v4) (
let v5 : Int := ((a1.getD (1 : Int).toNat 0).toNat : Int)
let v6 : Bool := (cond v4 (v5 != (10 : Int)) false)
some v6) none) none
def csstok_escape.kr (w0 : World) (k : Nat) : Kr T (Bool) := (kret (retK (cfg w0 (tab11 k)) Tryz.f36.results.toList 0 [] io2.pat))
def csstok_escape.cuts (w0 : World) (k : Nat) : Cuts T (Bool) := fun n => none
def csstok_escape.body : Code := bodyOf Tryz.f36
theorem csstok_escape.e (w0 : World) (k : Nat) : ∀ v, (fun v => csstok_escape k v) v = runK (cfg w0 (tab11 k)) Tryz.f36.ntmps (csstok_escape.kr w0 k) (annot (csstok_escape.cuts w0 k) csstok_escape.body) (entry (io1.enc v).1 (io1.enc v).2) (endK (csstok_escape.kr w0 k)) := by
  intro v; kernel_rfl
theorem csstok_escape.hb : Tryz.f36.body = some csstok_escape.body := by kernel_rfl
def tab12 (k : Nat) : Tab T := addTab 36 (line io1 io2 false (fun v => csstok_escape k v)) (tab11 k)
def csstok_name.c7 (k : Nat) : Nat → (List UInt8) → Int → (List UInt8) → (Int → (List UInt8) → Option ((List UInt8) × Int)) → Option ((List UInt8) × Int)
  | 0, _, _, _, _ => none
  | n + 1, x2, x3, x4, k0 =>
    let v5 : Bool := (decide (x3 < (x2.length : Int)))
    cond v5 (
    cond (decide (0 ≤ x3 ∧ x3 ≤ (x2.length : Int))) (
    (csstok_escape k (x2.drop x3.toNat)).bind fun r6 =>
    cond r6 (
    let v7 : Int := (IntKind.wrap .i64 (x3 + (1 : Int)))
    cond (decide (0 ≤ v7 ∧ v7 < (x2.length : Int))) (
    let v8 : Int := ((x2.getD v7.toNat 0).toNat : Int)
    (f__strings_Builder__WriteByte k v8 x4).bind fun r9 =>
    let v10 : Int := (IntKind.wrap .i64 (x3 + (2 : Int)))
    csstok_name.c7 k n x2 v10 r9 k0) none) (
    cond (decide (0 ≤ x3 ∧ x3 < (x2.length : Int))) (
    let v11 : Int := ((x2.getD x3.toNat 0).toNat : Int)
    (csstok_sign k v11).bind fun r12 =>
    cond r12 (
    cond (decide (0 ≤ x3 ∧ x3 < (x2.length : Int))) (
    let v13 : Int := ((x2.getD x3.toNat 0).toNat : Int)
    (f__strings_Builder__WriteByte k v13 x4).bind fun r14 =>
    let v15 : Int := (IntKind.wrap .i64 (x3 + (1 : Int)))
    csstok_name.c7 k n x2 v15 r14 k0) none) (
    (f__strings_Builder__String k x4).bind fun r16 =>
    some (r16.1, x3))) none)) none) (
    k0 x3 x4)
def csstok_name (k : Nat) (a1 : List UInt8) : Option ((List UInt8) × Int) :=
csstok_name.c7 k k a1 (0 : Int) ([] : List UInt8) (fun (y17 : Int) (y18 : List UInt8) =>
(f__strings_Builder__String k y18).bind fun r19 =>
some (r19.1, y17))
def csstok_name.kr (w0 : World) (k : Nat) : Kr T ((List UInt8) × Int) := (kret (retK (cfg w0 (tab12 k)) Tryz.f59.results.toList 0 [] io13.pat))
def csstok_name.x7 : Ex → Option (List Nat × List Sp)
  | .exit 0 => some ([4, 5], [])
  | _ => none
def csstok_name.L7 (k : Nat) (n : Nat) (v : (List UInt8) × Int × (List UInt8)) (K : Ex → St T → Option ((List UInt8) × Int)) : Option ((List UInt8) × Int) := csstok_name.c7 k n v.1 v.2.1 v.2.2 (fun y28 y29 => K (.exit 0) (mkSt [4, 5] (io15.enc (y28, y29))))
def csstok_name.cuts (w0 : World) (k : Nat) : Cuts T ((List UInt8) × Int) := fun n => bif n.beq 7 then some (entK (cfg w0 (tab12 k)) 0 [0, 4, 5] [] io14.pat (csstok_name.L7 k k)) else none
def csstok_name.body : Code := bodyOf Tryz.f59
def csstok_name.b7 : Code := findD 7 csstok_name.body
theorem csstok_name.s7 (w0 : World) (k : Nat) : ∀ n v K, csstok_name.L7 k (n + 1) v K = runK (cfg w0 (tab12 k)) Tryz.f59.ntmps (csstok_name.kr w0 k) (annot (csstok_name.cuts w0 k) csstok_name.b7) (mkSt [0, 4, 5] (io14.enc v)) (loopK (cfg w0 (tab12 k)) 0 csstok_name.x7 (entK (cfg w0 (tab12 k)) 0 [0, 4, 5] [] io14.pat (csstok_name.L7 k n)) K) := by
  intro n v K; kernel_rfl
theorem csstok_name.e (w0 : World) (k : Nat) : ∀ v, (fun v => csstok_name k v) v = runK (cfg w0 (tab12 k)) Tryz.f59.ntmps (csstok_name.kr w0 k) (annot (csstok_name.cuts w0 k) csstok_name.body) (entry (io1.enc v).1 (io1.enc v).2) (endK (csstok_name.kr w0 k)) := by
  intro v; kernel_rfl
theorem csstok_name.hb : Tryz.f59.body = some csstok_name.body := by kernel_rfl
def tab13 (k : Nat) : Tab T := addTab 59 (line io1 io13 ([], (0 : Int)) (fun v => csstok_name k v)) (tab12 k)
def csstok_named (k : Nat) (a1 : Int) (a2 : List UInt8) (a3 : Int) : Option (Int × (List UInt8) × (List UInt8) × Int) :=
cond (decide (0 ≤ a3 ∧ a3 ≤ (a2.length : Int))) (
(csstok_name k (a2.drop a3.toNat)).bind fun r4 =>
let v5 : Int := (IntKind.wrap .i64 (a3 + r4.2))
cond (decide (0 ≤ v5 ∧ v5 ≤ (a2.length : Int))) (
some (a1, (a2.take v5.toNat), r4.1, (0 : Int))) none) none
def csstok_named.kr (w0 : World) (k : Nat) : Kr T (Int × (List UInt8) × (List UInt8) × Int) := (kret (retK (cfg w0 (tab13 k)) Tryz.f37.results.toList 0 [] io9.pat))
def csstok_named.cuts (w0 : World) (k : Nat) : Cuts T (Int × (List UInt8) × (List UInt8) × Int) := fun n => none
def csstok_named.body : Code := bodyOf Tryz.f37
theorem csstok_named.e (w0 : World) (k : Nat) : ∀ v, (fun v => csstok_named k v.1 v.2.1 v.2.2) v = runK (cfg w0 (tab13 k)) Tryz.f37.ntmps (csstok_named.kr w0 k) (annot (csstok_named.cuts w0 k) csstok_named.body) (entry (io16.enc v).1 (io16.enc v).2) (endK (csstok_named.kr w0 k)) := by
  intro v; kernel_rfl
theorem csstok_named.hb : Tryz.f37.body = some csstok_named.body := by kernel_rfl
def tab14 (k : Nat) : Tab T := addTab 37 (line io16 io9 ((0 : Int), [], [], (0 : Int)) (fun v => csstok_named k v.1 v.2.1 v.2.2)) (tab13 k)
def csstok_begins (k : Nat) (a1 : List UInt8) : Option (Bool) :=
cond (a1 == ([] : List UInt8)) (
some false) (
cond (decide (0 ≤ (0 : Int) ∧ (0 : Int) < (a1.length : Int))) (
let v2 : Int := ((a1.getD (0 : Int).toNat 0).toNat : Int)
let v3 : Bool := (decide ((a1.length : Int) > (1 : Int)))
let v4 : Bool := (cond (v2 == (45 : Int)) v3 false)
cond v4 (
cond (decide (0 ≤ (1 : Int) ∧ (1 : Int) < (a1.length : Int))) (
let v5 : Int := ((a1.getD (1 : Int).toNat 0).toNat : Int)
cond ((decide (0 ≤ (1 : Int) ∧ (1 : Int) < (a1.length : Int))) || !(!(v5 == (45 : Int)))) (
let v6 : Int := ((a1.getD (1 : Int).toNat 0).toNat : Int)
(cond (!(v5 == (45 : Int))) (csstok_starts k v6) (some false)).bind fun r7 =>
let v8 : Bool := (cond (v5 == (45 : Int)) true r7)
cond ((decide (0 ≤ (1 : Int) ∧ (1 : Int) ≤ (a1.length : Int))) || !(!v8)) (
(cond (!v8) (csstok_escape k (a1.drop (1 : Int).toNat)) (some false)).bind fun r9 =>
some (cond v8 true r9)) none) none) none) (
cond (decide (0 ≤ (0 : Int) ∧ (0 : Int) < (a1.length : Int))) (
let v10 : Int := ((a1.getD (0 : Int).toNat 0).toNat : Int)
(csstok_starts k v10).bind fun r11 =>
(cond (!r11) (csstok_escape k a1) (some false)).bind fun r12 =>
some (cond r11 true r12)) none)) none)
def csstok_begins.kr (w0 : World) (k : Nat) : Kr T (Bool) := (kret (retK (cfg w0 (tab14 k)) Tryz.f38.results.toList 0 [] io2.pat))
def csstok_begins.cuts (w0 : World) (k : Nat) : Cuts T (Bool) := fun n => none
def csstok_begins.body : Code := bodyOf Tryz.f38
theorem csstok_begins.e (w0 : World) (k : Nat) : ∀ v, (fun v => csstok_begins k v) v = runK (cfg w0 (tab14 k)) Tryz.f38.ntmps (csstok_begins.kr w0 k) (annot (csstok_begins.cuts w0 k) csstok_begins.body) (entry (io1.enc v).1 (io1.enc v).2) (endK (csstok_begins.kr w0 k)) := by
  intro v; kernel_rfl
theorem csstok_begins.hb : Tryz.f38.body = some csstok_begins.body := by kernel_rfl
def tab15 (k : Nat) : Tab T := addTab 38 (line io1 io2 false (fun v => csstok_begins k v)) (tab14 k)
def csstok_digits (k : Nat) (a1 : List UInt8) : Option (Int) :=
(strings_TrimLeft k a1 ([48, 49, 50, 51, 52, 53, 54, 55, 56, 57] : List UInt8)).bind fun r2 =>
let v3 : Int := (IntKind.wrap .i64 ((a1.length : Int) - (r2.length : Int)))
some v3
def csstok_digits.kr (w0 : World) (k : Nat) : Kr T (Int) := (kret (retK (cfg w0 (tab15 k)) Tryz.f60.results.toList 0 [] io4.pat))
def csstok_digits.cuts (w0 : World) (k : Nat) : Cuts T (Int) := fun n => none
def csstok_digits.body : Code := bodyOf Tryz.f60
theorem csstok_digits.e (w0 : World) (k : Nat) : ∀ v, (fun v => csstok_digits k v) v = runK (cfg w0 (tab15 k)) Tryz.f60.ntmps (csstok_digits.kr w0 k) (annot (csstok_digits.cuts w0 k) csstok_digits.body) (entry (io1.enc v).1 (io1.enc v).2) (endK (csstok_digits.kr w0 k)) := by
  intro v; kernel_rfl
theorem csstok_digits.hb : Tryz.f60.body = some csstok_digits.body := by kernel_rfl
def tab16 (k : Nat) : Tab T := addTab 60 (line io1 io4 (0 : Int) (fun v => csstok_digits k v)) (tab15 k)
def strings_HasPrefix (k : Nat) (a1 : List UInt8) (a2 : List UInt8) : Option (Bool) :=
(stringslite_HasPrefix k a1 a2).bind fun r3 =>
some r3
def strings_HasPrefix.kr (w0 : World) (k : Nat) : Kr T (Bool) := (kret (retK (cfg w0 (tab16 k)) Tryz.f41.results.toList 0 [] io2.pat))
def strings_HasPrefix.cuts (w0 : World) (k : Nat) : Cuts T (Bool) := fun n => none
def strings_HasPrefix.body : Code := bodyOf Tryz.f41
theorem strings_HasPrefix.e (w0 : World) (k : Nat) : ∀ v, (fun v => strings_HasPrefix k v.1 v.2) v = runK (cfg w0 (tab16 k)) Tryz.f41.ntmps (strings_HasPrefix.kr w0 k) (annot (strings_HasPrefix.cuts w0 k) strings_HasPrefix.body) (entry (io0.enc v).1 (io0.enc v).2) (endK (strings_HasPrefix.kr w0 k)) := by
  intro v; kernel_rfl
theorem strings_HasPrefix.hb : Tryz.f41.body = some strings_HasPrefix.body := by kernel_rfl
def tab17 (k : Nat) : Tab T := addTab 41 (line io0 io2 false (fun v => strings_HasPrefix k v.1 v.2)) (tab16 k)
def csstok_Number_1 (k : Nat) (a1 : Int) (a2 : Int) : Option (Int) :=
let v3 : Int := (IntKind.wrap .i64 ((10 : Int) * a2))
let v4 : Int := (IntKind.wrap .u8 (a1 - (48 : Int)))
let v5 : Int := (IntKind.wrap .i64 (v3 + (IntKind.wrap .i64 v4)))
let v6 : Int := (if (1000000000 : Int) < v5 then (1000000000 : Int) else v5)
some v6
def csstok_Number_1.kr (w0 : World) (k : Nat) : Kr T (Int) := (kret (retK (cfg w0 (tab17 k)) Tryz.f61.results.toList 1 [] io18.pat))
def csstok_Number_1.cuts (w0 : World) (k : Nat) : Cuts T (Int) := fun n => none
def csstok_Number_1.body : Code := bodyOf Tryz.f61
theorem csstok_Number_1.e (w0 : World) (k : Nat) : ∀ v, (fun v => csstok_Number_1 k v.1 v.2) v = runK (cfg w0 (tab17 k)) Tryz.f61.ntmps (csstok_Number_1.kr w0 k) (annot (csstok_Number_1.cuts w0 k) csstok_Number_1.body) (entry (io17.enc v).1 (io17.enc v).2) (endK (csstok_Number_1.kr w0 k)) := by
  intro v; kernel_rfl
theorem csstok_Number_1.hb : Tryz.f61.body = some csstok_Number_1.body := by kernel_rfl
def tab18 (k : Nat) : Tab T := addTab 61 (line io17 io18 (0 : Int) (fun v => csstok_Number_1 k v.1 v.2)) (tab17 k)
def csstok_Number.c29 (k : Nat) : Nat → (List UInt8) → Int → Int → Int → Int → Int → Int → (List Int) → ((List UInt8) → Int → Int → Int → Int → Option (Int × Int)) → Option (Int × Int)
  | 0, _, _, _, _, _, _, _, _, _ => none
  | n + 1, x19, x20, x21, x22, x23, x24, x25, x26, k0 =>
    cond (decide (x24 < x23)) (
    cond (decide (0 ≤ x24 ∧ x24 < (x26.length : Int))) (
    (csstok_Number_1 k (x26.getD x24.toNat (0 : Int)) x25).bind fun r27 =>
    let v28 : Int := (IntKind.wrap .i64 (x24 + (1 : Int)))
    csstok_Number.c29 k n x19 x20 x21 x22 x23 v28 r27 x26 k0) none) (
    k0 x19 x20 x21 x22 x25)
def csstok_Number.c49 (k : Nat) : Nat → (List UInt8) → Int → (List UInt8) → Int → Int → ((List UInt8) → Int → Int → Option (Int × Int)) → Option (Int × Int)
  | 0, _, _, _, _, _, _ => none
  | n + 1, x45, x46, x47, x48, x49, k2 =>
    cond (decide (x48 < (3 : Int))) (
    let v50 : Bool := (decide (x48 < (x47.length : Int)))
    cond v50 (
    cond (decide (0 ≤ x48 ∧ x48 < (x47.length : Int))) (
    let v51 : Int := ((x47.getD x48.toNat 0).toNat : Int)
    (csstok_Number_1 k v51 x49).bind fun r52 =>
    let v53 : Int := (IntKind.wrap .i64 (x48 + (1 : Int)))
    csstok_Number.c49 k n x45 x46 x47 v53 r52 k2) none) (
    (csstok_Number_1 k (48 : Int) x49).bind fun r54 =>
    let v55 : Int := (IntKind.wrap .i64 (x48 + (1 : Int)))
    csstok_Number.c49 k n x45 x46 x47 v55 r54 k2)) (
    k2 x45 x46 x49)
def csstok_Number.c64 (k : Nat) (x60 : Int) (x61 : Int)  : Option (Int × Int) :=
some (x61, x60)
def csstok_Number.c46 (k : Nat) (x41 : List UInt8) (x42 : Int) (x43 : List UInt8) (x44 : Int)  : Option (Int × Int) :=
csstok_Number.c49 k k x41 x42 x43 (0 : Int) x44 (fun (y56 : List UInt8) (y57 : Int) (y58 : Int) =>
cond (decide (0 ≤ (0 : Int) ∧ (0 : Int) < (y56.length : Int))) (
let v59 : Int := ((y56.getD (0 : Int).toNat 0).toNat : Int)
cond (v59 == (45 : Int)) (
csstok_Number.c64 k y57 (IntKind.wrap .i64 (0 - y58))) (
csstok_Number.c64 k y57 y58)) none)
def csstok_Number.c18 (k : Nat) (x12 : List UInt8) (x13 : Int) (x14 : Int) (x15 : Int)  : Option (Int × Int) :=
let v16 : Int := (IntKind.wrap .i64 (x14 + x15))
cond (v16 == (0 : Int)) (
some ((0 : Int), (0 : Int))) (
let v17 : Int := (IntKind.wrap .i64 (x13 + x14))
cond (decide (0 ≤ x13 ∧ x13 ≤ v17 ∧ v17 ≤ (x12.length : Int))) (
let v18 : List UInt8 := ((x12.take v17.toNat).drop x13.toNat)
csstok_Number.c29 k k x12 x13 x14 x15 ((bytesI v18).length : Int) (0 : Int) (0 : Int) (bytesI v18) (fun (y29 : List UInt8) (y30 : Int) (y31 : Int) (y32 : Int) (y33 : Int) =>
let v34 : Int := (IntKind.wrap .i64 (y30 + y31))
cond (decide (y32 > (0 : Int))) (
let v35 : Int := (IntKind.wrap .i64 (v34 + (1 : Int)))
let v36 : Int := (IntKind.wrap .i64 (v34 + (1 : Int)))
let v37 : Int := (IntKind.wrap .i64 (v36 + y32))
cond (decide (0 ≤ v35 ∧ v35 ≤ v37 ∧ v37 ≤ (y29.length : Int))) (
let v38 : List UInt8 := ((y29.take v37.toNat).drop v35.toNat)
let v39 : Int := (IntKind.wrap .i64 ((1 : Int) + y32))
let v40 : Int := (IntKind.wrap .i64 (v34 + v39))
csstok_Number.c46 k y29 v40 v38 y33) none) (
csstok_Number.c46 k y29 v34 ([] : List UInt8) y33))) none)
def csstok_Number.c8 (k : Nat) (x6 : List UInt8) (x7 : Int)  : Option (Int × Int) :=
cond (decide (0 ≤ x7 ∧ x7 ≤ (x6.length : Int))) (
(csstok_digits k (x6.drop x7.toNat)).bind fun r8 =>
cond (decide (0 ≤ (IntKind.wrap .i64 (x7 + r8)) ∧ (IntKind.wrap .i64 (x7 + r8)) ≤ (x6.length : Int))) (
let v9 : List UInt8 := (x6.drop (IntKind.wrap .i64 (x7 + r8)).toNat)
(strings_HasPrefix k v9 ([46] : List UInt8)).bind fun r10 =>
cond r10 (
cond (decide (0 ≤ (1 : Int) ∧ (1 : Int) ≤ (v9.length : Int))) (
(csstok_digits k (v9.drop (1 : Int).toNat)).bind fun r11 =>
csstok_Number.c18 k x6 x7 r8 r11) none) (
csstok_Number.c18 k x6 x7 r8 (0 : Int))) none) none
def csstok_Number (k : Nat) (a1 : List UInt8) : Option (Int × Int) :=
cond ((decide (0 ≤ (0 : Int) ∧ (0 : Int) < (a1.length : Int))) || !(!(a1 == ([] : List UInt8)))) (
let v2 : Int := ((a1.getD (0 : Int).toNat 0).toNat : Int)
cond ((decide (0 ≤ (0 : Int) ∧ (0 : Int) < (a1.length : Int))) || !((!(a1 == ([] : List UInt8))) && (!(v2 == (43 : Int))))) (
let v3 : Int := ((a1.getD (0 : Int).toNat 0).toNat : Int)
let v4 : Bool := (cond (v2 == (43 : Int)) true (v3 == (45 : Int)))
let v5 : Bool := (cond (!(a1 == ([] : List UInt8))) v4 false)
cond v5 (
csstok_Number.c8 k a1 (1 : Int)) (
csstok_Number.c8 k a1 (0 : Int))) none) none
def csstok_Number.kr (w0 : World) (k : Nat) : Kr T (Int × Int) := (kret (retK (cfg w0 (tab18 k)) Tryz.f39.results.toList 0 [] io19.pat))
def csstok_Number.x29 : Ex → Option (List Nat × List Sp)
  | .exit 0 => some ([0, 4, 5, 6, 8, 9], [])
  | _ => none
def csstok_Number.L29 (k : Nat) (n : Nat) (v : (List UInt8) × Int × Int × Int × Int × Int × Int × (List Int)) (K : Ex → St T → Option (Int × Int)) : Option (Int × Int) := csstok_Number.c29 k n v.1 v.2.1 v.2.2.1 v.2.2.2.1 v.2.2.2.2.1 v.2.2.2.2.2.1 v.2.2.2.2.2.2.1 v.2.2.2.2.2.2.2 (fun y30 y31 y32 y33 y34 => K (.exit 0) (mkSt [0, 4, 5, 6, 8, 9] (io21.enc (y30, y31, y32, y33, y34))))
def csstok_Number.x49 : Ex → Option (List Nat × List Sp)
  | .exit 2 => some ([0, 8, 12], [])
  | _ => none
def csstok_Number.L49 (k : Nat) (n : Nat) (v : (List UInt8) × Int × (List UInt8) × Int × Int) (K : Ex → St T → Option (Int × Int)) : Option (Int × Int) := csstok_Number.c49 k n v.1 v.2.1 v.2.2.1 v.2.2.2.1 v.2.2.2.2 (fun y35 y36 y37 => K (.exit 2) (mkSt [0, 8, 12] (io23.enc (y35, y36, y37))))
def csstok_Number.x64 : Ex → Option (List Nat × List Sp)
  | _ => none
def csstok_Number.L64 (k : Nat) (v : Int × Int) (K : Ex → St T → Option (Int × Int)) : Option (Int × Int) := csstok_Number.c64 k v.1 v.2
def csstok_Number.x46 : Ex → Option (List Nat × List Sp)
  | _ => none
def csstok_Number.L46 (k : Nat) (v : (List UInt8) × Int × (List UInt8) × Int) (K : Ex → St T → Option (Int × Int)) : Option (Int × Int) := csstok_Number.c46 k v.1 v.2.1 v.2.2.1 v.2.2.2
def csstok_Number.x18 : Ex → Option (List Nat × List Sp)
  | _ => none
def csstok_Number.L18 (k : Nat) (v : (List UInt8) × Int × Int × Int) (K : Ex → St T → Option (Int × Int)) : Option (Int × Int) := csstok_Number.c18 k v.1 v.2.1 v.2.2.1 v.2.2.2
def csstok_Number.x8 : Ex → Option (List Nat × List Sp)
  | _ => none
def csstok_Number.L8 (k : Nat) (v : (List UInt8) × Int) (K : Ex → St T → Option (Int × Int)) : Option (Int × Int) := csstok_Number.c8 k v.1 v.2
def csstok_Number.cuts (w0 : World) (k : Nat) : Cuts T (Int × Int) := fun n => bif n.beq 29 then some (entK (cfg w0 (tab18 k)) 0 [0, 4, 5, 6, 8, 9, 52, 53, 54] [] io20.pat (csstok_Number.L29 k k)) else bif n.beq 49 then some (entK (cfg w0 (tab18 k)) 0 [0, 8, 9, 12, 13, 79] [] io22.pat (csstok_Number.L49 k k)) else bif n.beq 64 then some (entK (cfg w0 (tab18 k)) 0 [8, 12] [] io24.pat (csstok_Number.L64 k)) else bif n.beq 46 then some (entK (cfg w0 (tab18 k)) 0 [0, 8, 9, 12, 13] [] io25.pat (csstok_Number.L46 k)) else bif n.beq 18 then some (entK (cfg w0 (tab18 k)) 0 [0, 4, 5, 6] [] io26.pat (csstok_Number.L18 k)) else bif n.beq 8 then some (entK (cfg w0 (tab18 k)) 0 [0, 4] [] io13.pat (csstok_Number.L8 k)) else none
def csstok_Number.body : Code := bodyOf Tryz.f39
def csstok_Number.b29 : Code := findD 29 csstok_Number.body
theorem csstok_Number.s29 (w0 : World) (k : Nat) : ∀ n v K, csstok_Number.L29 k (n + 1) v K = runK (cfg w0 (tab18 k)) Tryz.f39.ntmps (csstok_Number.kr w0 k) (annot (csstok_Number.cuts w0 k) csstok_Number.b29) (mkSt [0, 4, 5, 6, 8, 9, 52, 53, 54] (io20.enc v)) (loopK (cfg w0 (tab18 k)) 0 csstok_Number.x29 (entK (cfg w0 (tab18 k)) 0 [0, 4, 5, 6, 8, 9, 52, 53, 54] [] io20.pat (csstok_Number.L29 k n)) K) := by
  intro n v K; kernel_rfl
def csstok_Number.b49 : Code := findD 49 csstok_Number.body
theorem csstok_Number.s49 (w0 : World) (k : Nat) : ∀ n v K, csstok_Number.L49 k (n + 1) v K = runK (cfg w0 (tab18 k)) Tryz.f39.ntmps (csstok_Number.kr w0 k) (annot (csstok_Number.cuts w0 k) csstok_Number.b49) (mkSt [0, 8, 9, 12, 13, 79] (io22.enc v)) (loopK (cfg w0 (tab18 k)) 0 csstok_Number.x49 (entK (cfg w0 (tab18 k)) 0 [0, 8, 9, 12, 13, 79] [] io22.pat (csstok_Number.L49 k n)) K) := by
  intro n v K; kernel_rfl
def csstok_Number.b64 : Code := findD 64 csstok_Number.body
theorem csstok_Number.s64 (w0 : World) (k : Nat) : ∀ v K, csstok_Number.L64 k v K = runK (cfg w0 (tab18 k)) Tryz.f39.ntmps (csstok_Number.kr w0 k) (annot (csstok_Number.cuts w0 k) csstok_Number.b64) (mkSt [8, 12] (io24.enc v)) (outK (cfg w0 (tab18 k)) 0 csstok_Number.x64 K) := by
  intro v K; kernel_rfl
def csstok_Number.b46 : Code := findD 46 csstok_Number.body
theorem csstok_Number.s46 (w0 : World) (k : Nat) : ∀ v K, csstok_Number.L46 k v K = runK (cfg w0 (tab18 k)) Tryz.f39.ntmps (csstok_Number.kr w0 k) (annot (csstok_Number.cuts w0 k) csstok_Number.b46) (mkSt [0, 8, 9, 12, 13] (io25.enc v)) (outK (cfg w0 (tab18 k)) 0 csstok_Number.x46 K) := by
  intro v K; kernel_rfl
def csstok_Number.b18 : Code := findD 18 csstok_Number.body
theorem csstok_Number.s18 (w0 : World) (k : Nat) : ∀ v K, csstok_Number.L18 k v K = runK (cfg w0 (tab18 k)) Tryz.f39.ntmps (csstok_Number.kr w0 k) (annot (csstok_Number.cuts w0 k) csstok_Number.b18) (mkSt [0, 4, 5, 6] (io26.enc v)) (outK (cfg w0 (tab18 k)) 0 csstok_Number.x18 K) := by
  intro v K; kernel_rfl
def csstok_Number.b8 : Code := findD 8 csstok_Number.body
theorem csstok_Number.s8 (w0 : World) (k : Nat) : ∀ v K, csstok_Number.L8 k v K = runK (cfg w0 (tab18 k)) Tryz.f39.ntmps (csstok_Number.kr w0 k) (annot (csstok_Number.cuts w0 k) csstok_Number.b8) (mkSt [0, 4] (io13.enc v)) (outK (cfg w0 (tab18 k)) 0 csstok_Number.x8 K) := by
  intro v K; kernel_rfl
theorem csstok_Number.e (w0 : World) (k : Nat) : ∀ v, (fun v => csstok_Number k v) v = runK (cfg w0 (tab18 k)) Tryz.f39.ntmps (csstok_Number.kr w0 k) (annot (csstok_Number.cuts w0 k) csstok_Number.body) (entry (io1.enc v).1 (io1.enc v).2) (endK (csstok_Number.kr w0 k)) := by
  intro v; kernel_rfl
theorem csstok_Number.hb : Tryz.f39.body = some csstok_Number.body := by kernel_rfl
def tab19 (k : Nat) : Tab T := addTab 39 (line io1 io19 ((0 : Int), (0 : Int)) (fun v => csstok_Number k v)) (tab18 k)
def csstok_lower.c7 (k : Nat) : Nat → Int → Int → (List Int) → ((List Int) → Option (List UInt8)) → Option (List UInt8)
  | 0, _, _, _, _ => none
  | n + 1, x2, x3, x4, k0 =>
    cond (decide (x3 < x2)) (
    cond (decide (0 ≤ x3 ∧ x3 < (x4.length : Int))) (
    let v5 : Bool := (decide ((x4.getD x3.toNat (0 : Int)) ≥ (65 : Int)))
    let v6 : Bool := (decide ((x4.getD x3.toNat (0 : Int)) ≤ (90 : Int)))
    cond (cond v5 v6 false) (
    let v7 : Int := (IntKind.wrap .u8 ((x4.getD x3.toNat (0 : Int)) + (32 : Int)))
    cond (decide (0 ≤ x3 ∧ x3 < (x4.length : Int))) (
    let v8 : Int := (IntKind.wrap .i64 (x3 + (1 : Int)))
    csstok_lower.c7 k n x2 v8 (x4.set x3.toNat v7) k0) none) (
    let v9 : Int := (IntKind.wrap .i64 (x3 + (1 : Int)))
    csstok_lower.c7 k n x2 v9 x4 k0)) none) (
    k0 x4)
def csstok_lower (k : Nat) (a1 : List UInt8) : Option (List UInt8) :=
csstok_lower.c7 k k ((bytesI a1).length : Int) (0 : Int) (bytesI a1) (fun (y10 : List Int) =>
some (bytesU y10))
def csstok_lower.kr (w0 : World) (k : Nat) : Kr T (List UInt8) := (kret (retK (cfg w0 (tab19 k)) Tryz.f62.results.toList 0 [] io1.pat))
def csstok_lower.x7 : Ex → Option (List Nat × List Sp)
  | .exit 0 => some ([3], [])
  | _ => none
def csstok_lower.L7 (k : Nat) (n : Nat) (v : Int × Int × (List Int)) (K : Ex → St T → Option (List UInt8)) : Option (List UInt8) := csstok_lower.c7 k n v.1 v.2.1 v.2.2 (fun y38 => K (.exit 0) (mkSt [3] (io28.enc y38)))
def csstok_lower.cuts (w0 : World) (k : Nat) : Cuts T (List UInt8) := fun n => bif n.beq 7 then some (entK (cfg w0 (tab19 k)) 0 [3, 8, 9, 10] [] io27.pat (csstok_lower.L7 k k)) else none
def csstok_lower.body : Code := bodyOf Tryz.f62
def csstok_lower.b7 : Code := findD 7 csstok_lower.body
theorem csstok_lower.s7 (w0 : World) (k : Nat) : ∀ n v K, csstok_lower.L7 k (n + 1) v K = runK (cfg w0 (tab19 k)) Tryz.f62.ntmps (csstok_lower.kr w0 k) (annot (csstok_lower.cuts w0 k) csstok_lower.b7) (mkSt [3, 8, 9, 10] (io27.enc v)) (loopK (cfg w0 (tab19 k)) 0 csstok_lower.x7 (entK (cfg w0 (tab19 k)) 0 [3, 8, 9, 10] [] io27.pat (csstok_lower.L7 k n)) K) := by
  intro n v K; kernel_rfl
theorem csstok_lower.e (w0 : World) (k : Nat) : ∀ v, (fun v => csstok_lower k v) v = runK (cfg w0 (tab19 k)) Tryz.f62.ntmps (csstok_lower.kr w0 k) (annot (csstok_lower.cuts w0 k) csstok_lower.body) (entry (io1.enc v).1 (io1.enc v).2) (endK (csstok_lower.kr w0 k)) := by
  intro v; kernel_rfl
theorem csstok_lower.hb : Tryz.f62.body = some csstok_lower.body := by kernel_rfl
def tab20 (k : Nat) : Tab T := addTab 62 (line io1 io1 [] (fun v => csstok_lower k v)) (tab19 k)
def csstok_number.c16 (k : Nat) (x6 : Int) (x7 : List UInt8) (x8 : List UInt8) (x9 : Int) (x10 : Int) (x11 : List UInt8) (x12 : List UInt8) (x13 : Int)  : Option (Int × (List UInt8) × (List UInt8) × Int) :=
some (x10, x11, x12, x13)
def csstok_number (k : Nat) (a1 : List UInt8) (a2 : Int) (a3 : Int) : Option (Int × (List UInt8) × (List UInt8) × Int) :=
cond (decide (0 ≤ a3 ∧ a3 ≤ (a1.length : Int))) (
cond (decide (0 ≤ a3 ∧ a3 ≤ (a1.length : Int))) (
(strings_HasPrefix k (a1.drop a3.toNat) ([37] : List UInt8)).bind fun r4 =>
cond r4 (
let v5 : Int := (IntKind.wrap .i64 (a3 + (1 : Int)))
cond (decide (0 ≤ v5 ∧ v5 ≤ (a1.length : Int))) (
csstok_number.c16 k (0 : Int) ([]) ([]) (0 : Int) (7 : Int) (a1.take v5.toNat) ([37] : List UInt8) a2) none) (
(csstok_begins k (a1.drop a3.toNat)).bind fun r14 =>
cond r14 (
(csstok_name k (a1.drop a3.toNat)).bind fun r15 =>
let v16 : Int := (IntKind.wrap .i64 (a3 + r15.2))
cond (decide (0 ≤ v16 ∧ v16 ≤ (a1.length : Int))) (
(csstok_lower k r15.1).bind fun r17 =>
csstok_number.c16 k (0 : Int) ([]) ([]) (0 : Int) (7 : Int) (a1.take v16.toNat) r17 a2) none) (
csstok_number.c16 k (0 : Int) ([]) ([]) (0 : Int) (7 : Int) (a1.take a3.toNat) ([]) a2))) none) none
def csstok_number.kr (w0 : World) (k : Nat) : Kr T (Int × (List UInt8) × (List UInt8) × Int) := (kret (retK (cfg w0 (tab20 k)) Tryz.f40.results.toList 0 [] io9.pat))
def csstok_number.x16 : Ex → Option (List Nat × List Sp)
  | _ => none
def csstok_number.L16 (k : Nat) (v : Int × (List UInt8) × (List UInt8) × Int × Int × (List UInt8) × (List UInt8) × Int) (K : Ex → St T → Option (Int × (List UInt8) × (List UInt8) × Int)) : Option (Int × (List UInt8) × (List UInt8) × Int) := csstok_number.c16 k v.1 v.2.1 v.2.2.1 v.2.2.2.1 v.2.2.2.2.1 v.2.2.2.2.2.1 v.2.2.2.2.2.2.1 v.2.2.2.2.2.2.2
def csstok_number.cuts (w0 : World) (k : Nat) : Cuts T (Int × (List UInt8) × (List UInt8) × Int) := fun n => bif n.beq 16 then some (entK (cfg w0 (tab20 k)) 0 [6, 7] [] io30.pat (csstok_number.L16 k)) else none
def csstok_number.body : Code := bodyOf Tryz.f40
def csstok_number.b16 : Code := findD 16 csstok_number.body
theorem csstok_number.s16 (w0 : World) (k : Nat) : ∀ v K, csstok_number.L16 k v K = runK (cfg w0 (tab20 k)) Tryz.f40.ntmps (csstok_number.kr w0 k) (annot (csstok_number.cuts w0 k) csstok_number.b16) (mkSt [6, 7] (io30.enc v)) (outK (cfg w0 (tab20 k)) 0 csstok_number.x16 K) := by
  intro v K; kernel_rfl
theorem csstok_number.e (w0 : World) (k : Nat) : ∀ v, (fun v => csstok_number k v.1 v.2.1 v.2.2) v = runK (cfg w0 (tab20 k)) Tryz.f40.ntmps (csstok_number.kr w0 k) (annot (csstok_number.cuts w0 k) csstok_number.body) (entry (io29.enc v).1 (io29.enc v).2) (endK (csstok_number.kr w0 k)) := by
  intro v; kernel_rfl
theorem csstok_number.hb : Tryz.f40.body = some csstok_number.body := by kernel_rfl
def tab21 (k : Nat) : Tab T := addTab 40 (line io29 io9 ((0 : Int), [], [], (0 : Int)) (fun v => csstok_number k v.1 v.2.1 v.2.2)) (tab20 k)
def csstok_first_1 (k : Nat) (a1 : Int) (a2 : List UInt8) : Option (Int × (List UInt8) × (List UInt8) × Int × (List UInt8)) :=
cond (decide (0 ≤ (1 : Int) ∧ (1 : Int) ≤ (a2.length : Int))) (
some (a1, (a2.take (1 : Int).toNat), [], (0 : Int), a2)) none
def csstok_first_1.kr (w0 : World) (k : Nat) : Kr T (Int × (List UInt8) × (List UInt8) × Int × (List UInt8)) := (kret (retK (cfg w0 (tab21 k)) Tryz.f30.results.toList 1 [] io32.pat))
def csstok_first_1.cuts (w0 : World) (k : Nat) : Cuts T (Int × (List UInt8) × (List UInt8) × Int × (List UInt8)) := fun n => none
def csstok_first_1.body : Code := bodyOf Tryz.f30
theorem csstok_first_1.e (w0 : World) (k : Nat) : ∀ v, (fun v => csstok_first_1 k v.1 v.2) v = runK (cfg w0 (tab21 k)) Tryz.f30.ntmps (csstok_first_1.kr w0 k) (annot (csstok_first_1.cuts w0 k) csstok_first_1.body) (entry (io31.enc v).1 (io31.enc v).2) (endK (csstok_first_1.kr w0 k)) := by
  intro v; kernel_rfl
theorem csstok_first_1.hb : Tryz.f30.body = some csstok_first_1.body := by kernel_rfl
def tab22 (k : Nat) : Tab T := addTab 30 (line io31 io32 ((0 : Int), [], [], (0 : Int), []) (fun v => csstok_first_1 k v.1 v.2)) (tab21 k)
def csstok_first.c20 (k : Nat) (x7 : List UInt8) (x8 : Int) (x9 : List UInt8) (x10 : List UInt8) (x11 : Int)  : Option (Int × (List UInt8) × (List UInt8) × Int) :=
some ((9 : Int), x7, [], (0 : Int))
def csstok_first.c52 (k : Nat) (x32 : Int) (x33 : List UInt8) (x34 : List UInt8) (x35 : Int) (x36 : Int) (x37 : List UInt8) (x38 : List UInt8) (x39 : Int)  : Option (Int × (List UInt8) × (List UInt8) × Int) :=
some (x36, x37, x38, x39)
def csstok_first.c76 (k : Nat) (x44 : Int) (x45 : List UInt8) (x46 : List UInt8) (x47 : Int) (x48 : List UInt8)  : Option (Int × (List UInt8) × (List UInt8) × Int) :=
(csstok_first_1 k (12 : Int) x48).bind fun r49 =>
some (r49.1, r49.2.1, r49.2.2.1, r49.2.2.2.1)
def csstok_first (k : Nat) (a1 : List UInt8) : Option (Int × (List UInt8) × (List UInt8) × Int) :=
(strings_TrimLeft k a1 ([32, 9, 10, 12, 13] : List UInt8)).bind fun r2 =>
let v3 : Int := (IntKind.wrap .i64 ((a1.length : Int) - (r2.length : Int)))
cond (decide (v3 > (0 : Int))) (
cond (decide (0 ≤ v3 ∧ v3 ≤ (a1.length : Int))) (
some ((8 : Int), (a1.take v3.toNat), [], (0 : Int))) none) (
(strings_CutPrefix k a1 ([47, 42] : List UInt8)).bind fun r4 =>
cond r4.2 (
(strings_Index k r4.1 ([42, 47] : List UInt8)).bind fun r5 =>
cond (decide (r5 ≥ (0 : Int))) (
let v6 : Int := (IntKind.wrap .i64 (r5 + (4 : Int)))
cond (decide (0 ≤ v6 ∧ v6 ≤ (a1.length : Int))) (
csstok_first.c20 k (a1.take v6.toNat) (0 : Int) ([]) ([]) (0 : Int)) none) (
csstok_first.c20 k a1 (0 : Int) ([]) ([]) (0 : Int))) (
cond (decide (0 ≤ (0 : Int) ∧ (0 : Int) < (a1.length : Int))) (
let v12 : Int := ((a1.getD (0 : Int).toNat 0).toNat : Int)
let v13 : Bool := (cond (v12 == (39 : Int)) true (v12 == (34 : Int)))
cond v13 (
(csstok_text k a1).bind fun r14 =>
some (r14.1, r14.2.1, r14.2.2.1, r14.2.2.2)) (
let v15 : Bool := (decide ((a1.length : Int) > (1 : Int)))
let v16 : Bool := (cond (v12 == (35 : Int)) v15 false)
cond ((decide (0 ≤ (1 : Int) ∧ (1 : Int) < (a1.length : Int))) || !v16) (
let v17 : Int := ((a1.getD (1 : Int).toNat 0).toNat : Int)
(cond v16 (csstok_sign k v17) (some false)).bind fun r18 =>
cond ((decide (0 ≤ (1 : Int) ∧ (1 : Int) ≤ (a1.length : Int))) || !(v16 && (!r18))) (
(cond (v16 && (!r18)) (csstok_escape k (a1.drop (1 : Int).toNat)) (some false)).bind fun r19 =>
let v20 : Bool := (cond v16 (cond r18 true r19) false)
cond v20 (
(csstok_named k (4 : Int) a1 (1 : Int)).bind fun r21 =>
some (r21.1, r21.2.1, r21.2.2.1, r21.2.2.2)) (
cond ((decide (0 ≤ (1 : Int) ∧ (1 : Int) ≤ (a1.length : Int))) || !(v12 == (64 : Int))) (
(cond (v12 == (64 : Int)) (csstok_begins k (a1.drop (1 : Int).toNat)) (some false)).bind fun r22 =>
let v23 : Bool := (cond (v12 == (64 : Int)) r22 false)
cond v23 (
(csstok_named k (3 : Int) a1 (1 : Int)).bind fun r24 =>
some (r24.1, r24.2.1, r24.2.2.1, r24.2.2.2)) (
(csstok_Number k a1).bind fun r25 =>
cond (decide (r25.2 > (0 : Int))) (
(csstok_number k a1 r25.1 r25.2).bind fun r26 =>
some (r26.1, r26.2.1, r26.2.2.1, r26.2.2.2)) (
(csstok_begins k a1).bind fun r27 =>
cond r27 (
(csstok_named k (1 : Int) a1 (0 : Int)).bind fun r28 =>
cond (decide (0 ≤ (r28.2.1.length : Int) ∧ (r28.2.1.length : Int) ≤ (a1.length : Int))) (
let v29 : List UInt8 := (a1.drop (r28.2.1.length : Int).toNat)
(strings_HasPrefix k v29 ([40] : List UInt8)).bind fun r30 =>
cond r30 (
let v31 : Int := (IntKind.wrap .i64 ((r28.2.1.length : Int) + (1 : Int)))
cond (decide (0 ≤ v31 ∧ v31 ≤ (a1.length : Int))) (
csstok_first.c52 k (0 : Int) ([]) ([]) (0 : Int) (2 : Int) (a1.take v31.toNat) r28.2.2.1 r28.2.2.2) none) (
csstok_first.c52 k (0 : Int) ([]) ([]) (0 : Int) r28.1 r28.2.1 r28.2.2.1 r28.2.2.2)) none) (
cond (decide (0 ≤ (0 : Int) ∧ (0 : Int) < (a1.length : Int))) (
let v40 : Int := ((a1.getD (0 : Int).toNat 0).toNat : Int)
cond (v40 == (40 : Int)) (
cond (v40 == (40 : Int)) (
(csstok_first_1 k (10 : Int) a1).bind fun r41 =>
some (r41.1, r41.2.1, r41.2.2.1, r41.2.2.2.1)) (
cond (v40 == (41 : Int)) (
cond (v40 == (41 : Int)) (
(csstok_first_1 k (11 : Int) a1).bind fun r42 =>
some (r42.1, r42.2.1, r42.2.2.1, r42.2.2.2.1)) (
cond (v40 == (92 : Int)) (
(csstok_first_1 k (6 : Int) a1).bind fun r43 =>
some (r43.1, r43.2.1, r43.2.2.1, r43.2.2.2.1)) (
csstok_first.c76 k (0 : Int) ([]) ([]) (0 : Int) a1))) (
cond (v40 == (93 : Int)) (
cond (v40 == (93 : Int)) (
(csstok_first_1 k (11 : Int) a1).bind fun r50 =>
some (r50.1, r50.2.1, r50.2.2.1, r50.2.2.2.1)) (
cond (v40 == (92 : Int)) (
(csstok_first_1 k (6 : Int) a1).bind fun r51 =>
some (r51.1, r51.2.1, r51.2.2.1, r51.2.2.2.1)) (
csstok_first.c76 k (0 : Int) ([]) ([]) (0 : Int) a1))) (
cond (v40 == (125 : Int)) (
(csstok_first_1 k (11 : Int) a1).bind fun r52 =>
some (r52.1, r52.2.1, r52.2.2.1, r52.2.2.2.1)) (
cond (v40 == (92 : Int)) (
(csstok_first_1 k (6 : Int) a1).bind fun r53 =>
some (r53.1, r53.2.1, r53.2.2.1, r53.2.2.2.1)) (
csstok_first.c76 k (0 : Int) ([]) ([]) (0 : Int) a1)))))) (
cond (v40 == (91 : Int)) (
cond (v40 == (91 : Int)) (
(csstok_first_1 k (10 : Int) a1).bind fun r54 =>
some (r54.1, r54.2.1, r54.2.2.1, r54.2.2.2.1)) (
cond (v40 == (41 : Int)) (
cond (v40 == (41 : Int)) (
(csstok_first_1 k (11 : Int) a1).bind fun r55 =>
some (r55.1, r55.2.1, r55.2.2.1, r55.2.2.2.1)) (
cond (v40 == (92 : Int)) (
(csstok_first_1 k (6 : Int) a1).bind fun r56 =>
some (r56.1, r56.2.1, r56.2.2.1, r56.2.2.2.1)) (
csstok_first.c76 k (0 : Int) ([]) ([]) (0 : Int) a1))) (
cond (v40 == (93 : Int)) (
cond (v40 == (93 : Int)) (
(csstok_first_1 k (11 : Int) a1).bind fun r57 =>
some (r57.1, r57.2.1, r57.2.2.1, r57.2.2.2.1)) (
cond (v40 == (92 : Int)) (
(csstok_first_1 k (6 : Int) a1).bind fun r58 =>
some (r58.1, r58.2.1, r58.2.2.1, r58.2.2.2.1)) (
csstok_first.c76 k (0 : Int) ([]) ([]) (0 : Int) a1))) (
cond (v40 == (125 : Int)) (
(csstok_first_1 k (11 : Int) a1).bind fun r59 =>
some (r59.1, r59.2.1, r59.2.2.1, r59.2.2.2.1)) (
cond (v40 == (92 : Int)) (
(csstok_first_1 k (6 : Int) a1).bind fun r60 =>
some (r60.1, r60.2.1, r60.2.2.1, r60.2.2.2.1)) (
csstok_first.c76 k (0 : Int) ([]) ([]) (0 : Int) a1)))))) (
cond (v40 == (123 : Int)) (
(csstok_first_1 k (10 : Int) a1).bind fun r61 =>
some (r61.1, r61.2.1, r61.2.2.1, r61.2.2.2.1)) (
cond (v40 == (41 : Int)) (
cond (v40 == (41 : Int)) (
(csstok_first_1 k (11 : Int) a1).bind fun r62 =>
some (r62.1, r62.2.1, r62.2.2.1, r62.2.2.2.1)) (
cond (v40 == (92 : Int)) (
(csstok_first_1 k (6 : Int) a1).bind fun r63 =>
some (r63.1, r63.2.1, r63.2.2.1, r63.2.2.2.1)) (
csstok_first.c76 k (0 : Int) ([]) ([]) (0 : Int) a1))) (
cond (v40 == (93 : Int)) (
cond (v40 == (93 : Int)) (
(csstok_first_1 k (11 : Int) a1).bind fun r64 =>
some (r64.1, r64.2.1, r64.2.2.1, r64.2.2.2.1)) (
cond (v40 == (92 : Int)) (
(csstok_first_1 k (6 : Int) a1).bind fun r65 =>
some (r65.1, r65.2.1, r65.2.2.1, r65.2.2.2.1)) (
csstok_first.c76 k (0 : Int) ([]) ([]) (0 : Int) a1))) (
cond (v40 == (125 : Int)) (
(csstok_first_1 k (11 : Int) a1).bind fun r66 =>
some (r66.1, r66.2.1, r66.2.2.1, r66.2.2.2.1)) (
cond (v40 == (92 : Int)) (
(csstok_first_1 k (6 : Int) a1).bind fun r67 =>
some (r67.1, r67.2.1, r67.2.2.1, r67.2.2.2.1)) (
csstok_first.c76 k (0 : Int) ([]) ([]) (0 : Int) a1)))))))) none)))) none)) none) none)) none))
def csstok_first.kr (w0 : World) (k : Nat) : Kr T (Int × (List UInt8) × (List UInt8) × Int) := (kret (retK (cfg w0 (tab22 k)) Tryz.f19.results.toList 0 [] io9.pat))
def csstok_first.x20 : Ex → Option (List Nat × List Sp)
  | _ => none
def csstok_first.L20 (k : Nat) (v : (List UInt8) × Int × (List UInt8) × (List UInt8) × Int) (K : Ex → St T → Option (Int × (List UInt8) × (List UInt8) × Int)) : Option (Int × (List UInt8) × (List UInt8) × Int) := csstok_first.c20 k v.1 v.2.1 v.2.2.1 v.2.2.2.1 v.2.2.2.2
def csstok_first.x52 : Ex → Option (List Nat × List Sp)
  | _ => none
def csstok_first.L52 (k : Nat) (v : Int × (List UInt8) × (List UInt8) × Int × Int × (List UInt8) × (List UInt8) × Int) (K : Ex → St T → Option (Int × (List UInt8) × (List UInt8) × Int)) : Option (Int × (List UInt8) × (List UInt8) × Int) := csstok_first.c52 k v.1 v.2.1 v.2.2.1 v.2.2.2.1 v.2.2.2.2.1 v.2.2.2.2.2.1 v.2.2.2.2.2.2.1 v.2.2.2.2.2.2.2
def csstok_first.x76 : Ex → Option (List Nat × List Sp)
  | _ => none
def csstok_first.L76 (k : Nat) (v : Int × (List UInt8) × (List UInt8) × Int × (List UInt8)) (K : Ex → St T → Option (Int × (List UInt8) × (List UInt8) × Int)) : Option (Int × (List UInt8) × (List UInt8) × Int) := csstok_first.c76 k v.1 v.2.1 v.2.2.1 v.2.2.2.1 v.2.2.2.2
def csstok_first.cuts (w0 : World) (k : Nat) : Cuts T (Int × (List UInt8) × (List UInt8) × Int) := fun n => bif n.beq 20 then some (entK (cfg w0 (tab22 k)) 0 [1, 2] [] io33.pat (csstok_first.L20 k)) else bif n.beq 52 then some (entK (cfg w0 (tab22 k)) 0 [2, 11] [] io30.pat (csstok_first.L52 k)) else bif n.beq 76 then some (entK (cfg w0 (tab22 k)) 0 [2, 3] [] io34.pat (csstok_first.L76 k)) else none
def csstok_first.body : Code := bodyOf Tryz.f19
def csstok_first.b20 : Code := findD 20 csstok_first.body
theorem csstok_first.s20 (w0 : World) (k : Nat) : ∀ v K, csstok_first.L20 k v K = runK (cfg w0 (tab22 k)) Tryz.f19.ntmps (csstok_first.kr w0 k) (annot (csstok_first.cuts w0 k) csstok_first.b20) (mkSt [1, 2] (io33.enc v)) (outK (cfg w0 (tab22 k)) 0 csstok_first.x20 K) := by
  intro v K; kernel_rfl
def csstok_first.b52 : Code := findD 52 csstok_first.body
theorem csstok_first.s52 (w0 : World) (k : Nat) : ∀ v K, csstok_first.L52 k v K = runK (cfg w0 (tab22 k)) Tryz.f19.ntmps (csstok_first.kr w0 k) (annot (csstok_first.cuts w0 k) csstok_first.b52) (mkSt [2, 11] (io30.enc v)) (outK (cfg w0 (tab22 k)) 0 csstok_first.x52 K) := by
  intro v K; kernel_rfl
def csstok_first.b76 : Code := findD 76 csstok_first.body
theorem csstok_first.s76 (w0 : World) (k : Nat) : ∀ v K, csstok_first.L76 k v K = runK (cfg w0 (tab22 k)) Tryz.f19.ntmps (csstok_first.kr w0 k) (annot (csstok_first.cuts w0 k) csstok_first.b76) (mkSt [2, 3] (io34.enc v)) (outK (cfg w0 (tab22 k)) 0 csstok_first.x76 K) := by
  intro v K; kernel_rfl
theorem csstok_first.e (w0 : World) (k : Nat) : ∀ v, (fun v => csstok_first k v) v = runK (cfg w0 (tab22 k)) Tryz.f19.ntmps (csstok_first.kr w0 k) (annot (csstok_first.cuts w0 k) csstok_first.body) (entry (io1.enc v).1 (io1.enc v).2) (endK (csstok_first.kr w0 k)) := by
  intro v; kernel_rfl
theorem csstok_first.hb : Tryz.f19.body = some csstok_first.body := by kernel_rfl
def tab23 (k : Nat) : Tab T := addTab 19 (line io1 io9 ((0 : Int), [], [], (0 : Int)) (fun v => csstok_first k v)) (tab22 k)
def csstok_Cut.c5 (k : Nat) : Nat → (List UInt8) → (List S55) → ((List S55) → Option (List S55)) → Option (List S55)
  | 0, _, _, _ => none
  | n + 1, x2, x3, k0 =>
    cond (!(x2 == ([] : List UInt8))) (
    (csstok_first k x2).bind fun r4 =>
    let v5 : List S55 := [(⟨r4.1, r4.2.1, r4.2.2.1, r4.2.2.2⟩ : S55)]
    cond (decide ((x3 ++ v5).length < most)) (
    cond (decide (0 ≤ (r4.2.1.length : Int) ∧ (r4.2.1.length : Int) ≤ (x2.length : Int))) (
    let v6 : List UInt8 := (x2.drop (r4.2.1.length : Int).toNat)
    csstok_Cut.c5 k n v6 (x3 ++ v5) k0) none) none) (
    k0 x3)
def csstok_Cut (k : Nat) (a1 : List UInt8) : Option (List S55) :=
csstok_Cut.c5 k k a1 ([] : List S55) (fun (y7 : List S55) =>
some y7)
def csstok_Cut.kr (w0 : World) (k : Nat) : Kr T (List S55) := (kret (retK (cfg w0 (tab23 k)) Tryz.f13.results.toList 0 [.own 0 55] io35.pat))
def csstok_Cut.x5 : Ex → Option (List Nat × List Sp)
  | .exit 0 => some ([3], [.own 3 55])
  | _ => none
def csstok_Cut.L5 (k : Nat) (n : Nat) (v : (List UInt8) × (List S55)) (K : Ex → St T → Option (List S55)) : Option (List S55) := csstok_Cut.c5 k n v.1 v.2 (fun y39 => K (.exit 0) (mkSt [3] (io35.enc y39)))
def csstok_Cut.cuts (w0 : World) (k : Nat) : Cuts T (List S55) := fun n => bif n.beq 5 then some (entK (cfg w0 (tab23 k)) 0 [0, 3] [.own 3 55] io36.pat (csstok_Cut.L5 k k)) else none
def csstok_Cut.body : Code := bodyOf Tryz.f13
def csstok_Cut.b5 : Code := findD 5 csstok_Cut.body
theorem csstok_Cut.s5 (w0 : World) (k : Nat) : ∀ n v K, csstok_Cut.L5 k (n + 1) v K = runK (cfg w0 (tab23 k)) Tryz.f13.ntmps (csstok_Cut.kr w0 k) (annot (csstok_Cut.cuts w0 k) csstok_Cut.b5) (mkSt [0, 3] (io36.enc v)) (loopK (cfg w0 (tab23 k)) 0 csstok_Cut.x5 (entK (cfg w0 (tab23 k)) 0 [0, 3] [.own 3 55] io36.pat (csstok_Cut.L5 k n)) K) := by
  intro n v K; kernel_rfl
theorem csstok_Cut.e (w0 : World) (k : Nat) : ∀ v, (fun v => csstok_Cut k v) v = runK (cfg w0 (tab23 k)) Tryz.f13.ntmps (csstok_Cut.kr w0 k) (annot (csstok_Cut.cuts w0 k) csstok_Cut.body) (entry (io1.enc v).1 (io1.enc v).2) (endK (csstok_Cut.kr w0 k)) := by
  intro v; kernel_rfl
theorem csstok_Cut.hb : Tryz.f13.body = some csstok_Cut.body := by kernel_rfl
def tab24 (k : Nat) : Tab T := addTab 13 (line io1 io35 [] (fun v => csstok_Cut k v)) (tab23 k)
def media_solid.c7 (k : Nat) : Nat → (List S55) → Int → Int → (List S55) → ((List S55) → Option (List S55)) → Option (List S55)
  | 0, _, _, _, _, _ => none
  | n + 1, x2, x3, x4, x5, k0 =>
    cond (decide (x4 < x3)) (
    cond (decide (0 ≤ x4 ∧ x4 < (x2.length : Int))) (
    let v6 : Bool := (((x2.getD x4.toNat S55.d).Kind) != (8 : Int))
    let v7 : Bool := (((x2.getD x4.toNat S55.d).Kind) != (9 : Int))
    cond (cond v6 v7 false) (
    let v8 : List S55 := [(⟨(x2.getD x4.toNat S55.d).Kind, (x2.getD x4.toNat S55.d).Raw, (x2.getD x4.toNat S55.d).Value, (x2.getD x4.toNat S55.d).Num⟩ : S55)]
    cond (decide ((x5 ++ v8).length < most)) (
    let v9 : Int := (IntKind.wrap .i64 (x4 + (1 : Int)))
    media_solid.c7 k n x2 x3 v9 (x5 ++ v8) k0) none) (
    let v10 : Int := (IntKind.wrap .i64 (x4 + (1 : Int)))
    media_solid.c7 k n x2 x3 v10 x5 k0)) none) (
    k0 x5)
def media_solid (k : Nat) (a1 : List S55) : Option (List S55) :=
media_solid.c7 k k a1 (a1.length : Int) (0 : Int) ([] : List S55) (fun (y11 : List S55) =>
some y11)
def media_solid.kr (w0 : World) (k : Nat) : Kr T (List S55) := (kret (retK (cfg w0 (tab24 k)) Tryz.f12.results.toList 0 [.own 0 55] io35.pat))
def media_solid.x7 : Ex → Option (List Nat × List Sp)
  | .exit 0 => some ([3], [.own 3 55])
  | _ => none
def media_solid.L7 (k : Nat) (n : Nat) (v : (List S55) × Int × Int × (List S55)) (K : Ex → St T → Option (List S55)) : Option (List S55) := media_solid.c7 k n v.1 v.2.1 v.2.2.1 v.2.2.2 (fun y40 => K (.exit 0) (mkSt [3] (io35.enc y40)))
def media_solid.cuts (w0 : World) (k : Nat) : Cuts T (List S55) := fun n => bif n.beq 7 then some (entK (cfg w0 (tab24 k)) 0 [3, 6, 7, 8] [.own 3 55] io38.pat (media_solid.L7 k k)) else none
def media_solid.body : Code := bodyOf Tryz.f12
def media_solid.b7 : Code := findD 7 media_solid.body
theorem media_solid.s7 (w0 : World) (k : Nat) : ∀ n v K, media_solid.L7 k (n + 1) v K = runK (cfg w0 (tab24 k)) Tryz.f12.ntmps (media_solid.kr w0 k) (annot (media_solid.cuts w0 k) media_solid.b7) (mkSt [3, 6, 7, 8] (io38.enc v)) (loopK (cfg w0 (tab24 k)) 0 media_solid.x7 (entK (cfg w0 (tab24 k)) 0 [3, 6, 7, 8] [.own 3 55] io38.pat (media_solid.L7 k n)) K) := by
  intro n v K; kernel_rfl
theorem media_solid.e (w0 : World) (k : Nat) : ∀ v, (fun v => media_solid k v) v = runK (cfg w0 (tab24 k)) Tryz.f12.ntmps (media_solid.kr w0 k) (annot (media_solid.cuts w0 k) media_solid.body) (entry (io37.enc v).1 (io37.enc v).2) (endK (media_solid.kr w0 k)) := by
  intro v; kernel_rfl
theorem media_solid.hb : Tryz.f12.body = some media_solid.body := by kernel_rfl
def tab25 (k : Nat) : Tab T := addTab 12 (line io37 io35 [] (fun v => media_solid k v)) (tab24 k)
def media_end.c26 (k : Nat) (x12 : Int) (x13 : List S55) (x14 : Int) (x15 : Int) (x16 : List (Int × Int)) (x17 : List Int) (kn : (List S55) → Int → Int → (List (Int × Int)) → (List Int) → Option (Int)) : Option (Int) :=
let v18 : Bool := ((x17.length : Int) == (0 : Int))
cond v18 (
let v19 : Int := (IntKind.wrap .i64 (x12 + (1 : Int)))
some v19) (
kn x13 x14 x15 x16 x17)
def media_end.c9 (k : Nat) : Nat → (List S55) → Int → Int → (List (Int × Int)) → (List Int) → (Option (Int)) → Option (Int)
  | 0, _, _, _, _, _, _ => none
  | n + 1, x2, x3, x4, x5, x6, k0 =>
    cond (decide (x4 < x3)) (
    cond (decide (0 ≤ x4 ∧ x4 < (x2.length : Int))) (
    let v7 : Bool := (((x2.getD x4.toNat S55.d).Kind) == (10 : Int))
    cond v7 (
    cond v7 (
    let v8 : Int := (((x2.getD x4.toNat S55.d).Raw).length : Int)
    let v9 : Int := (IntKind.wrap .i64 (v8 - (1 : Int)))
    cond (decide (0 ≤ v9 ∧ v9 < (((x2.getD x4.toNat S55.d).Raw).length : Int))) (
    let v10 : Int := ((((x2.getD x4.toNat S55.d).Raw).getD v9.toNat 0).toNat : Int)
    let v11 : Int := ((mget (some .u8) v10 x5).getD (0 : Int))
    cond (decide ((x6 ++ ([v11])).length < most)) (
    media_end.c26 k x4 x2 x3 x4 x5 (x6 ++ ([v11])) (fun (y20 : List S55) (y21 : Int) (y22 : Int) (y23 : List (Int × Int)) (y24 : List Int) =>
    let v25 : Int := (IntKind.wrap .i64 (y22 + (1 : Int)))
    media_end.c9 k n y20 y21 v25 y23 y24 k0)) none) none) (
    let v26 : Bool := (((x2.getD x4.toNat S55.d).Kind) == (11 : Int))
    cond v26 (
    cond (decide (0 ≤ (0 : Int) ∧ (0 : Int) < (((x2.getD x4.toNat S55.d).Raw).length : Int))) (
    let v27 : Int := ((((x2.getD x4.toNat S55.d).Raw).getD (0 : Int).toNat 0).toNat : Int)
    let v28 : Int := (IntKind.wrap .i64 ((x6.length : Int) - (1 : Int)))
    cond (decide (0 ≤ v28 ∧ v28 < (x6.length : Int))) (
    let v29 : Bool := (v27 == (x6.getD v28.toNat (0 : Int)))
    cond v29 (
    let v30 : Int := (IntKind.wrap .i64 ((x6.length : Int) - (1 : Int)))
    cond (decide (0 ≤ v30 ∧ v30 ≤ (x6.length : Int))) (
    media_end.c26 k x4 x2 x3 x4 x5 ((x6.drop 0).take v30.toNat) (fun (y31 : List S55) (y32 : Int) (y33 : Int) (y34 : List (Int × Int)) (y35 : List Int) =>
    let v36 : Int := (IntKind.wrap .i64 (y33 + (1 : Int)))
    media_end.c9 k n y31 y32 v36 y34 y35 k0)) none) (
    media_end.c26 k x4 x2 x3 x4 x5 x6 (fun (y37 : List S55) (y38 : Int) (y39 : Int) (y40 : List (Int × Int)) (y41 : List Int) =>
    let v42 : Int := (IntKind.wrap .i64 (y39 + (1 : Int)))
    media_end.c9 k n y37 y38 v42 y40 y41 k0))) none) none) (
    media_end.c26 k x4 x2 x3 x4 x5 x6 (fun (y43 : List S55) (y44 : Int) (y45 : Int) (y46 : List (Int × Int)) (y47 : List Int) =>
    let v48 : Int := (IntKind.wrap .i64 (y45 + (1 : Int)))
    media_end.c9 k n y43 y44 v48 y46 y47 k0)))) (
    let v49 : Bool := (((x2.getD x4.toNat S55.d).Kind) == (2 : Int))
    cond v49 (
    let v50 : Int := (((x2.getD x4.toNat S55.d).Raw).length : Int)
    let v51 : Int := (IntKind.wrap .i64 (v50 - (1 : Int)))
    cond (decide (0 ≤ v51 ∧ v51 < (((x2.getD x4.toNat S55.d).Raw).length : Int))) (
    let v52 : Int := ((((x2.getD x4.toNat S55.d).Raw).getD v51.toNat 0).toNat : Int)
    let v53 : Int := ((mget (some .u8) v52 x5).getD (0 : Int))
    cond (decide ((x6 ++ ([v53])).length < most)) (
    media_end.c26 k x4 x2 x3 x4 x5 (x6 ++ ([v53])) (fun (y54 : List S55) (y55 : Int) (y56 : Int) (y57 : List (Int × Int)) (y58 : List Int) =>
    let v59 : Int := (IntKind.wrap .i64 (y56 + (1 : Int)))
    media_end.c9 k n y54 y55 v59 y57 y58 k0)) none) none) (
    let v60 : Bool := (((x2.getD x4.toNat S55.d).Kind) == (11 : Int))
    cond v60 (
    cond (decide (0 ≤ (0 : Int) ∧ (0 : Int) < (((x2.getD x4.toNat S55.d).Raw).length : Int))) (
    let v61 : Int := ((((x2.getD x4.toNat S55.d).Raw).getD (0 : Int).toNat 0).toNat : Int)
    let v62 : Int := (IntKind.wrap .i64 ((x6.length : Int) - (1 : Int)))
    cond (decide (0 ≤ v62 ∧ v62 < (x6.length : Int))) (
    let v63 : Bool := (v61 == (x6.getD v62.toNat (0 : Int)))
    cond v63 (
    let v64 : Int := (IntKind.wrap .i64 ((x6.length : Int) - (1 : Int)))
    cond (decide (0 ≤ v64 ∧ v64 ≤ (x6.length : Int))) (
    media_end.c26 k x4 x2 x3 x4 x5 ((x6.drop 0).take v64.toNat) (fun (y65 : List S55) (y66 : Int) (y67 : Int) (y68 : List (Int × Int)) (y69 : List Int) =>
    let v70 : Int := (IntKind.wrap .i64 (y67 + (1 : Int)))
    media_end.c9 k n y65 y66 v70 y68 y69 k0)) none) (
    media_end.c26 k x4 x2 x3 x4 x5 x6 (fun (y71 : List S55) (y72 : Int) (y73 : Int) (y74 : List (Int × Int)) (y75 : List Int) =>
    let v76 : Int := (IntKind.wrap .i64 (y73 + (1 : Int)))
    media_end.c9 k n y71 y72 v76 y74 y75 k0))) none) none) (
    media_end.c26 k x4 x2 x3 x4 x5 x6 (fun (y77 : List S55) (y78 : Int) (y79 : Int) (y80 : List (Int × Int)) (y81 : List Int) =>
    let v82 : Int := (IntKind.wrap .i64 (y79 + (1 : Int)))
    media_end.c9 k n y77 y78 v82 y80 y81 k0))))) none) (
    k0)
def media_end (k : Nat) (a1 : List S55) : Option (Int) :=
media_end.c9 k k a1 (a1.length : Int) (0 : Int) (mput (some .u8) (123 : Int) (125 : Int) (mput (some .u8) (91 : Int) (93 : Int) (mput (some .u8) (40 : Int) (41 : Int) ([] : List (Int × Int))))) ([] : List Int) (
some (0 : Int))
def media_end.kr (w0 : World) (k : Nat) : Kr T (Int) := (kret (retK (cfg w0 (tab25 k)) Tryz.f20.results.toList 0 [] io4.pat))
def media_end.x26 : Ex → Option (List Nat × List Sp)
  | .norm => some ([3, 4, 9, 10, 11], [])
  | _ => none
def media_end.L26 (k : Nat) (v : Int × (List S55) × Int × Int × (List (Int × Int)) × (List Int)) (K : Ex → St T → Option (Int)) : Option (Int) := media_end.c26 k v.1 v.2.1 v.2.2.1 v.2.2.2.1 v.2.2.2.2.1 v.2.2.2.2.2 (fun y41 y42 y43 y44 y45 => K .norm (mkSt [3, 4, 9, 10, 11] (io40.enc (y41, y42, y43, y44, y45))))
def media_end.x9 : Ex → Option (List Nat × List Sp)
  | .exit 0 => some ([], [])
  | _ => none
def media_end.L9 (k : Nat) (n : Nat) (v : (List S55) × Int × Int × (List (Int × Int)) × (List Int)) (K : Ex → St T → Option (Int)) : Option (Int) := media_end.c9 k n v.1 v.2.1 v.2.2.1 v.2.2.2.1 v.2.2.2.2 ( K (.exit 0) (mkSt [] (io41.enc ())))
def media_end.cuts (w0 : World) (k : Nat) : Cuts T (Int) := fun n => bif n.beq 26 then some (entK (cfg w0 (tab25 k)) 0 [3, 4, 5, 9, 10, 11] [.own 4 5] io39.pat (media_end.L26 k)) else bif n.beq 9 then some (entK (cfg w0 (tab25 k)) 0 [3, 4, 9, 10, 11] [.own 4 5] io40.pat (media_end.L9 k k)) else none
def media_end.body : Code := bodyOf Tryz.f20
def media_end.b26 : Code := findD 26 media_end.body
theorem media_end.s26 (w0 : World) (k : Nat) : ∀ v K, media_end.L26 k v K = runK (cfg w0 (tab25 k)) Tryz.f20.ntmps (media_end.kr w0 k) (annot (media_end.cuts w0 k) media_end.b26) (mkSt [3, 4, 5, 9, 10, 11] (io39.enc v)) (outK (cfg w0 (tab25 k)) 0 media_end.x26 K) := by
  intro v K; kernel_rfl
def media_end.b9 : Code := findD 9 media_end.body
theorem media_end.s9 (w0 : World) (k : Nat) : ∀ n v K, media_end.L9 k (n + 1) v K = runK (cfg w0 (tab25 k)) Tryz.f20.ntmps (media_end.kr w0 k) (annot (media_end.cuts w0 k) media_end.b9) (mkSt [3, 4, 9, 10, 11] (io40.enc v)) (loopK (cfg w0 (tab25 k)) 0 media_end.x9 (entK (cfg w0 (tab25 k)) 0 [3, 4, 9, 10, 11] [.own 4 5] io40.pat (media_end.L9 k n)) K) := by
  intro n v K; kernel_rfl
theorem media_end.e (w0 : World) (k : Nat) : ∀ v, (fun v => media_end k v) v = runK (cfg w0 (tab25 k)) Tryz.f20.ntmps (media_end.kr w0 k) (annot (media_end.cuts w0 k) media_end.body) (entry (io37.enc v).1 (io37.enc v).2) (endK (media_end.kr w0 k)) := by
  intro v; kernel_rfl
theorem media_end.hb : Tryz.f20.body = some media_end.body := by kernel_rfl
def tab26 (k : Nat) : Tab T := addTab 20 (line io37 io4 (0 : Int) (fun v => media_end k v)) (tab25 k)
def media_pieces.c22 (k : Nat) (x11 : List S55) (x12 : Int) (x13 : Int) (x14 : Int) (x15 : List (List S55)) (kn : (List S55) → Int → Int → (List (List S55)) → Option (List (List S55))) : Option (List (List S55)) :=
let v16 : Int := (IntKind.wrap .i64 (x14 - (1 : Int)))
let v17 : Int := (IntKind.wrap .i64 (x13 + v16))
kn x11 x12 v17 x15
def media_pieces.c9 (k : Nat) : Nat → (List S55) → Int → Int → (List (List S55)) → ((List S55) → Int → (List (List S55)) → Option (List (List S55))) → Option (List (List S55))
  | 0, _, _, _, _, _ => none
  | n + 1, x2, x3, x4, x5, k0 =>
    let v6 : Bool := (decide (x4 < (x2.length : Int)))
    cond v6 (
    cond (decide (0 ≤ x4 ∧ x4 < (x2.length : Int))) (
    let v7 : Bool := (((x2.getD x4.toNat S55.d).Kind) == (10 : Int))
    let v8 : Bool := (((x2.getD x4.toNat S55.d).Kind) == (2 : Int))
    cond (cond v7 true v8) (
    cond (decide (0 ≤ x4 ∧ x4 ≤ (x2.length : Int))) (
    (media_end k (x2.drop x4.toNat)).bind fun r9 =>
    cond (r9 == (0 : Int)) (
    let v10 : Int := (IntKind.wrap .i64 ((x2.length : Int) - x4))
    media_pieces.c22 k x2 x3 x4 v10 x5 (fun (y18 : List S55) (y19 : Int) (y20 : Int) (y21 : List (List S55)) =>
    let v22 : Int := (IntKind.wrap .i64 (y20 + (1 : Int)))
    media_pieces.c9 k n y18 y19 v22 y21 k0)) (
    media_pieces.c22 k x2 x3 x4 r9 x5 (fun (y23 : List S55) (y24 : Int) (y25 : Int) (y26 : List (List S55)) =>
    let v27 : Int := (IntKind.wrap .i64 (y25 + (1 : Int)))
    media_pieces.c9 k n y23 y24 v27 y26 k0))) none) (
    let v28 : Bool := (((x2.getD x4.toNat S55.d).Kind) == (12 : Int))
    let v29 : Bool := (((x2.getD x4.toNat S55.d).Raw) == ([44] : List UInt8))
    cond (cond v28 v29 false) (
    cond (decide (0 ≤ x3 ∧ x3 ≤ x4 ∧ x4 ≤ (x2.length : Int))) (
    let v30 : List S55 := ((x2.take x4.toNat).drop x3.toNat)
    cond (decide ((x5 ++ ([v30])).length < most)) (
    let v31 : Int := (IntKind.wrap .i64 (x4 + (1 : Int)))
    let v32 : Int := (IntKind.wrap .i64 (x4 + (1 : Int)))
    media_pieces.c9 k n x2 v31 v32 (x5 ++ ([v30])) k0) none) none) (
    let v33 : Int := (IntKind.wrap .i64 (x4 + (1 : Int)))
    media_pieces.c9 k n x2 x3 v33 x5 k0))) none) (
    k0 x2 x3 x5)
def media_pieces (k : Nat) (a1 : List S55) : Option (List (List S55)) :=
media_pieces.c9 k k a1 (0 : Int) (0 : Int) ([] : List (List S55)) (fun (y34 : List S55) (y35 : Int) (y36 : List (List S55)) =>
cond (decide (0 ≤ y35 ∧ y35 ≤ (y34.length : Int))) (
cond (decide ((y36 ++ ([(y34.drop y35.toNat)])).length < most)) (
let v37 : List (List S55) := (y36 ++ ([(y34.drop y35.toNat)]))
some v37) none) none)
def media_pieces.kr (w0 : World) (k : Nat) : Kr T (List (List S55)) := (kret (retK (cfg w0 (tab26 k)) Tryz.f14.results.toList 0 [] io42.pat))
def media_pieces.x22 : Ex → Option (List Nat × List Sp)
  | .norm => some ([0, 3, 4, 5], [.own 3 43])
  | _ => none
def media_pieces.L22 (k : Nat) (v : (List S55) × Int × Int × Int × (List (List S55))) (K : Ex → St T → Option (List (List S55))) : Option (List (List S55)) := media_pieces.c22 k v.1 v.2.1 v.2.2.1 v.2.2.2.1 v.2.2.2.2 (fun y46 y47 y48 y49 => K .norm (mkSt [0, 3, 4, 5] (io44.enc (y46, y47, y48, y49))))
def media_pieces.x9 : Ex → Option (List Nat × List Sp)
  | .exit 0 => some ([0, 3, 4], [.own 3 43])
  | _ => none
def media_pieces.L9 (k : Nat) (n : Nat) (v : (List S55) × Int × Int × (List (List S55))) (K : Ex → St T → Option (List (List S55))) : Option (List (List S55)) := media_pieces.c9 k n v.1 v.2.1 v.2.2.1 v.2.2.2 (fun y50 y51 y52 => K (.exit 0) (mkSt [0, 3, 4] (io45.enc (y50, y51, y52))))
def media_pieces.cuts (w0 : World) (k : Nat) : Cuts T (List (List S55)) := fun n => bif n.beq 22 then some (entK (cfg w0 (tab26 k)) 0 [0, 3, 4, 5, 7] [.own 3 43] io43.pat (media_pieces.L22 k)) else bif n.beq 9 then some (entK (cfg w0 (tab26 k)) 0 [0, 3, 4, 5] [.own 3 43] io44.pat (media_pieces.L9 k k)) else none
def media_pieces.body : Code := bodyOf Tryz.f14
def media_pieces.b22 : Code := findD 22 media_pieces.body
theorem media_pieces.s22 (w0 : World) (k : Nat) : ∀ v K, media_pieces.L22 k v K = runK (cfg w0 (tab26 k)) Tryz.f14.ntmps (media_pieces.kr w0 k) (annot (media_pieces.cuts w0 k) media_pieces.b22) (mkSt [0, 3, 4, 5, 7] (io43.enc v)) (outK (cfg w0 (tab26 k)) 0 media_pieces.x22 K) := by
  intro v K; kernel_rfl
def media_pieces.b9 : Code := findD 9 media_pieces.body
theorem media_pieces.s9 (w0 : World) (k : Nat) : ∀ n v K, media_pieces.L9 k (n + 1) v K = runK (cfg w0 (tab26 k)) Tryz.f14.ntmps (media_pieces.kr w0 k) (annot (media_pieces.cuts w0 k) media_pieces.b9) (mkSt [0, 3, 4, 5] (io44.enc v)) (loopK (cfg w0 (tab26 k)) 0 media_pieces.x9 (entK (cfg w0 (tab26 k)) 0 [0, 3, 4, 5] [.own 3 43] io44.pat (media_pieces.L9 k n)) K) := by
  intro n v K; kernel_rfl
theorem media_pieces.e (w0 : World) (k : Nat) : ∀ v, (fun v => media_pieces k v) v = runK (cfg w0 (tab26 k)) Tryz.f14.ntmps (media_pieces.kr w0 k) (annot (media_pieces.cuts w0 k) media_pieces.body) (entry (io37.enc v).1 (io37.enc v).2) (endK (media_pieces.kr w0 k)) := by
  intro v; kernel_rfl
theorem media_pieces.hb : Tryz.f14.body = some media_pieces.body := by kernel_rfl
def tab27 (k : Nat) : Tab T := addTab 14 (line io37 io42 [] (fun v => media_pieces k v)) (tab26 k)
def media_lower.c7 (k : Nat) : Nat → Int → Int → (List Int) → ((List Int) → Option (List UInt8)) → Option (List UInt8)
  | 0, _, _, _, _ => none
  | n + 1, x2, x3, x4, k0 =>
    cond (decide (x3 < x2)) (
    cond (decide (0 ≤ x3 ∧ x3 < (x4.length : Int))) (
    let v5 : Bool := (decide ((x4.getD x3.toNat (0 : Int)) ≥ (65 : Int)))
    let v6 : Bool := (decide ((x4.getD x3.toNat (0 : Int)) ≤ (90 : Int)))
    cond (cond v5 v6 false) (
    let v7 : Int := (IntKind.wrap .u8 ((x4.getD x3.toNat (0 : Int)) + (32 : Int)))
    cond (decide (0 ≤ x3 ∧ x3 < (x4.length : Int))) (
    let v8 : Int := (IntKind.wrap .i64 (x3 + (1 : Int)))
    media_lower.c7 k n x2 v8 (x4.set x3.toNat v7) k0) none) (
    let v9 : Int := (IntKind.wrap .i64 (x3 + (1 : Int)))
    media_lower.c7 k n x2 v9 x4 k0)) none) (
    k0 x4)
def media_lower (k : Nat) (a1 : List UInt8) : Option (List UInt8) :=
media_lower.c7 k k ((bytesI a1).length : Int) (0 : Int) (bytesI a1) (fun (y10 : List Int) =>
some (bytesU y10))
def media_lower.kr (w0 : World) (k : Nat) : Kr T (List UInt8) := (kret (retK (cfg w0 (tab27 k)) Tryz.f42.results.toList 0 [] io1.pat))
def media_lower.x7 : Ex → Option (List Nat × List Sp)
  | .exit 0 => some ([3], [])
  | _ => none
def media_lower.L7 (k : Nat) (n : Nat) (v : Int × Int × (List Int)) (K : Ex → St T → Option (List UInt8)) : Option (List UInt8) := media_lower.c7 k n v.1 v.2.1 v.2.2 (fun y53 => K (.exit 0) (mkSt [3] (io28.enc y53)))
def media_lower.cuts (w0 : World) (k : Nat) : Cuts T (List UInt8) := fun n => bif n.beq 7 then some (entK (cfg w0 (tab27 k)) 0 [3, 8, 9, 10] [] io27.pat (media_lower.L7 k k)) else none
def media_lower.body : Code := bodyOf Tryz.f42
def media_lower.b7 : Code := findD 7 media_lower.body
theorem media_lower.s7 (w0 : World) (k : Nat) : ∀ n v K, media_lower.L7 k (n + 1) v K = runK (cfg w0 (tab27 k)) Tryz.f42.ntmps (media_lower.kr w0 k) (annot (media_lower.cuts w0 k) media_lower.b7) (mkSt [3, 8, 9, 10] (io27.enc v)) (loopK (cfg w0 (tab27 k)) 0 media_lower.x7 (entK (cfg w0 (tab27 k)) 0 [3, 8, 9, 10] [] io27.pat (media_lower.L7 k n)) K) := by
  intro n v K; kernel_rfl
theorem media_lower.e (w0 : World) (k : Nat) : ∀ v, (fun v => media_lower k v) v = runK (cfg w0 (tab27 k)) Tryz.f42.ntmps (media_lower.kr w0 k) (annot (media_lower.cuts w0 k) media_lower.body) (entry (io1.enc v).1 (io1.enc v).2) (endK (media_lower.kr w0 k)) := by
  intro v; kernel_rfl
theorem media_lower.hb : Tryz.f42.body = some media_lower.body := by kernel_rfl
def tab28 (k : Nat) : Tab T := addTab 42 (line io1 io1 [] (fun v => media_lower k v)) (tab27 k)
def media_word (k : Nat) (a1 : Int) (a2 : List UInt8) (a3 : List UInt8) (a4 : Int) : Option (List UInt8) :=
cond (a1 != (1 : Int)) (
some ([] : List UInt8)) (
(media_lower k a3).bind fun r5 =>
some r5)
def media_word.kr (w0 : World) (k : Nat) : Kr T (List UInt8) := (kret (retK (cfg w0 (tab28 k)) Tryz.f21.results.toList 0 [] io1.pat))
def media_word.cuts (w0 : World) (k : Nat) : Cuts T (List UInt8) := fun n => none
def media_word.body : Code := bodyOf Tryz.f21
theorem media_word.e (w0 : World) (k : Nat) : ∀ v, (fun v => media_word k v.1 v.2.1 v.2.2.1 v.2.2.2) v = runK (cfg w0 (tab28 k)) Tryz.f21.ntmps (media_word.kr w0 k) (annot (media_word.cuts w0 k) media_word.body) (entry (io9.enc v).1 (io9.enc v).2) (endK (media_word.kr w0 k)) := by
  intro v; kernel_rfl
theorem media_word.hb : Tryz.f21.body = some media_word.body := by kernel_rfl
def tab29 (k : Nat) : Tab T := addTab 21 (line io9 io1 [] (fun v => media_word k v.1 v.2.1 v.2.2.1 v.2.2.2)) (tab28 k)
def media_kind.c5 (k : Nat) : Nat → (List UInt8) → (List UInt8) → (List UInt8) → (List UInt8) → (List UInt8) → (List UInt8) → (List UInt8) → (List UInt8) → (List UInt8) → (List UInt8) → (List UInt8) → (List UInt8) → (List UInt8) → Int → (Option (Int)) → Option (Int)
  | 0, _, _, _, _, _, _, _, _, _, _, _, _, _, _, _ => none
  | n + 1, x2, x3, x4, x5, x6, x7, x8, x9, x10, x11, x12, x13, x14, x15, k0 =>
    cond (decide (x15 < (12 : Int))) (
    cond (decide (0 ≤ x15 ∧ x15 < ((12 : Nat) : Int))) (
    let v16 : List UInt8 := (([x3, x4, x5, x6, x7, x8, x9, x10, x11, x12, x13, x14]).getD x15.toNat [])
    let v17 : Bool := (cond (decide (x15 > (0 : Int))) (v16 == x2) false)
    cond v17 (
    some x15) (
    let v18 : Int := (IntKind.wrap .i64 (x15 + (1 : Int)))
    media_kind.c5 k n x2 x3 x4 x5 x6 x7 x8 x9 x10 x11 x12 x13 x14 v18 k0)) none) (
    k0)
def media_kind (k : Nat) (a1 : List UInt8) : Option (Int) :=
media_kind.c5 k k a1 g0_0 g0_1 g0_2 g0_3 g0_4 g0_5 g0_6 g0_7 g0_8 g0_9 g0_10 g0_11 (0 : Int) (
some (12 : Int))
def media_kind.kr (w0 : World) (k : Nat) : Kr T (Int) := (kret (retK (cfg w0 (tab29 k)) Tryz.f22.results.toList 0 [] io4.pat))
def media_kind.x5 : Ex → Option (List Nat × List Sp)
  | .exit 0 => some ([], [])
  | _ => none
def media_kind.L5 (k : Nat) (n : Nat) (v : (List UInt8) × (List UInt8) × (List UInt8) × (List UInt8) × (List UInt8) × (List UInt8) × (List UInt8) × (List UInt8) × (List UInt8) × (List UInt8) × (List UInt8) × (List UInt8) × (List UInt8) × Int) (K : Ex → St T → Option (Int)) : Option (Int) := media_kind.c5 k n v.1 v.2.1 v.2.2.1 v.2.2.2.1 v.2.2.2.2.1 v.2.2.2.2.2.1 v.2.2.2.2.2.2.1 v.2.2.2.2.2.2.2.1 v.2.2.2.2.2.2.2.2.1 v.2.2.2.2.2.2.2.2.2.1 v.2.2.2.2.2.2.2.2.2.2.1 v.2.2.2.2.2.2.2.2.2.2.2.1 v.2.2.2.2.2.2.2.2.2.2.2.2.1 v.2.2.2.2.2.2.2.2.2.2.2.2.2 ( K (.exit 0) (mkSt [] (io41.enc ())))
def media_kind.cuts (w0 : World) (k : Nat) : Cuts T (Int) := fun n => bif n.beq 5 then some (entK (cfg w0 (tab29 k)) 0 [0, 5, 6] [] io46.pat (media_kind.L5 k k)) else none
def media_kind.body : Code := bodyOf Tryz.f22
def media_kind.b5 : Code := findD 5 media_kind.body
theorem media_kind.s5 (w0 : World) (k : Nat) : ∀ n v K, media_kind.L5 k (n + 1) v K = runK (cfg w0 (tab29 k)) Tryz.f22.ntmps (media_kind.kr w0 k) (annot (media_kind.cuts w0 k) media_kind.b5) (mkSt [0, 5, 6] (io46.enc v)) (loopK (cfg w0 (tab29 k)) 0 media_kind.x5 (entK (cfg w0 (tab29 k)) 0 [0, 5, 6] [] io46.pat (media_kind.L5 k n)) K) := by
  intro n v K; kernel_rfl
theorem media_kind.e (w0 : World) (k : Nat) : ∀ v, (fun v => media_kind k v) v = runK (cfg w0 (tab29 k)) Tryz.f22.ntmps (media_kind.kr w0 k) (annot (media_kind.cuts w0 k) media_kind.body) (entry (io1.enc v).1 (io1.enc v).2) (endK (media_kind.kr w0 k)) := by
  intro v; kernel_rfl
theorem media_kind.hb : Tryz.f22.body = some media_kind.body := by kernel_rfl
def tab30 (k : Nat) : Tab T := addTab 22 (line io1 io4 (0 : Int) (fun v => media_kind k v)) (tab29 k)
def strings_Trim (k : Nat) (a20 : List UInt8) (a21 : List UInt8) : Option (List UInt8) := trimB a20 a21
def tab31 (k : Nat) : Tab T := addTab 43 (line io0 io1 [] (fun v => strings_Trim k v.1 v.2)) (tab30 k)
def strconv_Atoi (k : Nat) (a25 : List UInt8) : Option (Int × Bool) := atoiS a25
def tab32 (k : Nat) : Tab T := addTab 44 (line io1 io47 ((0 : Int), false) (fun v => strconv_Atoi k v)) (tab31 k)
def media_feature (k : Nat) (a1 : List S55) : Option (Int × Int) :=
let v2 : Bool := ((a1.length : Int) != (3 : Int))
cond ((decide (0 ≤ (1 : Int) ∧ (1 : Int) < (a1.length : Int))) || !(!v2)) (
let v3 : List UInt8 := (a1.getD ((1 : Int).toNat) S55.d).Raw
let v4 : Bool := (cond v2 true (!(v3 == ([58] : List UInt8))))
cond v4 (
some ((12 : Int), (0 : Int))) (
cond (decide (0 ≤ (0 : Int) ∧ (0 : Int) < (a1.length : Int))) (
let v5 : Int := (a1.getD ((0 : Int).toNat) S55.d).Kind
let v6 : List UInt8 := (a1.getD ((0 : Int).toNat) S55.d).Raw
let v7 : List UInt8 := (a1.getD ((0 : Int).toNat) S55.d).Value
let v8 : Int := (a1.getD ((0 : Int).toNat) S55.d).Num
(media_word k v5 v6 v7 v8).bind fun r9 =>
(media_kind k r9).bind fun r10 =>
let v11 : Bool := (cond (decide (r10 ≥ (4 : Int))) (decide (r10 ≤ (7 : Int))) false)
cond v11 (
cond (decide (0 ≤ (2 : Int) ∧ (2 : Int) < (a1.length : Int))) (
let v12 : Int := (a1.getD ((2 : Int).toNat) S55.d).Kind
let v13 : List UInt8 := (a1.getD ((2 : Int).toNat) S55.d).Raw
let v14 : List UInt8 := (a1.getD ((2 : Int).toNat) S55.d).Value
let v15 : Int := (a1.getD ((2 : Int).toNat) S55.d).Num
let v16 : Bool := (!(v14 == ([112, 120] : List UInt8)))
let v17 : Bool := (cond (v12 != (7 : Int)) true v16)
let v18 : Int := (IntKind.wrap .i64 ((v13.length : Int) - (2 : Int)))
cond ((decide (0 ≤ v18 ∧ v18 ≤ (v13.length : Int))) || !(!v17)) (
(cond (!v17) (strings_Trim k (v13.take v18.toNat) ([48, 49, 50, 51, 52, 53, 54, 55, 56, 57] : List UInt8)) (some [])).bind fun r19 =>
let v20 : Bool := (cond v17 true (!(r19 == ([] : List UInt8))))
cond v20 (
some ((12 : Int), (0 : Int))) (
let v21 : Int := (IntKind.wrap .i64 ((v13.length : Int) - (2 : Int)))
cond (decide (0 ≤ v21 ∧ v21 ≤ (v13.length : Int))) (
(strconv_Atoi k (v13.take v21.toNat)).bind fun r22 =>
let v23 : Bool := (decide (r22.1 > (1000000 : Int)))
cond (cond (!(!r22.2)) true v23) (
some ((12 : Int), (0 : Int))) (
some (r10, r22.1))) none)) none) none) (
cond (Nat.ble (r9.length + ([58] : List UInt8).length) 9223372036854775807) (
cond (decide (0 ≤ (2 : Int) ∧ (2 : Int) < (a1.length : Int))) (
let v24 : Int := (a1.getD ((2 : Int).toNat) S55.d).Kind
let v25 : List UInt8 := (a1.getD ((2 : Int).toNat) S55.d).Raw
let v26 : List UInt8 := (a1.getD ((2 : Int).toNat) S55.d).Value
let v27 : Int := (a1.getD ((2 : Int).toNat) S55.d).Num
(media_word k v24 v25 v26 v27).bind fun r28 =>
cond (Nat.ble ((r9 ++ ([58] : List UInt8)).length + r28.length) 9223372036854775807) (
let v29 : List UInt8 := ((r9 ++ ([58] : List UInt8)) ++ r28)
(media_kind k v29).bind fun r30 =>
cond (decide (r30 ≥ (8 : Int))) (
some (r30, (0 : Int))) (
some ((12 : Int), (0 : Int)))) none) none) none)) none)) none
def media_feature.kr (w0 : World) (k : Nat) : Kr T (Int × Int) := (kret (retK (cfg w0 (tab32 k)) Tryz.f23.results.toList 0 [] io48.pat))
def media_feature.cuts (w0 : World) (k : Nat) : Cuts T (Int × Int) := fun n => none
def media_feature.body : Code := bodyOf Tryz.f23
theorem media_feature.e (w0 : World) (k : Nat) : ∀ v, (fun v => media_feature k v) v = runK (cfg w0 (tab32 k)) Tryz.f23.ntmps (media_feature.kr w0 k) (annot (media_feature.cuts w0 k) media_feature.body) (entry (io37.enc v).1 (io37.enc v).2) (endK (media_feature.kr w0 k)) := by
  intro v; kernel_rfl
theorem media_feature.hb : Tryz.f23.body = some media_feature.body := by kernel_rfl
def tab33 (k : Nat) : Tab T := addTab 23 (line io37 io48 ((0 : Int), (0 : Int)) (fun v => media_feature k v)) (tab32 k)
def media_query.c30 (k : Nat) (x28 : List S55) (x29 : Int) (x30 : Bool) (x31 : Bool) (x32 : Int) (x33 : Int) (x34 : List S38) (kn : (List S55) → Bool → Bool → (List S38) → Option (Bool × (List S38) × Bool)) : Option (Bool × (List S38) × Bool) :=
cond (decide ((x34 ++ ([(⟨x32, x33⟩ : S38)])).length < most)) (
let v35 : List S38 := (x34 ++ ([(⟨x32, x33⟩ : S38)]))
cond (decide (0 ≤ x29 ∧ x29 ≤ (x28.length : Int))) (
let v36 : Int := ((x28.drop x29.toNat).length : Int)
cond (v36 == (0 : Int)) (
some (x31, v35, true)) (
cond (decide (0 ≤ (0 : Int) ∧ (0 : Int) < ((x28.drop x29.toNat).length : Int))) (
let v37 : Int := ((x28.drop x29.toNat).getD ((0 : Int).toNat) S55.d).Kind
let v38 : List UInt8 := ((x28.drop x29.toNat).getD ((0 : Int).toNat) S55.d).Raw
let v39 : List UInt8 := ((x28.drop x29.toNat).getD ((0 : Int).toNat) S55.d).Value
let v40 : Int := ((x28.drop x29.toNat).getD ((0 : Int).toNat) S55.d).Num
(media_word k v37 v38 v39 v40).bind fun r41 =>
let v42 : Bool := (!(r41 == ([97, 110, 100] : List UInt8)))
cond v42 (
some (x31, v35, false)) (
cond (decide (0 ≤ (1 : Int) ∧ (1 : Int) ≤ ((x28.drop x29.toNat).length : Int))) (
let v43 : List S55 := ((x28.drop x29.toNat).drop (1 : Int).toNat)
kn v43 x30 x31 v35) none)) none)) none) none
def media_query.c11 (k : Nat) : Nat → (List S55) → Bool → Bool → (List S38) → (Bool → Bool → (List S38) → Option (Bool × (List S38) × Bool)) → Option (Bool × (List S38) × Bool)
  | 0, _, _, _, _, _ => none
  | n + 1, x12, x13, x14, x15, k0 =>
    let v16 : Bool := (decide ((x12.length : Int) > (0 : Int)))
    cond v16 (
    cond (decide (0 ≤ (0 : Int) ∧ (0 : Int) < (x12.length : Int))) (
    let v17 : Int := (x12.getD ((0 : Int).toNat) S55.d).Kind
    let v18 : List UInt8 := (x12.getD ((0 : Int).toNat) S55.d).Raw
    let v19 : List UInt8 := (x12.getD ((0 : Int).toNat) S55.d).Value
    let v20 : Int := (x12.getD ((0 : Int).toNat) S55.d).Num
    (media_word k v17 v18 v19 v20).bind fun r21 =>
    (media_kind k r21).bind fun r22 =>
    cond (decide (0 ≤ (0 : Int) ∧ (0 : Int) < (x12.length : Int))) (
    let v23 : List UInt8 := (x12.getD ((0 : Int).toNat) S55.d).Raw
    cond (v23 == ([40] : List UInt8)) (
    (media_end k x12).bind fun r24 =>
    cond (r24 == (0 : Int)) (
    some (x14, x15, false)) (
    let v25 : Int := (IntKind.wrap .i64 (r24 - (1 : Int)))
    cond (decide (0 ≤ (1 : Int) ∧ (1 : Int) ≤ v25 ∧ v25 ≤ (x12.length : Int))) (
    let v26 : List S55 := ((x12.take v25.toNat).drop (1 : Int).toNat)
    (media_feature k v26).bind fun r27 =>
    media_query.c30 k x12 r24 x13 x14 r27.1 r27.2 x15 (fun (y44 : List S55) (y45 : Bool) (y46 : Bool) (y47 : List S38) =>
    media_query.c11 k n y44 y45 y46 y47 k0)) none)) (
    cond (decide (r22 > (3 : Int))) (
    some (x14, x15, false)) (
    media_query.c30 k x12 (1 : Int) x13 x14 r22 (0 : Int) x15 (fun (y48 : List S55) (y49 : Bool) (y50 : Bool) (y51 : List S38) =>
    media_query.c11 k n y48 y49 y50 y51 k0)))) none) none) (
    k0 x13 x14 x15)
def media_query.c10 (k : Nat) (x9 : List S55) (x10 : Bool) (x11 : Bool)  : Option (Bool × (List S38) × Bool) :=
media_query.c11 k k x9 x10 x11 ([] : List S38) (fun (y52 : Bool) (y53 : Bool) (y54 : List S38) =>
some (y53, y54, false))
def media_query (k : Nat) (a1 : List S55) : Option (Bool × (List S38) × Bool) :=
let v2 : Bool := (decide ((a1.length : Int) > (0 : Int)))
cond ((decide (0 ≤ (0 : Int) ∧ (0 : Int) < (a1.length : Int))) || !v2) (
let v3 : Int := (a1.getD ((0 : Int).toNat) S55.d).Kind
let v4 : List UInt8 := (a1.getD ((0 : Int).toNat) S55.d).Raw
let v5 : List UInt8 := (a1.getD ((0 : Int).toNat) S55.d).Value
let v6 : Int := (a1.getD ((0 : Int).toNat) S55.d).Num
(cond v2 (media_word k v3 v4 v5 v6) (some [])).bind fun r7 =>
let v8 : Bool := (r7 == ([110, 111, 116] : List UInt8))
cond (cond v2 v8 false) (
cond (decide (0 ≤ (1 : Int) ∧ (1 : Int) ≤ (a1.length : Int))) (
media_query.c10 k (a1.drop (1 : Int).toNat) false true) none) (
media_query.c10 k a1 false false)) none
def media_query.kr (w0 : World) (k : Nat) : Kr T (Bool × (List S38) × Bool) := (kret (retK (cfg w0 (tab33 k)) Tryz.f15.results.toList 0 [.agg 0 36] io49.pat))
def media_query.x30 : Ex → Option (List Nat × List Sp)
  | .norm => some ([0, 2, 4], [])
  | _ => none
def media_query.L30 (k : Nat) (v : (List S55) × Int × Bool × Bool × Int × Int × (List S38)) (K : Ex → St T → Option (Bool × (List S38) × Bool)) : Option (Bool × (List S38) × Bool) := media_query.c30 k v.1 v.2.1 v.2.2.1 v.2.2.2.1 v.2.2.2.2.1 v.2.2.2.2.2.1 v.2.2.2.2.2.2 (fun y54 y55 y56 y57 => K .norm (mkSt [0, 2, 4] (io51.enc (y54, y55, y56, y57))))
def media_query.x11 : Ex → Option (List Nat × List Sp)
  | .exit 0 => some ([2, 4], [.cell 4 1 38])
  | _ => none
def media_query.L11 (k : Nat) (n : Nat) (v : (List S55) × Bool × Bool × (List S38)) (K : Ex → St T → Option (Bool × (List S38) × Bool)) : Option (Bool × (List S38) × Bool) := media_query.c11 k n v.1 v.2.1 v.2.2.1 v.2.2.2 (fun y58 y59 y60 => K (.exit 0) (mkSt [2, 4] (io52.enc (y58, y59, y60))))
def media_query.x10 : Ex → Option (List Nat × List Sp)
  | _ => none
def media_query.L10 (k : Nat) (v : (List S55) × Bool × Bool) (K : Ex → St T → Option (Bool × (List S38) × Bool)) : Option (Bool × (List S38) × Bool) := media_query.c10 k v.1 v.2.1 v.2.2
def media_query.cuts (w0 : World) (k : Nat) : Cuts T (Bool × (List S38) × Bool) := fun n => bif n.beq 30 then some (entK (cfg w0 (tab33 k)) 0 [0, 2, 4, 5, 6] [.cell 4 1 38] io50.pat (media_query.L30 k)) else bif n.beq 11 then some (entK (cfg w0 (tab33 k)) 0 [0, 2, 4] [.cell 4 1 38] io51.pat (media_query.L11 k k)) else bif n.beq 10 then some (entK (cfg w0 (tab33 k)) 0 [0, 2, 4] [] io53.pat (media_query.L10 k)) else none
def media_query.body : Code := bodyOf Tryz.f15
def media_query.b30 : Code := findD 30 media_query.body
theorem media_query.s30 (w0 : World) (k : Nat) : ∀ v K, media_query.L30 k v K = runK (cfg w0 (tab33 k)) Tryz.f15.ntmps (media_query.kr w0 k) (annot (media_query.cuts w0 k) media_query.b30) (mkSt [0, 2, 4, 5, 6] (io50.enc v)) (outK (cfg w0 (tab33 k)) 0 media_query.x30 K) := by
  intro v K; kernel_rfl
def media_query.b11 : Code := findD 11 media_query.body
theorem media_query.s11 (w0 : World) (k : Nat) : ∀ n v K, media_query.L11 k (n + 1) v K = runK (cfg w0 (tab33 k)) Tryz.f15.ntmps (media_query.kr w0 k) (annot (media_query.cuts w0 k) media_query.b11) (mkSt [0, 2, 4] (io51.enc v)) (loopK (cfg w0 (tab33 k)) 0 media_query.x11 (entK (cfg w0 (tab33 k)) 0 [0, 2, 4] [.cell 4 1 38] io51.pat (media_query.L11 k n)) K) := by
  intro n v K; kernel_rfl
def media_query.b10 : Code := findD 10 media_query.body
theorem media_query.s10 (w0 : World) (k : Nat) : ∀ v K, media_query.L10 k v K = runK (cfg w0 (tab33 k)) Tryz.f15.ntmps (media_query.kr w0 k) (annot (media_query.cuts w0 k) media_query.b10) (mkSt [0, 2, 4] (io53.enc v)) (outK (cfg w0 (tab33 k)) 0 media_query.x10 K) := by
  intro v K; kernel_rfl
theorem media_query.e (w0 : World) (k : Nat) : ∀ v, (fun v => media_query k v) v = runK (cfg w0 (tab33 k)) Tryz.f15.ntmps (media_query.kr w0 k) (annot (media_query.cuts w0 k) media_query.body) (entry (io37.enc v).1 (io37.enc v).2) (endK (media_query.kr w0 k)) := by
  intro v; kernel_rfl
theorem media_query.hb : Tryz.f15.body = some media_query.body := by kernel_rfl
def tab34 (k : Nat) : Tab T := addTab 15 (line io37 io49 (false, [], false) (fun v => media_query k v)) (tab33 k)
def media_Read.c26 (k : Nat) (x14 : Int) (x15 : Int) (x16 : List S36) (x17 : Bool) (x18 : List S38) (x19 : List (List S55)) (kn : Int → Int → (List S36) → (List (List S55)) → Option (Int × (List S36))) : Option (Int × (List S36)) :=
cond (decide ((x16 ++ ([(⟨x17, x18⟩ : S36)])).length < most)) (
let v20 : List S36 := (x16 ++ ([(⟨x17, x18⟩ : S36)]))
kn x14 x15 v20 x19) none
def media_Read.c17 (k : Nat) : Nat → Int → Int → (List S36) → (List (List S55)) → ((List S36) → Option (Int × (List S36))) → Option (Int × (List S36))
  | 0, _, _, _, _, _ => none
  | n + 1, x8, x9, x10, x11, k0 =>
    cond (decide (x9 < x8)) (
    cond (decide (0 ≤ x9 ∧ x9 < (x11.length : Int))) (
    (media_query k (x11.getD x9.toNat [])).bind fun r12 =>
    cond (!r12.2.2) (
    let v13 : List S38 := [(⟨(12 : Int), (0 : Int)⟩ : S38)]
    media_Read.c26 k x8 x9 x10 false v13 x11 (fun (y21 : Int) (y22 : Int) (y23 : List S36) (y24 : List (List S55)) =>
    let v25 : Int := (IntKind.wrap .i64 (y22 + (1 : Int)))
    media_Read.c17 k n y21 v25 y23 y24 k0)) (
    media_Read.c26 k x8 x9 x10 r12.1 r12.2.1 x11 (fun (y26 : Int) (y27 : Int) (y28 : List S36) (y29 : List (List S55)) =>
    let v30 : Int := (IntKind.wrap .i64 (y27 + (1 : Int)))
    media_Read.c17 k n y26 v30 y28 y29 k0))) none) (
    k0 x10)
def media_Read (k : Nat) (a1 : List UInt8) : Option (Int × (List S36)) :=
let v2 : Bool := (decide ((a1.length : Int) > (400 : Int)))
cond v2 (
some ((2 : Int), ([] : List S36))) (
(csstok_Cut k a1).bind fun r3 =>
(media_solid k r3).bind fun r4 =>
let v5 : Bool := ((r4.length : Int) == (0 : Int))
cond v5 (
let v6 : List S38 := [(⟨(1 : Int), (0 : Int)⟩ : S38)]
some ((0 : Int), [(⟨false, v6⟩ : S36)])) (
(media_pieces k r4).bind fun r7 =>
media_Read.c17 k k (r7.length : Int) (0 : Int) ([] : List S36) r7 (fun (y31 : List S36) =>
some ((0 : Int), y31))))
def media_Read.kr (w0 : World) (k : Nat) : Kr T (Int × (List S36)) := (kret (retK (cfg w0 (tab34 k)) Tryz.f8.results.toList 0 [.own 0 36] io54.pat))
def media_Read.x26 : Ex → Option (List Nat × List Sp)
  | .norm => some ([5, 24, 25, 26], [])
  | _ => none
def media_Read.L26 (k : Nat) (v : Int × Int × (List S36) × Bool × (List S38) × (List (List S55))) (K : Ex → St T → Option (Int × (List S36))) : Option (Int × (List S36)) := media_Read.c26 k v.1 v.2.1 v.2.2.1 v.2.2.2.1 v.2.2.2.2.1 v.2.2.2.2.2 (fun y61 y62 y63 y64 => K .norm (mkSt [5, 24, 25, 26] (io56.enc (y61, y62, y63, y64))))
def media_Read.x17 : Ex → Option (List Nat × List Sp)
  | .exit 0 => some ([5], [.own 5 36])
  | _ => none
def media_Read.L17 (k : Nat) (n : Nat) (v : Int × Int × (List S36) × (List (List S55))) (K : Ex → St T → Option (Int × (List S36))) : Option (Int × (List S36)) := media_Read.c17 k n v.1 v.2.1 v.2.2.1 v.2.2.2 (fun y65 => K (.exit 0) (mkSt [5] (io57.enc y65)))
def media_Read.cuts (w0 : World) (k : Nat) : Cuts T (Int × (List S36)) := fun n => bif n.beq 26 then some (entK (cfg w0 (tab34 k)) 0 [5, 8, 24, 25, 26] [.own 5 36, .box 8 36] io55.pat (media_Read.L26 k)) else bif n.beq 17 then some (entK (cfg w0 (tab34 k)) 0 [5, 24, 25, 26] [.own 5 36] io56.pat (media_Read.L17 k k)) else none
def media_Read.body : Code := bodyOf Tryz.f8
def media_Read.b26 : Code := findD 26 media_Read.body
theorem media_Read.s26 (w0 : World) (k : Nat) : ∀ v K, media_Read.L26 k v K = runK (cfg w0 (tab34 k)) Tryz.f8.ntmps (media_Read.kr w0 k) (annot (media_Read.cuts w0 k) media_Read.b26) (mkSt [5, 8, 24, 25, 26] (io55.enc v)) (outK (cfg w0 (tab34 k)) 0 media_Read.x26 K) := by
  intro v K; kernel_rfl
def media_Read.b17 : Code := findD 17 media_Read.body
theorem media_Read.s17 (w0 : World) (k : Nat) : ∀ n v K, media_Read.L17 k (n + 1) v K = runK (cfg w0 (tab34 k)) Tryz.f8.ntmps (media_Read.kr w0 k) (annot (media_Read.cuts w0 k) media_Read.b17) (mkSt [5, 24, 25, 26] (io56.enc v)) (loopK (cfg w0 (tab34 k)) 0 media_Read.x17 (entK (cfg w0 (tab34 k)) 0 [5, 24, 25, 26] [.own 5 36] io56.pat (media_Read.L17 k n)) K) := by
  intro n v K; kernel_rfl
theorem media_Read.e (w0 : World) (k : Nat) : ∀ v, (fun v => media_Read k v) v = runK (cfg w0 (tab34 k)) Tryz.f8.ntmps (media_Read.kr w0 k) (annot (media_Read.cuts w0 k) media_Read.body) (entry (io1.enc v).1 (io1.enc v).2) (endK (media_Read.kr w0 k)) := by
  intro v; kernel_rfl
theorem media_Read.hb : Tryz.f8.body = some media_Read.body := by kernel_rfl
def tab35 (k : Nat) : Tab T := addTab 8 (line io1 io54 ((0 : Int), []) (fun v => media_Read k v)) (tab34 k)
def media_so.c52 (k : Nat) (x7 : Bool)  : Option (Int) :=
cond x7 (
some (1 : Int)) (
some (-1 : Int))
def media_so (k : Nat) (a1 : Int) (a2 : Int) (a3 : Int) (a4 : Int) (a5 : Bool) (a6 : Bool) : Option (Int) :=
cond (a1 == (1 : Int)) (
media_so.c52 k true) (
cond (a1 == (2 : Int)) (
media_so.c52 k (!a6)) (
cond (a1 == (3 : Int)) (
media_so.c52 k a6) (
cond (a1 == (4 : Int)) (
media_so.c52 k (decide (a3 ≥ a2))) (
cond (a1 == (5 : Int)) (
media_so.c52 k (decide (a3 ≤ a2))) (
cond (a1 == (6 : Int)) (
media_so.c52 k (decide (a4 ≥ a2))) (
cond (a1 == (7 : Int)) (
media_so.c52 k (decide (a4 ≤ a2))) (
cond (a1 == (8 : Int)) (
media_so.c52 k a5) (
cond (a1 == (9 : Int)) (
media_so.c52 k (!a5)) (
cond (a1 == (10 : Int)) (
media_so.c52 k (decide (a4 ≥ a3))) (
cond (a1 == (11 : Int)) (
media_so.c52 k (decide (a4 < a3))) (
some (0 : Int))))))))))))
def media_so.kr (w0 : World) (k : Nat) : Kr T (Int) := (kret (retK (cfg w0 (tab35 k)) Tryz.f29.results.toList 0 [] io4.pat))
def media_so.x52 : Ex → Option (List Nat × List Sp)
  | _ => none
def media_so.L52 (k : Nat) (v : Bool) (K : Ex → St T → Option (Int)) : Option (Int) := media_so.c52 k v
def media_so.cuts (w0 : World) (k : Nat) : Cuts T (Int) := fun n => bif n.beq 52 then some (entK (cfg w0 (tab35 k)) 0 [5] [] io2.pat (media_so.L52 k)) else none
def media_so.body : Code := bodyOf Tryz.f29
def media_so.b52 : Code := findD 52 media_so.body
theorem media_so.s52 (w0 : World) (k : Nat) : ∀ v K, media_so.L52 k v K = runK (cfg w0 (tab35 k)) Tryz.f29.ntmps (media_so.kr w0 k) (annot (media_so.cuts w0 k) media_so.b52) (mkSt [5] (io2.enc v)) (outK (cfg w0 (tab35 k)) 0 media_so.x52 K) := by
  intro v K; kernel_rfl
theorem media_so.e (w0 : World) (k : Nat) : ∀ v, (fun v => media_so k v.1 v.2.1 v.2.2.1 v.2.2.2.1 v.2.2.2.2.1 v.2.2.2.2.2) v = runK (cfg w0 (tab35 k)) Tryz.f29.ntmps (media_so.kr w0 k) (annot (media_so.cuts w0 k) media_so.body) (entry (io58.enc v).1 (io58.enc v).2) (endK (media_so.kr w0 k)) := by
  intro v; kernel_rfl
theorem media_so.hb : Tryz.f29.body = some media_so.body := by kernel_rfl
def tab36 (k : Nat) : Tab T := addTab 29 (line io58 io4 (0 : Int) (fun v => media_so k v.1 v.2.1 v.2.2.1 v.2.2.2.1 v.2.2.2.2.1 v.2.2.2.2.2)) (tab35 k)
def media_all.c7 (k : Nat) : Nat → Int → (List S38) → Int → Int → Bool → (List S38) → Int → Int → Bool → Bool → (Int → Bool → (List S38) → Option (Int)) → Option (Int)
  | 0, _, _, _, _, _, _, _, _, _, _, _ => none
  | n + 1, x7, x8, x9, x10, x11, x12, x13, x14, x15, x16, k0 =>
    cond (decide (x10 < x9)) (
    cond (decide (0 ≤ x10 ∧ x10 < (x8.length : Int))) (
    (media_so k ((x8.getD x10.toNat S38.d).Kind) ((x8.getD x10.toNat S38.d).Num) x13 x14 x15 x16).bind fun r17 =>
    let v18 : Int := (IntKind.wrap .i64 (x10 + (1 : Int)))
    media_all.c7 k n (if r17 < x7 then r17 else x7) x8 x9 v18 x11 x12 x13 x14 x15 x16 k0) none) (
    k0 x7 x11 x12)
def media_all.c18 (k : Nat) (x22 : Int)  : Option (Int) :=
some x22
def media_all (k : Nat) (a1 : Bool) (a2 : List S38) (a3 : Int) (a4 : Int) (a5 : Bool) (a6 : Bool) : Option (Int) :=
media_all.c7 k k (1 : Int) a2 (a2.length : Int) (0 : Int) a1 a2 a3 a4 a5 a6 (fun (y19 : Int) (y20 : Bool) (y21 : List S38) =>
cond y20 (
media_all.c18 k (IntKind.wrap .i64 (0 - y19))) (
media_all.c18 k y19))
def media_all.kr (w0 : World) (k : Nat) : Kr T (Int) := (kret (retK (cfg w0 (tab36 k)) Tryz.f18.results.toList 0 [] io4.pat))
def media_all.x7 : Ex → Option (List Nat × List Sp)
  | .exit 0 => some ([2, 5], [])
  | _ => none
def media_all.L7 (k : Nat) (n : Nat) (v : Int × (List S38) × Int × Int × Bool × (List S38) × Int × Int × Bool × Bool) (K : Ex → St T → Option (Int)) : Option (Int) := media_all.c7 k n v.1 v.2.1 v.2.2.1 v.2.2.2.1 v.2.2.2.2.1 v.2.2.2.2.2.1 v.2.2.2.2.2.2.1 v.2.2.2.2.2.2.2.1 v.2.2.2.2.2.2.2.2.1 v.2.2.2.2.2.2.2.2.2 (fun y66 y67 y68 => K (.exit 0) (mkSt [2, 5] (io61.enc (y66, y67, y68))))
def media_all.x18 : Ex → Option (List Nat × List Sp)
  | _ => none
def media_all.L18 (k : Nat) (v : Int) (K : Ex → St T → Option (Int)) : Option (Int) := media_all.c18 k v
def media_all.cuts (w0 : World) (k : Nat) : Cuts T (Int) := fun n => bif n.beq 7 then some (entK (cfg w0 (tab36 k)) 0 [2, 3, 5, 9, 10, 11] [] io60.pat (media_all.L7 k k)) else bif n.beq 18 then some (entK (cfg w0 (tab36 k)) 0 [5] [] io4.pat (media_all.L18 k)) else none
def media_all.body : Code := bodyOf Tryz.f18
def media_all.b7 : Code := findD 7 media_all.body
theorem media_all.s7 (w0 : World) (k : Nat) : ∀ n v K, media_all.L7 k (n + 1) v K = runK (cfg w0 (tab36 k)) Tryz.f18.ntmps (media_all.kr w0 k) (annot (media_all.cuts w0 k) media_all.b7) (mkSt [2, 3, 5, 9, 10, 11] (io60.enc v)) (loopK (cfg w0 (tab36 k)) 0 media_all.x7 (entK (cfg w0 (tab36 k)) 0 [2, 3, 5, 9, 10, 11] [] io60.pat (media_all.L7 k n)) K) := by
  intro n v K; kernel_rfl
def media_all.b18 : Code := findD 18 media_all.body
theorem media_all.s18 (w0 : World) (k : Nat) : ∀ v K, media_all.L18 k v K = runK (cfg w0 (tab36 k)) Tryz.f18.ntmps (media_all.kr w0 k) (annot (media_all.cuts w0 k) media_all.b18) (mkSt [5] (io4.enc v)) (outK (cfg w0 (tab36 k)) 0 media_all.x18 K) := by
  intro v K; kernel_rfl
theorem media_all.e (w0 : World) (k : Nat) : ∀ v, (fun v => media_all k v.1 v.2.1 v.2.2.1 v.2.2.2.1 v.2.2.2.2.1 v.2.2.2.2.2) v = runK (cfg w0 (tab36 k)) Tryz.f18.ntmps (media_all.kr w0 k) (annot (media_all.cuts w0 k) media_all.body) (entry (io59.enc v).1 (io59.enc v).2) (endK (media_all.kr w0 k)) := by
  intro v; kernel_rfl
theorem media_all.hb : Tryz.f18.body = some media_all.body := by kernel_rfl
def tab37 (k : Nat) : Tab T := addTab 18 (line io59 io4 (0 : Int) (fun v => media_all k v.1 v.2.1 v.2.2.1 v.2.2.2.1 v.2.2.2.2.1 v.2.2.2.2.2)) (tab36 k)
def media_Holds.c15 (k : Nat) : Nat → Int → Int → Int → Int → Bool → Bool → (List S36) → (Option (Bool × Int)) → Option (Bool × Int)
  | 0, _, _, _, _, _, _, _, _ => none
  | n + 1, x10, x11, x12, x13, x14, x15, x16, k0 =>
    cond (decide (x11 < x10)) (
    cond (decide (0 ≤ x11 ∧ x11 < (x16.length : Int))) (
    let v17 : List S38 := (x16.getD x11.toNat S36.d).Features
    (media_all k ((x16.getD x11.toNat S36.d).Not) v17 x12 x13 x14 x15).bind fun r18 =>
    cond (r18 == (1 : Int)) (
    some (true, (0 : Int))) (
    let v19 : Int := (IntKind.wrap .i64 (x11 + (1 : Int)))
    media_Holds.c15 k n x10 v19 x12 x13 x14 x15 x16 k0)) none) (
    k0)
def media_Holds (k : Nat) (a1 : List UInt8) (a2 : Int) (a3 : Int) (a4 : Bool) (a5 : Bool) : Option (Bool × Int) :=
(media_Read k a1).bind fun r6 =>
cond (r6.1 != (0 : Int)) (
some (false, r6.1)) (
let v7 : Bool := (cond (decide (a2 < (1 : Int))) true (decide (a2 > (4000 : Int))))
let v8 : Bool := (cond v7 true (decide (a3 < (1 : Int))))
let v9 : Bool := (cond v8 true (decide (a3 > (4000 : Int))))
cond v9 (
some (false, (1 : Int))) (
media_Holds.c15 k k (r6.2.length : Int) (0 : Int) a2 a3 a4 a5 r6.2 (
some (false, (0 : Int)))))
def media_Holds.kr (w0 : World) (k : Nat) : Kr T (Bool × Int) := (kret (retK (cfg w0 (tab37 k)) Tryz.f11.results.toList 0 [] io63.pat))
def media_Holds.x15 : Ex → Option (List Nat × List Sp)
  | .exit 0 => some ([], [])
  | _ => none
def media_Holds.L15 (k : Nat) (n : Nat) (v : Int × Int × Int × Int × Bool × Bool × (List S36)) (K : Ex → St T → Option (Bool × Int)) : Option (Bool × Int) := media_Holds.c15 k n v.1 v.2.1 v.2.2.1 v.2.2.2.1 v.2.2.2.2.1 v.2.2.2.2.2.1 v.2.2.2.2.2.2 ( K (.exit 0) (mkSt [] (io41.enc ())))
def media_Holds.cuts (w0 : World) (k : Nat) : Cuts T (Bool × Int) := fun n => bif n.beq 15 then some (entK (cfg w0 (tab37 k)) 0 [3, 36, 37, 38] [] io64.pat (media_Holds.L15 k k)) else none
def media_Holds.body : Code := bodyOf Tryz.f11
def media_Holds.b15 : Code := findD 15 media_Holds.body
theorem media_Holds.s15 (w0 : World) (k : Nat) : ∀ n v K, media_Holds.L15 k (n + 1) v K = runK (cfg w0 (tab37 k)) Tryz.f11.ntmps (media_Holds.kr w0 k) (annot (media_Holds.cuts w0 k) media_Holds.b15) (mkSt [3, 36, 37, 38] (io64.enc v)) (loopK (cfg w0 (tab37 k)) 0 media_Holds.x15 (entK (cfg w0 (tab37 k)) 0 [3, 36, 37, 38] [] io64.pat (media_Holds.L15 k n)) K) := by
  intro n v K; kernel_rfl
theorem media_Holds.e (w0 : World) (k : Nat) : ∀ v, (fun v => media_Holds k v.1 v.2.1 v.2.2.1 v.2.2.2.1 v.2.2.2.2) v = runK (cfg w0 (tab37 k)) Tryz.f11.ntmps (media_Holds.kr w0 k) (annot (media_Holds.cuts w0 k) media_Holds.body) (entry (io62.enc v).1 (io62.enc v).2) (endK (media_Holds.kr w0 k)) := by
  intro v; kernel_rfl
theorem media_Holds.hb : Tryz.f11.body = some media_Holds.body := by kernel_rfl
def tab38 (k : Nat) : Tab T := addTab 11 (line io62 io63 (false, (0 : Int)) (fun v => media_Holds k v.1 v.2.1 v.2.2.1 v.2.2.2.1 v.2.2.2.2)) (tab37 k)
def clerestorykeep2_wide (k : Nat)  : Option (Bool) :=
(media_Holds k ([40, 109, 105, 110, 45, 119, 105, 100, 116, 104, 58, 32, 54, 48, 48, 112, 120, 41] : List UInt8) (600 : Int) (1 : Int) false false).bind fun r1 =>
let v2 : Bool := (cond r1.1 (r1.2 == (0 : Int)) false)
some v2
def clerestorykeep2_wide.kr (w0 : World) (k : Nat) : Kr T (Bool) := (kret (retK (cfg w0 (tab38 k)) Tryz.f7.results.toList 0 [] io2.pat))
def clerestorykeep2_wide.cuts (w0 : World) (k : Nat) : Cuts T (Bool) := fun n => none
def clerestorykeep2_wide.body : Code := bodyOf Tryz.f7
theorem clerestorykeep2_wide.e (w0 : World) (k : Nat) : ∀ v, (fun v => clerestorykeep2_wide k ) v = runK (cfg w0 (tab38 k)) Tryz.f7.ntmps (clerestorykeep2_wide.kr w0 k) (annot (clerestorykeep2_wide.cuts w0 k) clerestorykeep2_wide.body) (entry (io41.enc v).1 (io41.enc v).2) (endK (clerestorykeep2_wide.kr w0 k)) := by
  intro v; kernel_rfl
theorem clerestorykeep2_wide.hb : Tryz.f7.body = some clerestorykeep2_wide.body := by kernel_rfl
def tab39 (k : Nat) : Tab T := addTab 7 (line io41 io2 false (fun v => clerestorykeep2_wide k )) (tab38 k)
def strconv_Itoa (k : Nat) (a9 : Int) : Option (List UInt8) := itoaS a9
def tab40 (k : Nat) : Tab T := addTab 24 (line io4 io1 [] (fun v => strconv_Itoa k v)) (tab39 k)
def strings_Count (k : Nat) (a7 : List UInt8) (a8 : List UInt8) : Option (Int) := cntS a7 a8
def tab41 (k : Nat) : Tab T := addTab 46 (line io0 io4 (0 : Int) (fun v => strings_Count k v.1 v.2)) (tab40 k)
def f__strings_Builder__Grow (k : Nat) (a18 : Int) (a19 : List UInt8) : Option (List UInt8) := growS a19 a18
def tab42 (k : Nat) : Tab T := addTab 26 (line io15 io65 [] (fun v => f__strings_Builder__Grow k v.1 v.2)) (tab41 k)
def f__strings_Builder__WriteString (k : Nat) (a32 : List UInt8) (a33 : List UInt8) : Option (Int × (List UInt8)) := (wStr a33 a32).map fun s => ((a32.length : Int), s)
def tab43 (k : Nat) : Tab T := addTab 27 (line io66 io67 ((0 : Int), []) (fun v => f__strings_Builder__WriteString k v.1 v.2)) (tab42 k)
def utf8_decodeRuneInStringSlow (k : Nat) (a1 : List UInt8) : Option (Int × Int) :=
let v2 : Bool := (decide ((a1.length : Int) < (1 : Int)))
cond v2 (
some ((65533 : Int), (0 : Int))) (
cond (decide (0 ≤ (0 : Int) ∧ (0 : Int) < (a1.length : Int))) (
let v3 : Int := ((a1.getD (0 : Int).toNat 0).toNat : Int)
none) none)
def utf8_decodeRuneInStringSlow.kr (w0 : World) (k : Nat) : Kr T (Int × Int) := (kret (retK (cfg w0 (tab43 k)) Tryz.f72.results.toList 0 [] io68.pat))
def utf8_decodeRuneInStringSlow.cuts (w0 : World) (k : Nat) : Cuts T (Int × Int) := fun n => none
def utf8_decodeRuneInStringSlow.body : Code := bodyOf Tryz.f72
theorem utf8_decodeRuneInStringSlow.e (w0 : World) (k : Nat) : ∀ v, (fun v => utf8_decodeRuneInStringSlow k v) v = runK (cfg w0 (tab43 k)) Tryz.f72.ntmps (utf8_decodeRuneInStringSlow.kr w0 k) (annot (utf8_decodeRuneInStringSlow.cuts w0 k) utf8_decodeRuneInStringSlow.body) (entry (io1.enc v).1 (io1.enc v).2) (endK (utf8_decodeRuneInStringSlow.kr w0 k)) := by
  intro v; kernel_rfl
theorem utf8_decodeRuneInStringSlow.hb : Tryz.f72.body = some utf8_decodeRuneInStringSlow.body := by kernel_rfl
def tab44 (k : Nat) : Tab T := addTab 72 (line io1 io68 ((0 : Int), (0 : Int)) (fun v => utf8_decodeRuneInStringSlow k v)) (tab43 k)
def utf8_DecodeRuneInString (k : Nat) (a1 : List UInt8) : Option (Int × Int) :=
cond ((decide (0 ≤ (0 : Int) ∧ (0 : Int) < (a1.length : Int))) || !(!(a1 == ([] : List UInt8)))) (
let v2 : Int := ((a1.getD (0 : Int).toNat 0).toNat : Int)
let v3 : Bool := (cond (!(a1 == ([] : List UInt8))) (decide (v2 < (128 : Int))) false)
cond v3 (
cond (decide (0 ≤ (0 : Int) ∧ (0 : Int) < (a1.length : Int))) (
let v4 : Int := ((a1.getD (0 : Int).toNat 0).toNat : Int)
some ((IntKind.wrap .i32 v4), (1 : Int))) none) (
(utf8_decodeRuneInStringSlow k a1).bind fun r5 =>
some (r5.1, r5.2))) none
def utf8_DecodeRuneInString.kr (w0 : World) (k : Nat) : Kr T (Int × Int) := (kret (retK (cfg w0 (tab44 k)) Tryz.f47.results.toList 0 [] io68.pat))
def utf8_DecodeRuneInString.cuts (w0 : World) (k : Nat) : Cuts T (Int × Int) := fun n => none
def utf8_DecodeRuneInString.body : Code := bodyOf Tryz.f47
theorem utf8_DecodeRuneInString.e (w0 : World) (k : Nat) : ∀ v, (fun v => utf8_DecodeRuneInString k v) v = runK (cfg w0 (tab44 k)) Tryz.f47.ntmps (utf8_DecodeRuneInString.kr w0 k) (annot (utf8_DecodeRuneInString.cuts w0 k) utf8_DecodeRuneInString.body) (entry (io1.enc v).1 (io1.enc v).2) (endK (utf8_DecodeRuneInString.kr w0 k)) := by
  intro v; kernel_rfl
theorem utf8_DecodeRuneInString.hb : Tryz.f47.body = some utf8_DecodeRuneInString.body := by kernel_rfl
def tab45 (k : Nat) : Tab T := addTab 47 (line io1 io68 ((0 : Int), (0 : Int)) (fun v => utf8_DecodeRuneInString k v)) (tab44 k)
def strings_Replace.c27 (k : Nat) : Nat → (List UInt8) → (List UInt8) → (List UInt8) → Int → Int → Int → (List UInt8) → ((List UInt8) → Int → (List UInt8) → Option (List UInt8)) → Option (List UInt8)
  | 0, _, _, _, _, _, _, _, _ => none
  | n + 1, x17, x18, x19, x20, x21, x22, x23, k0 =>
    cond (decide (x22 < x21)) (
    cond (decide (0 ≤ x20 ∧ x20 ≤ (x17.length : Int))) (
    (strings_Index k (x17.drop x20.toNat) x18).bind fun r24 =>
    let v25 : Int := (IntKind.wrap .i64 (x20 + r24))
    cond (decide (0 ≤ x20 ∧ x20 ≤ v25 ∧ v25 ≤ (x17.length : Int))) (
    let v26 : List UInt8 := ((x17.take v25.toNat).drop x20.toNat)
    (f__strings_Builder__WriteString k v26 x23).bind fun r27 =>
    (f__strings_Builder__WriteString k x19 r27.2).bind fun r28 =>
    let v29 : Int := (IntKind.wrap .i64 (v25 + (x18.length : Int)))
    let v30 : Int := (IntKind.wrap .i64 (x22 + (1 : Int)))
    strings_Replace.c27 k n x17 x18 x19 v29 x21 v30 r28.2 k0) none) none) (
    k0 x17 x20 x23)
def strings_Replace.c56 (k : Nat) (x34 : List UInt8) (x35 : Int) (x36 : List UInt8)  : Option (List UInt8) :=
cond (decide (0 ≤ x35 ∧ x35 ≤ (x34.length : Int))) (
(f__strings_Builder__WriteString k (x34.drop x35.toNat) x36).bind fun r37 =>
(f__strings_Builder__String k r37.2).bind fun r38 =>
some r38.1) none
def strings_Replace.c43 (k : Nat) : Nat → (List UInt8) → (List UInt8) → Int → Int → Int → (List UInt8) → ((List UInt8) → Int → (List UInt8) → Option (List UInt8)) → Option (List UInt8)
  | 0, _, _, _, _, _, _, _ => none
  | n + 1, x41, x42, x43, x44, x45, x46, k2 =>
    cond (decide (x45 < x44)) (
    cond (decide (0 ≤ x43 ∧ x43 ≤ (x41.length : Int))) (
    (utf8_DecodeRuneInString k (x41.drop x43.toNat)).bind fun r47 =>
    let v48 : Int := (IntKind.wrap .i64 (x43 + r47.2))
    cond (decide (0 ≤ x43 ∧ x43 ≤ v48 ∧ v48 ≤ (x41.length : Int))) (
    let v49 : List UInt8 := ((x41.take v48.toNat).drop x43.toNat)
    (f__strings_Builder__WriteString k v49 x46).bind fun r50 =>
    (f__strings_Builder__WriteString k x42 r50.2).bind fun r51 =>
    let v52 : Int := (IntKind.wrap .i64 (x45 + (1 : Int)))
    strings_Replace.c43 k n x41 x42 v48 x44 v52 r51.2 k2) none) none) (
    k2 x41 x43 x46)
def strings_Replace.c16 (k : Nat) (x8 : List UInt8) (x9 : List UInt8) (x10 : List UInt8) (x11 : Int)  : Option (List UInt8) :=
let v12 : Int := (IntKind.wrap .i64 ((x10.length : Int) - (x9.length : Int)))
let v13 : Int := (IntKind.wrap .i64 (x11 * v12))
let v14 : Int := (IntKind.wrap .i64 ((x8.length : Int) + v13))
(f__strings_Builder__Grow k v14 ([] : List UInt8)).bind fun r15 =>
let v16 : Bool := (decide ((x9.length : Int) > (0 : Int)))
cond v16 (
strings_Replace.c27 k k x8 x9 x10 (0 : Int) x11 (0 : Int) r15 (fun (y31 : List UInt8) (y32 : Int) (y33 : List UInt8) =>
strings_Replace.c56 k y31 y32 y33)) (
(f__strings_Builder__WriteString k x10 r15).bind fun r39 =>
let v40 : Int := (IntKind.wrap .i64 (x11 - (1 : Int)))
strings_Replace.c43 k k x8 x10 (0 : Int) v40 (0 : Int) r39.2 (fun (y53 : List UInt8) (y54 : Int) (y55 : List UInt8) =>
strings_Replace.c56 k y53 y54 y55))
def strings_Replace (k : Nat) (a1 : List UInt8) (a2 : List UInt8) (a3 : List UInt8) (a4 : Int) : Option (List UInt8) :=
let v5 : Bool := (cond (a2 == a3) true (a4 == (0 : Int)))
cond v5 (
some a1) (
(strings_Count k a1 a2).bind fun r6 =>
cond (r6 == (0 : Int)) (
some a1) (
let v7 : Bool := (cond (decide (a4 < (0 : Int))) true (decide (r6 < a4)))
cond v7 (
strings_Replace.c16 k a1 a2 a3 r6) (
strings_Replace.c16 k a1 a2 a3 a4)))
def strings_Replace.kr (w0 : World) (k : Nat) : Kr T (List UInt8) := (kret (retK (cfg w0 (tab45 k)) Tryz.f25.results.toList 0 [] io1.pat))
def strings_Replace.x27 : Ex → Option (List Nat × List Sp)
  | .exit 0 => some ([0, 10, 11], [])
  | _ => none
def strings_Replace.L27 (k : Nat) (n : Nat) (v : (List UInt8) × (List UInt8) × (List UInt8) × Int × Int × Int × (List UInt8)) (K : Ex → St T → Option (List UInt8)) : Option (List UInt8) := strings_Replace.c27 k n v.1 v.2.1 v.2.2.1 v.2.2.2.1 v.2.2.2.2.1 v.2.2.2.2.2.1 v.2.2.2.2.2.2 (fun y69 y70 y71 => K (.exit 0) (mkSt [0, 10, 11] (io14.enc (y69, y70, y71))))
def strings_Replace.x56 : Ex → Option (List Nat × List Sp)
  | _ => none
def strings_Replace.L56 (k : Nat) (v : (List UInt8) × Int × (List UInt8)) (K : Ex → St T → Option (List UInt8)) : Option (List UInt8) := strings_Replace.c56 k v.1 v.2.1 v.2.2
def strings_Replace.x43 : Ex → Option (List Nat × List Sp)
  | .exit 2 => some ([0, 10, 11], [])
  | _ => none
def strings_Replace.L43 (k : Nat) (n : Nat) (v : (List UInt8) × (List UInt8) × Int × Int × Int × (List UInt8)) (K : Ex → St T → Option (List UInt8)) : Option (List UInt8) := strings_Replace.c43 k n v.1 v.2.1 v.2.2.1 v.2.2.2.1 v.2.2.2.2.1 v.2.2.2.2.2 (fun y72 y73 y74 => K (.exit 2) (mkSt [0, 10, 11] (io14.enc (y72, y73, y74))))
def strings_Replace.x16 : Ex → Option (List Nat × List Sp)
  | _ => none
def strings_Replace.L16 (k : Nat) (v : (List UInt8) × (List UInt8) × (List UInt8) × Int) (K : Ex → St T → Option (List UInt8)) : Option (List UInt8) := strings_Replace.c16 k v.1 v.2.1 v.2.2.1 v.2.2.2
def strings_Replace.cuts (w0 : World) (k : Nat) : Cuts T (List UInt8) := fun n => bif n.beq 27 then some (entK (cfg w0 (tab45 k)) 0 [0, 1, 2, 10, 11, 52, 53] [] io70.pat (strings_Replace.L27 k k)) else bif n.beq 56 then some (entK (cfg w0 (tab45 k)) 0 [0, 10, 11] [] io14.pat (strings_Replace.L56 k)) else bif n.beq 43 then some (entK (cfg w0 (tab45 k)) 0 [0, 2, 10, 11, 77, 78] [] io71.pat (strings_Replace.L43 k k)) else bif n.beq 16 then some (entK (cfg w0 (tab45 k)) 0 [0, 1, 2, 3] [] io69.pat (strings_Replace.L16 k)) else none
def strings_Replace.body : Code := bodyOf Tryz.f25
def strings_Replace.b27 : Code := findD 27 strings_Replace.body
theorem strings_Replace.s27 (w0 : World) (k : Nat) : ∀ n v K, strings_Replace.L27 k (n + 1) v K = runK (cfg w0 (tab45 k)) Tryz.f25.ntmps (strings_Replace.kr w0 k) (annot (strings_Replace.cuts w0 k) strings_Replace.b27) (mkSt [0, 1, 2, 10, 11, 52, 53] (io70.enc v)) (loopK (cfg w0 (tab45 k)) 0 strings_Replace.x27 (entK (cfg w0 (tab45 k)) 0 [0, 1, 2, 10, 11, 52, 53] [] io70.pat (strings_Replace.L27 k n)) K) := by
  intro n v K; kernel_rfl
def strings_Replace.b56 : Code := findD 56 strings_Replace.body
theorem strings_Replace.s56 (w0 : World) (k : Nat) : ∀ v K, strings_Replace.L56 k v K = runK (cfg w0 (tab45 k)) Tryz.f25.ntmps (strings_Replace.kr w0 k) (annot (strings_Replace.cuts w0 k) strings_Replace.b56) (mkSt [0, 10, 11] (io14.enc v)) (outK (cfg w0 (tab45 k)) 0 strings_Replace.x56 K) := by
  intro v K; kernel_rfl
def strings_Replace.b43 : Code := findD 43 strings_Replace.body
theorem strings_Replace.s43 (w0 : World) (k : Nat) : ∀ n v K, strings_Replace.L43 k (n + 1) v K = runK (cfg w0 (tab45 k)) Tryz.f25.ntmps (strings_Replace.kr w0 k) (annot (strings_Replace.cuts w0 k) strings_Replace.b43) (mkSt [0, 2, 10, 11, 77, 78] (io71.enc v)) (loopK (cfg w0 (tab45 k)) 0 strings_Replace.x43 (entK (cfg w0 (tab45 k)) 0 [0, 2, 10, 11, 77, 78] [] io71.pat (strings_Replace.L43 k n)) K) := by
  intro n v K; kernel_rfl
def strings_Replace.b16 : Code := findD 16 strings_Replace.body
theorem strings_Replace.s16 (w0 : World) (k : Nat) : ∀ v K, strings_Replace.L16 k v K = runK (cfg w0 (tab45 k)) Tryz.f25.ntmps (strings_Replace.kr w0 k) (annot (strings_Replace.cuts w0 k) strings_Replace.b16) (mkSt [0, 1, 2, 3] (io69.enc v)) (outK (cfg w0 (tab45 k)) 0 strings_Replace.x16 K) := by
  intro v K; kernel_rfl
theorem strings_Replace.e (w0 : World) (k : Nat) : ∀ v, (fun v => strings_Replace k v.1 v.2.1 v.2.2.1 v.2.2.2) v = runK (cfg w0 (tab45 k)) Tryz.f25.ntmps (strings_Replace.kr w0 k) (annot (strings_Replace.cuts w0 k) strings_Replace.body) (entry (io69.enc v).1 (io69.enc v).2) (endK (strings_Replace.kr w0 k)) := by
  intro v; kernel_rfl
theorem strings_Replace.hb : Tryz.f25.body = some strings_Replace.body := by kernel_rfl
def tab46 (k : Nat) : Tab T := addTab 25 (line io69 io1 [] (fun v => strings_Replace k v.1 v.2.1 v.2.2.1 v.2.2.2)) (tab45 k)
def media_featureText (k : Nat) (a1 : Int) (a2 : Int) : Option (List UInt8) :=
let v3 : Bool := (cond (decide (a1 ≥ (1 : Int))) (decide (a1 ≤ (3 : Int))) false)
cond v3 (
cond (decide (0 ≤ a1 ∧ a1 < ((12 : Nat) : Int))) (
let v4 : List UInt8 := (([g0_0, g0_1, g0_2, g0_3, g0_4, g0_5, g0_6, g0_7, g0_8, g0_9, g0_10, g0_11]).getD a1.toNat [])
some v4) none) (
let v5 : Bool := (cond (decide (a1 ≥ (4 : Int))) (decide (a1 ≤ (7 : Int))) false)
cond v5 (
cond (decide (0 ≤ a1 ∧ a1 < ((12 : Nat) : Int))) (
let v6 : List UInt8 := (([g0_0, g0_1, g0_2, g0_3, g0_4, g0_5, g0_6, g0_7, g0_8, g0_9, g0_10, g0_11]).getD a1.toNat [])
cond (Nat.ble (([40] : List UInt8).length + v6.length) 9223372036854775807) (
cond (Nat.ble ((([40] : List UInt8) ++ v6).length + ([58, 32] : List UInt8).length) 9223372036854775807) (
let v7 : List UInt8 := ((([40] : List UInt8) ++ v6) ++ ([58, 32] : List UInt8))
(strconv_Itoa k a2).bind fun r8 =>
cond (Nat.ble (v7.length + r8.length) 9223372036854775807) (
cond (Nat.ble ((v7 ++ r8).length + ([112, 120, 41] : List UInt8).length) 9223372036854775807) (
let v9 : List UInt8 := ((v7 ++ r8) ++ ([112, 120, 41] : List UInt8))
some v9) none) none) none) none) none) (
let v10 : Bool := (cond (decide (a1 ≥ (8 : Int))) (decide (a1 ≤ (11 : Int))) false)
cond v10 (
cond (decide (0 ≤ a1 ∧ a1 < ((12 : Nat) : Int))) (
let v11 : List UInt8 := (([g0_0, g0_1, g0_2, g0_3, g0_4, g0_5, g0_6, g0_7, g0_8, g0_9, g0_10, g0_11]).getD a1.toNat [])
(strings_Replace k v11 ([58] : List UInt8) ([58, 32] : List UInt8) (1 : Int)).bind fun r12 =>
cond (Nat.ble (([40] : List UInt8).length + r12.length) 9223372036854775807) (
cond (Nat.ble ((([40] : List UInt8) ++ r12).length + ([41] : List UInt8).length) 9223372036854775807) (
let v13 : List UInt8 := ((([40] : List UInt8) ++ r12) ++ ([41] : List UInt8))
some v13) none) none) none) (
some ([40, 63, 41] : List UInt8))))
def media_featureText.kr (w0 : World) (k : Nat) : Kr T (List UInt8) := (kret (retK (cfg w0 (tab46 k)) Tryz.f16.results.toList 0 [] io1.pat))
def media_featureText.cuts (w0 : World) (k : Nat) : Cuts T (List UInt8) := fun n => none
def media_featureText.body : Code := bodyOf Tryz.f16
theorem media_featureText.e (w0 : World) (k : Nat) : ∀ v, (fun v => media_featureText k v.1 v.2) v = runK (cfg w0 (tab46 k)) Tryz.f16.ntmps (media_featureText.kr w0 k) (annot (media_featureText.cuts w0 k) media_featureText.body) (entry (io48.enc v).1 (io48.enc v).2) (endK (media_featureText.kr w0 k)) := by
  intro v; kernel_rfl
theorem media_featureText.hb : Tryz.f16.body = some media_featureText.body := by kernel_rfl
def tab47 (k : Nat) : Tab T := addTab 16 (line io48 io1 [] (fun v => media_featureText k v.1 v.2)) (tab46 k)
def strings_Join.c20 (k : Nat) (x8 : List UInt8) (x9 : Int) (kn : (List UInt8) → Int → Option (Bool × (List UInt8) × (List UInt8))) : Option (Bool × (List UInt8) × (List UInt8)) :=
let v10 : Int := (IntKind.wrap .i64 (((0 : Nat) : Int) - (1 : Int)))
let v11 : Int := (IntKind.wrap .i64 ((x8.length : Int) * v10))
kn x8 (IntKind.wrap .i64 (x9 + v11))
def strings_Join.c25 (k : Nat) : Nat → (List UInt8) → Int → Int → Int → ((List UInt8) → Int → Option (Bool × (List UInt8) × (List UInt8))) → Option (Bool × (List UInt8) × (List UInt8))
  | 0, _, _, _, _, _ => none
  | n + 1, x16, x17, x18, x19, k1 =>
    cond (decide (x19 < x18)) (
    none) (
    k1 x16 x17)
def strings_Join.c22 (k : Nat) (x14 : List UInt8) (x15 : Int)  : Option (Bool × (List UInt8) × (List UInt8)) :=
strings_Join.c25 k k x14 x15 ((0 : Nat) : Int) (0 : Int) (fun (y20 : List UInt8) (y21 : Int) =>
(f__strings_Builder__Grow k y21 ([] : List UInt8)).bind fun r22 =>
none)
def strings_Join (k : Nat) (a1 : List UInt8) : Option (Bool × (List UInt8) × (List UInt8)) :=
let v2 : Bool := (((0 : Nat) : Int) == (0 : Int))
cond v2 (
some (false, [], ([] : List UInt8))) (
let v3 : Bool := (((0 : Nat) : Int) == (1 : Int))
cond v3 (
none) (
let v4 : Bool := (decide ((a1.length : Int) > (0 : Int)))
cond v4 (
let v5 : Int := (IntKind.wrap .i64 (((0 : Nat) : Int) - (1 : Int)))
cond (v5 != 0) (
let v6 : Int := (IntKind.wrap .i64 (Int.tdiv (9223372036854775807 : Int) v5))
let v7 : Bool := (decide ((a1.length : Int) ≥ v6))
cond v7 (
some (true, ([115, 116, 114, 105, 110, 103, 115, 58, 32, 74, 111, 105, 110, 32, 111, 117, 116, 112, 117, 116, 32, 108, 101, 110, 103, 116, 104, 32, 111, 118, 101, 114, 102, 108, 111, 119] : List UInt8), [])) (
strings_Join.c20 k a1 (0 : Int) (fun (y12 : List UInt8) (y13 : Int) =>
strings_Join.c22 k y12 y13))) none) (
strings_Join.c22 k a1 (0 : Int))))
def strings_Join.kr (w0 : World) (k : Nat) : Kr T (Bool × (List UInt8) × (List UInt8)) := (kpan (retK (cfg w0 (tab47 k)) Tryz.f17.results.toList 0 [] io1.pat) pp9 [] [])
def strings_Join.x20 : Ex → Option (List Nat × List Sp)
  | .norm => some ([0, 1, 5], [])
  | _ => none
def strings_Join.L20 (k : Nat) (v : (List UInt8) × Int) (K : Ex → St T → Option (Bool × (List UInt8) × (List UInt8))) : Option (Bool × (List UInt8) × (List UInt8)) := strings_Join.c20 k v.1 v.2 (fun y75 y76 => K .norm (mkSt [0, 1, 5] (io73.enc (y75, y76))))
def strings_Join.x25 : Ex → Option (List Nat × List Sp)
  | .exit 1 => some ([0, 1, 5], [])
  | _ => none
def strings_Join.L25 (k : Nat) (n : Nat) (v : (List UInt8) × Int × Int × Int) (K : Ex → St T → Option (Bool × (List UInt8) × (List UInt8))) : Option (Bool × (List UInt8) × (List UInt8)) := strings_Join.c25 k n v.1 v.2.1 v.2.2.1 v.2.2.2 (fun y77 y78 => K (.exit 1) (mkSt [0, 1, 5] (io73.enc (y77, y78))))
def strings_Join.x22 : Ex → Option (List Nat × List Sp)
  | _ => none
def strings_Join.L22 (k : Nat) (v : (List UInt8) × Int) (K : Ex → St T → Option (Bool × (List UInt8) × (List UInt8))) : Option (Bool × (List UInt8) × (List UInt8)) := strings_Join.c22 k v.1 v.2
def strings_Join.cuts (w0 : World) (k : Nat) : Cuts T (Bool × (List UInt8) × (List UInt8)) := fun n => bif n.beq 20 then some (entK (cfg w0 (tab47 k)) 0 [0, 1, 5] [] io73.pat (strings_Join.L20 k)) else bif n.beq 25 then some (entK (cfg w0 (tab47 k)) 0 [0, 1, 5, 39, 40, 41] [] io74.pat (strings_Join.L25 k k)) else bif n.beq 22 then some (entK (cfg w0 (tab47 k)) 0 [0, 1, 5] [] io73.pat (strings_Join.L22 k)) else none
def strings_Join.body : Code := bodyOf Tryz.f17
def strings_Join.b20 : Code := findD 20 strings_Join.body
theorem strings_Join.s20 (w0 : World) (k : Nat) : ∀ v K, strings_Join.L20 k v K = runK (cfg w0 (tab47 k)) Tryz.f17.ntmps (strings_Join.kr w0 k) (annot (strings_Join.cuts w0 k) strings_Join.b20) (mkSt [0, 1, 5] (io73.enc v)) (outK (cfg w0 (tab47 k)) 0 strings_Join.x20 K) := by
  intro v K; kernel_rfl
def strings_Join.b25 : Code := findD 25 strings_Join.body
theorem strings_Join.s25 (w0 : World) (k : Nat) : ∀ n v K, strings_Join.L25 k (n + 1) v K = runK (cfg w0 (tab47 k)) Tryz.f17.ntmps (strings_Join.kr w0 k) (annot (strings_Join.cuts w0 k) strings_Join.b25) (mkSt [0, 1, 5, 39, 40, 41] (io74.enc v)) (loopK (cfg w0 (tab47 k)) 0 strings_Join.x25 (entK (cfg w0 (tab47 k)) 0 [0, 1, 5, 39, 40, 41] [] io74.pat (strings_Join.L25 k n)) K) := by
  intro n v K; kernel_rfl
def strings_Join.b22 : Code := findD 22 strings_Join.body
theorem strings_Join.s22 (w0 : World) (k : Nat) : ∀ v K, strings_Join.L22 k v K = runK (cfg w0 (tab47 k)) Tryz.f17.ntmps (strings_Join.kr w0 k) (annot (strings_Join.cuts w0 k) strings_Join.b22) (mkSt [0, 1, 5] (io73.enc v)) (outK (cfg w0 (tab47 k)) 0 strings_Join.x22 K) := by
  intro v K; kernel_rfl
theorem strings_Join.e (w0 : World) (k : Nat) : ∀ v, (fun v => strings_Join k v) v = runK (cfg w0 (tab47 k)) Tryz.f17.ntmps (strings_Join.kr w0 k) (annot (strings_Join.cuts w0 k) strings_Join.body) (entry (io72.enc v).1 (io72.enc v).2) (endK (strings_Join.kr w0 k)) := by
  intro v; kernel_rfl
theorem strings_Join.hb : Tryz.f17.body = some strings_Join.body := by kernel_rfl
def tab48 (k : Nat) : Tab T := addTab 17 (lineP io72 io1 pe9 [] [] (fun v => strings_Join k v)) (tab47 k)
def strings_Join_v2.c20 (k : Nat) (x9 : List (List UInt8)) (x10 : List UInt8) (x11 : Int) (kn : (List (List UInt8)) → (List UInt8) → Int → Option (Bool × (List UInt8) × (List UInt8))) : Option (Bool × (List UInt8) × (List UInt8)) :=
let v12 : Int := (IntKind.wrap .i64 ((x9.length : Int) - (1 : Int)))
let v13 : Int := (IntKind.wrap .i64 ((x10.length : Int) * v12))
let v14 : Int := (IntKind.wrap .i64 (x11 + v13))
kn x9 x10 v14
def strings_Join_v2.c32 (k : Nat) (x29 : List (List UInt8)) (x30 : List UInt8) (x31 : Int) (x32 : List UInt8) (x33 : List (List UInt8)) (x34 : Int) (x35 : Int) (kn : (List (List UInt8)) → (List UInt8) → Int → (List (List UInt8)) → Int → Int → Option (Bool × (List UInt8) × (List UInt8))) : Option (Bool × (List UInt8) × (List UInt8)) :=
let v36 : Int := (IntKind.wrap .i64 (x31 + (x32.length : Int)))
kn x29 x30 v36 x33 x34 x35
def strings_Join_v2.c25 (k : Nat) : Nat → (List (List UInt8)) → (List UInt8) → Int → (List (List UInt8)) → Int → Int → ((List (List UInt8)) → (List UInt8) → Int → Option (Bool × (List UInt8) × (List UInt8))) → Option (Bool × (List UInt8) × (List UInt8))
  | 0, _, _, _, _, _, _, _ => none
  | n + 1, x21, x22, x23, x24, x25, x26, k1 =>
    cond (decide (x26 < x25)) (
    cond (decide (0 ≤ x26 ∧ x26 < (x24.length : Int))) (
    let v27 : Int := ((x24.getD x26.toNat []).length : Int)
    let v28 : Int := (IntKind.wrap .i64 ((9223372036854775807 : Int) - x23))
    cond (decide (v27 > v28)) (
    some (true, ([115, 116, 114, 105, 110, 103, 115, 58, 32, 74, 111, 105, 110, 32, 111, 117, 116, 112, 117, 116, 32, 108, 101, 110, 103, 116, 104, 32, 111, 118, 101, 114, 102, 108, 111, 119] : List UInt8), [])) (
    strings_Join_v2.c32 k x21 x22 x23 (x24.getD x26.toNat []) x24 x25 x26 (fun (y37 : List (List UInt8)) (y38 : List UInt8) (y39 : Int) (y40 : List (List UInt8)) (y41 : Int) (y42 : Int) =>
    let v43 : Int := (IntKind.wrap .i64 (y42 + (1 : Int)))
    strings_Join_v2.c25 k n y37 y38 y39 y40 y41 v43 k1))) none) (
    k1 x21 x22 x23)
def strings_Join_v2.c45 (k : Nat) : Nat → (List UInt8) → (List (List UInt8)) → Int → Int → (List UInt8) → ((List UInt8) → Option (Bool × (List UInt8) × (List UInt8))) → Option (Bool × (List UInt8) × (List UInt8))
  | 0, _, _, _, _, _, _ => none
  | n + 1, x51, x52, x53, x54, x55, k3 =>
    cond (decide (x54 < x53)) (
    cond (decide (0 ≤ x54 ∧ x54 < (x52.length : Int))) (
    (f__strings_Builder__WriteString k x51 x55).bind fun r56 =>
    (f__strings_Builder__WriteString k (x52.getD x54.toNat []) r56.2).bind fun r57 =>
    let v58 : Int := (IntKind.wrap .i64 (x54 + (1 : Int)))
    strings_Join_v2.c45 k n x51 x52 x53 v58 r57.2 k3) none) (
    k3 x55)
def strings_Join_v2.c22 (k : Nat) (x18 : List (List UInt8)) (x19 : List UInt8) (x20 : Int)  : Option (Bool × (List UInt8) × (List UInt8)) :=
strings_Join_v2.c25 k k x18 x19 x20 x18 (x18.length : Int) (0 : Int) (fun (y44 : List (List UInt8)) (y45 : List UInt8) (y46 : Int) =>
(f__strings_Builder__Grow k y46 ([] : List UInt8)).bind fun r47 =>
cond (decide (0 ≤ (0 : Int) ∧ (0 : Int) < (y44.length : Int))) (
let v48 : List UInt8 := (y44.getD ((0 : Int).toNat) [])
(f__strings_Builder__WriteString k v48 r47).bind fun r49 =>
cond (decide (0 ≤ (1 : Int) ∧ (1 : Int) ≤ (y44.length : Int))) (
let v50 : Int := ((y44.drop (1 : Int).toNat).length : Int)
strings_Join_v2.c45 k k y45 (y44.drop (1 : Int).toNat) v50 (0 : Int) r49.2 (fun (y59 : List UInt8) =>
(f__strings_Builder__String k y59).bind fun r60 =>
some (false, [], r60.1))) none) none)
def strings_Join_v2 (k : Nat) (a1 : List (List UInt8)) (a2 : List UInt8) : Option (Bool × (List UInt8) × (List UInt8)) :=
let v3 : Bool := ((a1.length : Int) == (0 : Int))
cond v3 (
some (false, [], ([] : List UInt8))) (
let v4 : Bool := ((a1.length : Int) == (1 : Int))
cond v4 (
cond (decide (0 ≤ (0 : Int) ∧ (0 : Int) < (a1.length : Int))) (
some (false, [], (a1.getD ((0 : Int).toNat) []))) none) (
let v5 : Bool := (decide ((a2.length : Int) > (0 : Int)))
cond v5 (
let v6 : Int := (IntKind.wrap .i64 ((a1.length : Int) - (1 : Int)))
cond (v6 != 0) (
let v7 : Int := (IntKind.wrap .i64 (Int.tdiv (9223372036854775807 : Int) v6))
let v8 : Bool := (decide ((a2.length : Int) ≥ v7))
cond v8 (
some (true, ([115, 116, 114, 105, 110, 103, 115, 58, 32, 74, 111, 105, 110, 32, 111, 117, 116, 112, 117, 116, 32, 108, 101, 110, 103, 116, 104, 32, 111, 118, 101, 114, 102, 108, 111, 119] : List UInt8), [])) (
strings_Join_v2.c20 k a1 a2 (0 : Int) (fun (y15 : List (List UInt8)) (y16 : List UInt8) (y17 : Int) =>
strings_Join_v2.c22 k y15 y16 y17))) none) (
strings_Join_v2.c22 k a1 a2 (0 : Int))))
def strings_Join_v2.kr (w0 : World) (k : Nat) : Kr T (Bool × (List UInt8) × (List UInt8)) := (kpan (retK (cfg w0 (tab48 k)) Tryz.f17.results.toList 0 [] io1.pat) pp9 [] [])
def strings_Join_v2.x20 : Ex → Option (List Nat × List Sp)
  | .norm => some ([0, 1, 5], [])
  | _ => none
def strings_Join_v2.L20 (k : Nat) (v : (List (List UInt8)) × (List UInt8) × Int) (K : Ex → St T → Option (Bool × (List UInt8) × (List UInt8))) : Option (Bool × (List UInt8) × (List UInt8)) := strings_Join_v2.c20 k v.1 v.2.1 v.2.2 (fun y79 y80 y81 => K .norm (mkSt [0, 1, 5] (io76.enc (y79, y80, y81))))
def strings_Join_v2.x32 : Ex → Option (List Nat × List Sp)
  | .norm => some ([0, 1, 5, 39, 40, 41], [])
  | _ => none
def strings_Join_v2.L32 (k : Nat) (v : (List (List UInt8)) × (List UInt8) × Int × (List UInt8) × (List (List UInt8)) × Int × Int) (K : Ex → St T → Option (Bool × (List UInt8) × (List UInt8))) : Option (Bool × (List UInt8) × (List UInt8)) := strings_Join_v2.c32 k v.1 v.2.1 v.2.2.1 v.2.2.2.1 v.2.2.2.2.1 v.2.2.2.2.2.1 v.2.2.2.2.2.2 (fun y82 y83 y84 y85 y86 y87 => K .norm (mkSt [0, 1, 5, 39, 40, 41] (io78.enc (y82, y83, y84, y85, y86, y87))))
def strings_Join_v2.x25 : Ex → Option (List Nat × List Sp)
  | .exit 1 => some ([0, 1, 5], [])
  | _ => none
def strings_Join_v2.L25 (k : Nat) (n : Nat) (v : (List (List UInt8)) × (List UInt8) × Int × (List (List UInt8)) × Int × Int) (K : Ex → St T → Option (Bool × (List UInt8) × (List UInt8))) : Option (Bool × (List UInt8) × (List UInt8)) := strings_Join_v2.c25 k n v.1 v.2.1 v.2.2.1 v.2.2.2.1 v.2.2.2.2.1 v.2.2.2.2.2 (fun y88 y89 y90 => K (.exit 1) (mkSt [0, 1, 5] (io76.enc (y88, y89, y90))))
def strings_Join_v2.x45 : Ex → Option (List Nat × List Sp)
  | .exit 3 => some ([8], [])
  | _ => none
def strings_Join_v2.L45 (k : Nat) (n : Nat) (v : (List UInt8) × (List (List UInt8)) × Int × Int × (List UInt8)) (K : Ex → St T → Option (Bool × (List UInt8) × (List UInt8))) : Option (Bool × (List UInt8) × (List UInt8)) := strings_Join_v2.c45 k n v.1 v.2.1 v.2.2.1 v.2.2.2.1 v.2.2.2.2 (fun y91 => K (.exit 3) (mkSt [8] (io5.enc y91)))
def strings_Join_v2.x22 : Ex → Option (List Nat × List Sp)
  | _ => none
def strings_Join_v2.L22 (k : Nat) (v : (List (List UInt8)) × (List UInt8) × Int) (K : Ex → St T → Option (Bool × (List UInt8) × (List UInt8))) : Option (Bool × (List UInt8) × (List UInt8)) := strings_Join_v2.c22 k v.1 v.2.1 v.2.2
def strings_Join_v2.cuts (w0 : World) (k : Nat) : Cuts T (Bool × (List UInt8) × (List UInt8)) := fun n => bif n.beq 20 then some (entK (cfg w0 (tab48 k)) 0 [0, 1, 5] [] io76.pat (strings_Join_v2.L20 k)) else bif n.beq 32 then some (entK (cfg w0 (tab48 k)) 0 [0, 1, 5, 7, 39, 40, 41] [] io77.pat (strings_Join_v2.L32 k)) else bif n.beq 25 then some (entK (cfg w0 (tab48 k)) 0 [0, 1, 5, 39, 40, 41] [] io78.pat (strings_Join_v2.L25 k k)) else bif n.beq 45 then some (entK (cfg w0 (tab48 k)) 0 [1, 8, 63, 64, 65] [] io79.pat (strings_Join_v2.L45 k k)) else bif n.beq 22 then some (entK (cfg w0 (tab48 k)) 0 [0, 1, 5] [] io76.pat (strings_Join_v2.L22 k)) else none
def strings_Join_v2.body : Code := bodyOf Tryz.f17
def strings_Join_v2.b20 : Code := findD 20 strings_Join_v2.body
theorem strings_Join_v2.s20 (w0 : World) (k : Nat) : ∀ v K, strings_Join_v2.L20 k v K = runK (cfg w0 (tab48 k)) Tryz.f17.ntmps (strings_Join_v2.kr w0 k) (annot (strings_Join_v2.cuts w0 k) strings_Join_v2.b20) (mkSt [0, 1, 5] (io76.enc v)) (outK (cfg w0 (tab48 k)) 0 strings_Join_v2.x20 K) := by
  intro v K; kernel_rfl
def strings_Join_v2.b32 : Code := findD 32 strings_Join_v2.body
theorem strings_Join_v2.s32 (w0 : World) (k : Nat) : ∀ v K, strings_Join_v2.L32 k v K = runK (cfg w0 (tab48 k)) Tryz.f17.ntmps (strings_Join_v2.kr w0 k) (annot (strings_Join_v2.cuts w0 k) strings_Join_v2.b32) (mkSt [0, 1, 5, 7, 39, 40, 41] (io77.enc v)) (outK (cfg w0 (tab48 k)) 0 strings_Join_v2.x32 K) := by
  intro v K; kernel_rfl
def strings_Join_v2.b25 : Code := findD 25 strings_Join_v2.body
theorem strings_Join_v2.s25 (w0 : World) (k : Nat) : ∀ n v K, strings_Join_v2.L25 k (n + 1) v K = runK (cfg w0 (tab48 k)) Tryz.f17.ntmps (strings_Join_v2.kr w0 k) (annot (strings_Join_v2.cuts w0 k) strings_Join_v2.b25) (mkSt [0, 1, 5, 39, 40, 41] (io78.enc v)) (loopK (cfg w0 (tab48 k)) 0 strings_Join_v2.x25 (entK (cfg w0 (tab48 k)) 0 [0, 1, 5, 39, 40, 41] [] io78.pat (strings_Join_v2.L25 k n)) K) := by
  intro n v K; kernel_rfl
def strings_Join_v2.b45 : Code := findD 45 strings_Join_v2.body
theorem strings_Join_v2.s45 (w0 : World) (k : Nat) : ∀ n v K, strings_Join_v2.L45 k (n + 1) v K = runK (cfg w0 (tab48 k)) Tryz.f17.ntmps (strings_Join_v2.kr w0 k) (annot (strings_Join_v2.cuts w0 k) strings_Join_v2.b45) (mkSt [1, 8, 63, 64, 65] (io79.enc v)) (loopK (cfg w0 (tab48 k)) 0 strings_Join_v2.x45 (entK (cfg w0 (tab48 k)) 0 [1, 8, 63, 64, 65] [] io79.pat (strings_Join_v2.L45 k n)) K) := by
  intro n v K; kernel_rfl
def strings_Join_v2.b22 : Code := findD 22 strings_Join_v2.body
theorem strings_Join_v2.s22 (w0 : World) (k : Nat) : ∀ v K, strings_Join_v2.L22 k v K = runK (cfg w0 (tab48 k)) Tryz.f17.ntmps (strings_Join_v2.kr w0 k) (annot (strings_Join_v2.cuts w0 k) strings_Join_v2.b22) (mkSt [0, 1, 5] (io76.enc v)) (outK (cfg w0 (tab48 k)) 0 strings_Join_v2.x22 K) := by
  intro v K; kernel_rfl
theorem strings_Join_v2.e (w0 : World) (k : Nat) : ∀ v, (fun v => strings_Join_v2 k v.1 v.2) v = runK (cfg w0 (tab48 k)) Tryz.f17.ntmps (strings_Join_v2.kr w0 k) (annot (strings_Join_v2.cuts w0 k) strings_Join_v2.body) (entry (io75.enc v).1 (io75.enc v).2) (endK (strings_Join_v2.kr w0 k)) := by
  intro v; kernel_rfl
theorem strings_Join_v2.hb : Tryz.f17.body = some strings_Join_v2.body := by kernel_rfl
def tab49 (k : Nat) : Tab T := addTab 17 (lineP io75 io1 pe9 [] [] (fun v => strings_Join_v2 k v.1 v.2)) (tab48 k)
def media_Text.c15 (k : Nat) : Nat → (List S36) → Int → Int → (List S38) → Int → Int → (List (List UInt8)) → Bool → (List S38) → (List (List UInt8)) → ((List S36) → Int → Int → (List (List UInt8)) → Bool → (List S38) → (List (List UInt8)) → Option (Bool × (List UInt8) × (List UInt8))) → Option (Bool × (List UInt8) × (List UInt8))
  | 0, _, _, _, _, _, _, _, _, _, _, _ => none
  | n + 1, x7, x8, x9, x10, x11, x12, x13, x14, x15, x16, k2 =>
    cond (decide (x12 < x11)) (
    cond (decide (0 ≤ x12 ∧ x12 < (x10.length : Int))) (
    let v17 : Int := (x10.getD x12.toNat S38.d).Kind
    (media_featureText k v17 ((x10.getD x12.toNat S38.d).Num)).bind fun r18 =>
    cond (decide ((x16 ++ ([r18])).length < most)) (
    let v19 : Int := (IntKind.wrap .i64 (x12 + (1 : Int)))
    media_Text.c15 k n x7 x8 x9 x10 x11 v19 x13 x14 x15 (x16 ++ ([r18])) k2) none) none) (
    k2 x7 x8 x9 x13 x14 x15 x16)
def media_Text.c28 (k : Nat) (x29 : List UInt8) (x30 : List S36) (x31 : Int) (x32 : Int) (x33 : List (List UInt8)) (kn : (List S36) → Int → Int → (List (List UInt8)) → Option (Bool × (List UInt8) × (List UInt8))) : Option (Bool × (List UInt8) × (List UInt8)) :=
cond (decide ((x33 ++ ([x29])).length < most)) (
kn x30 x31 x32 (x33 ++ ([x29]))) none
def media_Text.c7 (k : Nat) : Nat → (List S36) → Int → Int → (List (List UInt8)) → ((List (List UInt8)) → Option (Bool × (List UInt8) × (List UInt8))) → Option (Bool × (List UInt8) × (List UInt8))
  | 0, _, _, _, _, _ => none
  | n + 1, x2, x3, x4, x5, k0 =>
    cond (decide (x4 < x3)) (
    cond (decide (0 ≤ x4 ∧ x4 < (x2.length : Int))) (
    let v6 : List S38 := (x2.getD x4.toNat S36.d).Features
    media_Text.c15 k k x2 x3 x4 v6 (v6.length : Int) (0 : Int) x5 ((x2.getD x4.toNat S36.d).Not) v6 ([] : List (List UInt8)) (fun (y20 : List S36) (y21 : Int) (y22 : Int) (y23 : List (List UInt8)) (y24 : Bool) (y25 : List S38) (y26 : List (List UInt8)) =>
    (strings_Join_v2 k y26 ([32, 97, 110, 100, 32] : List UInt8)).bind fun r27 =>
    cond r27.1 (
    some (true, r27.2.1, [])) (
    cond y24 (
    cond (Nat.ble (([110, 111, 116, 32] : List UInt8).length + r27.2.2.length) 9223372036854775807) (
    let v28 : List UInt8 := (([110, 111, 116, 32] : List UInt8) ++ r27.2.2)
    media_Text.c28 k v28 y20 y21 y22 y23 (fun (y34 : List S36) (y35 : Int) (y36 : Int) (y37 : List (List UInt8)) =>
    let v38 : Int := (IntKind.wrap .i64 (y36 + (1 : Int)))
    media_Text.c7 k n y34 y35 v38 y37 k0)) none) (
    media_Text.c28 k r27.2.2 y20 y21 y22 y23 (fun (y39 : List S36) (y40 : Int) (y41 : Int) (y42 : List (List UInt8)) =>
    let v43 : Int := (IntKind.wrap .i64 (y41 + (1 : Int)))
    media_Text.c7 k n y39 y40 v43 y42 k0))))) none) (
    k0 x5)
def media_Text (k : Nat) (a1 : List S36) : Option (Bool × (List UInt8) × (List UInt8)) :=
media_Text.c7 k k a1 (a1.length : Int) (0 : Int) ([] : List (List UInt8)) (fun (y44 : List (List UInt8)) =>
(strings_Join_v2 k y44 ([44, 32] : List UInt8)).bind fun r45 =>
cond r45.1 (
some (true, r45.2.1, [])) (
some (false, [], r45.2.2)))
def media_Text.kr (w0 : World) (k : Nat) : Kr T (Bool × (List UInt8) × (List UInt8)) := (kpan (retK (cfg w0 (tab49 k)) Tryz.f9.results.toList 0 [] io1.pat) pp9 [] [])
def media_Text.x15 : Ex → Option (List Nat × List Sp)
  | .exit 2 => some ([3, 5, 6, 10, 11, 12], [.own 3 9, .own 6 9])
  | _ => none
def media_Text.L15 (k : Nat) (n : Nat) (v : (List S36) × Int × Int × (List S38) × Int × Int × (List (List UInt8)) × Bool × (List S38) × (List (List UInt8))) (K : Ex → St T → Option (Bool × (List UInt8) × (List UInt8))) : Option (Bool × (List UInt8) × (List UInt8)) := media_Text.c15 k n v.1 v.2.1 v.2.2.1 v.2.2.2.1 v.2.2.2.2.1 v.2.2.2.2.2.1 v.2.2.2.2.2.2.1 v.2.2.2.2.2.2.2.1 v.2.2.2.2.2.2.2.2.1 v.2.2.2.2.2.2.2.2.2 (fun y92 y93 y94 y95 y96 y97 y98 => K (.exit 2) (mkSt [3, 5, 6, 10, 11, 12] (io82.enc (y92, y93, y94, y95, y96, y97, y98))))
def media_Text.x28 : Ex → Option (List Nat × List Sp)
  | .norm => some ([3, 10, 11, 12], [])
  | _ => none
def media_Text.L28 (k : Nat) (v : (List UInt8) × (List S36) × Int × Int × (List (List UInt8))) (K : Ex → St T → Option (Bool × (List UInt8) × (List UInt8))) : Option (Bool × (List UInt8) × (List UInt8)) := media_Text.c28 k v.1 v.2.1 v.2.2.1 v.2.2.2.1 v.2.2.2.2 (fun y99 y100 y101 y102 => K .norm (mkSt [3, 10, 11, 12] (io84.enc (y99, y100, y101, y102))))
def media_Text.x7 : Ex → Option (List Nat × List Sp)
  | .exit 0 => some ([3], [.own 3 9])
  | _ => none
def media_Text.L7 (k : Nat) (n : Nat) (v : (List S36) × Int × Int × (List (List UInt8))) (K : Ex → St T → Option (Bool × (List UInt8) × (List UInt8))) : Option (Bool × (List UInt8) × (List UInt8)) := media_Text.c7 k n v.1 v.2.1 v.2.2.1 v.2.2.2 (fun y103 => K (.exit 0) (mkSt [3] (io85.enc y103)))
def media_Text.cuts (w0 : World) (k : Nat) : Cuts T (Bool × (List UInt8) × (List UInt8)) := fun n => bif n.beq 15 then some (entK (cfg w0 (tab49 k)) 0 [3, 5, 6, 10, 11, 12, 17, 18, 19] [.own 3 9, .box 5 36, .own 6 9] io81.pat (media_Text.L15 k k)) else bif n.beq 28 then some (entK (cfg w0 (tab49 k)) 0 [3, 9, 10, 11, 12] [.own 3 9] io83.pat (media_Text.L28 k)) else bif n.beq 7 then some (entK (cfg w0 (tab49 k)) 0 [3, 10, 11, 12] [.own 3 9] io84.pat (media_Text.L7 k k)) else none
def media_Text.body : Code := bodyOf Tryz.f9
def media_Text.b15 : Code := findD 15 media_Text.body
theorem media_Text.s15 (w0 : World) (k : Nat) : ∀ n v K, media_Text.L15 k (n + 1) v K = runK (cfg w0 (tab49 k)) Tryz.f9.ntmps (media_Text.kr w0 k) (annot (media_Text.cuts w0 k) media_Text.b15) (mkSt [3, 5, 6, 10, 11, 12, 17, 18, 19] (io81.enc v)) (loopK (cfg w0 (tab49 k)) 0 media_Text.x15 (entK (cfg w0 (tab49 k)) 0 [3, 5, 6, 10, 11, 12, 17, 18, 19] [.own 3 9, .box 5 36, .own 6 9] io81.pat (media_Text.L15 k n)) K) := by
  intro n v K; kernel_rfl
def media_Text.b28 : Code := findD 28 media_Text.body
theorem media_Text.s28 (w0 : World) (k : Nat) : ∀ v K, media_Text.L28 k v K = runK (cfg w0 (tab49 k)) Tryz.f9.ntmps (media_Text.kr w0 k) (annot (media_Text.cuts w0 k) media_Text.b28) (mkSt [3, 9, 10, 11, 12] (io83.enc v)) (outK (cfg w0 (tab49 k)) 0 media_Text.x28 K) := by
  intro v K; kernel_rfl
def media_Text.b7 : Code := findD 7 media_Text.body
theorem media_Text.s7 (w0 : World) (k : Nat) : ∀ n v K, media_Text.L7 k (n + 1) v K = runK (cfg w0 (tab49 k)) Tryz.f9.ntmps (media_Text.kr w0 k) (annot (media_Text.cuts w0 k) media_Text.b7) (mkSt [3, 10, 11, 12] (io84.enc v)) (loopK (cfg w0 (tab49 k)) 0 media_Text.x7 (entK (cfg w0 (tab49 k)) 0 [3, 10, 11, 12] [.own 3 9] io84.pat (media_Text.L7 k n)) K) := by
  intro n v K; kernel_rfl
theorem media_Text.e (w0 : World) (k : Nat) : ∀ v, (fun v => media_Text k v) v = runK (cfg w0 (tab49 k)) Tryz.f9.ntmps (media_Text.kr w0 k) (annot (media_Text.cuts w0 k) media_Text.body) (entry (io80.enc v).1 (io80.enc v).2) (endK (media_Text.kr w0 k)) := by
  intro v; kernel_rfl
theorem media_Text.hb : Tryz.f9.body = some media_Text.body := by kernel_rfl
def tab50 (k : Nat) : Tab T := addTab 9 (lineP io80 io1 pe9 [] [] (fun v => media_Text k v)) (tab49 k)
def clerestorykeep2_sameQueries.c19 (k : Nat) : Nat → (List S36) → (List S36) → Int → Int → ((List S36) → (List S36) → Int → Option (Bool)) → Option (Bool)
  | 0, _, _, _, _, _ => none
  | n + 1, x12, x13, x14, x15, k2 =>
    cond (decide (0 ≤ x14 ∧ x14 < (x12.length : Int))) (
    let v16 : List S38 := (x12.getD x14.toNat S36.d).Features
    let v17 : Bool := (decide (x15 < (v16.length : Int)))
    cond v17 (
    cond (decide (0 ≤ x14 ∧ x14 < (x12.length : Int))) (
    let v18 : List S38 := (x12.getD x14.toNat S36.d).Features
    cond (decide (0 ≤ x15 ∧ x15 < (v18.length : Int))) (
    let v19 : Int := (v18.getD x15.toNat S38.d).Kind
    cond (decide (0 ≤ x14 ∧ x14 < (x13.length : Int))) (
    let v20 : List S38 := (x13.getD x14.toNat S36.d).Features
    cond (decide (0 ≤ x15 ∧ x15 < (v20.length : Int))) (
    let v21 : Int := (v20.getD x15.toNat S38.d).Kind
    let v22 : Bool := (!((v19 == v21) && ((((v18.getD x15.toNat S38.d).Num) == ((v20.getD x15.toNat S38.d).Num)) && true)))
    cond v22 (
    some false) (
    let v23 : Int := (IntKind.wrap .i64 (x15 + (1 : Int)))
    clerestorykeep2_sameQueries.c19 k n x12 x13 x14 v23 k2)) none) none) none) none) (
    k2 x12 x13 x14)) none
def clerestorykeep2_sameQueries.c9 (k : Nat) : Nat → (List S36) → (List S36) → Int → (Option (Bool)) → Option (Bool)
  | 0, _, _, _, _ => none
  | n + 1, x4, x5, x6, k0 =>
    let v7 : Bool := (decide (x6 < (x4.length : Int)))
    cond v7 (
    cond (decide (0 ≤ x6 ∧ x6 < (x4.length : Int))) (
    cond (decide (0 ≤ x6 ∧ x6 < (x5.length : Int))) (
    let v8 : Bool := (!(((x4.getD x6.toNat S36.d).Not) == ((x5.getD x6.toNat S36.d).Not)))
    cond ((decide (0 ≤ x6 ∧ x6 < (x4.length : Int))) || !(!v8)) (
    let v9 : List S38 := (x4.getD x6.toNat S36.d).Features
    cond ((decide (0 ≤ x6 ∧ x6 < (x5.length : Int))) || !(!v8)) (
    let v10 : List S38 := (x5.getD x6.toNat S36.d).Features
    let v11 : Bool := ((v9.length : Int) != (v10.length : Int))
    cond (cond v8 true v11) (
    some false) (
    clerestorykeep2_sameQueries.c19 k k x4 x5 x6 (0 : Int) (fun (y24 : List S36) (y25 : List S36) (y26 : Int) =>
    let v27 : Int := (IntKind.wrap .i64 (y26 + (1 : Int)))
    clerestorykeep2_sameQueries.c9 k n y24 y25 v27 k0))) none) none) none) none) (
    k0)
def clerestorykeep2_sameQueries (k : Nat) (a1 : List S36) (a2 : List S36) : Option (Bool) :=
let v3 : Bool := ((a1.length : Int) != (a2.length : Int))
cond v3 (
some false) (
clerestorykeep2_sameQueries.c9 k k a1 a2 (0 : Int) (
some true))
def clerestorykeep2_sameQueries.kr (w0 : World) (k : Nat) : Kr T (Bool) := (kret (retK (cfg w0 (tab50 k)) Tryz.f10.results.toList 0 [] io2.pat))
def clerestorykeep2_sameQueries.x19 : Ex → Option (List Nat × List Sp)
  | .exit 2 => some ([0, 1, 5], [])
  | _ => none
def clerestorykeep2_sameQueries.L19 (k : Nat) (n : Nat) (v : (List S36) × (List S36) × Int × Int) (K : Ex → St T → Option (Bool)) : Option (Bool) := clerestorykeep2_sameQueries.c19 k n v.1 v.2.1 v.2.2.1 v.2.2.2 (fun y104 y105 y106 => K (.exit 2) (mkSt [0, 1, 5] (io88.enc (y104, y105, y106))))
def clerestorykeep2_sameQueries.x9 : Ex → Option (List Nat × List Sp)
  | .exit 0 => some ([], [])
  | _ => none
def clerestorykeep2_sameQueries.L9 (k : Nat) (n : Nat) (v : (List S36) × (List S36) × Int) (K : Ex → St T → Option (Bool)) : Option (Bool) := clerestorykeep2_sameQueries.c9 k n v.1 v.2.1 v.2.2 ( K (.exit 0) (mkSt [] (io41.enc ())))
def clerestorykeep2_sameQueries.cuts (w0 : World) (k : Nat) : Cuts T (Bool) := fun n => bif n.beq 19 then some (entK (cfg w0 (tab50 k)) 0 [0, 1, 5, 6] [] io87.pat (clerestorykeep2_sameQueries.L19 k k)) else bif n.beq 9 then some (entK (cfg w0 (tab50 k)) 0 [0, 1, 5] [] io88.pat (clerestorykeep2_sameQueries.L9 k k)) else none
def clerestorykeep2_sameQueries.body : Code := bodyOf Tryz.f10
def clerestorykeep2_sameQueries.b19 : Code := findD 19 clerestorykeep2_sameQueries.body
theorem clerestorykeep2_sameQueries.s19 (w0 : World) (k : Nat) : ∀ n v K, clerestorykeep2_sameQueries.L19 k (n + 1) v K = runK (cfg w0 (tab50 k)) Tryz.f10.ntmps (clerestorykeep2_sameQueries.kr w0 k) (annot (clerestorykeep2_sameQueries.cuts w0 k) clerestorykeep2_sameQueries.b19) (mkSt [0, 1, 5, 6] (io87.enc v)) (loopK (cfg w0 (tab50 k)) 0 clerestorykeep2_sameQueries.x19 (entK (cfg w0 (tab50 k)) 0 [0, 1, 5, 6] [] io87.pat (clerestorykeep2_sameQueries.L19 k n)) K) := by
  intro n v K; kernel_rfl
def clerestorykeep2_sameQueries.b9 : Code := findD 9 clerestorykeep2_sameQueries.body
theorem clerestorykeep2_sameQueries.s9 (w0 : World) (k : Nat) : ∀ n v K, clerestorykeep2_sameQueries.L9 k (n + 1) v K = runK (cfg w0 (tab50 k)) Tryz.f10.ntmps (clerestorykeep2_sameQueries.kr w0 k) (annot (clerestorykeep2_sameQueries.cuts w0 k) clerestorykeep2_sameQueries.b9) (mkSt [0, 1, 5] (io88.enc v)) (loopK (cfg w0 (tab50 k)) 0 clerestorykeep2_sameQueries.x9 (entK (cfg w0 (tab50 k)) 0 [0, 1, 5] [] io88.pat (clerestorykeep2_sameQueries.L9 k n)) K) := by
  intro n v K; kernel_rfl
theorem clerestorykeep2_sameQueries.e (w0 : World) (k : Nat) : ∀ v, (fun v => clerestorykeep2_sameQueries k v.1 v.2) v = runK (cfg w0 (tab50 k)) Tryz.f10.ntmps (clerestorykeep2_sameQueries.kr w0 k) (annot (clerestorykeep2_sameQueries.cuts w0 k) clerestorykeep2_sameQueries.body) (entry (io86.enc v).1 (io86.enc v).2) (endK (clerestorykeep2_sameQueries.kr w0 k)) := by
  intro v; kernel_rfl
theorem clerestorykeep2_sameQueries.hb : Tryz.f10.body = some clerestorykeep2_sameQueries.body := by kernel_rfl
def tab51 (k : Nat) : Tab T := addTab 10 (line io86 io2 false (fun v => clerestorykeep2_sameQueries k v.1 v.2)) (tab50 k)
def clerestorykeep2_MediaBack (k : Nat) (a1 : List UInt8) : Option (Bool × (List UInt8) × Bool) :=
(clerestorykeep2_wide k).bind fun r2 =>
(media_Read k a1).bind fun r3 =>
cond (r3.1 != (0 : Int)) (
let v4 : Bool := (cond r2 (r3.1 == (2 : Int)) false)
let v5 : Bool := (decide ((a1.length : Int) > (400 : Int)))
some (false, [], (cond v4 v5 false))) (
(media_Text k r3.2).bind fun r6 =>
cond r6.1 (
some (true, r6.2.1, false)) (
(media_Read k r6.2.2).bind fun r7 =>
(clerestorykeep2_sameQueries k r3.2 r7.2).bind fun r8 =>
let v9 : Bool := (decide ((r3.2.length : Int) > (0 : Int)))
let v10 : Bool := (decide ((r6.2.2.length : Int) > (400 : Int)))
let v11 : Bool := (cond (r7.1 == (0 : Int)) r8 false)
let v12 : Bool := (cond (cond r2 v9 false) (cond v10 true v11) false)
some (false, [], v12)))
def clerestorykeep2_MediaBack.kr (w0 : World) (k : Nat) : Kr T (Bool × (List UInt8) × Bool) := (kpan (retK (cfg w0 (tab51 k)) Tryz.f3.results.toList 0 [] io2.pat) pp9 [] false)
def clerestorykeep2_MediaBack.cuts (w0 : World) (k : Nat) : Cuts T (Bool × (List UInt8) × Bool) := fun n => none
def clerestorykeep2_MediaBack.body : Code := bodyOf Tryz.f3
theorem clerestorykeep2_MediaBack.e (w0 : World) (k : Nat) : ∀ v, (fun v => clerestorykeep2_MediaBack k v) v = runK (cfg w0 (tab51 k)) Tryz.f3.ntmps (clerestorykeep2_MediaBack.kr w0 k) (annot (clerestorykeep2_MediaBack.cuts w0 k) clerestorykeep2_MediaBack.body) (entry (io1.enc v).1 (io1.enc v).2) (endK (clerestorykeep2_MediaBack.kr w0 k)) := by
  intro v; kernel_rfl
theorem clerestorykeep2_MediaBack.hb : Tryz.f3.body = some clerestorykeep2_MediaBack.body := by kernel_rfl
def tab52 (k : Nat) : Tab T := addTab 3 (lineP io1 io2 pe9 [] false (fun v => clerestorykeep2_MediaBack k v)) (tab51 k)
def clerestorykeep2_MediaNot.c17 (k : Nat) : Nat → Bool → Bool → Bool → Int → Int → Int → Bool → Bool → (List S36) → (Bool → Bool → Bool → Int → Int → Bool → Bool → (List S36) → Option (Bool)) → Option (Bool)
  | 0, _, _, _, _, _, _, _, _, _, _ => none
  | n + 1, x13, x14, x15, x16, x17, x18, x19, x20, x21, k0 =>
    cond (decide (0 ≤ (0 : Int) ∧ (0 : Int) < (x21.length : Int))) (
    let v22 : List S38 := (x21.getD ((0 : Int).toNat) S36.d).Features
    let v23 : Bool := (decide (x16 < (v22.length : Int)))
    cond v23 (
    cond ((decide (0 ≤ (0 : Int) ∧ (0 : Int) < (x21.length : Int))) || !x15) (
    let v24 : List S38 := (x21.getD ((0 : Int).toNat) S36.d).Features
    cond ((decide (0 ≤ x16 ∧ x16 < (v24.length : Int))) || !x15) (
    let v25 : Int := (v24.getD x16.toNat S38.d).Kind
    let v26 : Bool := (cond x15 (v25 != (12 : Int)) false)
    let v27 : Int := (IntKind.wrap .i64 (x16 + (1 : Int)))
    clerestorykeep2_MediaNot.c17 k n x13 x14 v26 v27 x17 x18 x19 x20 x21 k0) none) none) (
    k0 x13 x14 x15 x17 x18 x19 x20 x21)) none
def clerestorykeep2_MediaNot (k : Nat) (a1 : List UInt8) (a2 : Int) (a3 : Int) (a4 : Bool) (a5 : Bool) : Option (Bool) :=
(clerestorykeep2_wide k).bind fun r6 =>
(media_Read k a1).bind fun r7 =>
(media_Holds k a1 a2 a3 a4 a5).bind fun r8 =>
let v9 : Bool := (cond (r7.1 != (0 : Int)) true (r8.2 != (0 : Int)))
let v10 : Bool := ((r7.2.length : Int) != (1 : Int))
cond ((decide (0 ≤ (0 : Int) ∧ (0 : Int) < (r7.2.length : Int))) || !(!(cond v9 true v10))) (
let v11 : Bool := (r7.2.getD ((0 : Int).toNat) S36.d).Not
let v12 : Bool := (cond (cond v9 true v10) true v11)
cond v12 (
some r6) (
clerestorykeep2_MediaNot.c17 k k r6 r8.1 true (0 : Int) a2 a3 a4 a5 r7.2 (fun (y28 : Bool) (y29 : Bool) (y30 : Bool) (y31 : Int) (y32 : Int) (y33 : Bool) (y34 : Bool) (y35 : List S36) =>
(media_Text k y35).bind fun r36 =>
cond r36.1 (
none) (
cond (Nat.ble (([110, 111, 116, 32] : List UInt8).length + r36.2.2.length) 9223372036854775807) (
let v37 : List UInt8 := (([110, 111, 116, 32] : List UInt8) ++ r36.2.2)
(media_Holds k v37 y31 y32 y33 y34).bind fun r38 =>
let v39 : Bool := (cond (!y30) true (!(y29 == r38.1)))
let v40 : Bool := (cond (!(cond y29 r38.1 false)) v39 false)
let v41 : Bool := (cond (r38.2 != (0 : Int)) true v40)
some (cond y28 v41 false)) none)))) none
def clerestorykeep2_MediaNot.kr (w0 : World) (k : Nat) : Kr T (Bool) := (kret (retK (cfg w0 (tab52 k)) Tryz.f4.results.toList 0 [] io2.pat))
def clerestorykeep2_MediaNot.x17 : Ex → Option (List Nat × List Sp)
  | .exit 0 => some ([3, 5, 6, 8, 10], [])
  | _ => none
def clerestorykeep2_MediaNot.L17 (k : Nat) (n : Nat) (v : Bool × Bool × Bool × Int × Int × Int × Bool × Bool × (List S36)) (K : Ex → St T → Option (Bool)) : Option (Bool) := clerestorykeep2_MediaNot.c17 k n v.1 v.2.1 v.2.2.1 v.2.2.2.1 v.2.2.2.2.1 v.2.2.2.2.2.1 v.2.2.2.2.2.2.1 v.2.2.2.2.2.2.2.1 v.2.2.2.2.2.2.2.2 (fun y107 y108 y109 y110 y111 y112 y113 y114 => K (.exit 0) (mkSt [3, 5, 6, 8, 10] (io90.enc (y107, y108, y109, y110, y111, y112, y113, y114))))
def clerestorykeep2_MediaNot.cuts (w0 : World) (k : Nat) : Cuts T (Bool) := fun n => bif n.beq 17 then some (entK (cfg w0 (tab52 k)) 0 [3, 5, 6, 8, 10, 11] [] io89.pat (clerestorykeep2_MediaNot.L17 k k)) else none
def clerestorykeep2_MediaNot.body : Code := bodyOf Tryz.f4
def clerestorykeep2_MediaNot.b17 : Code := findD 17 clerestorykeep2_MediaNot.body
theorem clerestorykeep2_MediaNot.s17 (w0 : World) (k : Nat) : ∀ n v K, clerestorykeep2_MediaNot.L17 k (n + 1) v K = runK (cfg w0 (tab52 k)) Tryz.f4.ntmps (clerestorykeep2_MediaNot.kr w0 k) (annot (clerestorykeep2_MediaNot.cuts w0 k) clerestorykeep2_MediaNot.b17) (mkSt [3, 5, 6, 8, 10, 11] (io89.enc v)) (loopK (cfg w0 (tab52 k)) 0 clerestorykeep2_MediaNot.x17 (entK (cfg w0 (tab52 k)) 0 [3, 5, 6, 8, 10, 11] [] io89.pat (clerestorykeep2_MediaNot.L17 k n)) K) := by
  intro n v K; kernel_rfl
theorem clerestorykeep2_MediaNot.e (w0 : World) (k : Nat) : ∀ v, (fun v => clerestorykeep2_MediaNot k v.1 v.2.1 v.2.2.1 v.2.2.2.1 v.2.2.2.2) v = runK (cfg w0 (tab52 k)) Tryz.f4.ntmps (clerestorykeep2_MediaNot.kr w0 k) (annot (clerestorykeep2_MediaNot.cuts w0 k) clerestorykeep2_MediaNot.body) (entry (io62.enc v).1 (io62.enc v).2) (endK (clerestorykeep2_MediaNot.kr w0 k)) := by
  intro v; kernel_rfl
theorem clerestorykeep2_MediaNot.hb : Tryz.f4.body = some clerestorykeep2_MediaNot.body := by kernel_rfl
def tab53 (k : Nat) : Tab T := addTab 4 (line io62 io2 false (fun v => clerestorykeep2_MediaNot k v.1 v.2.1 v.2.2.1 v.2.2.2.1 v.2.2.2.2)) (tab52 k)
def clerestorykeep2_MediaWider (k : Nat) (a1 : Int) (a2 : Int) (a3 : Int) (a4 : Int) (a5 : Bool) (a6 : Bool) (a7 : Int) : Option (Bool × (List UInt8) × Bool) :=
(clerestorykeep2_wide k).bind fun r8 =>
cond ((5000 : Int) != 0) (
let v9 : Int := (Int.tmod (IntKind.wrap .u64 a1) (5000 : Int))
cond ((5000 : Int) != 0) (
let v10 : Int := (Int.tmod (IntKind.wrap .u64 a2) (5000 : Int))
let v11 : List S38 := [(⟨(4 : Int), (IntKind.wrap .i64 v9)⟩ : S38), (⟨(6 : Int), (IntKind.wrap .i64 v10)⟩ : S38)]
(media_Text k ([(⟨false, v11⟩ : S36)])).bind fun r12 =>
cond r12.1 (
some (true, r12.2.1, false)) (
cond ((5000 : Int) != 0) (
let v13 : Int := (Int.tmod (IntKind.wrap .u64 a1) (5000 : Int))
cond ((5000 : Int) != 0) (
let v14 : Int := (Int.tmod (IntKind.wrap .u64 a2) (5000 : Int))
let v15 : List S38 := [(⟨(5 : Int), (IntKind.wrap .i64 v13)⟩ : S38), (⟨(7 : Int), (IntKind.wrap .i64 v14)⟩ : S38)]
(media_Text k ([(⟨false, v15⟩ : S36)])).bind fun r16 =>
cond r16.1 (
some (true, r16.2.1, false)) (
let v17 : Int := (if (0 : Int) > a3 then (0 : Int) else a3)
let v18 : Int := (if (4000 : Int) < v17 then (4000 : Int) else v17)
cond ((500 : Int) != 0) (
let v19 : Int := (Int.tmod (IntKind.wrap .u64 a7) (500 : Int))
let v20 : Int := (IntKind.wrap .i64 (v18 + (IntKind.wrap .i64 v19)))
let v21 : Int := (if (0 : Int) > a4 then (0 : Int) else a4)
let v22 : Int := (if (4000 : Int) < v21 then (4000 : Int) else v21)
cond ((300 : Int) != 0) (
let v23 : Int := (Int.tmod (IntKind.wrap .u64 a7) (300 : Int))
let v24 : Int := (IntKind.wrap .i64 (v22 + (IntKind.wrap .i64 v23)))
(media_Holds k r12.2.2 a3 a4 a5 a6).bind fun r25 =>
(media_Holds k r12.2.2 v20 v24 a5 a6).bind fun r26 =>
(media_Holds k r16.2.2 v20 v24 a5 a6).bind fun r27 =>
(media_Holds k r16.2.2 a3 a4 a5 a6).bind fun r28 =>
let v29 : Bool := (cond (r25.2 != (0 : Int)) true (r26.2 != (0 : Int)))
let v30 : Bool := (cond v29 true (r27.2 != (0 : Int)))
let v31 : Bool := (cond v30 true (r28.2 != (0 : Int)))
cond v31 (
some (false, [], r8)) (
let v32 : Bool := (cond r8 (cond (!r25.1) true r26.1) false)
let v33 : Bool := (cond v32 (cond (!r27.1) true r28.1) false)
some (false, [], v33))) none) none)) none) none)) none) none
def clerestorykeep2_MediaWider.kr (w0 : World) (k : Nat) : Kr T (Bool × (List UInt8) × Bool) := (kpan (retK (cfg w0 (tab53 k)) Tryz.f5.results.toList 0 [] io2.pat) pp9 [] false)
def clerestorykeep2_MediaWider.cuts (w0 : World) (k : Nat) : Cuts T (Bool × (List UInt8) × Bool) := fun n => none
def clerestorykeep2_MediaWider.body : Code := bodyOf Tryz.f5
theorem clerestorykeep2_MediaWider.e (w0 : World) (k : Nat) : ∀ v, (fun v => clerestorykeep2_MediaWider k v.1 v.2.1 v.2.2.1 v.2.2.2.1 v.2.2.2.2.1 v.2.2.2.2.2.1 v.2.2.2.2.2.2) v = runK (cfg w0 (tab53 k)) Tryz.f5.ntmps (clerestorykeep2_MediaWider.kr w0 k) (annot (clerestorykeep2_MediaWider.cuts w0 k) clerestorykeep2_MediaWider.body) (entry (io91.enc v).1 (io91.enc v).2) (endK (clerestorykeep2_MediaWider.kr w0 k)) := by
  intro v; kernel_rfl
theorem clerestorykeep2_MediaWider.hb : Tryz.f5.body = some clerestorykeep2_MediaWider.body := by kernel_rfl
def tab54 (k : Nat) : Tab T := addTab 5 (lineP io91 io2 pe9 [] false (fun v => clerestorykeep2_MediaWider k v.1 v.2.1 v.2.2.1 v.2.2.2.1 v.2.2.2.2.1 v.2.2.2.2.2.1 v.2.2.2.2.2.2)) (tab53 k)
def clerestorykeep2_MediaList (k : Nat) (a1 : List UInt8) (a2 : List UInt8) (a3 : Int) (a4 : Int) (a5 : Bool) (a6 : Bool) : Option (Bool) :=
(clerestorykeep2_wide k).bind fun r7 =>
(media_Read k a1).bind fun r8 =>
(media_Read k a2).bind fun r9 =>
let v10 : Bool := (cond (r8.1 != (0 : Int)) true (r9.1 != (0 : Int)))
cond v10 (
some r7) (
(media_Text k r8.2).bind fun r11 =>
cond r11.1 (
none) (
(media_Holds k r11.2.2 a3 a4 a5 a6).bind fun r12 =>
(media_Text k r9.2).bind fun r13 =>
cond r13.1 (
none) (
(media_Holds k r13.2.2 a3 a4 a5 a6).bind fun r14 =>
(media_Text k r8.2).bind fun r15 =>
cond r15.1 (
none) (
cond (Nat.ble (r15.2.2.length + ([32, 44] : List UInt8).length) 9223372036854775807) (
let v16 : List UInt8 := (r15.2.2 ++ ([32, 44] : List UInt8))
(media_Text k r9.2).bind fun r17 =>
cond r17.1 (
none) (
cond (Nat.ble (v16.length + r17.2.2.length) 9223372036854775807) (
(media_Holds k (v16 ++ r17.2.2) a3 a4 a5 a6).bind fun r18 =>
let v19 : Bool := (cond (r12.2 != (0 : Int)) true (r14.2 != (0 : Int)))
let v20 : Bool := (cond v19 true (r18.2 != (0 : Int)))
let v21 : Bool := (r18.1 == (cond r12.1 true r14.1))
let v22 : Bool := (cond r7 (cond v20 true v21) false)
some v22) none)) none))))
def clerestorykeep2_MediaList.kr (w0 : World) (k : Nat) : Kr T (Bool) := (kret (retK (cfg w0 (tab54 k)) Tryz.f6.results.toList 0 [] io2.pat))
def clerestorykeep2_MediaList.cuts (w0 : World) (k : Nat) : Cuts T (Bool) := fun n => none
def clerestorykeep2_MediaList.body : Code := bodyOf Tryz.f6
theorem clerestorykeep2_MediaList.e (w0 : World) (k : Nat) : ∀ v, (fun v => clerestorykeep2_MediaList k v.1 v.2.1 v.2.2.1 v.2.2.2.1 v.2.2.2.2.1 v.2.2.2.2.2) v = runK (cfg w0 (tab54 k)) Tryz.f6.ntmps (clerestorykeep2_MediaList.kr w0 k) (annot (clerestorykeep2_MediaList.cuts w0 k) clerestorykeep2_MediaList.body) (entry (io92.enc v).1 (io92.enc v).2) (endK (clerestorykeep2_MediaList.kr w0 k)) := by
  intro v; kernel_rfl
theorem clerestorykeep2_MediaList.hb : Tryz.f6.body = some clerestorykeep2_MediaList.body := by kernel_rfl
def tab55 (k : Nat) : Tab T := addTab 6 (line io92 io2 false (fun v => clerestorykeep2_MediaList k v.1 v.2.1 v.2.2.1 v.2.2.2.1 v.2.2.2.2.1 v.2.2.2.2.2)) (tab54 k)
attribute [local irreducible] runK retK annot entry
theorem ok0 (w0 : World) (hw : Wd w0) (k : Nat) : CfOk (cfg w0 (tab0 k)) := noTab_ok fun _ _ _ => rfl
theorem sim_cf {w0 : World} {t t' : Tab T} {f : FuncId} {a : List (V T)} {b : List (Obj T)} {c : List (V T)} {d : List (Obj T)} (h : Sim (cfg w0 t) f a b c d) : Sim (cfg w0 t') f a b c d := h
theorem simP_cf {w0 : World} {t t' : Tab T} {f : FuncId} {a : List (V T)} {b : List (Obj T)} {c : List (V T)} {d : List (Obj T)} {p : V T} {q : Bool} (h : (q = false → Sim (cfg w0 t) f a b c d) ∧ (q = true → SimP (cfg w0 t) f a b p)) : (q = false → Sim (cfg w0 t') f a b c d) ∧ (q = true → SimP (cfg w0 t') f a b p) := h
theorem strings_TrimLeft.sim (w0 : World) (hw : Wd w0) (k : Nat) : ∀ v x, (fun v => strings_TrimLeft k v.1 v.2) v = some x → Sim (cfg w0 (tab0 k)) 31 (io0.enc v).1 (io0.enc v).2 (io1.enc x).1 (io1.enc x).2 := by
  intro v x h; exact sim_trimL (c := cfg w0 (tab0 k)) (ρ := Sh.ren161) Sh.l161 (by kernel_rfl) h
theorem ok1 (w0 : World) (hw : Wd w0) (k : Nat) : CfOk (cfg w0 (tab1 k)) := addTab_ok (ok0 w0 hw k) (strings_TrimLeft.sim w0 hw k)
theorem stringslite_HasPrefix.a (w0 : World) (k : Nat) : cutsAt (fun n => (stringslite_HasPrefix.cuts w0 k n).isSome) stringslite_HasPrefix.body = [] := by kernel_rfl
theorem stringslite_HasPrefix.sim (w0 : World) (hw : Wd w0) (k : Nat) : ∀ v x, (fun v => stringslite_HasPrefix k v.1 v.2) v = some x → Sim (cfg w0 (tab1 k)) 63 (io0.enc v).1 (io0.enc v).2 (io2.enc x).1 (io2.enc x).2 :=
  sim_of (c := (cfg w0 (tab1 k))) (fine w0 hw _ (ok1 w0 hw k)) (dr w0 hw _ (ok1 w0 hw k)) (i := io0) (o := io2) (ps := []) (cuts := fun _ => stringslite_HasPrefix.cuts w0 k) (m := 0) (g := fun v => stringslite_HasPrefix k v.1 v.2) Tryz.func63 (by kernel_rfl) stringslite_HasPrefix.hb (fun _ => rfl) (fun _ => Nat.le_of_ble_eq_true rfl) (good_cuts (stringslite_HasPrefix.a w0 k) trivial) (stringslite_HasPrefix.e w0 k)
theorem ok2 (w0 : World) (hw : Wd w0) (k : Nat) : CfOk (cfg w0 (tab2 k)) := addTab_ok (ok1 w0 hw k) (stringslite_HasPrefix.sim w0 hw k)
theorem stringslite_CutPrefix.a (w0 : World) (k : Nat) : cutsAt (fun n => (stringslite_CutPrefix.cuts w0 k n).isSome) stringslite_CutPrefix.body = [] := by kernel_rfl
theorem stringslite_CutPrefix.sim (w0 : World) (hw : Wd w0) (k : Nat) : ∀ v x, (fun v => stringslite_CutPrefix k v.1 v.2) v = some x → Sim (cfg w0 (tab2 k)) 54 (io0.enc v).1 (io0.enc v).2 (io3.enc x).1 (io3.enc x).2 :=
  sim_of (c := (cfg w0 (tab2 k))) (fine w0 hw _ (ok2 w0 hw k)) (dr w0 hw _ (ok2 w0 hw k)) (i := io0) (o := io3) (ps := []) (cuts := fun _ => stringslite_CutPrefix.cuts w0 k) (m := 0) (g := fun v => stringslite_CutPrefix k v.1 v.2) Tryz.func54 (by kernel_rfl) stringslite_CutPrefix.hb (fun _ => rfl) (fun _ => Nat.le_of_ble_eq_true rfl) (good_cuts (stringslite_CutPrefix.a w0 k) trivial) (stringslite_CutPrefix.e w0 k)
theorem ok3 (w0 : World) (hw : Wd w0) (k : Nat) : CfOk (cfg w0 (tab3 k)) := addTab_ok (ok2 w0 hw k) (stringslite_CutPrefix.sim w0 hw k)
theorem strings_CutPrefix.a (w0 : World) (k : Nat) : cutsAt (fun n => (strings_CutPrefix.cuts w0 k n).isSome) strings_CutPrefix.body = [] := by kernel_rfl
theorem strings_CutPrefix.sim (w0 : World) (hw : Wd w0) (k : Nat) : ∀ v x, (fun v => strings_CutPrefix k v.1 v.2) v = some x → Sim (cfg w0 (tab3 k)) 32 (io0.enc v).1 (io0.enc v).2 (io3.enc x).1 (io3.enc x).2 :=
  sim_of (c := (cfg w0 (tab3 k))) (fine w0 hw _ (ok3 w0 hw k)) (dr w0 hw _ (ok3 w0 hw k)) (i := io0) (o := io3) (ps := []) (cuts := fun _ => strings_CutPrefix.cuts w0 k) (m := 0) (g := fun v => strings_CutPrefix k v.1 v.2) Tryz.func32 (by kernel_rfl) strings_CutPrefix.hb (fun _ => rfl) (fun _ => Nat.le_of_ble_eq_true rfl) (good_cuts (strings_CutPrefix.a w0 k) trivial) (strings_CutPrefix.e w0 k)
theorem ok4 (w0 : World) (hw : Wd w0) (k : Nat) : CfOk (cfg w0 (tab4 k)) := addTab_ok (ok3 w0 hw k) (strings_CutPrefix.sim w0 hw k)
theorem strings_Index.sim (w0 : World) (hw : Wd w0) (k : Nat) : ∀ v x, (fun v => strings_Index k v.1 v.2) v = some x → Sim (cfg w0 (tab4 k)) 33 (io0.enc v).1 (io0.enc v).2 (io4.enc x).1 (io4.enc x).2 := by
  intro v x h; exact sim_findS (c := cfg w0 (tab4 k)) (ρ := Sh.ren143) Sh.l143 hw.mx h
theorem ok5 (w0 : World) (hw : Wd w0) (k : Nat) : CfOk (cfg w0 (tab5 k)) := addTab_ok (ok4 w0 hw k) (strings_Index.sim w0 hw k)
theorem f__strings_Builder__String.sim (w0 : World) (hw : Wd w0) (k : Nat) : ∀ v x, (fun v => f__strings_Builder__String k v) v = some x → Sim (cfg w0 (tab5 k)) 28 (io5.enc v).1 (io5.enc v).2 (io6.enc x).1 (io6.enc x).2 := by
  intro v x h; cases h; exact sim_str (c := cfg w0 (tab5 k)) (ρ := Sh.blr) Sh.bl Sh.bl.f169 Sh.ext rfl rfl _
theorem ok6 (w0 : World) (hw : Wd w0) (k : Nat) : CfOk (cfg w0 (tab6 k)) := addTab_ok (ok5 w0 hw k) (f__strings_Builder__String.sim w0 hw k)
theorem f__strings_Builder__WriteByte.sim (w0 : World) (hw : Wd w0) (k : Nat) : ∀ v x, (fun v => f__strings_Builder__WriteByte k v.1 v.2) v = some x → Sim (cfg w0 (tab6 k)) 56 (io7.enc v).1 (io7.enc v).2 (io8.enc x).1 (io8.enc x).2 := by
  intro v x h; exact sim_wByte (c := cfg w0 (tab6 k)) (ρ := Sh.blr) Sh.bl Sh.fWriteByte Sh.ext rfl rfl h
theorem ok7 (w0 : World) (hw : Wd w0) (k : Nat) : CfOk (cfg w0 (tab7 k)) := addTab_ok (ok6 w0 hw k) (f__strings_Builder__WriteByte.sim w0 hw k)
theorem csstok_text.a7 (w0 : World) (k : Nat) : cutsAt (fun n => (csstok_text.cuts w0 k n).isSome) csstok_text.b7 = [] := by kernel_rfl
theorem csstok_text.a (w0 : World) (k : Nat) : cutsAt (fun n => (csstok_text.cuts w0 k n).isSome) csstok_text.body = [(7, Code.loop csstok_text.b7)] := by kernel_rfl
theorem csstok_text.so7 (w0 : World) (hw : Wd w0) (k : Nat) : Sound (cfg w0 (tab7 k)) Tryz.f34.ntmps 0 (csstok_text.kr w0 k) (.loop csstok_text.b7) (entK (cfg w0 (tab7 k)) 0 [0, 2, 3, 4] [] io10.pat (csstok_text.L7 k k)) :=
  loop_ok (fine w0 hw _ (ok7 w0 hw k)) (dr w0 hw _ (ok7 w0 hw k)) (good_cuts (csstok_text.a7 w0 k) trivial) io10.ok (xn := csstok_text.x7) (L := csstok_text.L7 k) (fun v K => rfl) (csstok_text.s7 w0 k) k
theorem csstok_text.sim (w0 : World) (hw : Wd w0) (k : Nat) : ∀ v x, (fun v => csstok_text k v) v = some x → Sim (cfg w0 (tab7 k)) 34 (io1.enc v).1 (io1.enc v).2 (io9.enc x).1 (io9.enc x).2 :=
  sim_of (c := (cfg w0 (tab7 k))) (fine w0 hw _ (ok7 w0 hw k)) (dr w0 hw _ (ok7 w0 hw k)) (i := io1) (o := io9) (ps := []) (cuts := fun _ => csstok_text.cuts w0 k) (m := 0) (g := fun v => csstok_text k v) Tryz.func34 (by kernel_rfl) csstok_text.hb (fun _ => rfl) (fun _ => Nat.le_of_ble_eq_true rfl) (good_cuts (csstok_text.a w0 k) ⟨fun f hf => by cases hf; exact csstok_text.so7 w0 hw k, trivial⟩) (csstok_text.e w0 k)
theorem ok8 (w0 : World) (hw : Wd w0) (k : Nat) : CfOk (cfg w0 (tab8 k)) := addTab_ok (ok7 w0 hw k) (csstok_text.sim w0 hw k)
theorem csstok_starts.a (w0 : World) (k : Nat) : cutsAt (fun n => (csstok_starts.cuts w0 k n).isSome) csstok_starts.body = [] := by kernel_rfl
theorem csstok_starts.sim (w0 : World) (hw : Wd w0) (k : Nat) : ∀ v x, (fun v => csstok_starts k v) v = some x → Sim (cfg w0 (tab8 k)) 57 (io12.enc v).1 (io12.enc v).2 (io2.enc x).1 (io2.enc x).2 :=
  sim_of (c := (cfg w0 (tab8 k))) (fine w0 hw _ (ok8 w0 hw k)) (dr w0 hw _ (ok8 w0 hw k)) (i := io12) (o := io2) (ps := []) (cuts := fun _ => csstok_starts.cuts w0 k) (m := 0) (g := fun v => csstok_starts k v) Tryz.func57 (by kernel_rfl) csstok_starts.hb (fun _ => rfl) (fun _ => Nat.le_of_ble_eq_true rfl) (good_cuts (csstok_starts.a w0 k) trivial) (csstok_starts.e w0 k)
theorem ok9 (w0 : World) (hw : Wd w0) (k : Nat) : CfOk (cfg w0 (tab9 k)) := addTab_ok (ok8 w0 hw k) (csstok_starts.sim w0 hw k)
theorem csstok_digit.a (w0 : World) (k : Nat) : cutsAt (fun n => (csstok_digit.cuts w0 k n).isSome) csstok_digit.body = [] := by kernel_rfl
theorem csstok_digit.sim (w0 : World) (hw : Wd w0) (k : Nat) : ∀ v x, (fun v => csstok_digit k v) v = some x → Sim (cfg w0 (tab9 k)) 58 (io12.enc v).1 (io12.enc v).2 (io2.enc x).1 (io2.enc x).2 :=
  sim_of (c := (cfg w0 (tab9 k))) (fine w0 hw _ (ok9 w0 hw k)) (dr w0 hw _ (ok9 w0 hw k)) (i := io12) (o := io2) (ps := []) (cuts := fun _ => csstok_digit.cuts w0 k) (m := 0) (g := fun v => csstok_digit k v) Tryz.func58 (by kernel_rfl) csstok_digit.hb (fun _ => rfl) (fun _ => Nat.le_of_ble_eq_true rfl) (good_cuts (csstok_digit.a w0 k) trivial) (csstok_digit.e w0 k)
theorem ok10 (w0 : World) (hw : Wd w0) (k : Nat) : CfOk (cfg w0 (tab10 k)) := addTab_ok (ok9 w0 hw k) (csstok_digit.sim w0 hw k)
theorem csstok_sign.a (w0 : World) (k : Nat) : cutsAt (fun n => (csstok_sign.cuts w0 k n).isSome) csstok_sign.body = [] := by kernel_rfl
theorem csstok_sign.sim (w0 : World) (hw : Wd w0) (k : Nat) : ∀ v x, (fun v => csstok_sign k v) v = some x → Sim (cfg w0 (tab10 k)) 35 (io12.enc v).1 (io12.enc v).2 (io2.enc x).1 (io2.enc x).2 :=
  sim_of (c := (cfg w0 (tab10 k))) (fine w0 hw _ (ok10 w0 hw k)) (dr w0 hw _ (ok10 w0 hw k)) (i := io12) (o := io2) (ps := []) (cuts := fun _ => csstok_sign.cuts w0 k) (m := 0) (g := fun v => csstok_sign k v) Tryz.func35 (by kernel_rfl) csstok_sign.hb (fun _ => rfl) (fun _ => Nat.le_of_ble_eq_true rfl) (good_cuts (csstok_sign.a w0 k) trivial) (csstok_sign.e w0 k)
theorem ok11 (w0 : World) (hw : Wd w0) (k : Nat) : CfOk (cfg w0 (tab11 k)) := addTab_ok (ok10 w0 hw k) (csstok_sign.sim w0 hw k)
theorem csstok_escape.a (w0 : World) (k : Nat) : cutsAt (fun n => (csstok_escape.cuts w0 k n).isSome) csstok_escape.body = [] := by kernel_rfl
theorem csstok_escape.sim (w0 : World) (hw : Wd w0) (k : Nat) : ∀ v x, (fun v => csstok_escape k v) v = some x → Sim (cfg w0 (tab11 k)) 36 (io1.enc v).1 (io1.enc v).2 (io2.enc x).1 (io2.enc x).2 :=
  sim_of (c := (cfg w0 (tab11 k))) (fine w0 hw _ (ok11 w0 hw k)) (dr w0 hw _ (ok11 w0 hw k)) (i := io1) (o := io2) (ps := []) (cuts := fun _ => csstok_escape.cuts w0 k) (m := 0) (g := fun v => csstok_escape k v) Tryz.func36 (by kernel_rfl) csstok_escape.hb (fun _ => rfl) (fun _ => Nat.le_of_ble_eq_true rfl) (good_cuts (csstok_escape.a w0 k) trivial) (csstok_escape.e w0 k)
theorem ok12 (w0 : World) (hw : Wd w0) (k : Nat) : CfOk (cfg w0 (tab12 k)) := addTab_ok (ok11 w0 hw k) (csstok_escape.sim w0 hw k)
theorem csstok_name.a7 (w0 : World) (k : Nat) : cutsAt (fun n => (csstok_name.cuts w0 k n).isSome) csstok_name.b7 = [] := by kernel_rfl
theorem csstok_name.a (w0 : World) (k : Nat) : cutsAt (fun n => (csstok_name.cuts w0 k n).isSome) csstok_name.body = [(7, Code.loop csstok_name.b7)] := by kernel_rfl
theorem csstok_name.so7 (w0 : World) (hw : Wd w0) (k : Nat) : Sound (cfg w0 (tab12 k)) Tryz.f59.ntmps 0 (csstok_name.kr w0 k) (.loop csstok_name.b7) (entK (cfg w0 (tab12 k)) 0 [0, 4, 5] [] io14.pat (csstok_name.L7 k k)) :=
  loop_ok (fine w0 hw _ (ok12 w0 hw k)) (dr w0 hw _ (ok12 w0 hw k)) (good_cuts (csstok_name.a7 w0 k) trivial) io14.ok (xn := csstok_name.x7) (L := csstok_name.L7 k) (fun v K => rfl) (csstok_name.s7 w0 k) k
theorem csstok_name.sim (w0 : World) (hw : Wd w0) (k : Nat) : ∀ v x, (fun v => csstok_name k v) v = some x → Sim (cfg w0 (tab12 k)) 59 (io1.enc v).1 (io1.enc v).2 (io13.enc x).1 (io13.enc x).2 :=
  sim_of (c := (cfg w0 (tab12 k))) (fine w0 hw _ (ok12 w0 hw k)) (dr w0 hw _ (ok12 w0 hw k)) (i := io1) (o := io13) (ps := []) (cuts := fun _ => csstok_name.cuts w0 k) (m := 0) (g := fun v => csstok_name k v) Tryz.func59 (by kernel_rfl) csstok_name.hb (fun _ => rfl) (fun _ => Nat.le_of_ble_eq_true rfl) (good_cuts (csstok_name.a w0 k) ⟨fun f hf => by cases hf; exact csstok_name.so7 w0 hw k, trivial⟩) (csstok_name.e w0 k)
theorem ok13 (w0 : World) (hw : Wd w0) (k : Nat) : CfOk (cfg w0 (tab13 k)) := addTab_ok (ok12 w0 hw k) (csstok_name.sim w0 hw k)
theorem csstok_named.a (w0 : World) (k : Nat) : cutsAt (fun n => (csstok_named.cuts w0 k n).isSome) csstok_named.body = [] := by kernel_rfl
theorem csstok_named.sim (w0 : World) (hw : Wd w0) (k : Nat) : ∀ v x, (fun v => csstok_named k v.1 v.2.1 v.2.2) v = some x → Sim (cfg w0 (tab13 k)) 37 (io16.enc v).1 (io16.enc v).2 (io9.enc x).1 (io9.enc x).2 :=
  sim_of (c := (cfg w0 (tab13 k))) (fine w0 hw _ (ok13 w0 hw k)) (dr w0 hw _ (ok13 w0 hw k)) (i := io16) (o := io9) (ps := []) (cuts := fun _ => csstok_named.cuts w0 k) (m := 0) (g := fun v => csstok_named k v.1 v.2.1 v.2.2) Tryz.func37 (by kernel_rfl) csstok_named.hb (fun _ => rfl) (fun _ => Nat.le_of_ble_eq_true rfl) (good_cuts (csstok_named.a w0 k) trivial) (csstok_named.e w0 k)
theorem ok14 (w0 : World) (hw : Wd w0) (k : Nat) : CfOk (cfg w0 (tab14 k)) := addTab_ok (ok13 w0 hw k) (csstok_named.sim w0 hw k)
theorem csstok_begins.a (w0 : World) (k : Nat) : cutsAt (fun n => (csstok_begins.cuts w0 k n).isSome) csstok_begins.body = [] := by kernel_rfl
theorem csstok_begins.sim (w0 : World) (hw : Wd w0) (k : Nat) : ∀ v x, (fun v => csstok_begins k v) v = some x → Sim (cfg w0 (tab14 k)) 38 (io1.enc v).1 (io1.enc v).2 (io2.enc x).1 (io2.enc x).2 :=
  sim_of (c := (cfg w0 (tab14 k))) (fine w0 hw _ (ok14 w0 hw k)) (dr w0 hw _ (ok14 w0 hw k)) (i := io1) (o := io2) (ps := []) (cuts := fun _ => csstok_begins.cuts w0 k) (m := 0) (g := fun v => csstok_begins k v) Tryz.func38 (by kernel_rfl) csstok_begins.hb (fun _ => rfl) (fun _ => Nat.le_of_ble_eq_true rfl) (good_cuts (csstok_begins.a w0 k) trivial) (csstok_begins.e w0 k)
theorem ok15 (w0 : World) (hw : Wd w0) (k : Nat) : CfOk (cfg w0 (tab15 k)) := addTab_ok (ok14 w0 hw k) (csstok_begins.sim w0 hw k)
theorem csstok_digits.a (w0 : World) (k : Nat) : cutsAt (fun n => (csstok_digits.cuts w0 k n).isSome) csstok_digits.body = [] := by kernel_rfl
theorem csstok_digits.sim (w0 : World) (hw : Wd w0) (k : Nat) : ∀ v x, (fun v => csstok_digits k v) v = some x → Sim (cfg w0 (tab15 k)) 60 (io1.enc v).1 (io1.enc v).2 (io4.enc x).1 (io4.enc x).2 :=
  sim_of (c := (cfg w0 (tab15 k))) (fine w0 hw _ (ok15 w0 hw k)) (dr w0 hw _ (ok15 w0 hw k)) (i := io1) (o := io4) (ps := []) (cuts := fun _ => csstok_digits.cuts w0 k) (m := 0) (g := fun v => csstok_digits k v) Tryz.func60 (by kernel_rfl) csstok_digits.hb (fun _ => rfl) (fun _ => Nat.le_of_ble_eq_true rfl) (good_cuts (csstok_digits.a w0 k) trivial) (csstok_digits.e w0 k)
theorem ok16 (w0 : World) (hw : Wd w0) (k : Nat) : CfOk (cfg w0 (tab16 k)) := addTab_ok (ok15 w0 hw k) (csstok_digits.sim w0 hw k)
theorem strings_HasPrefix.a (w0 : World) (k : Nat) : cutsAt (fun n => (strings_HasPrefix.cuts w0 k n).isSome) strings_HasPrefix.body = [] := by kernel_rfl
theorem strings_HasPrefix.sim (w0 : World) (hw : Wd w0) (k : Nat) : ∀ v x, (fun v => strings_HasPrefix k v.1 v.2) v = some x → Sim (cfg w0 (tab16 k)) 41 (io0.enc v).1 (io0.enc v).2 (io2.enc x).1 (io2.enc x).2 :=
  sim_of (c := (cfg w0 (tab16 k))) (fine w0 hw _ (ok16 w0 hw k)) (dr w0 hw _ (ok16 w0 hw k)) (i := io0) (o := io2) (ps := []) (cuts := fun _ => strings_HasPrefix.cuts w0 k) (m := 0) (g := fun v => strings_HasPrefix k v.1 v.2) Tryz.func41 (by kernel_rfl) strings_HasPrefix.hb (fun _ => rfl) (fun _ => Nat.le_of_ble_eq_true rfl) (good_cuts (strings_HasPrefix.a w0 k) trivial) (strings_HasPrefix.e w0 k)
theorem ok17 (w0 : World) (hw : Wd w0) (k : Nat) : CfOk (cfg w0 (tab17 k)) := addTab_ok (ok16 w0 hw k) (strings_HasPrefix.sim w0 hw k)
theorem csstok_Number_1.a (w0 : World) (k : Nat) : cutsAt (fun n => (csstok_Number_1.cuts w0 k n).isSome) csstok_Number_1.body = [] := by kernel_rfl
theorem csstok_Number_1.sim (w0 : World) (hw : Wd w0) (k : Nat) : ∀ v x, (fun v => csstok_Number_1 k v.1 v.2) v = some x → Sim (cfg w0 (tab17 k)) 61 (io17.enc v).1 (io17.enc v).2 (io18.enc x).1 (io18.enc x).2 :=
  sim_of (c := (cfg w0 (tab17 k))) (fine w0 hw _ (ok17 w0 hw k)) (dr w0 hw _ (ok17 w0 hw k)) (i := io17) (o := io18) (ps := []) (cuts := fun _ => csstok_Number_1.cuts w0 k) (m := 1) (g := fun v => csstok_Number_1 k v.1 v.2) Tryz.func61 (by kernel_rfl) csstok_Number_1.hb (fun _ => rfl) (fun _ => Nat.le_of_ble_eq_true rfl) (good_cuts (csstok_Number_1.a w0 k) trivial) (csstok_Number_1.e w0 k)
theorem ok18 (w0 : World) (hw : Wd w0) (k : Nat) : CfOk (cfg w0 (tab18 k)) := addTab_ok (ok17 w0 hw k) (csstok_Number_1.sim w0 hw k)
theorem csstok_Number.a29 (w0 : World) (k : Nat) : cutsAt (fun n => (csstok_Number.cuts w0 k n).isSome) csstok_Number.b29 = [] := by kernel_rfl
theorem csstok_Number.a49 (w0 : World) (k : Nat) : cutsAt (fun n => (csstok_Number.cuts w0 k n).isSome) csstok_Number.b49 = [] := by kernel_rfl
theorem csstok_Number.a64 (w0 : World) (k : Nat) : cutsAt (fun n => (csstok_Number.cuts w0 k n).isSome) csstok_Number.b64 = [] := by kernel_rfl
theorem csstok_Number.a46 (w0 : World) (k : Nat) : cutsAt (fun n => (csstok_Number.cuts w0 k n).isSome) csstok_Number.b46 = [(49, Code.loop csstok_Number.b49), (64, csstok_Number.b64)] := by kernel_rfl
theorem csstok_Number.a18 (w0 : World) (k : Nat) : cutsAt (fun n => (csstok_Number.cuts w0 k n).isSome) csstok_Number.b18 = [(29, Code.loop csstok_Number.b29), (46, csstok_Number.b46)] := by kernel_rfl
theorem csstok_Number.a8 (w0 : World) (k : Nat) : cutsAt (fun n => (csstok_Number.cuts w0 k n).isSome) csstok_Number.b8 = [(18, csstok_Number.b18)] := by kernel_rfl
theorem csstok_Number.a (w0 : World) (k : Nat) : cutsAt (fun n => (csstok_Number.cuts w0 k n).isSome) csstok_Number.body = [(8, csstok_Number.b8)] := by kernel_rfl
theorem csstok_Number.so29 (w0 : World) (hw : Wd w0) (k : Nat) : Sound (cfg w0 (tab18 k)) Tryz.f39.ntmps 0 (csstok_Number.kr w0 k) (.loop csstok_Number.b29) (entK (cfg w0 (tab18 k)) 0 [0, 4, 5, 6, 8, 9, 52, 53, 54] [] io20.pat (csstok_Number.L29 k k)) :=
  loop_ok (fine w0 hw _ (ok18 w0 hw k)) (dr w0 hw _ (ok18 w0 hw k)) (good_cuts (csstok_Number.a29 w0 k) trivial) io20.ok (xn := csstok_Number.x29) (L := csstok_Number.L29 k) (fun v K => rfl) (csstok_Number.s29 w0 k) k
theorem csstok_Number.so49 (w0 : World) (hw : Wd w0) (k : Nat) : Sound (cfg w0 (tab18 k)) Tryz.f39.ntmps 0 (csstok_Number.kr w0 k) (.loop csstok_Number.b49) (entK (cfg w0 (tab18 k)) 0 [0, 8, 9, 12, 13, 79] [] io22.pat (csstok_Number.L49 k k)) :=
  loop_ok (fine w0 hw _ (ok18 w0 hw k)) (dr w0 hw _ (ok18 w0 hw k)) (good_cuts (csstok_Number.a49 w0 k) trivial) io22.ok (xn := csstok_Number.x49) (L := csstok_Number.L49 k) (fun v K => rfl) (csstok_Number.s49 w0 k) k
theorem csstok_Number.so64 (w0 : World) (hw : Wd w0) (k : Nat) : Sound (cfg w0 (tab18 k)) Tryz.f39.ntmps 0 (csstok_Number.kr w0 k) csstok_Number.b64 (entK (cfg w0 (tab18 k)) 0 [8, 12] [] io24.pat (csstok_Number.L64 k)) :=
  join_ok (fine w0 hw _ (ok18 w0 hw k)) (dr w0 hw _ (ok18 w0 hw k)) (good_cuts (csstok_Number.a64 w0 k) trivial) io24.ok (xn := csstok_Number.x64) (L := csstok_Number.L64 k) (csstok_Number.s64 w0 k)
theorem csstok_Number.so46 (w0 : World) (hw : Wd w0) (k : Nat) : Sound (cfg w0 (tab18 k)) Tryz.f39.ntmps 0 (csstok_Number.kr w0 k) csstok_Number.b46 (entK (cfg w0 (tab18 k)) 0 [0, 8, 9, 12, 13] [] io25.pat (csstok_Number.L46 k)) :=
  join_ok (fine w0 hw _ (ok18 w0 hw k)) (dr w0 hw _ (ok18 w0 hw k)) (good_cuts (csstok_Number.a46 w0 k) ⟨fun f hf => by cases hf; exact csstok_Number.so49 w0 hw k, fun f hf => by cases hf; exact csstok_Number.so64 w0 hw k, trivial⟩) io25.ok (xn := csstok_Number.x46) (L := csstok_Number.L46 k) (csstok_Number.s46 w0 k)
theorem csstok_Number.so18 (w0 : World) (hw : Wd w0) (k : Nat) : Sound (cfg w0 (tab18 k)) Tryz.f39.ntmps 0 (csstok_Number.kr w0 k) csstok_Number.b18 (entK (cfg w0 (tab18 k)) 0 [0, 4, 5, 6] [] io26.pat (csstok_Number.L18 k)) :=
  join_ok (fine w0 hw _ (ok18 w0 hw k)) (dr w0 hw _ (ok18 w0 hw k)) (good_cuts (csstok_Number.a18 w0 k) ⟨fun f hf => by cases hf; exact csstok_Number.so29 w0 hw k, fun f hf => by cases hf; exact csstok_Number.so46 w0 hw k, trivial⟩) io26.ok (xn := csstok_Number.x18) (L := csstok_Number.L18 k) (csstok_Number.s18 w0 k)
theorem csstok_Number.so8 (w0 : World) (hw : Wd w0) (k : Nat) : Sound (cfg w0 (tab18 k)) Tryz.f39.ntmps 0 (csstok_Number.kr w0 k) csstok_Number.b8 (entK (cfg w0 (tab18 k)) 0 [0, 4] [] io13.pat (csstok_Number.L8 k)) :=
  join_ok (fine w0 hw _ (ok18 w0 hw k)) (dr w0 hw _ (ok18 w0 hw k)) (good_cuts (csstok_Number.a8 w0 k) ⟨fun f hf => by cases hf; exact csstok_Number.so18 w0 hw k, trivial⟩) io13.ok (xn := csstok_Number.x8) (L := csstok_Number.L8 k) (csstok_Number.s8 w0 k)
theorem csstok_Number.sim (w0 : World) (hw : Wd w0) (k : Nat) : ∀ v x, (fun v => csstok_Number k v) v = some x → Sim (cfg w0 (tab18 k)) 39 (io1.enc v).1 (io1.enc v).2 (io19.enc x).1 (io19.enc x).2 :=
  sim_of (c := (cfg w0 (tab18 k))) (fine w0 hw _ (ok18 w0 hw k)) (dr w0 hw _ (ok18 w0 hw k)) (i := io1) (o := io19) (ps := []) (cuts := fun _ => csstok_Number.cuts w0 k) (m := 0) (g := fun v => csstok_Number k v) Tryz.func39 (by kernel_rfl) csstok_Number.hb (fun _ => rfl) (fun _ => Nat.le_of_ble_eq_true rfl) (good_cuts (csstok_Number.a w0 k) ⟨fun f hf => by cases hf; exact csstok_Number.so8 w0 hw k, trivial⟩) (csstok_Number.e w0 k)
theorem ok19 (w0 : World) (hw : Wd w0) (k : Nat) : CfOk (cfg w0 (tab19 k)) := addTab_ok (ok18 w0 hw k) (csstok_Number.sim w0 hw k)
theorem csstok_lower.a7 (w0 : World) (k : Nat) : cutsAt (fun n => (csstok_lower.cuts w0 k n).isSome) csstok_lower.b7 = [] := by kernel_rfl
theorem csstok_lower.a (w0 : World) (k : Nat) : cutsAt (fun n => (csstok_lower.cuts w0 k n).isSome) csstok_lower.body = [(7, Code.loop csstok_lower.b7)] := by kernel_rfl
theorem csstok_lower.so7 (w0 : World) (hw : Wd w0) (k : Nat) : Sound (cfg w0 (tab19 k)) Tryz.f62.ntmps 0 (csstok_lower.kr w0 k) (.loop csstok_lower.b7) (entK (cfg w0 (tab19 k)) 0 [3, 8, 9, 10] [] io27.pat (csstok_lower.L7 k k)) :=
  loop_ok (fine w0 hw _ (ok19 w0 hw k)) (dr w0 hw _ (ok19 w0 hw k)) (good_cuts (csstok_lower.a7 w0 k) trivial) io27.ok (xn := csstok_lower.x7) (L := csstok_lower.L7 k) (fun v K => rfl) (csstok_lower.s7 w0 k) k
theorem csstok_lower.sim (w0 : World) (hw : Wd w0) (k : Nat) : ∀ v x, (fun v => csstok_lower k v) v = some x → Sim (cfg w0 (tab19 k)) 62 (io1.enc v).1 (io1.enc v).2 (io1.enc x).1 (io1.enc x).2 :=
  sim_of (c := (cfg w0 (tab19 k))) (fine w0 hw _ (ok19 w0 hw k)) (dr w0 hw _ (ok19 w0 hw k)) (i := io1) (o := io1) (ps := []) (cuts := fun _ => csstok_lower.cuts w0 k) (m := 0) (g := fun v => csstok_lower k v) Tryz.func62 (by kernel_rfl) csstok_lower.hb (fun _ => rfl) (fun _ => Nat.le_of_ble_eq_true rfl) (good_cuts (csstok_lower.a w0 k) ⟨fun f hf => by cases hf; exact csstok_lower.so7 w0 hw k, trivial⟩) (csstok_lower.e w0 k)
theorem ok20 (w0 : World) (hw : Wd w0) (k : Nat) : CfOk (cfg w0 (tab20 k)) := addTab_ok (ok19 w0 hw k) (csstok_lower.sim w0 hw k)
theorem csstok_number.a16 (w0 : World) (k : Nat) : cutsAt (fun n => (csstok_number.cuts w0 k n).isSome) csstok_number.b16 = [] := by kernel_rfl
theorem csstok_number.a (w0 : World) (k : Nat) : cutsAt (fun n => (csstok_number.cuts w0 k n).isSome) csstok_number.body = [(16, csstok_number.b16)] := by kernel_rfl
theorem csstok_number.so16 (w0 : World) (hw : Wd w0) (k : Nat) : Sound (cfg w0 (tab20 k)) Tryz.f40.ntmps 0 (csstok_number.kr w0 k) csstok_number.b16 (entK (cfg w0 (tab20 k)) 0 [6, 7] [] io30.pat (csstok_number.L16 k)) :=
  join_ok (fine w0 hw _ (ok20 w0 hw k)) (dr w0 hw _ (ok20 w0 hw k)) (good_cuts (csstok_number.a16 w0 k) trivial) io30.ok (xn := csstok_number.x16) (L := csstok_number.L16 k) (csstok_number.s16 w0 k)
theorem csstok_number.sim (w0 : World) (hw : Wd w0) (k : Nat) : ∀ v x, (fun v => csstok_number k v.1 v.2.1 v.2.2) v = some x → Sim (cfg w0 (tab20 k)) 40 (io29.enc v).1 (io29.enc v).2 (io9.enc x).1 (io9.enc x).2 :=
  sim_of (c := (cfg w0 (tab20 k))) (fine w0 hw _ (ok20 w0 hw k)) (dr w0 hw _ (ok20 w0 hw k)) (i := io29) (o := io9) (ps := []) (cuts := fun _ => csstok_number.cuts w0 k) (m := 0) (g := fun v => csstok_number k v.1 v.2.1 v.2.2) Tryz.func40 (by kernel_rfl) csstok_number.hb (fun _ => rfl) (fun _ => Nat.le_of_ble_eq_true rfl) (good_cuts (csstok_number.a w0 k) ⟨fun f hf => by cases hf; exact csstok_number.so16 w0 hw k, trivial⟩) (csstok_number.e w0 k)
theorem ok21 (w0 : World) (hw : Wd w0) (k : Nat) : CfOk (cfg w0 (tab21 k)) := addTab_ok (ok20 w0 hw k) (csstok_number.sim w0 hw k)
theorem csstok_first_1.a (w0 : World) (k : Nat) : cutsAt (fun n => (csstok_first_1.cuts w0 k n).isSome) csstok_first_1.body = [] := by kernel_rfl
theorem csstok_first_1.sim (w0 : World) (hw : Wd w0) (k : Nat) : ∀ v x, (fun v => csstok_first_1 k v.1 v.2) v = some x → Sim (cfg w0 (tab21 k)) 30 (io31.enc v).1 (io31.enc v).2 (io32.enc x).1 (io32.enc x).2 :=
  sim_of (c := (cfg w0 (tab21 k))) (fine w0 hw _ (ok21 w0 hw k)) (dr w0 hw _ (ok21 w0 hw k)) (i := io31) (o := io32) (ps := []) (cuts := fun _ => csstok_first_1.cuts w0 k) (m := 1) (g := fun v => csstok_first_1 k v.1 v.2) Tryz.func30 (by kernel_rfl) csstok_first_1.hb (fun _ => rfl) (fun _ => Nat.le_of_ble_eq_true rfl) (good_cuts (csstok_first_1.a w0 k) trivial) (csstok_first_1.e w0 k)
theorem ok22 (w0 : World) (hw : Wd w0) (k : Nat) : CfOk (cfg w0 (tab22 k)) := addTab_ok (ok21 w0 hw k) (csstok_first_1.sim w0 hw k)
theorem csstok_first.a20 (w0 : World) (k : Nat) : cutsAt (fun n => (csstok_first.cuts w0 k n).isSome) csstok_first.b20 = [] := by kernel_rfl
theorem csstok_first.a52 (w0 : World) (k : Nat) : cutsAt (fun n => (csstok_first.cuts w0 k n).isSome) csstok_first.b52 = [] := by kernel_rfl
theorem csstok_first.a76 (w0 : World) (k : Nat) : cutsAt (fun n => (csstok_first.cuts w0 k n).isSome) csstok_first.b76 = [] := by kernel_rfl
theorem csstok_first.a (w0 : World) (k : Nat) : cutsAt (fun n => (csstok_first.cuts w0 k n).isSome) csstok_first.body = [(20, csstok_first.b20), (52, csstok_first.b52), (76, csstok_first.b76)] := by kernel_rfl
theorem csstok_first.so20 (w0 : World) (hw : Wd w0) (k : Nat) : Sound (cfg w0 (tab22 k)) Tryz.f19.ntmps 0 (csstok_first.kr w0 k) csstok_first.b20 (entK (cfg w0 (tab22 k)) 0 [1, 2] [] io33.pat (csstok_first.L20 k)) :=
  join_ok (fine w0 hw _ (ok22 w0 hw k)) (dr w0 hw _ (ok22 w0 hw k)) (good_cuts (csstok_first.a20 w0 k) trivial) io33.ok (xn := csstok_first.x20) (L := csstok_first.L20 k) (csstok_first.s20 w0 k)
theorem csstok_first.so52 (w0 : World) (hw : Wd w0) (k : Nat) : Sound (cfg w0 (tab22 k)) Tryz.f19.ntmps 0 (csstok_first.kr w0 k) csstok_first.b52 (entK (cfg w0 (tab22 k)) 0 [2, 11] [] io30.pat (csstok_first.L52 k)) :=
  join_ok (fine w0 hw _ (ok22 w0 hw k)) (dr w0 hw _ (ok22 w0 hw k)) (good_cuts (csstok_first.a52 w0 k) trivial) io30.ok (xn := csstok_first.x52) (L := csstok_first.L52 k) (csstok_first.s52 w0 k)
theorem csstok_first.so76 (w0 : World) (hw : Wd w0) (k : Nat) : Sound (cfg w0 (tab22 k)) Tryz.f19.ntmps 0 (csstok_first.kr w0 k) csstok_first.b76 (entK (cfg w0 (tab22 k)) 0 [2, 3] [] io34.pat (csstok_first.L76 k)) :=
  join_ok (fine w0 hw _ (ok22 w0 hw k)) (dr w0 hw _ (ok22 w0 hw k)) (good_cuts (csstok_first.a76 w0 k) trivial) io34.ok (xn := csstok_first.x76) (L := csstok_first.L76 k) (csstok_first.s76 w0 k)
theorem csstok_first.sim (w0 : World) (hw : Wd w0) (k : Nat) : ∀ v x, (fun v => csstok_first k v) v = some x → Sim (cfg w0 (tab22 k)) 19 (io1.enc v).1 (io1.enc v).2 (io9.enc x).1 (io9.enc x).2 :=
  sim_of (c := (cfg w0 (tab22 k))) (fine w0 hw _ (ok22 w0 hw k)) (dr w0 hw _ (ok22 w0 hw k)) (i := io1) (o := io9) (ps := []) (cuts := fun _ => csstok_first.cuts w0 k) (m := 0) (g := fun v => csstok_first k v) Tryz.func19 (by kernel_rfl) csstok_first.hb (fun _ => rfl) (fun _ => Nat.le_of_ble_eq_true rfl) (good_cuts (csstok_first.a w0 k) ⟨fun f hf => by cases hf; exact csstok_first.so20 w0 hw k, fun f hf => by cases hf; exact csstok_first.so52 w0 hw k, fun f hf => by cases hf; exact csstok_first.so76 w0 hw k, trivial⟩) (csstok_first.e w0 k)
theorem ok23 (w0 : World) (hw : Wd w0) (k : Nat) : CfOk (cfg w0 (tab23 k)) := addTab_ok (ok22 w0 hw k) (csstok_first.sim w0 hw k)
theorem csstok_Cut.a5 (w0 : World) (k : Nat) : cutsAt (fun n => (csstok_Cut.cuts w0 k n).isSome) csstok_Cut.b5 = [] := by kernel_rfl
theorem csstok_Cut.a (w0 : World) (k : Nat) : cutsAt (fun n => (csstok_Cut.cuts w0 k n).isSome) csstok_Cut.body = [(5, Code.loop csstok_Cut.b5)] := by kernel_rfl
theorem csstok_Cut.so5 (w0 : World) (hw : Wd w0) (k : Nat) : Sound (cfg w0 (tab23 k)) Tryz.f13.ntmps 0 (csstok_Cut.kr w0 k) (.loop csstok_Cut.b5) (entK (cfg w0 (tab23 k)) 0 [0, 3] [.own 3 55] io36.pat (csstok_Cut.L5 k k)) :=
  loop_ok (fine w0 hw _ (ok23 w0 hw k)) (dr w0 hw _ (ok23 w0 hw k)) (good_cuts (csstok_Cut.a5 w0 k) trivial) io36.ok (xn := csstok_Cut.x5) (L := csstok_Cut.L5 k) (fun v K => rfl) (csstok_Cut.s5 w0 k) k
theorem csstok_Cut.sim (w0 : World) (hw : Wd w0) (k : Nat) : ∀ v x, (fun v => csstok_Cut k v) v = some x → Sim (cfg w0 (tab23 k)) 13 (io1.enc v).1 (io1.enc v).2 (io35.enc x).1 (io35.enc x).2 :=
  sim_of (c := (cfg w0 (tab23 k))) (fine w0 hw _ (ok23 w0 hw k)) (dr w0 hw _ (ok23 w0 hw k)) (i := io1) (o := io35) (ps := [.own 0 55]) (cuts := fun _ => csstok_Cut.cuts w0 k) (m := 0) (g := fun v => csstok_Cut k v) Tryz.func13 (by kernel_rfl) csstok_Cut.hb (fun _ => rfl) (fun _ => Nat.le_of_ble_eq_true rfl) (good_cuts (csstok_Cut.a w0 k) ⟨fun f hf => by cases hf; exact csstok_Cut.so5 w0 hw k, trivial⟩) (csstok_Cut.e w0 k)
theorem ok24 (w0 : World) (hw : Wd w0) (k : Nat) : CfOk (cfg w0 (tab24 k)) := addTab_ok (ok23 w0 hw k) (csstok_Cut.sim w0 hw k)
theorem media_solid.a7 (w0 : World) (k : Nat) : cutsAt (fun n => (media_solid.cuts w0 k n).isSome) media_solid.b7 = [] := by kernel_rfl
theorem media_solid.a (w0 : World) (k : Nat) : cutsAt (fun n => (media_solid.cuts w0 k n).isSome) media_solid.body = [(7, Code.loop media_solid.b7)] := by kernel_rfl
theorem media_solid.so7 (w0 : World) (hw : Wd w0) (k : Nat) : Sound (cfg w0 (tab24 k)) Tryz.f12.ntmps 0 (media_solid.kr w0 k) (.loop media_solid.b7) (entK (cfg w0 (tab24 k)) 0 [3, 6, 7, 8] [.own 3 55] io38.pat (media_solid.L7 k k)) :=
  loop_ok (fine w0 hw _ (ok24 w0 hw k)) (dr w0 hw _ (ok24 w0 hw k)) (good_cuts (media_solid.a7 w0 k) trivial) io38.ok (xn := media_solid.x7) (L := media_solid.L7 k) (fun v K => rfl) (media_solid.s7 w0 k) k
theorem media_solid.sim (w0 : World) (hw : Wd w0) (k : Nat) : ∀ v x, (fun v => media_solid k v) v = some x → Sim (cfg w0 (tab24 k)) 12 (io37.enc v).1 (io37.enc v).2 (io35.enc x).1 (io35.enc x).2 :=
  sim_of (c := (cfg w0 (tab24 k))) (fine w0 hw _ (ok24 w0 hw k)) (dr w0 hw _ (ok24 w0 hw k)) (i := io37) (o := io35) (ps := [.own 0 55]) (cuts := fun _ => media_solid.cuts w0 k) (m := 0) (g := fun v => media_solid k v) Tryz.func12 (by kernel_rfl) media_solid.hb (fun _ => rfl) (fun _ => Nat.le_of_ble_eq_true rfl) (good_cuts (media_solid.a w0 k) ⟨fun f hf => by cases hf; exact media_solid.so7 w0 hw k, trivial⟩) (media_solid.e w0 k)
theorem ok25 (w0 : World) (hw : Wd w0) (k : Nat) : CfOk (cfg w0 (tab25 k)) := addTab_ok (ok24 w0 hw k) (media_solid.sim w0 hw k)
theorem media_end.a26 (w0 : World) (k : Nat) : cutsAt (fun n => (media_end.cuts w0 k n).isSome) media_end.b26 = [] := by kernel_rfl
theorem media_end.a9 (w0 : World) (k : Nat) : cutsAt (fun n => (media_end.cuts w0 k n).isSome) media_end.b9 = [(26, media_end.b26)] := by kernel_rfl
theorem media_end.a (w0 : World) (k : Nat) : cutsAt (fun n => (media_end.cuts w0 k n).isSome) media_end.body = [(9, Code.loop media_end.b9)] := by kernel_rfl
theorem media_end.so26 (w0 : World) (hw : Wd w0) (k : Nat) : Sound (cfg w0 (tab25 k)) Tryz.f20.ntmps 0 (media_end.kr w0 k) media_end.b26 (entK (cfg w0 (tab25 k)) 0 [3, 4, 5, 9, 10, 11] [.own 4 5] io39.pat (media_end.L26 k)) :=
  join_ok (fine w0 hw _ (ok25 w0 hw k)) (dr w0 hw _ (ok25 w0 hw k)) (good_cuts (media_end.a26 w0 k) trivial) io39.ok (xn := media_end.x26) (L := media_end.L26 k) (media_end.s26 w0 k)
theorem media_end.so9 (w0 : World) (hw : Wd w0) (k : Nat) : Sound (cfg w0 (tab25 k)) Tryz.f20.ntmps 0 (media_end.kr w0 k) (.loop media_end.b9) (entK (cfg w0 (tab25 k)) 0 [3, 4, 9, 10, 11] [.own 4 5] io40.pat (media_end.L9 k k)) :=
  loop_ok (fine w0 hw _ (ok25 w0 hw k)) (dr w0 hw _ (ok25 w0 hw k)) (good_cuts (media_end.a9 w0 k) ⟨fun f hf => by cases hf; exact media_end.so26 w0 hw k, trivial⟩) io40.ok (xn := media_end.x9) (L := media_end.L9 k) (fun v K => rfl) (media_end.s9 w0 k) k
theorem media_end.sim (w0 : World) (hw : Wd w0) (k : Nat) : ∀ v x, (fun v => media_end k v) v = some x → Sim (cfg w0 (tab25 k)) 20 (io37.enc v).1 (io37.enc v).2 (io4.enc x).1 (io4.enc x).2 :=
  sim_of (c := (cfg w0 (tab25 k))) (fine w0 hw _ (ok25 w0 hw k)) (dr w0 hw _ (ok25 w0 hw k)) (i := io37) (o := io4) (ps := []) (cuts := fun _ => media_end.cuts w0 k) (m := 0) (g := fun v => media_end k v) Tryz.func20 (by kernel_rfl) media_end.hb (fun _ => rfl) (fun _ => Nat.le_of_ble_eq_true rfl) (good_cuts (media_end.a w0 k) ⟨fun f hf => by cases hf; exact media_end.so9 w0 hw k, trivial⟩) (media_end.e w0 k)
theorem ok26 (w0 : World) (hw : Wd w0) (k : Nat) : CfOk (cfg w0 (tab26 k)) := addTab_ok (ok25 w0 hw k) (media_end.sim w0 hw k)
theorem media_pieces.a22 (w0 : World) (k : Nat) : cutsAt (fun n => (media_pieces.cuts w0 k n).isSome) media_pieces.b22 = [] := by kernel_rfl
theorem media_pieces.a9 (w0 : World) (k : Nat) : cutsAt (fun n => (media_pieces.cuts w0 k n).isSome) media_pieces.b9 = [(22, media_pieces.b22)] := by kernel_rfl
theorem media_pieces.a (w0 : World) (k : Nat) : cutsAt (fun n => (media_pieces.cuts w0 k n).isSome) media_pieces.body = [(9, Code.loop media_pieces.b9)] := by kernel_rfl
theorem media_pieces.so22 (w0 : World) (hw : Wd w0) (k : Nat) : Sound (cfg w0 (tab26 k)) Tryz.f14.ntmps 0 (media_pieces.kr w0 k) media_pieces.b22 (entK (cfg w0 (tab26 k)) 0 [0, 3, 4, 5, 7] [.own 3 43] io43.pat (media_pieces.L22 k)) :=
  join_ok (fine w0 hw _ (ok26 w0 hw k)) (dr w0 hw _ (ok26 w0 hw k)) (good_cuts (media_pieces.a22 w0 k) trivial) io43.ok (xn := media_pieces.x22) (L := media_pieces.L22 k) (media_pieces.s22 w0 k)
theorem media_pieces.so9 (w0 : World) (hw : Wd w0) (k : Nat) : Sound (cfg w0 (tab26 k)) Tryz.f14.ntmps 0 (media_pieces.kr w0 k) (.loop media_pieces.b9) (entK (cfg w0 (tab26 k)) 0 [0, 3, 4, 5] [.own 3 43] io44.pat (media_pieces.L9 k k)) :=
  loop_ok (fine w0 hw _ (ok26 w0 hw k)) (dr w0 hw _ (ok26 w0 hw k)) (good_cuts (media_pieces.a9 w0 k) ⟨fun f hf => by cases hf; exact media_pieces.so22 w0 hw k, trivial⟩) io44.ok (xn := media_pieces.x9) (L := media_pieces.L9 k) (fun v K => rfl) (media_pieces.s9 w0 k) k
theorem media_pieces.sim (w0 : World) (hw : Wd w0) (k : Nat) : ∀ v x, (fun v => media_pieces k v) v = some x → Sim (cfg w0 (tab26 k)) 14 (io37.enc v).1 (io37.enc v).2 (io42.enc x).1 (io42.enc x).2 :=
  sim_of (c := (cfg w0 (tab26 k))) (fine w0 hw _ (ok26 w0 hw k)) (dr w0 hw _ (ok26 w0 hw k)) (i := io37) (o := io42) (ps := []) (cuts := fun _ => media_pieces.cuts w0 k) (m := 0) (g := fun v => media_pieces k v) Tryz.func14 (by kernel_rfl) media_pieces.hb (fun _ => rfl) (fun _ => Nat.le_of_ble_eq_true rfl) (good_cuts (media_pieces.a w0 k) ⟨fun f hf => by cases hf; exact media_pieces.so9 w0 hw k, trivial⟩) (media_pieces.e w0 k)
theorem ok27 (w0 : World) (hw : Wd w0) (k : Nat) : CfOk (cfg w0 (tab27 k)) := addTab_ok (ok26 w0 hw k) (media_pieces.sim w0 hw k)
theorem media_lower.a7 (w0 : World) (k : Nat) : cutsAt (fun n => (media_lower.cuts w0 k n).isSome) media_lower.b7 = [] := by kernel_rfl
theorem media_lower.a (w0 : World) (k : Nat) : cutsAt (fun n => (media_lower.cuts w0 k n).isSome) media_lower.body = [(7, Code.loop media_lower.b7)] := by kernel_rfl
theorem media_lower.so7 (w0 : World) (hw : Wd w0) (k : Nat) : Sound (cfg w0 (tab27 k)) Tryz.f42.ntmps 0 (media_lower.kr w0 k) (.loop media_lower.b7) (entK (cfg w0 (tab27 k)) 0 [3, 8, 9, 10] [] io27.pat (media_lower.L7 k k)) :=
  loop_ok (fine w0 hw _ (ok27 w0 hw k)) (dr w0 hw _ (ok27 w0 hw k)) (good_cuts (media_lower.a7 w0 k) trivial) io27.ok (xn := media_lower.x7) (L := media_lower.L7 k) (fun v K => rfl) (media_lower.s7 w0 k) k
theorem media_lower.sim (w0 : World) (hw : Wd w0) (k : Nat) : ∀ v x, (fun v => media_lower k v) v = some x → Sim (cfg w0 (tab27 k)) 42 (io1.enc v).1 (io1.enc v).2 (io1.enc x).1 (io1.enc x).2 :=
  sim_of (c := (cfg w0 (tab27 k))) (fine w0 hw _ (ok27 w0 hw k)) (dr w0 hw _ (ok27 w0 hw k)) (i := io1) (o := io1) (ps := []) (cuts := fun _ => media_lower.cuts w0 k) (m := 0) (g := fun v => media_lower k v) Tryz.func42 (by kernel_rfl) media_lower.hb (fun _ => rfl) (fun _ => Nat.le_of_ble_eq_true rfl) (good_cuts (media_lower.a w0 k) ⟨fun f hf => by cases hf; exact media_lower.so7 w0 hw k, trivial⟩) (media_lower.e w0 k)
theorem ok28 (w0 : World) (hw : Wd w0) (k : Nat) : CfOk (cfg w0 (tab28 k)) := addTab_ok (ok27 w0 hw k) (media_lower.sim w0 hw k)
theorem media_word.a (w0 : World) (k : Nat) : cutsAt (fun n => (media_word.cuts w0 k n).isSome) media_word.body = [] := by kernel_rfl
theorem media_word.sim (w0 : World) (hw : Wd w0) (k : Nat) : ∀ v x, (fun v => media_word k v.1 v.2.1 v.2.2.1 v.2.2.2) v = some x → Sim (cfg w0 (tab28 k)) 21 (io9.enc v).1 (io9.enc v).2 (io1.enc x).1 (io1.enc x).2 :=
  sim_of (c := (cfg w0 (tab28 k))) (fine w0 hw _ (ok28 w0 hw k)) (dr w0 hw _ (ok28 w0 hw k)) (i := io9) (o := io1) (ps := []) (cuts := fun _ => media_word.cuts w0 k) (m := 0) (g := fun v => media_word k v.1 v.2.1 v.2.2.1 v.2.2.2) Tryz.func21 (by kernel_rfl) media_word.hb (fun _ => rfl) (fun _ => Nat.le_of_ble_eq_true rfl) (good_cuts (media_word.a w0 k) trivial) (media_word.e w0 k)
theorem ok29 (w0 : World) (hw : Wd w0) (k : Nat) : CfOk (cfg w0 (tab29 k)) := addTab_ok (ok28 w0 hw k) (media_word.sim w0 hw k)
theorem media_kind.a5 (w0 : World) (k : Nat) : cutsAt (fun n => (media_kind.cuts w0 k n).isSome) media_kind.b5 = [] := by kernel_rfl
theorem media_kind.a (w0 : World) (k : Nat) : cutsAt (fun n => (media_kind.cuts w0 k n).isSome) media_kind.body = [(5, Code.loop media_kind.b5)] := by kernel_rfl
theorem media_kind.so5 (w0 : World) (hw : Wd w0) (k : Nat) : Sound (cfg w0 (tab29 k)) Tryz.f22.ntmps 0 (media_kind.kr w0 k) (.loop media_kind.b5) (entK (cfg w0 (tab29 k)) 0 [0, 5, 6] [] io46.pat (media_kind.L5 k k)) :=
  loop_ok (fine w0 hw _ (ok29 w0 hw k)) (dr w0 hw _ (ok29 w0 hw k)) (good_cuts (media_kind.a5 w0 k) trivial) io46.ok (xn := media_kind.x5) (L := media_kind.L5 k) (fun v K => rfl) (media_kind.s5 w0 k) k
theorem media_kind.sim (w0 : World) (hw : Wd w0) (k : Nat) : ∀ v x, (fun v => media_kind k v) v = some x → Sim (cfg w0 (tab29 k)) 22 (io1.enc v).1 (io1.enc v).2 (io4.enc x).1 (io4.enc x).2 :=
  sim_of (c := (cfg w0 (tab29 k))) (fine w0 hw _ (ok29 w0 hw k)) (dr w0 hw _ (ok29 w0 hw k)) (i := io1) (o := io4) (ps := []) (cuts := fun _ => media_kind.cuts w0 k) (m := 0) (g := fun v => media_kind k v) Tryz.func22 (by kernel_rfl) media_kind.hb (fun _ => rfl) (fun _ => Nat.le_of_ble_eq_true rfl) (good_cuts (media_kind.a w0 k) ⟨fun f hf => by cases hf; exact media_kind.so5 w0 hw k, trivial⟩) (media_kind.e w0 k)
theorem ok30 (w0 : World) (hw : Wd w0) (k : Nat) : CfOk (cfg w0 (tab30 k)) := addTab_ok (ok29 w0 hw k) (media_kind.sim w0 hw k)
theorem strings_Trim.sim (w0 : World) (hw : Wd w0) (k : Nat) : ∀ v x, (fun v => strings_Trim k v.1 v.2) v = some x → Sim (cfg w0 (tab30 k)) 43 (io0.enc v).1 (io0.enc v).2 (io1.enc x).1 (io1.enc x).2 := by
  intro v x h; exact sim_trimB (c := cfg w0 (tab30 k)) (ρ := Sh.ren160) Sh.l160 (by kernel_rfl) h
theorem ok31 (w0 : World) (hw : Wd w0) (k : Nat) : CfOk (cfg w0 (tab31 k)) := addTab_ok (ok30 w0 hw k) (strings_Trim.sim w0 hw k)
theorem strconv_Atoi.sim (w0 : World) (hw : Wd w0) (k : Nat) : ∀ v x, (fun v => strconv_Atoi k v) v = some x → Sim (cfg w0 (tab31 k)) 44 (io1.enc v).1 (io1.enc v).2 (io47.enc x).1 (io47.enc x).2 := by
  intro v x h; exact sim_atoi (c := cfg w0 (tab31 k)) (ρ := Sh.ren172) Sh.l172 hw.es hw.er h
theorem ok32 (w0 : World) (hw : Wd w0) (k : Nat) : CfOk (cfg w0 (tab32 k)) := addTab_ok (ok31 w0 hw k) (strconv_Atoi.sim w0 hw k)
theorem media_feature.a (w0 : World) (k : Nat) : cutsAt (fun n => (media_feature.cuts w0 k n).isSome) media_feature.body = [] := by kernel_rfl
theorem media_feature.sim (w0 : World) (hw : Wd w0) (k : Nat) : ∀ v x, (fun v => media_feature k v) v = some x → Sim (cfg w0 (tab32 k)) 23 (io37.enc v).1 (io37.enc v).2 (io48.enc x).1 (io48.enc x).2 :=
  sim_of (c := (cfg w0 (tab32 k))) (fine w0 hw _ (ok32 w0 hw k)) (dr w0 hw _ (ok32 w0 hw k)) (i := io37) (o := io48) (ps := []) (cuts := fun _ => media_feature.cuts w0 k) (m := 0) (g := fun v => media_feature k v) Tryz.func23 (by kernel_rfl) media_feature.hb (fun _ => rfl) (fun _ => Nat.le_of_ble_eq_true rfl) (good_cuts (media_feature.a w0 k) trivial) (media_feature.e w0 k)
theorem ok33 (w0 : World) (hw : Wd w0) (k : Nat) : CfOk (cfg w0 (tab33 k)) := addTab_ok (ok32 w0 hw k) (media_feature.sim w0 hw k)
theorem media_query.a30 (w0 : World) (k : Nat) : cutsAt (fun n => (media_query.cuts w0 k n).isSome) media_query.b30 = [] := by kernel_rfl
theorem media_query.a11 (w0 : World) (k : Nat) : cutsAt (fun n => (media_query.cuts w0 k n).isSome) media_query.b11 = [(30, media_query.b30)] := by kernel_rfl
theorem media_query.a10 (w0 : World) (k : Nat) : cutsAt (fun n => (media_query.cuts w0 k n).isSome) media_query.b10 = [(11, Code.loop media_query.b11)] := by kernel_rfl
theorem media_query.a (w0 : World) (k : Nat) : cutsAt (fun n => (media_query.cuts w0 k n).isSome) media_query.body = [(10, media_query.b10)] := by kernel_rfl
theorem media_query.so30 (w0 : World) (hw : Wd w0) (k : Nat) : Sound (cfg w0 (tab33 k)) Tryz.f15.ntmps 0 (media_query.kr w0 k) media_query.b30 (entK (cfg w0 (tab33 k)) 0 [0, 2, 4, 5, 6] [.cell 4 1 38] io50.pat (media_query.L30 k)) :=
  join_ok (fine w0 hw _ (ok33 w0 hw k)) (dr w0 hw _ (ok33 w0 hw k)) (good_cuts (media_query.a30 w0 k) trivial) io50.ok (xn := media_query.x30) (L := media_query.L30 k) (media_query.s30 w0 k)
theorem media_query.so11 (w0 : World) (hw : Wd w0) (k : Nat) : Sound (cfg w0 (tab33 k)) Tryz.f15.ntmps 0 (media_query.kr w0 k) (.loop media_query.b11) (entK (cfg w0 (tab33 k)) 0 [0, 2, 4] [.cell 4 1 38] io51.pat (media_query.L11 k k)) :=
  loop_ok (fine w0 hw _ (ok33 w0 hw k)) (dr w0 hw _ (ok33 w0 hw k)) (good_cuts (media_query.a11 w0 k) ⟨fun f hf => by cases hf; exact media_query.so30 w0 hw k, trivial⟩) io51.ok (xn := media_query.x11) (L := media_query.L11 k) (fun v K => rfl) (media_query.s11 w0 k) k
theorem media_query.so10 (w0 : World) (hw : Wd w0) (k : Nat) : Sound (cfg w0 (tab33 k)) Tryz.f15.ntmps 0 (media_query.kr w0 k) media_query.b10 (entK (cfg w0 (tab33 k)) 0 [0, 2, 4] [] io53.pat (media_query.L10 k)) :=
  join_ok (fine w0 hw _ (ok33 w0 hw k)) (dr w0 hw _ (ok33 w0 hw k)) (good_cuts (media_query.a10 w0 k) ⟨fun f hf => by cases hf; exact media_query.so11 w0 hw k, trivial⟩) io53.ok (xn := media_query.x10) (L := media_query.L10 k) (media_query.s10 w0 k)
theorem media_query.sim (w0 : World) (hw : Wd w0) (k : Nat) : ∀ v x, (fun v => media_query k v) v = some x → Sim (cfg w0 (tab33 k)) 15 (io37.enc v).1 (io37.enc v).2 (io49.enc x).1 (io49.enc x).2 :=
  sim_of (c := (cfg w0 (tab33 k))) (fine w0 hw _ (ok33 w0 hw k)) (dr w0 hw _ (ok33 w0 hw k)) (i := io37) (o := io49) (ps := [.agg 0 36]) (cuts := fun _ => media_query.cuts w0 k) (m := 0) (g := fun v => media_query k v) Tryz.func15 (by kernel_rfl) media_query.hb (fun _ => rfl) (fun _ => Nat.le_of_ble_eq_true rfl) (good_cuts (media_query.a w0 k) ⟨fun f hf => by cases hf; exact media_query.so10 w0 hw k, trivial⟩) (media_query.e w0 k)
theorem ok34 (w0 : World) (hw : Wd w0) (k : Nat) : CfOk (cfg w0 (tab34 k)) := addTab_ok (ok33 w0 hw k) (media_query.sim w0 hw k)
theorem media_Read.a26 (w0 : World) (k : Nat) : cutsAt (fun n => (media_Read.cuts w0 k n).isSome) media_Read.b26 = [] := by kernel_rfl
theorem media_Read.a17 (w0 : World) (k : Nat) : cutsAt (fun n => (media_Read.cuts w0 k n).isSome) media_Read.b17 = [(26, media_Read.b26)] := by kernel_rfl
theorem media_Read.a (w0 : World) (k : Nat) : cutsAt (fun n => (media_Read.cuts w0 k n).isSome) media_Read.body = [(17, Code.loop media_Read.b17)] := by kernel_rfl
theorem media_Read.so26 (w0 : World) (hw : Wd w0) (k : Nat) : Sound (cfg w0 (tab34 k)) Tryz.f8.ntmps 0 (media_Read.kr w0 k) media_Read.b26 (entK (cfg w0 (tab34 k)) 0 [5, 8, 24, 25, 26] [.own 5 36, .box 8 36] io55.pat (media_Read.L26 k)) :=
  join_ok (fine w0 hw _ (ok34 w0 hw k)) (dr w0 hw _ (ok34 w0 hw k)) (good_cuts (media_Read.a26 w0 k) trivial) io55.ok (xn := media_Read.x26) (L := media_Read.L26 k) (media_Read.s26 w0 k)
theorem media_Read.so17 (w0 : World) (hw : Wd w0) (k : Nat) : Sound (cfg w0 (tab34 k)) Tryz.f8.ntmps 0 (media_Read.kr w0 k) (.loop media_Read.b17) (entK (cfg w0 (tab34 k)) 0 [5, 24, 25, 26] [.own 5 36] io56.pat (media_Read.L17 k k)) :=
  loop_ok (fine w0 hw _ (ok34 w0 hw k)) (dr w0 hw _ (ok34 w0 hw k)) (good_cuts (media_Read.a17 w0 k) ⟨fun f hf => by cases hf; exact media_Read.so26 w0 hw k, trivial⟩) io56.ok (xn := media_Read.x17) (L := media_Read.L17 k) (fun v K => rfl) (media_Read.s17 w0 k) k
theorem media_Read.sim (w0 : World) (hw : Wd w0) (k : Nat) : ∀ v x, (fun v => media_Read k v) v = some x → Sim (cfg w0 (tab34 k)) 8 (io1.enc v).1 (io1.enc v).2 (io54.enc x).1 (io54.enc x).2 :=
  sim_of (c := (cfg w0 (tab34 k))) (fine w0 hw _ (ok34 w0 hw k)) (dr w0 hw _ (ok34 w0 hw k)) (i := io1) (o := io54) (ps := [.own 0 36]) (cuts := fun _ => media_Read.cuts w0 k) (m := 0) (g := fun v => media_Read k v) Tryz.func8 (by kernel_rfl) media_Read.hb (fun _ => rfl) (fun _ => Nat.le_of_ble_eq_true rfl) (good_cuts (media_Read.a w0 k) ⟨fun f hf => by cases hf; exact media_Read.so17 w0 hw k, trivial⟩) (media_Read.e w0 k)
theorem ok35 (w0 : World) (hw : Wd w0) (k : Nat) : CfOk (cfg w0 (tab35 k)) := addTab_ok (ok34 w0 hw k) (media_Read.sim w0 hw k)
theorem media_so.a52 (w0 : World) (k : Nat) : cutsAt (fun n => (media_so.cuts w0 k n).isSome) media_so.b52 = [] := by kernel_rfl
theorem media_so.a (w0 : World) (k : Nat) : cutsAt (fun n => (media_so.cuts w0 k n).isSome) media_so.body = [(52, media_so.b52)] := by kernel_rfl
theorem media_so.so52 (w0 : World) (hw : Wd w0) (k : Nat) : Sound (cfg w0 (tab35 k)) Tryz.f29.ntmps 0 (media_so.kr w0 k) media_so.b52 (entK (cfg w0 (tab35 k)) 0 [5] [] io2.pat (media_so.L52 k)) :=
  join_ok (fine w0 hw _ (ok35 w0 hw k)) (dr w0 hw _ (ok35 w0 hw k)) (good_cuts (media_so.a52 w0 k) trivial) io2.ok (xn := media_so.x52) (L := media_so.L52 k) (media_so.s52 w0 k)
theorem media_so.sim (w0 : World) (hw : Wd w0) (k : Nat) : ∀ v x, (fun v => media_so k v.1 v.2.1 v.2.2.1 v.2.2.2.1 v.2.2.2.2.1 v.2.2.2.2.2) v = some x → Sim (cfg w0 (tab35 k)) 29 (io58.enc v).1 (io58.enc v).2 (io4.enc x).1 (io4.enc x).2 :=
  sim_of (c := (cfg w0 (tab35 k))) (fine w0 hw _ (ok35 w0 hw k)) (dr w0 hw _ (ok35 w0 hw k)) (i := io58) (o := io4) (ps := []) (cuts := fun _ => media_so.cuts w0 k) (m := 0) (g := fun v => media_so k v.1 v.2.1 v.2.2.1 v.2.2.2.1 v.2.2.2.2.1 v.2.2.2.2.2) Tryz.func29 (by kernel_rfl) media_so.hb (fun _ => rfl) (fun _ => Nat.le_of_ble_eq_true rfl) (good_cuts (media_so.a w0 k) ⟨fun f hf => by cases hf; exact media_so.so52 w0 hw k, trivial⟩) (media_so.e w0 k)
theorem ok36 (w0 : World) (hw : Wd w0) (k : Nat) : CfOk (cfg w0 (tab36 k)) := addTab_ok (ok35 w0 hw k) (media_so.sim w0 hw k)
theorem media_all.a7 (w0 : World) (k : Nat) : cutsAt (fun n => (media_all.cuts w0 k n).isSome) media_all.b7 = [] := by kernel_rfl
theorem media_all.a18 (w0 : World) (k : Nat) : cutsAt (fun n => (media_all.cuts w0 k n).isSome) media_all.b18 = [] := by kernel_rfl
theorem media_all.a (w0 : World) (k : Nat) : cutsAt (fun n => (media_all.cuts w0 k n).isSome) media_all.body = [(7, Code.loop media_all.b7), (18, media_all.b18)] := by kernel_rfl
theorem media_all.so7 (w0 : World) (hw : Wd w0) (k : Nat) : Sound (cfg w0 (tab36 k)) Tryz.f18.ntmps 0 (media_all.kr w0 k) (.loop media_all.b7) (entK (cfg w0 (tab36 k)) 0 [2, 3, 5, 9, 10, 11] [] io60.pat (media_all.L7 k k)) :=
  loop_ok (fine w0 hw _ (ok36 w0 hw k)) (dr w0 hw _ (ok36 w0 hw k)) (good_cuts (media_all.a7 w0 k) trivial) io60.ok (xn := media_all.x7) (L := media_all.L7 k) (fun v K => rfl) (media_all.s7 w0 k) k
theorem media_all.so18 (w0 : World) (hw : Wd w0) (k : Nat) : Sound (cfg w0 (tab36 k)) Tryz.f18.ntmps 0 (media_all.kr w0 k) media_all.b18 (entK (cfg w0 (tab36 k)) 0 [5] [] io4.pat (media_all.L18 k)) :=
  join_ok (fine w0 hw _ (ok36 w0 hw k)) (dr w0 hw _ (ok36 w0 hw k)) (good_cuts (media_all.a18 w0 k) trivial) io4.ok (xn := media_all.x18) (L := media_all.L18 k) (media_all.s18 w0 k)
theorem media_all.sim (w0 : World) (hw : Wd w0) (k : Nat) : ∀ v x, (fun v => media_all k v.1 v.2.1 v.2.2.1 v.2.2.2.1 v.2.2.2.2.1 v.2.2.2.2.2) v = some x → Sim (cfg w0 (tab36 k)) 18 (io59.enc v).1 (io59.enc v).2 (io4.enc x).1 (io4.enc x).2 :=
  sim_of (c := (cfg w0 (tab36 k))) (fine w0 hw _ (ok36 w0 hw k)) (dr w0 hw _ (ok36 w0 hw k)) (i := io59) (o := io4) (ps := []) (cuts := fun _ => media_all.cuts w0 k) (m := 0) (g := fun v => media_all k v.1 v.2.1 v.2.2.1 v.2.2.2.1 v.2.2.2.2.1 v.2.2.2.2.2) Tryz.func18 (by kernel_rfl) media_all.hb (fun _ => rfl) (fun _ => Nat.le_of_ble_eq_true rfl) (good_cuts (media_all.a w0 k) ⟨fun f hf => by cases hf; exact media_all.so7 w0 hw k, fun f hf => by cases hf; exact media_all.so18 w0 hw k, trivial⟩) (media_all.e w0 k)
theorem ok37 (w0 : World) (hw : Wd w0) (k : Nat) : CfOk (cfg w0 (tab37 k)) := addTab_ok (ok36 w0 hw k) (media_all.sim w0 hw k)
theorem media_Holds.a15 (w0 : World) (k : Nat) : cutsAt (fun n => (media_Holds.cuts w0 k n).isSome) media_Holds.b15 = [] := by kernel_rfl
theorem media_Holds.a (w0 : World) (k : Nat) : cutsAt (fun n => (media_Holds.cuts w0 k n).isSome) media_Holds.body = [(15, Code.loop media_Holds.b15)] := by kernel_rfl
theorem media_Holds.so15 (w0 : World) (hw : Wd w0) (k : Nat) : Sound (cfg w0 (tab37 k)) Tryz.f11.ntmps 0 (media_Holds.kr w0 k) (.loop media_Holds.b15) (entK (cfg w0 (tab37 k)) 0 [3, 36, 37, 38] [] io64.pat (media_Holds.L15 k k)) :=
  loop_ok (fine w0 hw _ (ok37 w0 hw k)) (dr w0 hw _ (ok37 w0 hw k)) (good_cuts (media_Holds.a15 w0 k) trivial) io64.ok (xn := media_Holds.x15) (L := media_Holds.L15 k) (fun v K => rfl) (media_Holds.s15 w0 k) k
theorem media_Holds.sim (w0 : World) (hw : Wd w0) (k : Nat) : ∀ v x, (fun v => media_Holds k v.1 v.2.1 v.2.2.1 v.2.2.2.1 v.2.2.2.2) v = some x → Sim (cfg w0 (tab37 k)) 11 (io62.enc v).1 (io62.enc v).2 (io63.enc x).1 (io63.enc x).2 :=
  sim_of (c := (cfg w0 (tab37 k))) (fine w0 hw _ (ok37 w0 hw k)) (dr w0 hw _ (ok37 w0 hw k)) (i := io62) (o := io63) (ps := []) (cuts := fun _ => media_Holds.cuts w0 k) (m := 0) (g := fun v => media_Holds k v.1 v.2.1 v.2.2.1 v.2.2.2.1 v.2.2.2.2) Tryz.func11 (by kernel_rfl) media_Holds.hb (fun _ => rfl) (fun _ => Nat.le_of_ble_eq_true rfl) (good_cuts (media_Holds.a w0 k) ⟨fun f hf => by cases hf; exact media_Holds.so15 w0 hw k, trivial⟩) (media_Holds.e w0 k)
theorem ok38 (w0 : World) (hw : Wd w0) (k : Nat) : CfOk (cfg w0 (tab38 k)) := addTab_ok (ok37 w0 hw k) (media_Holds.sim w0 hw k)
theorem clerestorykeep2_wide.a (w0 : World) (k : Nat) : cutsAt (fun n => (clerestorykeep2_wide.cuts w0 k n).isSome) clerestorykeep2_wide.body = [] := by kernel_rfl
theorem clerestorykeep2_wide.sim (w0 : World) (hw : Wd w0) (k : Nat) : ∀ v x, (fun v => clerestorykeep2_wide k ) v = some x → Sim (cfg w0 (tab38 k)) 7 (io41.enc v).1 (io41.enc v).2 (io2.enc x).1 (io2.enc x).2 :=
  sim_of (c := (cfg w0 (tab38 k))) (fine w0 hw _ (ok38 w0 hw k)) (dr w0 hw _ (ok38 w0 hw k)) (i := io41) (o := io2) (ps := []) (cuts := fun _ => clerestorykeep2_wide.cuts w0 k) (m := 0) (g := fun v => clerestorykeep2_wide k ) Tryz.func7 (by kernel_rfl) clerestorykeep2_wide.hb (fun _ => rfl) (fun _ => Nat.le_of_ble_eq_true rfl) (good_cuts (clerestorykeep2_wide.a w0 k) trivial) (clerestorykeep2_wide.e w0 k)
theorem ok39 (w0 : World) (hw : Wd w0) (k : Nat) : CfOk (cfg w0 (tab39 k)) := addTab_ok (ok38 w0 hw k) (clerestorykeep2_wide.sim w0 hw k)
theorem strconv_Itoa.sim (w0 : World) (hw : Wd w0) (k : Nat) : ∀ v x, (fun v => strconv_Itoa k v) v = some x → Sim (cfg w0 (tab39 k)) 24 (io4.enc v).1 (io4.enc v).2 (io1.enc x).1 (io1.enc x).2 := by
  intro v x h; exact sim_itoa (c := cfg w0 (tab39 k)) (ρ := Sh.ren171) Sh.l171 hw.pw h
theorem ok40 (w0 : World) (hw : Wd w0) (k : Nat) : CfOk (cfg w0 (tab40 k)) := addTab_ok (ok39 w0 hw k) (strconv_Itoa.sim w0 hw k)
theorem strings_Count.sim (w0 : World) (hw : Wd w0) (k : Nat) : ∀ v x, (fun v => strings_Count k v.1 v.2) v = some x → Sim (cfg w0 (tab40 k)) 46 (io0.enc v).1 (io0.enc v).2 (io4.enc x).1 (io4.enc x).2 := by
  intro v x h; exact sim_cnt (c := cfg w0 (tab40 k)) (ρ := Sh.ren138) Sh.l138 h
theorem ok41 (w0 : World) (hw : Wd w0) (k : Nat) : CfOk (cfg w0 (tab41 k)) := addTab_ok (ok40 w0 hw k) (strings_Count.sim w0 hw k)
theorem f__strings_Builder__Grow.sim (w0 : World) (hw : Wd w0) (k : Nat) : ∀ v x, (fun v => f__strings_Builder__Grow k v.1 v.2) v = some x → Sim (cfg w0 (tab41 k)) 26 (io15.enc v).1 (io15.enc v).2 (io65.enc x).1 (io65.enc x).2 := by
  intro v x h; exact sim_grow (c := cfg w0 (tab41 k)) (ρ := Sh.blr) Sh.bl Sh.l241 Sh.fGrow Sh.ext rfl rfl h
theorem ok42 (w0 : World) (hw : Wd w0) (k : Nat) : CfOk (cfg w0 (tab42 k)) := addTab_ok (ok41 w0 hw k) (f__strings_Builder__Grow.sim w0 hw k)
theorem f__strings_Builder__WriteString.sim (w0 : World) (hw : Wd w0) (k : Nat) : ∀ v x, (fun v => f__strings_Builder__WriteString k v.1 v.2) v = some x → Sim (cfg w0 (tab42 k)) 27 (io66.enc v).1 (io66.enc v).2 (io67.enc x).1 (io67.enc x).2 := by
  intro v x h; obtain ⟨s, hs, rfl⟩ := Option.map_eq_some_iff.1 h; exact sim_wStr (c := cfg w0 (tab42 k)) (ρ := Sh.blr) Sh.bl Sh.fWriteString Sh.ext rfl rfl hs
theorem ok43 (w0 : World) (hw : Wd w0) (k : Nat) : CfOk (cfg w0 (tab43 k)) := addTab_ok (ok42 w0 hw k) (f__strings_Builder__WriteString.sim w0 hw k)
theorem utf8_decodeRuneInStringSlow.a (w0 : World) (k : Nat) : cutsAt (fun n => (utf8_decodeRuneInStringSlow.cuts w0 k n).isSome) utf8_decodeRuneInStringSlow.body = [] := by kernel_rfl
theorem utf8_decodeRuneInStringSlow.sim (w0 : World) (hw : Wd w0) (k : Nat) : ∀ v x, (fun v => utf8_decodeRuneInStringSlow k v) v = some x → Sim (cfg w0 (tab43 k)) 72 (io1.enc v).1 (io1.enc v).2 (io68.enc x).1 (io68.enc x).2 :=
  sim_of (c := (cfg w0 (tab43 k))) (fine w0 hw _ (ok43 w0 hw k)) (dr w0 hw _ (ok43 w0 hw k)) (i := io1) (o := io68) (ps := []) (cuts := fun _ => utf8_decodeRuneInStringSlow.cuts w0 k) (m := 0) (g := fun v => utf8_decodeRuneInStringSlow k v) Tryz.func72 (by kernel_rfl) utf8_decodeRuneInStringSlow.hb (fun _ => rfl) (fun _ => Nat.le_of_ble_eq_true rfl) (good_cuts (utf8_decodeRuneInStringSlow.a w0 k) trivial) (utf8_decodeRuneInStringSlow.e w0 k)
theorem ok44 (w0 : World) (hw : Wd w0) (k : Nat) : CfOk (cfg w0 (tab44 k)) := addTab_ok (ok43 w0 hw k) (utf8_decodeRuneInStringSlow.sim w0 hw k)
theorem utf8_DecodeRuneInString.a (w0 : World) (k : Nat) : cutsAt (fun n => (utf8_DecodeRuneInString.cuts w0 k n).isSome) utf8_DecodeRuneInString.body = [] := by kernel_rfl
theorem utf8_DecodeRuneInString.sim (w0 : World) (hw : Wd w0) (k : Nat) : ∀ v x, (fun v => utf8_DecodeRuneInString k v) v = some x → Sim (cfg w0 (tab44 k)) 47 (io1.enc v).1 (io1.enc v).2 (io68.enc x).1 (io68.enc x).2 :=
  sim_of (c := (cfg w0 (tab44 k))) (fine w0 hw _ (ok44 w0 hw k)) (dr w0 hw _ (ok44 w0 hw k)) (i := io1) (o := io68) (ps := []) (cuts := fun _ => utf8_DecodeRuneInString.cuts w0 k) (m := 0) (g := fun v => utf8_DecodeRuneInString k v) Tryz.func47 (by kernel_rfl) utf8_DecodeRuneInString.hb (fun _ => rfl) (fun _ => Nat.le_of_ble_eq_true rfl) (good_cuts (utf8_DecodeRuneInString.a w0 k) trivial) (utf8_DecodeRuneInString.e w0 k)
theorem ok45 (w0 : World) (hw : Wd w0) (k : Nat) : CfOk (cfg w0 (tab45 k)) := addTab_ok (ok44 w0 hw k) (utf8_DecodeRuneInString.sim w0 hw k)
theorem strings_Replace.a27 (w0 : World) (k : Nat) : cutsAt (fun n => (strings_Replace.cuts w0 k n).isSome) strings_Replace.b27 = [] := by kernel_rfl
theorem strings_Replace.a56 (w0 : World) (k : Nat) : cutsAt (fun n => (strings_Replace.cuts w0 k n).isSome) strings_Replace.b56 = [] := by kernel_rfl
theorem strings_Replace.a43 (w0 : World) (k : Nat) : cutsAt (fun n => (strings_Replace.cuts w0 k n).isSome) strings_Replace.b43 = [] := by kernel_rfl
theorem strings_Replace.a16 (w0 : World) (k : Nat) : cutsAt (fun n => (strings_Replace.cuts w0 k n).isSome) strings_Replace.b16 = [(27, Code.loop strings_Replace.b27), (43, Code.loop strings_Replace.b43), (56, strings_Replace.b56)] := by kernel_rfl
theorem strings_Replace.a (w0 : World) (k : Nat) : cutsAt (fun n => (strings_Replace.cuts w0 k n).isSome) strings_Replace.body = [(16, strings_Replace.b16)] := by kernel_rfl
theorem strings_Replace.so27 (w0 : World) (hw : Wd w0) (k : Nat) : Sound (cfg w0 (tab45 k)) Tryz.f25.ntmps 0 (strings_Replace.kr w0 k) (.loop strings_Replace.b27) (entK (cfg w0 (tab45 k)) 0 [0, 1, 2, 10, 11, 52, 53] [] io70.pat (strings_Replace.L27 k k)) :=
  loop_ok (fine w0 hw _ (ok45 w0 hw k)) (dr w0 hw _ (ok45 w0 hw k)) (good_cuts (strings_Replace.a27 w0 k) trivial) io70.ok (xn := strings_Replace.x27) (L := strings_Replace.L27 k) (fun v K => rfl) (strings_Replace.s27 w0 k) k
theorem strings_Replace.so56 (w0 : World) (hw : Wd w0) (k : Nat) : Sound (cfg w0 (tab45 k)) Tryz.f25.ntmps 0 (strings_Replace.kr w0 k) strings_Replace.b56 (entK (cfg w0 (tab45 k)) 0 [0, 10, 11] [] io14.pat (strings_Replace.L56 k)) :=
  join_ok (fine w0 hw _ (ok45 w0 hw k)) (dr w0 hw _ (ok45 w0 hw k)) (good_cuts (strings_Replace.a56 w0 k) trivial) io14.ok (xn := strings_Replace.x56) (L := strings_Replace.L56 k) (strings_Replace.s56 w0 k)
theorem strings_Replace.so43 (w0 : World) (hw : Wd w0) (k : Nat) : Sound (cfg w0 (tab45 k)) Tryz.f25.ntmps 0 (strings_Replace.kr w0 k) (.loop strings_Replace.b43) (entK (cfg w0 (tab45 k)) 0 [0, 2, 10, 11, 77, 78] [] io71.pat (strings_Replace.L43 k k)) :=
  loop_ok (fine w0 hw _ (ok45 w0 hw k)) (dr w0 hw _ (ok45 w0 hw k)) (good_cuts (strings_Replace.a43 w0 k) trivial) io71.ok (xn := strings_Replace.x43) (L := strings_Replace.L43 k) (fun v K => rfl) (strings_Replace.s43 w0 k) k
theorem strings_Replace.so16 (w0 : World) (hw : Wd w0) (k : Nat) : Sound (cfg w0 (tab45 k)) Tryz.f25.ntmps 0 (strings_Replace.kr w0 k) strings_Replace.b16 (entK (cfg w0 (tab45 k)) 0 [0, 1, 2, 3] [] io69.pat (strings_Replace.L16 k)) :=
  join_ok (fine w0 hw _ (ok45 w0 hw k)) (dr w0 hw _ (ok45 w0 hw k)) (good_cuts (strings_Replace.a16 w0 k) ⟨fun f hf => by cases hf; exact strings_Replace.so27 w0 hw k, fun f hf => by cases hf; exact strings_Replace.so43 w0 hw k, fun f hf => by cases hf; exact strings_Replace.so56 w0 hw k, trivial⟩) io69.ok (xn := strings_Replace.x16) (L := strings_Replace.L16 k) (strings_Replace.s16 w0 k)
theorem strings_Replace.sim (w0 : World) (hw : Wd w0) (k : Nat) : ∀ v x, (fun v => strings_Replace k v.1 v.2.1 v.2.2.1 v.2.2.2) v = some x → Sim (cfg w0 (tab45 k)) 25 (io69.enc v).1 (io69.enc v).2 (io1.enc x).1 (io1.enc x).2 :=
  sim_of (c := (cfg w0 (tab45 k))) (fine w0 hw _ (ok45 w0 hw k)) (dr w0 hw _ (ok45 w0 hw k)) (i := io69) (o := io1) (ps := []) (cuts := fun _ => strings_Replace.cuts w0 k) (m := 0) (g := fun v => strings_Replace k v.1 v.2.1 v.2.2.1 v.2.2.2) Tryz.func25 (by kernel_rfl) strings_Replace.hb (fun _ => rfl) (fun _ => Nat.le_of_ble_eq_true rfl) (good_cuts (strings_Replace.a w0 k) ⟨fun f hf => by cases hf; exact strings_Replace.so16 w0 hw k, trivial⟩) (strings_Replace.e w0 k)
theorem ok46 (w0 : World) (hw : Wd w0) (k : Nat) : CfOk (cfg w0 (tab46 k)) := addTab_ok (ok45 w0 hw k) (strings_Replace.sim w0 hw k)
theorem media_featureText.a (w0 : World) (k : Nat) : cutsAt (fun n => (media_featureText.cuts w0 k n).isSome) media_featureText.body = [] := by kernel_rfl
theorem media_featureText.sim (w0 : World) (hw : Wd w0) (k : Nat) : ∀ v x, (fun v => media_featureText k v.1 v.2) v = some x → Sim (cfg w0 (tab46 k)) 16 (io48.enc v).1 (io48.enc v).2 (io1.enc x).1 (io1.enc x).2 :=
  sim_of (c := (cfg w0 (tab46 k))) (fine w0 hw _ (ok46 w0 hw k)) (dr w0 hw _ (ok46 w0 hw k)) (i := io48) (o := io1) (ps := []) (cuts := fun _ => media_featureText.cuts w0 k) (m := 0) (g := fun v => media_featureText k v.1 v.2) Tryz.func16 (by kernel_rfl) media_featureText.hb (fun _ => rfl) (fun _ => Nat.le_of_ble_eq_true rfl) (good_cuts (media_featureText.a w0 k) trivial) (media_featureText.e w0 k)
theorem ok47 (w0 : World) (hw : Wd w0) (k : Nat) : CfOk (cfg w0 (tab47 k)) := addTab_ok (ok46 w0 hw k) (media_featureText.sim w0 hw k)
theorem strings_Join.a20 (w0 : World) (k : Nat) : cutsAt (fun n => (strings_Join.cuts w0 k n).isSome) strings_Join.b20 = [] := by kernel_rfl
theorem strings_Join.a25 (w0 : World) (k : Nat) : cutsAt (fun n => (strings_Join.cuts w0 k n).isSome) strings_Join.b25 = [] := by kernel_rfl
theorem strings_Join.a22 (w0 : World) (k : Nat) : cutsAt (fun n => (strings_Join.cuts w0 k n).isSome) strings_Join.b22 = [(25, Code.loop strings_Join.b25)] := by kernel_rfl
theorem strings_Join.a (w0 : World) (k : Nat) : cutsAt (fun n => (strings_Join.cuts w0 k n).isSome) strings_Join.body = [(20, strings_Join.b20), (22, strings_Join.b22)] := by kernel_rfl
theorem strings_Join.so20 (w0 : World) (hw : Wd w0) (k : Nat) : Sound (cfg w0 (tab47 k)) Tryz.f17.ntmps 0 (strings_Join.kr w0 k) strings_Join.b20 (entK (cfg w0 (tab47 k)) 0 [0, 1, 5] [] io73.pat (strings_Join.L20 k)) :=
  join_ok (fine w0 hw _ (ok47 w0 hw k)) (dr w0 hw _ (ok47 w0 hw k)) (good_cuts (strings_Join.a20 w0 k) trivial) io73.ok (xn := strings_Join.x20) (L := strings_Join.L20 k) (strings_Join.s20 w0 k)
theorem strings_Join.so25 (w0 : World) (hw : Wd w0) (k : Nat) : Sound (cfg w0 (tab47 k)) Tryz.f17.ntmps 0 (strings_Join.kr w0 k) (.loop strings_Join.b25) (entK (cfg w0 (tab47 k)) 0 [0, 1, 5, 39, 40, 41] [] io74.pat (strings_Join.L25 k k)) :=
  loop_ok (fine w0 hw _ (ok47 w0 hw k)) (dr w0 hw _ (ok47 w0 hw k)) (good_cuts (strings_Join.a25 w0 k) trivial) io74.ok (xn := strings_Join.x25) (L := strings_Join.L25 k) (fun v K => rfl) (strings_Join.s25 w0 k) k
theorem strings_Join.so22 (w0 : World) (hw : Wd w0) (k : Nat) : Sound (cfg w0 (tab47 k)) Tryz.f17.ntmps 0 (strings_Join.kr w0 k) strings_Join.b22 (entK (cfg w0 (tab47 k)) 0 [0, 1, 5] [] io73.pat (strings_Join.L22 k)) :=
  join_ok (fine w0 hw _ (ok47 w0 hw k)) (dr w0 hw _ (ok47 w0 hw k)) (good_cuts (strings_Join.a22 w0 k) ⟨fun f hf => by cases hf; exact strings_Join.so25 w0 hw k, trivial⟩) io73.ok (xn := strings_Join.x22) (L := strings_Join.L22 k) (strings_Join.s22 w0 k)
theorem strings_Join.sim (w0 : World) (hw : Wd w0) (k : Nat) : ∀ v x, (fun v => strings_Join k v) v = some x → (x.1 = false → Sim (cfg w0 (tab47 k)) 17 (io72.enc v).1 (io72.enc v).2 (io1.enc x.2.2).1 (io1.enc x.2.2).2) ∧ (x.1 = true → SimP (cfg w0 (tab47 k)) 17 (io72.enc v).1 (io72.enc v).2 (pe9 x.2.1)) :=
  simP_of (c := (cfg w0 (tab47 k))) (fine w0 hw _ (ok47 w0 hw k)) (dr w0 hw _ (ok47 w0 hw k)) (i := io72) (o := io1) (hpe := pp9_ok) (hpv := pe9_pv) (dp := []) (dr := []) (ps := []) (cuts := fun _ => strings_Join.cuts w0 k) (m := 0) (g := fun v => strings_Join k v) Tryz.func17 (by kernel_rfl) strings_Join.hb (fun _ => rfl) (fun _ => Nat.le_of_ble_eq_true rfl) (good_cuts (strings_Join.a w0 k) ⟨fun f hf => by cases hf; exact strings_Join.so20 w0 hw k, fun f hf => by cases hf; exact strings_Join.so22 w0 hw k, trivial⟩) (strings_Join.e w0 k)
theorem ok48 (w0 : World) (hw : Wd w0) (k : Nat) : CfOk (cfg w0 (tab48 k)) := addTabP_ok (ok47 w0 hw k) (strings_Join.sim w0 hw k)
theorem strings_Join_v2.a20 (w0 : World) (k : Nat) : cutsAt (fun n => (strings_Join_v2.cuts w0 k n).isSome) strings_Join_v2.b20 = [] := by kernel_rfl
theorem strings_Join_v2.a32 (w0 : World) (k : Nat) : cutsAt (fun n => (strings_Join_v2.cuts w0 k n).isSome) strings_Join_v2.b32 = [] := by kernel_rfl
theorem strings_Join_v2.a25 (w0 : World) (k : Nat) : cutsAt (fun n => (strings_Join_v2.cuts w0 k n).isSome) strings_Join_v2.b25 = [(32, strings_Join_v2.b32)] := by kernel_rfl
theorem strings_Join_v2.a45 (w0 : World) (k : Nat) : cutsAt (fun n => (strings_Join_v2.cuts w0 k n).isSome) strings_Join_v2.b45 = [] := by kernel_rfl
theorem strings_Join_v2.a22 (w0 : World) (k : Nat) : cutsAt (fun n => (strings_Join_v2.cuts w0 k n).isSome) strings_Join_v2.b22 = [(25, Code.loop strings_Join_v2.b25), (45, Code.loop strings_Join_v2.b45)] := by kernel_rfl
theorem strings_Join_v2.a (w0 : World) (k : Nat) : cutsAt (fun n => (strings_Join_v2.cuts w0 k n).isSome) strings_Join_v2.body = [(20, strings_Join_v2.b20), (22, strings_Join_v2.b22)] := by kernel_rfl
theorem strings_Join_v2.so20 (w0 : World) (hw : Wd w0) (k : Nat) : Sound (cfg w0 (tab48 k)) Tryz.f17.ntmps 0 (strings_Join_v2.kr w0 k) strings_Join_v2.b20 (entK (cfg w0 (tab48 k)) 0 [0, 1, 5] [] io76.pat (strings_Join_v2.L20 k)) :=
  join_ok (fine w0 hw _ (ok48 w0 hw k)) (dr w0 hw _ (ok48 w0 hw k)) (good_cuts (strings_Join_v2.a20 w0 k) trivial) io76.ok (xn := strings_Join_v2.x20) (L := strings_Join_v2.L20 k) (strings_Join_v2.s20 w0 k)
theorem strings_Join_v2.so32 (w0 : World) (hw : Wd w0) (k : Nat) : Sound (cfg w0 (tab48 k)) Tryz.f17.ntmps 0 (strings_Join_v2.kr w0 k) strings_Join_v2.b32 (entK (cfg w0 (tab48 k)) 0 [0, 1, 5, 7, 39, 40, 41] [] io77.pat (strings_Join_v2.L32 k)) :=
  join_ok (fine w0 hw _ (ok48 w0 hw k)) (dr w0 hw _ (ok48 w0 hw k)) (good_cuts (strings_Join_v2.a32 w0 k) trivial) io77.ok (xn := strings_Join_v2.x32) (L := strings_Join_v2.L32 k) (strings_Join_v2.s32 w0 k)
theorem strings_Join_v2.so25 (w0 : World) (hw : Wd w0) (k : Nat) : Sound (cfg w0 (tab48 k)) Tryz.f17.ntmps 0 (strings_Join_v2.kr w0 k) (.loop strings_Join_v2.b25) (entK (cfg w0 (tab48 k)) 0 [0, 1, 5, 39, 40, 41] [] io78.pat (strings_Join_v2.L25 k k)) :=
  loop_ok (fine w0 hw _ (ok48 w0 hw k)) (dr w0 hw _ (ok48 w0 hw k)) (good_cuts (strings_Join_v2.a25 w0 k) ⟨fun f hf => by cases hf; exact strings_Join_v2.so32 w0 hw k, trivial⟩) io78.ok (xn := strings_Join_v2.x25) (L := strings_Join_v2.L25 k) (fun v K => rfl) (strings_Join_v2.s25 w0 k) k
theorem strings_Join_v2.so45 (w0 : World) (hw : Wd w0) (k : Nat) : Sound (cfg w0 (tab48 k)) Tryz.f17.ntmps 0 (strings_Join_v2.kr w0 k) (.loop strings_Join_v2.b45) (entK (cfg w0 (tab48 k)) 0 [1, 8, 63, 64, 65] [] io79.pat (strings_Join_v2.L45 k k)) :=
  loop_ok (fine w0 hw _ (ok48 w0 hw k)) (dr w0 hw _ (ok48 w0 hw k)) (good_cuts (strings_Join_v2.a45 w0 k) trivial) io79.ok (xn := strings_Join_v2.x45) (L := strings_Join_v2.L45 k) (fun v K => rfl) (strings_Join_v2.s45 w0 k) k
theorem strings_Join_v2.so22 (w0 : World) (hw : Wd w0) (k : Nat) : Sound (cfg w0 (tab48 k)) Tryz.f17.ntmps 0 (strings_Join_v2.kr w0 k) strings_Join_v2.b22 (entK (cfg w0 (tab48 k)) 0 [0, 1, 5] [] io76.pat (strings_Join_v2.L22 k)) :=
  join_ok (fine w0 hw _ (ok48 w0 hw k)) (dr w0 hw _ (ok48 w0 hw k)) (good_cuts (strings_Join_v2.a22 w0 k) ⟨fun f hf => by cases hf; exact strings_Join_v2.so25 w0 hw k, fun f hf => by cases hf; exact strings_Join_v2.so45 w0 hw k, trivial⟩) io76.ok (xn := strings_Join_v2.x22) (L := strings_Join_v2.L22 k) (strings_Join_v2.s22 w0 k)
theorem strings_Join_v2.sim (w0 : World) (hw : Wd w0) (k : Nat) : ∀ v x, (fun v => strings_Join_v2 k v.1 v.2) v = some x → (x.1 = false → Sim (cfg w0 (tab48 k)) 17 (io75.enc v).1 (io75.enc v).2 (io1.enc x.2.2).1 (io1.enc x.2.2).2) ∧ (x.1 = true → SimP (cfg w0 (tab48 k)) 17 (io75.enc v).1 (io75.enc v).2 (pe9 x.2.1)) :=
  simP_of (c := (cfg w0 (tab48 k))) (fine w0 hw _ (ok48 w0 hw k)) (dr w0 hw _ (ok48 w0 hw k)) (i := io75) (o := io1) (hpe := pp9_ok) (hpv := pe9_pv) (dp := []) (dr := []) (ps := []) (cuts := fun _ => strings_Join_v2.cuts w0 k) (m := 0) (g := fun v => strings_Join_v2 k v.1 v.2) Tryz.func17 (by kernel_rfl) strings_Join_v2.hb (fun _ => rfl) (fun _ => Nat.le_of_ble_eq_true rfl) (good_cuts (strings_Join_v2.a w0 k) ⟨fun f hf => by cases hf; exact strings_Join_v2.so20 w0 hw k, fun f hf => by cases hf; exact strings_Join_v2.so22 w0 hw k, trivial⟩) (strings_Join_v2.e w0 k)
theorem ok49 (w0 : World) (hw : Wd w0) (k : Nat) : CfOk (cfg w0 (tab49 k)) := addTabP_ok (ok48 w0 hw k) (strings_Join_v2.sim w0 hw k)
theorem media_Text.a15 (w0 : World) (k : Nat) : cutsAt (fun n => (media_Text.cuts w0 k n).isSome) media_Text.b15 = [] := by kernel_rfl
theorem media_Text.a28 (w0 : World) (k : Nat) : cutsAt (fun n => (media_Text.cuts w0 k n).isSome) media_Text.b28 = [] := by kernel_rfl
theorem media_Text.a7 (w0 : World) (k : Nat) : cutsAt (fun n => (media_Text.cuts w0 k n).isSome) media_Text.b7 = [(15, Code.loop media_Text.b15), (28, media_Text.b28)] := by kernel_rfl
theorem media_Text.a (w0 : World) (k : Nat) : cutsAt (fun n => (media_Text.cuts w0 k n).isSome) media_Text.body = [(7, Code.loop media_Text.b7)] := by kernel_rfl
theorem media_Text.so15 (w0 : World) (hw : Wd w0) (k : Nat) : Sound (cfg w0 (tab49 k)) Tryz.f9.ntmps 0 (media_Text.kr w0 k) (.loop media_Text.b15) (entK (cfg w0 (tab49 k)) 0 [3, 5, 6, 10, 11, 12, 17, 18, 19] [.own 3 9, .box 5 36, .own 6 9] io81.pat (media_Text.L15 k k)) :=
  loop_ok (fine w0 hw _ (ok49 w0 hw k)) (dr w0 hw _ (ok49 w0 hw k)) (good_cuts (media_Text.a15 w0 k) trivial) io81.ok (xn := media_Text.x15) (L := media_Text.L15 k) (fun v K => rfl) (media_Text.s15 w0 k) k
theorem media_Text.so28 (w0 : World) (hw : Wd w0) (k : Nat) : Sound (cfg w0 (tab49 k)) Tryz.f9.ntmps 0 (media_Text.kr w0 k) media_Text.b28 (entK (cfg w0 (tab49 k)) 0 [3, 9, 10, 11, 12] [.own 3 9] io83.pat (media_Text.L28 k)) :=
  join_ok (fine w0 hw _ (ok49 w0 hw k)) (dr w0 hw _ (ok49 w0 hw k)) (good_cuts (media_Text.a28 w0 k) trivial) io83.ok (xn := media_Text.x28) (L := media_Text.L28 k) (media_Text.s28 w0 k)
theorem media_Text.so7 (w0 : World) (hw : Wd w0) (k : Nat) : Sound (cfg w0 (tab49 k)) Tryz.f9.ntmps 0 (media_Text.kr w0 k) (.loop media_Text.b7) (entK (cfg w0 (tab49 k)) 0 [3, 10, 11, 12] [.own 3 9] io84.pat (media_Text.L7 k k)) :=
  loop_ok (fine w0 hw _ (ok49 w0 hw k)) (dr w0 hw _ (ok49 w0 hw k)) (good_cuts (media_Text.a7 w0 k) ⟨fun f hf => by cases hf; exact media_Text.so15 w0 hw k, fun f hf => by cases hf; exact media_Text.so28 w0 hw k, trivial⟩) io84.ok (xn := media_Text.x7) (L := media_Text.L7 k) (fun v K => rfl) (media_Text.s7 w0 k) k
theorem media_Text.sim (w0 : World) (hw : Wd w0) (k : Nat) : ∀ v x, (fun v => media_Text k v) v = some x → (x.1 = false → Sim (cfg w0 (tab49 k)) 9 (io80.enc v).1 (io80.enc v).2 (io1.enc x.2.2).1 (io1.enc x.2.2).2) ∧ (x.1 = true → SimP (cfg w0 (tab49 k)) 9 (io80.enc v).1 (io80.enc v).2 (pe9 x.2.1)) :=
  simP_of (c := (cfg w0 (tab49 k))) (fine w0 hw _ (ok49 w0 hw k)) (dr w0 hw _ (ok49 w0 hw k)) (i := io80) (o := io1) (hpe := pp9_ok) (hpv := pe9_pv) (dp := []) (dr := []) (ps := []) (cuts := fun _ => media_Text.cuts w0 k) (m := 0) (g := fun v => media_Text k v) Tryz.func9 (by kernel_rfl) media_Text.hb (fun _ => rfl) (fun _ => Nat.le_of_ble_eq_true rfl) (good_cuts (media_Text.a w0 k) ⟨fun f hf => by cases hf; exact media_Text.so7 w0 hw k, trivial⟩) (media_Text.e w0 k)
theorem ok50 (w0 : World) (hw : Wd w0) (k : Nat) : CfOk (cfg w0 (tab50 k)) := addTabP_ok (ok49 w0 hw k) (media_Text.sim w0 hw k)
theorem clerestorykeep2_sameQueries.a19 (w0 : World) (k : Nat) : cutsAt (fun n => (clerestorykeep2_sameQueries.cuts w0 k n).isSome) clerestorykeep2_sameQueries.b19 = [] := by kernel_rfl
theorem clerestorykeep2_sameQueries.a9 (w0 : World) (k : Nat) : cutsAt (fun n => (clerestorykeep2_sameQueries.cuts w0 k n).isSome) clerestorykeep2_sameQueries.b9 = [(19, Code.loop clerestorykeep2_sameQueries.b19)] := by kernel_rfl
theorem clerestorykeep2_sameQueries.a (w0 : World) (k : Nat) : cutsAt (fun n => (clerestorykeep2_sameQueries.cuts w0 k n).isSome) clerestorykeep2_sameQueries.body = [(9, Code.loop clerestorykeep2_sameQueries.b9)] := by kernel_rfl
theorem clerestorykeep2_sameQueries.so19 (w0 : World) (hw : Wd w0) (k : Nat) : Sound (cfg w0 (tab50 k)) Tryz.f10.ntmps 0 (clerestorykeep2_sameQueries.kr w0 k) (.loop clerestorykeep2_sameQueries.b19) (entK (cfg w0 (tab50 k)) 0 [0, 1, 5, 6] [] io87.pat (clerestorykeep2_sameQueries.L19 k k)) :=
  loop_ok (fine w0 hw _ (ok50 w0 hw k)) (dr w0 hw _ (ok50 w0 hw k)) (good_cuts (clerestorykeep2_sameQueries.a19 w0 k) trivial) io87.ok (xn := clerestorykeep2_sameQueries.x19) (L := clerestorykeep2_sameQueries.L19 k) (fun v K => rfl) (clerestorykeep2_sameQueries.s19 w0 k) k
theorem clerestorykeep2_sameQueries.so9 (w0 : World) (hw : Wd w0) (k : Nat) : Sound (cfg w0 (tab50 k)) Tryz.f10.ntmps 0 (clerestorykeep2_sameQueries.kr w0 k) (.loop clerestorykeep2_sameQueries.b9) (entK (cfg w0 (tab50 k)) 0 [0, 1, 5] [] io88.pat (clerestorykeep2_sameQueries.L9 k k)) :=
  loop_ok (fine w0 hw _ (ok50 w0 hw k)) (dr w0 hw _ (ok50 w0 hw k)) (good_cuts (clerestorykeep2_sameQueries.a9 w0 k) ⟨fun f hf => by cases hf; exact clerestorykeep2_sameQueries.so19 w0 hw k, trivial⟩) io88.ok (xn := clerestorykeep2_sameQueries.x9) (L := clerestorykeep2_sameQueries.L9 k) (fun v K => rfl) (clerestorykeep2_sameQueries.s9 w0 k) k
theorem clerestorykeep2_sameQueries.sim (w0 : World) (hw : Wd w0) (k : Nat) : ∀ v x, (fun v => clerestorykeep2_sameQueries k v.1 v.2) v = some x → Sim (cfg w0 (tab50 k)) 10 (io86.enc v).1 (io86.enc v).2 (io2.enc x).1 (io2.enc x).2 :=
  sim_of (c := (cfg w0 (tab50 k))) (fine w0 hw _ (ok50 w0 hw k)) (dr w0 hw _ (ok50 w0 hw k)) (i := io86) (o := io2) (ps := []) (cuts := fun _ => clerestorykeep2_sameQueries.cuts w0 k) (m := 0) (g := fun v => clerestorykeep2_sameQueries k v.1 v.2) Tryz.func10 (by kernel_rfl) clerestorykeep2_sameQueries.hb (fun _ => rfl) (fun _ => Nat.le_of_ble_eq_true rfl) (good_cuts (clerestorykeep2_sameQueries.a w0 k) ⟨fun f hf => by cases hf; exact clerestorykeep2_sameQueries.so9 w0 hw k, trivial⟩) (clerestorykeep2_sameQueries.e w0 k)
theorem ok51 (w0 : World) (hw : Wd w0) (k : Nat) : CfOk (cfg w0 (tab51 k)) := addTab_ok (ok50 w0 hw k) (clerestorykeep2_sameQueries.sim w0 hw k)
theorem clerestorykeep2_MediaBack.a (w0 : World) (k : Nat) : cutsAt (fun n => (clerestorykeep2_MediaBack.cuts w0 k n).isSome) clerestorykeep2_MediaBack.body = [] := by kernel_rfl
theorem clerestorykeep2_MediaBack.sim (w0 : World) (hw : Wd w0) (k : Nat) : ∀ v x, (fun v => clerestorykeep2_MediaBack k v) v = some x → (x.1 = false → Sim (cfg w0 (tab51 k)) 3 (io1.enc v).1 (io1.enc v).2 (io2.enc x.2.2).1 (io2.enc x.2.2).2) ∧ (x.1 = true → SimP (cfg w0 (tab51 k)) 3 (io1.enc v).1 (io1.enc v).2 (pe9 x.2.1)) :=
  simP_of (c := (cfg w0 (tab51 k))) (fine w0 hw _ (ok51 w0 hw k)) (dr w0 hw _ (ok51 w0 hw k)) (i := io1) (o := io2) (hpe := pp9_ok) (hpv := pe9_pv) (dp := []) (dr := false) (ps := []) (cuts := fun _ => clerestorykeep2_MediaBack.cuts w0 k) (m := 0) (g := fun v => clerestorykeep2_MediaBack k v) Tryz.func3 (by kernel_rfl) clerestorykeep2_MediaBack.hb (fun _ => rfl) (fun _ => Nat.le_of_ble_eq_true rfl) (good_cuts (clerestorykeep2_MediaBack.a w0 k) trivial) (clerestorykeep2_MediaBack.e w0 k)
theorem ok52 (w0 : World) (hw : Wd w0) (k : Nat) : CfOk (cfg w0 (tab52 k)) := addTabP_ok (ok51 w0 hw k) (clerestorykeep2_MediaBack.sim w0 hw k)
theorem clerestorykeep2_MediaNot.a17 (w0 : World) (k : Nat) : cutsAt (fun n => (clerestorykeep2_MediaNot.cuts w0 k n).isSome) clerestorykeep2_MediaNot.b17 = [] := by kernel_rfl
theorem clerestorykeep2_MediaNot.a (w0 : World) (k : Nat) : cutsAt (fun n => (clerestorykeep2_MediaNot.cuts w0 k n).isSome) clerestorykeep2_MediaNot.body = [(17, Code.loop clerestorykeep2_MediaNot.b17)] := by kernel_rfl
theorem clerestorykeep2_MediaNot.so17 (w0 : World) (hw : Wd w0) (k : Nat) : Sound (cfg w0 (tab52 k)) Tryz.f4.ntmps 0 (clerestorykeep2_MediaNot.kr w0 k) (.loop clerestorykeep2_MediaNot.b17) (entK (cfg w0 (tab52 k)) 0 [3, 5, 6, 8, 10, 11] [] io89.pat (clerestorykeep2_MediaNot.L17 k k)) :=
  loop_ok (fine w0 hw _ (ok52 w0 hw k)) (dr w0 hw _ (ok52 w0 hw k)) (good_cuts (clerestorykeep2_MediaNot.a17 w0 k) trivial) io89.ok (xn := clerestorykeep2_MediaNot.x17) (L := clerestorykeep2_MediaNot.L17 k) (fun v K => rfl) (clerestorykeep2_MediaNot.s17 w0 k) k
theorem clerestorykeep2_MediaNot.sim (w0 : World) (hw : Wd w0) (k : Nat) : ∀ v x, (fun v => clerestorykeep2_MediaNot k v.1 v.2.1 v.2.2.1 v.2.2.2.1 v.2.2.2.2) v = some x → Sim (cfg w0 (tab52 k)) 4 (io62.enc v).1 (io62.enc v).2 (io2.enc x).1 (io2.enc x).2 :=
  sim_of (c := (cfg w0 (tab52 k))) (fine w0 hw _ (ok52 w0 hw k)) (dr w0 hw _ (ok52 w0 hw k)) (i := io62) (o := io2) (ps := []) (cuts := fun _ => clerestorykeep2_MediaNot.cuts w0 k) (m := 0) (g := fun v => clerestorykeep2_MediaNot k v.1 v.2.1 v.2.2.1 v.2.2.2.1 v.2.2.2.2) Tryz.func4 (by kernel_rfl) clerestorykeep2_MediaNot.hb (fun _ => rfl) (fun _ => Nat.le_of_ble_eq_true rfl) (good_cuts (clerestorykeep2_MediaNot.a w0 k) ⟨fun f hf => by cases hf; exact clerestorykeep2_MediaNot.so17 w0 hw k, trivial⟩) (clerestorykeep2_MediaNot.e w0 k)
theorem ok53 (w0 : World) (hw : Wd w0) (k : Nat) : CfOk (cfg w0 (tab53 k)) := addTab_ok (ok52 w0 hw k) (clerestorykeep2_MediaNot.sim w0 hw k)
theorem clerestorykeep2_MediaWider.a (w0 : World) (k : Nat) : cutsAt (fun n => (clerestorykeep2_MediaWider.cuts w0 k n).isSome) clerestorykeep2_MediaWider.body = [] := by kernel_rfl
theorem clerestorykeep2_MediaWider.sim (w0 : World) (hw : Wd w0) (k : Nat) : ∀ v x, (fun v => clerestorykeep2_MediaWider k v.1 v.2.1 v.2.2.1 v.2.2.2.1 v.2.2.2.2.1 v.2.2.2.2.2.1 v.2.2.2.2.2.2) v = some x → (x.1 = false → Sim (cfg w0 (tab53 k)) 5 (io91.enc v).1 (io91.enc v).2 (io2.enc x.2.2).1 (io2.enc x.2.2).2) ∧ (x.1 = true → SimP (cfg w0 (tab53 k)) 5 (io91.enc v).1 (io91.enc v).2 (pe9 x.2.1)) :=
  simP_of (c := (cfg w0 (tab53 k))) (fine w0 hw _ (ok53 w0 hw k)) (dr w0 hw _ (ok53 w0 hw k)) (i := io91) (o := io2) (hpe := pp9_ok) (hpv := pe9_pv) (dp := []) (dr := false) (ps := []) (cuts := fun _ => clerestorykeep2_MediaWider.cuts w0 k) (m := 0) (g := fun v => clerestorykeep2_MediaWider k v.1 v.2.1 v.2.2.1 v.2.2.2.1 v.2.2.2.2.1 v.2.2.2.2.2.1 v.2.2.2.2.2.2) Tryz.func5 (by kernel_rfl) clerestorykeep2_MediaWider.hb (fun _ => rfl) (fun _ => Nat.le_of_ble_eq_true rfl) (good_cuts (clerestorykeep2_MediaWider.a w0 k) trivial) (clerestorykeep2_MediaWider.e w0 k)
theorem ok54 (w0 : World) (hw : Wd w0) (k : Nat) : CfOk (cfg w0 (tab54 k)) := addTabP_ok (ok53 w0 hw k) (clerestorykeep2_MediaWider.sim w0 hw k)
theorem clerestorykeep2_MediaList.a (w0 : World) (k : Nat) : cutsAt (fun n => (clerestorykeep2_MediaList.cuts w0 k n).isSome) clerestorykeep2_MediaList.body = [] := by kernel_rfl
theorem clerestorykeep2_MediaList.sim (w0 : World) (hw : Wd w0) (k : Nat) : ∀ v x, (fun v => clerestorykeep2_MediaList k v.1 v.2.1 v.2.2.1 v.2.2.2.1 v.2.2.2.2.1 v.2.2.2.2.2) v = some x → Sim (cfg w0 (tab54 k)) 6 (io92.enc v).1 (io92.enc v).2 (io2.enc x).1 (io2.enc x).2 :=
  sim_of (c := (cfg w0 (tab54 k))) (fine w0 hw _ (ok54 w0 hw k)) (dr w0 hw _ (ok54 w0 hw k)) (i := io92) (o := io2) (ps := []) (cuts := fun _ => clerestorykeep2_MediaList.cuts w0 k) (m := 0) (g := fun v => clerestorykeep2_MediaList k v.1 v.2.1 v.2.2.1 v.2.2.2.1 v.2.2.2.2.1 v.2.2.2.2.2) Tryz.func6 (by kernel_rfl) clerestorykeep2_MediaList.hb (fun _ => rfl) (fun _ => Nat.le_of_ble_eq_true rfl) (good_cuts (clerestorykeep2_MediaList.a w0 k) trivial) (clerestorykeep2_MediaList.e w0 k)
theorem ok55 (w0 : World) (hw : Wd w0) (k : Nat) : CfOk (cfg w0 (tab55 k)) := addTab_ok (ok54 w0 hw k) (clerestorykeep2_MediaList.sim w0 hw k)
end
end Go.Ev.Md
