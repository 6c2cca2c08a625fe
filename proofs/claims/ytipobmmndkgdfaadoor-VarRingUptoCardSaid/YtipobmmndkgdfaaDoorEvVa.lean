/- A part of the evaluator of Go code over small heaps and of its proof: no condition beyond those that each theorem names. -/
import Derived.Test.YtipobmmndkgdfaaDoorEvDfr
import Derived.Test.YtipobmmndkgdfaaDoorEvShV
import Derived.Test.YtipobmmndkgdfaaDoorEvBwAV
import Derived.Test.YtipobmmndkgdfaaDoorProg
import Derived.KernelRfl
set_option linter.unusedVariables false
set_option maxRecDepth 100000
namespace Go.Ev.Va
noncomputable section
open Go.Proofs Go.Ev

structure S27 where
  Name : List UInt8
  Value : List UInt8
def S27.d : S27 := ⟨[], []⟩
structure S51 where
  Kind : Int
  Raw : List UInt8
  Value : List UInt8
  Num : Int
def S51.d : S51 := ⟨0, [], [], 0⟩
structure S62 where

def S62.d : S62 := ⟨⟩
def base : TypeId → (α : Type) × α
  | 5 => ⟨Int, (0 : Int)⟩
  | 9 => ⟨List UInt8, []⟩
  | 27 => ⟨S27, S27.d⟩
  | 22 => ⟨List S27, []⟩
  | 51 => ⟨S51, S51.d⟩
  | 62 => ⟨S62, S62.d⟩
  | _ => ⟨Unit, ()⟩
def T (t : TypeId) : Type := (base t).1
def dflt (t : TypeId) : T t := (base t).2
def dl (t : TypeId) : D T → Option (List (T t))
  | .l t' xs => asT t t' xs
  | .ns => some []
  | _ => none
theorem dl_le {t : TypeId} {d : D T} {l : List (T t)} (h : dl t d = some l) : leD d (.l t l) := by
  unfold dl at h
  split at h
  · rw [asT_l h]; exact .refl _
  · cases h; exact .ns _
  · cases h
def enc5 (x : Int) : List (D T) := [.i .u8 x]
def dec5 (ds : List (D T)) : Option (Int) := match ds with
  | [.i .u8 x0] => some x0
  | _ => none
theorem dec5_ok {ds : List (D T)} {x : Int} (h : dec5 ds = some x) : leDs ds (enc5 x) := by
  unfold dec5 at h
  split at h
  · cases h
    exact .cons (.refl _) <| .nil
  · cases h
def enc9 (x : List UInt8) : List (D T) := [.s x]
def dec9 (ds : List (D T)) : Option (List UInt8) := match ds with
  | [.s x0] => some x0
  | _ => none
theorem dec9_ok {ds : List (D T)} {x : List UInt8} (h : dec9 ds = some x) : leDs ds (enc9 x) := by
  unfold dec9 at h
  split at h
  · cases h
    exact .cons (.refl _) <| .nil
  · cases h
def enc27 (x : S27) : List (D T) := [.s x.Name, .s x.Value]
def dec27 (ds : List (D T)) : Option (S27) := match ds with
  | [.s x0, .s x1] => some ⟨x0, x1⟩
  | _ => none
theorem dec27_ok {ds : List (D T)} {x : S27} (h : dec27 ds = some x) : leDs ds (enc27 x) := by
  unfold dec27 at h
  split at h
  · cases h
    exact .cons (.refl _) <| .cons (.refl _) <| .nil
  · cases h
def enc22 (x : List S27) : List (D T) := [.l 27 x]
def dec22 (ds : List (D T)) : Option (List S27) := match ds with
  | [d0] => (dl 27 d0).bind fun l0 => some l0
  | _ => none
theorem dec22_ok {ds : List (D T)} {x : List S27} (h : dec22 ds = some x) : leDs ds (enc22 x) := by
  unfold dec22 at h
  split at h
  · obtain ⟨l0, h0, h⟩ := Option.bind_eq_some_iff.1 h
    cases h
    exact .cons (dl_le h0) <| .nil
  · cases h
def enc51 (x : S51) : List (D T) := [.i .i64 x.Kind, .s x.Raw, .s x.Value, .i .i64 x.Num]
def dec51 (ds : List (D T)) : Option (S51) := match ds with
  | [.i .i64 x0, .s x1, .s x2, .i .i64 x3] => some ⟨x0, x1, x2, x3⟩
  | _ => none
theorem dec51_ok {ds : List (D T)} {x : S51} (h : dec51 ds = some x) : leDs ds (enc51 x) := by
  unfold dec51 at h
  split at h
  · cases h
    exact .cons (.refl _) <| .cons (.refl _) <| .cons (.refl _) <| .cons (.refl _) <| .nil
  · cases h
def enc62 (x : S62) : List (D T) := []
def dec62 (ds : List (D T)) : Option (S62) := match ds with
  | [] => some ⟨⟩
  | _ => none
theorem dec62_ok {ds : List (D T)} {x : S62} (h : dec62 ds = some x) : leDs ds (enc62 x) := by
  unfold dec62 at h
  split at h
  · cases h
    exact .nil
  · cases h
def enc : (t : TypeId) → T t → List (D T)
  | 5, x => enc5 x
  | 9, x => enc9 x
  | 27, x => enc27 x
  | 22, x => enc22 x
  | 51, x => enc51 x
  | 62, x => enc62 x
  | _, _ => []
def dec (t : TypeId) (ds : List (D T)) : Option (T t) := if h : t = 5 then (h ▸ (dec5 ds : Option (T 5))) else if h : t = 9 then (h ▸ (dec9 ds : Option (T 9))) else if h : t = 27 then (h ▸ (dec27 ds : Option (T 27))) else if h : t = 22 then (h ▸ (dec22 ds : Option (T 22))) else if h : t = 51 then (h ▸ (dec51 ds : Option (T 51))) else if h : t = 62 then (h ▸ (dec62 ds : Option (T 62))) else none
theorem dec_ok (t : TypeId) (ds : List (D T)) (x : T t) (h : dec t ds = some x) : leDs ds (enc t x) := by
  unfold dec at h
  by_cases h5 : t = 5
  · subst h5; exact dec5_ok (show dec5 ds = some x from h)
  rw [dif_neg h5] at h
  by_cases h9 : t = 9
  · subst h9; exact dec9_ok (show dec9 ds = some x from h)
  rw [dif_neg h9] at h
  by_cases h27 : t = 27
  · subst h27; exact dec27_ok (show dec27 ds = some x from h)
  rw [dif_neg h27] at h
  by_cases h22 : t = 22
  · subst h22; exact dec22_ok (show dec22 ds = some x from h)
  rw [dif_neg h22] at h
  by_cases h51 : t = 51
  · subst h51; exact dec51_ok (show dec51 ds = some x from h)
  rw [dif_neg h51] at h
  by_cases h62 : t = 62
  · subst h62; exact dec62_ok (show dec62 ds = some x from h)
  rw [dif_neg h62] at h
  cases h
def knl : List TypeId := [5, 9, 27, 22, 51, 62]

def ofB : (t : TypeId) → List UInt8 → List (T t)
  | 5, l => bytesI l
  | _, _ => []
def toB : (t : TypeId) → List (T t) → List UInt8
  | 5, l => bytesU l
  | _, _ => []
def cod : Cod T := ⟨fun t => knl.any (·.beq t), enc, dec, dflt, ofB, toB⟩
def gv : Nat → Option (List (D T))
  | _ => none
def eql : List TypeId := [27]
def hdl : List FuncId := [12]
def fbl : List TypeId := []
def cfg (w0 : World) (t : Tab T) : Cfg T := ⟨Tryd.prog, cod, t, fun t => eql.any (·.beq t), w0, gv, 48, 5, fun f => hdl.any (·.beq f), fun t => fbl.any (·.beq t)⟩
/-- What is asked of the first world. -/
structure Wd (w0 : World) : Prop where
  gv : GvOk (cfg w0 noTab)
  mx : NumAt w0 (Sh.ren143.g 1)
  af : Lib.TabIs Tryd.prog w0 "unicode.asciiFold" .u16 afTab

theorem mem_of {l : List TypeId} {t : TypeId} (h : l.any (·.beq t) = true) : t ∈ l := by
  rw [List.any_eq_true] at h
  obtain ⟨x, hx, hb⟩ := h
  rw [← Nat.eq_of_beq_eq_true hb]; exact hx
theorem len5 : 1 = Tryd.prog.cellsOf 5 := by kernel_rfl
theorem len9 : 1 = Tryd.prog.cellsOf 9 := by kernel_rfl
theorem u8_9 : isU8 Tryd.prog 9 = false := by kernel_rfl
theorem len27 : 2 = Tryd.prog.cellsOf 27 := by kernel_rfl
theorem u8_27 : isU8 Tryd.prog 27 = false := by kernel_rfl
theorem len22 : 1 = Tryd.prog.cellsOf 22 := by kernel_rfl
theorem u8_22 : isU8 Tryd.prog 22 = false := by kernel_rfl
theorem fl22 : flatT Tryd.prog 20 22 = false := by kernel_rfl
theorem len51 : 4 = Tryd.prog.cellsOf 51 := by kernel_rfl
theorem u8_51 : isU8 Tryd.prog 51 = false := by kernel_rfl
theorem len62 : 0 = Tryd.prog.cellsOf 62 := by kernel_rfl
theorem u8_62 : isU8 Tryd.prog 62 = false := by kernel_rfl
theorem eqk27 : Tryd.prog.stoodInHeld 27 = false ∧ Tryd.prog.eqGuardType Tryd.prog.depth 27 = false := ⟨by kernel_rfl, by kernel_rfl⟩
theorem zr5 : zeroShape Tryd.prog 5 = true ∧ ∃ ds, zeroCells (T := T) Tryd.prog 5 = some (ofDs ds) ∧ leDs ds (enc5 (0 : Int)) := ⟨by kernel_rfl, [.i .u8 (0 : Int)], by kernel_rfl, .cons (.refl _) <| .nil⟩
theorem zr9 : zeroShape Tryd.prog 9 = true ∧ ∃ ds, zeroCells (T := T) Tryd.prog 9 = some (ofDs ds) ∧ leDs ds (enc9 []) := ⟨by kernel_rfl, [.s ([])], by kernel_rfl, .cons (.refl _) <| .nil⟩
theorem zr27 : zeroShape Tryd.prog 27 = true ∧ ∃ ds, zeroCells (T := T) Tryd.prog 27 = some (ofDs ds) ∧ leDs ds (enc27 S27.d) := ⟨by kernel_rfl, [.s ([]), .s ([])], by kernel_rfl, .cons (.refl _) <| .cons (.refl _) <| .nil⟩
theorem zr22 : zeroShape Tryd.prog 22 = true ∧ ∃ ds, zeroCells (T := T) Tryd.prog 22 = some (ofDs ds) ∧ leDs ds (enc22 []) := ⟨by kernel_rfl, [.ns], by kernel_rfl, .cons (.ns _) <| .nil⟩
theorem zr51 : zeroShape Tryd.prog 51 = true ∧ ∃ ds, zeroCells (T := T) Tryd.prog 51 = some (ofDs ds) ∧ leDs ds (enc51 S51.d) := ⟨by kernel_rfl, [.i .i64 (0 : Int), .s ([]), .s ([]), .i .i64 (0 : Int)], by kernel_rfl, .cons (.refl _) <| .cons (.refl _) <| .cons (.refl _) <| .cons (.refl _) <| .nil⟩
theorem zr62 : zeroShape Tryd.prog 62 = true ∧ ∃ ds, zeroCells (T := T) Tryd.prog 62 = some (ofDs ds) ∧ leDs ds (enc62 S62.d) := ⟨by kernel_rfl, [], by kernel_rfl, .nil⟩
theorem fl : Tryd.prog.follows .mixedOrders = true := by kernel_rfl
theorem bytesOk (w0 : World) (t : Tab T) : BytesOk (cfg w0 t) := fun e h1 h2 => by
  have hm := mem_of (l := knl) h2
  simp only [knl, List.mem_cons, List.not_mem_nil, or_false] at hm
  rcases hm with rfl | rfl | rfl | rfl | rfl | rfl
  · exact ⟨fun l => by induction l with
      | nil => rfl
      | cons b l ih => exact congrArg (List.cons _) ih, fun xs => ⟨xs, rfl, rfl⟩⟩
  · exact absurd h1 (by rw [show isU8 (cfg w0 _).P 9 = false from u8_9]; exact Bool.false_ne_true)
  · exact absurd h1 (by rw [show isU8 (cfg w0 _).P 27 = false from u8_27]; exact Bool.false_ne_true)
  · exact absurd h1 (by rw [show isU8 (cfg w0 _).P 22 = false from u8_22]; exact Bool.false_ne_true)
  · exact absurd h1 (by rw [show isU8 (cfg w0 _).P 51 = false from u8_51]; exact Bool.false_ne_true)
  · exact absurd h1 (by rw [show isU8 (cfg w0 _).P 62 = false from u8_62]; exact Bool.false_ne_true)
theorem fine (w0 : World) (hw : Wd w0) (t : Tab T) (h : CfOk (cfg w0 t)) : Fine (cfg w0 t) where
  gv := hw.gv
  bytes := bytesOk w0 t
  cod := by
    refine ⟨fun t ht x => ?_, fun t ds x h => ?_⟩
    · have hm := mem_of (l := knl) ht
      simp only [knl, List.mem_cons, List.not_mem_nil, or_false] at hm
      rcases hm with rfl | rfl | rfl | rfl | rfl | rfl
      · exact len5
      · exact len9
      · exact len27
      · exact len22
      · exact len51
      · exact len62
    · exact dec_ok t ds x h
  zero := fun t ht => by
    have hm := mem_of (l := knl) ht
    simp only [knl, List.mem_cons, List.not_mem_nil, or_false] at hm
    rcases hm with rfl | rfl | rfl | rfl | rfl | rfl
    · exact zr5
    · exact zr9
    · exact zr27
    · exact zr22
    · exact zr51
    · exact zr62
  eqk := fun t h => by
    have hm := mem_of (l := eql) h
    simp only [eql, List.mem_cons, List.not_mem_nil, or_false] at hm
    rcases hm with rfl
    · exact eqk27
  flat := fun t hf hk x d hd => by
    have hm := mem_of (l := knl) hk
    simp only [knl, List.mem_cons, List.not_mem_nil, or_false] at hm
    rcases hm with rfl | rfl | rfl | rfl | rfl | rfl
    · have hd : d ∈ enc5 x := hd
      simp only [enc5, List.mem_cons, List.not_mem_nil, or_false] at hd
      rcases hd with rfl <;> rfl
    · have hd : d ∈ enc9 x := hd
      simp only [enc9, List.mem_cons, List.not_mem_nil, or_false] at hd
      rcases hd with rfl <;> rfl
    · have hd : d ∈ enc27 x := hd
      simp only [enc27, List.mem_cons, List.not_mem_nil, or_false] at hd
      rcases hd with rfl | rfl <;> rfl
    · exact absurd hf (by rw [show flatT (cfg w0 _).P 20 22 = false from fl22]; exact Bool.false_ne_true)
    · have hd : d ∈ enc51 x := hd
      simp only [enc51, List.mem_cons, List.not_mem_nil, or_false] at hd
      rcases hd with rfl | rfl | rfl | rfl <;> rfl
    · have hd : d ∈ enc62 x := hd
      cases hd
  cf := h
theorem dr (w0 : World) (hw : Wd w0) (t : Tab T) (h : CfOk (cfg w0 t)) : DrawOk (cfg w0 t) := drawOk_ok (fine w0 hw t h) fl
def io0 : Io T ((List UInt8) × (List UInt8)) where
  enc v := ([.d (.s v.1), .d (.s v.2)], [])
  pat
    | ([.d (.s p1), .d (.s p2)], []) => some (p1, p2)
    | _ => none
  ok z v h := by
    split at h
    · cases h
      all_goals rfl
    · cases h
def io1 : Io T (List UInt8) where
  enc v := ([.d (.s v)], [])
  pat
    | ([.d (.s p1)], []) => some p1
    | _ => none
  ok z v h := by
    split at h
    · cases h
      all_goals rfl
    · cases h
def io2 : Io T (Bool) where
  enc v := ([.d (.b v)], [])
  pat
    | ([.d (.b p1)], []) => some p1
    | _ => none
  ok z v h := by
    split at h
    · cases h
      all_goals rfl
    · cases h
def io3 : Io T ((List UInt8) × Bool) where
  enc v := ([.d (.s v.1), .d (.b v.2)], [])
  pat
    | ([.d (.s p1), .d (.b p2)], []) => some (p1, p2)
    | _ => none
  ok z v h := by
    split at h
    · cases h
      all_goals rfl
    · cases h
def io4 : Io T (Int) where
  enc v := ([.d (.i .i64 v)], [])
  pat
    | ([.d (.i .i64 p1)], []) => some p1
    | _ => none
  ok z v h := by
    split at h
    · cases h
      all_goals rfl
    · cases h
def io5 : Io T (List UInt8) where
  enc v := ([.bp 0], [.bl v])
  pat
    | ([.bp 0], [.bl p1]) => some p1
    | _ => none
  ok z v h := by
    split at h
    · cases h
      all_goals rfl
    · cases h
def io6 : Io T ((List UInt8) × (List UInt8)) where
  enc v := ([.d (.s v.1)], [.bl v.2])
  pat
    | ([.d (.s p1)], [.bl p2]) => some (p1, p2)
    | _ => none
  ok z v h := by
    split at h
    · cases h
      all_goals rfl
    · cases h
def io7 : Io T (Int × (List UInt8)) where
  enc v := ([.bp 0, .d (.i .u8 v.1)], [.bl v.2])
  pat
    | ([.bp 0, .d (.i .u8 p1)], [.bl p2]) => some (p1, p2)
    | _ => none
  ok z v h := by
    split at h
    · cases h
      all_goals rfl
    · cases h
def io8 : Io T (List UInt8) where
  enc v := ([.d .ni], [.bl v])
  pat
    | ([.d .ni], [.bl p1]) => some p1
    | _ => none
  ok z v h := by
    split at h
    · cases h
      all_goals rfl
    · cases h
def io9 : Io T (Int × (List UInt8) × (List UInt8) × Int) where
  enc v := ([.agg [.d (.i .i64 v.1), .d (.s v.2.1), .d (.s v.2.2.1), .d (.i .i64 v.2.2.2)]], [])
  pat
    | ([.agg [.d (.i .i64 p1), .d (.s p2), .d (.s p3), .d (.i .i64 p4)]], []) => some (p1, p2, p3, p4)
    | _ => none
  ok z v h := by
    split at h
    · cases h
      all_goals rfl
    · cases h
def io10 : Io T ((List UInt8) × Int × Int × (List UInt8) × (List UInt8) × Int × (List UInt8)) where
  enc v := ([.d (.s v.1), .ptr 0 0, .bp 1, .d (.i .i64 v.2.1)], [.box [.d (.i .i64 v.2.2.1), .d (.s v.2.2.2.1), .d (.s v.2.2.2.2.1), .d (.i .i64 v.2.2.2.2.2.1)], .bl v.2.2.2.2.2.2])
  pat
    | ([.d (.s p1), .ptr 0 0, .bp 1, .d (.i .i64 p2)], [.box [.d (.i .i64 p3), .d (.s p4), .d (.s p5), .d (.i .i64 p6)], .bl p7]) => some (p1, p2, p3, p4, p5, p6, p7)
    | _ => none
  ok z v h := by
    split at h
    · cases h
      all_goals rfl
    · cases h
def io11 : Io T ((List UInt8) × Int × (List UInt8) × (List UInt8) × Int) where
  enc v := ([.d (.s v.1), .ptr 0 0], [.box [.d (.i .i64 v.2.1), .d (.s v.2.2.1), .d (.s v.2.2.2.1), .d (.i .i64 v.2.2.2.2)]])
  pat
    | ([.d (.s p1), .ptr 0 0], [.box [.d (.i .i64 p2), .d (.s p3), .d (.s p4), .d (.i .i64 p5)]]) => some (p1, p2, p3, p4, p5)
    | _ => none
  ok z v h := by
    split at h
    · cases h
      all_goals rfl
    · cases h
def io12 : Io T (Int) where
  enc v := ([.d (.i .u8 v)], [])
  pat
    | ([.d (.i .u8 p1)], []) => some p1
    | _ => none
  ok z v h := by
    split at h
    · cases h
      all_goals rfl
    · cases h
def io13 : Io T ((List UInt8) × Int) where
  enc v := ([.d (.s v.1), .d (.i .i64 v.2)], [])
  pat
    | ([.d (.s p1), .d (.i .i64 p2)], []) => some (p1, p2)
    | _ => none
  ok z v h := by
    split at h
    · cases h
      all_goals rfl
    · cases h
def io14 : Io T ((List UInt8) × Int × (List UInt8)) where
  enc v := ([.d (.s v.1), .bp 0, .d (.i .i64 v.2.1)], [.bl v.2.2])
  pat
    | ([.d (.s p1), .bp 0, .d (.i .i64 p2)], [.bl p3]) => some (p1, p2, p3)
    | _ => none
  ok z v h := by
    split at h
    · cases h
      all_goals rfl
    · cases h
def io15 : Io T (Int × (List UInt8)) where
  enc v := ([.bp 0, .d (.i .i64 v.1)], [.bl v.2])
  pat
    | ([.bp 0, .d (.i .i64 p1)], [.bl p2]) => some (p1, p2)
    | _ => none
  ok z v h := by
    split at h
    · cases h
      all_goals rfl
    · cases h
def io16 : Io T (Int × (List UInt8) × Int) where
  enc v := ([.d (.i .i64 v.1), .d (.s v.2.1), .d (.i .i64 v.2.2)], [])
  pat
    | ([.d (.i .i64 p1), .d (.s p2), .d (.i .i64 p3)], []) => some (p1, p2, p3)
    | _ => none
  ok z v h := by
    split at h
    · cases h
      all_goals rfl
    · cases h
def io17 : Io T (Int × Int) where
  enc v := ([.d (.i .u8 v.1), .ptr 0 0], [.box [.d (.i .i64 v.2)]])
  pat
    | ([.d (.i .u8 p1), .ptr 0 0], [.box [.d (.i .i64 p2)]]) => some (p1, p2)
    | _ => none
  ok z v h := by
    split at h
    · cases h
      all_goals rfl
    · cases h
def io18 : Io T (Int) where
  enc v := ([], [.box [.d (.i .i64 v)]])
  pat
    | ([], [.box [.d (.i .i64 p1)]]) => some p1
    | _ => none
  ok z v h := by
    split at h
    · cases h
      all_goals rfl
    · cases h
def io19 : Io T (Int × Int) where
  enc v := ([.d (.i .i64 v.1), .d (.i .i64 v.2)], [])
  pat
    | ([.d (.i .i64 p1), .d (.i .i64 p2)], []) => some (p1, p2)
    | _ => none
  ok z v h := by
    split at h
    · cases h
      all_goals rfl
    · cases h
def io20 : Io T ((List UInt8) × Int × Int × Int × Int × Int × Int × (List Int)) where
  enc v := ([.d (.s v.1), .d (.i .i64 v.2.1), .d (.i .i64 v.2.2.1), .d (.i .i64 v.2.2.2.1), .ptr 0 0, .fn 70 [.ptr 0 0], .sl 1 none, .d (.i .i64 v.2.2.2.2.1), .d (.i .i64 v.2.2.2.2.2.1)], [.box [.d (.i .i64 v.2.2.2.2.2.2.1)], .arr 5 v.2.2.2.2.2.2.2])
  pat
    | ([.d (.s p1), .d (.i .i64 p2), .d (.i .i64 p3), .d (.i .i64 p4), .ptr 0 0, .fn 70 [.ptr 0 0], .sl 1 none, .d (.i .i64 p5), .d (.i .i64 p6)], [.box [.d (.i .i64 p7)], .arr tp8 p8]) => (asT 5 tp8 p8).bind fun q8 => some (p1, p2, p3, p4, p5, p6, p7, q8)
    | _ => none
  ok z v h := by
    split at h
    · obtain ⟨q8, hp8, h⟩ := Option.bind_eq_some_iff.1 h
      cases h
      rw [asT_a hp8]
      all_goals rfl
    · cases h
def io21 : Io T ((List UInt8) × Int × Int × Int × Int) where
  enc v := ([.d (.s v.1), .d (.i .i64 v.2.1), .d (.i .i64 v.2.2.1), .d (.i .i64 v.2.2.2.1), .ptr 0 0, .fn 70 [.ptr 0 0]], [.box [.d (.i .i64 v.2.2.2.2)]])
  pat
    | ([.d (.s p1), .d (.i .i64 p2), .d (.i .i64 p3), .d (.i .i64 p4), .ptr 0 0, .fn 70 [.ptr 0 0]], [.box [.d (.i .i64 p5)]]) => some (p1, p2, p3, p4, p5)
    | _ => none
  ok z v h := by
    split at h
    · cases h
      all_goals rfl
    · cases h
def io22 : Io T ((List UInt8) × Int × (List UInt8) × Int × Int) where
  enc v := ([.d (.s v.1), .ptr 0 0, .fn 70 [.ptr 0 0], .d (.i .i64 v.2.1), .d (.s v.2.2.1), .d (.i .i64 v.2.2.2.1)], [.box [.d (.i .i64 v.2.2.2.2)]])
  pat
    | ([.d (.s p1), .ptr 0 0, .fn 70 [.ptr 0 0], .d (.i .i64 p2), .d (.s p3), .d (.i .i64 p4)], [.box [.d (.i .i64 p5)]]) => some (p1, p2, p3, p4, p5)
    | _ => none
  ok z v h := by
    split at h
    · cases h
      all_goals rfl
    · cases h
def io23 : Io T ((List UInt8) × Int × Int) where
  enc v := ([.d (.s v.1), .ptr 0 0, .d (.i .i64 v.2.1)], [.box [.d (.i .i64 v.2.2)]])
  pat
    | ([.d (.s p1), .ptr 0 0, .d (.i .i64 p2)], [.box [.d (.i .i64 p3)]]) => some (p1, p2, p3)
    | _ => none
  ok z v h := by
    split at h
    · cases h
      all_goals rfl
    · cases h
def io24 : Io T (Int × Int) where
  enc v := ([.ptr 0 0, .d (.i .i64 v.1)], [.box [.d (.i .i64 v.2)]])
  pat
    | ([.ptr 0 0, .d (.i .i64 p1)], [.box [.d (.i .i64 p2)]]) => some (p1, p2)
    | _ => none
  ok z v h := by
    split at h
    · cases h
      all_goals rfl
    · cases h
def io25 : Io T ((List UInt8) × Int × (List UInt8) × Int) where
  enc v := ([.d (.s v.1), .ptr 0 0, .fn 70 [.ptr 0 0], .d (.i .i64 v.2.1), .d (.s v.2.2.1)], [.box [.d (.i .i64 v.2.2.2)]])
  pat
    | ([.d (.s p1), .ptr 0 0, .fn 70 [.ptr 0 0], .d (.i .i64 p2), .d (.s p3)], [.box [.d (.i .i64 p4)]]) => some (p1, p2, p3, p4)
    | _ => none
  ok z v h := by
    split at h
    · cases h
      all_goals rfl
    · cases h
def io26 : Io T ((List UInt8) × Int × Int × Int) where
  enc v := ([.d (.s v.1), .d (.i .i64 v.2.1), .d (.i .i64 v.2.2.1), .d (.i .i64 v.2.2.2)], [])
  pat
    | ([.d (.s p1), .d (.i .i64 p2), .d (.i .i64 p3), .d (.i .i64 p4)], []) => some (p1, p2, p3, p4)
    | _ => none
  ok z v h := by
    split at h
    · cases h
      all_goals rfl
    · cases h
def io27 : Io T (Int × Int × (List Int)) where
  enc v := ([.sl 0 none, .sl 0 none, .d (.i .i64 v.1), .d (.i .i64 v.2.1)], [.arr 5 v.2.2])
  pat
    | ([.sl 0 none, .sl 0 none, .d (.i .i64 p1), .d (.i .i64 p2)], [.arr tp3 p3]) => (asT 5 tp3 p3).bind fun q3 => some (p1, p2, q3)
    | _ => none
  ok z v h := by
    split at h
    · obtain ⟨q3, hp3, h⟩ := Option.bind_eq_some_iff.1 h
      cases h
      rw [asT_a hp3]
      all_goals rfl
    · cases h
def io28 : Io T (List Int) where
  enc v := ([.sl 0 none], [.arr 5 v])
  pat
    | ([.sl 0 none], [.arr tp1 p1]) => (asT 5 tp1 p1).bind fun q1 => some q1
    | _ => none
  ok z v h := by
    split at h
    · obtain ⟨q1, hp1, h⟩ := Option.bind_eq_some_iff.1 h
      cases h
      rw [asT_a hp1]
      all_goals rfl
    · cases h
def io29 : Io T ((List UInt8) × Int × Int) where
  enc v := ([.d (.s v.1), .d (.i .i64 v.2.1), .d (.i .i64 v.2.2)], [])
  pat
    | ([.d (.s p1), .d (.i .i64 p2), .d (.i .i64 p3)], []) => some (p1, p2, p3)
    | _ => none
  ok z v h := by
    split at h
    · cases h
      all_goals rfl
    · cases h
def io30 : Io T (Int × (List UInt8) × (List UInt8) × Int × Int × (List UInt8) × (List UInt8) × Int) where
  enc v := ([.ptr 0 0, .ptr 1 0], [.box [.d (.i .i64 v.1), .d (.s v.2.1), .d (.s v.2.2.1), .d (.i .i64 v.2.2.2.1)], .box [.d (.i .i64 v.2.2.2.2.1), .d (.s v.2.2.2.2.2.1), .d (.s v.2.2.2.2.2.2.1), .d (.i .i64 v.2.2.2.2.2.2.2)]])
  pat
    | ([.ptr 0 0, .ptr 1 0], [.box [.d (.i .i64 p1), .d (.s p2), .d (.s p3), .d (.i .i64 p4)], .box [.d (.i .i64 p5), .d (.s p6), .d (.s p7), .d (.i .i64 p8)]]) => some (p1, p2, p3, p4, p5, p6, p7, p8)
    | _ => none
  ok z v h := by
    split at h
    · cases h
      all_goals rfl
    · cases h
def io31 : Io T (Int × (List UInt8)) where
  enc v := ([.d (.i .i64 v.1), .ptr 0 0], [.box [.d (.s v.2)]])
  pat
    | ([.d (.i .i64 p1), .ptr 0 0], [.box [.d (.s p2)]]) => some (p1, p2)
    | _ => none
  ok z v h := by
    split at h
    · cases h
      all_goals rfl
    · cases h
def io32 : Io T (Int × (List UInt8) × (List UInt8) × Int × (List UInt8)) where
  enc v := ([.agg [.d (.i .i64 v.1), .d (.s v.2.1), .d (.s v.2.2.1), .d (.i .i64 v.2.2.2.1)]], [.box [.d (.s v.2.2.2.2)]])
  pat
    | ([.agg [.d (.i .i64 p1), .d (.s p2), .d (.s p3), .d (.i .i64 p4)]], [.box [.d (.s p5)]]) => some (p1, p2, p3, p4, p5)
    | _ => none
  ok z v h := by
    split at h
    · cases h
      all_goals rfl
    · cases h
def io33 : Io T ((List UInt8) × Int × (List UInt8) × (List UInt8) × Int) where
  enc v := ([.ptr 0 0, .ptr 1 0], [.box [.d (.s v.1)], .box [.d (.i .i64 v.2.1), .d (.s v.2.2.1), .d (.s v.2.2.2.1), .d (.i .i64 v.2.2.2.2)]])
  pat
    | ([.ptr 0 0, .ptr 1 0], [.box [.d (.s p1)], .box [.d (.i .i64 p2), .d (.s p3), .d (.s p4), .d (.i .i64 p5)]]) => some (p1, p2, p3, p4, p5)
    | _ => none
  ok z v h := by
    split at h
    · cases h
      all_goals rfl
    · cases h
def io34 : Io T (Int × (List UInt8) × (List UInt8) × Int × (List UInt8)) where
  enc v := ([.ptr 0 0, .fn 44 [.ptr 1 0]], [.box [.d (.i .i64 v.1), .d (.s v.2.1), .d (.s v.2.2.1), .d (.i .i64 v.2.2.2.1)], .box [.d (.s v.2.2.2.2)]])
  pat
    | ([.ptr 0 0, .fn 44 [.ptr 1 0]], [.box [.d (.i .i64 p1), .d (.s p2), .d (.s p3), .d (.i .i64 p4)], .box [.d (.s p5)]]) => some (p1, p2, p3, p4, p5)
    | _ => none
  ok z v h := by
    split at h
    · cases h
      all_goals rfl
    · cases h
def io35 : Io T (List S51) where
  enc v := ([.d (.l 51 v)], [])
  pat
    | ([.d (.l tp1 p1)], []) => (asT 51 tp1 p1).bind fun q1 => some q1
    | _ => none
  ok z v h := by
    split at h
    · obtain ⟨q1, hp1, h⟩ := Option.bind_eq_some_iff.1 h
      cases h
      rw [asT_l hp1]
      all_goals rfl
    · cases h
def io36 : Io T ((List UInt8) × (List S51)) where
  enc v := ([.d (.s v.1), .sl 0 none], [.arr 51 v.2])
  pat
    | ([.d (.s p1), .sl 0 none], [.arr tp2 p2]) => (asT 51 tp2 p2).bind fun q2 => some (p1, q2)
    | _ => none
  ok z v h := by
    split at h
    · obtain ⟨q2, hp2, h⟩ := Option.bind_eq_some_iff.1 h
      cases h
      rw [asT_a hp2]
      all_goals rfl
    · cases h
def io37 : Io T (List S51) where
  enc v := ([.sl 0 none], [.arr 51 v])
  pat
    | ([.sl 0 none], [.arr tp1 p1]) => (asT 51 tp1 p1).bind fun q1 => some q1
    | _ => none
  ok z v h := by
    split at h
    · obtain ⟨q1, hp1, h⟩ := Option.bind_eq_some_iff.1 h
      cases h
      rw [asT_a hp1]
      all_goals rfl
    · cases h
def io38 : Io T ((List UInt8) × (List UInt8)) where
  enc v := ([.bp 0, .d (.s v.1)], [.bl v.2])
  pat
    | ([.bp 0, .d (.s p1)], [.bl p2]) => some (p1, p2)
    | _ => none
  ok z v h := by
    split at h
    · cases h
      all_goals rfl
    · cases h
def io39 : Io T (Int × (List UInt8)) where
  enc v := ([.d (.i .i64 v.1), .d .ni], [.bl v.2])
  pat
    | ([.d (.i .i64 p1), .d .ni], [.bl p2]) => some (p1, p2)
    | _ => none
  ok z v h := by
    split at h
    · cases h
      all_goals rfl
    · cases h
def io40 : Io T (Int × (List S51) × Int × Int × (List (List UInt8))) where
  enc v := ([.sl 0 none, .d (.i .i64 v.1), .d (.l 51 v.2.1), .d (.i .i64 v.2.2.1), .d (.i .i64 v.2.2.2.1)], [.arr 9 v.2.2.2.2])
  pat
    | ([.sl 0 none, .d (.i .i64 p1), .d (.l tp2 p2), .d (.i .i64 p3), .d (.i .i64 p4)], [.arr tp5 p5]) => (asT 51 tp2 p2).bind fun q2 => (asT 9 tp5 p5).bind fun q5 => some (p1, q2, p3, p4, q5)
    | _ => none
  ok z v h := by
    split at h
    · obtain ⟨q2, hp2, h⟩ := Option.bind_eq_some_iff.1 h
      obtain ⟨q5, hp5, h⟩ := Option.bind_eq_some_iff.1 h
      cases h
      rw [asT_l hp2]
      rw [asT_a hp5]
      all_goals rfl
    · cases h
def io41 : Io T ((List S51) × Int × Int × (List (List UInt8))) where
  enc v := ([.sl 0 none, .d (.l 51 v.1), .d (.i .i64 v.2.1), .d (.i .i64 v.2.2.1)], [.arr 9 v.2.2.2])
  pat
    | ([.sl 0 none, .d (.l tp1 p1), .d (.i .i64 p2), .d (.i .i64 p3)], [.arr tp4 p4]) => (asT 51 tp1 p1).bind fun q1 => (asT 9 tp4 p4).bind fun q4 => some (q1, p2, p3, q4)
    | _ => none
  ok z v h := by
    split at h
    · obtain ⟨q1, hp1, h⟩ := Option.bind_eq_some_iff.1 h
      obtain ⟨q4, hp4, h⟩ := Option.bind_eq_some_iff.1 h
      cases h
      rw [asT_l hp1]
      rw [asT_a hp4]
      all_goals rfl
    · cases h
def io42 : Io T (Unit) where
  enc v := ([], [])
  pat
    | ([], []) => some ()
    | _ => none
  ok z v h := by
    split at h <;> cases h; rfl
def io43 : Io T ((List UInt8) × (List S51) × Bool × Bool) where
  enc v := ([.d (.s v.1), .d (.l 51 v.2.1), .d (.b v.2.2.1), .d (.b v.2.2.2)], [])
  pat
    | ([.d (.s p1), .d (.l tp2 p2), .d (.b p3), .d (.b p4)], []) => (asT 51 tp2 p2).bind fun q2 => some (p1, q2, p3, p4)
    | _ => none
  ok z v h := by
    split at h
    · obtain ⟨q2, hp2, h⟩ := Option.bind_eq_some_iff.1 h
      cases h
      rw [asT_l hp2]
      all_goals rfl
    · cases h
def io44 : Io T ((List S51) × (List UInt8)) where
  enc v := ([.d (.l 51 v.1), .d (.s v.2)], [])
  pat
    | ([.d (.l tp1 p1), .d (.s p2)], []) => (asT 51 tp1 p1).bind fun q1 => some (q1, p2)
    | _ => none
  ok z v h := by
    split at h
    · obtain ⟨q1, hp1, h⟩ := Option.bind_eq_some_iff.1 h
      cases h
      rw [asT_l hp1]
      all_goals rfl
    · cases h
def io45 : Io T ((List S27) × (List UInt8)) where
  enc v := ([.d (.l 27 v.1), .d (.s v.2)], [])
  pat
    | ([.d (.l tp1 p1), .d (.s p2)], []) => (asT 27 tp1 p1).bind fun q1 => some (q1, p2)
    | _ => none
  ok z v h := by
    split at h
    · obtain ⟨q1, hp1, h⟩ := Option.bind_eq_some_iff.1 h
      cases h
      rw [asT_l hp1]
      all_goals rfl
    · cases h
def io46 : Io T (Int × (List UInt8)) where
  enc v := ([.d (.i .i64 v.1)], [.bl v.2])
  pat
    | ([.d (.i .i64 p1)], [.bl p2]) => some (p1, p2)
    | _ => none
  ok z v h := by
    split at h
    · cases h
      all_goals rfl
    · cases h
def io47 : Io T ((List S51) × Int × Int × (List UInt8) × Int × (List UInt8) × (List UInt8) × Int) where
  enc v := ([.bp 0, .ptr 1 0, .d (.l 51 v.1), .d (.i .i64 v.2.1), .d (.i .i64 v.2.2.1)], [.bl v.2.2.2.1, .box [.d (.i .i64 v.2.2.2.2.1), .d (.s v.2.2.2.2.2.1), .d (.s v.2.2.2.2.2.2.1), .d (.i .i64 v.2.2.2.2.2.2.2)]])
  pat
    | ([.bp 0, .ptr 1 0, .d (.l tp1 p1), .d (.i .i64 p2), .d (.i .i64 p3)], [.bl p4, .box [.d (.i .i64 p5), .d (.s p6), .d (.s p7), .d (.i .i64 p8)]]) => (asT 51 tp1 p1).bind fun q1 => some (q1, p2, p3, p4, p5, p6, p7, p8)
    | _ => none
  ok z v h := by
    split at h
    · obtain ⟨q1, hp1, h⟩ := Option.bind_eq_some_iff.1 h
      cases h
      rw [asT_l hp1]
      all_goals rfl
    · cases h
def io48 : Io T (Bool × (List S51) × Int × Int × (List UInt8)) where
  enc v := ([.bp 0, .d (.b v.1), .d (.l 51 v.2.1), .d (.i .i64 v.2.2.1), .d (.i .i64 v.2.2.2.1)], [.bl v.2.2.2.2])
  pat
    | ([.bp 0, .d (.b p1), .d (.l tp2 p2), .d (.i .i64 p3), .d (.i .i64 p4)], [.bl p5]) => (asT 51 tp2 p2).bind fun q2 => some (p1, q2, p3, p4, p5)
    | _ => none
  ok z v h := by
    split at h
    · obtain ⟨q2, hp2, h⟩ := Option.bind_eq_some_iff.1 h
      cases h
      rw [asT_l hp2]
      all_goals rfl
    · cases h
def io49 : Io T ((List S51) × (List S27)) where
  enc v := ([.d (.l 51 v.1), .d (.l 27 v.2)], [])
  pat
    | ([.d (.l tp1 p1), .d (.l tp2 p2)], []) => (asT 51 tp1 p1).bind fun q1 => (asT 27 tp2 p2).bind fun q2 => some (q1, q2)
    | _ => none
  ok z v h := by
    split at h
    · obtain ⟨q1, hp1, h⟩ := Option.bind_eq_some_iff.1 h
      obtain ⟨q2, hp2, h⟩ := Option.bind_eq_some_iff.1 h
      cases h
      rw [asT_l hp1]
      rw [asT_l hp2]
      all_goals rfl
    · cases h
def io50 : Io T ((List UInt8) × (List S27)) where
  enc v := ([.d (.s v.1), .d (.l 27 v.2)], [])
  pat
    | ([.d (.s p1), .d (.l tp2 p2)], []) => (asT 27 tp2 p2).bind fun q2 => some (p1, q2)
    | _ => none
  ok z v h := by
    split at h
    · obtain ⟨q2, hp2, h⟩ := Option.bind_eq_some_iff.1 h
      cases h
      rw [asT_l hp2]
      all_goals rfl
    · cases h
def io51 : Io T ((List S27) × (List S51) × Int × (List UInt8)) where
  enc v := ([.d (.l 27 v.1), .d (.l 51 v.2.1), .bp 0, .d (.i .i64 v.2.2.1)], [.bl v.2.2.2])
  pat
    | ([.d (.l tp1 p1), .d (.l tp2 p2), .bp 0, .d (.i .i64 p3)], [.bl p4]) => (asT 27 tp1 p1).bind fun q1 => (asT 51 tp2 p2).bind fun q2 => some (q1, q2, p3, p4)
    | _ => none
  ok z v h := by
    split at h
    · obtain ⟨q1, hp1, h⟩ := Option.bind_eq_some_iff.1 h
      obtain ⟨q2, hp2, h⟩ := Option.bind_eq_some_iff.1 h
      cases h
      rw [asT_l hp1]
      rw [asT_l hp2]
      all_goals rfl
    · cases h
def io52 : Io T ((List UInt8) × (List UInt8)) where
  enc v := ([.d .ns, .fn 31 [.ptr 0 0]], [.box [.d (.s v.1), .d (.s v.2)]])
  pat
    | ([.d .ns, .fn 31 [.ptr 0 0]], [.box [.d (.s p1), .d (.s p2)]]) => some (p1, p2)
    | _ => none
  ok z v h := by
    split at h
    · cases h
      all_goals rfl
    · cases h
def io53 : Io T (Int × (List UInt8) × (List UInt8)) where
  enc v := ([.d (.i .i64 v.1)], [.box [.d (.s v.2.1), .d (.s v.2.2)]])
  pat
    | ([.d (.i .i64 p1)], [.box [.d (.s p2), .d (.s p3)]]) => some (p1, p2, p3)
    | _ => none
  ok z v h := by
    split at h
    · cases h
      all_goals rfl
    · cases h
def io54 : Io T (Int × Int × (List UInt8) × (List UInt8)) where
  enc v := ([.d .ns, .fn 31 [.ptr 0 0], .d (.i .i64 v.1), .d (.i .i64 v.2.1)], [.box [.d (.s v.2.2.1), .d (.s v.2.2.2)]])
  pat
    | ([.d .ns, .fn 31 [.ptr 0 0], .d (.i .i64 p1), .d (.i .i64 p2)], [.box [.d (.s p3), .d (.s p4)]]) => some (p1, p2, p3, p4)
    | _ => none
  ok z v h := by
    split at h
    · cases h
      all_goals rfl
    · cases h
def io55 : Io T ((List UInt8) × (List UInt8)) where
  enc v := ([], [.box [.d (.s v.1), .d (.s v.2)]])
  pat
    | ([], [.box [.d (.s p1), .d (.s p2)]]) => some (p1, p2)
    | _ => none
  ok z v h := by
    split at h
    · cases h
      all_goals rfl
    · cases h
def io56 : Io T ((List UInt8) × (List UInt8) × (List UInt8) × (List UInt8)) where
  enc v := ([.agg [.d (.s v.1), .d (.s v.2.1)], .ptr 0 0], [.box [.d (.s v.2.2.1), .d (.s v.2.2.2)]])
  pat
    | ([.agg [.d (.s p1), .d (.s p2)], .ptr 0 0], [.box [.d (.s p3), .d (.s p4)]]) => some (p1, p2, p3, p4)
    | _ => none
  ok z v h := by
    split at h
    · cases h
      all_goals rfl
    · cases h
def io57 : Io T (Bool × (List UInt8) × (List UInt8)) where
  enc v := ([.d (.b v.1)], [.box [.d (.s v.2.1), .d (.s v.2.2)]])
  pat
    | ([.d (.b p1)], [.box [.d (.s p2), .d (.s p3)]]) => some (p1, p2, p3)
    | _ => none
  ok z v h := by
    split at h
    · cases h
      all_goals rfl
    · cases h
def io58 : Io T ((List S27) × (List UInt8) × (List UInt8)) where
  enc v := ([.d (.l 27 v.1), .fn 31 [.ptr 0 0]], [.box [.d (.s v.2.1), .d (.s v.2.2)]])
  pat
    | ([.d (.l tp1 p1), .fn 31 [.ptr 0 0]], [.box [.d (.s p2), .d (.s p3)]]) => (asT 27 tp1 p1).bind fun q1 => some (q1, p2, p3)
    | _ => none
  ok z v h := by
    split at h
    · obtain ⟨q1, hp1, h⟩ := Option.bind_eq_some_iff.1 h
      cases h
      rw [asT_l hp1]
      all_goals rfl
    · cases h
def io59 : Io T ((List S27) × Int × Int × (List UInt8) × (List UInt8)) where
  enc v := ([.d (.l 27 v.1), .fn 31 [.ptr 0 0], .d (.i .i64 v.2.1), .d (.i .i64 v.2.2.1)], [.box [.d (.s v.2.2.2.1), .d (.s v.2.2.2.2)]])
  pat
    | ([.d (.l tp1 p1), .fn 31 [.ptr 0 0], .d (.i .i64 p2), .d (.i .i64 p3)], [.box [.d (.s p4), .d (.s p5)]]) => (asT 27 tp1 p1).bind fun q1 => some (q1, p2, p3, p4, p5)
    | _ => none
  ok z v h := by
    split at h
    · obtain ⟨q1, hp1, h⟩ := Option.bind_eq_some_iff.1 h
      cases h
      rw [asT_l hp1]
      all_goals rfl
    · cases h
def io60 : Io T (List S27) where
  enc v := ([.d (.l 27 v)], [])
  pat
    | ([.d (.l tp1 p1)], []) => (asT 27 tp1 p1).bind fun q1 => some q1
    | _ => none
  ok z v h := by
    split at h
    · obtain ⟨q1, hp1, h⟩ := Option.bind_eq_some_iff.1 h
      cases h
      rw [asT_l hp1]
      all_goals rfl
    · cases h
def io61 : Io T (List S27) where
  enc v := ([.sl 0 none], [.arr 27 v])
  pat
    | ([.sl 0 none], [.arr tp1 p1]) => (asT 27 tp1 p1).bind fun q1 => some q1
    | _ => none
  ok z v h := by
    split at h
    · obtain ⟨q1, hp1, h⟩ := Option.bind_eq_some_iff.1 h
      cases h
      rw [asT_a hp1]
      all_goals rfl
    · cases h
def io62 : Io T ((List S27) × Int × Int × (List S27)) where
  enc v := ([.sl 0 none, .d (.l 27 v.1), .d (.i .i64 v.2.1), .d (.i .i64 v.2.2.1)], [.arr 27 v.2.2.2])
  pat
    | ([.sl 0 none, .d (.l tp1 p1), .d (.i .i64 p2), .d (.i .i64 p3)], [.arr tp4 p4]) => (asT 27 tp1 p1).bind fun q1 => (asT 27 tp4 p4).bind fun q4 => some (q1, p2, p3, q4)
    | _ => none
  ok z v h := by
    split at h
    · obtain ⟨q1, hp1, h⟩ := Option.bind_eq_some_iff.1 h
      obtain ⟨q4, hp4, h⟩ := Option.bind_eq_some_iff.1 h
      cases h
      rw [asT_l hp1]
      rw [asT_a hp4]
      all_goals rfl
    · cases h
def io63 : Io T (List (List UInt8)) where
  enc v := ([.sl 0 none], [.arr 9 v])
  pat
    | ([.sl 0 none], [.arr tp1 p1]) => (asT 9 tp1 p1).bind fun q1 => some q1
    | _ => none
  ok z v h := by
    split at h
    · obtain ⟨q1, hp1, h⟩ := Option.bind_eq_some_iff.1 h
      cases h
      rw [asT_a hp1]
      all_goals rfl
    · cases h
def io64 : Io T ((List S51) × (List S51) × Int × Int × (List S51) × Int × Int × (List (List UInt8))) where
  enc v := ([.sl 0 none, .d (.l 51 v.1), .d (.l 51 v.2.1), .d (.i .i64 v.2.2.1), .d (.i .i64 v.2.2.2.1), .d (.l 51 v.2.2.2.2.1), .d (.i .i64 v.2.2.2.2.2.1), .d (.i .i64 v.2.2.2.2.2.2.1)], [.arr 9 v.2.2.2.2.2.2.2])
  pat
    | ([.sl 0 none, .d (.l tp1 p1), .d (.l tp2 p2), .d (.i .i64 p3), .d (.i .i64 p4), .d (.l tp5 p5), .d (.i .i64 p6), .d (.i .i64 p7)], [.arr tp8 p8]) => (asT 51 tp1 p1).bind fun q1 => (asT 51 tp2 p2).bind fun q2 => (asT 51 tp5 p5).bind fun q5 => (asT 9 tp8 p8).bind fun q8 => some (q1, q2, p3, p4, q5, p6, p7, q8)
    | _ => none
  ok z v h := by
    split at h
    · obtain ⟨q1, hp1, h⟩ := Option.bind_eq_some_iff.1 h
      obtain ⟨q2, hp2, h⟩ := Option.bind_eq_some_iff.1 h
      obtain ⟨q5, hp5, h⟩ := Option.bind_eq_some_iff.1 h
      obtain ⟨q8, hp8, h⟩ := Option.bind_eq_some_iff.1 h
      cases h
      rw [asT_l hp1]
      rw [asT_l hp2]
      rw [asT_l hp5]
      rw [asT_a hp8]
      all_goals rfl
    · cases h
def io65 : Io T ((List S51) × (List S51) × Int × Int × (List (List UInt8))) where
  enc v := ([.sl 0 none, .d (.l 51 v.1), .d (.l 51 v.2.1), .d (.i .i64 v.2.2.1), .d (.i .i64 v.2.2.2.1)], [.arr 9 v.2.2.2.2])
  pat
    | ([.sl 0 none, .d (.l tp1 p1), .d (.l tp2 p2), .d (.i .i64 p3), .d (.i .i64 p4)], [.arr tp5 p5]) => (asT 51 tp1 p1).bind fun q1 => (asT 51 tp2 p2).bind fun q2 => (asT 9 tp5 p5).bind fun q5 => some (q1, q2, p3, p4, q5)
    | _ => none
  ok z v h := by
    split at h
    · obtain ⟨q1, hp1, h⟩ := Option.bind_eq_some_iff.1 h
      obtain ⟨q2, hp2, h⟩ := Option.bind_eq_some_iff.1 h
      obtain ⟨q5, hp5, h⟩ := Option.bind_eq_some_iff.1 h
      cases h
      rw [asT_l hp1]
      rw [asT_l hp2]
      rw [asT_a hp5]
      all_goals rfl
    · cases h
def io66 : Io T ((List S27) × (List UInt8) × Int × Int × (List (List UInt8 × S62)) × (List (List UInt8)) × (List (List UInt8))) where
  enc v := ([.d (.l 27 v.1), .d (.s v.2.1), .mp 0, .sl 1 none, .sl 2 none, .d (.i .i64 v.2.2.1), .d (.i .i64 v.2.2.2.1)], [.mp none 62 v.2.2.2.2.1, .arr 9 v.2.2.2.2.2.1, .arr 9 v.2.2.2.2.2.2])
  pat
    | ([.d (.l tp1 p1), .d (.s p2), .mp 0, .sl 1 none, .sl 2 none, .d (.i .i64 p3), .d (.i .i64 p4)], [.mp kp5 tp5 p5, .arr tp6 p6, .arr tp7 p7]) => (asT 27 tp1 p1).bind fun q1 => (asM (none) 62 kp5 tp5 p5).bind fun q5 => (asT 9 tp6 p6).bind fun q6 => (asT 9 tp7 p7).bind fun q7 => some (q1, p2, p3, p4, q5, q6, q7)
    | _ => none
  ok z v h := by
    split at h
    · obtain ⟨q1, hp1, h⟩ := Option.bind_eq_some_iff.1 h
      obtain ⟨q5, hp5, h⟩ := Option.bind_eq_some_iff.1 h
      obtain ⟨q6, hp6, h⟩ := Option.bind_eq_some_iff.1 h
      obtain ⟨q7, hp7, h⟩ := Option.bind_eq_some_iff.1 h
      cases h
      rw [asT_l hp1]
      rw [asM_a hp5]
      rw [asT_a hp6]
      rw [asT_a hp7]
      all_goals rfl
    · cases h
def io67 : Io T ((List S27) × (List UInt8) × (List (List UInt8 × S62)) × (List (List UInt8))) where
  enc v := ([.d (.l 27 v.1), .d (.s v.2.1), .mp 0, .sl 1 none], [.mp none 62 v.2.2.1, .arr 9 v.2.2.2])
  pat
    | ([.d (.l tp1 p1), .d (.s p2), .mp 0, .sl 1 none], [.mp kp3 tp3 p3, .arr tp4 p4]) => (asT 27 tp1 p1).bind fun q1 => (asM (none) 62 kp3 tp3 p3).bind fun q3 => (asT 9 tp4 p4).bind fun q4 => some (q1, p2, q3, q4)
    | _ => none
  ok z v h := by
    split at h
    · obtain ⟨q1, hp1, h⟩ := Option.bind_eq_some_iff.1 h
      obtain ⟨q3, hp3, h⟩ := Option.bind_eq_some_iff.1 h
      obtain ⟨q4, hp4, h⟩ := Option.bind_eq_some_iff.1 h
      cases h
      rw [asT_l hp1]
      rw [asM_a hp3]
      rw [asT_a hp4]
      all_goals rfl
    · cases h
def io68 : Io T ((List UInt8) × (List UInt8) × (List S27)) where
  enc v := ([.agg [.d (.s v.1), .d (.s v.2.1)], .ptr 0 0], [.box [.sl 1 none], .arr 27 v.2.2])
  pat
    | ([.agg [.d (.s p1), .d (.s p2)], .ptr 0 0], [.box [.sl 1 none], .arr tp3 p3]) => (asT 27 tp3 p3).bind fun q3 => some (p1, p2, q3)
    | _ => none
  ok z v h := by
    split at h
    · obtain ⟨q3, hp3, h⟩ := Option.bind_eq_some_iff.1 h
      cases h
      rw [asT_a hp3]
      all_goals rfl
    · cases h
def io69 : Io T (Bool × (List S27)) where
  enc v := ([.d (.b v.1)], [.box [.sl 1 none], .arr 27 v.2])
  pat
    | ([.d (.b p1)], [.box [.sl 1 none], .arr tp2 p2]) => (asT 27 tp2 p2).bind fun q2 => some (p1, q2)
    | _ => none
  ok z v h := by
    split at h
    · obtain ⟨q2, hp2, h⟩ := Option.bind_eq_some_iff.1 h
      cases h
      rw [asT_a hp2]
      all_goals rfl
    · cases h
def io70 : Io T ((List S27) × (List S27)) where
  enc v := ([.d (.l 27 v.1), .fn 14 [.ptr 0 0]], [.box [.sl 1 none], .arr 27 v.2])
  pat
    | ([.d (.l tp1 p1), .fn 14 [.ptr 0 0]], [.box [.sl 1 none], .arr tp2 p2]) => (asT 27 tp1 p1).bind fun q1 => (asT 27 tp2 p2).bind fun q2 => some (q1, q2)
    | _ => none
  ok z v h := by
    split at h
    · obtain ⟨q1, hp1, h⟩ := Option.bind_eq_some_iff.1 h
      obtain ⟨q2, hp2, h⟩ := Option.bind_eq_some_iff.1 h
      cases h
      rw [asT_l hp1]
      rw [asT_a hp2]
      all_goals rfl
    · cases h
def io71 : Io T (Int × (List S27)) where
  enc v := ([.d (.i .i64 v.1)], [.box [.sl 1 none], .arr 27 v.2])
  pat
    | ([.d (.i .i64 p1)], [.box [.sl 1 none], .arr tp2 p2]) => (asT 27 tp2 p2).bind fun q2 => some (p1, q2)
    | _ => none
  ok z v h := by
    split at h
    · obtain ⟨q2, hp2, h⟩ := Option.bind_eq_some_iff.1 h
      cases h
      rw [asT_a hp2]
      all_goals rfl
    · cases h
def io72 : Io T ((List S27) × Int × Int × (List S27)) where
  enc v := ([.d (.l 27 v.1), .fn 14 [.ptr 0 0], .d (.i .i64 v.2.1), .d (.i .i64 v.2.2.1)], [.box [.sl 1 none], .arr 27 v.2.2.2])
  pat
    | ([.d (.l tp1 p1), .fn 14 [.ptr 0 0], .d (.i .i64 p2), .d (.i .i64 p3)], [.box [.sl 1 none], .arr tp4 p4]) => (asT 27 tp1 p1).bind fun q1 => (asT 27 tp4 p4).bind fun q4 => some (q1, p2, p3, q4)
    | _ => none
  ok z v h := by
    split at h
    · obtain ⟨q1, hp1, h⟩ := Option.bind_eq_some_iff.1 h
      obtain ⟨q4, hp4, h⟩ := Option.bind_eq_some_iff.1 h
      cases h
      rw [asT_l hp1]
      rw [asT_a hp4]
      all_goals rfl
    · cases h
def io73 : Io T (List S27) where
  enc v := ([], [.box [.sl 1 none], .arr 27 v])
  pat
    | ([], [.box [.sl 1 none], .arr tp1 p1]) => (asT 27 tp1 p1).bind fun q1 => some q1
    | _ => none
  ok z v h := by
    split at h
    · obtain ⟨q1, hp1, h⟩ := Option.bind_eq_some_iff.1 h
      cases h
      rw [asT_a hp1]
      all_goals rfl
    · cases h
def io74 : Io T ((List S27) × (List S27)) where
  enc v := ([.sl 0 none, .fn 14 [.ptr 1 0]], [.arr 27 v.1, .box [.sl 2 none], .arr 27 v.2])
  pat
    | ([.sl 0 none, .fn 14 [.ptr 1 0]], [.arr tp1 p1, .box [.sl 2 none], .arr tp2 p2]) => (asT 27 tp1 p1).bind fun q1 => (asT 27 tp2 p2).bind fun q2 => some (q1, q2)
    | _ => none
  ok z v h := by
    split at h
    · obtain ⟨q1, hp1, h⟩ := Option.bind_eq_some_iff.1 h
      obtain ⟨q2, hp2, h⟩ := Option.bind_eq_some_iff.1 h
      cases h
      rw [asT_a hp1]
      rw [asT_a hp2]
      all_goals rfl
    · cases h
def io75 : Io T ((List S27) × (List S27)) where
  enc v := ([.sl 3 none], [.dead, .box [.sl 2 none], .arr 27 v.1, .arr 27 v.2])
  pat
    | ([.sl 3 none], [.dead, .box [.sl 2 none], .arr tp1 p1, .arr tp2 p2]) => (asT 27 tp1 p1).bind fun q1 => (asT 27 tp2 p2).bind fun q2 => some (q1, q2)
    | _ => none
  ok z v h := by
    split at h
    · obtain ⟨q1, hp1, h⟩ := Option.bind_eq_some_iff.1 h
      obtain ⟨q2, hp2, h⟩ := Option.bind_eq_some_iff.1 h
      cases h
      rw [asT_a hp1]
      rw [asT_a hp2]
      all_goals rfl
    · cases h
def io76 : Io T (Int × Int × (List S27) × (List S27)) where
  enc v := ([.sl 0 none, .fn 14 [.ptr 1 0], .d (.i .i64 v.1), .d (.i .i64 v.2.1)], [.arr 27 v.2.2.1, .box [.sl 2 none], .arr 27 v.2.2.2])
  pat
    | ([.sl 0 none, .fn 14 [.ptr 1 0], .d (.i .i64 p1), .d (.i .i64 p2)], [.arr tp3 p3, .box [.sl 2 none], .arr tp4 p4]) => (asT 27 tp3 p3).bind fun q3 => (asT 27 tp4 p4).bind fun q4 => some (p1, p2, q3, q4)
    | _ => none
  ok z v h := by
    split at h
    · obtain ⟨q3, hp3, h⟩ := Option.bind_eq_some_iff.1 h
      obtain ⟨q4, hp4, h⟩ := Option.bind_eq_some_iff.1 h
      cases h
      rw [asT_a hp3]
      rw [asT_a hp4]
      all_goals rfl
    · cases h
def io77 : Io T (Int × (List S27) × (List S27)) where
  enc v := ([.sl 0 none, .d (.i .i64 v.1)], [.arr 27 v.2.1, .box [.sl 2 none], .arr 27 v.2.2])
  pat
    | ([.sl 0 none, .d (.i .i64 p1)], [.arr tp2 p2, .box [.sl 2 none], .arr tp3 p3]) => (asT 27 tp2 p2).bind fun q2 => (asT 27 tp3 p3).bind fun q3 => some (p1, q2, q3)
    | _ => none
  ok z v h := by
    split at h
    · obtain ⟨q2, hp2, h⟩ := Option.bind_eq_some_iff.1 h
      obtain ⟨q3, hp3, h⟩ := Option.bind_eq_some_iff.1 h
      cases h
      rw [asT_a hp2]
      rw [asT_a hp3]
      all_goals rfl
    · cases h
def io78 : Io T ((List UInt8) × (List UInt8) × (List UInt8)) where
  enc v := ([.agg [.d (.s v.1), .d (.s v.2.1)], .ptr 0 0], [.box [.d (.s v.2.2)]])
  pat
    | ([.agg [.d (.s p1), .d (.s p2)], .ptr 0 0], [.box [.d (.s p3)]]) => some (p1, p2, p3)
    | _ => none
  ok z v h := by
    split at h
    · cases h
      all_goals rfl
    · cases h
def io79 : Io T (Bool × (List UInt8)) where
  enc v := ([.d (.b v.1)], [.box [.d (.s v.2)]])
  pat
    | ([.d (.b p1)], [.box [.d (.s p2)]]) => some (p1, p2)
    | _ => none
  ok z v h := by
    split at h
    · cases h
      all_goals rfl
    · cases h
def io80 : Io T ((List S27) × (List UInt8)) where
  enc v := ([.d (.l 27 v.1), .fn 21 [.ptr 0 0]], [.box [.d (.s v.2)]])
  pat
    | ([.d (.l tp1 p1), .fn 21 [.ptr 0 0]], [.box [.d (.s p2)]]) => (asT 27 tp1 p1).bind fun q1 => some (q1, p2)
    | _ => none
  ok z v h := by
    split at h
    · obtain ⟨q1, hp1, h⟩ := Option.bind_eq_some_iff.1 h
      cases h
      rw [asT_l hp1]
      all_goals rfl
    · cases h
def io81 : Io T (Int × (List UInt8)) where
  enc v := ([.d (.i .i64 v.1)], [.box [.d (.s v.2)]])
  pat
    | ([.d (.i .i64 p1)], [.box [.d (.s p2)]]) => some (p1, p2)
    | _ => none
  ok z v h := by
    split at h
    · cases h
      all_goals rfl
    · cases h
def io82 : Io T ((List S27) × Int × Int × (List UInt8)) where
  enc v := ([.d (.l 27 v.1), .fn 21 [.ptr 0 0], .d (.i .i64 v.2.1), .d (.i .i64 v.2.2.1)], [.box [.d (.s v.2.2.2)]])
  pat
    | ([.d (.l tp1 p1), .fn 21 [.ptr 0 0], .d (.i .i64 p2), .d (.i .i64 p3)], [.box [.d (.s p4)]]) => (asT 27 tp1 p1).bind fun q1 => some (q1, p2, p3, p4)
    | _ => none
  ok z v h := by
    split at h
    · obtain ⟨q1, hp1, h⟩ := Option.bind_eq_some_iff.1 h
      cases h
      rw [asT_l hp1]
      all_goals rfl
    · cases h
def io83 : Io T (List UInt8) where
  enc v := ([], [.box [.d (.s v)]])
  pat
    | ([], [.box [.d (.s p1)]]) => some p1
    | _ => none
  ok z v h := by
    split at h
    · cases h
      all_goals rfl
    · cases h
def io84 : Io T ((List UInt8) × (List S27)) where
  enc v := ([.d (.s v.1), .ptr 0 0], [.box [.sl 1 none], .arr 27 v.2])
  pat
    | ([.d (.s p1), .ptr 0 0], [.box [.sl 1 none], .arr tp2 p2]) => (asT 27 tp2 p2).bind fun q2 => some (p1, q2)
    | _ => none
  ok z v h := by
    split at h
    · obtain ⟨q2, hp2, h⟩ := Option.bind_eq_some_iff.1 h
      cases h
      rw [asT_a hp2]
      all_goals rfl
    · cases h
def io85 : Io T ((List (List UInt8)) × (List S27)) where
  enc v := ([.d (.l 9 v.1), .fn 19 [.ptr 0 0]], [.box [.sl 1 none], .arr 27 v.2])
  pat
    | ([.d (.l tp1 p1), .fn 19 [.ptr 0 0]], [.box [.sl 1 none], .arr tp2 p2]) => (asT 9 tp1 p1).bind fun q1 => (asT 27 tp2 p2).bind fun q2 => some (q1, q2)
    | _ => none
  ok z v h := by
    split at h
    · obtain ⟨q1, hp1, h⟩ := Option.bind_eq_some_iff.1 h
      obtain ⟨q2, hp2, h⟩ := Option.bind_eq_some_iff.1 h
      cases h
      rw [asT_l hp1]
      rw [asT_a hp2]
      all_goals rfl
    · cases h
def io86 : Io T ((List (List UInt8)) × Int × Int × (List S27)) where
  enc v := ([.d (.l 9 v.1), .fn 19 [.ptr 0 0], .d (.i .i64 v.2.1), .d (.i .i64 v.2.2.1)], [.box [.sl 1 none], .arr 27 v.2.2.2])
  pat
    | ([.d (.l tp1 p1), .fn 19 [.ptr 0 0], .d (.i .i64 p2), .d (.i .i64 p3)], [.box [.sl 1 none], .arr tp4 p4]) => (asT 9 tp1 p1).bind fun q1 => (asT 27 tp4 p4).bind fun q4 => some (q1, p2, p3, q4)
    | _ => none
  ok z v h := by
    split at h
    · obtain ⟨q1, hp1, h⟩ := Option.bind_eq_some_iff.1 h
      obtain ⟨q4, hp4, h⟩ := Option.bind_eq_some_iff.1 h
      cases h
      rw [asT_l hp1]
      rw [asT_a hp4]
      all_goals rfl
    · cases h
def io87 : Io T (List UInt8) where
  enc v := ([.d .ns, .d (.s v)], [])
  pat
    | ([.d .ns, .d (.s p1)], []) => some p1
    | _ => none
  ok z v h := by
    split at h
    · cases h
      all_goals rfl
    · cases h
def io88 : Io T (List S51) where
  enc v := ([.d (.l 51 v), .d .ns], [])
  pat
    | ([.d (.l tp1 p1), .d .ns], []) => (asT 51 tp1 p1).bind fun q1 => some q1
    | _ => none
  ok z v h := by
    split at h
    · obtain ⟨q1, hp1, h⟩ := Option.bind_eq_some_iff.1 h
      cases h
      rw [asT_l hp1]
      all_goals rfl
    · cases h
def io89 : Io T (List UInt8) where
  enc v := ([.d (.s v), .d .ns], [])
  pat
    | ([.d (.s p1), .d .ns], []) => some p1
    | _ => none
  ok z v h := by
    split at h
    · cases h
      all_goals rfl
    · cases h
def io90 : Io T ((List S51) × Int × (List UInt8)) where
  enc v := ([.d .ns, .d (.l 51 v.1), .bp 0, .d (.i .i64 v.2.1)], [.bl v.2.2])
  pat
    | ([.d .ns, .d (.l tp1 p1), .bp 0, .d (.i .i64 p2)], [.bl p3]) => (asT 51 tp1 p1).bind fun q1 => some (q1, p2, p3)
    | _ => none
  ok z v h := by
    split at h
    · obtain ⟨q1, hp1, h⟩ := Option.bind_eq_some_iff.1 h
      cases h
      rw [asT_l hp1]
      all_goals rfl
    · cases h
def io91 : Io T ((List UInt8) × (List S27)) where
  enc v := ([.d (.s v.1), .ptr 0 0], [.box [.d (.l 27 v.2)]])
  pat
    | ([.d (.s p1), .ptr 0 0], [.box [.d (.l tp2 p2)]]) => (asT 27 tp2 p2).bind fun q2 => some (p1, q2)
    | _ => none
  ok z v h := by
    split at h
    · obtain ⟨q2, hp2, h⟩ := Option.bind_eq_some_iff.1 h
      cases h
      rw [asT_l hp2]
      all_goals rfl
    · cases h
def io92 : Io T (Bool × (List S27)) where
  enc v := ([.d (.b v.1)], [.box [.d (.l 27 v.2)]])
  pat
    | ([.d (.b p1)], [.box [.d (.l tp2 p2)]]) => (asT 27 tp2 p2).bind fun q2 => some (p1, q2)
    | _ => none
  ok z v h := by
    split at h
    · obtain ⟨q2, hp2, h⟩ := Option.bind_eq_some_iff.1 h
      cases h
      rw [asT_l hp2]
      all_goals rfl
    · cases h
def io93 : Io T ((List (List UInt8)) × (List S27)) where
  enc v := ([.d (.l 9 v.1), .fn 19 [.ptr 0 0]], [.box [.d (.l 27 v.2)]])
  pat
    | ([.d (.l tp1 p1), .fn 19 [.ptr 0 0]], [.box [.d (.l tp2 p2)]]) => (asT 9 tp1 p1).bind fun q1 => (asT 27 tp2 p2).bind fun q2 => some (q1, q2)
    | _ => none
  ok z v h := by
    split at h
    · obtain ⟨q1, hp1, h⟩ := Option.bind_eq_some_iff.1 h
      obtain ⟨q2, hp2, h⟩ := Option.bind_eq_some_iff.1 h
      cases h
      rw [asT_l hp1]
      rw [asT_l hp2]
      all_goals rfl
    · cases h
def io94 : Io T (Int × (List S27)) where
  enc v := ([.d (.i .i64 v.1)], [.box [.d (.l 27 v.2)]])
  pat
    | ([.d (.i .i64 p1)], [.box [.d (.l tp2 p2)]]) => (asT 27 tp2 p2).bind fun q2 => some (p1, q2)
    | _ => none
  ok z v h := by
    split at h
    · obtain ⟨q2, hp2, h⟩ := Option.bind_eq_some_iff.1 h
      cases h
      rw [asT_l hp2]
      all_goals rfl
    · cases h
def io95 : Io T ((List (List UInt8)) × Int × Int × (List S27)) where
  enc v := ([.d (.l 9 v.1), .fn 19 [.ptr 0 0], .d (.i .i64 v.2.1), .d (.i .i64 v.2.2.1)], [.box [.d (.l 27 v.2.2.2)]])
  pat
    | ([.d (.l tp1 p1), .fn 19 [.ptr 0 0], .d (.i .i64 p2), .d (.i .i64 p3)], [.box [.d (.l tp4 p4)]]) => (asT 9 tp1 p1).bind fun q1 => (asT 27 tp4 p4).bind fun q4 => some (q1, p2, p3, q4)
    | _ => none
  ok z v h := by
    split at h
    · obtain ⟨q1, hp1, h⟩ := Option.bind_eq_some_iff.1 h
      obtain ⟨q4, hp4, h⟩ := Option.bind_eq_some_iff.1 h
      cases h
      rw [asT_l hp1]
      rw [asT_l hp4]
      all_goals rfl
    · cases h
def io96 : Io T (List S27) where
  enc v := ([], [.box [.d (.l 27 v)]])
  pat
    | ([], [.box [.d (.l tp1 p1)]]) => (asT 27 tp1 p1).bind fun q1 => some q1
    | _ => none
  ok z v h := by
    split at h
    · obtain ⟨q1, hp1, h⟩ := Option.bind_eq_some_iff.1 h
      cases h
      rw [asT_l hp1]
      all_goals rfl
    · cases h
def io97 : Io T ((List UInt8) × (List UInt8) × (List S27)) where
  enc v := ([.agg [.d (.s v.1), .d (.s v.2.1)], .ptr 0 0], [.box [.d (.l 27 v.2.2)]])
  pat
    | ([.agg [.d (.s p1), .d (.s p2)], .ptr 0 0], [.box [.d (.l tp3 p3)]]) => (asT 27 tp3 p3).bind fun q3 => some (p1, p2, q3)
    | _ => none
  ok z v h := by
    split at h
    · obtain ⟨q3, hp3, h⟩ := Option.bind_eq_some_iff.1 h
      cases h
      rw [asT_l hp3]
      all_goals rfl
    · cases h
def io98 : Io T ((List S27) × Int × Int × (List S27) × (List S27) × (List S27) × (List S27)) where
  enc v := ([.ptr 0 0, .sl 1 none, .ptr 2 0, .fn 16 [.ptr 2 0], .sl 3 none, .d (.l 27 v.1), .d (.i .i64 v.2.1), .d (.i .i64 v.2.2.1)], [.box [.d (.l 27 v.2.2.2.1)], .arr 27 v.2.2.2.2.1, .box [.d (.l 27 v.2.2.2.2.2.1)], .arr 27 v.2.2.2.2.2.2])
  pat
    | ([.ptr 0 0, .sl 1 none, .ptr 2 0, .fn 16 [.ptr 2 0], .sl 3 none, .d (.l tp1 p1), .d (.i .i64 p2), .d (.i .i64 p3)], [.box [.d (.l tp4 p4)], .arr tp5 p5, .box [.d (.l tp6 p6)], .arr tp7 p7]) => (asT 27 tp1 p1).bind fun q1 => (asT 27 tp4 p4).bind fun q4 => (asT 27 tp5 p5).bind fun q5 => (asT 27 tp6 p6).bind fun q6 => (asT 27 tp7 p7).bind fun q7 => some (q1, p2, p3, q4, q5, q6, q7)
    | _ => none
  ok z v h := by
    split at h
    · obtain ⟨q1, hp1, h⟩ := Option.bind_eq_some_iff.1 h
      obtain ⟨q4, hp4, h⟩ := Option.bind_eq_some_iff.1 h
      obtain ⟨q5, hp5, h⟩ := Option.bind_eq_some_iff.1 h
      obtain ⟨q6, hp6, h⟩ := Option.bind_eq_some_iff.1 h
      obtain ⟨q7, hp7, h⟩ := Option.bind_eq_some_iff.1 h
      cases h
      rw [asT_l hp1]
      rw [asT_l hp4]
      rw [asT_l hp6]
      rw [asT_a hp5]
      rw [asT_a hp7]
      all_goals rfl
    · cases h
def io99 : Io T ((List S27) × (List S27) × (List S27) × (List S27)) where
  enc v := ([.ptr 0 0, .sl 1 none, .ptr 2 0, .sl 3 none], [.box [.d (.l 27 v.1)], .arr 27 v.2.1, .box [.d (.l 27 v.2.2.1)], .arr 27 v.2.2.2])
  pat
    | ([.ptr 0 0, .sl 1 none, .ptr 2 0, .sl 3 none], [.box [.d (.l tp1 p1)], .arr tp2 p2, .box [.d (.l tp3 p3)], .arr tp4 p4]) => (asT 27 tp1 p1).bind fun q1 => (asT 27 tp2 p2).bind fun q2 => (asT 27 tp3 p3).bind fun q3 => (asT 27 tp4 p4).bind fun q4 => some (q1, q2, q3, q4)
    | _ => none
  ok z v h := by
    split at h
    · obtain ⟨q1, hp1, h⟩ := Option.bind_eq_some_iff.1 h
      obtain ⟨q2, hp2, h⟩ := Option.bind_eq_some_iff.1 h
      obtain ⟨q3, hp3, h⟩ := Option.bind_eq_some_iff.1 h
      obtain ⟨q4, hp4, h⟩ := Option.bind_eq_some_iff.1 h
      cases h
      rw [asT_l hp1]
      rw [asT_l hp3]
      rw [asT_a hp2]
      rw [asT_a hp4]
      all_goals rfl
    · cases h
def io100 : Io T ((List S27) × (List S27) × (List S27)) where
  enc v := ([.ptr 0 0, .sl 1 none, .ptr 2 0], [.box [.d (.l 27 v.1)], .arr 27 v.2.1, .box [.d (.l 27 v.2.2)]])
  pat
    | ([.ptr 0 0, .sl 1 none, .ptr 2 0], [.box [.d (.l tp1 p1)], .arr tp2 p2, .box [.d (.l tp3 p3)]]) => (asT 27 tp1 p1).bind fun q1 => (asT 27 tp2 p2).bind fun q2 => (asT 27 tp3 p3).bind fun q3 => some (q1, q2, q3)
    | _ => none
  ok z v h := by
    split at h
    · obtain ⟨q1, hp1, h⟩ := Option.bind_eq_some_iff.1 h
      obtain ⟨q2, hp2, h⟩ := Option.bind_eq_some_iff.1 h
      obtain ⟨q3, hp3, h⟩ := Option.bind_eq_some_iff.1 h
      cases h
      rw [asT_l hp1]
      rw [asT_l hp3]
      rw [asT_a hp2]
      all_goals rfl
    · cases h
def io101 : Io T ((List S27) × (List S27)) where
  enc v := ([.ptr 0 0, .sl 1 none], [.box [.d (.l 27 v.1)], .arr 27 v.2])
  pat
    | ([.ptr 0 0, .sl 1 none], [.box [.d (.l tp1 p1)], .arr tp2 p2]) => (asT 27 tp1 p1).bind fun q1 => (asT 27 tp2 p2).bind fun q2 => some (q1, q2)
    | _ => none
  ok z v h := by
    split at h
    · obtain ⟨q1, hp1, h⟩ := Option.bind_eq_some_iff.1 h
      obtain ⟨q2, hp2, h⟩ := Option.bind_eq_some_iff.1 h
      cases h
      rw [asT_l hp1]
      rw [asT_a hp2]
      all_goals rfl
    · cases h
def io102 : Io T ((List S27) × Int × Int × (List S27) × (List S27)) where
  enc v := ([.sl 0 none, .sl 1 none, .d (.l 27 v.1), .d (.i .i64 v.2.1), .d (.i .i64 v.2.2.1)], [.arr 27 v.2.2.2.1, .arr 27 v.2.2.2.2])
  pat
    | ([.sl 0 none, .sl 1 none, .d (.l tp1 p1), .d (.i .i64 p2), .d (.i .i64 p3)], [.arr tp4 p4, .arr tp5 p5]) => (asT 27 tp1 p1).bind fun q1 => (asT 27 tp4 p4).bind fun q4 => (asT 27 tp5 p5).bind fun q5 => some (q1, p2, p3, q4, q5)
    | _ => none
  ok z v h := by
    split at h
    · obtain ⟨q1, hp1, h⟩ := Option.bind_eq_some_iff.1 h
      obtain ⟨q4, hp4, h⟩ := Option.bind_eq_some_iff.1 h
      obtain ⟨q5, hp5, h⟩ := Option.bind_eq_some_iff.1 h
      cases h
      rw [asT_l hp1]
      rw [asT_a hp4]
      rw [asT_a hp5]
      all_goals rfl
    · cases h
def io103 : Io T ((List UInt8) × (List UInt8) × Int) where
  enc v := ([.d (.s v.1), .d (.s v.2.1), .d (.i .i64 v.2.2)], [])
  pat
    | ([.d (.s p1), .d (.s p2), .d (.i .i64 p3)], []) => some (p1, p2, p3)
    | _ => none
  ok z v h := by
    split at h
    · cases h
      all_goals rfl
    · cases h
def io104 : Io T ((List S27) × (List S27)) where
  enc v := ([.d (.l 27 v.1), .d (.l 27 v.2)], [])
  pat
    | ([.d (.l tp1 p1), .d (.l tp2 p2)], []) => (asT 27 tp1 p1).bind fun q1 => (asT 27 tp2 p2).bind fun q2 => some (q1, q2)
    | _ => none
  ok z v h := by
    split at h
    · obtain ⟨q1, hp1, h⟩ := Option.bind_eq_some_iff.1 h
      obtain ⟨q2, hp2, h⟩ := Option.bind_eq_some_iff.1 h
      cases h
      rw [asT_l hp1]
      rw [asT_l hp2]
      all_goals rfl
    · cases h
def io105 : Io T ((List S27) × (List S27) × Int) where
  enc v := ([.d (.l 27 v.1), .d (.l 27 v.2.1), .d (.i .i64 v.2.2)], [])
  pat
    | ([.d (.l tp1 p1), .d (.l tp2 p2), .d (.i .i64 p3)], []) => (asT 27 tp1 p1).bind fun q1 => (asT 27 tp2 p2).bind fun q2 => some (q1, q2, p3)
    | _ => none
  ok z v h := by
    split at h
    · obtain ⟨q1, hp1, h⟩ := Option.bind_eq_some_iff.1 h
      obtain ⟨q2, hp2, h⟩ := Option.bind_eq_some_iff.1 h
      cases h
      rw [asT_l hp1]
      rw [asT_l hp2]
      all_goals rfl
    · cases h
def io106 : Io T (Bool × Int × (List S27)) where
  enc v := ([.d (.b v.1), .sl 0 none, .d (.i .i64 v.2.1)], [.arr 27 v.2.2])
  pat
    | ([.d (.b p1), .sl 0 none, .d (.i .i64 p2)], [.arr tp3 p3]) => (asT 27 tp3 p3).bind fun q3 => some (p1, p2, q3)
    | _ => none
  ok z v h := by
    split at h
    · obtain ⟨q3, hp3, h⟩ := Option.bind_eq_some_iff.1 h
      cases h
      rw [asT_a hp3]
      all_goals rfl
    · cases h
def io107 : Io T (Bool × (List S27)) where
  enc v := ([.d (.b v.1), .sl 0 none], [.arr 27 v.2])
  pat
    | ([.d (.b p1), .sl 0 none], [.arr tp2 p2]) => (asT 27 tp2 p2).bind fun q2 => some (p1, q2)
    | _ => none
  ok z v h := by
    split at h
    · obtain ⟨q2, hp2, h⟩ := Option.bind_eq_some_iff.1 h
      cases h
      rw [asT_a hp2]
      all_goals rfl
    · cases h
def io108 : Io T ((List S27) × Int) where
  enc v := ([.d (.l 27 v.1), .d (.i .i64 v.2)], [])
  pat
    | ([.d (.l tp1 p1), .d (.i .i64 p2)], []) => (asT 27 tp1 p1).bind fun q1 => some (q1, p2)
    | _ => none
  ok z v h := by
    split at h
    · obtain ⟨q1, hp1, h⟩ := Option.bind_eq_some_iff.1 h
      cases h
      rw [asT_l hp1]
      all_goals rfl
    · cases h
def io109 : Io T ((List S27) × Int × Bool × Int) where
  enc v := ([.d (.l 27 v.1), .d (.i .i64 v.2.1), .d (.b v.2.2.1), .d (.i .i64 v.2.2.2)], [])
  pat
    | ([.d (.l tp1 p1), .d (.i .i64 p2), .d (.b p3), .d (.i .i64 p4)], []) => (asT 27 tp1 p1).bind fun q1 => some (q1, p2, p3, p4)
    | _ => none
  ok z v h := by
    split at h
    · obtain ⟨q1, hp1, h⟩ := Option.bind_eq_some_iff.1 h
      cases h
      rw [asT_l hp1]
      all_goals rfl
    · cases h
def io110 : Io T ((List S27) × Int × Bool) where
  enc v := ([.d (.l 27 v.1), .d (.i .i64 v.2.1), .d (.b v.2.2)], [])
  pat
    | ([.d (.l tp1 p1), .d (.i .i64 p2), .d (.b p3)], []) => (asT 27 tp1 p1).bind fun q1 => some (q1, p2, p3)
    | _ => none
  ok z v h := by
    split at h
    · obtain ⟨q1, hp1, h⟩ := Option.bind_eq_some_iff.1 h
      cases h
      rw [asT_l hp1]
      all_goals rfl
    · cases h
def io111 : Io T ((List S27) × Bool × Int × Int × (List S27)) where
  enc v := ([.d (.l 27 v.1), .d (.b v.2.1), .d (.i .i64 v.2.2.1), .sl 0 none, .d (.i .i64 v.2.2.2.1)], [.arr 27 v.2.2.2.2])
  pat
    | ([.d (.l tp1 p1), .d (.b p2), .d (.i .i64 p3), .sl 0 none, .d (.i .i64 p4)], [.arr tp5 p5]) => (asT 27 tp1 p1).bind fun q1 => (asT 27 tp5 p5).bind fun q5 => some (q1, p2, p3, p4, q5)
    | _ => none
  ok z v h := by
    split at h
    · obtain ⟨q1, hp1, h⟩ := Option.bind_eq_some_iff.1 h
      obtain ⟨q5, hp5, h⟩ := Option.bind_eq_some_iff.1 h
      cases h
      rw [asT_l hp1]
      rw [asT_a hp5]
      all_goals rfl
    · cases h
def io112 : Io T ((List S27) × Bool × (List S27)) where
  enc v := ([.d (.l 27 v.1), .d (.b v.2.1), .sl 0 none], [.arr 27 v.2.2])
  pat
    | ([.d (.l tp1 p1), .d (.b p2), .sl 0 none], [.arr tp3 p3]) => (asT 27 tp1 p1).bind fun q1 => (asT 27 tp3 p3).bind fun q3 => some (q1, p2, q3)
    | _ => none
  ok z v h := by
    split at h
    · obtain ⟨q1, hp1, h⟩ := Option.bind_eq_some_iff.1 h
      obtain ⟨q3, hp3, h⟩ := Option.bind_eq_some_iff.1 h
      cases h
      rw [asT_l hp1]
      rw [asT_a hp3]
      all_goals rfl
    · cases h
def io113 : Io T (Unit) where
  enc v := ([.d .ns], [])
  pat
    | ([.d .ns], []) => some ()
    | _ => none
  ok z v h := by
    split at h
    · cases h
      all_goals rfl
    · cases h
def io114 : Io T (Int × Int) where
  enc v := ([.d .ns, .d .ns, .d (.i .i64 v.1), .d (.i .i64 v.2)], [])
  pat
    | ([.d .ns, .d .ns, .d (.i .i64 p1), .d (.i .i64 p2)], []) => some (p1, p2)
    | _ => none
  ok z v h := by
    split at h
    · cases h
      all_goals rfl
    · cases h
def io115 : Io T (Unit) where
  enc v := ([.d .ns, .fn 14 [.ptr 0 0]], [.box [.d .ns]])
  pat
    | ([.d .ns, .fn 14 [.ptr 0 0]], [.box [.d .ns]]) => some ()
    | _ => none
  ok z v h := by
    split at h
    · cases h
      all_goals rfl
    · cases h
def io116 : Io T (Int) where
  enc v := ([.d (.i .i64 v)], [.box [.d .ns]])
  pat
    | ([.d (.i .i64 p1)], [.box [.d .ns]]) => some p1
    | _ => none
  ok z v h := by
    split at h
    · cases h
      all_goals rfl
    · cases h
def io117 : Io T (Int × Int) where
  enc v := ([.d .ns, .fn 14 [.ptr 0 0], .d (.i .i64 v.1), .d (.i .i64 v.2)], [.box [.d .ns]])
  pat
    | ([.d .ns, .fn 14 [.ptr 0 0], .d (.i .i64 p1), .d (.i .i64 p2)], [.box [.d .ns]]) => some (p1, p2)
    | _ => none
  ok z v h := by
    split at h
    · cases h
      all_goals rfl
    · cases h
def io118 : Io T (Unit) where
  enc v := ([], [.box [.d .ns]])
  pat
    | ([], [.box [.d .ns]]) => some ()
    | _ => none
  ok z v h := by
    split at h
    · cases h
      all_goals rfl
    · cases h
def io119 : Io T (Unit) where
  enc v := ([.d .ns], [.box [.d .ns]])
  pat
    | ([.d .ns], [.box [.d .ns]]) => some ()
    | _ => none
  ok z v h := by
    split at h
    · cases h
      all_goals rfl
    · cases h
def io120 : Io T (Int) where
  enc v := ([.d .ns, .d (.i .i64 v)], [.box [.d .ns]])
  pat
    | ([.d .ns, .d (.i .i64 p1)], [.box [.d .ns]]) => some p1
    | _ => none
  ok z v h := by
    split at h
    · cases h
      all_goals rfl
    · cases h
def io121 : Io T (Int × Int) where
  enc v := ([.ptr 0 0, .d .ns, .ptr 1 0, .fn 16 [.ptr 1 0], .d .ns, .d .ns, .d (.i .i64 v.1), .d (.i .i64 v.2)], [.box [.d .ns], .box [.d .ns]])
  pat
    | ([.ptr 0 0, .d .ns, .ptr 1 0, .fn 16 [.ptr 1 0], .d .ns, .d .ns, .d (.i .i64 p1), .d (.i .i64 p2)], [.box [.d .ns], .box [.d .ns]]) => some (p1, p2)
    | _ => none
  ok z v h := by
    split at h
    · cases h
      all_goals rfl
    · cases h
def io122 : Io T (Unit) where
  enc v := ([.ptr 0 0, .d .ns, .ptr 1 0, .d .ns], [.box [.d .ns], .box [.d .ns]])
  pat
    | ([.ptr 0 0, .d .ns, .ptr 1 0, .d .ns], [.box [.d .ns], .box [.d .ns]]) => some ()
    | _ => none
  ok z v h := by
    split at h
    · cases h
      all_goals rfl
    · cases h
def io123 : Io T (Unit) where
  enc v := ([.ptr 0 0, .d .ns, .ptr 1 0], [.box [.d .ns], .box [.d .ns]])
  pat
    | ([.ptr 0 0, .d .ns, .ptr 1 0], [.box [.d .ns], .box [.d .ns]]) => some ()
    | _ => none
  ok z v h := by
    split at h
    · cases h
      all_goals rfl
    · cases h
def io124 : Io T (Unit) where
  enc v := ([.ptr 0 0, .d .ns], [.box [.d .ns]])
  pat
    | ([.ptr 0 0, .d .ns], [.box [.d .ns]]) => some ()
    | _ => none
  ok z v h := by
    split at h
    · cases h
      all_goals rfl
    · cases h
def io125 : Io T (Int × Int) where
  enc v := ([.d .ns, .d .ns, .d .ns, .d (.i .i64 v.1), .d (.i .i64 v.2)], [])
  pat
    | ([.d .ns, .d .ns, .d .ns, .d (.i .i64 p1), .d (.i .i64 p2)], []) => some (p1, p2)
    | _ => none
  ok z v h := by
    split at h
    · cases h
      all_goals rfl
    · cases h
def io126 : Io T (List S27) where
  enc v := ([.d (.l 27 v), .d .ns], [])
  pat
    | ([.d (.l tp1 p1), .d .ns], []) => (asT 27 tp1 p1).bind fun q1 => some q1
    | _ => none
  ok z v h := by
    split at h
    · obtain ⟨q1, hp1, h⟩ := Option.bind_eq_some_iff.1 h
      cases h
      rw [asT_l hp1]
      all_goals rfl
    · cases h
def io127 : Io T ((List S27) × Int) where
  enc v := ([.d (.l 27 v.1), .d .ns, .d (.i .i64 v.2)], [])
  pat
    | ([.d (.l tp1 p1), .d .ns, .d (.i .i64 p2)], []) => (asT 27 tp1 p1).bind fun q1 => some (q1, p2)
    | _ => none
  ok z v h := by
    split at h
    · obtain ⟨q1, hp1, h⟩ := Option.bind_eq_some_iff.1 h
      cases h
      rw [asT_l hp1]
      all_goals rfl
    · cases h
def io128 : Io T ((List S27) × Bool × Int × Int × (List S27)) where
  enc v := ([.d (.l 27 v.1), .d (.b v.2.1), .sl 0 none, .d (.i .i64 v.2.2.1), .d (.i .i64 v.2.2.2.1)], [.arr 27 v.2.2.2.2])
  pat
    | ([.d (.l tp1 p1), .d (.b p2), .sl 0 none, .d (.i .i64 p3), .d (.i .i64 p4)], [.arr tp5 p5]) => (asT 27 tp1 p1).bind fun q1 => (asT 27 tp5 p5).bind fun q5 => some (q1, p2, p3, p4, q5)
    | _ => none
  ok z v h := by
    split at h
    · obtain ⟨q1, hp1, h⟩ := Option.bind_eq_some_iff.1 h
      obtain ⟨q5, hp5, h⟩ := Option.bind_eq_some_iff.1 h
      cases h
      rw [asT_l hp1]
      rw [asT_a hp5]
      all_goals rfl
    · cases h
def io129 : Io T ((List S27) × Bool × Int × (List S27)) where
  enc v := ([.d (.l 27 v.1), .d (.b v.2.1), .sl 0 none, .d (.i .i64 v.2.2.1)], [.arr 27 v.2.2.2])
  pat
    | ([.d (.l tp1 p1), .d (.b p2), .sl 0 none, .d (.i .i64 p3)], [.arr tp4 p4]) => (asT 27 tp1 p1).bind fun q1 => (asT 27 tp4 p4).bind fun q4 => some (q1, p2, p3, q4)
    | _ => none
  ok z v h := by
    split at h
    · obtain ⟨q1, hp1, h⟩ := Option.bind_eq_some_iff.1 h
      obtain ⟨q4, hp4, h⟩ := Option.bind_eq_some_iff.1 h
      cases h
      rw [asT_l hp1]
      rw [asT_a hp4]
      all_goals rfl
    · cases h
def io130 : Io T (Bool × Int × (List S27) × (List S27) × (List S27)) where
  enc v := ([.d (.b v.1), .sl 0 none, .sl 1 none, .sl 2 none, .d (.i .i64 v.2.1)], [.arr 27 v.2.2.1, .arr 27 v.2.2.2.1, .arr 27 v.2.2.2.2])
  pat
    | ([.d (.b p1), .sl 0 none, .sl 1 none, .sl 2 none, .d (.i .i64 p2)], [.arr tp3 p3, .arr tp4 p4, .arr tp5 p5]) => (asT 27 tp3 p3).bind fun q3 => (asT 27 tp4 p4).bind fun q4 => (asT 27 tp5 p5).bind fun q5 => some (p1, p2, q3, q4, q5)
    | _ => none
  ok z v h := by
    split at h
    · obtain ⟨q3, hp3, h⟩ := Option.bind_eq_some_iff.1 h
      obtain ⟨q4, hp4, h⟩ := Option.bind_eq_some_iff.1 h
      obtain ⟨q5, hp5, h⟩ := Option.bind_eq_some_iff.1 h
      cases h
      rw [asT_a hp3]
      rw [asT_a hp4]
      rw [asT_a hp5]
      all_goals rfl
    · cases h
def io131 : Io T (Bool × (List S27) × (List S27)) where
  enc v := ([.d (.b v.1), .sl 0 none, .sl 1 none], [.arr 27 v.2.1, .arr 27 v.2.2])
  pat
    | ([.d (.b p1), .sl 0 none, .sl 1 none], [.arr tp2 p2, .arr tp3 p3]) => (asT 27 tp2 p2).bind fun q2 => (asT 27 tp3 p3).bind fun q3 => some (p1, q2, q3)
    | _ => none
  ok z v h := by
    split at h
    · obtain ⟨q2, hp2, h⟩ := Option.bind_eq_some_iff.1 h
      obtain ⟨q3, hp3, h⟩ := Option.bind_eq_some_iff.1 h
      cases h
      rw [asT_a hp2]
      rw [asT_a hp3]
      all_goals rfl
    · cases h
def tab0 (k : Nat) : Tab T := noTab
def strings_TrimLeft (k : Nat) (a3 : List UInt8) (a4 : List UInt8) : Option (List UInt8) := trimL a3 a4
def tab1 (k : Nat) : Tab T := addTab 45 (line io0 io1 [] (fun v => strings_TrimLeft k v.1 v.2)) (tab0 k)
def stringslite_HasPrefix (k : Nat) (a1 : List UInt8) (a2 : List UInt8) : Option (Bool) :=
let v3 : Bool := (decide ((a1.length : Int) ≥ (a2.length : Int)))
cond ((decide (0 ≤ (a2.length : Int) ∧ (a2.length : Int) ≤ (a1.length : Int))) || !v3) (
let v4 : List UInt8 := (a1.take (a2.length : Int).toNat)
some (cond v3 (v4 == a2) false)) none
def stringslite_HasPrefix.kr (w0 : World) (k : Nat) : Kr T (Bool) := (kret (retK (cfg w0 (tab1 k)) Tryd.f42.results.toList 0 [] io2.pat))
def stringslite_HasPrefix.cuts (w0 : World) (k : Nat) : Cuts T (Bool) := fun n => none
def stringslite_HasPrefix.body : Code := bodyOf Tryd.f42
theorem stringslite_HasPrefix.e (w0 : World) (k : Nat) : ∀ v, (fun v => stringslite_HasPrefix k v.1 v.2) v = runK (cfg w0 (tab1 k)) Tryd.f42.ntmps (stringslite_HasPrefix.kr w0 k) (annot (stringslite_HasPrefix.cuts w0 k) stringslite_HasPrefix.body) (entry (io0.enc v).1 (io0.enc v).2) (endK (stringslite_HasPrefix.kr w0 k)) := by
  intro v; kernel_rfl
theorem stringslite_HasPrefix.hb : Tryd.f42.body = some stringslite_HasPrefix.body := by kernel_rfl
def tab2 (k : Nat) : Tab T := addTab 42 (line io0 io2 false (fun v => stringslite_HasPrefix k v.1 v.2)) (tab1 k)
def stringslite_CutPrefix (k : Nat) (a1 : List UInt8) (a2 : List UInt8) : Option ((List UInt8) × Bool) :=
(stringslite_HasPrefix k a1 a2).bind fun r3 =>
cond (!r3) (
some (a1, false)) (
cond (decide (0 ≤ (a2.length : Int) ∧ (a2.length : Int) ≤ (a1.length : Int))) (
let v4 : List UInt8 := (a1.drop (a2.length : Int).toNat)
some (v4, true)) none)
def stringslite_CutPrefix.kr (w0 : World) (k : Nat) : Kr T ((List UInt8) × Bool) := (kret (retK (cfg w0 (tab2 k)) Tryd.f64.results.toList 0 [] io3.pat))
def stringslite_CutPrefix.cuts (w0 : World) (k : Nat) : Cuts T ((List UInt8) × Bool) := fun n => none
def stringslite_CutPrefix.body : Code := bodyOf Tryd.f64
theorem stringslite_CutPrefix.e (w0 : World) (k : Nat) : ∀ v, (fun v => stringslite_CutPrefix k v.1 v.2) v = runK (cfg w0 (tab2 k)) Tryd.f64.ntmps (stringslite_CutPrefix.kr w0 k) (annot (stringslite_CutPrefix.cuts w0 k) stringslite_CutPrefix.body) (entry (io0.enc v).1 (io0.enc v).2) (endK (stringslite_CutPrefix.kr w0 k)) := by
  intro v; kernel_rfl
theorem stringslite_CutPrefix.hb : Tryd.f64.body = some stringslite_CutPrefix.body := by kernel_rfl
def tab3 (k : Nat) : Tab T := addTab 64 (line io0 io3 ([], false) (fun v => stringslite_CutPrefix k v.1 v.2)) (tab2 k)
def strings_CutPrefix (k : Nat) (a1 : List UInt8) (a2 : List UInt8) : Option ((List UInt8) × Bool) :=
(stringslite_CutPrefix k a1 a2).bind fun r3 =>
some (r3.1, r3.2)
def strings_CutPrefix.kr (w0 : World) (k : Nat) : Kr T ((List UInt8) × Bool) := (kret (retK (cfg w0 (tab3 k)) Tryd.f46.results.toList 0 [] io3.pat))
def strings_CutPrefix.cuts (w0 : World) (k : Nat) : Cuts T ((List UInt8) × Bool) := fun n => none
def strings_CutPrefix.body : Code := bodyOf Tryd.f46
theorem strings_CutPrefix.e (w0 : World) (k : Nat) : ∀ v, (fun v => strings_CutPrefix k v.1 v.2) v = runK (cfg w0 (tab3 k)) Tryd.f46.ntmps (strings_CutPrefix.kr w0 k) (annot (strings_CutPrefix.cuts w0 k) strings_CutPrefix.body) (entry (io0.enc v).1 (io0.enc v).2) (endK (strings_CutPrefix.kr w0 k)) := by
  intro v; kernel_rfl
theorem strings_CutPrefix.hb : Tryd.f46.body = some strings_CutPrefix.body := by kernel_rfl
def tab4 (k : Nat) : Tab T := addTab 46 (line io0 io3 ([], false) (fun v => strings_CutPrefix k v.1 v.2)) (tab3 k)
def strings_Index (k : Nat) (a5 : List UInt8) (a6 : List UInt8) : Option (Int) := findS a5 a6
def tab5 (k : Nat) : Tab T := addTab 47 (line io0 io4 (0 : Int) (fun v => strings_Index k v.1 v.2)) (tab4 k)
def f__strings_Builder__String (k : Nat) (a14 : List UInt8) : Option ((List UInt8) × (List UInt8)) := some (a14, a14)
def tab6 (k : Nat) : Tab T := addTab 29 (line io5 io6 ([], []) (fun v => f__strings_Builder__String k v)) (tab5 k)
def f__strings_Builder__WriteByte (k : Nat) (a21 : Int) (a22 : List UInt8) : Option (List UInt8) := wByte a22 a21
def tab7 (k : Nat) : Tab T := addTab 59 (line io7 io8 [] (fun v => f__strings_Builder__WriteByte k v.1 v.2)) (tab6 k)
def csstok_text.c7 (k : Nat) : Nat → (List UInt8) → Int → Int → (List UInt8) → (List UInt8) → Int → (List UInt8) → ((List UInt8) → Int → (List UInt8) → (List UInt8) → Int → Option (Int × (List UInt8) × (List UInt8) × Int)) → Option (Int × (List UInt8) × (List UInt8) × Int)
  | 0, _, _, _, _, _, _, _, _ => none
  | n + 1, x2, x3, x4, x5, x6, x7, x8, k0 =>
    let v9 : Bool := (decide (x3 < (x2.length : Int)))
    cond v9 (
    cond (decide (0 ≤ x3 ∧ x3 < (x2.length : Int))) (
    let v10 : Int := ((x2.getD x3.toNat 0).toNat : Int)
    cond (decide (0 ≤ (0 : Int) ∧ (0 : Int) < (x2.length : Int))) (
    let v11 : Int := ((x2.getD (0 : Int).toNat 0).toNat : Int)
    cond (v10 == v11) (
    let v12 : Int := (IntKind.wrap .i64 (x3 + (1 : Int)))
    cond (decide (0 ≤ v12 ∧ v12 ≤ (x2.length : Int))) (
    (f__strings_Builder__String k x8).bind fun r13 =>
    some ((5 : Int), (x2.take v12.toNat), r13.1, (0 : Int))) none) (
    cond (v10 == (10 : Int)) (
    cond (decide (0 ≤ x3 ∧ x3 ≤ (x2.length : Int))) (
    some ((6 : Int), (x2.take x3.toNat), [], (0 : Int))) none) (
    let v14 : Int := (IntKind.wrap .i64 (x3 + (1 : Int)))
    let v15 : Bool := (decide (v14 < (x2.length : Int)))
    let v16 : Bool := (cond (v10 == (92 : Int)) v15 false)
    cond v16 (
    let v17 : Int := (IntKind.wrap .i64 (x3 + (1 : Int)))
    cond (decide (0 ≤ v17 ∧ v17 < (x2.length : Int))) (
    let v18 : Int := ((x2.getD v17.toNat 0).toNat : Int)
    (f__strings_Builder__WriteByte k v18 x8).bind fun r19 =>
    let v20 : Int := (IntKind.wrap .i64 (v17 + (1 : Int)))
    csstok_text.c7 k n x2 v20 x4 x5 x6 x7 r19 k0) none) (
    (f__strings_Builder__WriteByte k v10 x8).bind fun r21 =>
    let v22 : Int := (IntKind.wrap .i64 (x3 + (1 : Int)))
    csstok_text.c7 k n x2 v22 x4 x5 x6 x7 r21 k0)))) none) none) (
    k0 x2 x4 x5 x6 x7)
def csstok_text (k : Nat) (a1 : List UInt8) : Option (Int × (List UInt8) × (List UInt8) × Int) :=
csstok_text.c7 k k a1 (1 : Int) (0 : Int) ([]) ([]) (0 : Int) ([] : List UInt8) (fun (y23 : List UInt8) (y24 : Int) (y25 : List UInt8) (y26 : List UInt8) (y27 : Int) =>
some ((6 : Int), y23, [], (0 : Int)))
def csstok_text.kr (w0 : World) (k : Nat) : Kr T (Int × (List UInt8) × (List UInt8) × Int) := (kret (retK (cfg w0 (tab7 k)) Tryd.f48.results.toList 0 [] io9.pat))
def csstok_text.x7 : Ex → Option (List Nat × List Sp)
  | .exit 0 => some ([0, 2], [])
  | _ => none
def csstok_text.L7 (k : Nat) (n : Nat) (v : (List UInt8) × Int × Int × (List UInt8) × (List UInt8) × Int × (List UInt8)) (K : Ex → St T → Option (Int × (List UInt8) × (List UInt8) × Int)) : Option (Int × (List UInt8) × (List UInt8) × Int) := csstok_text.c7 k n v.1 v.2.1 v.2.2.1 v.2.2.2.1 v.2.2.2.2.1 v.2.2.2.2.2.1 v.2.2.2.2.2.2 (fun y49 y50 y51 y52 y53 => K (.exit 0) (mkSt [0, 2] (io11.enc (y49, y50, y51, y52, y53))))
def csstok_text.cuts (w0 : World) (k : Nat) : Cuts T (Int × (List UInt8) × (List UInt8) × Int) := fun n => bif n.beq 7 then some (entK (cfg w0 (tab7 k)) 0 [0, 2, 3, 4] [] io10.pat (csstok_text.L7 k k)) else none
def csstok_text.body : Code := bodyOf Tryd.f48
def csstok_text.b7 : Code := findD 7 csstok_text.body
theorem csstok_text.s7 (w0 : World) (k : Nat) : ∀ n v K, csstok_text.L7 k (n + 1) v K = runK (cfg w0 (tab7 k)) Tryd.f48.ntmps (csstok_text.kr w0 k) (annot (csstok_text.cuts w0 k) csstok_text.b7) (mkSt [0, 2, 3, 4] (io10.enc v)) (loopK (cfg w0 (tab7 k)) 0 csstok_text.x7 (entK (cfg w0 (tab7 k)) 0 [0, 2, 3, 4] [] io10.pat (csstok_text.L7 k n)) K) := by
  intro n v K; kernel_rfl
theorem csstok_text.e (w0 : World) (k : Nat) : ∀ v, (fun v => csstok_text k v) v = runK (cfg w0 (tab7 k)) Tryd.f48.ntmps (csstok_text.kr w0 k) (annot (csstok_text.cuts w0 k) csstok_text.body) (entry (io1.enc v).1 (io1.enc v).2) (endK (csstok_text.kr w0 k)) := by
  intro v; kernel_rfl
theorem csstok_text.hb : Tryd.f48.body = some csstok_text.body := by kernel_rfl
def tab8 (k : Nat) : Tab T := addTab 48 (line io1 io9 ((0 : Int), [], [], (0 : Int)) (fun v => csstok_text k v)) (tab7 k)
def csstok_starts (k : Nat) (a1 : Int) : Option (Bool) :=
let v2 : Bool := (cond (decide (a1 ≥ (128 : Int))) true (a1 == (95 : Int)))
let v3 : Int := (IntKind.wrap .u8 (((BitVec.ofInt (IntKind.bits .u8) a1 ||| BitVec.ofInt (IntKind.bits .u8) (32 : Int)).toNat : Int)))
let v4 : Int := (IntKind.wrap .u8 (((BitVec.ofInt (IntKind.bits .u8) a1 ||| BitVec.ofInt (IntKind.bits .u8) (32 : Int)).toNat : Int)))
let v5 : Bool := (cond (decide (v3 ≥ (97 : Int))) (decide (v4 ≤ (122 : Int))) false)
some (cond v2 true v5)
def csstok_starts.kr (w0 : World) (k : Nat) : Kr T (Bool) := (kret (retK (cfg w0 (tab8 k)) Tryd.f66.results.toList 0 [] io2.pat))
def csstok_starts.cuts (w0 : World) (k : Nat) : Cuts T (Bool) := fun n => none
def csstok_starts.body : Code := bodyOf Tryd.f66
theorem csstok_starts.e (w0 : World) (k : Nat) : ∀ v, (fun v => csstok_starts k v) v = runK (cfg w0 (tab8 k)) Tryd.f66.ntmps (csstok_starts.kr w0 k) (annot (csstok_starts.cuts w0 k) csstok_starts.body) (entry (io12.enc v).1 (io12.enc v).2) (endK (csstok_starts.kr w0 k)) := by
  intro v; kernel_rfl
theorem csstok_starts.hb : Tryd.f66.body = some csstok_starts.body := by kernel_rfl
def tab9 (k : Nat) : Tab T := addTab 66 (line io12 io2 false (fun v => csstok_starts k v)) (tab8 k)
def csstok_digit (k : Nat) (a1 : Int) : Option (Bool) :=
let v2 : Bool := (cond (decide (a1 ≥ (48 : Int))) (decide (a1 ≤ (57 : Int))) false)
some v2
def csstok_digit.kr (w0 : World) (k : Nat) : Kr T (Bool) := (kret (retK (cfg w0 (tab9 k)) Tryd.f67.results.toList 0 [] io2.pat))
def csstok_digit.cuts (w0 : World) (k : Nat) : Cuts T (Bool) := fun n => none
def csstok_digit.body : Code := bodyOf Tryd.f67
theorem csstok_digit.e (w0 : World) (k : Nat) : ∀ v, (fun v => csstok_digit k v) v = runK (cfg w0 (tab9 k)) Tryd.f67.ntmps (csstok_digit.kr w0 k) (annot (csstok_digit.cuts w0 k) csstok_digit.body) (entry (io12.enc v).1 (io12.enc v).2) (endK (csstok_digit.kr w0 k)) := by
  intro v; kernel_rfl
theorem csstok_digit.hb : Tryd.f67.body = some csstok_digit.body := by kernel_rfl
def tab10 (k : Nat) : Tab T := addTab 67 (line io12 io2 false (fun v => csstok_digit k v)) (tab9 k)
def csstok_sign (k : Nat) (a1 : Int) : Option (Bool) :=
(csstok_starts k a1).bind fun r2 =>
(cond (!r2) (csstok_digit k a1) (some false)).bind fun r3 =>
let v4 : Bool := (cond (cond r2 true r3) true (a1 == (45 : Int)))
some v4
def csstok_sign.kr (w0 : World) (k : Nat) : Kr T (Bool) := (kret (retK (cfg w0 (tab10 k)) Tryd.f49.results.toList 0 [] io2.pat))
def csstok_sign.cuts (w0 : World) (k : Nat) : Cuts T (Bool) := fun n => none
def csstok_sign.body : Code := bodyOf Tryd.f49
theorem csstok_sign.e (w0 : World) (k : Nat) : ∀ v, (fun v => csstok_sign k v) v = runK (cfg w0 (tab10 k)) Tryd.f49.ntmps (csstok_sign.kr w0 k) (annot (csstok_sign.cuts w0 k) csstok_sign.body) (entry (io12.enc v).1 (io12.enc v).2) (endK (csstok_sign.kr w0 k)) := by
  intro v; kernel_rfl
theorem csstok_sign.hb : Tryd.f49.body = some csstok_sign.body := by kernel_rfl
def tab11 (k : Nat) : Tab T := addTab 49 (line io12 io2 false (fun v => csstok_sign k v)) (tab10 k)
def csstok_escape (k : Nat) (a1 : List UInt8) : Option (Bool) :=
let v2 : Bool := (decide ((a1.length : Int) > (1 : Int)))
cond ((decide (0 ≤ (0 : Int) ∧ (0 : Int) < (a1.length : Int))) || !v2) (
let v3 : Int := ((a1.getD (0 : Int).toNat 0).toNat : Int)
let v4 : Bool := (cond v2 (v3 == (92 : Int)) false)
cond ((decide (0 ≤ (1 : Int) ∧ (1 : Int) < (a1.length : Int))) || !v4) (
let v5 : Int := ((a1.getD (1 : Int).toNat 0).toNat : Int)
let v6 : Bool := (cond v4 (v5 != (10 : Int)) false)
some v6) none) none
def csstok_escape.kr (w0 : World) (k : Nat) : Kr T (Bool) := (kret (retK (cfg w0 (tab11 k)) Tryd.f50.results.toList 0 [] io2.pat))
def csstok_escape.cuts (w0 : World) (k : Nat) : Cuts T (Bool) := fun n => none
def csstok_escape.body : Code := bodyOf Tryd.f50
theorem csstok_escape.e (w0 : World) (k : Nat) : ∀ v, (fun v => csstok_escape k v) v = runK (cfg w0 (tab11 k)) Tryd.f50.ntmps (csstok_escape.kr w0 k) (annot (csstok_escape.cuts w0 k) csstok_escape.body) (entry (io1.enc v).1 (io1.enc v).2) (endK (csstok_escape.kr w0 k)) := by
  intro v; kernel_rfl
theorem csstok_escape.hb : Tryd.f50.body = some csstok_escape.body := by kernel_rfl
def tab12 (k : Nat) : Tab T := addTab 50 (line io1 io2 false (fun v => csstok_escape k v)) (tab11 k)
def csstok_name.c7 (k : Nat) : Nat → (List UInt8) → Int → (List UInt8) → (Int → (List UInt8) → Option ((List UInt8) × Int)) → Option ((List UInt8) × Int)
  | 0, _, _, _, _ => none
  | n + 1, x2, x3, x4, k0 =>
    let v5 : Bool := (decide (x3 < (x2.length : Int)))
    cond v5 (
    cond (decide (0 ≤ x3 ∧ x3 ≤ (x2.length : Int))) (
    (csstok_escape k (x2.drop x3.toNat)).bind fun r6 =>
    cond r6 (
    let v7 : Int := (IntKind.wrap .i64 (x3 + (1 : Int)))
    cond (decide (0 ≤ v7 ∧ v7 < (x2.length : Int))) (
    let v8 : Int := ((x2.getD v7.toNat 0).toNat : Int)
    (f__strings_Builder__WriteByte k v8 x4).bind fun r9 =>
    let v10 : Int := (IntKind.wrap .i64 (x3 + (2 : Int)))
    csstok_name.c7 k n x2 v10 r9 k0) none) (
    cond (decide (0 ≤ x3 ∧ x3 < (x2.length : Int))) (
    let v11 : Int := ((x2.getD x3.toNat 0).toNat : Int)
    (csstok_sign k v11).bind fun r12 =>
    cond r12 (
    cond (decide (0 ≤ x3 ∧ x3 < (x2.length : Int))) (
    let v13 : Int := ((x2.getD x3.toNat 0).toNat : Int)
    (f__strings_Builder__WriteByte k v13 x4).bind fun r14 =>
    let v15 : Int := (IntKind.wrap .i64 (x3 + (1 : Int)))
    csstok_name.c7 k n x2 v15 r14 k0) none) (
    (f__strings_Builder__String k x4).bind fun r16 =>
    some (r16.1, x3))) none)) none) (
    k0 x3 x4)
def csstok_name (k : Nat) (a1 : List UInt8) : Option ((List UInt8) × Int) :=
csstok_name.c7 k k a1 (0 : Int) ([] : List UInt8) (fun (y17 : Int) (y18 : List UInt8) =>
(f__strings_Builder__String k y18).bind fun r19 =>
some (r19.1, y17))
def csstok_name.kr (w0 : World) (k : Nat) : Kr T ((List UInt8) × Int) := (kret (retK (cfg w0 (tab12 k)) Tryd.f68.results.toList 0 [] io13.pat))
def csstok_name.x7 : Ex → Option (List Nat × List Sp)
  | .exit 0 => some ([4, 5], [])
  | _ => none
def csstok_name.L7 (k : Nat) (n : Nat) (v : (List UInt8) × Int × (List UInt8)) (K : Ex → St T → Option ((List UInt8) × Int)) : Option ((List UInt8) × Int) := csstok_name.c7 k n v.1 v.2.1 v.2.2 (fun y54 y55 => K (.exit 0) (mkSt [4, 5] (io15.enc (y54, y55))))
def csstok_name.cuts (w0 : World) (k : Nat) : Cuts T ((List UInt8) × Int) := fun n => bif n.beq 7 then some (entK (cfg w0 (tab12 k)) 0 [0, 4, 5] [] io14.pat (csstok_name.L7 k k)) else none
def csstok_name.body : Code := bodyOf Tryd.f68
def csstok_name.b7 : Code := findD 7 csstok_name.body
theorem csstok_name.s7 (w0 : World) (k : Nat) : ∀ n v K, csstok_name.L7 k (n + 1) v K = runK (cfg w0 (tab12 k)) Tryd.f68.ntmps (csstok_name.kr w0 k) (annot (csstok_name.cuts w0 k) csstok_name.b7) (mkSt [0, 4, 5] (io14.enc v)) (loopK (cfg w0 (tab12 k)) 0 csstok_name.x7 (entK (cfg w0 (tab12 k)) 0 [0, 4, 5] [] io14.pat (csstok_name.L7 k n)) K) := by
  intro n v K; kernel_rfl
theorem csstok_name.e (w0 : World) (k : Nat) : ∀ v, (fun v => csstok_name k v) v = runK (cfg w0 (tab12 k)) Tryd.f68.ntmps (csstok_name.kr w0 k) (annot (csstok_name.cuts w0 k) csstok_name.body) (entry (io1.enc v).1 (io1.enc v).2) (endK (csstok_name.kr w0 k)) := by
  intro v; kernel_rfl
theorem csstok_name.hb : Tryd.f68.body = some csstok_name.body := by kernel_rfl
def tab13 (k : Nat) : Tab T := addTab 68 (line io1 io13 ([], (0 : Int)) (fun v => csstok_name k v)) (tab12 k)
def csstok_named (k : Nat) (a1 : Int) (a2 : List UInt8) (a3 : Int) : Option (Int × (List UInt8) × (List UInt8) × Int) :=
cond (decide (0 ≤ a3 ∧ a3 ≤ (a2.length : Int))) (
(csstok_name k (a2.drop a3.toNat)).bind fun r4 =>
let v5 : Int := (IntKind.wrap .i64 (a3 + r4.2))
cond (decide (0 ≤ v5 ∧ v5 ≤ (a2.length : Int))) (
some (a1, (a2.take v5.toNat), r4.1, (0 : Int))) none) none
def csstok_named.kr (w0 : World) (k : Nat) : Kr T (Int × (List UInt8) × (List UInt8) × Int) := (kret (retK (cfg w0 (tab13 k)) Tryd.f51.results.toList 0 [] io9.pat))
def csstok_named.cuts (w0 : World) (k : Nat) : Cuts T (Int × (List UInt8) × (List UInt8) × Int) := fun n => none
def csstok_named.body : Code := bodyOf Tryd.f51
theorem csstok_named.e (w0 : World) (k : Nat) : ∀ v, (fun v => csstok_named k v.1 v.2.1 v.2.2) v = runK (cfg w0 (tab13 k)) Tryd.f51.ntmps (csstok_named.kr w0 k) (annot (csstok_named.cuts w0 k) csstok_named.body) (entry (io16.enc v).1 (io16.enc v).2) (endK (csstok_named.kr w0 k)) := by
  intro v; kernel_rfl
theorem csstok_named.hb : Tryd.f51.body = some csstok_named.body := by kernel_rfl
def tab14 (k : Nat) : Tab T := addTab 51 (line io16 io9 ((0 : Int), [], [], (0 : Int)) (fun v => csstok_named k v.1 v.2.1 v.2.2)) (tab13 k)
def csstok_begins (k : Nat) (a1 : List UInt8) : Option (Bool) :=
cond (a1 == ([] : List UInt8)) (
some false) (
cond (decide (0 ≤ (0 : Int) ∧ (0 : Int) < (a1.length : Int))) (
let v2 : Int := ((a1.getD (0 : Int).toNat 0).toNat : Int)
let v3 : Bool := (decide ((a1.length : Int) > (1 : Int)))
let v4 : Bool := (cond (v2 == (45 : Int)) v3 false)
cond v4 (
cond (decide (0 ≤ (1 : Int) ∧ (1 : Int) < (a1.length : Int))) (
let v5 : Int := ((a1.getD (1 : Int).toNat 0).toNat : Int)
cond ((decide (0 ≤ (1 : Int) ∧ (1 : Int) < (a1.length : Int))) || !(!(v5 == (45 : Int)))) (
let v6 : Int := ((a1.getD (1 : Int).toNat 0).toNat : Int)
(cond (!(v5 == (45 : Int))) (csstok_starts k v6) (some false)).bind fun r7 =>
let v8 : Bool := (cond (v5 == (45 : Int)) true r7)
cond ((decide (0 ≤ (1 : Int) ∧ (1 : Int) ≤ (a1.length : Int))) || !(!v8)) (
(cond (!v8) (csstok_escape k (a1.drop (1 : Int).toNat)) (some false)).bind fun r9 =>
some (cond v8 true r9)) none) none) none) (
cond (decide (0 ≤ (0 : Int) ∧ (0 : Int) < (a1.length : Int))) (
let v10 : Int := ((a1.getD (0 : Int).toNat 0).toNat : Int)
(csstok_starts k v10).bind fun r11 =>
(cond (!r11) (csstok_escape k a1) (some false)).bind fun r12 =>
some (cond r11 true r12)) none)) none)
def csstok_begins.kr (w0 : World) (k : Nat) : Kr T (Bool) := (kret (retK (cfg w0 (tab14 k)) Tryd.f52.results.toList 0 [] io2.pat))
def csstok_begins.cuts (w0 : World) (k : Nat) : Cuts T (Bool) := fun n => none
def csstok_begins.body : Code := bodyOf Tryd.f52
theorem csstok_begins.e (w0 : World) (k : Nat) : ∀ v, (fun v => csstok_begins k v) v = runK (cfg w0 (tab14 k)) Tryd.f52.ntmps (csstok_begins.kr w0 k) (annot (csstok_begins.cuts w0 k) csstok_begins.body) (entry (io1.enc v).1 (io1.enc v).2) (endK (csstok_begins.kr w0 k)) := by
  intro v; kernel_rfl
theorem csstok_begins.hb : Tryd.f52.body = some csstok_begins.body := by kernel_rfl
def tab15 (k : Nat) : Tab T := addTab 52 (line io1 io2 false (fun v => csstok_begins k v)) (tab14 k)
def csstok_digits (k : Nat) (a1 : List UInt8) : Option (Int) :=
(strings_TrimLeft k a1 ([48, 49, 50, 51, 52, 53, 54, 55, 56, 57] : List UInt8)).bind fun r2 =>
let v3 : Int := (IntKind.wrap .i64 ((a1.length : Int) - (r2.length : Int)))
some v3
def csstok_digits.kr (w0 : World) (k : Nat) : Kr T (Int) := (kret (retK (cfg w0 (tab15 k)) Tryd.f69.results.toList 0 [] io4.pat))
def csstok_digits.cuts (w0 : World) (k : Nat) : Cuts T (Int) := fun n => none
def csstok_digits.body : Code := bodyOf Tryd.f69
theorem csstok_digits.e (w0 : World) (k : Nat) : ∀ v, (fun v => csstok_digits k v) v = runK (cfg w0 (tab15 k)) Tryd.f69.ntmps (csstok_digits.kr w0 k) (annot (csstok_digits.cuts w0 k) csstok_digits.body) (entry (io1.enc v).1 (io1.enc v).2) (endK (csstok_digits.kr w0 k)) := by
  intro v; kernel_rfl
theorem csstok_digits.hb : Tryd.f69.body = some csstok_digits.body := by kernel_rfl
def tab16 (k : Nat) : Tab T := addTab 69 (line io1 io4 (0 : Int) (fun v => csstok_digits k v)) (tab15 k)
def strings_HasPrefix (k : Nat) (a1 : List UInt8) (a2 : List UInt8) : Option (Bool) :=
(stringslite_HasPrefix k a1 a2).bind fun r3 =>
some r3
def strings_HasPrefix.kr (w0 : World) (k : Nat) : Kr T (Bool) := (kret (retK (cfg w0 (tab16 k)) Tryd.f32.results.toList 0 [] io2.pat))
def strings_HasPrefix.cuts (w0 : World) (k : Nat) : Cuts T (Bool) := fun n => none
def strings_HasPrefix.body : Code := bodyOf Tryd.f32
theorem strings_HasPrefix.e (w0 : World) (k : Nat) : ∀ v, (fun v => strings_HasPrefix k v.1 v.2) v = runK (cfg w0 (tab16 k)) Tryd.f32.ntmps (strings_HasPrefix.kr w0 k) (annot (strings_HasPrefix.cuts w0 k) strings_HasPrefix.body) (entry (io0.enc v).1 (io0.enc v).2) (endK (strings_HasPrefix.kr w0 k)) := by
  intro v; kernel_rfl
theorem strings_HasPrefix.hb : Tryd.f32.body = some strings_HasPrefix.body := by kernel_rfl
def tab17 (k : Nat) : Tab T := addTab 32 (line io0 io2 false (fun v => strings_HasPrefix k v.1 v.2)) (tab16 k)
def csstok_Number_1 (k : Nat) (a1 : Int) (a2 : Int) : Option (Int) :=
let v3 : Int := (IntKind.wrap .i64 ((10 : Int) * a2))
let v4 : Int := (IntKind.wrap .u8 (a1 - (48 : Int)))
let v5 : Int := (IntKind.wrap .i64 (v3 + (IntKind.wrap .i64 v4)))
let v6 : Int := (if (1000000000 : Int) < v5 then (1000000000 : Int) else v5)
some v6
def csstok_Number_1.kr (w0 : World) (k : Nat) : Kr T (Int) := (kret (retK (cfg w0 (tab17 k)) Tryd.f70.results.toList 1 [] io18.pat))
def csstok_Number_1.cuts (w0 : World) (k : Nat) : Cuts T (Int) := fun n => none
def csstok_Number_1.body : Code := bodyOf Tryd.f70
theorem csstok_Number_1.e (w0 : World) (k : Nat) : ∀ v, (fun v => csstok_Number_1 k v.1 v.2) v = runK (cfg w0 (tab17 k)) Tryd.f70.ntmps (csstok_Number_1.kr w0 k) (annot (csstok_Number_1.cuts w0 k) csstok_Number_1.body) (entry (io17.enc v).1 (io17.enc v).2) (endK (csstok_Number_1.kr w0 k)) := by
  intro v; kernel_rfl
theorem csstok_Number_1.hb : Tryd.f70.body = some csstok_Number_1.body := by kernel_rfl
def tab18 (k : Nat) : Tab T := addTab 70 (line io17 io18 (0 : Int) (fun v => csstok_Number_1 k v.1 v.2)) (tab17 k)
def csstok_Number.c29 (k : Nat) : Nat → (List UInt8) → Int → Int → Int → Int → Int → Int → (List Int) → ((List UInt8) → Int → Int → Int → Int → Option (Int × Int)) → Option (Int × Int)
  | 0, _, _, _, _, _, _, _, _, _ => none
  | n + 1, x19, x20, x21, x22, x23, x24, x25, x26, k0 =>
    cond (decide (x24 < x23)) (
    cond (decide (0 ≤ x24 ∧ x24 < (x26.length : Int))) (
    (csstok_Number_1 k (x26.getD x24.toNat (0 : Int)) x25).bind fun r27 =>
    let v28 : Int := (IntKind.wrap .i64 (x24 + (1 : Int)))
    csstok_Number.c29 k n x19 x20 x21 x22 x23 v28 r27 x26 k0) none) (
    k0 x19 x20 x21 x22 x25)
def csstok_Number.c49 (k : Nat) : Nat → (List UInt8) → Int → (List UInt8) → Int → Int → ((List UInt8) → Int → Int → Option (Int × Int)) → Option (Int × Int)
  | 0, _, _, _, _, _, _ => none
  | n + 1, x45, x46, x47, x48, x49, k2 =>
    cond (decide (x48 < (3 : Int))) (
    let v50 : Bool := (decide (x48 < (x47.length : Int)))
    cond v50 (
    cond (decide (0 ≤ x48 ∧ x48 < (x47.length : Int))) (
    let v51 : Int := ((x47.getD x48.toNat 0).toNat : Int)
    (csstok_Number_1 k v51 x49).bind fun r52 =>
    let v53 : Int := (IntKind.wrap .i64 (x48 + (1 : Int)))
    csstok_Number.c49 k n x45 x46 x47 v53 r52 k2) none) (
    (csstok_Number_1 k (48 : Int) x49).bind fun r54 =>
    let v55 : Int := (IntKind.wrap .i64 (x48 + (1 : Int)))
    csstok_Number.c49 k n x45 x46 x47 v55 r54 k2)) (
    k2 x45 x46 x49)
def csstok_Number.c64 (k : Nat) (x60 : Int) (x61 : Int)  : Option (Int × Int) :=
some (x61, x60)
def csstok_Number.c46 (k : Nat) (x41 : List UInt8) (x42 : Int) (x43 : List UInt8) (x44 : Int)  : Option (Int × Int) :=
csstok_Number.c49 k k x41 x42 x43 (0 : Int) x44 (fun (y56 : List UInt8) (y57 : Int) (y58 : Int) =>
cond (decide (0 ≤ (0 : Int) ∧ (0 : Int) < (y56.length : Int))) (
let v59 : Int := ((y56.getD (0 : Int).toNat 0).toNat : Int)
cond (v59 == (45 : Int)) (
csstok_Number.c64 k y57 (IntKind.wrap .i64 (0 - y58))) (
csstok_Number.c64 k y57 y58)) none)
def csstok_Number.c18 (k : Nat) (x12 : List UInt8) (x13 : Int) (x14 : Int) (x15 : Int)  : Option (Int × Int) :=
let v16 : Int := (IntKind.wrap .i64 (x14 + x15))
cond (v16 == (0 : Int)) (
some ((0 : Int), (0 : Int))) (
let v17 : Int := (IntKind.wrap .i64 (x13 + x14))
cond (decide (0 ≤ x13 ∧ x13 ≤ v17 ∧ v17 ≤ (x12.length : Int))) (
let v18 : List UInt8 := ((x12.take v17.toNat).drop x13.toNat)
csstok_Number.c29 k k x12 x13 x14 x15 ((bytesI v18).length : Int) (0 : Int) (0 : Int) (bytesI v18) (fun (y29 : List UInt8) (y30 : Int) (y31 : Int) (y32 : Int) (y33 : Int) =>
let v34 : Int := (IntKind.wrap .i64 (y30 + y31))
cond (decide (y32 > (0 : Int))) (
let v35 : Int := (IntKind.wrap .i64 (v34 + (1 : Int)))
let v36 : Int := (IntKind.wrap .i64 (v34 + (1 : Int)))
let v37 : Int := (IntKind.wrap .i64 (v36 + y32))
cond (decide (0 ≤ v35 ∧ v35 ≤ v37 ∧ v37 ≤ (y29.length : Int))) (
let v38 : List UInt8 := ((y29.take v37.toNat).drop v35.toNat)
let v39 : Int := (IntKind.wrap .i64 ((1 : Int) + y32))
let v40 : Int := (IntKind.wrap .i64 (v34 + v39))
csstok_Number.c46 k y29 v40 v38 y33) none) (
csstok_Number.c46 k y29 v34 ([] : List UInt8) y33))) none)
def csstok_Number.c8 (k : Nat) (x6 : List UInt8) (x7 : Int)  : Option (Int × Int) :=
cond (decide (0 ≤ x7 ∧ x7 ≤ (x6.length : Int))) (
(csstok_digits k (x6.drop x7.toNat)).bind fun r8 =>
cond (decide (0 ≤ (IntKind.wrap .i64 (x7 + r8)) ∧ (IntKind.wrap .i64 (x7 + r8)) ≤ (x6.length : Int))) (
let v9 : List UInt8 := (x6.drop (IntKind.wrap .i64 (x7 + r8)).toNat)
(strings_HasPrefix k v9 ([46] : List UInt8)).bind fun r10 =>
cond r10 (
cond (decide (0 ≤ (1 : Int) ∧ (1 : Int) ≤ (v9.length : Int))) (
(csstok_digits k (v9.drop (1 : Int).toNat)).bind fun r11 =>
csstok_Number.c18 k x6 x7 r8 r11) none) (
csstok_Number.c18 k x6 x7 r8 (0 : Int))) none) none
def csstok_Number (k : Nat) (a1 : List UInt8) : Option (Int × Int) :=
cond ((decide (0 ≤ (0 : Int) ∧ (0 : Int) < (a1.length : Int))) || !(!(a1 == ([] : List UInt8)))) (
let v2 : Int := ((a1.getD (0 : Int).toNat 0).toNat : Int)
cond ((decide (0 ≤ (0 : Int) ∧ (0 : Int) < (a1.length : Int))) || !((!(a1 == ([] : List UInt8))) && (!(v2 == (43 : Int))))) (
let v3 : Int := ((a1.getD (0 : Int).toNat 0).toNat : Int)
let v4 : Bool := (cond (v2 == (43 : Int)) true (v3 == (45 : Int)))
let v5 : Bool := (cond (!(a1 == ([] : List UInt8))) v4 false)
cond v5 (
csstok_Number.c8 k a1 (1 : Int)) (
csstok_Number.c8 k a1 (0 : Int))) none) none
def csstok_Number.kr (w0 : World) (k : Nat) : Kr T (Int × Int) := (kret (retK (cfg w0 (tab18 k)) Tryd.f53.results.toList 0 [] io19.pat))
def csstok_Number.x29 : Ex → Option (List Nat × List Sp)
  | .exit 0 => some ([0, 4, 5, 6, 8, 9], [])
  | _ => none
def csstok_Number.L29 (k : Nat) (n : Nat) (v : (List UInt8) × Int × Int × Int × Int × Int × Int × (List Int)) (K : Ex → St T → Option (Int × Int)) : Option (Int × Int) := csstok_Number.c29 k n v.1 v.2.1 v.2.2.1 v.2.2.2.1 v.2.2.2.2.1 v.2.2.2.2.2.1 v.2.2.2.2.2.2.1 v.2.2.2.2.2.2.2 (fun y56 y57 y58 y59 y60 => K (.exit 0) (mkSt [0, 4, 5, 6, 8, 9] (io21.enc (y56, y57, y58, y59, y60))))
def csstok_Number.x49 : Ex → Option (List Nat × List Sp)
  | .exit 2 => some ([0, 8, 12], [])
  | _ => none
def csstok_Number.L49 (k : Nat) (n : Nat) (v : (List UInt8) × Int × (List UInt8) × Int × Int) (K : Ex → St T → Option (Int × Int)) : Option (Int × Int) := csstok_Number.c49 k n v.1 v.2.1 v.2.2.1 v.2.2.2.1 v.2.2.2.2 (fun y61 y62 y63 => K (.exit 2) (mkSt [0, 8, 12] (io23.enc (y61, y62, y63))))
def csstok_Number.x64 : Ex → Option (List Nat × List Sp)
  | _ => none
def csstok_Number.L64 (k : Nat) (v : Int × Int) (K : Ex → St T → Option (Int × Int)) : Option (Int × Int) := csstok_Number.c64 k v.1 v.2
def csstok_Number.x46 : Ex → Option (List Nat × List Sp)
  | _ => none
def csstok_Number.L46 (k : Nat) (v : (List UInt8) × Int × (List UInt8) × Int) (K : Ex → St T → Option (Int × Int)) : Option (Int × Int) := csstok_Number.c46 k v.1 v.2.1 v.2.2.1 v.2.2.2
def csstok_Number.x18 : Ex → Option (List Nat × List Sp)
  | _ => none
def csstok_Number.L18 (k : Nat) (v : (List UInt8) × Int × Int × Int) (K : Ex → St T → Option (Int × Int)) : Option (Int × Int) := csstok_Number.c18 k v.1 v.2.1 v.2.2.1 v.2.2.2
def csstok_Number.x8 : Ex → Option (List Nat × List Sp)
  | _ => none
def csstok_Number.L8 (k : Nat) (v : (List UInt8) × Int) (K : Ex → St T → Option (Int × Int)) : Option (Int × Int) := csstok_Number.c8 k v.1 v.2
def csstok_Number.cuts (w0 : World) (k : Nat) : Cuts T (Int × Int) := fun n => bif n.beq 29 then some (entK (cfg w0 (tab18 k)) 0 [0, 4, 5, 6, 8, 9, 52, 53, 54] [] io20.pat (csstok_Number.L29 k k)) else bif n.beq 49 then some (entK (cfg w0 (tab18 k)) 0 [0, 8, 9, 12, 13, 79] [] io22.pat (csstok_Number.L49 k k)) else bif n.beq 64 then some (entK (cfg w0 (tab18 k)) 0 [8, 12] [] io24.pat (csstok_Number.L64 k)) else bif n.beq 46 then some (entK (cfg w0 (tab18 k)) 0 [0, 8, 9, 12, 13] [] io25.pat (csstok_Number.L46 k)) else bif n.beq 18 then some (entK (cfg w0 (tab18 k)) 0 [0, 4, 5, 6] [] io26.pat (csstok_Number.L18 k)) else bif n.beq 8 then some (entK (cfg w0 (tab18 k)) 0 [0, 4] [] io13.pat (csstok_Number.L8 k)) else none
def csstok_Number.body : Code := bodyOf Tryd.f53
def csstok_Number.b29 : Code := findD 29 csstok_Number.body
theorem csstok_Number.s29 (w0 : World) (k : Nat) : ∀ n v K, csstok_Number.L29 k (n + 1) v K = runK (cfg w0 (tab18 k)) Tryd.f53.ntmps (csstok_Number.kr w0 k) (annot (csstok_Number.cuts w0 k) csstok_Number.b29) (mkSt [0, 4, 5, 6, 8, 9, 52, 53, 54] (io20.enc v)) (loopK (cfg w0 (tab18 k)) 0 csstok_Number.x29 (entK (cfg w0 (tab18 k)) 0 [0, 4, 5, 6, 8, 9, 52, 53, 54] [] io20.pat (csstok_Number.L29 k n)) K) := by
  intro n v K; kernel_rfl
def csstok_Number.b49 : Code := findD 49 csstok_Number.body
theorem csstok_Number.s49 (w0 : World) (k : Nat) : ∀ n v K, csstok_Number.L49 k (n + 1) v K = runK (cfg w0 (tab18 k)) Tryd.f53.ntmps (csstok_Number.kr w0 k) (annot (csstok_Number.cuts w0 k) csstok_Number.b49) (mkSt [0, 8, 9, 12, 13, 79] (io22.enc v)) (loopK (cfg w0 (tab18 k)) 0 csstok_Number.x49 (entK (cfg w0 (tab18 k)) 0 [0, 8, 9, 12, 13, 79] [] io22.pat (csstok_Number.L49 k n)) K) := by
  intro n v K; kernel_rfl
def csstok_Number.b64 : Code := findD 64 csstok_Number.body
theorem csstok_Number.s64 (w0 : World) (k : Nat) : ∀ v K, csstok_Number.L64 k v K = runK (cfg w0 (tab18 k)) Tryd.f53.ntmps (csstok_Number.kr w0 k) (annot (csstok_Number.cuts w0 k) csstok_Number.b64) (mkSt [8, 12] (io24.enc v)) (outK (cfg w0 (tab18 k)) 0 csstok_Number.x64 K) := by
  intro v K; kernel_rfl
def csstok_Number.b46 : Code := findD 46 csstok_Number.body
theorem csstok_Number.s46 (w0 : World) (k : Nat) : ∀ v K, csstok_Number.L46 k v K = runK (cfg w0 (tab18 k)) Tryd.f53.ntmps (csstok_Number.kr w0 k) (annot (csstok_Number.cuts w0 k) csstok_Number.b46) (mkSt [0, 8, 9, 12, 13] (io25.enc v)) (outK (cfg w0 (tab18 k)) 0 csstok_Number.x46 K) := by
  intro v K; kernel_rfl
def csstok_Number.b18 : Code := findD 18 csstok_Number.body
theorem csstok_Number.s18 (w0 : World) (k : Nat) : ∀ v K, csstok_Number.L18 k v K = runK (cfg w0 (tab18 k)) Tryd.f53.ntmps (csstok_Number.kr w0 k) (annot (csstok_Number.cuts w0 k) csstok_Number.b18) (mkSt [0, 4, 5, 6] (io26.enc v)) (outK (cfg w0 (tab18 k)) 0 csstok_Number.x18 K) := by
  intro v K; kernel_rfl
def csstok_Number.b8 : Code := findD 8 csstok_Number.body
theorem csstok_Number.s8 (w0 : World) (k : Nat) : ∀ v K, csstok_Number.L8 k v K = runK (cfg w0 (tab18 k)) Tryd.f53.ntmps (csstok_Number.kr w0 k) (annot (csstok_Number.cuts w0 k) csstok_Number.b8) (mkSt [0, 4] (io13.enc v)) (outK (cfg w0 (tab18 k)) 0 csstok_Number.x8 K) := by
  intro v K; kernel_rfl
theorem csstok_Number.e (w0 : World) (k : Nat) : ∀ v, (fun v => csstok_Number k v) v = runK (cfg w0 (tab18 k)) Tryd.f53.ntmps (csstok_Number.kr w0 k) (annot (csstok_Number.cuts w0 k) csstok_Number.body) (entry (io1.enc v).1 (io1.enc v).2) (endK (csstok_Number.kr w0 k)) := by
  intro v; kernel_rfl
theorem csstok_Number.hb : Tryd.f53.body = some csstok_Number.body := by kernel_rfl
def tab19 (k : Nat) : Tab T := addTab 53 (line io1 io19 ((0 : Int), (0 : Int)) (fun v => csstok_Number k v)) (tab18 k)
def csstok_lower.c7 (k : Nat) : Nat → Int → Int → (List Int) → ((List Int) → Option (List UInt8)) → Option (List UInt8)
  | 0, _, _, _, _ => none
  | n + 1, x2, x3, x4, k0 =>
    cond (decide (x3 < x2)) (
    cond (decide (0 ≤ x3 ∧ x3 < (x4.length : Int))) (
    let v5 : Bool := (decide ((x4.getD x3.toNat (0 : Int)) ≥ (65 : Int)))
    let v6 : Bool := (decide ((x4.getD x3.toNat (0 : Int)) ≤ (90 : Int)))
    cond (cond v5 v6 false) (
    let v7 : Int := (IntKind.wrap .u8 ((x4.getD x3.toNat (0 : Int)) + (32 : Int)))
    cond (decide (0 ≤ x3 ∧ x3 < (x4.length : Int))) (
    let v8 : Int := (IntKind.wrap .i64 (x3 + (1 : Int)))
    csstok_lower.c7 k n x2 v8 (x4.set x3.toNat v7) k0) none) (
    let v9 : Int := (IntKind.wrap .i64 (x3 + (1 : Int)))
    csstok_lower.c7 k n x2 v9 x4 k0)) none) (
    k0 x4)
def csstok_lower (k : Nat) (a1 : List UInt8) : Option (List UInt8) :=
csstok_lower.c7 k k ((bytesI a1).length : Int) (0 : Int) (bytesI a1) (fun (y10 : List Int) =>
some (bytesU y10))
def csstok_lower.kr (w0 : World) (k : Nat) : Kr T (List UInt8) := (kret (retK (cfg w0 (tab19 k)) Tryd.f71.results.toList 0 [] io1.pat))
def csstok_lower.x7 : Ex → Option (List Nat × List Sp)
  | .exit 0 => some ([3], [])
  | _ => none
def csstok_lower.L7 (k : Nat) (n : Nat) (v : Int × Int × (List Int)) (K : Ex → St T → Option (List UInt8)) : Option (List UInt8) := csstok_lower.c7 k n v.1 v.2.1 v.2.2 (fun y64 => K (.exit 0) (mkSt [3] (io28.enc y64)))
def csstok_lower.cuts (w0 : World) (k : Nat) : Cuts T (List UInt8) := fun n => bif n.beq 7 then some (entK (cfg w0 (tab19 k)) 0 [3, 8, 9, 10] [] io27.pat (csstok_lower.L7 k k)) else none
def csstok_lower.body : Code := bodyOf Tryd.f71
def csstok_lower.b7 : Code := findD 7 csstok_lower.body
theorem csstok_lower.s7 (w0 : World) (k : Nat) : ∀ n v K, csstok_lower.L7 k (n + 1) v K = runK (cfg w0 (tab19 k)) Tryd.f71.ntmps (csstok_lower.kr w0 k) (annot (csstok_lower.cuts w0 k) csstok_lower.b7) (mkSt [3, 8, 9, 10] (io27.enc v)) (loopK (cfg w0 (tab19 k)) 0 csstok_lower.x7 (entK (cfg w0 (tab19 k)) 0 [3, 8, 9, 10] [] io27.pat (csstok_lower.L7 k n)) K) := by
  intro n v K; kernel_rfl
theorem csstok_lower.e (w0 : World) (k : Nat) : ∀ v, (fun v => csstok_lower k v) v = runK (cfg w0 (tab19 k)) Tryd.f71.ntmps (csstok_lower.kr w0 k) (annot (csstok_lower.cuts w0 k) csstok_lower.body) (entry (io1.enc v).1 (io1.enc v).2) (endK (csstok_lower.kr w0 k)) := by
  intro v; kernel_rfl
theorem csstok_lower.hb : Tryd.f71.body = some csstok_lower.body := by kernel_rfl
def tab20 (k : Nat) : Tab T := addTab 71 (line io1 io1 [] (fun v => csstok_lower k v)) (tab19 k)
def csstok_number.c16 (k : Nat) (x6 : Int) (x7 : List UInt8) (x8 : List UInt8) (x9 : Int) (x10 : Int) (x11 : List UInt8) (x12 : List UInt8) (x13 : Int)  : Option (Int × (List UInt8) × (List UInt8) × Int) :=
some (x10, x11, x12, x13)
def csstok_number (k : Nat) (a1 : List UInt8) (a2 : Int) (a3 : Int) : Option (Int × (List UInt8) × (List UInt8) × Int) :=
cond (decide (0 ≤ a3 ∧ a3 ≤ (a1.length : Int))) (
cond (decide (0 ≤ a3 ∧ a3 ≤ (a1.length : Int))) (
(strings_HasPrefix k (a1.drop a3.toNat) ([37] : List UInt8)).bind fun r4 =>
cond r4 (
let v5 : Int := (IntKind.wrap .i64 (a3 + (1 : Int)))
cond (decide (0 ≤ v5 ∧ v5 ≤ (a1.length : Int))) (
csstok_number.c16 k (0 : Int) ([]) ([]) (0 : Int) (7 : Int) (a1.take v5.toNat) ([37] : List UInt8) a2) none) (
(csstok_begins k (a1.drop a3.toNat)).bind fun r14 =>
cond r14 (
(csstok_name k (a1.drop a3.toNat)).bind fun r15 =>
let v16 : Int := (IntKind.wrap .i64 (a3 + r15.2))
cond (decide (0 ≤ v16 ∧ v16 ≤ (a1.length : Int))) (
(csstok_lower k r15.1).bind fun r17 =>
csstok_number.c16 k (0 : Int) ([]) ([]) (0 : Int) (7 : Int) (a1.take v16.toNat) r17 a2) none) (
csstok_number.c16 k (0 : Int) ([]) ([]) (0 : Int) (7 : Int) (a1.take a3.toNat) ([]) a2))) none) none
def csstok_number.kr (w0 : World) (k : Nat) : Kr T (Int × (List UInt8) × (List UInt8) × Int) := (kret (retK (cfg w0 (tab20 k)) Tryd.f54.results.toList 0 [] io9.pat))
def csstok_number.x16 : Ex → Option (List Nat × List Sp)
  | _ => none
def csstok_number.L16 (k : Nat) (v : Int × (List UInt8) × (List UInt8) × Int × Int × (List UInt8) × (List UInt8) × Int) (K : Ex → St T → Option (Int × (List UInt8) × (List UInt8) × Int)) : Option (Int × (List UInt8) × (List UInt8) × Int) := csstok_number.c16 k v.1 v.2.1 v.2.2.1 v.2.2.2.1 v.2.2.2.2.1 v.2.2.2.2.2.1 v.2.2.2.2.2.2.1 v.2.2.2.2.2.2.2
def csstok_number.cuts (w0 : World) (k : Nat) : Cuts T (Int × (List UInt8) × (List UInt8) × Int) := fun n => bif n.beq 16 then some (entK (cfg w0 (tab20 k)) 0 [6, 7] [] io30.pat (csstok_number.L16 k)) else none
def csstok_number.body : Code := bodyOf Tryd.f54
def csstok_number.b16 : Code := findD 16 csstok_number.body
theorem csstok_number.s16 (w0 : World) (k : Nat) : ∀ v K, csstok_number.L16 k v K = runK (cfg w0 (tab20 k)) Tryd.f54.ntmps (csstok_number.kr w0 k) (annot (csstok_number.cuts w0 k) csstok_number.b16) (mkSt [6, 7] (io30.enc v)) (outK (cfg w0 (tab20 k)) 0 csstok_number.x16 K) := by
  intro v K; kernel_rfl
theorem csstok_number.e (w0 : World) (k : Nat) : ∀ v, (fun v => csstok_number k v.1 v.2.1 v.2.2) v = runK (cfg w0 (tab20 k)) Tryd.f54.ntmps (csstok_number.kr w0 k) (annot (csstok_number.cuts w0 k) csstok_number.body) (entry (io29.enc v).1 (io29.enc v).2) (endK (csstok_number.kr w0 k)) := by
  intro v; kernel_rfl
theorem csstok_number.hb : Tryd.f54.body = some csstok_number.body := by kernel_rfl
def tab21 (k : Nat) : Tab T := addTab 54 (line io29 io9 ((0 : Int), [], [], (0 : Int)) (fun v => csstok_number k v.1 v.2.1 v.2.2)) (tab20 k)
def csstok_first_1 (k : Nat) (a1 : Int) (a2 : List UInt8) : Option (Int × (List UInt8) × (List UInt8) × Int × (List UInt8)) :=
cond (decide (0 ≤ (1 : Int) ∧ (1 : Int) ≤ (a2.length : Int))) (
some (a1, (a2.take (1 : Int).toNat), [], (0 : Int), a2)) none
def csstok_first_1.kr (w0 : World) (k : Nat) : Kr T (Int × (List UInt8) × (List UInt8) × Int × (List UInt8)) := (kret (retK (cfg w0 (tab21 k)) Tryd.f44.results.toList 1 [] io32.pat))
def csstok_first_1.cuts (w0 : World) (k : Nat) : Cuts T (Int × (List UInt8) × (List UInt8) × Int × (List UInt8)) := fun n => none
def csstok_first_1.body : Code := bodyOf Tryd.f44
theorem csstok_first_1.e (w0 : World) (k : Nat) : ∀ v, (fun v => csstok_first_1 k v.1 v.2) v = runK (cfg w0 (tab21 k)) Tryd.f44.ntmps (csstok_first_1.kr w0 k) (annot (csstok_first_1.cuts w0 k) csstok_first_1.body) (entry (io31.enc v).1 (io31.enc v).2) (endK (csstok_first_1.kr w0 k)) := by
  intro v; kernel_rfl
theorem csstok_first_1.hb : Tryd.f44.body = some csstok_first_1.body := by kernel_rfl
def tab22 (k : Nat) : Tab T := addTab 44 (line io31 io32 ((0 : Int), [], [], (0 : Int), []) (fun v => csstok_first_1 k v.1 v.2)) (tab21 k)
def csstok_first.c20 (k : Nat) (x7 : List UInt8) (x8 : Int) (x9 : List UInt8) (x10 : List UInt8) (x11 : Int)  : Option (Int × (List UInt8) × (List UInt8) × Int) :=
some ((9 : Int), x7, [], (0 : Int))
def csstok_first.c52 (k : Nat) (x32 : Int) (x33 : List UInt8) (x34 : List UInt8) (x35 : Int) (x36 : Int) (x37 : List UInt8) (x38 : List UInt8) (x39 : Int)  : Option (Int × (List UInt8) × (List UInt8) × Int) :=
some (x36, x37, x38, x39)
def csstok_first.c76 (k : Nat) (x44 : Int) (x45 : List UInt8) (x46 : List UInt8) (x47 : Int) (x48 : List UInt8)  : Option (Int × (List UInt8) × (List UInt8) × Int) :=
(csstok_first_1 k (12 : Int) x48).bind fun r49 =>
some (r49.1, r49.2.1, r49.2.2.1, r49.2.2.2.1)
def csstok_first (k : Nat) (a1 : List UInt8) : Option (Int × (List UInt8) × (List UInt8) × Int) :=
(strings_TrimLeft k a1 ([32, 9, 10, 12, 13] : List UInt8)).bind fun r2 =>
let v3 : Int := (IntKind.wrap .i64 ((a1.length : Int) - (r2.length : Int)))
cond (decide (v3 > (0 : Int))) (
cond (decide (0 ≤ v3 ∧ v3 ≤ (a1.length : Int))) (
some ((8 : Int), (a1.take v3.toNat), [], (0 : Int))) none) (
(strings_CutPrefix k a1 ([47, 42] : List UInt8)).bind fun r4 =>
cond r4.2 (
(strings_Index k r4.1 ([42, 47] : List UInt8)).bind fun r5 =>
cond (decide (r5 ≥ (0 : Int))) (
let v6 : Int := (IntKind.wrap .i64 (r5 + (4 : Int)))
cond (decide (0 ≤ v6 ∧ v6 ≤ (a1.length : Int))) (
csstok_first.c20 k (a1.take v6.toNat) (0 : Int) ([]) ([]) (0 : Int)) none) (
csstok_first.c20 k a1 (0 : Int) ([]) ([]) (0 : Int))) (
cond (decide (0 ≤ (0 : Int) ∧ (0 : Int) < (a1.length : Int))) (
let v12 : Int := ((a1.getD (0 : Int).toNat 0).toNat : Int)
let v13 : Bool := (cond (v12 == (39 : Int)) true (v12 == (34 : Int)))
cond v13 (
(csstok_text k a1).bind fun r14 =>
some (r14.1, r14.2.1, r14.2.2.1, r14.2.2.2)) (
let v15 : Bool := (decide ((a1.length : Int) > (1 : Int)))
let v16 : Bool := (cond (v12 == (35 : Int)) v15 false)
cond ((decide (0 ≤ (1 : Int) ∧ (1 : Int) < (a1.length : Int))) || !v16) (
let v17 : Int := ((a1.getD (1 : Int).toNat 0).toNat : Int)
(cond v16 (csstok_sign k v17) (some false)).bind fun r18 =>
cond ((decide (0 ≤ (1 : Int) ∧ (1 : Int) ≤ (a1.length : Int))) || !(v16 && (!r18))) (
(cond (v16 && (!r18)) (csstok_escape k (a1.drop (1 : Int).toNat)) (some false)).bind fun r19 =>
let v20 : Bool := (cond v16 (cond r18 true r19) false)
cond v20 (
(csstok_named k (4 : Int) a1 (1 : Int)).bind fun r21 =>
some (r21.1, r21.2.1, r21.2.2.1, r21.2.2.2)) (
cond ((decide (0 ≤ (1 : Int) ∧ (1 : Int) ≤ (a1.length : Int))) || !(v12 == (64 : Int))) (
(cond (v12 == (64 : Int)) (csstok_begins k (a1.drop (1 : Int).toNat)) (some false)).bind fun r22 =>
let v23 : Bool := (cond (v12 == (64 : Int)) r22 false)
cond v23 (
(csstok_named k (3 : Int) a1 (1 : Int)).bind fun r24 =>
some (r24.1, r24.2.1, r24.2.2.1, r24.2.2.2)) (
(csstok_Number k a1).bind fun r25 =>
cond (decide (r25.2 > (0 : Int))) (
(csstok_number k a1 r25.1 r25.2).bind fun r26 =>
some (r26.1, r26.2.1, r26.2.2.1, r26.2.2.2)) (
(csstok_begins k a1).bind fun r27 =>
cond r27 (
(csstok_named k (1 : Int) a1 (0 : Int)).bind fun r28 =>
cond (decide (0 ≤ (r28.2.1.length : Int) ∧ (r28.2.1.length : Int) ≤ (a1.length : Int))) (
let v29 : List UInt8 := (a1.drop (r28.2.1.length : Int).toNat)
(strings_HasPrefix k v29 ([40] : List UInt8)).bind fun r30 =>
cond r30 (
let v31 : Int := (IntKind.wrap .i64 ((r28.2.1.length : Int) + (1 : Int)))
cond (decide (0 ≤ v31 ∧ v31 ≤ (a1.length : Int))) (
csstok_first.c52 k (0 : Int) ([]) ([]) (0 : Int) (2 : Int) (a1.take v31.toNat) r28.2.2.1 r28.2.2.2) none) (
csstok_first.c52 k (0 : Int) ([]) ([]) (0 : Int) r28.1 r28.2.1 r28.2.2.1 r28.2.2.2)) none) (
cond (decide (0 ≤ (0 : Int) ∧ (0 : Int) < (a1.length : Int))) (
let v40 : Int := ((a1.getD (0 : Int).toNat 0).toNat : Int)
cond (v40 == (40 : Int)) (
cond (v40 == (40 : Int)) (
(csstok_first_1 k (10 : Int) a1).bind fun r41 =>
some (r41.1, r41.2.1, r41.2.2.1, r41.2.2.2.1)) (
cond (v40 == (41 : Int)) (
cond (v40 == (41 : Int)) (
(csstok_first_1 k (11 : Int) a1).bind fun r42 =>
some (r42.1, r42.2.1, r42.2.2.1, r42.2.2.2.1)) (
cond (v40 == (92 : Int)) (
(csstok_first_1 k (6 : Int) a1).bind fun r43 =>
some (r43.1, r43.2.1, r43.2.2.1, r43.2.2.2.1)) (
csstok_first.c76 k (0 : Int) ([]) ([]) (0 : Int) a1))) (
cond (v40 == (93 : Int)) (
cond (v40 == (93 : Int)) (
(csstok_first_1 k (11 : Int) a1).bind fun r50 =>
some (r50.1, r50.2.1, r50.2.2.1, r50.2.2.2.1)) (
cond (v40 == (92 : Int)) (
(csstok_first_1 k (6 : Int) a1).bind fun r51 =>
some (r51.1, r51.2.1, r51.2.2.1, r51.2.2.2.1)) (
csstok_first.c76 k (0 : Int) ([]) ([]) (0 : Int) a1))) (
cond (v40 == (125 : Int)) (
(csstok_first_1 k (11 : Int) a1).bind fun r52 =>
some (r52.1, r52.2.1, r52.2.2.1, r52.2.2.2.1)) (
cond (v40 == (92 : Int)) (
(csstok_first_1 k (6 : Int) a1).bind fun r53 =>
some (r53.1, r53.2.1, r53.2.2.1, r53.2.2.2.1)) (
csstok_first.c76 k (0 : Int) ([]) ([]) (0 : Int) a1)))))) (
cond (v40 == (91 : Int)) (
cond (v40 == (91 : Int)) (
(csstok_first_1 k (10 : Int) a1).bind fun r54 =>
some (r54.1, r54.2.1, r54.2.2.1, r54.2.2.2.1)) (
cond (v40 == (41 : Int)) (
cond (v40 == (41 : Int)) (
(csstok_first_1 k (11 : Int) a1).bind fun r55 =>
some (r55.1, r55.2.1, r55.2.2.1, r55.2.2.2.1)) (
cond (v40 == (92 : Int)) (
(csstok_first_1 k (6 : Int) a1).bind fun r56 =>
some (r56.1, r56.2.1, r56.2.2.1, r56.2.2.2.1)) (
csstok_first.c76 k (0 : Int) ([]) ([]) (0 : Int) a1))) (
cond (v40 == (93 : Int)) (
cond (v40 == (93 : Int)) (
(csstok_first_1 k (11 : Int) a1).bind fun r57 =>
some (r57.1, r57.2.1, r57.2.2.1, r57.2.2.2.1)) (
cond (v40 == (92 : Int)) (
(csstok_first_1 k (6 : Int) a1).bind fun r58 =>
some (r58.1, r58.2.1, r58.2.2.1, r58.2.2.2.1)) (
csstok_first.c76 k (0 : Int) ([]) ([]) (0 : Int) a1))) (
cond (v40 == (125 : Int)) (
(csstok_first_1 k (11 : Int) a1).bind fun r59 =>
some (r59.1, r59.2.1, r59.2.2.1, r59.2.2.2.1)) (
cond (v40 == (92 : Int)) (
(csstok_first_1 k (6 : Int) a1).bind fun r60 =>
some (r60.1, r60.2.1, r60.2.2.1, r60.2.2.2.1)) (
csstok_first.c76 k (0 : Int) ([]) ([]) (0 : Int) a1)))))) (
cond (v40 == (123 : Int)) (
(csstok_first_1 k (10 : Int) a1).bind fun r61 =>
some (r61.1, r61.2.1, r61.2.2.1, r61.2.2.2.1)) (
cond (v40 == (41 : Int)) (
cond (v40 == (41 : Int)) (
(csstok_first_1 k (11 : Int) a1).bind fun r62 =>
some (r62.1, r62.2.1, r62.2.2.1, r62.2.2.2.1)) (
cond (v40 == (92 : Int)) (
(csstok_first_1 k (6 : Int) a1).bind fun r63 =>
some (r63.1, r63.2.1, r63.2.2.1, r63.2.2.2.1)) (
csstok_first.c76 k (0 : Int) ([]) ([]) (0 : Int) a1))) (
cond (v40 == (93 : Int)) (
cond (v40 == (93 : Int)) (
(csstok_first_1 k (11 : Int) a1).bind fun r64 =>
some (r64.1, r64.2.1, r64.2.2.1, r64.2.2.2.1)) (
cond (v40 == (92 : Int)) (
(csstok_first_1 k (6 : Int) a1).bind fun r65 =>
some (r65.1, r65.2.1, r65.2.2.1, r65.2.2.2.1)) (
csstok_first.c76 k (0 : Int) ([]) ([]) (0 : Int) a1))) (
cond (v40 == (125 : Int)) (
(csstok_first_1 k (11 : Int) a1).bind fun r66 =>
some (r66.1, r66.2.1, r66.2.2.1, r66.2.2.2.1)) (
cond (v40 == (92 : Int)) (
(csstok_first_1 k (6 : Int) a1).bind fun r67 =>
some (r67.1, r67.2.1, r67.2.2.1, r67.2.2.2.1)) (
csstok_first.c76 k (0 : Int) ([]) ([]) (0 : Int) a1)))))))) none)))) none)) none) none)) none))
def csstok_first.kr (w0 : World) (k : Nat) : Kr T (Int × (List UInt8) × (List UInt8) × Int) := (kret (retK (cfg w0 (tab22 k)) Tryd.f36.results.toList 0 [] io9.pat))
def csstok_first.x20 : Ex → Option (List Nat × List Sp)
  | _ => none
def csstok_first.L20 (k : Nat) (v : (List UInt8) × Int × (List UInt8) × (List UInt8) × Int) (K : Ex → St T → Option (Int × (List UInt8) × (List UInt8) × Int)) : Option (Int × (List UInt8) × (List UInt8) × Int) := csstok_first.c20 k v.1 v.2.1 v.2.2.1 v.2.2.2.1 v.2.2.2.2
def csstok_first.x52 : Ex → Option (List Nat × List Sp)
  | _ => none
def csstok_first.L52 (k : Nat) (v : Int × (List UInt8) × (List UInt8) × Int × Int × (List UInt8) × (List UInt8) × Int) (K : Ex → St T → Option (Int × (List UInt8) × (List UInt8) × Int)) : Option (Int × (List UInt8) × (List UInt8) × Int) := csstok_first.c52 k v.1 v.2.1 v.2.2.1 v.2.2.2.1 v.2.2.2.2.1 v.2.2.2.2.2.1 v.2.2.2.2.2.2.1 v.2.2.2.2.2.2.2
def csstok_first.x76 : Ex → Option (List Nat × List Sp)
  | _ => none
def csstok_first.L76 (k : Nat) (v : Int × (List UInt8) × (List UInt8) × Int × (List UInt8)) (K : Ex → St T → Option (Int × (List UInt8) × (List UInt8) × Int)) : Option (Int × (List UInt8) × (List UInt8) × Int) := csstok_first.c76 k v.1 v.2.1 v.2.2.1 v.2.2.2.1 v.2.2.2.2
def csstok_first.cuts (w0 : World) (k : Nat) : Cuts T (Int × (List UInt8) × (List UInt8) × Int) := fun n => bif n.beq 20 then some (entK (cfg w0 (tab22 k)) 0 [1, 2] [] io33.pat (csstok_first.L20 k)) else bif n.beq 52 then some (entK (cfg w0 (tab22 k)) 0 [2, 11] [] io30.pat (csstok_first.L52 k)) else bif n.beq 76 then some (entK (cfg w0 (tab22 k)) 0 [2, 3] [] io34.pat (csstok_first.L76 k)) else none
def csstok_first.body : Code := bodyOf Tryd.f36
def csstok_first.b20 : Code := findD 20 csstok_first.body
theorem csstok_first.s20 (w0 : World) (k : Nat) : ∀ v K, csstok_first.L20 k v K = runK (cfg w0 (tab22 k)) Tryd.f36.ntmps (csstok_first.kr w0 k) (annot (csstok_first.cuts w0 k) csstok_first.b20) (mkSt [1, 2] (io33.enc v)) (outK (cfg w0 (tab22 k)) 0 csstok_first.x20 K) := by
  intro v K; kernel_rfl
def csstok_first.b52 : Code := findD 52 csstok_first.body
theorem csstok_first.s52 (w0 : World) (k : Nat) : ∀ v K, csstok_first.L52 k v K = runK (cfg w0 (tab22 k)) Tryd.f36.ntmps (csstok_first.kr w0 k) (annot (csstok_first.cuts w0 k) csstok_first.b52) (mkSt [2, 11] (io30.enc v)) (outK (cfg w0 (tab22 k)) 0 csstok_first.x52 K) := by
  intro v K; kernel_rfl
def csstok_first.b76 : Code := findD 76 csstok_first.body
theorem csstok_first.s76 (w0 : World) (k : Nat) : ∀ v K, csstok_first.L76 k v K = runK (cfg w0 (tab22 k)) Tryd.f36.ntmps (csstok_first.kr w0 k) (annot (csstok_first.cuts w0 k) csstok_first.b76) (mkSt [2, 3] (io34.enc v)) (outK (cfg w0 (tab22 k)) 0 csstok_first.x76 K) := by
  intro v K; kernel_rfl
theorem csstok_first.e (w0 : World) (k : Nat) : ∀ v, (fun v => csstok_first k v) v = runK (cfg w0 (tab22 k)) Tryd.f36.ntmps (csstok_first.kr w0 k) (annot (csstok_first.cuts w0 k) csstok_first.body) (entry (io1.enc v).1 (io1.enc v).2) (endK (csstok_first.kr w0 k)) := by
  intro v; kernel_rfl
theorem csstok_first.hb : Tryd.f36.body = some csstok_first.body := by kernel_rfl
def tab23 (k : Nat) : Tab T := addTab 36 (line io1 io9 ((0 : Int), [], [], (0 : Int)) (fun v => csstok_first k v)) (tab22 k)
def csstok_Cut.c5 (k : Nat) : Nat → (List UInt8) → (List S51) → ((List S51) → Option (List S51)) → Option (List S51)
  | 0, _, _, _ => none
  | n + 1, x2, x3, k0 =>
    cond (!(x2 == ([] : List UInt8))) (
    (csstok_first k x2).bind fun r4 =>
    let v5 : List S51 := [(⟨r4.1, r4.2.1, r4.2.2.1, r4.2.2.2⟩ : S51)]
    cond (decide ((x3 ++ v5).length < most)) (
    cond (decide (0 ≤ (r4.2.1.length : Int) ∧ (r4.2.1.length : Int) ≤ (x2.length : Int))) (
    let v6 : List UInt8 := (x2.drop (r4.2.1.length : Int).toNat)
    csstok_Cut.c5 k n v6 (x3 ++ v5) k0) none) none) (
    k0 x3)
def csstok_Cut (k : Nat) (a1 : List UInt8) : Option (List S51) :=
csstok_Cut.c5 k k a1 ([] : List S51) (fun (y7 : List S51) =>
some y7)
def csstok_Cut.kr (w0 : World) (k : Nat) : Kr T (List S51) := (kret (retK (cfg w0 (tab23 k)) Tryd.f23.results.toList 0 [.frz 0 51] io35.pat))
def csstok_Cut.x5 : Ex → Option (List Nat × List Sp)
  | .exit 0 => some ([3], [.own 3 51])
  | _ => none
def csstok_Cut.L5 (k : Nat) (n : Nat) (v : (List UInt8) × (List S51)) (K : Ex → St T → Option (List S51)) : Option (List S51) := csstok_Cut.c5 k n v.1 v.2 (fun y65 => K (.exit 0) (mkSt [3] (io37.enc y65)))
def csstok_Cut.cuts (w0 : World) (k : Nat) : Cuts T (List S51) := fun n => bif n.beq 5 then some (entK (cfg w0 (tab23 k)) 0 [0, 3] [.own 3 51] io36.pat (csstok_Cut.L5 k k)) else none
def csstok_Cut.body : Code := bodyOf Tryd.f23
def csstok_Cut.b5 : Code := findD 5 csstok_Cut.body
theorem csstok_Cut.s5 (w0 : World) (k : Nat) : ∀ n v K, csstok_Cut.L5 k (n + 1) v K = runK (cfg w0 (tab23 k)) Tryd.f23.ntmps (csstok_Cut.kr w0 k) (annot (csstok_Cut.cuts w0 k) csstok_Cut.b5) (mkSt [0, 3] (io36.enc v)) (loopK (cfg w0 (tab23 k)) 0 csstok_Cut.x5 (entK (cfg w0 (tab23 k)) 0 [0, 3] [.own 3 51] io36.pat (csstok_Cut.L5 k n)) K) := by
  intro n v K; kernel_rfl
theorem csstok_Cut.e (w0 : World) (k : Nat) : ∀ v, (fun v => csstok_Cut k v) v = runK (cfg w0 (tab23 k)) Tryd.f23.ntmps (csstok_Cut.kr w0 k) (annot (csstok_Cut.cuts w0 k) csstok_Cut.body) (entry (io1.enc v).1 (io1.enc v).2) (endK (csstok_Cut.kr w0 k)) := by
  intro v; kernel_rfl
theorem csstok_Cut.hb : Tryd.f23.body = some csstok_Cut.body := by kernel_rfl
def tab24 (k : Nat) : Tab T := addTab 23 (line io1 io35 [] (fun v => csstok_Cut k v)) (tab23 k)
def strings_EqualFold (k : Nat) (a6 : List UInt8) (a7 : List UInt8) : Option (Bool) := foldS a6 a7
def tab25 (k : Nat) : Tab T := addTab 37 (line io0 io2 false (fun v => strings_EqualFold k v.1 v.2)) (tab24 k)
def vars_isVar (k : Nat) (a1 : Int) (a2 : List UInt8) (a3 : List UInt8) (a4 : Int) : Option (Bool) :=
(cond (a1 == (2 : Int)) (strings_EqualFold k a3 ([118, 97, 114] : List UInt8)) (some false)).bind fun r5 =>
let v6 : Bool := (cond (a1 == (2 : Int)) r5 false)
some v6
def vars_isVar.kr (w0 : World) (k : Nat) : Kr T (Bool) := (kret (retK (cfg w0 (tab25 k)) Tryd.f24.results.toList 0 [] io2.pat))
def vars_isVar.cuts (w0 : World) (k : Nat) : Cuts T (Bool) := fun n => none
def vars_isVar.body : Code := bodyOf Tryd.f24
theorem vars_isVar.e (w0 : World) (k : Nat) : ∀ v, (fun v => vars_isVar k v.1 v.2.1 v.2.2.1 v.2.2.2) v = runK (cfg w0 (tab25 k)) Tryd.f24.ntmps (vars_isVar.kr w0 k) (annot (vars_isVar.cuts w0 k) vars_isVar.body) (entry (io9.enc v).1 (io9.enc v).2) (endK (vars_isVar.kr w0 k)) := by
  intro v; kernel_rfl
theorem vars_isVar.hb : Tryd.f24.body = some vars_isVar.body := by kernel_rfl
def tab26 (k : Nat) : Tab T := addTab 24 (line io9 io2 false (fun v => vars_isVar k v.1 v.2.1 v.2.2.1 v.2.2.2)) (tab25 k)
def f__strings_Builder__WriteString (k : Nat) (a8 : List UInt8) (a9 : List UInt8) : Option (Int × (List UInt8)) := (wStr a9 a8).map fun s => ((a8.length : Int), s)
def tab27 (k : Nat) : Tab T := addTab 25 (line io38 io39 ((0 : Int), []) (fun v => f__strings_Builder__WriteString k v.1 v.2)) (tab26 k)
def vars_closer (k : Nat) (a1 : Int) (a2 : List UInt8) (a3 : List UInt8) (a4 : Int) : Option (List UInt8) :=
let v5 : Int := (IntKind.wrap .i64 ((a2.length : Int) - (1 : Int)))
cond (decide (0 ≤ v5 ∧ v5 < (a2.length : Int))) (
let v6 : Int := ((a2.getD v5.toNat 0).toNat : Int)
cond (v6 == (91 : Int)) (
some ([93] : List UInt8)) (
cond (v6 == (123 : Int)) (
some ([125] : List UInt8)) (
some ([41] : List UInt8)))) none
def vars_closer.kr (w0 : World) (k : Nat) : Kr T (List UInt8) := (kret (retK (cfg w0 (tab27 k)) Tryd.f39.results.toList 0 [] io1.pat))
def vars_closer.cuts (w0 : World) (k : Nat) : Cuts T (List UInt8) := fun n => none
def vars_closer.body : Code := bodyOf Tryd.f39
theorem vars_closer.e (w0 : World) (k : Nat) : ∀ v, (fun v => vars_closer k v.1 v.2.1 v.2.2.1 v.2.2.2) v = runK (cfg w0 (tab27 k)) Tryd.f39.ntmps (vars_closer.kr w0 k) (annot (vars_closer.cuts w0 k) vars_closer.body) (entry (io9.enc v).1 (io9.enc v).2) (endK (vars_closer.kr w0 k)) := by
  intro v; kernel_rfl
theorem vars_closer.hb : Tryd.f39.body = some vars_closer.body := by kernel_rfl
def tab28 (k : Nat) : Tab T := addTab 39 (line io9 io1 [] (fun v => vars_closer k v.1 v.2.1 v.2.2.1 v.2.2.2)) (tab27 k)
def vars_closed.c24 (k : Nat) (x8 : Int) (x9 : List S51) (x10 : Int) (x11 : Int) (x12 : List (List UInt8)) (kn : (List S51) → Int → Int → (List (List UInt8)) → Option (Int)) : Option (Int) :=
let v13 : Bool := ((x12.length : Int) == (0 : Int))
cond v13 (
let v14 : Int := (IntKind.wrap .i64 (x8 + (1 : Int)))
some v14) (
kn x9 x10 x11 x12)
def vars_closed.c7 (k : Nat) : Nat → (List S51) → Int → Int → (List (List UInt8)) → (Option (Int)) → Option (Int)
  | 0, _, _, _, _, _ => none
  | n + 1, x2, x3, x4, x5, k0 =>
    cond (decide (x4 < x3)) (
    cond (decide (0 ≤ x4 ∧ x4 < (x2.length : Int))) (
    let v6 : Bool := (((x2.getD x4.toNat S51.d).Kind) == (10 : Int))
    cond v6 (
    cond v6 (
    (vars_closer k ((x2.getD x4.toNat S51.d).Kind) ((x2.getD x4.toNat S51.d).Raw) ((x2.getD x4.toNat S51.d).Value) ((x2.getD x4.toNat S51.d).Num)).bind fun r7 =>
    cond (decide ((x5 ++ ([r7])).length < most)) (
    vars_closed.c24 k x4 x2 x3 x4 (x5 ++ ([r7])) (fun (y15 : List S51) (y16 : Int) (y17 : Int) (y18 : List (List UInt8)) =>
    let v19 : Int := (IntKind.wrap .i64 (y17 + (1 : Int)))
    vars_closed.c7 k n y15 y16 v19 y18 k0)) none) (
    let v20 : Bool := (((x2.getD x4.toNat S51.d).Kind) == (11 : Int))
    cond v20 (
    let v21 : Int := (IntKind.wrap .i64 ((x5.length : Int) - (1 : Int)))
    cond (decide (0 ≤ v21 ∧ v21 < (x5.length : Int))) (
    let v22 : Bool := (((x2.getD x4.toNat S51.d).Raw) == (x5.getD v21.toNat []))
    cond v22 (
    let v23 : Int := (IntKind.wrap .i64 ((x5.length : Int) - (1 : Int)))
    cond (decide (0 ≤ v23 ∧ v23 ≤ (x5.length : Int))) (
    vars_closed.c24 k x4 x2 x3 x4 ((x5.drop 0).take v23.toNat) (fun (y24 : List S51) (y25 : Int) (y26 : Int) (y27 : List (List UInt8)) =>
    let v28 : Int := (IntKind.wrap .i64 (y26 + (1 : Int)))
    vars_closed.c7 k n y24 y25 v28 y27 k0)) none) (
    vars_closed.c24 k x4 x2 x3 x4 x5 (fun (y29 : List S51) (y30 : Int) (y31 : Int) (y32 : List (List UInt8)) =>
    let v33 : Int := (IntKind.wrap .i64 (y31 + (1 : Int)))
    vars_closed.c7 k n y29 y30 v33 y32 k0))) none) (
    vars_closed.c24 k x4 x2 x3 x4 x5 (fun (y34 : List S51) (y35 : Int) (y36 : Int) (y37 : List (List UInt8)) =>
    let v38 : Int := (IntKind.wrap .i64 (y36 + (1 : Int)))
    vars_closed.c7 k n y34 y35 v38 y37 k0)))) (
    let v39 : Bool := (((x2.getD x4.toNat S51.d).Kind) == (2 : Int))
    cond v39 (
    (vars_closer k ((x2.getD x4.toNat S51.d).Kind) ((x2.getD x4.toNat S51.d).Raw) ((x2.getD x4.toNat S51.d).Value) ((x2.getD x4.toNat S51.d).Num)).bind fun r40 =>
    cond (decide ((x5 ++ ([r40])).length < most)) (
    vars_closed.c24 k x4 x2 x3 x4 (x5 ++ ([r40])) (fun (y41 : List S51) (y42 : Int) (y43 : Int) (y44 : List (List UInt8)) =>
    let v45 : Int := (IntKind.wrap .i64 (y43 + (1 : Int)))
    vars_closed.c7 k n y41 y42 v45 y44 k0)) none) (
    let v46 : Bool := (((x2.getD x4.toNat S51.d).Kind) == (11 : Int))
    cond v46 (
    let v47 : Int := (IntKind.wrap .i64 ((x5.length : Int) - (1 : Int)))
    cond (decide (0 ≤ v47 ∧ v47 < (x5.length : Int))) (
    let v48 : Bool := (((x2.getD x4.toNat S51.d).Raw) == (x5.getD v47.toNat []))
    cond v48 (
    let v49 : Int := (IntKind.wrap .i64 ((x5.length : Int) - (1 : Int)))
    cond (decide (0 ≤ v49 ∧ v49 ≤ (x5.length : Int))) (
    vars_closed.c24 k x4 x2 x3 x4 ((x5.drop 0).take v49.toNat) (fun (y50 : List S51) (y51 : Int) (y52 : Int) (y53 : List (List UInt8)) =>
    let v54 : Int := (IntKind.wrap .i64 (y52 + (1 : Int)))
    vars_closed.c7 k n y50 y51 v54 y53 k0)) none) (
    vars_closed.c24 k x4 x2 x3 x4 x5 (fun (y55 : List S51) (y56 : Int) (y57 : Int) (y58 : List (List UInt8)) =>
    let v59 : Int := (IntKind.wrap .i64 (y57 + (1 : Int)))
    vars_closed.c7 k n y55 y56 v59 y58 k0))) none) (
    vars_closed.c24 k x4 x2 x3 x4 x5 (fun (y60 : List S51) (y61 : Int) (y62 : Int) (y63 : List (List UInt8)) =>
    let v64 : Int := (IntKind.wrap .i64 (y62 + (1 : Int)))
    vars_closed.c7 k n y60 y61 v64 y63 k0))))) none) (
    k0)
def vars_closed (k : Nat) (a1 : List S51) : Option (Int) :=
vars_closed.c7 k k a1 (a1.length : Int) (0 : Int) ([] : List (List UInt8)) (
some (0 : Int))
def vars_closed.kr (w0 : World) (k : Nat) : Kr T (Int) := (kret (retK (cfg w0 (tab28 k)) Tryd.f26.results.toList 0 [] io4.pat))
def vars_closed.x24 : Ex → Option (List Nat × List Sp)
  | .norm => some ([3, 6, 7, 8], [])
  | _ => none
def vars_closed.L24 (k : Nat) (v : Int × (List S51) × Int × Int × (List (List UInt8))) (K : Ex → St T → Option (Int)) : Option (Int) := vars_closed.c24 k v.1 v.2.1 v.2.2.1 v.2.2.2.1 v.2.2.2.2 (fun y66 y67 y68 y69 => K .norm (mkSt [3, 6, 7, 8] (io41.enc (y66, y67, y68, y69))))
def vars_closed.x7 : Ex → Option (List Nat × List Sp)
  | .exit 0 => some ([], [])
  | _ => none
def vars_closed.L7 (k : Nat) (n : Nat) (v : (List S51) × Int × Int × (List (List UInt8))) (K : Ex → St T → Option (Int)) : Option (Int) := vars_closed.c7 k n v.1 v.2.1 v.2.2.1 v.2.2.2 ( K (.exit 0) (mkSt [] (io42.enc ())))
def vars_closed.cuts (w0 : World) (k : Nat) : Cuts T (Int) := fun n => bif n.beq 24 then some (entK (cfg w0 (tab28 k)) 0 [3, 4, 6, 7, 8] [.own 3 9] io40.pat (vars_closed.L24 k)) else bif n.beq 7 then some (entK (cfg w0 (tab28 k)) 0 [3, 6, 7, 8] [.own 3 9] io41.pat (vars_closed.L7 k k)) else none
def vars_closed.body : Code := bodyOf Tryd.f26
def vars_closed.b24 : Code := findD 24 vars_closed.body
theorem vars_closed.s24 (w0 : World) (k : Nat) : ∀ v K, vars_closed.L24 k v K = runK (cfg w0 (tab28 k)) Tryd.f26.ntmps (vars_closed.kr w0 k) (annot (vars_closed.cuts w0 k) vars_closed.b24) (mkSt [3, 4, 6, 7, 8] (io40.enc v)) (outK (cfg w0 (tab28 k)) 0 vars_closed.x24 K) := by
  intro v K; kernel_rfl
def vars_closed.b7 : Code := findD 7 vars_closed.body
theorem vars_closed.s7 (w0 : World) (k : Nat) : ∀ n v K, vars_closed.L7 k (n + 1) v K = runK (cfg w0 (tab28 k)) Tryd.f26.ntmps (vars_closed.kr w0 k) (annot (vars_closed.cuts w0 k) vars_closed.b7) (mkSt [3, 6, 7, 8] (io41.enc v)) (loopK (cfg w0 (tab28 k)) 0 vars_closed.x7 (entK (cfg w0 (tab28 k)) 0 [3, 6, 7, 8] [.own 3 9] io41.pat (vars_closed.L7 k n)) K) := by
  intro n v K; kernel_rfl
theorem vars_closed.e (w0 : World) (k : Nat) : ∀ v, (fun v => vars_closed k v) v = runK (cfg w0 (tab28 k)) Tryd.f26.ntmps (vars_closed.kr w0 k) (annot (vars_closed.cuts w0 k) vars_closed.body) (entry (io35.enc v).1 (io35.enc v).2) (endK (vars_closed.kr w0 k)) := by
  intro v; kernel_rfl
theorem vars_closed.hb : Tryd.f26.body = some vars_closed.body := by kernel_rfl
def tab29 (k : Nat) : Tab T := addTab 26 (line io35 io4 (0 : Int) (fun v => vars_closed k v)) (tab28 k)
def vars_silent (k : Nat) (a1 : Int) (a2 : List UInt8) (a3 : List UInt8) (a4 : Int) : Option (Bool) :=
let v5 : Bool := (cond (a1 == (8 : Int)) true (a1 == (9 : Int)))
some v5
def vars_silent.kr (w0 : World) (k : Nat) : Kr T (Bool) := (kret (retK (cfg w0 (tab29 k)) Tryd.f34.results.toList 0 [] io2.pat))
def vars_silent.cuts (w0 : World) (k : Nat) : Cuts T (Bool) := fun n => none
def vars_silent.body : Code := bodyOf Tryd.f34
theorem vars_silent.e (w0 : World) (k : Nat) : ∀ v, (fun v => vars_silent k v.1 v.2.1 v.2.2.1 v.2.2.2) v = runK (cfg w0 (tab29 k)) Tryd.f34.ntmps (vars_silent.kr w0 k) (annot (vars_silent.cuts w0 k) vars_silent.body) (entry (io9.enc v).1 (io9.enc v).2) (endK (vars_silent.kr w0 k)) := by
  intro v; kernel_rfl
theorem vars_silent.hb : Tryd.f34.body = some vars_silent.body := by kernel_rfl
def tab30 (k : Nat) : Tab T := addTab 34 (line io9 io2 false (fun v => vars_silent k v.1 v.2.1 v.2.2.1 v.2.2.2)) (tab29 k)
def vars_asked.c3 (k : Nat) : Nat → (List S51) → ((List S51) → Option ((List UInt8) × (List S51) × Bool × Bool)) → Option ((List UInt8) × (List S51) × Bool × Bool)
  | 0, _, _ => none
  | n + 1, x2, k0 =>
    let v3 : Bool := (decide ((x2.length : Int) > (0 : Int)))
    cond ((decide (0 ≤ (0 : Int) ∧ (0 : Int) < (x2.length : Int))) || !v3) (
    let v4 : Int := (x2.getD ((0 : Int).toNat) S51.d).Kind
    let v5 : List UInt8 := (x2.getD ((0 : Int).toNat) S51.d).Raw
    let v6 : List UInt8 := (x2.getD ((0 : Int).toNat) S51.d).Value
    let v7 : Int := (x2.getD ((0 : Int).toNat) S51.d).Num
    (cond v3 (vars_silent k v4 v5 v6 v7) (some false)).bind fun r8 =>
    cond (cond v3 r8 false) (
    cond (decide (0 ≤ (1 : Int) ∧ (1 : Int) ≤ (x2.length : Int))) (
    vars_asked.c3 k n (x2.drop (1 : Int).toNat) k0) none) (
    k0 x2)) none
def vars_asked.c15 (k : Nat) : Nat → (List S51) → (List UInt8) → ((List S51) → (List UInt8) → Option ((List UInt8) × (List S51) × Bool × Bool)) → Option ((List UInt8) × (List S51) × Bool × Bool)
  | 0, _, _, _ => none
  | n + 1, x14, x15, k2 =>
    let v16 : Bool := (decide ((x14.length : Int) > (0 : Int)))
    cond ((decide (0 ≤ (0 : Int) ∧ (0 : Int) < (x14.length : Int))) || !v16) (
    let v17 : Int := (x14.getD ((0 : Int).toNat) S51.d).Kind
    let v18 : List UInt8 := (x14.getD ((0 : Int).toNat) S51.d).Raw
    let v19 : List UInt8 := (x14.getD ((0 : Int).toNat) S51.d).Value
    let v20 : Int := (x14.getD ((0 : Int).toNat) S51.d).Num
    (cond v16 (vars_silent k v17 v18 v19 v20) (some false)).bind fun r21 =>
    cond (cond v16 r21 false) (
    cond (decide (0 ≤ (1 : Int) ∧ (1 : Int) ≤ (x14.length : Int))) (
    vars_asked.c15 k n (x14.drop (1 : Int).toNat) x15 k2) none) (
    k2 x14 x15)) none
def vars_asked (k : Nat) (a1 : List S51) : Option ((List UInt8) × (List S51) × Bool × Bool) :=
vars_asked.c3 k k a1 (fun (y9 : List S51) =>
let v10 : Bool := ((y9.length : Int) == (0 : Int))
cond ((decide (0 ≤ (0 : Int) ∧ (0 : Int) < (y9.length : Int))) || !(!v10)) (
let v11 : Int := (y9.getD ((0 : Int).toNat) S51.d).Kind
let v12 : Bool := (cond v10 true (v11 != (1 : Int)))
cond v12 (
some (([] : List UInt8), ([] : List S51), false, false)) (
cond (decide (0 ≤ (0 : Int) ∧ (0 : Int) < (y9.length : Int))) (
let v13 : List UInt8 := (y9.getD ((0 : Int).toNat) S51.d).Value
cond (decide (0 ≤ (1 : Int) ∧ (1 : Int) ≤ (y9.length : Int))) (
vars_asked.c15 k k (y9.drop (1 : Int).toNat) v13 (fun (y22 : List S51) (y23 : List UInt8) =>
let v24 : Bool := ((y22.length : Int) == (0 : Int))
cond v24 (
some (y23, ([] : List S51), false, true)) (
cond (decide (0 ≤ (0 : Int) ∧ (0 : Int) < (y22.length : Int))) (
let v25 : Int := (y22.getD ((0 : Int).toNat) S51.d).Kind
cond ((decide (0 ≤ (0 : Int) ∧ (0 : Int) < (y22.length : Int))) || !(!(v25 != (12 : Int)))) (
let v26 : List UInt8 := (y22.getD ((0 : Int).toNat) S51.d).Raw
let v27 : Bool := (!(v26 == ([44] : List UInt8)))
let v28 : Bool := (cond (v25 != (12 : Int)) true v27)
cond v28 (
some (([] : List UInt8), ([] : List S51), false, false)) (
cond (decide (0 ≤ (1 : Int) ∧ (1 : Int) ≤ (y22.length : Int))) (
some (y23, (y22.drop (1 : Int).toNat), true, true)) none)) none) none))) none) none)) none)
def vars_asked.kr (w0 : World) (k : Nat) : Kr T ((List UInt8) × (List S51) × Bool × Bool) := (kret (retK (cfg w0 (tab30 k)) Tryd.f40.results.toList 0 [.frz 1 51] io43.pat))
def vars_asked.x3 : Ex → Option (List Nat × List Sp)
  | .exit 0 => some ([0], [])
  | _ => none
def vars_asked.L3 (k : Nat) (n : Nat) (v : List S51) (K : Ex → St T → Option ((List UInt8) × (List S51) × Bool × Bool)) : Option ((List UInt8) × (List S51) × Bool × Bool) := vars_asked.c3 k n v (fun y70 => K (.exit 0) (mkSt [0] (io35.enc y70)))
def vars_asked.x15 : Ex → Option (List Nat × List Sp)
  | .exit 2 => some ([0, 6], [])
  | _ => none
def vars_asked.L15 (k : Nat) (n : Nat) (v : (List S51) × (List UInt8)) (K : Ex → St T → Option ((List UInt8) × (List S51) × Bool × Bool)) : Option ((List UInt8) × (List S51) × Bool × Bool) := vars_asked.c15 k n v.1 v.2 (fun y71 y72 => K (.exit 2) (mkSt [0, 6] (io44.enc (y71, y72))))
def vars_asked.cuts (w0 : World) (k : Nat) : Cuts T ((List UInt8) × (List S51) × Bool × Bool) := fun n => bif n.beq 3 then some (entK (cfg w0 (tab30 k)) 0 [0] [] io35.pat (vars_asked.L3 k k)) else bif n.beq 15 then some (entK (cfg w0 (tab30 k)) 0 [0, 6] [] io44.pat (vars_asked.L15 k k)) else none
def vars_asked.body : Code := bodyOf Tryd.f40
def vars_asked.b3 : Code := findD 3 vars_asked.body
theorem vars_asked.s3 (w0 : World) (k : Nat) : ∀ n v K, vars_asked.L3 k (n + 1) v K = runK (cfg w0 (tab30 k)) Tryd.f40.ntmps (vars_asked.kr w0 k) (annot (vars_asked.cuts w0 k) vars_asked.b3) (mkSt [0] (io35.enc v)) (loopK (cfg w0 (tab30 k)) 0 vars_asked.x3 (entK (cfg w0 (tab30 k)) 0 [0] [] io35.pat (vars_asked.L3 k n)) K) := by
  intro n v K; kernel_rfl
def vars_asked.b15 : Code := findD 15 vars_asked.body
theorem vars_asked.s15 (w0 : World) (k : Nat) : ∀ n v K, vars_asked.L15 k (n + 1) v K = runK (cfg w0 (tab30 k)) Tryd.f40.ntmps (vars_asked.kr w0 k) (annot (vars_asked.cuts w0 k) vars_asked.b15) (mkSt [0, 6] (io44.enc v)) (loopK (cfg w0 (tab30 k)) 0 vars_asked.x15 (entK (cfg w0 (tab30 k)) 0 [0, 6] [] io44.pat (vars_asked.L15 k n)) K) := by
  intro n v K; kernel_rfl
theorem vars_asked.e (w0 : World) (k : Nat) : ∀ v, (fun v => vars_asked k v) v = runK (cfg w0 (tab30 k)) Tryd.f40.ntmps (vars_asked.kr w0 k) (annot (vars_asked.cuts w0 k) vars_asked.body) (entry (io35.enc v).1 (io35.enc v).2) (endK (vars_asked.kr w0 k)) := by
  intro v; kernel_rfl
theorem vars_asked.hb : Tryd.f40.body = some vars_asked.body := by kernel_rfl
def tab31 (k : Nat) : Tab T := addTab 40 (line io35 io43 ([], [], false, false) (fun v => vars_asked k v)) (tab30 k)
def vars_last (k : Nat) (a30 : List S27) (a31 : List UInt8) : Option ((List UInt8) × Bool) := Bw.lastS (fun x : S27 => x.1) (fun x : S27 => x.2) a30 a31
def tab32 (k : Nat) : Tab T := addTab 22 (line io45 io3 ([], false) (fun v => vars_last k v.1 v.2)) (tab31 k)
def cssrule_silent (k : Nat) (a1 : Int) (a2 : List UInt8) (a3 : List UInt8) (a4 : Int) : Option (Bool) :=
let v5 : Bool := (cond (a1 == (8 : Int)) true (a1 == (9 : Int)))
some v5
def cssrule_silent.kr (w0 : World) (k : Nat) : Kr T (Bool) := (kret (retK (cfg w0 (tab32 k)) Tryd.f58.results.toList 0 [] io2.pat))
def cssrule_silent.cuts (w0 : World) (k : Nat) : Cuts T (Bool) := fun n => none
def cssrule_silent.body : Code := bodyOf Tryd.f58
theorem cssrule_silent.e (w0 : World) (k : Nat) : ∀ v, (fun v => cssrule_silent k v.1 v.2.1 v.2.2.1 v.2.2.2) v = runK (cfg w0 (tab32 k)) Tryd.f58.ntmps (cssrule_silent.kr w0 k) (annot (cssrule_silent.cuts w0 k) cssrule_silent.body) (entry (io9.enc v).1 (io9.enc v).2) (endK (cssrule_silent.kr w0 k)) := by
  intro v; kernel_rfl
theorem cssrule_silent.hb : Tryd.f58.body = some cssrule_silent.body := by kernel_rfl
def tab33 (k : Nat) : Tab T := addTab 58 (line io9 io2 false (fun v => cssrule_silent k v.1 v.2.1 v.2.2.1 v.2.2.2)) (tab32 k)
def f__strings_Builder__Len (k : Nat) (a7 : List UInt8) : Option (Int × (List UInt8)) := some ((a7.length : Int), a7)
def tab34 (k : Nat) : Tab T := addTab 28 (line io5 io46 ((0 : Int), []) (fun v => f__strings_Builder__Len k v)) (tab33 k)
def cssrule_Head.c20 (k : Nat) (x11 : List S51) (x12 : Int) (x13 : Int) (x14 : List UInt8) (x15 : Int) (x16 : List UInt8) (x17 : List UInt8) (x18 : Int) (kn : Bool → (List S51) → Int → Int → (List UInt8) → Option (List UInt8)) : Option (List UInt8) :=
(f__strings_Builder__WriteString k x16 x14).bind fun r19 =>
kn false x11 x12 x13 r19.2
def cssrule_Head.c9 (k : Nat) : Nat → Bool → (List S51) → Int → Int → (List UInt8) → ((List UInt8) → Option (List UInt8)) → Option (List UInt8)
  | 0, _, _, _, _, _, _ => none
  | n + 1, x2, x3, x4, x5, x6, k0 =>
    cond (decide (x5 < x4)) (
    cond (decide (0 ≤ x5 ∧ x5 < (x3.length : Int))) (
    (cssrule_silent k ((x3.getD x5.toNat S51.d).Kind) ((x3.getD x5.toNat S51.d).Raw) ((x3.getD x5.toNat S51.d).Value) ((x3.getD x5.toNat S51.d).Num)).bind fun r7 =>
    cond r7 (
    (f__strings_Builder__Len k x6).bind fun r8 =>
    let v9 : Int := (IntKind.wrap .i64 (x5 + (1 : Int)))
    cssrule_Head.c9 k n (decide (r8.1 > (0 : Int))) x3 x4 v9 r8.2 k0) (
    cond x2 (
    (f__strings_Builder__WriteByte k (32 : Int) x6).bind fun r10 =>
    cssrule_Head.c20 k x3 x4 x5 r10 ((x3.getD x5.toNat S51.d).Kind) ((x3.getD x5.toNat S51.d).Raw) ((x3.getD x5.toNat S51.d).Value) ((x3.getD x5.toNat S51.d).Num) (fun (y20 : Bool) (y21 : List S51) (y22 : Int) (y23 : Int) (y24 : List UInt8) =>
    let v25 : Int := (IntKind.wrap .i64 (y23 + (1 : Int)))
    cssrule_Head.c9 k n y20 y21 y22 v25 y24 k0)) (
    cssrule_Head.c20 k x3 x4 x5 x6 ((x3.getD x5.toNat S51.d).Kind) ((x3.getD x5.toNat S51.d).Raw) ((x3.getD x5.toNat S51.d).Value) ((x3.getD x5.toNat S51.d).Num) (fun (y26 : Bool) (y27 : List S51) (y28 : Int) (y29 : Int) (y30 : List UInt8) =>
    let v31 : Int := (IntKind.wrap .i64 (y29 + (1 : Int)))
    cssrule_Head.c9 k n y26 y27 y28 v31 y30 k0)))) none) (
    k0 x6)
def cssrule_Head (k : Nat) (a1 : List S51) : Option (List UInt8) :=
cssrule_Head.c9 k k false a1 (a1.length : Int) (0 : Int) ([] : List UInt8) (fun (y32 : List UInt8) =>
(f__strings_Builder__String k y32).bind fun r33 =>
some r33.1)
def cssrule_Head.kr (w0 : World) (k : Nat) : Kr T (List UInt8) := (kret (retK (cfg w0 (tab34 k)) Tryd.f41.results.toList 0 [] io1.pat))
def cssrule_Head.x20 : Ex → Option (List Nat × List Sp)
  | .norm => some ([3, 4, 7, 8, 9], [])
  | _ => none
def cssrule_Head.L20 (k : Nat) (v : (List S51) × Int × Int × (List UInt8) × Int × (List UInt8) × (List UInt8) × Int) (K : Ex → St T → Option (List UInt8)) : Option (List UInt8) := cssrule_Head.c20 k v.1 v.2.1 v.2.2.1 v.2.2.2.1 v.2.2.2.2.1 v.2.2.2.2.2.1 v.2.2.2.2.2.2.1 v.2.2.2.2.2.2.2 (fun y73 y74 y75 y76 y77 => K .norm (mkSt [3, 4, 7, 8, 9] (io48.enc (y73, y74, y75, y76, y77))))
def cssrule_Head.x9 : Ex → Option (List Nat × List Sp)
  | .exit 0 => some ([3], [])
  | _ => none
def cssrule_Head.L9 (k : Nat) (n : Nat) (v : Bool × (List S51) × Int × Int × (List UInt8)) (K : Ex → St T → Option (List UInt8)) : Option (List UInt8) := cssrule_Head.c9 k n v.1 v.2.1 v.2.2.1 v.2.2.2.1 v.2.2.2.2 (fun y78 => K (.exit 0) (mkSt [3] (io5.enc y78)))
def cssrule_Head.cuts (w0 : World) (k : Nat) : Cuts T (List UInt8) := fun n => bif n.beq 20 then some (entK (cfg w0 (tab34 k)) 0 [3, 6, 7, 8, 9] [] io47.pat (cssrule_Head.L20 k)) else bif n.beq 9 then some (entK (cfg w0 (tab34 k)) 0 [3, 4, 7, 8, 9] [] io48.pat (cssrule_Head.L9 k k)) else none
def cssrule_Head.body : Code := bodyOf Tryd.f41
def cssrule_Head.b20 : Code := findD 20 cssrule_Head.body
theorem cssrule_Head.s20 (w0 : World) (k : Nat) : ∀ v K, cssrule_Head.L20 k v K = runK (cfg w0 (tab34 k)) Tryd.f41.ntmps (cssrule_Head.kr w0 k) (annot (cssrule_Head.cuts w0 k) cssrule_Head.b20) (mkSt [3, 6, 7, 8, 9] (io47.enc v)) (outK (cfg w0 (tab34 k)) 0 cssrule_Head.x20 K) := by
  intro v K; kernel_rfl
def cssrule_Head.b9 : Code := findD 9 cssrule_Head.body
theorem cssrule_Head.s9 (w0 : World) (k : Nat) : ∀ n v K, cssrule_Head.L9 k (n + 1) v K = runK (cfg w0 (tab34 k)) Tryd.f41.ntmps (cssrule_Head.kr w0 k) (annot (cssrule_Head.cuts w0 k) cssrule_Head.b9) (mkSt [3, 4, 7, 8, 9] (io48.enc v)) (loopK (cfg w0 (tab34 k)) 0 cssrule_Head.x9 (entK (cfg w0 (tab34 k)) 0 [3, 4, 7, 8, 9] [] io48.pat (cssrule_Head.L9 k n)) K) := by
  intro n v K; kernel_rfl
theorem cssrule_Head.e (w0 : World) (k : Nat) : ∀ v, (fun v => cssrule_Head k v) v = runK (cfg w0 (tab34 k)) Tryd.f41.ntmps (cssrule_Head.kr w0 k) (annot (cssrule_Head.cuts w0 k) cssrule_Head.body) (entry (io35.enc v).1 (io35.enc v).2) (endK (cssrule_Head.kr w0 k)) := by
  intro v; kernel_rfl
theorem cssrule_Head.hb : Tryd.f41.body = some cssrule_Head.body := by kernel_rfl
def tab35 (k : Nat) : Tab T := addTab 41 (line io35 io1 [] (fun v => cssrule_Head k v)) (tab34 k)
structure vars_Fill.G.R where
  vars_put : (List S51) → (List S27) → Option ((List UInt8) × Bool)
  vars_Fill : (List UInt8) → (List S27) → Option ((List UInt8) × Bool)
def vars_put.nat (k : Nat) (r : vars_Fill.G.R) (a1 : List S51) (a2 : List S27) : Option ((List UInt8) × Bool) :=
(vars_asked k a1).bind fun r3 =>
cond (!r3.2.2.2) (
some (([] : List UInt8), false)) (
(vars_last k a2 r3.1).bind fun r4 =>
cond r4.2 (
some (r4.1, true)) (
cond (!r3.2.2.1) (
some (([] : List UInt8), false)) (
(cssrule_Head k r3.2.1).bind fun r5 =>
(r.vars_Fill r5 a2).bind fun r6 =>
some (r6.1, r6.2))))
def vars_Fill.c13 (k : Nat) (r : vars_Fill.G.R) : Nat → (List S27) → (List S51) → Int → (List UInt8) → ((List UInt8) → Option ((List UInt8) × Bool)) → Option ((List UInt8) × Bool)
  | 0, _, _, _, _, _ => none
  | n + 1, x5, x6, x7, x8, k0 =>
    let v9 : Bool := (decide (x7 < (x6.length : Int)))
    cond v9 (
    cond (decide (0 ≤ x7 ∧ x7 < (x6.length : Int))) (
    (vars_isVar k ((x6.getD x7.toNat S51.d).Kind) ((x6.getD x7.toNat S51.d).Raw) ((x6.getD x7.toNat S51.d).Value) ((x6.getD x7.toNat S51.d).Num)).bind fun r10 =>
    cond (!r10) (
    cond (decide (0 ≤ x7 ∧ x7 < (x6.length : Int))) (
    (f__strings_Builder__WriteString k ((x6.getD x7.toNat S51.d).Raw) x8).bind fun r11 =>
    let v12 : Int := (IntKind.wrap .i64 (x7 + (1 : Int)))
    vars_Fill.c13 k r n x5 x6 v12 r11.2 k0) none) (
    cond (decide (0 ≤ x7 ∧ x7 ≤ (x6.length : Int))) (
    (vars_closed k (x6.drop x7.toNat)).bind fun r13 =>
    cond (r13 == (0 : Int)) (
    some (([] : List UInt8), false)) (
    let v14 : Int := (IntKind.wrap .i64 (x7 + (1 : Int)))
    let v15 : Int := (IntKind.wrap .i64 ((IntKind.wrap .i64 (x7 + r13)) - (1 : Int)))
    cond (decide (0 ≤ v14 ∧ v14 ≤ v15 ∧ v15 ≤ (x6.length : Int))) (
    let v16 : List S51 := ((x6.take v15.toNat).drop v14.toNat)
    (r.vars_put v16 x5).bind fun r17 =>
    cond (!r17.2) (
    some (([] : List UInt8), false)) (
    (f__strings_Builder__WriteString k r17.1 x8).bind fun r7 =>
    (f__strings_Builder__Len k r7.2).bind fun r8 =>
    cond (decide (r8.1 > (400 : Int))) (
    some (([] : List UInt8), false)) (
    vars_Fill.c13 k r n x5 x6 (IntKind.wrap .i64 (x7 + r13)) r8.2 k0))) none)) none)) none) (
    k0 x8)
def vars_Fill.nat (k : Nat) (r : vars_Fill.G.R) (a1 : List UInt8) (a2 : List S27) : Option ((List UInt8) × Bool) :=
let v3 : Bool := (decide ((a1.length : Int) > (400 : Int)))
cond v3 (
some (([] : List UInt8), false)) (
(csstok_Cut k a1).bind fun r4 =>
vars_Fill.c13 k r k a2 r4 (0 : Int) ([] : List UInt8) (fun (y9 : List UInt8) =>
(f__strings_Builder__String k y9).bind fun r10 =>
(f__strings_Builder__Len k r10.2).bind fun r11 =>
some (r10.1, (decide (r11.1 ≤ (400 : Int))))))
def vars_Fill.G.rec (k : Nat) : Nat → vars_Fill.G.R
  | 0 => ⟨fun _ _ => none, fun _ _ => none⟩
  | n + 1 => ⟨vars_put.nat k (vars_Fill.G.rec k n), vars_Fill.nat k (vars_Fill.G.rec k n)⟩
def vars_put (k : Nat) : (List S51) → (List S27) → Option ((List UInt8) × Bool) := (vars_Fill.G.rec k k).vars_put
def vars_Fill (k : Nat) : (List UInt8) → (List S27) → Option ((List UInt8) × Bool) := (vars_Fill.G.rec k k).vars_Fill
def vars_Fill.G.tab (k : Nat) (r : vars_Fill.G.R) : Tab T := addTab 10 (line io50 io3 ([], false) (fun v => r.vars_Fill v.1 v.2)) (addTab 27 (line io49 io3 ([], false) (fun v => r.vars_put v.1 v.2)) (tab35 k))
def vars_put.kr (w0 : World) (k : Nat) (r : vars_Fill.G.R) : Kr T ((List UInt8) × Bool) := (kret (retK (cfg w0 (vars_Fill.G.tab k r)) Tryd.f27.results.toList 0 [] io3.pat))
def vars_put.cuts (w0 : World) (k : Nat) (r : vars_Fill.G.R) : Cuts T ((List UInt8) × Bool) := fun n => none
def vars_put.body : Code := bodyOf Tryd.f27
theorem vars_put.e (w0 : World) (k : Nat) (r : vars_Fill.G.R) : ∀ v, (fun v => vars_put.nat k r v.1 v.2) v = runK (cfg w0 (vars_Fill.G.tab k r)) Tryd.f27.ntmps (vars_put.kr w0 k r) (annot (vars_put.cuts w0 k r) vars_put.body) (entry (io49.enc v).1 (io49.enc v).2) (endK (vars_put.kr w0 k r)) := by
  intro v; kernel_rfl
theorem vars_put.hb : Tryd.f27.body = some vars_put.body := by kernel_rfl
def vars_Fill.kr (w0 : World) (k : Nat) (r : vars_Fill.G.R) : Kr T ((List UInt8) × Bool) := (kret (retK (cfg w0 (vars_Fill.G.tab k r)) Tryd.f10.results.toList 0 [] io3.pat))
def vars_Fill.x13 : Ex → Option (List Nat × List Sp)
  | .exit 0 => some ([7], [])
  | _ => none
def vars_Fill.L13 (k : Nat) (r : vars_Fill.G.R) (n : Nat) (v : (List S27) × (List S51) × Int × (List UInt8)) (K : Ex → St T → Option ((List UInt8) × Bool)) : Option ((List UInt8) × Bool) := vars_Fill.c13 k r n v.1 v.2.1 v.2.2.1 v.2.2.2 (fun y79 => K (.exit 0) (mkSt [7] (io5.enc y79)))
def vars_Fill.cuts (w0 : World) (k : Nat) (r : vars_Fill.G.R) : Cuts T ((List UInt8) × Bool) := fun n => bif n.beq 13 then some (entK (cfg w0 (vars_Fill.G.tab k r)) 0 [1, 6, 7, 8] [] io51.pat (vars_Fill.L13 k r k)) else none
def vars_Fill.body : Code := bodyOf Tryd.f10
def vars_Fill.b13 : Code := findD 13 vars_Fill.body
theorem vars_Fill.s13 (w0 : World) (k : Nat) (r : vars_Fill.G.R) : ∀ n v K, vars_Fill.L13 k r (n + 1) v K = runK (cfg w0 (vars_Fill.G.tab k r)) Tryd.f10.ntmps (vars_Fill.kr w0 k r) (annot (vars_Fill.cuts w0 k r) vars_Fill.b13) (mkSt [1, 6, 7, 8] (io51.enc v)) (loopK (cfg w0 (vars_Fill.G.tab k r)) 0 vars_Fill.x13 (entK (cfg w0 (vars_Fill.G.tab k r)) 0 [1, 6, 7, 8] [] io51.pat (vars_Fill.L13 k r n)) K) := by
  intro n v K; kernel_rfl
theorem vars_Fill.e (w0 : World) (k : Nat) (r : vars_Fill.G.R) : ∀ v, (fun v => vars_Fill.nat k r v.1 v.2) v = runK (cfg w0 (vars_Fill.G.tab k r)) Tryd.f10.ntmps (vars_Fill.kr w0 k r) (annot (vars_Fill.cuts w0 k r) vars_Fill.body) (entry (io50.enc v).1 (io50.enc v).2) (endK (vars_Fill.kr w0 k r)) := by
  intro v; kernel_rfl
theorem vars_Fill.hb : Tryd.f10.body = some vars_Fill.body := by kernel_rfl
def tab36 (k : Nat) : Tab T := vars_Fill.G.tab k (vars_Fill.G.rec k k)
def clerestorykeep2_put (k : Nat)  : Option (Bool) :=
let v1 : List S27 := [(⟨([45, 45, 120] : List UInt8), ([99] : List UInt8)⟩ : S27)]
(vars_Fill k ([97, 32, 118, 97, 114, 40, 45, 45, 120, 44, 32, 98, 41] : List UInt8) v1).bind fun r2 =>
let v3 : Bool := (r2.1 == ([97, 32, 99] : List UInt8))
some (cond r2.2 v3 false)
def clerestorykeep2_put.kr (w0 : World) (k : Nat) : Kr T (Bool) := (kret (retK (cfg w0 (tab36 k)) Tryd.f6.results.toList 0 [] io2.pat))
def clerestorykeep2_put.cuts (w0 : World) (k : Nat) : Cuts T (Bool) := fun n => none
def clerestorykeep2_put.body : Code := bodyOf Tryd.f6
theorem clerestorykeep2_put.e (w0 : World) (k : Nat) : ∀ v, (fun v => clerestorykeep2_put k ) v = runK (cfg w0 (tab36 k)) Tryd.f6.ntmps (clerestorykeep2_put.kr w0 k) (annot (clerestorykeep2_put.cuts w0 k) clerestorykeep2_put.body) (entry (io42.enc v).1 (io42.enc v).2) (endK (clerestorykeep2_put.kr w0 k)) := by
  intro v; kernel_rfl
theorem clerestorykeep2_put.hb : Tryd.f6.body = some clerestorykeep2_put.body := by kernel_rfl
def tab37 (k : Nat) : Tab T := addTab 6 (line io42 io2 false (fun v => clerestorykeep2_put k )) (tab36 k)
def api_SVar_.c5 (k : Nat) : Nat → Int → Int → (List UInt8) → (List UInt8) → ((List UInt8) → (List UInt8) → Option (Int × (List UInt8) × (List UInt8))) → Option (Int × (List UInt8) × (List UInt8))
  | 0, _, _, _, _, _ => none
  | n + 1, x3, x4, x5, x6, k0 =>
    cond (decide (x4 < x3)) (
    none) (
    k0 x5 x6)
def api_SVar_ (k : Nat) (a1 : List UInt8) (a2 : List UInt8) : Option (Int × (List UInt8) × (List UInt8)) :=
api_SVar_.c5 k k ((0 : Nat) : Int) (0 : Int) a1 a2 (fun (y7 : List UInt8) (y8 : List UInt8) =>
some ((-1 : Int), y7, y8))
def api_SVar_.kr (w0 : World) (k : Nat) : Kr T (Int × (List UInt8) × (List UInt8)) := (kret (retK (cfg w0 (tab37 k)) Tryd.f30.results.toList 1 [] io53.pat))
def api_SVar_.x5 : Ex → Option (List Nat × List Sp)
  | .exit 0 => some ([], [])
  | _ => none
def api_SVar_.L5 (k : Nat) (n : Nat) (v : Int × Int × (List UInt8) × (List UInt8)) (K : Ex → St T → Option (Int × (List UInt8) × (List UInt8))) : Option (Int × (List UInt8) × (List UInt8)) := api_SVar_.c5 k n v.1 v.2.1 v.2.2.1 v.2.2.2 (fun y80 y81 => K (.exit 0) (mkSt [] (io55.enc (y80, y81))))
def api_SVar_.cuts (w0 : World) (k : Nat) : Cuts T (Int × (List UInt8) × (List UInt8)) := fun n => bif n.beq 5 then some (entK (cfg w0 (tab37 k)) 1 [0, 1, 7, 8] [] io54.pat (api_SVar_.L5 k k)) else none
def api_SVar_.body : Code := bodyOf Tryd.f30
def api_SVar_.b5 : Code := findD 5 api_SVar_.body
theorem api_SVar_.s5 (w0 : World) (k : Nat) : ∀ n v K, api_SVar_.L5 k (n + 1) v K = runK (cfg w0 (tab37 k)) Tryd.f30.ntmps (api_SVar_.kr w0 k) (annot (api_SVar_.cuts w0 k) api_SVar_.b5) (mkSt [0, 1, 7, 8] (io54.enc v)) (loopK (cfg w0 (tab37 k)) 1 api_SVar_.x5 (entK (cfg w0 (tab37 k)) 1 [0, 1, 7, 8] [] io54.pat (api_SVar_.L5 k n)) K) := by
  intro n v K; kernel_rfl
theorem api_SVar_.e (w0 : World) (k : Nat) : ∀ v, (fun v => api_SVar_ k v.1 v.2) v = runK (cfg w0 (tab37 k)) Tryd.f30.ntmps (api_SVar_.kr w0 k) (annot (api_SVar_.cuts w0 k) api_SVar_.body) (entry (io52.enc v).1 (io52.enc v).2) (endK (api_SVar_.kr w0 k)) := by
  intro v; kernel_rfl
theorem api_SVar_.hb : Tryd.f30.body = some api_SVar_.body := by kernel_rfl
def tab38 (k : Nat) : Tab T := addTab 30 (line io52 io53 ((0 : Int), [], []) (fun v => api_SVar_ k v.1 v.2)) (tab37 k)
def vars_counted_1 (k : Nat) (a1 : List UInt8) (a2 : List UInt8) (a3 : List UInt8) (a4 : List UInt8) : Option (Bool × (List UInt8) × (List UInt8)) :=
some ((a1 == a3), a3, a4)
def vars_counted_1.kr (w0 : World) (k : Nat) : Kr T (Bool × (List UInt8) × (List UInt8)) := (kret (retK (cfg w0 (tab38 k)) Tryd.f31.results.toList 1 [] io57.pat))
def vars_counted_1.cuts (w0 : World) (k : Nat) : Cuts T (Bool × (List UInt8) × (List UInt8)) := fun n => none
def vars_counted_1.body : Code := bodyOf Tryd.f31
theorem vars_counted_1.e (w0 : World) (k : Nat) : ∀ v, (fun v => vars_counted_1 k v.1 v.2.1 v.2.2.1 v.2.2.2) v = runK (cfg w0 (tab38 k)) Tryd.f31.ntmps (vars_counted_1.kr w0 k) (annot (vars_counted_1.cuts w0 k) vars_counted_1.body) (entry (io56.enc v).1 (io56.enc v).2) (endK (vars_counted_1.kr w0 k)) := by
  intro v; kernel_rfl
theorem vars_counted_1.hb : Tryd.f31.body = some vars_counted_1.body := by kernel_rfl
def tab39 (k : Nat) : Tab T := addTab 31 (line io56 io57 (false, [], []) (fun v => vars_counted_1 k v.1 v.2.1 v.2.2.1 v.2.2.2)) (tab38 k)
def api_SVar__v2.c5 (k : Nat) : Nat → (List S27) → Int → Int → (List UInt8) → (List UInt8) → ((List UInt8) → (List UInt8) → Option (Int × (List UInt8) × (List UInt8))) → Option (Int × (List UInt8) × (List UInt8))
  | 0, _, _, _, _, _, _ => none
  | n + 1, x4, x5, x6, x7, x8, k0 =>
    cond (decide (x6 < x5)) (
    cond (decide (0 ≤ x6 ∧ x6 < (x4.length : Int))) (
    (vars_counted_1 k ((x4.getD x6.toNat S27.d).Name) ((x4.getD x6.toNat S27.d).Value) x7 x8).bind fun r9 =>
    cond r9.1 (
    some (x6, r9.2.1, r9.2.2)) (
    let v10 : Int := (IntKind.wrap .i64 (x6 + (1 : Int)))
    api_SVar__v2.c5 k n x4 x5 v10 r9.2.1 r9.2.2 k0)) none) (
    k0 x7 x8)
def api_SVar__v2 (k : Nat) (a1 : List S27) (a2 : List UInt8) (a3 : List UInt8) : Option (Int × (List UInt8) × (List UInt8)) :=
api_SVar__v2.c5 k k a1 (a1.length : Int) (0 : Int) a2 a3 (fun (y11 : List UInt8) (y12 : List UInt8) =>
some ((-1 : Int), y11, y12))
def api_SVar__v2.kr (w0 : World) (k : Nat) : Kr T (Int × (List UInt8) × (List UInt8)) := (kret (retK (cfg w0 (tab39 k)) Tryd.f30.results.toList 1 [] io53.pat))
def api_SVar__v2.x5 : Ex → Option (List Nat × List Sp)
  | .exit 0 => some ([], [])
  | _ => none
def api_SVar__v2.L5 (k : Nat) (n : Nat) (v : (List S27) × Int × Int × (List UInt8) × (List UInt8)) (K : Ex → St T → Option (Int × (List UInt8) × (List UInt8))) : Option (Int × (List UInt8) × (List UInt8)) := api_SVar__v2.c5 k n v.1 v.2.1 v.2.2.1 v.2.2.2.1 v.2.2.2.2 (fun y82 y83 => K (.exit 0) (mkSt [] (io55.enc (y82, y83))))
def api_SVar__v2.cuts (w0 : World) (k : Nat) : Cuts T (Int × (List UInt8) × (List UInt8)) := fun n => bif n.beq 5 then some (entK (cfg w0 (tab39 k)) 1 [0, 1, 7, 8] [] io59.pat (api_SVar__v2.L5 k k)) else none
def api_SVar__v2.body : Code := bodyOf Tryd.f30
def api_SVar__v2.b5 : Code := findD 5 api_SVar__v2.body
theorem api_SVar__v2.s5 (w0 : World) (k : Nat) : ∀ n v K, api_SVar__v2.L5 k (n + 1) v K = runK (cfg w0 (tab39 k)) Tryd.f30.ntmps (api_SVar__v2.kr w0 k) (annot (api_SVar__v2.cuts w0 k) api_SVar__v2.b5) (mkSt [0, 1, 7, 8] (io59.enc v)) (loopK (cfg w0 (tab39 k)) 1 api_SVar__v2.x5 (entK (cfg w0 (tab39 k)) 1 [0, 1, 7, 8] [] io59.pat (api_SVar__v2.L5 k n)) K) := by
  intro n v K; kernel_rfl
theorem api_SVar__v2.e (w0 : World) (k : Nat) : ∀ v, (fun v => api_SVar__v2 k v.1 v.2.1 v.2.2) v = runK (cfg w0 (tab39 k)) Tryd.f30.ntmps (api_SVar__v2.kr w0 k) (annot (api_SVar__v2.cuts w0 k) api_SVar__v2.body) (entry (io58.enc v).1 (io58.enc v).2) (endK (api_SVar__v2.kr w0 k)) := by
  intro v; kernel_rfl
theorem api_SVar__v2.hb : Tryd.f30.body = some api_SVar__v2.body := by kernel_rfl
def tab40 (k : Nat) : Tab T := addTab 30 (line io58 io53 ((0 : Int), [], []) (fun v => api_SVar__v2 k v.1 v.2.1 v.2.2)) (tab39 k)
def vars_counted.c7 (k : Nat) : Nat → (List S27) → Int → Int → (List S27) → ((List S27) → Option (List S27)) → Option (List S27)
  | 0, _, _, _, _, _ => none
  | n + 1, x2, x3, x4, x5, k0 =>
    cond (decide (x4 < x3)) (
    cond (decide (0 ≤ x4 ∧ x4 < (x2.length : Int))) (
    (api_SVar__v2 k x5 ((x2.getD x4.toNat S27.d).Name) ((x2.getD x4.toNat S27.d).Value)).bind fun r6 =>
    (strings_HasPrefix k r6.2.1 ([45, 45] : List UInt8)).bind fun r7 =>
    cond (!r7) (
    let v8 : Int := (IntKind.wrap .i64 (x4 + (1 : Int)))
    vars_counted.c7 k n x2 x3 v8 x5 k0) (
    cond (decide (r6.1 ≥ (0 : Int))) (
    cond (decide (0 ≤ r6.1 ∧ r6.1 < (x5.length : Int))) (
    let v9 : List S27 := (x5.set r6.1.toNat (⟨r6.2.1, r6.2.2⟩ : S27))
    let v10 : Int := (IntKind.wrap .i64 (x4 + (1 : Int)))
    vars_counted.c7 k n x2 x3 v10 v9 k0) none) (
    let v11 : Bool := (decide ((x5.length : Int) < (20 : Int)))
    cond v11 (
    cond (decide ((x5 ++ ([(⟨r6.2.1, r6.2.2⟩ : S27)])).length < most)) (
    let v12 : List S27 := (x5 ++ ([(⟨r6.2.1, r6.2.2⟩ : S27)]))
    let v13 : Int := (IntKind.wrap .i64 (x4 + (1 : Int)))
    vars_counted.c7 k n x2 x3 v13 v12 k0) none) (
    let v14 : Int := (IntKind.wrap .i64 (x4 + (1 : Int)))
    vars_counted.c7 k n x2 x3 v14 x5 k0)))) none) (
    k0 x5)
def vars_counted (k : Nat) (a1 : List S27) : Option (List S27) :=
vars_counted.c7 k k a1 (a1.length : Int) (0 : Int) ([] : List S27) (fun (y15 : List S27) =>
some y15)
def vars_counted.kr (w0 : World) (k : Nat) : Kr T (List S27) := (kret (retK (cfg w0 (tab40 k)) Tryd.f11.results.toList 0 [.own 0 27] io61.pat))
def vars_counted.x7 : Ex → Option (List Nat × List Sp)
  | .exit 0 => some ([3], [.own 3 27])
  | _ => none
def vars_counted.L7 (k : Nat) (n : Nat) (v : (List S27) × Int × Int × (List S27)) (K : Ex → St T → Option (List S27)) : Option (List S27) := vars_counted.c7 k n v.1 v.2.1 v.2.2.1 v.2.2.2 (fun y84 => K (.exit 0) (mkSt [3] (io61.enc y84)))
def vars_counted.cuts (w0 : World) (k : Nat) : Cuts T (List S27) := fun n => bif n.beq 7 then some (entK (cfg w0 (tab40 k)) 0 [3, 7, 8, 9] [.own 3 27] io62.pat (vars_counted.L7 k k)) else none
def vars_counted.body : Code := bodyOf Tryd.f11
def vars_counted.b7 : Code := findD 7 vars_counted.body
theorem vars_counted.s7 (w0 : World) (k : Nat) : ∀ n v K, vars_counted.L7 k (n + 1) v K = runK (cfg w0 (tab40 k)) Tryd.f11.ntmps (vars_counted.kr w0 k) (annot (vars_counted.cuts w0 k) vars_counted.b7) (mkSt [3, 7, 8, 9] (io62.enc v)) (loopK (cfg w0 (tab40 k)) 0 vars_counted.x7 (entK (cfg w0 (tab40 k)) 0 [3, 7, 8, 9] [.own 3 27] io62.pat (vars_counted.L7 k n)) K) := by
  intro n v K; kernel_rfl
theorem vars_counted.e (w0 : World) (k : Nat) : ∀ v, (fun v => vars_counted k v) v = runK (cfg w0 (tab40 k)) Tryd.f11.ntmps (vars_counted.kr w0 k) (annot (vars_counted.cuts w0 k) vars_counted.body) (entry (io60.enc v).1 (io60.enc v).2) (endK (vars_counted.kr w0 k)) := by
  intro v; kernel_rfl
theorem vars_counted.hb : Tryd.f11.body = some vars_counted.body := by kernel_rfl
def tab41 (k : Nat) : Tab T := addTab 11 (line io60 io61 [] (fun v => vars_counted k v)) (tab40 k)
def api_SVar__v3 (k : Nat) (a17 : List S27) : Option (List S27) := cloneS a17
def tab42 (k : Nat) : Tab T := addTab 13 (line io60 io61 [] (fun v => api_SVar__v3 k v)) (tab41 k)
def vars_on.c17 (k : Nat) : Nat → (List S51) → (List S51) → Int → Int → (List S51) → Int → Int → (List (List UInt8)) → ((List S51) → (List S51) → Int → Int → (List (List UInt8)) → Option (List (List UInt8))) → Option (List (List UInt8))
  | 0, _, _, _, _, _, _, _, _, _ => none
  | n + 1, x12, x13, x14, x15, x16, x17, x18, x19, k2 =>
    cond (decide (x18 < x17)) (
    cond (decide (0 ≤ x18 ∧ x18 < (x16.length : Int))) (
    let v20 : Int := (x16.getD x18.toNat S51.d).Kind
    let v21 : List UInt8 := (x16.getD x18.toNat S51.d).Value
    (vars_silent k v20 ((x16.getD x18.toNat S51.d).Raw) v21 ((x16.getD x18.toNat S51.d).Num)).bind fun r22 =>
    cond r22 (
    let v23 : Int := (IntKind.wrap .i64 (x18 + (1 : Int)))
    vars_on.c17 k n x12 x13 x14 x15 x16 x17 v23 x19 k2) (
    cond (v20 == (1 : Int)) (
    cond (decide ((x19 ++ ([v21])).length < most)) (
    k2 x12 x13 x14 x15 (x19 ++ ([v21]))) none) (
    k2 x12 x13 x14 x15 x19))) none) (
    k2 x12 x13 x14 x15 x19)
def vars_on.c9 (k : Nat) : Nat → (List S51) → (List S51) → Int → Int → (List (List UInt8)) → ((List (List UInt8)) → Option (List (List UInt8))) → Option (List (List UInt8))
  | 0, _, _, _, _, _, _ => none
  | n + 1, x3, x4, x5, x6, x7, k0 =>
    cond (decide (x6 < x5)) (
    cond (decide (0 ≤ x6 ∧ x6 < (x4.length : Int))) (
    (vars_isVar k ((x4.getD x6.toNat S51.d).Kind) ((x4.getD x6.toNat S51.d).Raw) ((x4.getD x6.toNat S51.d).Value) ((x4.getD x6.toNat S51.d).Num)).bind fun r8 =>
    cond (!r8) (
    let v9 : Int := (IntKind.wrap .i64 (x6 + (1 : Int)))
    vars_on.c9 k n x3 x4 x5 v9 x7 k0) (
    let v10 : Int := (IntKind.wrap .i64 (x6 + (1 : Int)))
    cond (decide (0 ≤ v10 ∧ v10 ≤ (x3.length : Int))) (
    let v11 : Int := ((x3.drop v10.toNat).length : Int)
    vars_on.c17 k k x3 x4 x5 x6 (x3.drop v10.toNat) v11 (0 : Int) x7 (fun (y24 : List S51) (y25 : List S51) (y26 : Int) (y27 : Int) (y28 : List (List UInt8)) =>
    let v29 : Int := (IntKind.wrap .i64 (y27 + (1 : Int)))
    vars_on.c9 k n y24 y25 y26 v29 y28 k0)) none)) none) (
    k0 x7)
def vars_on (k : Nat) (a1 : List UInt8) : Option (List (List UInt8)) :=
(csstok_Cut k a1).bind fun r2 =>
vars_on.c9 k k r2 r2 (r2.length : Int) (0 : Int) ([] : List (List UInt8)) (fun (y30 : List (List UInt8)) =>
some y30)
def vars_on.kr (w0 : World) (k : Nat) : Kr T (List (List UInt8)) := (kret (retK (cfg w0 (tab42 k)) Tryd.f18.results.toList 0 [.own 0 9] io63.pat))
def vars_on.x17 : Ex → Option (List Nat × List Sp)
  | .exit 2 => some ([3, 4, 11, 12, 13], [.own 3 9])
  | _ => none
def vars_on.L17 (k : Nat) (n : Nat) (v : (List S51) × (List S51) × Int × Int × (List S51) × Int × Int × (List (List UInt8))) (K : Ex → St T → Option (List (List UInt8))) : Option (List (List UInt8)) := vars_on.c17 k n v.1 v.2.1 v.2.2.1 v.2.2.2.1 v.2.2.2.2.1 v.2.2.2.2.2.1 v.2.2.2.2.2.2.1 v.2.2.2.2.2.2.2 (fun y85 y86 y87 y88 y89 => K (.exit 2) (mkSt [3, 4, 11, 12, 13] (io65.enc (y85, y86, y87, y88, y89))))
def vars_on.x9 : Ex → Option (List Nat × List Sp)
  | .exit 0 => some ([3], [.own 3 9])
  | _ => none
def vars_on.L9 (k : Nat) (n : Nat) (v : (List S51) × (List S51) × Int × Int × (List (List UInt8))) (K : Ex → St T → Option (List (List UInt8))) : Option (List (List UInt8)) := vars_on.c9 k n v.1 v.2.1 v.2.2.1 v.2.2.2.1 v.2.2.2.2 (fun y90 => K (.exit 0) (mkSt [3] (io63.enc y90)))
def vars_on.cuts (w0 : World) (k : Nat) : Cuts T (List (List UInt8)) := fun n => bif n.beq 17 then some (entK (cfg w0 (tab42 k)) 0 [3, 4, 11, 12, 13, 24, 25, 26] [.own 3 9] io64.pat (vars_on.L17 k k)) else bif n.beq 9 then some (entK (cfg w0 (tab42 k)) 0 [3, 4, 11, 12, 13] [.own 3 9] io65.pat (vars_on.L9 k k)) else none
def vars_on.body : Code := bodyOf Tryd.f18
def vars_on.b17 : Code := findD 17 vars_on.body
theorem vars_on.s17 (w0 : World) (k : Nat) : ∀ n v K, vars_on.L17 k (n + 1) v K = runK (cfg w0 (tab42 k)) Tryd.f18.ntmps (vars_on.kr w0 k) (annot (vars_on.cuts w0 k) vars_on.b17) (mkSt [3, 4, 11, 12, 13, 24, 25, 26] (io64.enc v)) (loopK (cfg w0 (tab42 k)) 0 vars_on.x17 (entK (cfg w0 (tab42 k)) 0 [3, 4, 11, 12, 13, 24, 25, 26] [.own 3 9] io64.pat (vars_on.L17 k n)) K) := by
  intro n v K; kernel_rfl
def vars_on.b9 : Code := findD 9 vars_on.body
theorem vars_on.s9 (w0 : World) (k : Nat) : ∀ n v K, vars_on.L9 k (n + 1) v K = runK (cfg w0 (tab42 k)) Tryd.f18.ntmps (vars_on.kr w0 k) (annot (vars_on.cuts w0 k) vars_on.b9) (mkSt [3, 4, 11, 12, 13] (io65.enc v)) (loopK (cfg w0 (tab42 k)) 0 vars_on.x9 (entK (cfg w0 (tab42 k)) 0 [3, 4, 11, 12, 13] [.own 3 9] io65.pat (vars_on.L9 k n)) K) := by
  intro n v K; kernel_rfl
theorem vars_on.e (w0 : World) (k : Nat) : ∀ v, (fun v => vars_on k v) v = runK (cfg w0 (tab42 k)) Tryd.f18.ntmps (vars_on.kr w0 k) (annot (vars_on.cuts w0 k) vars_on.body) (entry (io1.enc v).1 (io1.enc v).2) (endK (vars_on.kr w0 k)) := by
  intro v; kernel_rfl
theorem vars_on.hb : Tryd.f18.body = some vars_on.body := by kernel_rfl
def tab43 (k : Nat) : Tab T := addTab 18 (line io1 io63 [] (fun v => vars_on k v)) (tab42 k)
def vars_round.c17 (k : Nat) : Nat → (List S27) → (List UInt8) → Int → Int → (List (List UInt8 × S62)) → (List (List UInt8)) → (List (List UInt8)) → ((List S27) → (List UInt8) → (List (List UInt8 × S62)) → (List (List UInt8)) → Option (Bool)) → Option (Bool)
  | 0, _, _, _, _, _, _, _, _ => none
  | n + 1, x10, x11, x12, x13, x14, x15, x16, k2 =>
    cond (decide (x13 < x12)) (
    cond (decide (0 ≤ x13 ∧ x13 < (x16.length : Int))) (
    let v17 : Bool := ((x16.getD x13.toNat []) == x11)
    cond v17 (
    some true) (
    let v18 : Bool := (mget none (x16.getD x13.toNat []) x14).isSome
    cond (!v18) (
    cond (decide ((x15 ++ ([(x16.getD x13.toNat [])])).length < most)) (
    let v19 : List (List UInt8) := (x15 ++ ([(x16.getD x13.toNat [])]))
    let v20 : Int := (IntKind.wrap .i64 (x13 + (1 : Int)))
    vars_round.c17 k n x10 x11 x12 v20 (mput none (x16.getD x13.toNat []) (⟨⟩ : S62) x14) v19 x16 k2) none) (
    let v21 : Int := (IntKind.wrap .i64 (x13 + (1 : Int)))
    vars_round.c17 k n x10 x11 x12 v21 x14 x15 x16 k2))) none) (
    k2 x10 x11 x14 x15)
def vars_round.c7 (k : Nat) : Nat → (List S27) → (List UInt8) → (List (List UInt8 × S62)) → (List (List UInt8)) → (Option (Bool)) → Option (Bool)
  | 0, _, _, _, _, _ => none
  | n + 1, x3, x4, x5, x6, k0 =>
    let v7 : Bool := (decide ((x6.length : Int) > (0 : Int)))
    cond v7 (
    cond (decide (0 ≤ (0 : Int) ∧ (0 : Int) < (x6.length : Int))) (
    cond (decide (0 ≤ (1 : Int) ∧ (1 : Int) ≤ (x6.length : Int))) (
    (vars_last k x3 (x6.getD ((0 : Int).toNat) [])).bind fun r8 =>
    (vars_on k r8.1).bind fun r9 =>
    vars_round.c17 k k x3 x4 (r9.length : Int) (0 : Int) x5 ((x6.drop (0 + (1 : Int).toNat)).take (x6.length - (1 : Int).toNat)) r9 (fun (y22 : List S27) (y23 : List UInt8) (y24 : List (List UInt8 × S62)) (y25 : List (List UInt8)) =>
    vars_round.c7 k n y22 y23 y24 y25 k0)) none) none) (
    k0)
def vars_round (k : Nat) (a1 : List S27) (a2 : List UInt8) : Option (Bool) :=
vars_round.c7 k k a1 a2 ([] : List (List UInt8 × S62)) ([a2]) (
some false)
def vars_round.kr (w0 : World) (k : Nat) : Kr T (Bool) := (kret (retK (cfg w0 (tab43 k)) Tryd.f15.results.toList 0 [] io2.pat))
def vars_round.x17 : Ex → Option (List Nat × List Sp)
  | .exit 2 => some ([0, 1, 5, 6], [])
  | _ => none
def vars_round.L17 (k : Nat) (n : Nat) (v : (List S27) × (List UInt8) × Int × Int × (List (List UInt8 × S62)) × (List (List UInt8)) × (List (List UInt8))) (K : Ex → St T → Option (Bool)) : Option (Bool) := vars_round.c17 k n v.1 v.2.1 v.2.2.1 v.2.2.2.1 v.2.2.2.2.1 v.2.2.2.2.2.1 v.2.2.2.2.2.2 (fun y91 y92 y93 y94 => K (.exit 2) (mkSt [0, 1, 5, 6] (io67.enc (y91, y92, y93, y94))))
def vars_round.x7 : Ex → Option (List Nat × List Sp)
  | .exit 0 => some ([], [])
  | _ => none
def vars_round.L7 (k : Nat) (n : Nat) (v : (List S27) × (List UInt8) × (List (List UInt8 × S62)) × (List (List UInt8))) (K : Ex → St T → Option (Bool)) : Option (Bool) := vars_round.c7 k n v.1 v.2.1 v.2.2.1 v.2.2.2 ( K (.exit 0) (mkSt [] (io42.enc ())))
def vars_round.cuts (w0 : World) (k : Nat) : Cuts T (Bool) := fun n => bif n.beq 17 then some (entK (cfg w0 (tab43 k)) 0 [0, 1, 5, 6, 32, 33, 34] [.own 6 9] io66.pat (vars_round.L17 k k)) else bif n.beq 7 then some (entK (cfg w0 (tab43 k)) 0 [0, 1, 5, 6] [] io67.pat (vars_round.L7 k k)) else none
def vars_round.body : Code := bodyOf Tryd.f15
def vars_round.b17 : Code := findD 17 vars_round.body
theorem vars_round.s17 (w0 : World) (k : Nat) : ∀ n v K, vars_round.L17 k (n + 1) v K = runK (cfg w0 (tab43 k)) Tryd.f15.ntmps (vars_round.kr w0 k) (annot (vars_round.cuts w0 k) vars_round.b17) (mkSt [0, 1, 5, 6, 32, 33, 34] (io66.enc v)) (loopK (cfg w0 (tab43 k)) 0 vars_round.x17 (entK (cfg w0 (tab43 k)) 0 [0, 1, 5, 6, 32, 33, 34] [.own 6 9] io66.pat (vars_round.L17 k n)) K) := by
  intro n v K; kernel_rfl
def vars_round.b7 : Code := findD 7 vars_round.body
theorem vars_round.s7 (w0 : World) (k : Nat) : ∀ n v K, vars_round.L7 k (n + 1) v K = runK (cfg w0 (tab43 k)) Tryd.f15.ntmps (vars_round.kr w0 k) (annot (vars_round.cuts w0 k) vars_round.b7) (mkSt [0, 1, 5, 6] (io67.enc v)) (loopK (cfg w0 (tab43 k)) 0 vars_round.x7 (entK (cfg w0 (tab43 k)) 0 [0, 1, 5, 6] [] io67.pat (vars_round.L7 k n)) K) := by
  intro n v K; kernel_rfl
theorem vars_round.e (w0 : World) (k : Nat) : ∀ v, (fun v => vars_round k v.1 v.2) v = runK (cfg w0 (tab43 k)) Tryd.f15.ntmps (vars_round.kr w0 k) (annot (vars_round.cuts w0 k) vars_round.body) (entry (io45.enc v).1 (io45.enc v).2) (endK (vars_round.kr w0 k)) := by
  intro v; kernel_rfl
theorem vars_round.hb : Tryd.f15.body = some vars_round.body := by kernel_rfl
def tab44 (k : Nat) : Tab T := addTab 15 (line io45 io2 false (fun v => vars_round k v.1 v.2)) (tab43 k)
def vars_Resolve_1 (k : Nat) (a1 : List UInt8) (a2 : List UInt8) (a3 : List S27) : Option (Bool × (List S27)) :=
(vars_round k a3 a1).bind fun r4 =>
some (r4, a3)
def vars_Resolve_1.kr (w0 : World) (k : Nat) : Kr T (Bool × (List S27)) := (kret (retK (cfg w0 (tab44 k)) Tryd.f14.results.toList 2 [] io69.pat))
def vars_Resolve_1.cuts (w0 : World) (k : Nat) : Cuts T (Bool × (List S27)) := fun n => none
def vars_Resolve_1.body : Code := bodyOf Tryd.f14
theorem vars_Resolve_1.e (w0 : World) (k : Nat) : ∀ v, (fun v => vars_Resolve_1 k v.1 v.2.1 v.2.2) v = runK (cfg w0 (tab44 k)) Tryd.f14.ntmps (vars_Resolve_1.kr w0 k) (annot (vars_Resolve_1.cuts w0 k) vars_Resolve_1.body) (entry (io68.enc v).1 (io68.enc v).2) (endK (vars_Resolve_1.kr w0 k)) := by
  intro v; kernel_rfl
theorem vars_Resolve_1.hb : Tryd.f14.body = some vars_Resolve_1.body := by kernel_rfl
def tab45 (k : Nat) : Tab T := addTab 14 (line io68 io69 (false, []) (fun v => vars_Resolve_1 k v.1 v.2.1 v.2.2)) (tab44 k)
def api_SVar__v5.c5 (k : Nat) : Nat → (List S27) → Int → Int → (List S27) → ((List S27) → Option (Int × (List S27))) → Option (Int × (List S27))
  | 0, _, _, _, _, _ => none
  | n + 1, x3, x4, x5, x6, k0 =>
    cond (decide (x5 < x4)) (
    cond (decide (0 ≤ x5 ∧ x5 < (x3.length : Int))) (
    (vars_Resolve_1 k ((x3.getD x5.toNat S27.d).Name) ((x3.getD x5.toNat S27.d).Value) x6).bind fun r7 =>
    cond r7.1 (
    some (x5, r7.2)) (
    let v8 : Int := (IntKind.wrap .i64 (x5 + (1 : Int)))
    api_SVar__v5.c5 k n x3 x4 v8 r7.2 k0)) none) (
    k0 x6)
def api_SVar__v5 (k : Nat) (a1 : List S27) (a2 : List S27) : Option (Int × (List S27)) :=
api_SVar__v5.c5 k k a1 (a1.length : Int) (0 : Int) a2 (fun (y9 : List S27) =>
some ((-1 : Int), y9))
def api_SVar__v5.kr (w0 : World) (k : Nat) : Kr T (Int × (List S27)) := (kret (retK (cfg w0 (tab45 k)) Tryd.f30.results.toList 2 [] io71.pat))
def api_SVar__v5.x5 : Ex → Option (List Nat × List Sp)
  | .exit 0 => some ([], [])
  | _ => none
def api_SVar__v5.L5 (k : Nat) (n : Nat) (v : (List S27) × Int × Int × (List S27)) (K : Ex → St T → Option (Int × (List S27))) : Option (Int × (List S27)) := api_SVar__v5.c5 k n v.1 v.2.1 v.2.2.1 v.2.2.2 (fun y95 => K (.exit 0) (mkSt [] (io73.enc y95)))
def api_SVar__v5.cuts (w0 : World) (k : Nat) : Cuts T (Int × (List S27)) := fun n => bif n.beq 5 then some (entK (cfg w0 (tab45 k)) 2 [0, 1, 7, 8] [] io72.pat (api_SVar__v5.L5 k k)) else none
def api_SVar__v5.body : Code := bodyOf Tryd.f30
def api_SVar__v5.b5 : Code := findD 5 api_SVar__v5.body
theorem api_SVar__v5.s5 (w0 : World) (k : Nat) : ∀ n v K, api_SVar__v5.L5 k (n + 1) v K = runK (cfg w0 (tab45 k)) Tryd.f30.ntmps (api_SVar__v5.kr w0 k) (annot (api_SVar__v5.cuts w0 k) api_SVar__v5.b5) (mkSt [0, 1, 7, 8] (io72.enc v)) (loopK (cfg w0 (tab45 k)) 2 api_SVar__v5.x5 (entK (cfg w0 (tab45 k)) 2 [0, 1, 7, 8] [] io72.pat (api_SVar__v5.L5 k n)) K) := by
  intro n v K; kernel_rfl
theorem api_SVar__v5.e (w0 : World) (k : Nat) : ∀ v, (fun v => api_SVar__v5 k v.1 v.2) v = runK (cfg w0 (tab45 k)) Tryd.f30.ntmps (api_SVar__v5.kr w0 k) (annot (api_SVar__v5.cuts w0 k) api_SVar__v5.body) (entry (io70.enc v).1 (io70.enc v).2) (endK (api_SVar__v5.kr w0 k)) := by
  intro v; kernel_rfl
theorem api_SVar__v5.hb : Tryd.f30.body = some api_SVar__v5.body := by kernel_rfl
def tab46 (k : Nat) : Tab T := addTab 30 (line io70 io71 ((0 : Int), []) (fun v => api_SVar__v5 k v.1 v.2)) (tab45 k)
def api_SVar__v4.c11 (k : Nat) : Nat → Int → Int → (List S27) → (List S27) → (Int → (List S27) → (List S27) → Option ((List S27) × (List S27))) → Option ((List S27) × (List S27))
  | 0, _, _, _, _, _ => none
  | n + 1, x5, x6, x7, x8, k0 =>
    let v9 : Bool := (decide (x6 < (x7.length : Int)))
    cond v9 (
    cond (decide (0 ≤ x6 ∧ x6 < (x7.length : Int))) (
    (vars_Resolve_1 k ((x7.getD x6.toNat S27.d).Name) ((x7.getD x6.toNat S27.d).Value) x8).bind fun r10 =>
    cond (!r10.1) (
    cond (decide (0 ≤ x5 ∧ x5 < (x7.length : Int))) (
    let v11 : List S27 := (x7.set x5.toNat (⟨(x7.getD x6.toNat S27.d).Name, (x7.getD x6.toNat S27.d).Value⟩ : S27))
    let v12 : Int := (IntKind.wrap .i64 (x5 + (1 : Int)))
    let v13 : Int := (IntKind.wrap .i64 (x6 + (1 : Int)))
    api_SVar__v4.c11 k n v12 v13 v11 r10.2 k0) none) (
    let v14 : Int := (IntKind.wrap .i64 (x6 + (1 : Int)))
    api_SVar__v4.c11 k n x5 v14 x7 r10.2 k0)) none) (
    k0 x5 x7 x8)
def api_SVar__v4 (k : Nat) (a1 : List S27) (a2 : List S27) : Option ((List S27) × (List S27)) :=
(api_SVar__v5 k a1 a2).bind fun r3 =>
cond (r3.1 == (-1 : Int)) (
some (r3.2, a1)) (
let v4 : Int := (IntKind.wrap .i64 (r3.1 + (1 : Int)))
api_SVar__v4.c11 k k r3.1 v4 a1 r3.2 (fun (y15 : Int) (y16 : List S27) (y17 : List S27) =>
cond (decide (0 ≤ y15 ∧ y15 ≤ (y16.length : Int))) (
let v18 : List S27 := (y16.take (0 + y15.toNat) ++ List.replicate (y16.length - y15.toNat) (⟨[], []⟩ : S27) ++ y16.drop ((0 + y15.toNat) + (y16.length - y15.toNat)))
cond (decide (0 ≤ y15 ∧ y15 ≤ (v18.length : Int))) (
some (y17, ((v18.drop 0).take y15.toNat))) none) none))
def api_SVar__v4.kr (w0 : World) (k : Nat) : Kr T ((List S27) × (List S27)) := (kret (retK (cfg w0 (tab46 k)) Tryd.f12.results.toList 3 [.rng 0 27] io75.pat))
def api_SVar__v4.x11 : Ex → Option (List Nat × List Sp)
  | .exit 0 => some ([0, 5], [])
  | _ => none
def api_SVar__v4.L11 (k : Nat) (n : Nat) (v : Int × Int × (List S27) × (List S27)) (K : Ex → St T → Option ((List S27) × (List S27))) : Option ((List S27) × (List S27)) := api_SVar__v4.c11 k n v.1 v.2.1 v.2.2.1 v.2.2.2 (fun y96 y97 y98 => K (.exit 0) (mkSt [0, 5] (io77.enc (y96, y97, y98))))
def api_SVar__v4.cuts (w0 : World) (k : Nat) : Cuts T ((List S27) × (List S27)) := fun n => bif n.beq 11 then some (entK (cfg w0 (tab46 k)) 3 [0, 1, 5, 6] [] io76.pat (api_SVar__v4.L11 k k)) else none
def api_SVar__v4.body : Code := bodyOf Tryd.f12
def api_SVar__v4.b11 : Code := findD 11 api_SVar__v4.body
theorem api_SVar__v4.s11 (w0 : World) (k : Nat) : ∀ n v K, api_SVar__v4.L11 k (n + 1) v K = runK (cfg w0 (tab46 k)) Tryd.f12.ntmps (api_SVar__v4.kr w0 k) (annot (api_SVar__v4.cuts w0 k) api_SVar__v4.b11) (mkSt [0, 1, 5, 6] (io76.enc v)) (loopK (cfg w0 (tab46 k)) 3 api_SVar__v4.x11 (entK (cfg w0 (tab46 k)) 3 [0, 1, 5, 6] [] io76.pat (api_SVar__v4.L11 k n)) K) := by
  intro n v K; kernel_rfl
theorem api_SVar__v4.e (w0 : World) (k : Nat) : ∀ v, (fun v => api_SVar__v4 k v.1 v.2) v = runK (cfg w0 (tab46 k)) Tryd.f12.ntmps (api_SVar__v4.kr w0 k) (annot (api_SVar__v4.cuts w0 k) api_SVar__v4.body) (entry (io74.enc v).1 (io74.enc v).2) (endK (api_SVar__v4.kr w0 k)) := by
  intro v; kernel_rfl
theorem api_SVar__v4.hb : Tryd.f12.body = some api_SVar__v4.body := by kernel_rfl
def tab47 (k : Nat) : Tab T := addTab 12 (line io74 io75 ([], []) (fun v => api_SVar__v4 k v.1 v.2)) (tab46 k)
def vars_Resolve_2_1_1 (k : Nat) (a1 : List UInt8) (a2 : List UInt8) (a3 : List UInt8) : Option (Bool × (List UInt8)) :=
some ((a1 == a3), a3)
def vars_Resolve_2_1_1.kr (w0 : World) (k : Nat) : Kr T (Bool × (List UInt8)) := (kret (retK (cfg w0 (tab47 k)) Tryd.f21.results.toList 1 [] io79.pat))
def vars_Resolve_2_1_1.cuts (w0 : World) (k : Nat) : Cuts T (Bool × (List UInt8)) := fun n => none
def vars_Resolve_2_1_1.body : Code := bodyOf Tryd.f21
theorem vars_Resolve_2_1_1.e (w0 : World) (k : Nat) : ∀ v, (fun v => vars_Resolve_2_1_1 k v.1 v.2.1 v.2.2) v = runK (cfg w0 (tab47 k)) Tryd.f21.ntmps (vars_Resolve_2_1_1.kr w0 k) (annot (vars_Resolve_2_1_1.cuts w0 k) vars_Resolve_2_1_1.body) (entry (io78.enc v).1 (io78.enc v).2) (endK (vars_Resolve_2_1_1.kr w0 k)) := by
  intro v; kernel_rfl
theorem vars_Resolve_2_1_1.hb : Tryd.f21.body = some vars_Resolve_2_1_1.body := by kernel_rfl
def tab48 (k : Nat) : Tab T := addTab 21 (line io78 io79 (false, []) (fun v => vars_Resolve_2_1_1 k v.1 v.2.1 v.2.2)) (tab47 k)
def api_SVar__v7.c5 (k : Nat) : Nat → (List S27) → Int → Int → (List UInt8) → ((List UInt8) → Option (Int × (List UInt8))) → Option (Int × (List UInt8))
  | 0, _, _, _, _, _ => none
  | n + 1, x3, x4, x5, x6, k0 =>
    cond (decide (x5 < x4)) (
    cond (decide (0 ≤ x5 ∧ x5 < (x3.length : Int))) (
    (vars_Resolve_2_1_1 k ((x3.getD x5.toNat S27.d).Name) ((x3.getD x5.toNat S27.d).Value) x6).bind fun r7 =>
    cond r7.1 (
    some (x5, r7.2)) (
    let v8 : Int := (IntKind.wrap .i64 (x5 + (1 : Int)))
    api_SVar__v7.c5 k n x3 x4 v8 r7.2 k0)) none) (
    k0 x6)
def api_SVar__v7 (k : Nat) (a1 : List S27) (a2 : List UInt8) : Option (Int × (List UInt8)) :=
api_SVar__v7.c5 k k a1 (a1.length : Int) (0 : Int) a2 (fun (y9 : List UInt8) =>
some ((-1 : Int), y9))
def api_SVar__v7.kr (w0 : World) (k : Nat) : Kr T (Int × (List UInt8)) := (kret (retK (cfg w0 (tab48 k)) Tryd.f30.results.toList 1 [] io81.pat))
def api_SVar__v7.x5 : Ex → Option (List Nat × List Sp)
  | .exit 0 => some ([], [])
  | _ => none
def api_SVar__v7.L5 (k : Nat) (n : Nat) (v : (List S27) × Int × Int × (List UInt8)) (K : Ex → St T → Option (Int × (List UInt8))) : Option (Int × (List UInt8)) := api_SVar__v7.c5 k n v.1 v.2.1 v.2.2.1 v.2.2.2 (fun y99 => K (.exit 0) (mkSt [] (io83.enc y99)))
def api_SVar__v7.cuts (w0 : World) (k : Nat) : Cuts T (Int × (List UInt8)) := fun n => bif n.beq 5 then some (entK (cfg w0 (tab48 k)) 1 [0, 1, 7, 8] [] io82.pat (api_SVar__v7.L5 k k)) else none
def api_SVar__v7.body : Code := bodyOf Tryd.f30
def api_SVar__v7.b5 : Code := findD 5 api_SVar__v7.body
theorem api_SVar__v7.s5 (w0 : World) (k : Nat) : ∀ n v K, api_SVar__v7.L5 k (n + 1) v K = runK (cfg w0 (tab48 k)) Tryd.f30.ntmps (api_SVar__v7.kr w0 k) (annot (api_SVar__v7.cuts w0 k) api_SVar__v7.b5) (mkSt [0, 1, 7, 8] (io82.enc v)) (loopK (cfg w0 (tab48 k)) 1 api_SVar__v7.x5 (entK (cfg w0 (tab48 k)) 1 [0, 1, 7, 8] [] io82.pat (api_SVar__v7.L5 k n)) K) := by
  intro n v K; kernel_rfl
theorem api_SVar__v7.e (w0 : World) (k : Nat) : ∀ v, (fun v => api_SVar__v7 k v.1 v.2) v = runK (cfg w0 (tab48 k)) Tryd.f30.ntmps (api_SVar__v7.kr w0 k) (annot (api_SVar__v7.cuts w0 k) api_SVar__v7.body) (entry (io80.enc v).1 (io80.enc v).2) (endK (api_SVar__v7.kr w0 k)) := by
  intro v; kernel_rfl
theorem api_SVar__v7.hb : Tryd.f30.body = some api_SVar__v7.body := by kernel_rfl
def tab49 (k : Nat) : Tab T := addTab 30 (line io80 io81 ((0 : Int), []) (fun v => api_SVar__v7 k v.1 v.2)) (tab48 k)
def api_SVar__v6 (k : Nat) (a1 : List S27) (a2 : List UInt8) : Option (Bool × (List UInt8)) :=
(api_SVar__v7 k a1 a2).bind fun r3 =>
some ((decide (r3.1 ≥ (0 : Int))), r3.2)
def api_SVar__v6.kr (w0 : World) (k : Nat) : Kr T (Bool × (List UInt8)) := (kret (retK (cfg w0 (tab49 k)) Tryd.f20.results.toList 1 [] io79.pat))
def api_SVar__v6.cuts (w0 : World) (k : Nat) : Cuts T (Bool × (List UInt8)) := fun n => none
def api_SVar__v6.body : Code := bodyOf Tryd.f20
theorem api_SVar__v6.e (w0 : World) (k : Nat) : ∀ v, (fun v => api_SVar__v6 k v.1 v.2) v = runK (cfg w0 (tab49 k)) Tryd.f20.ntmps (api_SVar__v6.kr w0 k) (annot (api_SVar__v6.cuts w0 k) api_SVar__v6.body) (entry (io80.enc v).1 (io80.enc v).2) (endK (api_SVar__v6.kr w0 k)) := by
  intro v; kernel_rfl
theorem api_SVar__v6.hb : Tryd.f20.body = some api_SVar__v6.body := by kernel_rfl
def tab50 (k : Nat) : Tab T := addTab 20 (line io80 io79 (false, []) (fun v => api_SVar__v6 k v.1 v.2)) (tab49 k)
def vars_Resolve_2_1 (k : Nat) (a1 : List UInt8) (a2 : List S27) : Option (Bool × (List S27)) :=
(api_SVar__v6 k a2 a1).bind fun r3 =>
some (r3.1, a2)
def vars_Resolve_2_1.kr (w0 : World) (k : Nat) : Kr T (Bool × (List S27)) := (kret (retK (cfg w0 (tab50 k)) Tryd.f19.results.toList 2 [] io69.pat))
def vars_Resolve_2_1.cuts (w0 : World) (k : Nat) : Cuts T (Bool × (List S27)) := fun n => none
def vars_Resolve_2_1.body : Code := bodyOf Tryd.f19
theorem vars_Resolve_2_1.e (w0 : World) (k : Nat) : ∀ v, (fun v => vars_Resolve_2_1 k v.1 v.2) v = runK (cfg w0 (tab50 k)) Tryd.f19.ntmps (vars_Resolve_2_1.kr w0 k) (annot (vars_Resolve_2_1.cuts w0 k) vars_Resolve_2_1.body) (entry (io84.enc v).1 (io84.enc v).2) (endK (vars_Resolve_2_1.kr w0 k)) := by
  intro v; kernel_rfl
theorem vars_Resolve_2_1.hb : Tryd.f19.body = some vars_Resolve_2_1.body := by kernel_rfl
def tab51 (k : Nat) : Tab T := addTab 19 (line io84 io69 (false, []) (fun v => vars_Resolve_2_1 k v.1 v.2)) (tab50 k)
def slices_IndexFunc___string_string_.c5 (k : Nat) : Nat → (List (List UInt8)) → Int → Int → (List S27) → ((List S27) → Option (Int × (List S27))) → Option (Int × (List S27))
  | 0, _, _, _, _, _ => none
  | n + 1, x3, x4, x5, x6, k0 =>
    cond (decide (x5 < x4)) (
    cond (decide (0 ≤ x5 ∧ x5 < (x3.length : Int))) (
    (vars_Resolve_2_1 k (x3.getD x5.toNat []) x6).bind fun r7 =>
    cond r7.1 (
    some (x5, r7.2)) (
    let v8 : Int := (IntKind.wrap .i64 (x5 + (1 : Int)))
    slices_IndexFunc___string_string_.c5 k n x3 x4 v8 r7.2 k0)) none) (
    k0 x6)
def slices_IndexFunc___string_string_ (k : Nat) (a1 : List (List UInt8)) (a2 : List S27) : Option (Int × (List S27)) :=
slices_IndexFunc___string_string_.c5 k k a1 (a1.length : Int) (0 : Int) a2 (fun (y9 : List S27) =>
some ((-1 : Int), y9))
def slices_IndexFunc___string_string_.kr (w0 : World) (k : Nat) : Kr T (Int × (List S27)) := (kret (retK (cfg w0 (tab51 k)) Tryd.f33.results.toList 2 [] io71.pat))
def slices_IndexFunc___string_string_.x5 : Ex → Option (List Nat × List Sp)
  | .exit 0 => some ([], [])
  | _ => none
def slices_IndexFunc___string_string_.L5 (k : Nat) (n : Nat) (v : (List (List UInt8)) × Int × Int × (List S27)) (K : Ex → St T → Option (Int × (List S27))) : Option (Int × (List S27)) := slices_IndexFunc___string_string_.c5 k n v.1 v.2.1 v.2.2.1 v.2.2.2 (fun y100 => K (.exit 0) (mkSt [] (io73.enc y100)))
def slices_IndexFunc___string_string_.cuts (w0 : World) (k : Nat) : Cuts T (Int × (List S27)) := fun n => bif n.beq 5 then some (entK (cfg w0 (tab51 k)) 2 [0, 1, 7, 8] [] io86.pat (slices_IndexFunc___string_string_.L5 k k)) else none
def slices_IndexFunc___string_string_.body : Code := bodyOf Tryd.f33
def slices_IndexFunc___string_string_.b5 : Code := findD 5 slices_IndexFunc___string_string_.body
theorem slices_IndexFunc___string_string_.s5 (w0 : World) (k : Nat) : ∀ n v K, slices_IndexFunc___string_string_.L5 k (n + 1) v K = runK (cfg w0 (tab51 k)) Tryd.f33.ntmps (slices_IndexFunc___string_string_.kr w0 k) (annot (slices_IndexFunc___string_string_.cuts w0 k) slices_IndexFunc___string_string_.b5) (mkSt [0, 1, 7, 8] (io86.enc v)) (loopK (cfg w0 (tab51 k)) 2 slices_IndexFunc___string_string_.x5 (entK (cfg w0 (tab51 k)) 2 [0, 1, 7, 8] [] io86.pat (slices_IndexFunc___string_string_.L5 k n)) K) := by
  intro n v K; kernel_rfl
theorem slices_IndexFunc___string_string_.e (w0 : World) (k : Nat) : ∀ v, (fun v => slices_IndexFunc___string_string_ k v.1 v.2) v = runK (cfg w0 (tab51 k)) Tryd.f33.ntmps (slices_IndexFunc___string_string_.kr w0 k) (annot (slices_IndexFunc___string_string_.cuts w0 k) slices_IndexFunc___string_string_.body) (entry (io85.enc v).1 (io85.enc v).2) (endK (slices_IndexFunc___string_string_.kr w0 k)) := by
  intro v; kernel_rfl
theorem slices_IndexFunc___string_string_.hb : Tryd.f33.body = some slices_IndexFunc___string_string_.body := by kernel_rfl
def tab52 (k : Nat) : Tab T := addTab 33 (line io85 io71 ((0 : Int), []) (fun v => slices_IndexFunc___string_string_ k v.1 v.2)) (tab51 k)
def slices_ContainsFunc___string_string_ (k : Nat) (a1 : List (List UInt8)) (a2 : List S27) : Option (Bool × (List S27)) :=
(slices_IndexFunc___string_string_ k a1 a2).bind fun r3 =>
some ((decide (r3.1 ≥ (0 : Int))), r3.2)
def slices_ContainsFunc___string_string_.kr (w0 : World) (k : Nat) : Kr T (Bool × (List S27)) := (kret (retK (cfg w0 (tab52 k)) Tryd.f17.results.toList 2 [] io69.pat))
def slices_ContainsFunc___string_string_.cuts (w0 : World) (k : Nat) : Cuts T (Bool × (List S27)) := fun n => none
def slices_ContainsFunc___string_string_.body : Code := bodyOf Tryd.f17
theorem slices_ContainsFunc___string_string_.e (w0 : World) (k : Nat) : ∀ v, (fun v => slices_ContainsFunc___string_string_ k v.1 v.2) v = runK (cfg w0 (tab52 k)) Tryd.f17.ntmps (slices_ContainsFunc___string_string_.kr w0 k) (annot (slices_ContainsFunc___string_string_.cuts w0 k) slices_ContainsFunc___string_string_.body) (entry (io85.enc v).1 (io85.enc v).2) (endK (slices_ContainsFunc___string_string_.kr w0 k)) := by
  intro v; kernel_rfl
theorem slices_ContainsFunc___string_string_.hb : Tryd.f17.body = some slices_ContainsFunc___string_string_.body := by kernel_rfl
def tab53 (k : Nat) : Tab T := addTab 17 (line io85 io69 (false, []) (fun v => slices_ContainsFunc___string_string_ k v.1 v.2)) (tab52 k)
def vars_Resolve_2 (k : Nat) (a1 : List UInt8) (a2 : List UInt8) (a3 : List S27) : Option (Bool × (List S27)) :=
(vars_on k a2).bind fun r4 =>
(slices_ContainsFunc___string_string_ k r4 a3).bind fun r5 =>
some (r5.1, r5.2)
def vars_Resolve_2.kr (w0 : World) (k : Nat) : Kr T (Bool × (List S27)) := (kret (retK (cfg w0 (tab53 k)) Tryd.f16.results.toList 2 [] io69.pat))
def vars_Resolve_2.cuts (w0 : World) (k : Nat) : Cuts T (Bool × (List S27)) := fun n => none
def vars_Resolve_2.body : Code := bodyOf Tryd.f16
theorem vars_Resolve_2.e (w0 : World) (k : Nat) : ∀ v, (fun v => vars_Resolve_2 k v.1 v.2.1 v.2.2) v = runK (cfg w0 (tab53 k)) Tryd.f16.ntmps (vars_Resolve_2.kr w0 k) (annot (vars_Resolve_2.cuts w0 k) vars_Resolve_2.body) (entry (io68.enc v).1 (io68.enc v).2) (endK (vars_Resolve_2.kr w0 k)) := by
  intro v; kernel_rfl
theorem vars_Resolve_2.hb : Tryd.f16.body = some vars_Resolve_2.body := by kernel_rfl
def tab54 (k : Nat) : Tab T := addTab 16 (line io68 io69 (false, []) (fun v => vars_Resolve_2 k v.1 v.2.1 v.2.2)) (tab53 k)
def vars_last_v2 (k : Nat) (a4 : List UInt8) : Option ((List UInt8) × Bool) := some ([], false)
def tab55 (k : Nat) : Tab T := addTab 22 (line io87 io3 ([], false) (fun v => vars_last_v2 k v)) (tab54 k)
structure vars_Fill_v2.G.R where
  vars_put_v2 : (List S51) → Option ((List UInt8) × Bool)
  vars_Fill_v2 : (List UInt8) → Option ((List UInt8) × Bool)
def vars_put_v2.nat (k : Nat) (r : vars_Fill_v2.G.R) (a1 : List S51) : Option ((List UInt8) × Bool) :=
(vars_asked k a1).bind fun r2 =>
cond (!r2.2.2.2) (
some (([] : List UInt8), false)) (
(vars_last_v2 k r2.1).bind fun r3 =>
cond r3.2 (
some (r3.1, true)) (
cond (!r2.2.2.1) (
some (([] : List UInt8), false)) (
(cssrule_Head k r2.2.1).bind fun r4 =>
(r.vars_Fill_v2 r4).bind fun r5 =>
some (r5.1, r5.2))))
def vars_Fill_v2.c13 (k : Nat) (r : vars_Fill_v2.G.R) : Nat → (List S51) → Int → (List UInt8) → ((List UInt8) → Option ((List UInt8) × Bool)) → Option ((List UInt8) × Bool)
  | 0, _, _, _, _ => none
  | n + 1, x4, x5, x6, k0 =>
    let v7 : Bool := (decide (x5 < (x4.length : Int)))
    cond v7 (
    cond (decide (0 ≤ x5 ∧ x5 < (x4.length : Int))) (
    (vars_isVar k ((x4.getD x5.toNat S51.d).Kind) ((x4.getD x5.toNat S51.d).Raw) ((x4.getD x5.toNat S51.d).Value) ((x4.getD x5.toNat S51.d).Num)).bind fun r8 =>
    cond (!r8) (
    cond (decide (0 ≤ x5 ∧ x5 < (x4.length : Int))) (
    (f__strings_Builder__WriteString k ((x4.getD x5.toNat S51.d).Raw) x6).bind fun r9 =>
    let v10 : Int := (IntKind.wrap .i64 (x5 + (1 : Int)))
    vars_Fill_v2.c13 k r n x4 v10 r9.2 k0) none) (
    cond (decide (0 ≤ x5 ∧ x5 ≤ (x4.length : Int))) (
    (vars_closed k (x4.drop x5.toNat)).bind fun r11 =>
    cond (r11 == (0 : Int)) (
    some (([] : List UInt8), false)) (
    let v12 : Int := (IntKind.wrap .i64 (x5 + (1 : Int)))
    let v13 : Int := (IntKind.wrap .i64 ((IntKind.wrap .i64 (x5 + r11)) - (1 : Int)))
    cond (decide (0 ≤ v12 ∧ v12 ≤ v13 ∧ v13 ≤ (x4.length : Int))) (
    let v14 : List S51 := ((x4.take v13.toNat).drop v12.toNat)
    (r.vars_put_v2 v14).bind fun r15 =>
    cond (!r15.2) (
    some (([] : List UInt8), false)) (
    (f__strings_Builder__WriteString k r15.1 x6).bind fun r6 =>
    (f__strings_Builder__Len k r6.2).bind fun r7 =>
    cond (decide (r7.1 > (400 : Int))) (
    some (([] : List UInt8), false)) (
    vars_Fill_v2.c13 k r n x4 (IntKind.wrap .i64 (x5 + r11)) r7.2 k0))) none)) none)) none) (
    k0 x6)
def vars_Fill_v2.nat (k : Nat) (r : vars_Fill_v2.G.R) (a1 : List UInt8) : Option ((List UInt8) × Bool) :=
let v2 : Bool := (decide ((a1.length : Int) > (400 : Int)))
cond v2 (
some (([] : List UInt8), false)) (
(csstok_Cut k a1).bind fun r3 =>
vars_Fill_v2.c13 k r k r3 (0 : Int) ([] : List UInt8) (fun (y8 : List UInt8) =>
(f__strings_Builder__String k y8).bind fun r9 =>
(f__strings_Builder__Len k r9.2).bind fun r10 =>
some (r9.1, (decide (r10.1 ≤ (400 : Int))))))
def vars_Fill_v2.G.rec (k : Nat) : Nat → vars_Fill_v2.G.R
  | 0 => ⟨fun _ => none, fun _ => none⟩
  | n + 1 => ⟨vars_put_v2.nat k (vars_Fill_v2.G.rec k n), vars_Fill_v2.nat k (vars_Fill_v2.G.rec k n)⟩
def vars_put_v2 (k : Nat) : (List S51) → Option ((List UInt8) × Bool) := (vars_Fill_v2.G.rec k k).vars_put_v2
def vars_Fill_v2 (k : Nat) : (List UInt8) → Option ((List UInt8) × Bool) := (vars_Fill_v2.G.rec k k).vars_Fill_v2
def vars_Fill_v2.G.tab (k : Nat) (r : vars_Fill_v2.G.R) : Tab T := addTab 10 (line io89 io3 ([], false) (fun v => r.vars_Fill_v2 v)) (addTab 27 (line io88 io3 ([], false) (fun v => r.vars_put_v2 v)) (tab55 k))
def vars_put_v2.kr (w0 : World) (k : Nat) (r : vars_Fill_v2.G.R) : Kr T ((List UInt8) × Bool) := (kret (retK (cfg w0 (vars_Fill_v2.G.tab k r)) Tryd.f27.results.toList 0 [] io3.pat))
def vars_put_v2.cuts (w0 : World) (k : Nat) (r : vars_Fill_v2.G.R) : Cuts T ((List UInt8) × Bool) := fun n => none
def vars_put_v2.body : Code := bodyOf Tryd.f27
theorem vars_put_v2.e (w0 : World) (k : Nat) (r : vars_Fill_v2.G.R) : ∀ v, (fun v => vars_put_v2.nat k r v) v = runK (cfg w0 (vars_Fill_v2.G.tab k r)) Tryd.f27.ntmps (vars_put_v2.kr w0 k r) (annot (vars_put_v2.cuts w0 k r) vars_put_v2.body) (entry (io88.enc v).1 (io88.enc v).2) (endK (vars_put_v2.kr w0 k r)) := by
  intro v; kernel_rfl
theorem vars_put_v2.hb : Tryd.f27.body = some vars_put_v2.body := by kernel_rfl
def vars_Fill_v2.kr (w0 : World) (k : Nat) (r : vars_Fill_v2.G.R) : Kr T ((List UInt8) × Bool) := (kret (retK (cfg w0 (vars_Fill_v2.G.tab k r)) Tryd.f10.results.toList 0 [] io3.pat))
def vars_Fill_v2.x13 : Ex → Option (List Nat × List Sp)
  | .exit 0 => some ([7], [])
  | _ => none
def vars_Fill_v2.L13 (k : Nat) (r : vars_Fill_v2.G.R) (n : Nat) (v : (List S51) × Int × (List UInt8)) (K : Ex → St T → Option ((List UInt8) × Bool)) : Option ((List UInt8) × Bool) := vars_Fill_v2.c13 k r n v.1 v.2.1 v.2.2 (fun y101 => K (.exit 0) (mkSt [7] (io5.enc y101)))
def vars_Fill_v2.cuts (w0 : World) (k : Nat) (r : vars_Fill_v2.G.R) : Cuts T ((List UInt8) × Bool) := fun n => bif n.beq 13 then some (entK (cfg w0 (vars_Fill_v2.G.tab k r)) 0 [1, 6, 7, 8] [] io90.pat (vars_Fill_v2.L13 k r k)) else none
def vars_Fill_v2.body : Code := bodyOf Tryd.f10
def vars_Fill_v2.b13 : Code := findD 13 vars_Fill_v2.body
theorem vars_Fill_v2.s13 (w0 : World) (k : Nat) (r : vars_Fill_v2.G.R) : ∀ n v K, vars_Fill_v2.L13 k r (n + 1) v K = runK (cfg w0 (vars_Fill_v2.G.tab k r)) Tryd.f10.ntmps (vars_Fill_v2.kr w0 k r) (annot (vars_Fill_v2.cuts w0 k r) vars_Fill_v2.b13) (mkSt [1, 6, 7, 8] (io90.enc v)) (loopK (cfg w0 (vars_Fill_v2.G.tab k r)) 0 vars_Fill_v2.x13 (entK (cfg w0 (vars_Fill_v2.G.tab k r)) 0 [1, 6, 7, 8] [] io90.pat (vars_Fill_v2.L13 k r n)) K) := by
  intro n v K; kernel_rfl
theorem vars_Fill_v2.e (w0 : World) (k : Nat) (r : vars_Fill_v2.G.R) : ∀ v, (fun v => vars_Fill_v2.nat k r v) v = runK (cfg w0 (vars_Fill_v2.G.tab k r)) Tryd.f10.ntmps (vars_Fill_v2.kr w0 k r) (annot (vars_Fill_v2.cuts w0 k r) vars_Fill_v2.body) (entry (io89.enc v).1 (io89.enc v).2) (endK (vars_Fill_v2.kr w0 k r)) := by
  intro v; kernel_rfl
theorem vars_Fill_v2.hb : Tryd.f10.body = some vars_Fill_v2.body := by kernel_rfl
def tab56 (k : Nat) : Tab T := vars_Fill_v2.G.tab k (vars_Fill_v2.G.rec k k)
def vars_Resolve_2_1_v2 (k : Nat) (a1 : List UInt8) (a2 : List S27) : Option (Bool × (List S27)) :=
(api_SVar__v6 k a2 a1).bind fun r3 =>
some (r3.1, a2)
def vars_Resolve_2_1_v2.kr (w0 : World) (k : Nat) : Kr T (Bool × (List S27)) := (kret (retK (cfg w0 (tab56 k)) Tryd.f19.results.toList 1 [] io92.pat))
def vars_Resolve_2_1_v2.cuts (w0 : World) (k : Nat) : Cuts T (Bool × (List S27)) := fun n => none
def vars_Resolve_2_1_v2.body : Code := bodyOf Tryd.f19
theorem vars_Resolve_2_1_v2.e (w0 : World) (k : Nat) : ∀ v, (fun v => vars_Resolve_2_1_v2 k v.1 v.2) v = runK (cfg w0 (tab56 k)) Tryd.f19.ntmps (vars_Resolve_2_1_v2.kr w0 k) (annot (vars_Resolve_2_1_v2.cuts w0 k) vars_Resolve_2_1_v2.body) (entry (io91.enc v).1 (io91.enc v).2) (endK (vars_Resolve_2_1_v2.kr w0 k)) := by
  intro v; kernel_rfl
theorem vars_Resolve_2_1_v2.hb : Tryd.f19.body = some vars_Resolve_2_1_v2.body := by kernel_rfl
def tab57 (k : Nat) : Tab T := addTab 19 (line io91 io92 (false, []) (fun v => vars_Resolve_2_1_v2 k v.1 v.2)) (tab56 k)
def slices_IndexFunc___string_string__v2.c5 (k : Nat) : Nat → (List (List UInt8)) → Int → Int → (List S27) → ((List S27) → Option (Int × (List S27))) → Option (Int × (List S27))
  | 0, _, _, _, _, _ => none
  | n + 1, x3, x4, x5, x6, k0 =>
    cond (decide (x5 < x4)) (
    cond (decide (0 ≤ x5 ∧ x5 < (x3.length : Int))) (
    (vars_Resolve_2_1_v2 k (x3.getD x5.toNat []) x6).bind fun r7 =>
    cond r7.1 (
    some (x5, r7.2)) (
    let v8 : Int := (IntKind.wrap .i64 (x5 + (1 : Int)))
    slices_IndexFunc___string_string__v2.c5 k n x3 x4 v8 r7.2 k0)) none) (
    k0 x6)
def slices_IndexFunc___string_string__v2 (k : Nat) (a1 : List (List UInt8)) (a2 : List S27) : Option (Int × (List S27)) :=
slices_IndexFunc___string_string__v2.c5 k k a1 (a1.length : Int) (0 : Int) a2 (fun (y9 : List S27) =>
some ((-1 : Int), y9))
def slices_IndexFunc___string_string__v2.kr (w0 : World) (k : Nat) : Kr T (Int × (List S27)) := (kret (retK (cfg w0 (tab57 k)) Tryd.f33.results.toList 1 [] io94.pat))
def slices_IndexFunc___string_string__v2.x5 : Ex → Option (List Nat × List Sp)
  | .exit 0 => some ([], [])
  | _ => none
def slices_IndexFunc___string_string__v2.L5 (k : Nat) (n : Nat) (v : (List (List UInt8)) × Int × Int × (List S27)) (K : Ex → St T → Option (Int × (List S27))) : Option (Int × (List S27)) := slices_IndexFunc___string_string__v2.c5 k n v.1 v.2.1 v.2.2.1 v.2.2.2 (fun y102 => K (.exit 0) (mkSt [] (io96.enc y102)))
def slices_IndexFunc___string_string__v2.cuts (w0 : World) (k : Nat) : Cuts T (Int × (List S27)) := fun n => bif n.beq 5 then some (entK (cfg w0 (tab57 k)) 1 [0, 1, 7, 8] [] io95.pat (slices_IndexFunc___string_string__v2.L5 k k)) else none
def slices_IndexFunc___string_string__v2.body : Code := bodyOf Tryd.f33
def slices_IndexFunc___string_string__v2.b5 : Code := findD 5 slices_IndexFunc___string_string__v2.body
theorem slices_IndexFunc___string_string__v2.s5 (w0 : World) (k : Nat) : ∀ n v K, slices_IndexFunc___string_string__v2.L5 k (n + 1) v K = runK (cfg w0 (tab57 k)) Tryd.f33.ntmps (slices_IndexFunc___string_string__v2.kr w0 k) (annot (slices_IndexFunc___string_string__v2.cuts w0 k) slices_IndexFunc___string_string__v2.b5) (mkSt [0, 1, 7, 8] (io95.enc v)) (loopK (cfg w0 (tab57 k)) 1 slices_IndexFunc___string_string__v2.x5 (entK (cfg w0 (tab57 k)) 1 [0, 1, 7, 8] [] io95.pat (slices_IndexFunc___string_string__v2.L5 k n)) K) := by
  intro n v K; kernel_rfl
theorem slices_IndexFunc___string_string__v2.e (w0 : World) (k : Nat) : ∀ v, (fun v => slices_IndexFunc___string_string__v2 k v.1 v.2) v = runK (cfg w0 (tab57 k)) Tryd.f33.ntmps (slices_IndexFunc___string_string__v2.kr w0 k) (annot (slices_IndexFunc___string_string__v2.cuts w0 k) slices_IndexFunc___string_string__v2.body) (entry (io93.enc v).1 (io93.enc v).2) (endK (slices_IndexFunc___string_string__v2.kr w0 k)) := by
  intro v; kernel_rfl
theorem slices_IndexFunc___string_string__v2.hb : Tryd.f33.body = some slices_IndexFunc___string_string__v2.body := by kernel_rfl
def tab58 (k : Nat) : Tab T := addTab 33 (line io93 io94 ((0 : Int), []) (fun v => slices_IndexFunc___string_string__v2 k v.1 v.2)) (tab57 k)
def slices_ContainsFunc___string_string__v2 (k : Nat) (a1 : List (List UInt8)) (a2 : List S27) : Option (Bool × (List S27)) :=
(slices_IndexFunc___string_string__v2 k a1 a2).bind fun r3 =>
some ((decide (r3.1 ≥ (0 : Int))), r3.2)
def slices_ContainsFunc___string_string__v2.kr (w0 : World) (k : Nat) : Kr T (Bool × (List S27)) := (kret (retK (cfg w0 (tab58 k)) Tryd.f17.results.toList 1 [] io92.pat))
def slices_ContainsFunc___string_string__v2.cuts (w0 : World) (k : Nat) : Cuts T (Bool × (List S27)) := fun n => none
def slices_ContainsFunc___string_string__v2.body : Code := bodyOf Tryd.f17
theorem slices_ContainsFunc___string_string__v2.e (w0 : World) (k : Nat) : ∀ v, (fun v => slices_ContainsFunc___string_string__v2 k v.1 v.2) v = runK (cfg w0 (tab58 k)) Tryd.f17.ntmps (slices_ContainsFunc___string_string__v2.kr w0 k) (annot (slices_ContainsFunc___string_string__v2.cuts w0 k) slices_ContainsFunc___string_string__v2.body) (entry (io93.enc v).1 (io93.enc v).2) (endK (slices_ContainsFunc___string_string__v2.kr w0 k)) := by
  intro v; kernel_rfl
theorem slices_ContainsFunc___string_string__v2.hb : Tryd.f17.body = some slices_ContainsFunc___string_string__v2.body := by kernel_rfl
def tab59 (k : Nat) : Tab T := addTab 17 (line io93 io92 (false, []) (fun v => slices_ContainsFunc___string_string__v2 k v.1 v.2)) (tab58 k)
def vars_Resolve_2_v2 (k : Nat) (a1 : List UInt8) (a2 : List UInt8) (a3 : List S27) : Option (Bool × (List S27)) :=
(vars_on k a2).bind fun r4 =>
(slices_ContainsFunc___string_string__v2 k r4 a3).bind fun r5 =>
some (r5.1, r5.2)
def vars_Resolve_2_v2.kr (w0 : World) (k : Nat) : Kr T (Bool × (List S27)) := (kret (retK (cfg w0 (tab59 k)) Tryd.f16.results.toList 1 [] io92.pat))
def vars_Resolve_2_v2.cuts (w0 : World) (k : Nat) : Cuts T (Bool × (List S27)) := fun n => none
def vars_Resolve_2_v2.body : Code := bodyOf Tryd.f16
theorem vars_Resolve_2_v2.e (w0 : World) (k : Nat) : ∀ v, (fun v => vars_Resolve_2_v2 k v.1 v.2.1 v.2.2) v = runK (cfg w0 (tab59 k)) Tryd.f16.ntmps (vars_Resolve_2_v2.kr w0 k) (annot (vars_Resolve_2_v2.cuts w0 k) vars_Resolve_2_v2.body) (entry (io97.enc v).1 (io97.enc v).2) (endK (vars_Resolve_2_v2.kr w0 k)) := by
  intro v; kernel_rfl
theorem vars_Resolve_2_v2.hb : Tryd.f16.body = some vars_Resolve_2_v2.body := by kernel_rfl
def tab60 (k : Nat) : Tab T := addTab 16 (line io97 io92 (false, []) (fun v => vars_Resolve_2_v2 k v.1 v.2.1 v.2.2)) (tab59 k)
def vars_Resolve.c17 (k : Nat) : Nat → (List S27) → Int → Int → (List S27) → (List S27) → (List S27) → (List S27) → ((List S27) → (List S27) → (List S27) → (List S27) → Option (List S27)) → Option (List S27)
  | 0, _, _, _, _, _, _, _, _ => none
  | n + 1, x9, x10, x11, x12, x13, x14, x15, k2 =>
    cond (decide (x11 < x10)) (
    cond (decide (0 ≤ x11 ∧ x11 < (x9.length : Int))) (
    let v16 : List UInt8 := (x9.getD x11.toNat S27.d).Value
    (vars_Resolve_2_v2 k ((x9.getD x11.toNat S27.d).Name) v16 x14).bind fun r17 =>
    cond r17.1 (
    let v18 : List S27 := [(⟨(x9.getD x11.toNat S27.d).Name, v16⟩ : S27)]
    cond (decide ((x15 ++ v18).length < most)) (
    let v19 : Int := (IntKind.wrap .i64 (x11 + (1 : Int)))
    vars_Resolve.c17 k n x9 x10 v19 x12 x13 r17.2 (x15 ++ v18) k2) none) (
    (vars_Fill k v16 x13).bind fun r20 =>
    cond r20.2 (
    let v21 : List S27 := [(⟨(x9.getD x11.toNat S27.d).Name, r20.1⟩ : S27)]
    cond (decide ((x13 ++ v21).length < most)) (
    let v22 : Int := (IntKind.wrap .i64 (x11 + (1 : Int)))
    vars_Resolve.c17 k n x9 x10 v22 x12 (x13 ++ v21) r17.2 x15 k2) none) (
    let v23 : Int := (IntKind.wrap .i64 (x11 + (1 : Int)))
    vars_Resolve.c17 k n x9 x10 v23 x12 x13 r17.2 x15 k2))) none) (
    k2 x12 x13 x14 x15)
def vars_Resolve.c9 (k : Nat) : Nat → (List S27) → (List S27) → (List S27) → ((List S27) → (List S27) → Option (List S27)) → Option (List S27)
  | 0, _, _, _, _ => none
  | n + 1, x5, x6, x7, k0 =>
    let v8 : Bool := (decide ((x7.length : Int) > (0 : Int)))
    cond v8 (
    vars_Resolve.c17 k k x7 (x7.length : Int) (0 : Int) x5 x6 x7 ([] : List S27) (fun (y24 : List S27) (y25 : List S27) (y26 : List S27) (y27 : List S27) =>
    vars_Resolve.c9 k n y24 y25 y27 k0)) (
    k0 x5 x6)
def vars_Resolve.c39 (k : Nat) : Nat → (List S27) → Int → Int → (List S27) → (List S27) → ((List S27) → Option (List S27)) → Option (List S27)
  | 0, _, _, _, _, _, _ => none
  | n + 1, x30, x31, x32, x33, x34, k4 =>
    cond (decide (x32 < x31)) (
    cond (decide (0 ≤ x32 ∧ x32 < (x30.length : Int))) (
    let v35 : List UInt8 := (x30.getD x32.toNat S27.d).Name
    let v36 : List UInt8 := (x30.getD x32.toNat S27.d).Value
    (vars_last k x33 v35).bind fun r37 =>
    cond r37.2 (
    cond (decide ((x34 ++ ([(⟨v35, r37.1⟩ : S27)])).length < most)) (
    let v38 : List S27 := (x34 ++ ([(⟨v35, r37.1⟩ : S27)]))
    let v39 : Int := (IntKind.wrap .i64 (x32 + (1 : Int)))
    vars_Resolve.c39 k n x30 x31 v39 x33 v38 k4) none) (
    let v40 : Int := (IntKind.wrap .i64 (x32 + (1 : Int)))
    vars_Resolve.c39 k n x30 x31 v40 x33 x34 k4)) none) (
    k4 x34)
def vars_Resolve (k : Nat) (a1 : List S27) : Option (List S27) :=
(vars_counted k a1).bind fun r2 =>
(api_SVar__v3 k r2).bind fun r3 =>
(api_SVar__v4 k r3 r2).bind fun r4 =>
vars_Resolve.c9 k k r4.1 ([] : List S27) r4.2 (fun (y28 : List S27) (y29 : List S27) =>
vars_Resolve.c39 k k y28 (y28.length : Int) (0 : Int) y29 ([] : List S27) (fun (y41 : List S27) =>
some y41))
def vars_Resolve.kr (w0 : World) (k : Nat) : Kr T (List S27) := (kret (retK (cfg w0 (tab60 k)) Tryd.f7.results.toList 0 [.own 0 27] io61.pat))
def vars_Resolve.x17 : Ex → Option (List Nat × List Sp)
  | .exit 2 => some ([3, 4, 5, 7], [.box 3 22, .own 4 27, .box 5 22, .own 7 27])
  | _ => none
def vars_Resolve.L17 (k : Nat) (n : Nat) (v : (List S27) × Int × Int × (List S27) × (List S27) × (List S27) × (List S27)) (K : Ex → St T → Option (List S27)) : Option (List S27) := vars_Resolve.c17 k n v.1 v.2.1 v.2.2.1 v.2.2.2.1 v.2.2.2.2.1 v.2.2.2.2.2.1 v.2.2.2.2.2.2 (fun y103 y104 y105 y106 => K (.exit 2) (mkSt [3, 4, 5, 7] (io99.enc (y103, y104, y105, y106))))
def vars_Resolve.x9 : Ex → Option (List Nat × List Sp)
  | .exit 0 => some ([3, 4], [.box 3 22, .own 4 27])
  | _ => none
def vars_Resolve.L9 (k : Nat) (n : Nat) (v : (List S27) × (List S27) × (List S27)) (K : Ex → St T → Option (List S27)) : Option (List S27) := vars_Resolve.c9 k n v.1 v.2.1 v.2.2 (fun y107 y108 => K (.exit 0) (mkSt [3, 4] (io101.enc (y107, y108))))
def vars_Resolve.x39 : Ex → Option (List Nat × List Sp)
  | .exit 4 => some ([12], [.own 12 27])
  | _ => none
def vars_Resolve.L39 (k : Nat) (n : Nat) (v : (List S27) × Int × Int × (List S27) × (List S27)) (K : Ex → St T → Option (List S27)) : Option (List S27) := vars_Resolve.c39 k n v.1 v.2.1 v.2.2.1 v.2.2.2.1 v.2.2.2.2 (fun y109 => K (.exit 4) (mkSt [12] (io61.enc y109)))
def vars_Resolve.cuts (w0 : World) (k : Nat) : Cuts T (List S27) := fun n => bif n.beq 17 then some (entK (cfg w0 (tab60 k)) 0 [3, 4, 5, 6, 7, 27, 28, 29] [.box 3 22, .own 4 27, .box 5 22, .own 7 27, .frz 27 27] io98.pat (vars_Resolve.L17 k k)) else bif n.beq 9 then some (entK (cfg w0 (tab60 k)) 0 [3, 4, 5] [.box 3 22, .own 4 27, .box 5 22] io100.pat (vars_Resolve.L9 k k)) else bif n.beq 39 then some (entK (cfg w0 (tab60 k)) 0 [4, 12, 57, 58, 59] [.own 4 27, .own 12 27, .frz 57 27] io102.pat (vars_Resolve.L39 k k)) else none
def vars_Resolve.body : Code := bodyOf Tryd.f7
def vars_Resolve.b17 : Code := findD 17 vars_Resolve.body
theorem vars_Resolve.s17 (w0 : World) (k : Nat) : ∀ n v K, vars_Resolve.L17 k (n + 1) v K = runK (cfg w0 (tab60 k)) Tryd.f7.ntmps (vars_Resolve.kr w0 k) (annot (vars_Resolve.cuts w0 k) vars_Resolve.b17) (mkSt [3, 4, 5, 6, 7, 27, 28, 29] (io98.enc v)) (loopK (cfg w0 (tab60 k)) 0 vars_Resolve.x17 (entK (cfg w0 (tab60 k)) 0 [3, 4, 5, 6, 7, 27, 28, 29] [.box 3 22, .own 4 27, .box 5 22, .own 7 27, .frz 27 27] io98.pat (vars_Resolve.L17 k n)) K) := by
  intro n v K; kernel_rfl
def vars_Resolve.b9 : Code := findD 9 vars_Resolve.body
theorem vars_Resolve.s9 (w0 : World) (k : Nat) : ∀ n v K, vars_Resolve.L9 k (n + 1) v K = runK (cfg w0 (tab60 k)) Tryd.f7.ntmps (vars_Resolve.kr w0 k) (annot (vars_Resolve.cuts w0 k) vars_Resolve.b9) (mkSt [3, 4, 5] (io100.enc v)) (loopK (cfg w0 (tab60 k)) 0 vars_Resolve.x9 (entK (cfg w0 (tab60 k)) 0 [3, 4, 5] [.box 3 22, .own 4 27, .box 5 22] io100.pat (vars_Resolve.L9 k n)) K) := by
  intro n v K; kernel_rfl
def vars_Resolve.b39 : Code := findD 39 vars_Resolve.body
theorem vars_Resolve.s39 (w0 : World) (k : Nat) : ∀ n v K, vars_Resolve.L39 k (n + 1) v K = runK (cfg w0 (tab60 k)) Tryd.f7.ntmps (vars_Resolve.kr w0 k) (annot (vars_Resolve.cuts w0 k) vars_Resolve.b39) (mkSt [4, 12, 57, 58, 59] (io102.enc v)) (loopK (cfg w0 (tab60 k)) 0 vars_Resolve.x39 (entK (cfg w0 (tab60 k)) 0 [4, 12, 57, 58, 59] [.own 4 27, .own 12 27, .frz 57 27] io102.pat (vars_Resolve.L39 k n)) K) := by
  intro n v K; kernel_rfl
theorem vars_Resolve.e (w0 : World) (k : Nat) : ∀ v, (fun v => vars_Resolve k v) v = runK (cfg w0 (tab60 k)) Tryd.f7.ntmps (vars_Resolve.kr w0 k) (annot (vars_Resolve.cuts w0 k) vars_Resolve.body) (entry (io60.enc v).1 (io60.enc v).2) (endK (vars_Resolve.kr w0 k)) := by
  intro v; kernel_rfl
theorem vars_Resolve.hb : Tryd.f7.body = some vars_Resolve.body := by kernel_rfl
def tab61 (k : Nat) : Tab T := addTab 7 (line io60 io61 [] (fun v => vars_Resolve k v)) (tab60 k)
def clerestorykeep2_hasText.c5 (k : Nat) : Nat → (List UInt8) → (List UInt8) → Int → (Option (Bool)) → Option (Bool)
  | 0, _, _, _, _ => none
  | n + 1, x3, x4, x5, k0 =>
    let v6 : Int := (IntKind.wrap .i64 (x5 + (x4.length : Int)))
    let v7 : Bool := (decide (v6 ≤ (x3.length : Int)))
    cond v7 (
    let v8 : Int := (IntKind.wrap .i64 (x5 + (x4.length : Int)))
    cond (decide (0 ≤ x5 ∧ x5 ≤ v8 ∧ v8 ≤ (x3.length : Int))) (
    let v9 : List UInt8 := ((x3.take v8.toNat).drop x5.toNat)
    cond (v9 == x4) (
    some true) (
    let v10 : Int := (IntKind.wrap .i64 (x5 + (1 : Int)))
    clerestorykeep2_hasText.c5 k n x3 x4 v10 k0)) none) (
    k0)
def clerestorykeep2_hasText (k : Nat) (a1 : List UInt8) (a2 : List UInt8) : Option (Bool) :=
clerestorykeep2_hasText.c5 k k a1 a2 (0 : Int) (
some false)
def clerestorykeep2_hasText.kr (w0 : World) (k : Nat) : Kr T (Bool) := (kret (retK (cfg w0 (tab61 k)) Tryd.f8.results.toList 0 [] io2.pat))
def clerestorykeep2_hasText.x5 : Ex → Option (List Nat × List Sp)
  | .exit 0 => some ([], [])
  | _ => none
def clerestorykeep2_hasText.L5 (k : Nat) (n : Nat) (v : (List UInt8) × (List UInt8) × Int) (K : Ex → St T → Option (Bool)) : Option (Bool) := clerestorykeep2_hasText.c5 k n v.1 v.2.1 v.2.2 ( K (.exit 0) (mkSt [] (io42.enc ())))
def clerestorykeep2_hasText.cuts (w0 : World) (k : Nat) : Cuts T (Bool) := fun n => bif n.beq 5 then some (entK (cfg w0 (tab61 k)) 0 [0, 1, 5] [] io103.pat (clerestorykeep2_hasText.L5 k k)) else none
def clerestorykeep2_hasText.body : Code := bodyOf Tryd.f8
def clerestorykeep2_hasText.b5 : Code := findD 5 clerestorykeep2_hasText.body
theorem clerestorykeep2_hasText.s5 (w0 : World) (k : Nat) : ∀ n v K, clerestorykeep2_hasText.L5 k (n + 1) v K = runK (cfg w0 (tab61 k)) Tryd.f8.ntmps (clerestorykeep2_hasText.kr w0 k) (annot (clerestorykeep2_hasText.cuts w0 k) clerestorykeep2_hasText.b5) (mkSt [0, 1, 5] (io103.enc v)) (loopK (cfg w0 (tab61 k)) 0 clerestorykeep2_hasText.x5 (entK (cfg w0 (tab61 k)) 0 [0, 1, 5] [] io103.pat (clerestorykeep2_hasText.L5 k n)) K) := by
  intro n v K; kernel_rfl
theorem clerestorykeep2_hasText.e (w0 : World) (k : Nat) : ∀ v, (fun v => clerestorykeep2_hasText k v.1 v.2) v = runK (cfg w0 (tab61 k)) Tryd.f8.ntmps (clerestorykeep2_hasText.kr w0 k) (annot (clerestorykeep2_hasText.cuts w0 k) clerestorykeep2_hasText.body) (entry (io0.enc v).1 (io0.enc v).2) (endK (clerestorykeep2_hasText.kr w0 k)) := by
  intro v; kernel_rfl
theorem clerestorykeep2_hasText.hb : Tryd.f8.body = some clerestorykeep2_hasText.body := by kernel_rfl
def tab62 (k : Nat) : Tab T := addTab 8 (line io0 io2 false (fun v => clerestorykeep2_hasText k v.1 v.2)) (tab61 k)
def clerestorykeep2_sameVars.c9 (k : Nat) : Nat → (List S27) → (List S27) → Int → (Option (Bool)) → Option (Bool)
  | 0, _, _, _, _ => none
  | n + 1, x4, x5, x6, k0 =>
    let v7 : Bool := (decide (x6 < (x4.length : Int)))
    cond v7 (
    cond (decide (0 ≤ x6 ∧ x6 < (x4.length : Int))) (
    cond (decide (0 ≤ x6 ∧ x6 < (x5.length : Int))) (
    let v8 : Bool := (!((((x4.getD x6.toNat S27.d).Name) == ((x5.getD x6.toNat S27.d).Name)) && ((((x4.getD x6.toNat S27.d).Value) == ((x5.getD x6.toNat S27.d).Value)) && true)))
    cond v8 (
    some false) (
    let v9 : Int := (IntKind.wrap .i64 (x6 + (1 : Int)))
    clerestorykeep2_sameVars.c9 k n x4 x5 v9 k0)) none) none) (
    k0)
def clerestorykeep2_sameVars (k : Nat) (a1 : List S27) (a2 : List S27) : Option (Bool) :=
let v3 : Bool := ((a1.length : Int) != (a2.length : Int))
cond v3 (
some false) (
clerestorykeep2_sameVars.c9 k k a1 a2 (0 : Int) (
some true))
def clerestorykeep2_sameVars.kr (w0 : World) (k : Nat) : Kr T (Bool) := (kret (retK (cfg w0 (tab62 k)) Tryd.f9.results.toList 0 [] io2.pat))
def clerestorykeep2_sameVars.x9 : Ex → Option (List Nat × List Sp)
  | .exit 0 => some ([], [])
  | _ => none
def clerestorykeep2_sameVars.L9 (k : Nat) (n : Nat) (v : (List S27) × (List S27) × Int) (K : Ex → St T → Option (Bool)) : Option (Bool) := clerestorykeep2_sameVars.c9 k n v.1 v.2.1 v.2.2 ( K (.exit 0) (mkSt [] (io42.enc ())))
def clerestorykeep2_sameVars.cuts (w0 : World) (k : Nat) : Cuts T (Bool) := fun n => bif n.beq 9 then some (entK (cfg w0 (tab62 k)) 0 [0, 1, 5] [] io105.pat (clerestorykeep2_sameVars.L9 k k)) else none
def clerestorykeep2_sameVars.body : Code := bodyOf Tryd.f9
def clerestorykeep2_sameVars.b9 : Code := findD 9 clerestorykeep2_sameVars.body
theorem clerestorykeep2_sameVars.s9 (w0 : World) (k : Nat) : ∀ n v K, clerestorykeep2_sameVars.L9 k (n + 1) v K = runK (cfg w0 (tab62 k)) Tryd.f9.ntmps (clerestorykeep2_sameVars.kr w0 k) (annot (clerestorykeep2_sameVars.cuts w0 k) clerestorykeep2_sameVars.b9) (mkSt [0, 1, 5] (io105.enc v)) (loopK (cfg w0 (tab62 k)) 0 clerestorykeep2_sameVars.x9 (entK (cfg w0 (tab62 k)) 0 [0, 1, 5] [] io105.pat (clerestorykeep2_sameVars.L9 k n)) K) := by
  intro n v K; kernel_rfl
theorem clerestorykeep2_sameVars.e (w0 : World) (k : Nat) : ∀ v, (fun v => clerestorykeep2_sameVars k v.1 v.2) v = runK (cfg w0 (tab62 k)) Tryd.f9.ntmps (clerestorykeep2_sameVars.kr w0 k) (annot (clerestorykeep2_sameVars.cuts w0 k) clerestorykeep2_sameVars.body) (entry (io104.enc v).1 (io104.enc v).2) (endK (clerestorykeep2_sameVars.kr w0 k)) := by
  intro v; kernel_rfl
theorem clerestorykeep2_sameVars.hb : Tryd.f9.body = some clerestorykeep2_sameVars.body := by kernel_rfl
def tab63 (k : Nat) : Tab T := addTab 9 (line io104 io2 false (fun v => clerestorykeep2_sameVars k v.1 v.2)) (tab62 k)
def clerestorykeep2_VarAgain.c9 (k : Nat) : Nat → Bool → Int → (List S27) → (Bool → (List S27) → Option (Bool)) → Option (Bool)
  | 0, _, _, _, _ => none
  | n + 1, x5, x6, x7, k0 =>
    let v8 : Bool := (decide (x6 < (x7.length : Int)))
    cond v8 (
    cond (decide (0 ≤ x6 ∧ x6 < (x7.length : Int))) (
    (clerestorykeep2_hasText k ((x7.getD x6.toNat S27.d).Value) ([40] : List UInt8)).bind fun r9 =>
    cond r9 (
    some x5) (
    let v10 : Int := (IntKind.wrap .i64 (x6 + (1 : Int)))
    clerestorykeep2_VarAgain.c9 k n x5 v10 x7 k0)) none) (
    k0 x5 x7)
def clerestorykeep2_VarAgain (k : Nat) (a1 : List S27) : Option (Bool) :=
(clerestorykeep2_put k).bind fun r2 =>
let v3 : Int := (if (30 : Int) < (a1.length : Int) then (30 : Int) else (a1.length : Int))
cond (decide (0 ≤ v3 ∧ v3 ≤ (a1.length : Int))) (
(vars_Resolve k (a1.take v3.toNat)).bind fun r4 =>
clerestorykeep2_VarAgain.c9 k k r2 (0 : Int) r4 (fun (y11 : Bool) (y12 : List S27) =>
(vars_Resolve k y12).bind fun r13 =>
(clerestorykeep2_sameVars k y12 r13).bind fun r14 =>
some (cond y11 r14 false))) none
def clerestorykeep2_VarAgain.kr (w0 : World) (k : Nat) : Kr T (Bool) := (kret (retK (cfg w0 (tab63 k)) Tryd.f3.results.toList 0 [] io2.pat))
def clerestorykeep2_VarAgain.x9 : Ex → Option (List Nat × List Sp)
  | .exit 0 => some ([3, 4], [])
  | _ => none
def clerestorykeep2_VarAgain.L9 (k : Nat) (n : Nat) (v : Bool × Int × (List S27)) (K : Ex → St T → Option (Bool)) : Option (Bool) := clerestorykeep2_VarAgain.c9 k n v.1 v.2.1 v.2.2 (fun y110 y111 => K (.exit 0) (mkSt [3, 4] (io107.enc (y110, y111))))
def clerestorykeep2_VarAgain.cuts (w0 : World) (k : Nat) : Cuts T (Bool) := fun n => bif n.beq 9 then some (entK (cfg w0 (tab63 k)) 0 [3, 4, 5] [] io106.pat (clerestorykeep2_VarAgain.L9 k k)) else none
def clerestorykeep2_VarAgain.body : Code := bodyOf Tryd.f3
def clerestorykeep2_VarAgain.b9 : Code := findD 9 clerestorykeep2_VarAgain.body
theorem clerestorykeep2_VarAgain.s9 (w0 : World) (k : Nat) : ∀ n v K, clerestorykeep2_VarAgain.L9 k (n + 1) v K = runK (cfg w0 (tab63 k)) Tryd.f3.ntmps (clerestorykeep2_VarAgain.kr w0 k) (annot (clerestorykeep2_VarAgain.cuts w0 k) clerestorykeep2_VarAgain.b9) (mkSt [3, 4, 5] (io106.enc v)) (loopK (cfg w0 (tab63 k)) 0 clerestorykeep2_VarAgain.x9 (entK (cfg w0 (tab63 k)) 0 [3, 4, 5] [] io106.pat (clerestorykeep2_VarAgain.L9 k n)) K) := by
  intro n v K; kernel_rfl
theorem clerestorykeep2_VarAgain.e (w0 : World) (k : Nat) : ∀ v, (fun v => clerestorykeep2_VarAgain k v) v = runK (cfg w0 (tab63 k)) Tryd.f3.ntmps (clerestorykeep2_VarAgain.kr w0 k) (annot (clerestorykeep2_VarAgain.cuts w0 k) clerestorykeep2_VarAgain.body) (entry (io60.enc v).1 (io60.enc v).2) (endK (clerestorykeep2_VarAgain.kr w0 k)) := by
  intro v; kernel_rfl
theorem clerestorykeep2_VarAgain.hb : Tryd.f3.body = some clerestorykeep2_VarAgain.body := by kernel_rfl
def tab64 (k : Nat) : Tab T := addTab 3 (line io60 io2 false (fun v => clerestorykeep2_VarAgain k v)) (tab63 k)
def clerestorykeep2_VarRing.c9 (k : Nat) : Nat → (List S27) → Int → Bool → Int → ((List S27) → Int → Bool → Option (Bool)) → Option (Bool)
  | 0, _, _, _, _, _ => none
  | n + 1, x5, x6, x7, x8, k0 =>
    let v9 : Bool := (decide (x8 < (x5.length : Int)))
    cond v9 (
    cond (decide (0 ≤ x8 ∧ x8 < (x5.length : Int))) (
    (clerestorykeep2_hasText k ((x5.getD x8.toNat S27.d).Value) ([114, 105, 110, 103] : List UInt8)).bind fun r10 =>
    cond ((decide (0 ≤ x8 ∧ x8 < (x5.length : Int))) || !(!r10)) (
    (cond (!r10) (clerestorykeep2_hasText k ((x5.getD x8.toNat S27.d).Value) ([92] : List UInt8)) (some false)).bind fun r11 =>
    cond ((decide (0 ≤ x8 ∧ x8 < (x5.length : Int))) || !(!(cond r10 true r11))) (
    (cond (!(cond r10 true r11)) (clerestorykeep2_hasText k ((x5.getD x8.toNat S27.d).Name) ([114, 105, 110, 103] : List UInt8)) (some false)).bind fun r12 =>
    let v13 : Bool := (cond (cond r10 true r11) true r12)
    cond v13 (
    some x7) (
    let v14 : Int := (IntKind.wrap .i64 (x8 + (1 : Int)))
    clerestorykeep2_VarRing.c9 k n x5 x6 x7 v14 k0)) none) none) none) (
    k0 x5 x6 x7)
def clerestorykeep2_VarRing.c23 (k : Nat) : Nat → (List S27) → Bool → Int → Int → (List S27) → ((List S27) → Bool → (List S27) → Option (Bool)) → Option (Bool)
  | 0, _, _, _, _, _, _ => none
  | n + 1, x19, x20, x21, x22, x23, k2 =>
    cond (decide (x22 ≤ x21)) (
    let v24 : Int := (IntKind.wrap .i64 (x22 + (1 : Int)))
    let v25 : Int := (IntKind.wrap .i64 (x21 + (1 : Int)))
    cond (v25 != 0) (
    let v26 : Int := (IntKind.wrap .i64 ((97 : Int) + x22))
    let v27 : List UInt8 := (bytesU ([(IntKind.wrap .u8 v26)]))
    cond (Nat.ble (([45, 45, 114, 105, 110, 103] : List UInt8).length + v27.length) 9223372036854775807) (
    let v28 : List UInt8 := (([45, 45, 114, 105, 110, 103] : List UInt8) ++ v27)
    let v29 : Int := (IntKind.wrap .i64 ((97 : Int) + (Int.tmod v24 v25)))
    let v30 : List UInt8 := (bytesU ([(IntKind.wrap .u8 v29)]))
    cond (Nat.ble (([120, 32, 118, 97, 114, 40, 45, 45, 121, 44, 32, 118, 97, 114, 40, 45, 45, 114, 105, 110, 103] : List UInt8).length + v30.length) 9223372036854775807) (
    let v31 : List UInt8 := (([120, 32, 118, 97, 114, 40, 45, 45, 121, 44, 32, 118, 97, 114, 40, 45, 45, 114, 105, 110, 103] : List UInt8) ++ v30)
    cond (Nat.ble (v31.length + ([41, 41] : List UInt8).length) 9223372036854775807) (
    let v32 : List UInt8 := (v31 ++ ([41, 41] : List UInt8))
    cond (decide ((x23 ++ ([(⟨v28, v32⟩ : S27)])).length < most)) (
    let v33 : List S27 := (x23 ++ ([(⟨v28, v32⟩ : S27)]))
    let v34 : Int := (IntKind.wrap .i64 (x22 + (1 : Int)))
    clerestorykeep2_VarRing.c23 k n x19 x20 x21 v34 v33 k2) none) none) none) none) none) (
    k2 x19 x20 x23)
def clerestorykeep2_VarRing (k : Nat) (a1 : List S27) (a2 : Int) : Option (Bool) :=
(clerestorykeep2_put k).bind fun r3 =>
let v4 : Int := (if (15 : Int) < (a1.length : Int) then (15 : Int) else (a1.length : Int))
cond (decide (0 ≤ v4 ∧ v4 ≤ (a1.length : Int))) (
clerestorykeep2_VarRing.c9 k k (a1.take v4.toNat) a2 r3 (0 : Int) (fun (y15 : List S27) (y16 : Int) (y17 : Bool) =>
cond ((4 : Int) != 0) (
let v18 : Int := (Int.tmod (IntKind.wrap .u64 y16) (4 : Int))
cond (decide ((([]) ++ y15).length < most)) (
clerestorykeep2_VarRing.c23 k k y15 y17 (IntKind.wrap .i64 v18) (0 : Int) (([]) ++ y15) (fun (y35 : List S27) (y36 : Bool) (y37 : List S27) =>
(vars_Resolve k y37).bind fun r38 =>
(vars_Resolve k y35).bind fun r39 =>
(clerestorykeep2_sameVars k r38 r39).bind fun r40 =>
some (cond y36 r40 false))) none) none)) none
def clerestorykeep2_VarRing.kr (w0 : World) (k : Nat) : Kr T (Bool) := (kret (retK (cfg w0 (tab64 k)) Tryd.f4.results.toList 0 [] io2.pat))
def clerestorykeep2_VarRing.x9 : Ex → Option (List Nat × List Sp)
  | .exit 0 => some ([0, 1, 5], [])
  | _ => none
def clerestorykeep2_VarRing.L9 (k : Nat) (n : Nat) (v : (List S27) × Int × Bool × Int) (K : Ex → St T → Option (Bool)) : Option (Bool) := clerestorykeep2_VarRing.c9 k n v.1 v.2.1 v.2.2.1 v.2.2.2 (fun y112 y113 y114 => K (.exit 0) (mkSt [0, 1, 5] (io110.enc (y112, y113, y114))))
def clerestorykeep2_VarRing.x23 : Ex → Option (List Nat × List Sp)
  | .exit 2 => some ([0, 5, 8], [])
  | _ => none
def clerestorykeep2_VarRing.L23 (k : Nat) (n : Nat) (v : (List S27) × Bool × Int × Int × (List S27)) (K : Ex → St T → Option (Bool)) : Option (Bool) := clerestorykeep2_VarRing.c23 k n v.1 v.2.1 v.2.2.1 v.2.2.2.1 v.2.2.2.2 (fun y115 y116 y117 => K (.exit 2) (mkSt [0, 5, 8] (io112.enc (y115, y116, y117))))
def clerestorykeep2_VarRing.cuts (w0 : World) (k : Nat) : Cuts T (Bool) := fun n => bif n.beq 9 then some (entK (cfg w0 (tab64 k)) 0 [0, 1, 5, 6] [] io109.pat (clerestorykeep2_VarRing.L9 k k)) else bif n.beq 23 then some (entK (cfg w0 (tab64 k)) 0 [0, 5, 7, 8, 9] [] io111.pat (clerestorykeep2_VarRing.L23 k k)) else none
def clerestorykeep2_VarRing.body : Code := bodyOf Tryd.f4
def clerestorykeep2_VarRing.b9 : Code := findD 9 clerestorykeep2_VarRing.body
theorem clerestorykeep2_VarRing.s9 (w0 : World) (k : Nat) : ∀ n v K, clerestorykeep2_VarRing.L9 k (n + 1) v K = runK (cfg w0 (tab64 k)) Tryd.f4.ntmps (clerestorykeep2_VarRing.kr w0 k) (annot (clerestorykeep2_VarRing.cuts w0 k) clerestorykeep2_VarRing.b9) (mkSt [0, 1, 5, 6] (io109.enc v)) (loopK (cfg w0 (tab64 k)) 0 clerestorykeep2_VarRing.x9 (entK (cfg w0 (tab64 k)) 0 [0, 1, 5, 6] [] io109.pat (clerestorykeep2_VarRing.L9 k n)) K) := by
  intro n v K; kernel_rfl
def clerestorykeep2_VarRing.b23 : Code := findD 23 clerestorykeep2_VarRing.body
theorem clerestorykeep2_VarRing.s23 (w0 : World) (k : Nat) : ∀ n v K, clerestorykeep2_VarRing.L23 k (n + 1) v K = runK (cfg w0 (tab64 k)) Tryd.f4.ntmps (clerestorykeep2_VarRing.kr w0 k) (annot (clerestorykeep2_VarRing.cuts w0 k) clerestorykeep2_VarRing.b23) (mkSt [0, 5, 7, 8, 9] (io111.enc v)) (loopK (cfg w0 (tab64 k)) 0 clerestorykeep2_VarRing.x23 (entK (cfg w0 (tab64 k)) 0 [0, 5, 7, 8, 9] [] io111.pat (clerestorykeep2_VarRing.L23 k n)) K) := by
  intro n v K; kernel_rfl
theorem clerestorykeep2_VarRing.e (w0 : World) (k : Nat) : ∀ v, (fun v => clerestorykeep2_VarRing k v.1 v.2) v = runK (cfg w0 (tab64 k)) Tryd.f4.ntmps (clerestorykeep2_VarRing.kr w0 k) (annot (clerestorykeep2_VarRing.cuts w0 k) clerestorykeep2_VarRing.body) (entry (io108.enc v).1 (io108.enc v).2) (endK (clerestorykeep2_VarRing.kr w0 k)) := by
  intro v; kernel_rfl
theorem clerestorykeep2_VarRing.hb : Tryd.f4.body = some clerestorykeep2_VarRing.body := by kernel_rfl
def tab65 (k : Nat) : Tab T := addTab 4 (line io108 io2 false (fun v => clerestorykeep2_VarRing k v.1 v.2)) (tab64 k)
def vars_counted_v2.c7 (k : Nat) : Nat → Int → Int → (Option (Unit)) → Option (Unit)
  | 0, _, _, _ => none
  | n + 1, x1, x2, k0 =>
    cond (decide (x2 < x1)) (
    none) (
    k0)
def vars_counted_v2 (k : Nat)  : Option (Unit) :=
vars_counted_v2.c7 k k ((0 : Nat) : Int) (0 : Int) (
some ())
def vars_counted_v2.kr (w0 : World) (k : Nat) : Kr T (Unit) := (kret (retK (cfg w0 (tab65 k)) Tryd.f11.results.toList 0 [] io113.pat))
def vars_counted_v2.x7 : Ex → Option (List Nat × List Sp)
  | .exit 0 => some ([3], [])
  | _ => none
def vars_counted_v2.L7 (k : Nat) (n : Nat) (v : Int × Int) (K : Ex → St T → Option (Unit)) : Option (Unit) := vars_counted_v2.c7 k n v.1 v.2 ( K (.exit 0) (mkSt [3] (io113.enc ())))
def vars_counted_v2.cuts (w0 : World) (k : Nat) : Cuts T (Unit) := fun n => bif n.beq 7 then some (entK (cfg w0 (tab65 k)) 0 [3, 7, 8, 9] [] io114.pat (vars_counted_v2.L7 k k)) else none
def vars_counted_v2.body : Code := bodyOf Tryd.f11
def vars_counted_v2.b7 : Code := findD 7 vars_counted_v2.body
theorem vars_counted_v2.s7 (w0 : World) (k : Nat) : ∀ n v K, vars_counted_v2.L7 k (n + 1) v K = runK (cfg w0 (tab65 k)) Tryd.f11.ntmps (vars_counted_v2.kr w0 k) (annot (vars_counted_v2.cuts w0 k) vars_counted_v2.b7) (mkSt [3, 7, 8, 9] (io114.enc v)) (loopK (cfg w0 (tab65 k)) 0 vars_counted_v2.x7 (entK (cfg w0 (tab65 k)) 0 [3, 7, 8, 9] [] io114.pat (vars_counted_v2.L7 k n)) K) := by
  intro n v K; kernel_rfl
theorem vars_counted_v2.e (w0 : World) (k : Nat) : ∀ v, (fun v => vars_counted_v2 k ) v = runK (cfg w0 (tab65 k)) Tryd.f11.ntmps (vars_counted_v2.kr w0 k) (annot (vars_counted_v2.cuts w0 k) vars_counted_v2.body) (entry (io113.enc v).1 (io113.enc v).2) (endK (vars_counted_v2.kr w0 k)) := by
  intro v; kernel_rfl
theorem vars_counted_v2.hb : Tryd.f11.body = some vars_counted_v2.body := by kernel_rfl
def tab66 (k : Nat) : Tab T := addTab 11 (line io113 io113 () (fun v => vars_counted_v2 k )) (tab65 k)
def api_SVar__v8 (k : Nat)  : Option (Unit) := some ()
def tab67 (k : Nat) : Tab T := addTab 13 (line io113 io113 () (fun v => api_SVar__v8 k )) (tab66 k)
def api_SVar__v10.c5 (k : Nat) : Nat → Int → Int → (Option (Int)) → Option (Int)
  | 0, _, _, _ => none
  | n + 1, x1, x2, k0 =>
    cond (decide (x2 < x1)) (
    none) (
    k0)
def api_SVar__v10 (k : Nat)  : Option (Int) :=
api_SVar__v10.c5 k k ((0 : Nat) : Int) (0 : Int) (
some (-1 : Int))
def api_SVar__v10.kr (w0 : World) (k : Nat) : Kr T (Int) := (kret (retK (cfg w0 (tab67 k)) Tryd.f30.results.toList 1 [] io116.pat))
def api_SVar__v10.x5 : Ex → Option (List Nat × List Sp)
  | .exit 0 => some ([], [])
  | _ => none
def api_SVar__v10.L5 (k : Nat) (n : Nat) (v : Int × Int) (K : Ex → St T → Option (Int)) : Option (Int) := api_SVar__v10.c5 k n v.1 v.2 ( K (.exit 0) (mkSt [] (io118.enc ())))
def api_SVar__v10.cuts (w0 : World) (k : Nat) : Cuts T (Int) := fun n => bif n.beq 5 then some (entK (cfg w0 (tab67 k)) 1 [0, 1, 7, 8] [] io117.pat (api_SVar__v10.L5 k k)) else none
def api_SVar__v10.body : Code := bodyOf Tryd.f30
def api_SVar__v10.b5 : Code := findD 5 api_SVar__v10.body
theorem api_SVar__v10.s5 (w0 : World) (k : Nat) : ∀ n v K, api_SVar__v10.L5 k (n + 1) v K = runK (cfg w0 (tab67 k)) Tryd.f30.ntmps (api_SVar__v10.kr w0 k) (annot (api_SVar__v10.cuts w0 k) api_SVar__v10.b5) (mkSt [0, 1, 7, 8] (io117.enc v)) (loopK (cfg w0 (tab67 k)) 1 api_SVar__v10.x5 (entK (cfg w0 (tab67 k)) 1 [0, 1, 7, 8] [] io117.pat (api_SVar__v10.L5 k n)) K) := by
  intro n v K; kernel_rfl
theorem api_SVar__v10.e (w0 : World) (k : Nat) : ∀ v, (fun v => api_SVar__v10 k ) v = runK (cfg w0 (tab67 k)) Tryd.f30.ntmps (api_SVar__v10.kr w0 k) (annot (api_SVar__v10.cuts w0 k) api_SVar__v10.body) (entry (io115.enc v).1 (io115.enc v).2) (endK (api_SVar__v10.kr w0 k)) := by
  intro v; kernel_rfl
theorem api_SVar__v10.hb : Tryd.f30.body = some api_SVar__v10.body := by kernel_rfl
def tab68 (k : Nat) : Tab T := addTab 30 (line io115 io116 (0 : Int) (fun v => api_SVar__v10 k )) (tab67 k)
def api_SVar__v9.c11 (k : Nat) : Nat → Int → Int → (Int → Option (Unit)) → Option (Unit)
  | 0, _, _, _ => none
  | n + 1, x3, x4, k0 =>
    let v5 : Bool := (decide (x4 < ((0 : Nat) : Int)))
    cond v5 (
    none) (
    k0 x3)
def api_SVar__v9 (k : Nat)  : Option (Unit) :=
(api_SVar__v10 k).bind fun r1 =>
cond (r1 == (-1 : Int)) (
some ()) (
let v2 : Int := (IntKind.wrap .i64 (r1 + (1 : Int)))
api_SVar__v9.c11 k k r1 v2 (fun (y6 : Int) =>
none))
def api_SVar__v9.kr (w0 : World) (k : Nat) : Kr T (Unit) := (kret (retK (cfg w0 (tab68 k)) Tryd.f12.results.toList 1 [] io119.pat))
def api_SVar__v9.x11 : Ex → Option (List Nat × List Sp)
  | .exit 0 => some ([0, 5], [])
  | _ => none
def api_SVar__v9.L11 (k : Nat) (n : Nat) (v : Int × Int) (K : Ex → St T → Option (Unit)) : Option (Unit) := api_SVar__v9.c11 k n v.1 v.2 (fun y118 => K (.exit 0) (mkSt [0, 5] (io120.enc y118)))
def api_SVar__v9.cuts (w0 : World) (k : Nat) : Cuts T (Unit) := fun n => bif n.beq 11 then some (entK (cfg w0 (tab68 k)) 1 [0, 1, 5, 6] [] io117.pat (api_SVar__v9.L11 k k)) else none
def api_SVar__v9.body : Code := bodyOf Tryd.f12
def api_SVar__v9.b11 : Code := findD 11 api_SVar__v9.body
theorem api_SVar__v9.s11 (w0 : World) (k : Nat) : ∀ n v K, api_SVar__v9.L11 k (n + 1) v K = runK (cfg w0 (tab68 k)) Tryd.f12.ntmps (api_SVar__v9.kr w0 k) (annot (api_SVar__v9.cuts w0 k) api_SVar__v9.b11) (mkSt [0, 1, 5, 6] (io117.enc v)) (loopK (cfg w0 (tab68 k)) 1 api_SVar__v9.x11 (entK (cfg w0 (tab68 k)) 1 [0, 1, 5, 6] [] io117.pat (api_SVar__v9.L11 k n)) K) := by
  intro n v K; kernel_rfl
theorem api_SVar__v9.e (w0 : World) (k : Nat) : ∀ v, (fun v => api_SVar__v9 k ) v = runK (cfg w0 (tab68 k)) Tryd.f12.ntmps (api_SVar__v9.kr w0 k) (annot (api_SVar__v9.cuts w0 k) api_SVar__v9.body) (entry (io115.enc v).1 (io115.enc v).2) (endK (api_SVar__v9.kr w0 k)) := by
  intro v; kernel_rfl
theorem api_SVar__v9.hb : Tryd.f12.body = some api_SVar__v9.body := by kernel_rfl
def tab69 (k : Nat) : Tab T := addTab 12 (line io115 io119 () (fun v => api_SVar__v9 k )) (tab68 k)
def vars_Resolve_v2.c17 (k : Nat) : Nat → Int → Int → (Option (Unit)) → Option (Unit)
  | 0, _, _, _ => none
  | n + 1, x5, x6, k2 =>
    cond (decide (x6 < x5)) (
    none) (
    k2)
def vars_Resolve_v2.c9 (k : Nat) : Nat → (Option (Unit)) → Option (Unit)
  | 0, _ => none
  | n + 1, k0 =>
    let v4 : Bool := (decide (((0 : Nat) : Int) > (0 : Int)))
    cond v4 (
    vars_Resolve_v2.c17 k k ((0 : Nat) : Int) (0 : Int) (
    vars_Resolve_v2.c9 k n k0)) (
    k0)
def vars_Resolve_v2.c39 (k : Nat) : Nat → Int → Int → (Option (Unit)) → Option (Unit)
  | 0, _, _, _ => none
  | n + 1, x7, x8, k4 =>
    cond (decide (x8 < x7)) (
    none) (
    k4)
def vars_Resolve_v2 (k : Nat)  : Option (Unit) :=
(vars_counted_v2 k).bind fun r1 =>
(api_SVar__v8 k).bind fun r2 =>
(api_SVar__v9 k).bind fun r3 =>
vars_Resolve_v2.c9 k k (
vars_Resolve_v2.c39 k k ((0 : Nat) : Int) (0 : Int) (
some ()))
def vars_Resolve_v2.kr (w0 : World) (k : Nat) : Kr T (Unit) := (kret (retK (cfg w0 (tab69 k)) Tryd.f7.results.toList 0 [] io113.pat))
def vars_Resolve_v2.x17 : Ex → Option (List Nat × List Sp)
  | .exit 2 => some ([3, 4, 5, 7], [])
  | _ => none
def vars_Resolve_v2.L17 (k : Nat) (n : Nat) (v : Int × Int) (K : Ex → St T → Option (Unit)) : Option (Unit) := vars_Resolve_v2.c17 k n v.1 v.2 ( K (.exit 2) (mkSt [3, 4, 5, 7] (io122.enc ())))
def vars_Resolve_v2.x9 : Ex → Option (List Nat × List Sp)
  | .exit 0 => some ([3, 4], [])
  | _ => none
def vars_Resolve_v2.L9 (k : Nat) (n : Nat) (v : Unit) (K : Ex → St T → Option (Unit)) : Option (Unit) := vars_Resolve_v2.c9 k n ( K (.exit 0) (mkSt [3, 4] (io124.enc ())))
def vars_Resolve_v2.x39 : Ex → Option (List Nat × List Sp)
  | .exit 4 => some ([12], [])
  | _ => none
def vars_Resolve_v2.L39 (k : Nat) (n : Nat) (v : Int × Int) (K : Ex → St T → Option (Unit)) : Option (Unit) := vars_Resolve_v2.c39 k n v.1 v.2 ( K (.exit 4) (mkSt [12] (io113.enc ())))
def vars_Resolve_v2.cuts (w0 : World) (k : Nat) : Cuts T (Unit) := fun n => bif n.beq 17 then some (entK (cfg w0 (tab69 k)) 0 [3, 4, 5, 6, 7, 27, 28, 29] [] io121.pat (vars_Resolve_v2.L17 k k)) else bif n.beq 9 then some (entK (cfg w0 (tab69 k)) 0 [3, 4, 5] [] io123.pat (vars_Resolve_v2.L9 k k)) else bif n.beq 39 then some (entK (cfg w0 (tab69 k)) 0 [4, 12, 57, 58, 59] [] io125.pat (vars_Resolve_v2.L39 k k)) else none
def vars_Resolve_v2.body : Code := bodyOf Tryd.f7
def vars_Resolve_v2.b17 : Code := findD 17 vars_Resolve_v2.body
theorem vars_Resolve_v2.s17 (w0 : World) (k : Nat) : ∀ n v K, vars_Resolve_v2.L17 k (n + 1) v K = runK (cfg w0 (tab69 k)) Tryd.f7.ntmps (vars_Resolve_v2.kr w0 k) (annot (vars_Resolve_v2.cuts w0 k) vars_Resolve_v2.b17) (mkSt [3, 4, 5, 6, 7, 27, 28, 29] (io121.enc v)) (loopK (cfg w0 (tab69 k)) 0 vars_Resolve_v2.x17 (entK (cfg w0 (tab69 k)) 0 [3, 4, 5, 6, 7, 27, 28, 29] [] io121.pat (vars_Resolve_v2.L17 k n)) K) := by
  intro n v K; kernel_rfl
def vars_Resolve_v2.b9 : Code := findD 9 vars_Resolve_v2.body
theorem vars_Resolve_v2.s9 (w0 : World) (k : Nat) : ∀ n v K, vars_Resolve_v2.L9 k (n + 1) v K = runK (cfg w0 (tab69 k)) Tryd.f7.ntmps (vars_Resolve_v2.kr w0 k) (annot (vars_Resolve_v2.cuts w0 k) vars_Resolve_v2.b9) (mkSt [3, 4, 5] (io123.enc v)) (loopK (cfg w0 (tab69 k)) 0 vars_Resolve_v2.x9 (entK (cfg w0 (tab69 k)) 0 [3, 4, 5] [] io123.pat (vars_Resolve_v2.L9 k n)) K) := by
  intro n v K; kernel_rfl
def vars_Resolve_v2.b39 : Code := findD 39 vars_Resolve_v2.body
theorem vars_Resolve_v2.s39 (w0 : World) (k : Nat) : ∀ n v K, vars_Resolve_v2.L39 k (n + 1) v K = runK (cfg w0 (tab69 k)) Tryd.f7.ntmps (vars_Resolve_v2.kr w0 k) (annot (vars_Resolve_v2.cuts w0 k) vars_Resolve_v2.b39) (mkSt [4, 12, 57, 58, 59] (io125.enc v)) (loopK (cfg w0 (tab69 k)) 0 vars_Resolve_v2.x39 (entK (cfg w0 (tab69 k)) 0 [4, 12, 57, 58, 59] [] io125.pat (vars_Resolve_v2.L39 k n)) K) := by
  intro n v K; kernel_rfl
theorem vars_Resolve_v2.e (w0 : World) (k : Nat) : ∀ v, (fun v => vars_Resolve_v2 k ) v = runK (cfg w0 (tab69 k)) Tryd.f7.ntmps (vars_Resolve_v2.kr w0 k) (annot (vars_Resolve_v2.cuts w0 k) vars_Resolve_v2.body) (entry (io113.enc v).1 (io113.enc v).2) (endK (vars_Resolve_v2.kr w0 k)) := by
  intro v; kernel_rfl
theorem vars_Resolve_v2.hb : Tryd.f7.body = some vars_Resolve_v2.body := by kernel_rfl
def tab70 (k : Nat) : Tab T := addTab 7 (line io113 io113 () (fun v => vars_Resolve_v2 k )) (tab69 k)
def clerestorykeep2_sameVars_v2.c9 (k : Nat) : Nat → (List S27) → Int → (Option (Bool)) → Option (Bool)
  | 0, _, _, _ => none
  | n + 1, x3, x4, k0 =>
    let v5 : Bool := (decide (x4 < (x3.length : Int)))
    cond v5 (
    cond (decide (0 ≤ x4 ∧ x4 < (x3.length : Int))) (
    none) none) (
    k0)
def clerestorykeep2_sameVars_v2 (k : Nat) (a1 : List S27) : Option (Bool) :=
let v2 : Bool := ((a1.length : Int) != ((0 : Nat) : Int))
cond v2 (
some false) (
clerestorykeep2_sameVars_v2.c9 k k a1 (0 : Int) (
some true))
def clerestorykeep2_sameVars_v2.kr (w0 : World) (k : Nat) : Kr T (Bool) := (kret (retK (cfg w0 (tab70 k)) Tryd.f9.results.toList 0 [] io2.pat))
def clerestorykeep2_sameVars_v2.x9 : Ex → Option (List Nat × List Sp)
  | .exit 0 => some ([], [])
  | _ => none
def clerestorykeep2_sameVars_v2.L9 (k : Nat) (n : Nat) (v : (List S27) × Int) (K : Ex → St T → Option (Bool)) : Option (Bool) := clerestorykeep2_sameVars_v2.c9 k n v.1 v.2 ( K (.exit 0) (mkSt [] (io42.enc ())))
def clerestorykeep2_sameVars_v2.cuts (w0 : World) (k : Nat) : Cuts T (Bool) := fun n => bif n.beq 9 then some (entK (cfg w0 (tab70 k)) 0 [0, 1, 5] [] io127.pat (clerestorykeep2_sameVars_v2.L9 k k)) else none
def clerestorykeep2_sameVars_v2.body : Code := bodyOf Tryd.f9
def clerestorykeep2_sameVars_v2.b9 : Code := findD 9 clerestorykeep2_sameVars_v2.body
theorem clerestorykeep2_sameVars_v2.s9 (w0 : World) (k : Nat) : ∀ n v K, clerestorykeep2_sameVars_v2.L9 k (n + 1) v K = runK (cfg w0 (tab70 k)) Tryd.f9.ntmps (clerestorykeep2_sameVars_v2.kr w0 k) (annot (clerestorykeep2_sameVars_v2.cuts w0 k) clerestorykeep2_sameVars_v2.b9) (mkSt [0, 1, 5] (io127.enc v)) (loopK (cfg w0 (tab70 k)) 0 clerestorykeep2_sameVars_v2.x9 (entK (cfg w0 (tab70 k)) 0 [0, 1, 5] [] io127.pat (clerestorykeep2_sameVars_v2.L9 k n)) K) := by
  intro n v K; kernel_rfl
theorem clerestorykeep2_sameVars_v2.e (w0 : World) (k : Nat) : ∀ v, (fun v => clerestorykeep2_sameVars_v2 k v) v = runK (cfg w0 (tab70 k)) Tryd.f9.ntmps (clerestorykeep2_sameVars_v2.kr w0 k) (annot (clerestorykeep2_sameVars_v2.cuts w0 k) clerestorykeep2_sameVars_v2.body) (entry (io126.enc v).1 (io126.enc v).2) (endK (clerestorykeep2_sameVars_v2.kr w0 k)) := by
  intro v; kernel_rfl
theorem clerestorykeep2_sameVars_v2.hb : Tryd.f9.body = some clerestorykeep2_sameVars_v2.body := by kernel_rfl
def tab71 (k : Nat) : Tab T := addTab 9 (line io126 io2 false (fun v => clerestorykeep2_sameVars_v2 k v)) (tab70 k)
def clerestorykeep2_VarTurned.c21 (k : Nat) : Nat → (List S27) → Bool → Int → Int → (List S27) → ((List S27) → Bool → Int → (List S27) → Option (Bool)) → Option (Bool)
  | 0, _, _, _, _, _, _ => none
  | n + 1, x14, x15, x16, x17, x18, k2 =>
    cond (decide (x17 < x16)) (
    cond (decide (0 ≤ x17 ∧ x17 < (x14.length : Int))) (
    let v19 : List UInt8 := (x14.getD x17.toNat S27.d).Name
    cond (decide (0 ≤ x16 ∧ x16 < (x14.length : Int))) (
    let v20 : List UInt8 := (x14.getD x16.toNat S27.d).Name
    cond (v19 == v20) (
    some x15) (
    let v21 : Int := (IntKind.wrap .i64 (x17 + (1 : Int)))
    clerestorykeep2_VarTurned.c21 k n x14 x15 x16 v21 x18 k2)) none) none) (
    k2 x14 x15 x16 x18)
def clerestorykeep2_VarTurned.c11 (k : Nat) : Nat → (List S27) → Bool → Int → (List S27) → ((List S27) → Bool → (List S27) → Option (Bool)) → Option (Bool)
  | 0, _, _, _, _, _ => none
  | n + 1, x6, x7, x8, x9, k0 =>
    cond (decide (x8 ≥ (0 : Int))) (
    cond (decide (0 ≤ x8 ∧ x8 < (x6.length : Int))) (
    (clerestorykeep2_hasText k ((x6.getD x8.toNat S27.d).Value) ([10] : List UInt8)).bind fun r10 =>
    cond ((decide (0 ≤ x8 ∧ x8 < (x6.length : Int))) || !(!r10)) (
    (cond (!r10) (clerestorykeep2_hasText k ((x6.getD x8.toNat S27.d).Value) ([13] : List UInt8)) (some false)).bind fun r11 =>
    cond ((decide (0 ≤ x8 ∧ x8 < (x6.length : Int))) || !(!(cond r10 true r11))) (
    (cond (!(cond r10 true r11)) (clerestorykeep2_hasText k ((x6.getD x8.toNat S27.d).Value) ([12] : List UInt8)) (some false)).bind fun r12 =>
    let v13 : Bool := (cond (cond r10 true r11) true r12)
    cond v13 (
    some x7) (
    clerestorykeep2_VarTurned.c21 k k x6 x7 x8 (0 : Int) x9 (fun (y22 : List S27) (y23 : Bool) (y24 : Int) (y25 : List S27) =>
    cond (decide (0 ≤ y24 ∧ y24 < (y22.length : Int))) (
    let v26 : List UInt8 := (y22.getD y24.toNat S27.d).Name
    let v27 : List UInt8 := (y22.getD y24.toNat S27.d).Value
    cond (decide ((y25 ++ ([(⟨v26, v27⟩ : S27)])).length < most)) (
    let v28 : List S27 := (y25 ++ ([(⟨v26, v27⟩ : S27)]))
    let v29 : Int := (IntKind.wrap .i64 (y24 - (1 : Int)))
    clerestorykeep2_VarTurned.c11 k n y22 y23 v29 v28 k0) none) none))) none) none) none) (
    k0 x6 x7 x9)
def clerestorykeep2_VarTurned.c39 (k : Nat) : Nat → Bool → Int → (List S27) → (List S27) → (List S27) → (Bool → (List S27) → (List S27) → Option (Bool)) → Option (Bool)
  | 0, _, _, _, _, _, _ => none
  | n + 1, x36, x37, x38, x39, x40, k4 =>
    cond (decide (x37 ≥ (0 : Int))) (
    cond (decide (0 ≤ x37 ∧ x37 < (x39.length : Int))) (
    let v41 : List UInt8 := (x39.getD x37.toNat S27.d).Name
    let v42 : List UInt8 := (x39.getD x37.toNat S27.d).Value
    cond (decide ((x40 ++ ([(⟨v41, v42⟩ : S27)])).length < most)) (
    let v43 : List S27 := (x40 ++ ([(⟨v41, v42⟩ : S27)]))
    let v44 : Int := (IntKind.wrap .i64 (x37 - (1 : Int)))
    clerestorykeep2_VarTurned.c39 k n x36 v44 x38 x39 v43 k4) none) none) (
    k4 x36 x38 x40)
def clerestorykeep2_VarTurned (k : Nat) (a1 : List S27) : Option (Bool) :=
(clerestorykeep2_put k).bind fun r2 =>
let v3 : Int := (if (15 : Int) < (a1.length : Int) then (15 : Int) else (a1.length : Int))
cond (decide (0 ≤ v3 ∧ v3 ≤ (a1.length : Int))) (
let v4 : Int := ((a1.take v3.toNat).length : Int)
let v5 : Int := (IntKind.wrap .i64 (v4 - (1 : Int)))
clerestorykeep2_VarTurned.c11 k k (a1.take v3.toNat) r2 v5 ([] : List S27) (fun (y30 : List S27) (y31 : Bool) (y32 : List S27) =>
(vars_Resolve k y30).bind fun r33 =>
(vars_Resolve k y32).bind fun r34 =>
let v35 : Int := (IntKind.wrap .i64 ((r34.length : Int) - (1 : Int)))
clerestorykeep2_VarTurned.c39 k k y31 v35 r33 r34 ([] : List S27) (fun (y45 : Bool) (y46 : List S27) (y47 : List S27) =>
(clerestorykeep2_sameVars k y46 y47).bind fun r48 =>
some (cond y45 r48 false)))) none
def clerestorykeep2_VarTurned.kr (w0 : World) (k : Nat) : Kr T (Bool) := (kret (retK (cfg w0 (tab71 k)) Tryd.f5.results.toList 0 [] io2.pat))
def clerestorykeep2_VarTurned.x21 : Ex → Option (List Nat × List Sp)
  | .exit 2 => some ([0, 3, 4, 5], [.own 4 27])
  | _ => none
def clerestorykeep2_VarTurned.L21 (k : Nat) (n : Nat) (v : (List S27) × Bool × Int × Int × (List S27)) (K : Ex → St T → Option (Bool)) : Option (Bool) := clerestorykeep2_VarTurned.c21 k n v.1 v.2.1 v.2.2.1 v.2.2.2.1 v.2.2.2.2 (fun y119 y120 y121 y122 => K (.exit 2) (mkSt [0, 3, 4, 5] (io129.enc (y119, y120, y121, y122))))
def clerestorykeep2_VarTurned.x11 : Ex → Option (List Nat × List Sp)
  | .exit 0 => some ([0, 3, 4], [.own 4 27])
  | _ => none
def clerestorykeep2_VarTurned.L11 (k : Nat) (n : Nat) (v : (List S27) × Bool × Int × (List S27)) (K : Ex → St T → Option (Bool)) : Option (Bool) := clerestorykeep2_VarTurned.c11 k n v.1 v.2.1 v.2.2.1 v.2.2.2 (fun y123 y124 y125 => K (.exit 0) (mkSt [0, 3, 4] (io112.enc (y123, y124, y125))))
def clerestorykeep2_VarTurned.x39 : Ex → Option (List Nat × List Sp)
  | .exit 4 => some ([3, 7, 9], [.own 9 27])
  | _ => none
def clerestorykeep2_VarTurned.L39 (k : Nat) (n : Nat) (v : Bool × Int × (List S27) × (List S27) × (List S27)) (K : Ex → St T → Option (Bool)) : Option (Bool) := clerestorykeep2_VarTurned.c39 k n v.1 v.2.1 v.2.2.1 v.2.2.2.1 v.2.2.2.2 (fun y126 y127 y128 => K (.exit 4) (mkSt [3, 7, 9] (io131.enc (y126, y127, y128))))
def clerestorykeep2_VarTurned.cuts (w0 : World) (k : Nat) : Cuts T (Bool) := fun n => bif n.beq 21 then some (entK (cfg w0 (tab71 k)) 0 [0, 3, 4, 5, 6] [.own 4 27] io128.pat (clerestorykeep2_VarTurned.L21 k k)) else bif n.beq 11 then some (entK (cfg w0 (tab71 k)) 0 [0, 3, 4, 5] [.own 4 27] io129.pat (clerestorykeep2_VarTurned.L11 k k)) else bif n.beq 39 then some (entK (cfg w0 (tab71 k)) 0 [3, 7, 8, 9, 10] [.own 8 27, .own 9 27] io130.pat (clerestorykeep2_VarTurned.L39 k k)) else none
def clerestorykeep2_VarTurned.body : Code := bodyOf Tryd.f5
def clerestorykeep2_VarTurned.b21 : Code := findD 21 clerestorykeep2_VarTurned.body
theorem clerestorykeep2_VarTurned.s21 (w0 : World) (k : Nat) : ∀ n v K, clerestorykeep2_VarTurned.L21 k (n + 1) v K = runK (cfg w0 (tab71 k)) Tryd.f5.ntmps (clerestorykeep2_VarTurned.kr w0 k) (annot (clerestorykeep2_VarTurned.cuts w0 k) clerestorykeep2_VarTurned.b21) (mkSt [0, 3, 4, 5, 6] (io128.enc v)) (loopK (cfg w0 (tab71 k)) 0 clerestorykeep2_VarTurned.x21 (entK (cfg w0 (tab71 k)) 0 [0, 3, 4, 5, 6] [.own 4 27] io128.pat (clerestorykeep2_VarTurned.L21 k n)) K) := by
  intro n v K; kernel_rfl
def clerestorykeep2_VarTurned.b11 : Code := findD 11 clerestorykeep2_VarTurned.body
theorem clerestorykeep2_VarTurned.s11 (w0 : World) (k : Nat) : ∀ n v K, clerestorykeep2_VarTurned.L11 k (n + 1) v K = runK (cfg w0 (tab71 k)) Tryd.f5.ntmps (clerestorykeep2_VarTurned.kr w0 k) (annot (clerestorykeep2_VarTurned.cuts w0 k) clerestorykeep2_VarTurned.b11) (mkSt [0, 3, 4, 5] (io129.enc v)) (loopK (cfg w0 (tab71 k)) 0 clerestorykeep2_VarTurned.x11 (entK (cfg w0 (tab71 k)) 0 [0, 3, 4, 5] [.own 4 27] io129.pat (clerestorykeep2_VarTurned.L11 k n)) K) := by
  intro n v K; kernel_rfl
def clerestorykeep2_VarTurned.b39 : Code := findD 39 clerestorykeep2_VarTurned.body
theorem clerestorykeep2_VarTurned.s39 (w0 : World) (k : Nat) : ∀ n v K, clerestorykeep2_VarTurned.L39 k (n + 1) v K = runK (cfg w0 (tab71 k)) Tryd.f5.ntmps (clerestorykeep2_VarTurned.kr w0 k) (annot (clerestorykeep2_VarTurned.cuts w0 k) clerestorykeep2_VarTurned.b39) (mkSt [3, 7, 8, 9, 10] (io130.enc v)) (loopK (cfg w0 (tab71 k)) 0 clerestorykeep2_VarTurned.x39 (entK (cfg w0 (tab71 k)) 0 [3, 7, 8, 9, 10] [.own 8 27, .own 9 27] io130.pat (clerestorykeep2_VarTurned.L39 k n)) K) := by
  intro n v K; kernel_rfl
theorem clerestorykeep2_VarTurned.e (w0 : World) (k : Nat) : ∀ v, (fun v => clerestorykeep2_VarTurned k v) v = runK (cfg w0 (tab71 k)) Tryd.f5.ntmps (clerestorykeep2_VarTurned.kr w0 k) (annot (clerestorykeep2_VarTurned.cuts w0 k) clerestorykeep2_VarTurned.body) (entry (io60.enc v).1 (io60.enc v).2) (endK (clerestorykeep2_VarTurned.kr w0 k)) := by
  intro v; kernel_rfl
theorem clerestorykeep2_VarTurned.hb : Tryd.f5.body = some clerestorykeep2_VarTurned.body := by kernel_rfl
def tab72 (k : Nat) : Tab T := addTab 5 (line io60 io2 false (fun v => clerestorykeep2_VarTurned k v)) (tab71 k)
attribute [local irreducible] runK retK annot entry
end
end Go.Ev.Va
