/- A part of the evaluator of Go code over small heaps and of its proof: no condition beyond those that each theorem names. -/
import Derived.Test.YtgoglplnajofnaaDoorEvDfr
import Derived.Test.YtgoglplnajofnaaDoorEvShU
import Derived.Test.YtgoglplnajofnaaDoorProg
import Derived.KernelRfl
set_option linter.unusedVariables false
set_option maxRecDepth 100000
namespace Go.Ev.Cm
noncomputable section
open Go.Proofs Go.Ev

structure S52 where
  n : Int
  s : List UInt8
def S52.d : S52 := ⟨0, []⟩
def base : TypeId → (α : Type) × α
  | 3 => ⟨Int, (0 : Int)⟩
  | 5 => ⟨Int, (0 : Int)⟩
  | 52 => ⟨S52, S52.d⟩
  | _ => ⟨Unit, ()⟩
def T (t : TypeId) : Type := (base t).1
def dflt (t : TypeId) : T t := (base t).2
def dl (t : TypeId) : D T → Option (List (T t))
  | .l t' xs => asT t t' xs
  | .ns => some []
  | _ => none
theorem dl_le {t : TypeId} {d : D T} {l : List (T t)} (h : dl t d = some l) : leD d (.l t l) := by
  unfold dl at h
  split at h
  · rw [asT_l h]; exact .refl _
  · cases h; exact .ns _
  · cases h
def enc3 (x : Int) : List (D T) := [.i .i64 x]
def dec3 (ds : List (D T)) : Option (Int) := match ds with
  | [.i .i64 x0] => some x0
  | _ => none
theorem dec3_ok {ds : List (D T)} {x : Int} (h : dec3 ds = some x) : leDs ds (enc3 x) := by
  unfold dec3 at h
  split at h
  · cases h
    exact .cons (.refl _) <| .nil
  · cases h
def enc5 (x : Int) : List (D T) := [.i .u8 x]
def dec5 (ds : List (D T)) : Option (Int) := match ds with
  | [.i .u8 x0] => some x0
  | _ => none
theorem dec5_ok {ds : List (D T)} {x : Int} (h : dec5 ds = some x) : leDs ds (enc5 x) := by
  unfold dec5 at h
  split at h
  · cases h
    exact .cons (.refl _) <| .nil
  · cases h
def enc52 (x : S52) : List (D T) := [.i .i64 x.n, .s x.s]
def dec52 (ds : List (D T)) : Option (S52) := match ds with
  | [.i .i64 x0, .s x1] => some ⟨x0, x1⟩
  | _ => none
theorem dec52_ok {ds : List (D T)} {x : S52} (h : dec52 ds = some x) : leDs ds (enc52 x) := by
  unfold dec52 at h
  split at h
  · cases h
    exact .cons (.refl _) <| .cons (.refl _) <| .nil
  · cases h
def enc : (t : TypeId) → T t → List (D T)
  | 3, x => enc3 x
  | 5, x => enc5 x
  | 52, x => enc52 x
  | _, _ => []
def dec (t : TypeId) (ds : List (D T)) : Option (T t) := if h : t = 3 then (h ▸ (dec3 ds : Option (T 3))) else if h : t = 5 then (h ▸ (dec5 ds : Option (T 5))) else if h : t = 52 then (h ▸ (dec52 ds : Option (T 52))) else none
theorem dec_ok (t : TypeId) (ds : List (D T)) (x : T t) (h : dec t ds = some x) : leDs ds (enc t x) := by
  unfold dec at h
  by_cases h3 : t = 3
  · subst h3; exact dec3_ok (show dec3 ds = some x from h)
  rw [dif_neg h3] at h
  by_cases h5 : t = 5
  · subst h5; exact dec5_ok (show dec5 ds = some x from h)
  rw [dif_neg h5] at h
  by_cases h52 : t = 52
  · subst h52; exact dec52_ok (show dec52 ds = some x from h)
  rw [dif_neg h52] at h
  cases h
def knl : List TypeId := [3, 5, 52]

def ofB : (t : TypeId) → List UInt8 → List (T t)
  | 5, l => bytesI l
  | _, _ => []
def toB : (t : TypeId) → List (T t) → List UInt8
  | 5, l => bytesU l
  | _, _ => []
def cod : Cod T := ⟨fun t => knl.any (·.beq t), enc, dec, dflt, ofB, toB⟩
def gv : Nat → Option (List (D T))
  | _ => none
def eql : List TypeId := []
def hdl : List FuncId := [26]
def fbl : List TypeId := []
def cfg (w0 : World) (t : Tab T) : Cfg T := ⟨Tryd.prog, cod, t, fun t => eql.any (·.beq t), w0, gv, 43, 5, fun f => hdl.any (·.beq f), fun t => fbl.any (·.beq t)⟩
/-- What is asked of the first world. -/
structure Wd (w0 : World) : Prop where
  gv : GvOk (cfg w0 noTab)
  pw : Lib.TabIs Tryd.prog w0 "internal/strconv.uint64pow10" .u64 Lib.pow10Tab
  es : IfAt w0 (Sh.ren172.g 15)
  er : IfAt w0 (Sh.ren172.g 16)
  cv : Lib.CaseVar (Sh.ren159.g 13) Lib.caseA w0
  u8 : Lib.Utf8Tabs (Sh.ren159.g 3) (Sh.ren159.g 4) w0

theorem mem_of {l : List TypeId} {t : TypeId} (h : l.any (·.beq t) = true) : t ∈ l := by
  rw [List.any_eq_true] at h
  obtain ⟨x, hx, hb⟩ := h
  rw [← Nat.eq_of_beq_eq_true hb]; exact hx
theorem len3 : 1 = Tryd.prog.cellsOf 3 := by kernel_rfl
theorem u8_3 : isU8 Tryd.prog 3 = false := by kernel_rfl
theorem len5 : 1 = Tryd.prog.cellsOf 5 := by kernel_rfl
theorem len52 : 2 = Tryd.prog.cellsOf 52 := by kernel_rfl
theorem u8_52 : isU8 Tryd.prog 52 = false := by kernel_rfl
theorem zr3 : zeroShape Tryd.prog 3 = true ∧ ∃ ds, zeroCells (T := T) Tryd.prog 3 = some (ofDs ds) ∧ leDs ds (enc3 (0 : Int)) := ⟨by kernel_rfl, [.i .i64 (0 : Int)], by kernel_rfl, .cons (.refl _) <| .nil⟩
theorem zr5 : zeroShape Tryd.prog 5 = true ∧ ∃ ds, zeroCells (T := T) Tryd.prog 5 = some (ofDs ds) ∧ leDs ds (enc5 (0 : Int)) := ⟨by kernel_rfl, [.i .u8 (0 : Int)], by kernel_rfl, .cons (.refl _) <| .nil⟩
theorem zr52 : zeroShape Tryd.prog 52 = true ∧ ∃ ds, zeroCells (T := T) Tryd.prog 52 = some (ofDs ds) ∧ leDs ds (enc52 S52.d) := ⟨by kernel_rfl, [.i .i64 (0 : Int), .s ([])], by kernel_rfl, .cons (.refl _) <| .cons (.refl _) <| .nil⟩
theorem fl : Tryd.prog.follows .mixedOrders = true := by kernel_rfl
theorem bytesOk (w0 : World) (t : Tab T) : BytesOk (cfg w0 t) := fun e h1 h2 => by
  have hm := mem_of (l := knl) h2
  simp only [knl, List.mem_cons, List.not_mem_nil, or_false] at hm
  rcases hm with rfl | rfl | rfl
  · exact absurd h1 (by rw [show isU8 (cfg w0 _).P 3 = false from u8_3]; exact Bool.false_ne_true)
  · exact ⟨fun l => by induction l with
      | nil => rfl
      | cons b l ih => exact congrArg (List.cons _) ih, fun xs => ⟨xs, rfl, rfl⟩⟩
  · exact absurd h1 (by rw [show isU8 (cfg w0 _).P 52 = false from u8_52]; exact Bool.false_ne_true)
theorem fine (w0 : World) (hw : Wd w0) (t : Tab T) (h : CfOk (cfg w0 t)) : Fine (cfg w0 t) where
  gv := hw.gv
  bytes := bytesOk w0 t
  cod := by
    refine ⟨fun t ht x => ?_, fun t ds x h => ?_⟩
    · have hm := mem_of (l := knl) ht
      simp only [knl, List.mem_cons, List.not_mem_nil, or_false] at hm
      rcases hm with rfl | rfl | rfl
      · exact len3
      · exact len5
      · exact len52
    · exact dec_ok t ds x h
  zero := fun t ht => by
    have hm := mem_of (l := knl) ht
    simp only [knl, List.mem_cons, List.not_mem_nil, or_false] at hm
    rcases hm with rfl | rfl | rfl
    · exact zr3
    · exact zr5
    · exact zr52
  eqk := fun t h => by
    cases h
  flat := fun t hf hk x d hd => by
    have hm := mem_of (l := knl) hk
    simp only [knl, List.mem_cons, List.not_mem_nil, or_false] at hm
    rcases hm with rfl | rfl | rfl
    · have hd : d ∈ enc3 x := hd
      simp only [enc3, List.mem_cons, List.not_mem_nil, or_false] at hd
      rcases hd with rfl <;> rfl
    · have hd : d ∈ enc5 x := hd
      simp only [enc5, List.mem_cons, List.not_mem_nil, or_false] at hd
      rcases hd with rfl <;> rfl
    · have hd : d ∈ enc52 x := hd
      simp only [enc52, List.mem_cons, List.not_mem_nil, or_false] at hd
      rcases hd with rfl | rfl <;> rfl
  cf := h
theorem dr (w0 : World) (hw : Wd w0) (t : Tab T) (h : CfOk (cfg w0 t)) : DrawOk (cfg w0 t) := drawOk_ok (fine w0 hw t h) fl
def io0 : Io T (Int × Int × Int) where
  enc v := ([.d (.i .i64 v.1), .d (.i .i64 v.2.1), .d (.i .i64 v.2.2)], [])
  pat
    | ([.d (.i .i64 p1), .d (.i .i64 p2), .d (.i .i64 p3)], []) => some (p1, p2, p3)
    | _ => none
  ok z v h := by
    split at h
    · cases h
      all_goals rfl
    · cases h
def io1 : Io T (Bool) where
  enc v := ([.d (.b v)], [])
  pat
    | ([.d (.b p1)], []) => some p1
    | _ => none
  ok z v h := by
    split at h
    · cases h
      all_goals rfl
    · cases h
def io2 : Io T (Unit) where
  enc v := ([.d .ns], [])
  pat
    | ([.d .ns], []) => some ()
    | _ => none
  ok z v h := by
    split at h
    · cases h
      all_goals rfl
    · cases h
def io3 : Io T (Unit) where
  enc v := ([], [])
  pat
    | ([], []) => some ()
    | _ => none
  ok z v h := by
    split at h <;> cases h; rfl
def io4 : Io T (Int × Int) where
  enc v := ([.d .ns, .d (.i .i64 v.1), .d (.i .i64 v.2)], [])
  pat
    | ([.d .ns, .d (.i .i64 p1), .d (.i .i64 p2)], []) => some (p1, p2)
    | _ => none
  ok z v h := by
    split at h
    · cases h
      all_goals rfl
    · cases h
def io5 : Io T (List Int) where
  enc v := ([.sl 0 none], [.arr 5 v])
  pat
    | ([.sl 0 none], [.arr tp1 p1]) => (asT 5 tp1 p1).bind fun q1 => some q1
    | _ => none
  ok z v h := by
    split at h
    · obtain ⟨q1, hp1, h⟩ := Option.bind_eq_some_iff.1 h
      cases h
      rw [asT_a hp1]
      all_goals rfl
    · cases h
def io6 : Io T (List Int) where
  enc v := ([], [.arr 5 v])
  pat
    | ([], [.arr tp1 p1]) => (asT 5 tp1 p1).bind fun q1 => some q1
    | _ => none
  ok z v h := by
    split at h
    · obtain ⟨q1, hp1, h⟩ := Option.bind_eq_some_iff.1 h
      cases h
      rw [asT_a hp1]
      all_goals rfl
    · cases h
def io7 : Io T (Int × Int × (List Int)) where
  enc v := ([.sl 0 none, .d (.i .i64 v.1), .d (.i .i64 v.2.1)], [.arr 5 v.2.2])
  pat
    | ([.sl 0 none, .d (.i .i64 p1), .d (.i .i64 p2)], [.arr tp3 p3]) => (asT 5 tp3 p3).bind fun q3 => some (p1, p2, q3)
    | _ => none
  ok z v h := by
    split at h
    · obtain ⟨q3, hp3, h⟩ := Option.bind_eq_some_iff.1 h
      cases h
      rw [asT_a hp3]
      all_goals rfl
    · cases h
def io8 : Io T (Int) where
  enc v := ([.d (.i .i64 v)], [])
  pat
    | ([.d (.i .i64 p1)], []) => some p1
    | _ => none
  ok z v h := by
    split at h
    · cases h
      all_goals rfl
    · cases h
def io9 : Io T (List UInt8) where
  enc v := ([.d (.s v)], [])
  pat
    | ([.d (.s p1)], []) => some p1
    | _ => none
  ok z v h := by
    split at h
    · cases h
      all_goals rfl
    · cases h
def io10 : Io T (Int × (List Int)) where
  enc v := ([.d (.i .i64 v.1), .sl 0 none], [.arr 5 v.2])
  pat
    | ([.d (.i .i64 p1), .sl 0 none], [.arr tp2 p2]) => (asT 5 tp2 p2).bind fun q2 => some (p1, q2)
    | _ => none
  ok z v h := by
    split at h
    · obtain ⟨q2, hp2, h⟩ := Option.bind_eq_some_iff.1 h
      cases h
      rw [asT_a hp2]
      all_goals rfl
    · cases h
def io11 : Io T ((List UInt8) × (List UInt8)) where
  enc v := ([.bp 0, .d (.s v.1)], [.bl v.2])
  pat
    | ([.bp 0, .d (.s p1)], [.bl p2]) => some (p1, p2)
    | _ => none
  ok z v h := by
    split at h
    · cases h
      all_goals rfl
    · cases h
def io12 : Io T (Int × (List UInt8)) where
  enc v := ([.d (.i .i64 v.1), .d .ni], [.bl v.2])
  pat
    | ([.d (.i .i64 p1), .d .ni], [.bl p2]) => some (p1, p2)
    | _ => none
  ok z v h := by
    split at h
    · cases h
      all_goals rfl
    · cases h
def io13 : Io T (List UInt8) where
  enc v := ([.bp 0], [.bl v])
  pat
    | ([.bp 0], [.bl p1]) => some p1
    | _ => none
  ok z v h := by
    split at h
    · cases h
      all_goals rfl
    · cases h
def io14 : Io T ((List UInt8) × (List UInt8)) where
  enc v := ([.d (.s v.1)], [.bl v.2])
  pat
    | ([.d (.s p1)], [.bl p2]) => some (p1, p2)
    | _ => none
  ok z v h := by
    split at h
    · cases h
      all_goals rfl
    · cases h
def io15 : Io T (Int × Int × (List UInt8) × Int × (List UInt8) × Int × (List UInt8) × Int × (List UInt8) × Int × (List UInt8) × Int × (List UInt8) × Int × (List UInt8) × Int × (List UInt8) × Int × (List UInt8) × Int × (List UInt8) × Int × (List UInt8) × Int × (List UInt8) × Int × (List UInt8) × Int × (List UInt8) × Int × (List UInt8)) where
  enc v := ([.d (.i .i64 v.1), .bp 0, .ptr 1 0, .agg [.d (.i .i64 v.2.1), .d (.s v.2.2.1), .d (.i .i64 v.2.2.2.1), .d (.s v.2.2.2.2.1), .d (.i .i64 v.2.2.2.2.2.1), .d (.s v.2.2.2.2.2.2.1), .d (.i .i64 v.2.2.2.2.2.2.2.1), .d (.s v.2.2.2.2.2.2.2.2.1), .d (.i .i64 v.2.2.2.2.2.2.2.2.2.1), .d (.s v.2.2.2.2.2.2.2.2.2.2.1), .d (.i .i64 v.2.2.2.2.2.2.2.2.2.2.2.1), .d (.s v.2.2.2.2.2.2.2.2.2.2.2.2.1), .d (.i .i64 v.2.2.2.2.2.2.2.2.2.2.2.2.2.1), .d (.s v.2.2.2.2.2.2.2.2.2.2.2.2.2.2.1), .d (.i .i64 v.2.2.2.2.2.2.2.2.2.2.2.2.2.2.2.1), .d (.s v.2.2.2.2.2.2.2.2.2.2.2.2.2.2.2.2.1), .d (.i .i64 v.2.2.2.2.2.2.2.2.2.2.2.2.2.2.2.2.2.1), .d (.s v.2.2.2.2.2.2.2.2.2.2.2.2.2.2.2.2.2.2.1), .d (.i .i64 v.2.2.2.2.2.2.2.2.2.2.2.2.2.2.2.2.2.2.2.1), .d (.s v.2.2.2.2.2.2.2.2.2.2.2.2.2.2.2.2.2.2.2.2.1), .d (.i .i64 v.2.2.2.2.2.2.2.2.2.2.2.2.2.2.2.2.2.2.2.2.2.1), .d (.s v.2.2.2.2.2.2.2.2.2.2.2.2.2.2.2.2.2.2.2.2.2.2.1), .d (.i .i64 v.2.2.2.2.2.2.2.2.2.2.2.2.2.2.2.2.2.2.2.2.2.2.2.1), .d (.s v.2.2.2.2.2.2.2.2.2.2.2.2.2.2.2.2.2.2.2.2.2.2.2.2.1), .d (.i .i64 v.2.2.2.2.2.2.2.2.2.2.2.2.2.2.2.2.2.2.2.2.2.2.2.2.2.1), .d (.s v.2.2.2.2.2.2.2.2.2.2.2.2.2.2.2.2.2.2.2.2.2.2.2.2.2.2.1)], .d (.i .i64 v.2.2.2.2.2.2.2.2.2.2.2.2.2.2.2.2.2.2.2.2.2.2.2.2.2.2.2.1)], [.bl v.2.2.2.2.2.2.2.2.2.2.2.2.2.2.2.2.2.2.2.2.2.2.2.2.2.2.2.2.1, .box [.d (.i .i64 v.2.2.2.2.2.2.2.2.2.2.2.2.2.2.2.2.2.2.2.2.2.2.2.2.2.2.2.2.2.1), .d (.s v.2.2.2.2.2.2.2.2.2.2.2.2.2.2.2.2.2.2.2.2.2.2.2.2.2.2.2.2.2.2)]])
  pat
    | ([.d (.i .i64 p1), .bp 0, .ptr 1 0, .agg [.d (.i .i64 p2), .d (.s p3), .d (.i .i64 p4), .d (.s p5), .d (.i .i64 p6), .d (.s p7), .d (.i .i64 p8), .d (.s p9), .d (.i .i64 p10), .d (.s p11), .d (.i .i64 p12), .d (.s p13), .d (.i .i64 p14), .d (.s p15), .d (.i .i64 p16), .d (.s p17), .d (.i .i64 p18), .d (.s p19), .d (.i .i64 p20), .d (.s p21), .d (.i .i64 p22), .d (.s p23), .d (.i .i64 p24), .d (.s p25), .d (.i .i64 p26), .d (.s p27)], .d (.i .i64 p28)], [.bl p29, .box [.d (.i .i64 p30), .d (.s p31)]]) => some (p1, p2, p3, p4, p5, p6, p7, p8, p9, p10, p11, p12, p13, p14, p15, p16, p17, p18, p19, p20, p21, p22, p23, p24, p25, p26, p27, p28, p29, p30, p31)
    | _ => none
  ok z v h := by
    split at h
    · cases h
      all_goals rfl
    · cases h
def io16 : Io T (Int × Int × (List UInt8) × Int × (List UInt8) × Int × (List UInt8) × Int × (List UInt8) × Int × (List UInt8) × Int × (List UInt8) × Int × (List UInt8) × Int × (List UInt8) × Int × (List UInt8) × Int × (List UInt8) × Int × (List UInt8) × Int × (List UInt8) × Int × (List UInt8) × Int × (List UInt8)) where
  enc v := ([.d (.i .i64 v.1), .bp 0, .agg [.d (.i .i64 v.2.1), .d (.s v.2.2.1), .d (.i .i64 v.2.2.2.1), .d (.s v.2.2.2.2.1), .d (.i .i64 v.2.2.2.2.2.1), .d (.s v.2.2.2.2.2.2.1), .d (.i .i64 v.2.2.2.2.2.2.2.1), .d (.s v.2.2.2.2.2.2.2.2.1), .d (.i .i64 v.2.2.2.2.2.2.2.2.2.1), .d (.s v.2.2.2.2.2.2.2.2.2.2.1), .d (.i .i64 v.2.2.2.2.2.2.2.2.2.2.2.1), .d (.s v.2.2.2.2.2.2.2.2.2.2.2.2.1), .d (.i .i64 v.2.2.2.2.2.2.2.2.2.2.2.2.2.1), .d (.s v.2.2.2.2.2.2.2.2.2.2.2.2.2.2.1), .d (.i .i64 v.2.2.2.2.2.2.2.2.2.2.2.2.2.2.2.1), .d (.s v.2.2.2.2.2.2.2.2.2.2.2.2.2.2.2.2.1), .d (.i .i64 v.2.2.2.2.2.2.2.2.2.2.2.2.2.2.2.2.2.1), .d (.s v.2.2.2.2.2.2.2.2.2.2.2.2.2.2.2.2.2.2.1), .d (.i .i64 v.2.2.2.2.2.2.2.2.2.2.2.2.2.2.2.2.2.2.2.1), .d (.s v.2.2.2.2.2.2.2.2.2.2.2.2.2.2.2.2.2.2.2.2.1), .d (.i .i64 v.2.2.2.2.2.2.2.2.2.2.2.2.2.2.2.2.2.2.2.2.2.1), .d (.s v.2.2.2.2.2.2.2.2.2.2.2.2.2.2.2.2.2.2.2.2.2.2.1), .d (.i .i64 v.2.2.2.2.2.2.2.2.2.2.2.2.2.2.2.2.2.2.2.2.2.2.2.1), .d (.s v.2.2.2.2.2.2.2.2.2.2.2.2.2.2.2.2.2.2.2.2.2.2.2.2.1), .d (.i .i64 v.2.2.2.2.2.2.2.2.2.2.2.2.2.2.2.2.2.2.2.2.2.2.2.2.2.1), .d (.s v.2.2.2.2.2.2.2.2.2.2.2.2.2.2.2.2.2.2.2.2.2.2.2.2.2.2.1)], .d (.i .i64 v.2.2.2.2.2.2.2.2.2.2.2.2.2.2.2.2.2.2.2.2.2.2.2.2.2.2.2.1)], [.bl v.2.2.2.2.2.2.2.2.2.2.2.2.2.2.2.2.2.2.2.2.2.2.2.2.2.2.2.2])
  pat
    | ([.d (.i .i64 p1), .bp 0, .agg [.d (.i .i64 p2), .d (.s p3), .d (.i .i64 p4), .d (.s p5), .d (.i .i64 p6), .d (.s p7), .d (.i .i64 p8), .d (.s p9), .d (.i .i64 p10), .d (.s p11), .d (.i .i64 p12), .d (.s p13), .d (.i .i64 p14), .d (.s p15), .d (.i .i64 p16), .d (.s p17), .d (.i .i64 p18), .d (.s p19), .d (.i .i64 p20), .d (.s p21), .d (.i .i64 p22), .d (.s p23), .d (.i .i64 p24), .d (.s p25), .d (.i .i64 p26), .d (.s p27)], .d (.i .i64 p28)], [.bl p29]) => some (p1, p2, p3, p4, p5, p6, p7, p8, p9, p10, p11, p12, p13, p14, p15, p16, p17, p18, p19, p20, p21, p22, p23, p24, p25, p26, p27, p28, p29)
    | _ => none
  ok z v h := by
    split at h
    · cases h
      all_goals rfl
    · cases h
def io17 : Io T (Int × Int) where
  enc v := ([.d (.i .i64 v.1), .d (.i .i64 v.2)], [])
  pat
    | ([.d (.i .i64 p1), .d (.i .i64 p2)], []) => some (p1, p2)
    | _ => none
  ok z v h := by
    split at h
    · cases h
      all_goals rfl
    · cases h
def io18 : Io T ((List UInt8) × Int) where
  enc v := ([.d (.s v.1), .d (.i .i64 v.2)], [])
  pat
    | ([.d (.s p1), .d (.i .i64 p2)], []) => some (p1, p2)
    | _ => none
  ok z v h := by
    split at h
    · cases h
      all_goals rfl
    · cases h
def io19 : Io T (Int × Bool) where
  enc v := ([.d (.i .i64 v.1), .d (.ie v.2)], [])
  pat
    | ([.d (.i .i64 p1), .d (.ie p2)], []) => some (p1, p2)
    | _ => none
  ok z v h := by
    split at h
    · cases h
      all_goals rfl
    · cases h
def io20 : Io T ((List UInt8) × Int × Int × Int) where
  enc v := ([.d (.s v.1), .d (.i .i64 v.2.1), .d (.i .i64 v.2.2.1), .d (.i .i64 v.2.2.2)], [])
  pat
    | ([.d (.s p1), .d (.i .i64 p2), .d (.i .i64 p3), .d (.i .i64 p4)], []) => some (p1, p2, p3, p4)
    | _ => none
  ok z v h := by
    split at h
    · cases h
      all_goals rfl
    · cases h
def io21 : Io T ((List UInt8) × Int) where
  enc v := ([.d (.s v.1), .d (.i .u8 v.2)], [])
  pat
    | ([.d (.s p1), .d (.i .u8 p2)], []) => some (p1, p2)
    | _ => none
  ok z v h := by
    split at h
    · cases h
      all_goals rfl
    · cases h
def io22 : Io T (Int × (List UInt8)) where
  enc v := ([.d (.i .i64 v.1), .d (.s v.2)], [])
  pat
    | ([.d (.i .i64 p1), .d (.s p2)], []) => some (p1, p2)
    | _ => none
  ok z v h := by
    split at h
    · cases h
      all_goals rfl
    · cases h
def io23 : Io T (Int × (List UInt8) × Int) where
  enc v := ([.d (.i .i64 v.1), .d (.s v.2.1), .d (.i .i64 v.2.2)], [])
  pat
    | ([.d (.i .i64 p1), .d (.s p2), .d (.i .i64 p3)], []) => some (p1, p2, p3)
    | _ => none
  ok z v h := by
    split at h
    · cases h
      all_goals rfl
    · cases h
def io24 : Io T (Int × Int × (List UInt8)) where
  enc v := ([.d (.i .i64 v.1), .d (.i .i64 v.2.1), .d (.s v.2.2)], [])
  pat
    | ([.d (.i .i64 p1), .d (.i .i64 p2), .d (.s p3)], []) => some (p1, p2, p3)
    | _ => none
  ok z v h := by
    split at h
    · cases h
      all_goals rfl
    · cases h
def tab0 (k : Nat) : Tab T := noTab
def count_in (k : Nat) (a1 : Int) (a2 : Int) (a3 : Int) : Option (Bool) :=
let v4 : Bool := (cond (decide (a1 ≥ a2)) (decide (a1 ≤ a3)) false)
some v4
def count_in.kr (w0 : World) (k : Nat) : Kr T (Bool) := (kret (retK (cfg w0 (tab0 k)) Tryd.f7.results.toList 0 [] io1.pat))
def count_in.cuts (w0 : World) (k : Nat) : Cuts T (Bool) := fun n => none
def count_in.body : Code := bodyOf Tryd.f7
theorem count_in.e (w0 : World) (k : Nat) : ∀ v, (fun v => count_in k v.1 v.2.1 v.2.2) v = runK (cfg w0 (tab0 k)) Tryd.f7.ntmps (count_in.kr w0 k) (annot (count_in.cuts w0 k) count_in.body) (entry (io0.enc v).1 (io0.enc v).2) (endK (count_in.kr w0 k)) := by
  intro v; kernel_rfl
theorem count_in.hb : Tryd.f7.body = some count_in.body := by kernel_rfl
def tab1 (k : Nat) : Tab T := addTab 7 (line io0 io1 false (fun v => count_in k v.1 v.2.1 v.2.2)) (tab0 k)
def slices_Reverse___byte_byte_.c3 (k : Nat) : Nat → Int → Int → (Option (Unit)) → Option (Unit)
  | 0, _, _, _ => none
  | n + 1, x2, x3, k0 =>
    cond (decide (x2 < x3)) (
    none) (
    k0)
def slices_Reverse___byte_byte_ (k : Nat)  : Option (Unit) :=
let v1 : Int := (IntKind.wrap .i64 (((0 : Nat) : Int) - (1 : Int)))
slices_Reverse___byte_byte_.c3 k k (0 : Int) v1 (
some ())
def slices_Reverse___byte_byte_.kr (w0 : World) (k : Nat) : Kr T (Unit) := (kret (retK (cfg w0 (tab1 k)) Tryd.f26.results.toList 0 [] io3.pat))
def slices_Reverse___byte_byte_.x3 : Ex → Option (List Nat × List Sp)
  | .exit 0 => some ([], [])
  | _ => none
def slices_Reverse___byte_byte_.L3 (k : Nat) (n : Nat) (v : Int × Int) (K : Ex → St T → Option (Unit)) : Option (Unit) := slices_Reverse___byte_byte_.c3 k n v.1 v.2 ( K (.exit 0) (mkSt [] (io3.enc ())))
def slices_Reverse___byte_byte_.cuts (w0 : World) (k : Nat) : Cuts T (Unit) := fun n => bif n.beq 3 then some (entK (cfg w0 (tab1 k)) 0 [0, 2, 3] [] io4.pat (slices_Reverse___byte_byte_.L3 k k)) else none
def slices_Reverse___byte_byte_.body : Code := bodyOf Tryd.f26
def slices_Reverse___byte_byte_.b3 : Code := findD 3 slices_Reverse___byte_byte_.body
theorem slices_Reverse___byte_byte_.s3 (w0 : World) (k : Nat) : ∀ n v K, slices_Reverse___byte_byte_.L3 k (n + 1) v K = runK (cfg w0 (tab1 k)) Tryd.f26.ntmps (slices_Reverse___byte_byte_.kr w0 k) (annot (slices_Reverse___byte_byte_.cuts w0 k) slices_Reverse___byte_byte_.b3) (mkSt [0, 2, 3] (io4.enc v)) (loopK (cfg w0 (tab1 k)) 0 slices_Reverse___byte_byte_.x3 (entK (cfg w0 (tab1 k)) 0 [0, 2, 3] [] io4.pat (slices_Reverse___byte_byte_.L3 k n)) K) := by
  intro n v K; kernel_rfl
theorem slices_Reverse___byte_byte_.e (w0 : World) (k : Nat) : ∀ v, (fun v => slices_Reverse___byte_byte_ k ) v = runK (cfg w0 (tab1 k)) Tryd.f26.ntmps (slices_Reverse___byte_byte_.kr w0 k) (annot (slices_Reverse___byte_byte_.cuts w0 k) slices_Reverse___byte_byte_.body) (entry (io2.enc v).1 (io2.enc v).2) (endK (slices_Reverse___byte_byte_.kr w0 k)) := by
  intro v; kernel_rfl
theorem slices_Reverse___byte_byte_.hb : Tryd.f26.body = some slices_Reverse___byte_byte_.body := by kernel_rfl
def tab2 (k : Nat) : Tab T := addTab 26 (line io2 io3 () (fun v => slices_Reverse___byte_byte_ k )) (tab1 k)
def slices_Reverse___byte_byte__v2.c3 (k : Nat) : Nat → Int → Int → (List Int) → ((List Int) → Option (List Int)) → Option (List Int)
  | 0, _, _, _, _ => none
  | n + 1, x3, x4, x5, k0 =>
    cond (decide (x3 < x4)) (
    cond (decide (0 ≤ x4 ∧ x4 < (x5.length : Int))) (
    cond (decide (0 ≤ x3 ∧ x3 < (x5.length : Int))) (
    cond (decide (0 ≤ x3 ∧ x3 < (x5.length : Int))) (
    let v6 : List Int := (x5.set x3.toNat (x5.getD x4.toNat (0 : Int)))
    cond (decide (0 ≤ x4 ∧ x4 < (v6.length : Int))) (
    let v7 : List Int := (v6.set x4.toNat (x5.getD x3.toNat (0 : Int)))
    let v8 : Int := (IntKind.wrap .i64 (x3 + (1 : Int)))
    let v9 : Int := (IntKind.wrap .i64 (x4 - (1 : Int)))
    slices_Reverse___byte_byte__v2.c3 k n v8 v9 v7 k0) none) none) none) none) (
    k0 x5)
def slices_Reverse___byte_byte__v2 (k : Nat) (a1 : List Int) : Option (List Int) :=
let v2 : Int := (IntKind.wrap .i64 ((a1.length : Int) - (1 : Int)))
slices_Reverse___byte_byte__v2.c3 k k (0 : Int) v2 a1 (fun (y10 : List Int) =>
some y10)
def slices_Reverse___byte_byte__v2.kr (w0 : World) (k : Nat) : Kr T (List Int) := (kret (retK (cfg w0 (tab2 k)) Tryd.f26.results.toList 1 [] io6.pat))
def slices_Reverse___byte_byte__v2.x3 : Ex → Option (List Nat × List Sp)
  | .exit 0 => some ([], [])
  | _ => none
def slices_Reverse___byte_byte__v2.L3 (k : Nat) (n : Nat) (v : Int × Int × (List Int)) (K : Ex → St T → Option (List Int)) : Option (List Int) := slices_Reverse___byte_byte__v2.c3 k n v.1 v.2.1 v.2.2 (fun y18 => K (.exit 0) (mkSt [] (io6.enc y18)))
def slices_Reverse___byte_byte__v2.cuts (w0 : World) (k : Nat) : Cuts T (List Int) := fun n => bif n.beq 3 then some (entK (cfg w0 (tab2 k)) 1 [0, 2, 3] [] io7.pat (slices_Reverse___byte_byte__v2.L3 k k)) else none
def slices_Reverse___byte_byte__v2.body : Code := bodyOf Tryd.f26
def slices_Reverse___byte_byte__v2.b3 : Code := findD 3 slices_Reverse___byte_byte__v2.body
theorem slices_Reverse___byte_byte__v2.s3 (w0 : World) (k : Nat) : ∀ n v K, slices_Reverse___byte_byte__v2.L3 k (n + 1) v K = runK (cfg w0 (tab2 k)) Tryd.f26.ntmps (slices_Reverse___byte_byte__v2.kr w0 k) (annot (slices_Reverse___byte_byte__v2.cuts w0 k) slices_Reverse___byte_byte__v2.b3) (mkSt [0, 2, 3] (io7.enc v)) (loopK (cfg w0 (tab2 k)) 1 slices_Reverse___byte_byte__v2.x3 (entK (cfg w0 (tab2 k)) 1 [0, 2, 3] [] io7.pat (slices_Reverse___byte_byte__v2.L3 k n)) K) := by
  intro n v K; kernel_rfl
theorem slices_Reverse___byte_byte__v2.e (w0 : World) (k : Nat) : ∀ v, (fun v => slices_Reverse___byte_byte__v2 k v) v = runK (cfg w0 (tab2 k)) Tryd.f26.ntmps (slices_Reverse___byte_byte__v2.kr w0 k) (annot (slices_Reverse___byte_byte__v2.cuts w0 k) slices_Reverse___byte_byte__v2.body) (entry (io5.enc v).1 (io5.enc v).2) (endK (slices_Reverse___byte_byte__v2.kr w0 k)) := by
  intro v; kernel_rfl
theorem slices_Reverse___byte_byte__v2.hb : Tryd.f26.body = some slices_Reverse___byte_byte__v2.body := by kernel_rfl
def tab3 (k : Nat) : Tab T := addTab 26 (line io5 io6 [] (fun v => slices_Reverse___byte_byte__v2 k v)) (tab2 k)
def count_letters.c5 (k : Nat) : Nat → Int → (List Int) → ((List Int) → Option (List UInt8)) → Option (List UInt8)
  | 0, _, _, _ => none
  | n + 1, x2, x3, k0 =>
    cond (decide (x2 > (0 : Int))) (
    let v4 : Int := (IntKind.wrap .i64 (x2 - (1 : Int)))
    cond ((26 : Int) != 0) (
    let v5 : Int := (IntKind.wrap .i64 ((97 : Int) + (Int.tmod v4 (26 : Int))))
    cond (decide ((x3 ++ ([(IntKind.wrap .u8 v5)])).length < most)) (
    let v6 : List Int := (x3 ++ ([(IntKind.wrap .u8 v5)]))
    let v7 : Int := (IntKind.wrap .i64 (x2 - (1 : Int)))
    cond ((26 : Int) != 0) (
    let v8 : Int := (IntKind.wrap .i64 (Int.tdiv v7 (26 : Int)))
    count_letters.c5 k n v8 v6 k0) none) none) none) (
    k0 x3)
def count_letters (k : Nat) (a1 : Int) : Option (List UInt8) :=
count_letters.c5 k k a1 ([] : List Int) (fun (y9 : List Int) =>
(slices_Reverse___byte_byte__v2 k y9).bind fun r10 =>
some (bytesU r10))
def count_letters.kr (w0 : World) (k : Nat) : Kr T (List UInt8) := (kret (retK (cfg w0 (tab3 k)) Tryd.f13.results.toList 0 [] io9.pat))
def count_letters.x5 : Ex → Option (List Nat × List Sp)
  | .exit 0 => some ([3], [.own 3 5])
  | _ => none
def count_letters.L5 (k : Nat) (n : Nat) (v : Int × (List Int)) (K : Ex → St T → Option (List UInt8)) : Option (List UInt8) := count_letters.c5 k n v.1 v.2 (fun y19 => K (.exit 0) (mkSt [3] (io5.enc y19)))
def count_letters.cuts (w0 : World) (k : Nat) : Cuts T (List UInt8) := fun n => bif n.beq 5 then some (entK (cfg w0 (tab3 k)) 0 [0, 3] [.own 3 5] io10.pat (count_letters.L5 k k)) else none
def count_letters.body : Code := bodyOf Tryd.f13
def count_letters.b5 : Code := findD 5 count_letters.body
theorem count_letters.s5 (w0 : World) (k : Nat) : ∀ n v K, count_letters.L5 k (n + 1) v K = runK (cfg w0 (tab3 k)) Tryd.f13.ntmps (count_letters.kr w0 k) (annot (count_letters.cuts w0 k) count_letters.b5) (mkSt [0, 3] (io10.enc v)) (loopK (cfg w0 (tab3 k)) 0 count_letters.x5 (entK (cfg w0 (tab3 k)) 0 [0, 3] [.own 3 5] io10.pat (count_letters.L5 k n)) K) := by
  intro n v K; kernel_rfl
theorem count_letters.e (w0 : World) (k : Nat) : ∀ v, (fun v => count_letters k v) v = runK (cfg w0 (tab3 k)) Tryd.f13.ntmps (count_letters.kr w0 k) (annot (count_letters.cuts w0 k) count_letters.body) (entry (io8.enc v).1 (io8.enc v).2) (endK (count_letters.kr w0 k)) := by
  intro v; kernel_rfl
theorem count_letters.hb : Tryd.f13.body = some count_letters.body := by kernel_rfl
def tab4 (k : Nat) : Tab T := addTab 13 (line io8 io9 [] (fun v => count_letters k v)) (tab3 k)
def strings_ToUpper (k : Nat) (a14 : List UInt8) : Option (List UInt8) := uppS a14
def tab5 (k : Nat) : Tab T := addTab 14 (line io9 io9 [] (fun v => strings_ToUpper k v)) (tab4 k)
def f__strings_Builder__WriteString (k : Nat) (a65 : List UInt8) (a66 : List UInt8) : Option (Int × (List UInt8)) := (wStr a66 a65).map fun s => ((a65.length : Int), s)
def tab6 (k : Nat) : Tab T := addTab 20 (line io11 io12 ((0 : Int), []) (fun v => f__strings_Builder__WriteString k v.1 v.2)) (tab5 k)
def f__strings_Builder__String (k : Nat) (a100 : List UInt8) : Option ((List UInt8) × (List UInt8)) := some (a100, a100)
def tab7 (k : Nat) : Tab T := addTab 22 (line io13 io14 ([], []) (fun v => f__strings_Builder__String k v)) (tab6 k)
def count_roman.c11 (k : Nat) : Nat → Int → Int → (List UInt8) → Int → (List UInt8) → Int → (List UInt8) → Int → (List UInt8) → Int → (List UInt8) → Int → (List UInt8) → Int → (List UInt8) → Int → (List UInt8) → Int → (List UInt8) → Int → (List UInt8) → Int → (List UInt8) → Int → (List UInt8) → Int → (List UInt8) → Int → (List UInt8) → Int → (List UInt8) → (Int → Int → (List UInt8) → Int → (List UInt8) → Int → (List UInt8) → Int → (List UInt8) → Int → (List UInt8) → Int → (List UInt8) → Int → (List UInt8) → Int → (List UInt8) → Int → (List UInt8) → Int → (List UInt8) → Int → (List UInt8) → Int → (List UInt8) → Int → (List UInt8) → Int → (List UInt8) → Option (List UInt8)) → Option (List UInt8)
  | 0, _, _, _, _, _, _, _, _, _, _, _, _, _, _, _, _, _, _, _, _, _, _, _, _, _, _, _, _, _, _, _, _ => none
  | n + 1, x33, x34, x35, x36, x37, x38, x39, x40, x41, x42, x43, x44, x45, x46, x47, x48, x49, x50, x51, x52, x53, x54, x55, x56, x57, x58, x59, x60, x61, x62, x63, k2 =>
    cond (decide (x33 ≥ x62)) (
    (f__strings_Builder__WriteString k x63 x61).bind fun r64 =>
    let v65 : Int := (IntKind.wrap .i64 (x33 - x62))
    count_roman.c11 k n v65 x34 x35 x36 x37 x38 x39 x40 x41 x42 x43 x44 x45 x46 x47 x48 x49 x50 x51 x52 x53 x54 x55 x56 x57 x58 x59 x60 r64.2 x62 x63 k2) (
    k2 x33 x34 x35 x36 x37 x38 x39 x40 x41 x42 x43 x44 x45 x46 x47 x48 x49 x50 x51 x52 x53 x54 x55 x56 x57 x58 x59 x60 x61)
def count_roman.c7 (k : Nat) : Nat → Int → Int → (List UInt8) → Int → (List UInt8) → Int → (List UInt8) → Int → (List UInt8) → Int → (List UInt8) → Int → (List UInt8) → Int → (List UInt8) → Int → (List UInt8) → Int → (List UInt8) → Int → (List UInt8) → Int → (List UInt8) → Int → (List UInt8) → Int → (List UInt8) → Int → (List UInt8) → ((List UInt8) → Option (List UInt8)) → Option (List UInt8)
  | 0, _, _, _, _, _, _, _, _, _, _, _, _, _, _, _, _, _, _, _, _, _, _, _, _, _, _, _, _, _, _ => none
  | n + 1, x2, x3, x4, x5, x6, x7, x8, x9, x10, x11, x12, x13, x14, x15, x16, x17, x18, x19, x20, x21, x22, x23, x24, x25, x26, x27, x28, x29, x30, k0 =>
    cond (decide (x29 < (13 : Int))) (
    cond (decide (0 ≤ x29 ∧ x29 < ((13 : Nat) : Int))) (
    let v31 : Int := (([(⟨x3, x4⟩ : S52), (⟨x5, x6⟩ : S52), (⟨x7, x8⟩ : S52), (⟨x9, x10⟩ : S52), (⟨x11, x12⟩ : S52), (⟨x13, x14⟩ : S52), (⟨x15, x16⟩ : S52), (⟨x17, x18⟩ : S52), (⟨x19, x20⟩ : S52), (⟨x21, x22⟩ : S52), (⟨x23, x24⟩ : S52), (⟨x25, x26⟩ : S52), (⟨x27, x28⟩ : S52)]).getD x29.toNat S52.d).n
    let v32 : List UInt8 := (([(⟨x3, x4⟩ : S52), (⟨x5, x6⟩ : S52), (⟨x7, x8⟩ : S52), (⟨x9, x10⟩ : S52), (⟨x11, x12⟩ : S52), (⟨x13, x14⟩ : S52), (⟨x15, x16⟩ : S52), (⟨x17, x18⟩ : S52), (⟨x19, x20⟩ : S52), (⟨x21, x22⟩ : S52), (⟨x23, x24⟩ : S52), (⟨x25, x26⟩ : S52), (⟨x27, x28⟩ : S52)]).getD x29.toNat S52.d).s
    count_roman.c11 k k x2 x3 x4 x5 x6 x7 x8 x9 x10 x11 x12 x13 x14 x15 x16 x17 x18 x19 x20 x21 x22 x23 x24 x25 x26 x27 x28 x29 x30 v31 v32 (fun (y66 : Int) (y67 : Int) (y68 : List UInt8) (y69 : Int) (y70 : List UInt8) (y71 : Int) (y72 : List UInt8) (y73 : Int) (y74 : List UInt8) (y75 : Int) (y76 : List UInt8) (y77 : Int) (y78 : List UInt8) (y79 : Int) (y80 : List UInt8) (y81 : Int) (y82 : List UInt8) (y83 : Int) (y84 : List UInt8) (y85 : Int) (y86 : List UInt8) (y87 : Int) (y88 : List UInt8) (y89 : Int) (y90 : List UInt8) (y91 : Int) (y92 : List UInt8) (y93 : Int) (y94 : List UInt8) =>
    let v95 : Int := (IntKind.wrap .i64 (y93 + (1 : Int)))
    count_roman.c7 k n y66 y67 y68 y69 y70 y71 y72 y73 y74 y75 y76 y77 y78 y79 y80 y81 y82 y83 y84 y85 y86 y87 y88 y89 y90 y91 y92 v95 y94 k0)) none) (
    k0 x30)
def count_roman (k : Nat) (a1 : Int) : Option (List UInt8) :=
count_roman.c7 k k a1 (1000 : Int) ([109] : List UInt8) (900 : Int) ([99, 109] : List UInt8) (500 : Int) ([100] : List UInt8) (400 : Int) ([99, 100] : List UInt8) (100 : Int) ([99] : List UInt8) (90 : Int) ([120, 99] : List UInt8) (50 : Int) ([108] : List UInt8) (40 : Int) ([120, 108] : List UInt8) (10 : Int) ([120] : List UInt8) (9 : Int) ([105, 120] : List UInt8) (5 : Int) ([118] : List UInt8) (4 : Int) ([105, 118] : List UInt8) (1 : Int) ([105] : List UInt8) (0 : Int) ([] : List UInt8) (fun (y96 : List UInt8) =>
(f__strings_Builder__String k y96).bind fun r97 =>
some r97.1)
def count_roman.kr (w0 : World) (k : Nat) : Kr T (List UInt8) := (kret (retK (cfg w0 (tab7 k)) Tryd.f15.results.toList 0 [] io9.pat))
def count_roman.x11 : Ex → Option (List Nat × List Sp)
  | .exit 2 => some ([0, 3, 19, 20], [])
  | _ => none
def count_roman.L11 (k : Nat) (n : Nat) (v : Int × Int × (List UInt8) × Int × (List UInt8) × Int × (List UInt8) × Int × (List UInt8) × Int × (List UInt8) × Int × (List UInt8) × Int × (List UInt8) × Int × (List UInt8) × Int × (List UInt8) × Int × (List UInt8) × Int × (List UInt8) × Int × (List UInt8) × Int × (List UInt8) × Int × (List UInt8) × Int × (List UInt8)) (K : Ex → St T → Option (List UInt8)) : Option (List UInt8) := count_roman.c11 k n v.1 v.2.1 v.2.2.1 v.2.2.2.1 v.2.2.2.2.1 v.2.2.2.2.2.1 v.2.2.2.2.2.2.1 v.2.2.2.2.2.2.2.1 v.2.2.2.2.2.2.2.2.1 v.2.2.2.2.2.2.2.2.2.1 v.2.2.2.2.2.2.2.2.2.2.1 v.2.2.2.2.2.2.2.2.2.2.2.1 v.2.2.2.2.2.2.2.2.2.2.2.2.1 v.2.2.2.2.2.2.2.2.2.2.2.2.2.1 v.2.2.2.2.2.2.2.2.2.2.2.2.2.2.1 v.2.2.2.2.2.2.2.2.2.2.2.2.2.2.2.1 v.2.2.2.2.2.2.2.2.2.2.2.2.2.2.2.2.1 v.2.2.2.2.2.2.2.2.2.2.2.2.2.2.2.2.2.1 v.2.2.2.2.2.2.2.2.2.2.2.2.2.2.2.2.2.2.1 v.2.2.2.2.2.2.2.2.2.2.2.2.2.2.2.2.2.2.2.1 v.2.2.2.2.2.2.2.2.2.2.2.2.2.2.2.2.2.2.2.2.1 v.2.2.2.2.2.2.2.2.2.2.2.2.2.2.2.2.2.2.2.2.2.1 v.2.2.2.2.2.2.2.2.2.2.2.2.2.2.2.2.2.2.2.2.2.2.1 v.2.2.2.2.2.2.2.2.2.2.2.2.2.2.2.2.2.2.2.2.2.2.2.1 v.2.2.2.2.2.2.2.2.2.2.2.2.2.2.2.2.2.2.2.2.2.2.2.2.1 v.2.2.2.2.2.2.2.2.2.2.2.2.2.2.2.2.2.2.2.2.2.2.2.2.2.1 v.2.2.2.2.2.2.2.2.2.2.2.2.2.2.2.2.2.2.2.2.2.2.2.2.2.2.1 v.2.2.2.2.2.2.2.2.2.2.2.2.2.2.2.2.2.2.2.2.2.2.2.2.2.2.2.1 v.2.2.2.2.2.2.2.2.2.2.2.2.2.2.2.2.2.2.2.2.2.2.2.2.2.2.2.2.1 v.2.2.2.2.2.2.2.2.2.2.2.2.2.2.2.2.2.2.2.2.2.2.2.2.2.2.2.2.2.1 v.2.2.2.2.2.2.2.2.2.2.2.2.2.2.2.2.2.2.2.2.2.2.2.2.2.2.2.2.2.2 (fun y20 y21 y22 y23 y24 y25 y26 y27 y28 y29 y30 y31 y32 y33 y34 y35 y36 y37 y38 y39 y40 y41 y42 y43 y44 y45 y46 y47 y48 => K (.exit 2) (mkSt [0, 3, 19, 20] (io16.enc (y20, y21, y22, y23, y24, y25, y26, y27, y28, y29, y30, y31, y32, y33, y34, y35, y36, y37, y38, y39, y40, y41, y42, y43, y44, y45, y46, y47, y48))))
def count_roman.x7 : Ex → Option (List Nat × List Sp)
  | .exit 0 => some ([3], [])
  | _ => none
def count_roman.L7 (k : Nat) (n : Nat) (v : Int × Int × (List UInt8) × Int × (List UInt8) × Int × (List UInt8) × Int × (List UInt8) × Int × (List UInt8) × Int × (List UInt8) × Int × (List UInt8) × Int × (List UInt8) × Int × (List UInt8) × Int × (List UInt8) × Int × (List UInt8) × Int × (List UInt8) × Int × (List UInt8) × Int × (List UInt8)) (K : Ex → St T → Option (List UInt8)) : Option (List UInt8) := count_roman.c7 k n v.1 v.2.1 v.2.2.1 v.2.2.2.1 v.2.2.2.2.1 v.2.2.2.2.2.1 v.2.2.2.2.2.2.1 v.2.2.2.2.2.2.2.1 v.2.2.2.2.2.2.2.2.1 v.2.2.2.2.2.2.2.2.2.1 v.2.2.2.2.2.2.2.2.2.2.1 v.2.2.2.2.2.2.2.2.2.2.2.1 v.2.2.2.2.2.2.2.2.2.2.2.2.1 v.2.2.2.2.2.2.2.2.2.2.2.2.2.1 v.2.2.2.2.2.2.2.2.2.2.2.2.2.2.1 v.2.2.2.2.2.2.2.2.2.2.2.2.2.2.2.1 v.2.2.2.2.2.2.2.2.2.2.2.2.2.2.2.2.1 v.2.2.2.2.2.2.2.2.2.2.2.2.2.2.2.2.2.1 v.2.2.2.2.2.2.2.2.2.2.2.2.2.2.2.2.2.2.1 v.2.2.2.2.2.2.2.2.2.2.2.2.2.2.2.2.2.2.2.1 v.2.2.2.2.2.2.2.2.2.2.2.2.2.2.2.2.2.2.2.2.1 v.2.2.2.2.2.2.2.2.2.2.2.2.2.2.2.2.2.2.2.2.2.1 v.2.2.2.2.2.2.2.2.2.2.2.2.2.2.2.2.2.2.2.2.2.2.1 v.2.2.2.2.2.2.2.2.2.2.2.2.2.2.2.2.2.2.2.2.2.2.2.1 v.2.2.2.2.2.2.2.2.2.2.2.2.2.2.2.2.2.2.2.2.2.2.2.2.1 v.2.2.2.2.2.2.2.2.2.2.2.2.2.2.2.2.2.2.2.2.2.2.2.2.2.1 v.2.2.2.2.2.2.2.2.2.2.2.2.2.2.2.2.2.2.2.2.2.2.2.2.2.2.1 v.2.2.2.2.2.2.2.2.2.2.2.2.2.2.2.2.2.2.2.2.2.2.2.2.2.2.2.1 v.2.2.2.2.2.2.2.2.2.2.2.2.2.2.2.2.2.2.2.2.2.2.2.2.2.2.2.2 (fun y49 => K (.exit 0) (mkSt [3] (io13.enc y49)))
def count_roman.cuts (w0 : World) (k : Nat) : Cuts T (List UInt8) := fun n => bif n.beq 11 then some (entK (cfg w0 (tab7 k)) 0 [0, 3, 5, 19, 20] [] io15.pat (count_roman.L11 k k)) else bif n.beq 7 then some (entK (cfg w0 (tab7 k)) 0 [0, 3, 19, 20] [] io16.pat (count_roman.L7 k k)) else none
def count_roman.body : Code := bodyOf Tryd.f15
def count_roman.b11 : Code := findD 11 count_roman.body
theorem count_roman.s11 (w0 : World) (k : Nat) : ∀ n v K, count_roman.L11 k (n + 1) v K = runK (cfg w0 (tab7 k)) Tryd.f15.ntmps (count_roman.kr w0 k) (annot (count_roman.cuts w0 k) count_roman.b11) (mkSt [0, 3, 5, 19, 20] (io15.enc v)) (loopK (cfg w0 (tab7 k)) 0 count_roman.x11 (entK (cfg w0 (tab7 k)) 0 [0, 3, 5, 19, 20] [] io15.pat (count_roman.L11 k n)) K) := by
  intro n v K; kernel_rfl
def count_roman.b7 : Code := findD 7 count_roman.body
theorem count_roman.s7 (w0 : World) (k : Nat) : ∀ n v K, count_roman.L7 k (n + 1) v K = runK (cfg w0 (tab7 k)) Tryd.f15.ntmps (count_roman.kr w0 k) (annot (count_roman.cuts w0 k) count_roman.b7) (mkSt [0, 3, 19, 20] (io16.enc v)) (loopK (cfg w0 (tab7 k)) 0 count_roman.x7 (entK (cfg w0 (tab7 k)) 0 [0, 3, 19, 20] [] io16.pat (count_roman.L7 k n)) K) := by
  intro n v K; kernel_rfl
theorem count_roman.e (w0 : World) (k : Nat) : ∀ v, (fun v => count_roman k v) v = runK (cfg w0 (tab7 k)) Tryd.f15.ntmps (count_roman.kr w0 k) (annot (count_roman.cuts w0 k) count_roman.body) (entry (io8.enc v).1 (io8.enc v).2) (endK (count_roman.kr w0 k)) := by
  intro v; kernel_rfl
theorem count_roman.hb : Tryd.f15.body = some count_roman.body := by kernel_rfl
def tab8 (k : Nat) : Tab T := addTab 15 (line io8 io9 [] (fun v => count_roman k v)) (tab7 k)
def strconv_Itoa (k : Nat) (a103 : Int) : Option (List UInt8) := itoaS a103
def tab9 (k : Nat) : Tab T := addTab 16 (line io8 io9 [] (fun v => strconv_Itoa k v)) (tab8 k)
def count_mark (k : Nat) (a1 : Int) (a2 : Int) : Option (List UInt8) :=
cond (a1 == (0 : Int)) (
some ([] : List UInt8)) (
cond (a1 == (1 : Int)) (
some ([226, 128, 162] : List UInt8)) (
let v3 : Bool := (cond (a1 == (3 : Int)) (decide (a2 > (0 : Int))) false)
cond v3 (
(count_letters k a2).bind fun r4 =>
some r4) (
let v5 : Bool := (cond (a1 == (4 : Int)) (decide (a2 > (0 : Int))) false)
cond v5 (
(count_letters k a2).bind fun r6 =>
(strings_ToUpper k r6).bind fun r7 =>
some r7) (
(cond (a1 == (5 : Int)) (count_in k a2 (1 : Int) (3999 : Int)) (some false)).bind fun r8 =>
let v9 : Bool := (cond (a1 == (5 : Int)) r8 false)
cond v9 (
(count_roman k a2).bind fun r10 =>
some r10) (
(cond (a1 == (6 : Int)) (count_in k a2 (1 : Int) (3999 : Int)) (some false)).bind fun r11 =>
let v12 : Bool := (cond (a1 == (6 : Int)) r11 false)
cond v12 (
(count_roman k a2).bind fun r13 =>
(strings_ToUpper k r13).bind fun r14 =>
some r14) (
(strconv_Itoa k a2).bind fun r15 =>
some r15))))))
def count_mark.kr (w0 : World) (k : Nat) : Kr T (List UInt8) := (kret (retK (cfg w0 (tab9 k)) Tryd.f8.results.toList 0 [] io9.pat))
def count_mark.cuts (w0 : World) (k : Nat) : Cuts T (List UInt8) := fun n => none
def count_mark.body : Code := bodyOf Tryd.f8
theorem count_mark.e (w0 : World) (k : Nat) : ∀ v, (fun v => count_mark k v.1 v.2) v = runK (cfg w0 (tab9 k)) Tryd.f8.ntmps (count_mark.kr w0 k) (annot (count_mark.cuts w0 k) count_mark.body) (entry (io17.enc v).1 (io17.enc v).2) (endK (count_mark.kr w0 k)) := by
  intro v; kernel_rfl
theorem count_mark.hb : Tryd.f8.body = some count_mark.body := by kernel_rfl
def tab10 (k : Nat) : Tab T := addTab 8 (line io17 io9 [] (fun v => count_mark k v.1 v.2)) (tab9 k)
def count_Mark (k : Nat) (a1 : Int) (a2 : Int) : Option ((List UInt8) × Int) :=
(count_in k a1 (0 : Int) (6 : Int)).bind fun r3 =>
cond (!r3) (
some (([] : List UInt8), (7 : Int))) (
(count_in k a2 (-1000000 : Int) (1000000 : Int)).bind fun r4 =>
cond (!r4) (
some (([] : List UInt8), (1 : Int))) (
(count_mark k a1 a2).bind fun r5 =>
some (r5, (0 : Int))))
def count_Mark.kr (w0 : World) (k : Nat) : Kr T ((List UInt8) × Int) := (kret (retK (cfg w0 (tab10 k)) Tryd.f5.results.toList 0 [] io18.pat))
def count_Mark.cuts (w0 : World) (k : Nat) : Cuts T ((List UInt8) × Int) := fun n => none
def count_Mark.body : Code := bodyOf Tryd.f5
theorem count_Mark.e (w0 : World) (k : Nat) : ∀ v, (fun v => count_Mark k v.1 v.2) v = runK (cfg w0 (tab10 k)) Tryd.f5.ntmps (count_Mark.kr w0 k) (annot (count_Mark.cuts w0 k) count_Mark.body) (entry (io17.enc v).1 (io17.enc v).2) (endK (count_Mark.kr w0 k)) := by
  intro v; kernel_rfl
theorem count_Mark.hb : Tryd.f5.body = some count_Mark.body := by kernel_rfl
def tab11 (k : Nat) : Tab T := addTab 5 (line io17 io18 ([], (0 : Int)) (fun v => count_Mark k v.1 v.2)) (tab10 k)
def clerestorykeep2_fourth (k : Nat)  : Option (Bool) :=
(count_Mark k (5 : Int) (14 : Int)).bind fun r1 =>
let v2 : Bool := (r1.1 == ([120, 105, 118] : List UInt8))
let v3 : Bool := (cond (r1.2 == (0 : Int)) v2 false)
some v3
def clerestorykeep2_fourth.kr (w0 : World) (k : Nat) : Kr T (Bool) := (kret (retK (cfg w0 (tab11 k)) Tryd.f4.results.toList 0 [] io1.pat))
def clerestorykeep2_fourth.cuts (w0 : World) (k : Nat) : Cuts T (Bool) := fun n => none
def clerestorykeep2_fourth.body : Code := bodyOf Tryd.f4
theorem clerestorykeep2_fourth.e (w0 : World) (k : Nat) : ∀ v, (fun v => clerestorykeep2_fourth k ) v = runK (cfg w0 (tab11 k)) Tryd.f4.ntmps (clerestorykeep2_fourth.kr w0 k) (annot (clerestorykeep2_fourth.cuts w0 k) clerestorykeep2_fourth.body) (entry (io3.enc v).1 (io3.enc v).2) (endK (clerestorykeep2_fourth.kr w0 k)) := by
  intro v; kernel_rfl
theorem clerestorykeep2_fourth.hb : Tryd.f4.body = some clerestorykeep2_fourth.body := by kernel_rfl
def tab12 (k : Nat) : Tab T := addTab 4 (line io3 io1 false (fun v => clerestorykeep2_fourth k )) (tab11 k)
def strconv_Atoi (k : Nat) (a5 : List UInt8) : Option (Int × Bool) := atoiS a5
def tab13 (k : Nat) : Tab T := addTab 9 (line io9 io19 ((0 : Int), false) (fun v => strconv_Atoi k v)) (tab12 k)
def strings_ToLower (k : Nat) (a7 : List UInt8) : Option (List UInt8) := lowS a7
def tab14 (k : Nat) : Tab T := addTab 11 (line io9 io9 [] (fun v => strings_ToLower k v)) (tab13 k)
def count_worth.c7 (k : Nat) : Nat → (List UInt8) → Int → Int → Int → (Int → Option (Int)) → Option (Int)
  | 0, _, _, _, _, _ => none
  | n + 1, x2, x3, x4, x5, k0 =>
    cond (decide (x5 < x4)) (
    cond (decide (0 ≤ x5 ∧ x5 < (x2.length : Int))) (
    let v6 : Int := ((x2.getD x5.toNat 0).toNat : Int)
    cond ((decide (0 ≤ x5 ∧ x5 < (x2.length : Int))) || !(!(decide (v6 < (97 : Int))))) (
    let v7 : Int := ((x2.getD x5.toNat 0).toNat : Int)
    let v8 : Bool := (cond (decide (v6 < (97 : Int))) true (decide (v7 > (122 : Int))))
    let v9 : Bool := (decide (x3 > (1000000 : Int)))
    cond (cond v8 true v9) (
    some (0 : Int)) (
    let v10 : Int := (IntKind.wrap .i64 ((26 : Int) * x3))
    cond (decide (0 ≤ x5 ∧ x5 < (x2.length : Int))) (
    let v11 : Int := ((x2.getD x5.toNat 0).toNat : Int)
    let v12 : Int := (IntKind.wrap .u8 (v11 - (97 : Int)))
    let v13 : Int := (IntKind.wrap .i64 (v10 + (IntKind.wrap .i64 v12)))
    let v14 : Int := (IntKind.wrap .i64 (v13 + (1 : Int)))
    let v15 : Int := (IntKind.wrap .i64 (x5 + (1 : Int)))
    count_worth.c7 k n x2 v14 x4 v15 k0) none)) none) none) (
    k0 x3)
def count_worth (k : Nat) (a1 : List UInt8) : Option (Int) :=
count_worth.c7 k k a1 (0 : Int) (a1.length : Int) (0 : Int) (fun (y16 : Int) =>
some y16)
def count_worth.kr (w0 : World) (k : Nat) : Kr T (Int) := (kret (retK (cfg w0 (tab14 k)) Tryd.f10.results.toList 0 [] io8.pat))
def count_worth.x7 : Ex → Option (List Nat × List Sp)
  | .exit 0 => some ([3], [])
  | _ => none
def count_worth.L7 (k : Nat) (n : Nat) (v : (List UInt8) × Int × Int × Int) (K : Ex → St T → Option (Int)) : Option (Int) := count_worth.c7 k n v.1 v.2.1 v.2.2.1 v.2.2.2 (fun y50 => K (.exit 0) (mkSt [3] (io8.enc y50)))
def count_worth.cuts (w0 : World) (k : Nat) : Cuts T (Int) := fun n => bif n.beq 7 then some (entK (cfg w0 (tab14 k)) 0 [0, 3, 6, 7] [] io20.pat (count_worth.L7 k k)) else none
def count_worth.body : Code := bodyOf Tryd.f10
def count_worth.b7 : Code := findD 7 count_worth.body
theorem count_worth.s7 (w0 : World) (k : Nat) : ∀ n v K, count_worth.L7 k (n + 1) v K = runK (cfg w0 (tab14 k)) Tryd.f10.ntmps (count_worth.kr w0 k) (annot (count_worth.cuts w0 k) count_worth.b7) (mkSt [0, 3, 6, 7] (io20.enc v)) (loopK (cfg w0 (tab14 k)) 0 count_worth.x7 (entK (cfg w0 (tab14 k)) 0 [0, 3, 6, 7] [] io20.pat (count_worth.L7 k n)) K) := by
  intro n v K; kernel_rfl
theorem count_worth.e (w0 : World) (k : Nat) : ∀ v, (fun v => count_worth k v) v = runK (cfg w0 (tab14 k)) Tryd.f10.ntmps (count_worth.kr w0 k) (annot (count_worth.cuts w0 k) count_worth.body) (entry (io9.enc v).1 (io9.enc v).2) (endK (count_worth.kr w0 k)) := by
  intro v; kernel_rfl
theorem count_worth.hb : Tryd.f10.body = some count_worth.body := by kernel_rfl
def tab15 (k : Nat) : Tab T := addTab 10 (line io9 io8 (0 : Int) (fun v => count_worth k v)) (tab14 k)
def strings_IndexByte (k : Nat) (a9 : List UInt8) (a10 : Int) : Option (Int) := some (ixbS a9 a10)
def tab16 (k : Nat) : Tab T := addTab 25 (line io21 io8 (0 : Int) (fun v => strings_IndexByte k v.1 v.2)) (tab15 k)
def count_value.c7 (k : Nat) : Nat → (List UInt8) → Int → Int → Int → (Int → Option (Int)) → Option (Int)
  | 0, _, _, _, _, _ => none
  | n + 1, x3, x4, x5, x6, k0 =>
    cond (decide (x6 ≥ (0 : Int))) (
    cond (decide (0 ≤ x6 ∧ x6 < (x3.length : Int))) (
    let v7 : Int := ((x3.getD x6.toNat 0).toNat : Int)
    (strings_IndexByte k ([105, 118, 120, 108, 99, 100, 109] : List UInt8) v7).bind fun r8 =>
    let v9 : Bool := (cond (decide (r8 < (0 : Int))) true (decide (x4 > (5000 : Int))))
    cond v9 (
    some (0 : Int)) (
    cond (decide (0 ≤ r8 ∧ r8 < ((7 : Nat) : Int))) (
    let v10 : Int := (([(1 : Int), (5 : Int), (10 : Int), (50 : Int), (100 : Int), (500 : Int), (1000 : Int)]).getD r8.toNat (0 : Int))
    cond (decide (v10 < x5)) (
    let v11 : Int := (IntKind.wrap .i64 (x6 - (1 : Int)))
    count_value.c7 k n x3 (IntKind.wrap .i64 (x4 - v10)) x5 v11 k0) (
    let v12 : Int := (IntKind.wrap .i64 (x6 - (1 : Int)))
    count_value.c7 k n x3 (IntKind.wrap .i64 (x4 + v10)) v10 v12 k0)) none)) none) (
    k0 x4)
def count_value (k : Nat) (a1 : List UInt8) : Option (Int) :=
let v2 : Int := (IntKind.wrap .i64 ((a1.length : Int) - (1 : Int)))
count_value.c7 k k a1 (0 : Int) (0 : Int) v2 (fun (y13 : Int) =>
some y13)
def count_value.kr (w0 : World) (k : Nat) : Kr T (Int) := (kret (retK (cfg w0 (tab16 k)) Tryd.f12.results.toList 0 [] io8.pat))
def count_value.x7 : Ex → Option (List Nat × List Sp)
  | .exit 0 => some ([3], [])
  | _ => none
def count_value.L7 (k : Nat) (n : Nat) (v : (List UInt8) × Int × Int × Int) (K : Ex → St T → Option (Int)) : Option (Int) := count_value.c7 k n v.1 v.2.1 v.2.2.1 v.2.2.2 (fun y51 => K (.exit 0) (mkSt [3] (io8.enc y51)))
def count_value.cuts (w0 : World) (k : Nat) : Cuts T (Int) := fun n => bif n.beq 7 then some (entK (cfg w0 (tab16 k)) 0 [0, 3, 4, 5] [] io20.pat (count_value.L7 k k)) else none
def count_value.body : Code := bodyOf Tryd.f12
def count_value.b7 : Code := findD 7 count_value.body
theorem count_value.s7 (w0 : World) (k : Nat) : ∀ n v K, count_value.L7 k (n + 1) v K = runK (cfg w0 (tab16 k)) Tryd.f12.ntmps (count_value.kr w0 k) (annot (count_value.cuts w0 k) count_value.b7) (mkSt [0, 3, 4, 5] (io20.enc v)) (loopK (cfg w0 (tab16 k)) 0 count_value.x7 (entK (cfg w0 (tab16 k)) 0 [0, 3, 4, 5] [] io20.pat (count_value.L7 k n)) K) := by
  intro n v K; kernel_rfl
theorem count_value.e (w0 : World) (k : Nat) : ∀ v, (fun v => count_value k v) v = runK (cfg w0 (tab16 k)) Tryd.f12.ntmps (count_value.kr w0 k) (annot (count_value.cuts w0 k) count_value.body) (entry (io9.enc v).1 (io9.enc v).2) (endK (count_value.kr w0 k)) := by
  intro v; kernel_rfl
theorem count_value.hb : Tryd.f12.body = some count_value.body := by kernel_rfl
def tab17 (k : Nat) : Tab T := addTab 12 (line io9 io8 (0 : Int) (fun v => count_value k v)) (tab16 k)
def count_Back.c24 (k : Nat) (x7 : Int) (x8 : List UInt8) (x9 : Int)  : Option (Int × Int) :=
(count_in k x9 (-1000000 : Int) (1000000 : Int)).bind fun r10 =>
(cond (!(!r10)) (count_mark k x7 x9) (some [])).bind fun r11 =>
let v12 : Bool := (cond (!r10) true (!(r11 == x8)))
cond v12 (
some ((0 : Int), (5 : Int))) (
some (x9, (0 : Int)))
def count_Back (k : Nat) (a1 : Int) (a2 : List UInt8) : Option (Int × Int) :=
(count_in k a1 (2 : Int) (6 : Int)).bind fun r3 =>
cond (!r3) (
some ((0 : Int), (7 : Int))) (
(strconv_Atoi k a2).bind fun r4 =>
cond (!(!r4.2)) (
cond (a1 == (3 : Int)) (
cond (a1 == (3 : Int)) (
(strings_ToLower k a2).bind fun r5 =>
(count_worth k r5).bind fun r6 =>
count_Back.c24 k a1 a2 r6) (
cond (a1 == (5 : Int)) (
cond (a1 == (5 : Int)) (
(strings_ToLower k a2).bind fun r13 =>
(count_value k r13).bind fun r14 =>
count_Back.c24 k a1 a2 r14) (
count_Back.c24 k a1 a2 r4.1)) (
cond (a1 == (6 : Int)) (
(strings_ToLower k a2).bind fun r15 =>
(count_value k r15).bind fun r16 =>
count_Back.c24 k a1 a2 r16) (
count_Back.c24 k a1 a2 r4.1)))) (
cond (a1 == (4 : Int)) (
(strings_ToLower k a2).bind fun r17 =>
(count_worth k r17).bind fun r18 =>
count_Back.c24 k a1 a2 r18) (
cond (a1 == (5 : Int)) (
cond (a1 == (5 : Int)) (
(strings_ToLower k a2).bind fun r19 =>
(count_value k r19).bind fun r20 =>
count_Back.c24 k a1 a2 r20) (
count_Back.c24 k a1 a2 r4.1)) (
cond (a1 == (6 : Int)) (
(strings_ToLower k a2).bind fun r21 =>
(count_value k r21).bind fun r22 =>
count_Back.c24 k a1 a2 r22) (
count_Back.c24 k a1 a2 r4.1))))) (
count_Back.c24 k a1 a2 r4.1))
def count_Back.kr (w0 : World) (k : Nat) : Kr T (Int × Int) := (kret (retK (cfg w0 (tab17 k)) Tryd.f6.results.toList 0 [] io17.pat))
def count_Back.x24 : Ex → Option (List Nat × List Sp)
  | _ => none
def count_Back.L24 (k : Nat) (v : Int × (List UInt8) × Int) (K : Ex → St T → Option (Int × Int)) : Option (Int × Int) := count_Back.c24 k v.1 v.2.1 v.2.2
def count_Back.cuts (w0 : World) (k : Nat) : Cuts T (Int × Int) := fun n => bif n.beq 24 then some (entK (cfg w0 (tab17 k)) 0 [0, 1, 6] [] io23.pat (count_Back.L24 k)) else none
def count_Back.body : Code := bodyOf Tryd.f6
def count_Back.b24 : Code := findD 24 count_Back.body
theorem count_Back.s24 (w0 : World) (k : Nat) : ∀ v K, count_Back.L24 k v K = runK (cfg w0 (tab17 k)) Tryd.f6.ntmps (count_Back.kr w0 k) (annot (count_Back.cuts w0 k) count_Back.b24) (mkSt [0, 1, 6] (io23.enc v)) (outK (cfg w0 (tab17 k)) 0 count_Back.x24 K) := by
  intro v K; kernel_rfl
theorem count_Back.e (w0 : World) (k : Nat) : ∀ v, (fun v => count_Back k v.1 v.2) v = runK (cfg w0 (tab17 k)) Tryd.f6.ntmps (count_Back.kr w0 k) (annot (count_Back.cuts w0 k) count_Back.body) (entry (io22.enc v).1 (io22.enc v).2) (endK (count_Back.kr w0 k)) := by
  intro v; kernel_rfl
theorem count_Back.hb : Tryd.f6.body = some count_Back.body := by kernel_rfl
def tab18 (k : Nat) : Tab T := addTab 6 (line io22 io17 ((0 : Int), (0 : Int)) (fun v => count_Back k v.1 v.2)) (tab17 k)
def clerestorykeep2_CountBack (k : Nat) (a1 : Int) (a2 : Int) (a3 : List UInt8) : Option (Bool) :=
(clerestorykeep2_fourth k).bind fun r4 =>
cond ((5 : Int) != 0) (
let v5 : Int := (Int.tmod (IntKind.wrap .u64 a1) (5 : Int))
let v6 : Int := (IntKind.wrap .i64 ((2 : Int) + (IntKind.wrap .i64 v5)))
cond ((1000001 : Int) != 0) (
(count_Mark k v6 (Int.tmod a2 (1000001 : Int))).bind fun r7 =>
(count_Back k v6 r7.1).bind fun r8 =>
(count_Back k v6 a3).bind fun r9 =>
(count_Mark k v6 r9.1).bind fun r10 =>
let v11 : Bool := (cond r4 (r7.2 == (0 : Int)) false)
let v12 : Bool := (cond v11 (r8.2 == (0 : Int)) false)
let v13 : Bool := (r8.1 == (Int.tmod a2 (1000001 : Int)))
let v14 : Bool := (cond (r9.2 != (0 : Int)) (r9.1 == (0 : Int)) false)
let v15 : Bool := (cond (r9.2 == (0 : Int)) (r10.2 == (0 : Int)) false)
let v16 : Bool := (cond v14 true (cond v15 (r10.1 == a3) false))
let v17 : Bool := (cond (cond v12 v13 false) v16 false)
some v17) none) none
def clerestorykeep2_CountBack.kr (w0 : World) (k : Nat) : Kr T (Bool) := (kret (retK (cfg w0 (tab18 k)) Tryd.f3.results.toList 0 [] io1.pat))
def clerestorykeep2_CountBack.cuts (w0 : World) (k : Nat) : Cuts T (Bool) := fun n => none
def clerestorykeep2_CountBack.body : Code := bodyOf Tryd.f3
theorem clerestorykeep2_CountBack.e (w0 : World) (k : Nat) : ∀ v, (fun v => clerestorykeep2_CountBack k v.1 v.2.1 v.2.2) v = runK (cfg w0 (tab18 k)) Tryd.f3.ntmps (clerestorykeep2_CountBack.kr w0 k) (annot (clerestorykeep2_CountBack.cuts w0 k) clerestorykeep2_CountBack.body) (entry (io24.enc v).1 (io24.enc v).2) (endK (clerestorykeep2_CountBack.kr w0 k)) := by
  intro v; kernel_rfl
theorem clerestorykeep2_CountBack.hb : Tryd.f3.body = some clerestorykeep2_CountBack.body := by kernel_rfl
def tab19 (k : Nat) : Tab T := addTab 3 (line io24 io1 false (fun v => clerestorykeep2_CountBack k v.1 v.2.1 v.2.2)) (tab18 k)
attribute [local irreducible] runK retK annot entry
theorem ok0 (w0 : World) (hw : Wd w0) (k : Nat) : CfOk (cfg w0 (tab0 k)) := noTab_ok fun _ _ _ => rfl
theorem sim_cf {w0 : World} {t t' : Tab T} {f : FuncId} {a : List (V T)} {b : List (Obj T)} {c : List (V T)} {d : List (Obj T)} (h : Sim (cfg w0 t) f a b c d) : Sim (cfg w0 t') f a b c d := h
theorem simP_cf {w0 : World} {t t' : Tab T} {f : FuncId} {a : List (V T)} {b : List (Obj T)} {c : List (V T)} {d : List (Obj T)} {p : V T} {q : Bool} (h : (q = false → Sim (cfg w0 t) f a b c d) ∧ (q = true → SimP (cfg w0 t) f a b p)) : (q = false → Sim (cfg w0 t') f a b c d) ∧ (q = true → SimP (cfg w0 t') f a b p) := h
theorem count_in.a (w0 : World) (k : Nat) : cutsAt (fun n => (count_in.cuts w0 k n).isSome) count_in.body = [] := by kernel_rfl
theorem count_in.sim (w0 : World) (hw : Wd w0) (k : Nat) : ∀ v x, (fun v => count_in k v.1 v.2.1 v.2.2) v = some x → Sim (cfg w0 (tab0 k)) 7 (io0.enc v).1 (io0.enc v).2 (io1.enc x).1 (io1.enc x).2 :=
  sim_of (c := (cfg w0 (tab0 k))) (fine w0 hw _ (ok0 w0 hw k)) (dr w0 hw _ (ok0 w0 hw k)) (i := io0) (o := io1) (ps := []) (cuts := fun _ => count_in.cuts w0 k) (m := 0) (g := fun v => count_in k v.1 v.2.1 v.2.2) Tryd.func7 (by kernel_rfl) count_in.hb (fun _ => rfl) (fun _ => Nat.le_of_ble_eq_true rfl) (good_cuts (count_in.a w0 k) trivial) (count_in.e w0 k)
theorem ok1 (w0 : World) (hw : Wd w0) (k : Nat) : CfOk (cfg w0 (tab1 k)) := addTab_ok (ok0 w0 hw k) (count_in.sim w0 hw k)
theorem slices_Reverse___byte_byte_.a3 (w0 : World) (k : Nat) : cutsAt (fun n => (slices_Reverse___byte_byte_.cuts w0 k n).isSome) slices_Reverse___byte_byte_.b3 = [] := by kernel_rfl
theorem slices_Reverse___byte_byte_.a (w0 : World) (k : Nat) : cutsAt (fun n => (slices_Reverse___byte_byte_.cuts w0 k n).isSome) slices_Reverse___byte_byte_.body = [(3, Code.loop slices_Reverse___byte_byte_.b3)] := by kernel_rfl
theorem slices_Reverse___byte_byte_.so3 (w0 : World) (hw : Wd w0) (k : Nat) : Sound (cfg w0 (tab1 k)) Tryd.f26.ntmps 0 (slices_Reverse___byte_byte_.kr w0 k) (.loop slices_Reverse___byte_byte_.b3) (entK (cfg w0 (tab1 k)) 0 [0, 2, 3] [] io4.pat (slices_Reverse___byte_byte_.L3 k k)) :=
  loop_ok (fine w0 hw _ (ok1 w0 hw k)) (dr w0 hw _ (ok1 w0 hw k)) (good_cuts (slices_Reverse___byte_byte_.a3 w0 k) trivial) io4.ok (xn := slices_Reverse___byte_byte_.x3) (L := slices_Reverse___byte_byte_.L3 k) (fun v K => rfl) (slices_Reverse___byte_byte_.s3 w0 k) k
theorem slices_Reverse___byte_byte_.sim (w0 : World) (hw : Wd w0) (k : Nat) : ∀ v x, (fun v => slices_Reverse___byte_byte_ k ) v = some x → Sim (cfg w0 (tab1 k)) 26 (io2.enc v).1 (io2.enc v).2 (io3.enc x).1 (io3.enc x).2 :=
  sim_of (c := (cfg w0 (tab1 k))) (fine w0 hw _ (ok1 w0 hw k)) (dr w0 hw _ (ok1 w0 hw k)) (i := io2) (o := io3) (ps := []) (cuts := fun _ => slices_Reverse___byte_byte_.cuts w0 k) (m := 0) (g := fun v => slices_Reverse___byte_byte_ k ) Tryd.func26 (by kernel_rfl) slices_Reverse___byte_byte_.hb (fun _ => rfl) (fun _ => Nat.le_of_ble_eq_true rfl) (good_cuts (slices_Reverse___byte_byte_.a w0 k) ⟨fun f hf => by cases hf; exact slices_Reverse___byte_byte_.so3 w0 hw k, trivial⟩) (slices_Reverse___byte_byte_.e w0 k)
theorem ok2 (w0 : World) (hw : Wd w0) (k : Nat) : CfOk (cfg w0 (tab2 k)) := addTab_ok (ok1 w0 hw k) (slices_Reverse___byte_byte_.sim w0 hw k)
theorem slices_Reverse___byte_byte__v2.a3 (w0 : World) (k : Nat) : cutsAt (fun n => (slices_Reverse___byte_byte__v2.cuts w0 k n).isSome) slices_Reverse___byte_byte__v2.b3 = [] := by kernel_rfl
theorem slices_Reverse___byte_byte__v2.a (w0 : World) (k : Nat) : cutsAt (fun n => (slices_Reverse___byte_byte__v2.cuts w0 k n).isSome) slices_Reverse___byte_byte__v2.body = [(3, Code.loop slices_Reverse___byte_byte__v2.b3)] := by kernel_rfl
theorem slices_Reverse___byte_byte__v2.so3 (w0 : World) (hw : Wd w0) (k : Nat) : Sound (cfg w0 (tab2 k)) Tryd.f26.ntmps 1 (slices_Reverse___byte_byte__v2.kr w0 k) (.loop slices_Reverse___byte_byte__v2.b3) (entK (cfg w0 (tab2 k)) 1 [0, 2, 3] [] io7.pat (slices_Reverse___byte_byte__v2.L3 k k)) :=
  loop_ok (fine w0 hw _ (ok2 w0 hw k)) (dr w0 hw _ (ok2 w0 hw k)) (good_cuts (slices_Reverse___byte_byte__v2.a3 w0 k) trivial) io7.ok (xn := slices_Reverse___byte_byte__v2.x3) (L := slices_Reverse___byte_byte__v2.L3 k) (fun v K => rfl) (slices_Reverse___byte_byte__v2.s3 w0 k) k
theorem slices_Reverse___byte_byte__v2.sim (w0 : World) (hw : Wd w0) (k : Nat) : ∀ v x, (fun v => slices_Reverse___byte_byte__v2 k v) v = some x → Sim (cfg w0 (tab2 k)) 26 (io5.enc v).1 (io5.enc v).2 (io6.enc x).1 (io6.enc x).2 :=
  sim_of (c := (cfg w0 (tab2 k))) (fine w0 hw _ (ok2 w0 hw k)) (dr w0 hw _ (ok2 w0 hw k)) (i := io5) (o := io6) (ps := []) (cuts := fun _ => slices_Reverse___byte_byte__v2.cuts w0 k) (m := 1) (g := fun v => slices_Reverse___byte_byte__v2 k v) Tryd.func26 (by kernel_rfl) slices_Reverse___byte_byte__v2.hb (fun _ => rfl) (fun _ => Nat.le_of_ble_eq_true rfl) (good_cuts (slices_Reverse___byte_byte__v2.a w0 k) ⟨fun f hf => by cases hf; exact slices_Reverse___byte_byte__v2.so3 w0 hw k, trivial⟩) (slices_Reverse___byte_byte__v2.e w0 k)
theorem ok3 (w0 : World) (hw : Wd w0) (k : Nat) : CfOk (cfg w0 (tab3 k)) := addTab_ok (ok2 w0 hw k) (slices_Reverse___byte_byte__v2.sim w0 hw k)
theorem count_letters.a5 (w0 : World) (k : Nat) : cutsAt (fun n => (count_letters.cuts w0 k n).isSome) count_letters.b5 = [] := by kernel_rfl
theorem count_letters.a (w0 : World) (k : Nat) : cutsAt (fun n => (count_letters.cuts w0 k n).isSome) count_letters.body = [(5, Code.loop count_letters.b5)] := by kernel_rfl
theorem count_letters.so5 (w0 : World) (hw : Wd w0) (k : Nat) : Sound (cfg w0 (tab3 k)) Tryd.f13.ntmps 0 (count_letters.kr w0 k) (.loop count_letters.b5) (entK (cfg w0 (tab3 k)) 0 [0, 3] [.own 3 5] io10.pat (count_letters.L5 k k)) :=
  loop_ok (fine w0 hw _ (ok3 w0 hw k)) (dr w0 hw _ (ok3 w0 hw k)) (good_cuts (count_letters.a5 w0 k) trivial) io10.ok (xn := count_letters.x5) (L := count_letters.L5 k) (fun v K => rfl) (count_letters.s5 w0 k) k
theorem count_letters.sim (w0 : World) (hw : Wd w0) (k : Nat) : ∀ v x, (fun v => count_letters k v) v = some x → Sim (cfg w0 (tab3 k)) 13 (io8.enc v).1 (io8.enc v).2 (io9.enc x).1 (io9.enc x).2 :=
  sim_of (c := (cfg w0 (tab3 k))) (fine w0 hw _ (ok3 w0 hw k)) (dr w0 hw _ (ok3 w0 hw k)) (i := io8) (o := io9) (ps := []) (cuts := fun _ => count_letters.cuts w0 k) (m := 0) (g := fun v => count_letters k v) Tryd.func13 (by kernel_rfl) count_letters.hb (fun _ => rfl) (fun _ => Nat.le_of_ble_eq_true rfl) (good_cuts (count_letters.a w0 k) ⟨fun f hf => by cases hf; exact count_letters.so5 w0 hw k, trivial⟩) (count_letters.e w0 k)
theorem ok4 (w0 : World) (hw : Wd w0) (k : Nat) : CfOk (cfg w0 (tab4 k)) := addTab_ok (ok3 w0 hw k) (count_letters.sim w0 hw k)
theorem strings_ToUpper.sim (w0 : World) (hw : Wd w0) (k : Nat) : ∀ v x, (fun v => strings_ToUpper k v) v = some x → Sim (cfg w0 (tab4 k)) 14 (io9.enc v).1 (io9.enc v).2 (io9.enc x).1 (io9.enc x).2 := by
  intro v x h; exact sim_upper (c := cfg w0 (tab4 k)) (ρ := Sh.ren158) Sh.l158 Sh.ext158 hw.cv hw.u8 h
theorem ok5 (w0 : World) (hw : Wd w0) (k : Nat) : CfOk (cfg w0 (tab5 k)) := addTab_ok (ok4 w0 hw k) (strings_ToUpper.sim w0 hw k)
theorem f__strings_Builder__WriteString.sim (w0 : World) (hw : Wd w0) (k : Nat) : ∀ v x, (fun v => f__strings_Builder__WriteString k v.1 v.2) v = some x → Sim (cfg w0 (tab5 k)) 20 (io11.enc v).1 (io11.enc v).2 (io12.enc x).1 (io12.enc x).2 := by
  intro v x h; obtain ⟨s, hs, rfl⟩ := Option.map_eq_some_iff.1 h; exact sim_wStr (c := cfg w0 (tab5 k)) (ρ := Sh.blr) Sh.bl Sh.fWriteString Sh.ext rfl rfl hs
theorem ok6 (w0 : World) (hw : Wd w0) (k : Nat) : CfOk (cfg w0 (tab6 k)) := addTab_ok (ok5 w0 hw k) (f__strings_Builder__WriteString.sim w0 hw k)
theorem f__strings_Builder__String.sim (w0 : World) (hw : Wd w0) (k : Nat) : ∀ v x, (fun v => f__strings_Builder__String k v) v = some x → Sim (cfg w0 (tab6 k)) 22 (io13.enc v).1 (io13.enc v).2 (io14.enc x).1 (io14.enc x).2 := by
  intro v x h; cases h; exact sim_str (c := cfg w0 (tab6 k)) (ρ := Sh.blr) Sh.bl Sh.bl.f169 Sh.ext rfl rfl _
theorem ok7 (w0 : World) (hw : Wd w0) (k : Nat) : CfOk (cfg w0 (tab7 k)) := addTab_ok (ok6 w0 hw k) (f__strings_Builder__String.sim w0 hw k)
theorem count_roman.a11 (w0 : World) (k : Nat) : cutsAt (fun n => (count_roman.cuts w0 k n).isSome) count_roman.b11 = [] := by kernel_rfl
theorem count_roman.a7 (w0 : World) (k : Nat) : cutsAt (fun n => (count_roman.cuts w0 k n).isSome) count_roman.b7 = [(11, Code.loop count_roman.b11)] := by kernel_rfl
theorem count_roman.a (w0 : World) (k : Nat) : cutsAt (fun n => (count_roman.cuts w0 k n).isSome) count_roman.body = [(7, Code.loop count_roman.b7)] := by kernel_rfl
theorem count_roman.so11 (w0 : World) (hw : Wd w0) (k : Nat) : Sound (cfg w0 (tab7 k)) Tryd.f15.ntmps 0 (count_roman.kr w0 k) (.loop count_roman.b11) (entK (cfg w0 (tab7 k)) 0 [0, 3, 5, 19, 20] [] io15.pat (count_roman.L11 k k)) :=
  loop_ok (fine w0 hw _ (ok7 w0 hw k)) (dr w0 hw _ (ok7 w0 hw k)) (good_cuts (count_roman.a11 w0 k) trivial) io15.ok (xn := count_roman.x11) (L := count_roman.L11 k) (fun v K => rfl) (count_roman.s11 w0 k) k
theorem count_roman.so7 (w0 : World) (hw : Wd w0) (k : Nat) : Sound (cfg w0 (tab7 k)) Tryd.f15.ntmps 0 (count_roman.kr w0 k) (.loop count_roman.b7) (entK (cfg w0 (tab7 k)) 0 [0, 3, 19, 20] [] io16.pat (count_roman.L7 k k)) :=
  loop_ok (fine w0 hw _ (ok7 w0 hw k)) (dr w0 hw _ (ok7 w0 hw k)) (good_cuts (count_roman.a7 w0 k) ⟨fun f hf => by cases hf; exact count_roman.so11 w0 hw k, trivial⟩) io16.ok (xn := count_roman.x7) (L := count_roman.L7 k) (fun v K => rfl) (count_roman.s7 w0 k) k
theorem count_roman.sim (w0 : World) (hw : Wd w0) (k : Nat) : ∀ v x, (fun v => count_roman k v) v = some x → Sim (cfg w0 (tab7 k)) 15 (io8.enc v).1 (io8.enc v).2 (io9.enc x).1 (io9.enc x).2 :=
  sim_of (c := (cfg w0 (tab7 k))) (fine w0 hw _ (ok7 w0 hw k)) (dr w0 hw _ (ok7 w0 hw k)) (i := io8) (o := io9) (ps := []) (cuts := fun _ => count_roman.cuts w0 k) (m := 0) (g := fun v => count_roman k v) Tryd.func15 (by kernel_rfl) count_roman.hb (fun _ => rfl) (fun _ => Nat.le_of_ble_eq_true rfl) (good_cuts (count_roman.a w0 k) ⟨fun f hf => by cases hf; exact count_roman.so7 w0 hw k, trivial⟩) (count_roman.e w0 k)
theorem ok8 (w0 : World) (hw : Wd w0) (k : Nat) : CfOk (cfg w0 (tab8 k)) := addTab_ok (ok7 w0 hw k) (count_roman.sim w0 hw k)
theorem strconv_Itoa.sim (w0 : World) (hw : Wd w0) (k : Nat) : ∀ v x, (fun v => strconv_Itoa k v) v = some x → Sim (cfg w0 (tab8 k)) 16 (io8.enc v).1 (io8.enc v).2 (io9.enc x).1 (io9.enc x).2 := by
  intro v x h; exact sim_itoa (c := cfg w0 (tab8 k)) (ρ := Sh.ren171) Sh.l171 hw.pw h
theorem ok9 (w0 : World) (hw : Wd w0) (k : Nat) : CfOk (cfg w0 (tab9 k)) := addTab_ok (ok8 w0 hw k) (strconv_Itoa.sim w0 hw k)
theorem count_mark.a (w0 : World) (k : Nat) : cutsAt (fun n => (count_mark.cuts w0 k n).isSome) count_mark.body = [] := by kernel_rfl
theorem count_mark.sim (w0 : World) (hw : Wd w0) (k : Nat) : ∀ v x, (fun v => count_mark k v.1 v.2) v = some x → Sim (cfg w0 (tab9 k)) 8 (io17.enc v).1 (io17.enc v).2 (io9.enc x).1 (io9.enc x).2 :=
  sim_of (c := (cfg w0 (tab9 k))) (fine w0 hw _ (ok9 w0 hw k)) (dr w0 hw _ (ok9 w0 hw k)) (i := io17) (o := io9) (ps := []) (cuts := fun _ => count_mark.cuts w0 k) (m := 0) (g := fun v => count_mark k v.1 v.2) Tryd.func8 (by kernel_rfl) count_mark.hb (fun _ => rfl) (fun _ => Nat.le_of_ble_eq_true rfl) (good_cuts (count_mark.a w0 k) trivial) (count_mark.e w0 k)
theorem ok10 (w0 : World) (hw : Wd w0) (k : Nat) : CfOk (cfg w0 (tab10 k)) := addTab_ok (ok9 w0 hw k) (count_mark.sim w0 hw k)
theorem count_Mark.a (w0 : World) (k : Nat) : cutsAt (fun n => (count_Mark.cuts w0 k n).isSome) count_Mark.body = [] := by kernel_rfl
theorem count_Mark.sim (w0 : World) (hw : Wd w0) (k : Nat) : ∀ v x, (fun v => count_Mark k v.1 v.2) v = some x → Sim (cfg w0 (tab10 k)) 5 (io17.enc v).1 (io17.enc v).2 (io18.enc x).1 (io18.enc x).2 :=
  sim_of (c := (cfg w0 (tab10 k))) (fine w0 hw _ (ok10 w0 hw k)) (dr w0 hw _ (ok10 w0 hw k)) (i := io17) (o := io18) (ps := []) (cuts := fun _ => count_Mark.cuts w0 k) (m := 0) (g := fun v => count_Mark k v.1 v.2) Tryd.func5 (by kernel_rfl) count_Mark.hb (fun _ => rfl) (fun _ => Nat.le_of_ble_eq_true rfl) (good_cuts (count_Mark.a w0 k) trivial) (count_Mark.e w0 k)
theorem ok11 (w0 : World) (hw : Wd w0) (k : Nat) : CfOk (cfg w0 (tab11 k)) := addTab_ok (ok10 w0 hw k) (count_Mark.sim w0 hw k)
theorem clerestorykeep2_fourth.a (w0 : World) (k : Nat) : cutsAt (fun n => (clerestorykeep2_fourth.cuts w0 k n).isSome) clerestorykeep2_fourth.body = [] := by kernel_rfl
theorem clerestorykeep2_fourth.sim (w0 : World) (hw : Wd w0) (k : Nat) : ∀ v x, (fun v => clerestorykeep2_fourth k ) v = some x → Sim (cfg w0 (tab11 k)) 4 (io3.enc v).1 (io3.enc v).2 (io1.enc x).1 (io1.enc x).2 :=
  sim_of (c := (cfg w0 (tab11 k))) (fine w0 hw _ (ok11 w0 hw k)) (dr w0 hw _ (ok11 w0 hw k)) (i := io3) (o := io1) (ps := []) (cuts := fun _ => clerestorykeep2_fourth.cuts w0 k) (m := 0) (g := fun v => clerestorykeep2_fourth k ) Tryd.func4 (by kernel_rfl) clerestorykeep2_fourth.hb (fun _ => rfl) (fun _ => Nat.le_of_ble_eq_true rfl) (good_cuts (clerestorykeep2_fourth.a w0 k) trivial) (clerestorykeep2_fourth.e w0 k)
theorem ok12 (w0 : World) (hw : Wd w0) (k : Nat) : CfOk (cfg w0 (tab12 k)) := addTab_ok (ok11 w0 hw k) (clerestorykeep2_fourth.sim w0 hw k)
theorem strconv_Atoi.sim (w0 : World) (hw : Wd w0) (k : Nat) : ∀ v x, (fun v => strconv_Atoi k v) v = some x → Sim (cfg w0 (tab12 k)) 9 (io9.enc v).1 (io9.enc v).2 (io19.enc x).1 (io19.enc x).2 := by
  intro v x h; exact sim_atoi (c := cfg w0 (tab12 k)) (ρ := Sh.ren172) Sh.l172 hw.es hw.er h
theorem ok13 (w0 : World) (hw : Wd w0) (k : Nat) : CfOk (cfg w0 (tab13 k)) := addTab_ok (ok12 w0 hw k) (strconv_Atoi.sim w0 hw k)
theorem strings_ToLower.sim (w0 : World) (hw : Wd w0) (k : Nat) : ∀ v x, (fun v => strings_ToLower k v) v = some x → Sim (cfg w0 (tab13 k)) 11 (io9.enc v).1 (io9.enc v).2 (io9.enc x).1 (io9.enc x).2 := by
  intro v x h; exact sim_lower (c := cfg w0 (tab13 k)) (ρ := Sh.ren159) Sh.l159 Sh.ext159 hw.cv hw.u8 h
theorem ok14 (w0 : World) (hw : Wd w0) (k : Nat) : CfOk (cfg w0 (tab14 k)) := addTab_ok (ok13 w0 hw k) (strings_ToLower.sim w0 hw k)
theorem count_worth.a7 (w0 : World) (k : Nat) : cutsAt (fun n => (count_worth.cuts w0 k n).isSome) count_worth.b7 = [] := by kernel_rfl
theorem count_worth.a (w0 : World) (k : Nat) : cutsAt (fun n => (count_worth.cuts w0 k n).isSome) count_worth.body = [(7, Code.loop count_worth.b7)] := by kernel_rfl
theorem count_worth.so7 (w0 : World) (hw : Wd w0) (k : Nat) : Sound (cfg w0 (tab14 k)) Tryd.f10.ntmps 0 (count_worth.kr w0 k) (.loop count_worth.b7) (entK (cfg w0 (tab14 k)) 0 [0, 3, 6, 7] [] io20.pat (count_worth.L7 k k)) :=
  loop_ok (fine w0 hw _ (ok14 w0 hw k)) (dr w0 hw _ (ok14 w0 hw k)) (good_cuts (count_worth.a7 w0 k) trivial) io20.ok (xn := count_worth.x7) (L := count_worth.L7 k) (fun v K => rfl) (count_worth.s7 w0 k) k
theorem count_worth.sim (w0 : World) (hw : Wd w0) (k : Nat) : ∀ v x, (fun v => count_worth k v) v = some x → Sim (cfg w0 (tab14 k)) 10 (io9.enc v).1 (io9.enc v).2 (io8.enc x).1 (io8.enc x).2 :=
  sim_of (c := (cfg w0 (tab14 k))) (fine w0 hw _ (ok14 w0 hw k)) (dr w0 hw _ (ok14 w0 hw k)) (i := io9) (o := io8) (ps := []) (cuts := fun _ => count_worth.cuts w0 k) (m := 0) (g := fun v => count_worth k v) Tryd.func10 (by kernel_rfl) count_worth.hb (fun _ => rfl) (fun _ => Nat.le_of_ble_eq_true rfl) (good_cuts (count_worth.a w0 k) ⟨fun f hf => by cases hf; exact count_worth.so7 w0 hw k, trivial⟩) (count_worth.e w0 k)
theorem ok15 (w0 : World) (hw : Wd w0) (k : Nat) : CfOk (cfg w0 (tab15 k)) := addTab_ok (ok14 w0 hw k) (count_worth.sim w0 hw k)
theorem strings_IndexByte.sim (w0 : World) (hw : Wd w0) (k : Nat) : ∀ v x, (fun v => strings_IndexByte k v.1 v.2) v = some x → Sim (cfg w0 (tab15 k)) 25 (io21.enc v).1 (io21.enc v).2 (io8.enc x).1 (io8.enc x).2 := by
  intro v x h; cases h; exact sim_ixb (c := cfg w0 (tab15 k)) (ρ := Sh.ren137) Sh.l137
theorem ok16 (w0 : World) (hw : Wd w0) (k : Nat) : CfOk (cfg w0 (tab16 k)) := addTab_ok (ok15 w0 hw k) (strings_IndexByte.sim w0 hw k)
theorem count_value.a7 (w0 : World) (k : Nat) : cutsAt (fun n => (count_value.cuts w0 k n).isSome) count_value.b7 = [] := by kernel_rfl
theorem count_value.a (w0 : World) (k : Nat) : cutsAt (fun n => (count_value.cuts w0 k n).isSome) count_value.body = [(7, Code.loop count_value.b7)] := by kernel_rfl
theorem count_value.so7 (w0 : World) (hw : Wd w0) (k : Nat) : Sound (cfg w0 (tab16 k)) Tryd.f12.ntmps 0 (count_value.kr w0 k) (.loop count_value.b7) (entK (cfg w0 (tab16 k)) 0 [0, 3, 4, 5] [] io20.pat (count_value.L7 k k)) :=
  loop_ok (fine w0 hw _ (ok16 w0 hw k)) (dr w0 hw _ (ok16 w0 hw k)) (good_cuts (count_value.a7 w0 k) trivial) io20.ok (xn := count_value.x7) (L := count_value.L7 k) (fun v K => rfl) (count_value.s7 w0 k) k
theorem count_value.sim (w0 : World) (hw : Wd w0) (k : Nat) : ∀ v x, (fun v => count_value k v) v = some x → Sim (cfg w0 (tab16 k)) 12 (io9.enc v).1 (io9.enc v).2 (io8.enc x).1 (io8.enc x).2 :=
  sim_of (c := (cfg w0 (tab16 k))) (fine w0 hw _ (ok16 w0 hw k)) (dr w0 hw _ (ok16 w0 hw k)) (i := io9) (o := io8) (ps := []) (cuts := fun _ => count_value.cuts w0 k) (m := 0) (g := fun v => count_value k v) Tryd.func12 (by kernel_rfl) count_value.hb (fun _ => rfl) (fun _ => Nat.le_of_ble_eq_true rfl) (good_cuts (count_value.a w0 k) ⟨fun f hf => by cases hf; exact count_value.so7 w0 hw k, trivial⟩) (count_value.e w0 k)
theorem ok17 (w0 : World) (hw : Wd w0) (k : Nat) : CfOk (cfg w0 (tab17 k)) := addTab_ok (ok16 w0 hw k) (count_value.sim w0 hw k)
theorem count_Back.a24 (w0 : World) (k : Nat) : cutsAt (fun n => (count_Back.cuts w0 k n).isSome) count_Back.b24 = [] := by kernel_rfl
theorem count_Back.a (w0 : World) (k : Nat) : cutsAt (fun n => (count_Back.cuts w0 k n).isSome) count_Back.body = [(24, count_Back.b24)] := by kernel_rfl
theorem count_Back.so24 (w0 : World) (hw : Wd w0) (k : Nat) : Sound (cfg w0 (tab17 k)) Tryd.f6.ntmps 0 (count_Back.kr w0 k) count_Back.b24 (entK (cfg w0 (tab17 k)) 0 [0, 1, 6] [] io23.pat (count_Back.L24 k)) :=
  join_ok (fine w0 hw _ (ok17 w0 hw k)) (dr w0 hw _ (ok17 w0 hw k)) (good_cuts (count_Back.a24 w0 k) trivial) io23.ok (xn := count_Back.x24) (L := count_Back.L24 k) (count_Back.s24 w0 k)
theorem count_Back.sim (w0 : World) (hw : Wd w0) (k : Nat) : ∀ v x, (fun v => count_Back k v.1 v.2) v = some x → Sim (cfg w0 (tab17 k)) 6 (io22.enc v).1 (io22.enc v).2 (io17.enc x).1 (io17.enc x).2 :=
  sim_of (c := (cfg w0 (tab17 k))) (fine w0 hw _ (ok17 w0 hw k)) (dr w0 hw _ (ok17 w0 hw k)) (i := io22) (o := io17) (ps := []) (cuts := fun _ => count_Back.cuts w0 k) (m := 0) (g := fun v => count_Back k v.1 v.2) Tryd.func6 (by kernel_rfl) count_Back.hb (fun _ => rfl) (fun _ => Nat.le_of_ble_eq_true rfl) (good_cuts (count_Back.a w0 k) ⟨fun f hf => by cases hf; exact count_Back.so24 w0 hw k, trivial⟩) (count_Back.e w0 k)
theorem ok18 (w0 : World) (hw : Wd w0) (k : Nat) : CfOk (cfg w0 (tab18 k)) := addTab_ok (ok17 w0 hw k) (count_Back.sim w0 hw k)
theorem clerestorykeep2_CountBack.a (w0 : World) (k : Nat) : cutsAt (fun n => (clerestorykeep2_CountBack.cuts w0 k n).isSome) clerestorykeep2_CountBack.body = [] := by kernel_rfl
theorem clerestorykeep2_CountBack.sim (w0 : World) (hw : Wd w0) (k : Nat) : ∀ v x, (fun v => clerestorykeep2_CountBack k v.1 v.2.1 v.2.2) v = some x → Sim (cfg w0 (tab18 k)) 3 (io24.enc v).1 (io24.enc v).2 (io1.enc x).1 (io1.enc x).2 :=
  sim_of (c := (cfg w0 (tab18 k))) (fine w0 hw _ (ok18 w0 hw k)) (dr w0 hw _ (ok18 w0 hw k)) (i := io24) (o := io1) (ps := []) (cuts := fun _ => clerestorykeep2_CountBack.cuts w0 k) (m := 0) (g := fun v => clerestorykeep2_CountBack k v.1 v.2.1 v.2.2) Tryd.func3 (by kernel_rfl) clerestorykeep2_CountBack.hb (fun _ => rfl) (fun _ => Nat.le_of_ble_eq_true rfl) (good_cuts (clerestorykeep2_CountBack.a w0 k) trivial) (clerestorykeep2_CountBack.e w0 k)
theorem ok19 (w0 : World) (hw : Wd w0) (k : Nat) : CfOk (cfg w0 (tab19 k)) := addTab_ok (ok18 w0 hw k) (clerestorykeep2_CountBack.sim w0 hw k)
end
end Go.Ev.Cm
