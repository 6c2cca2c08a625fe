/- A part of the evaluator of Go code over small heaps and of its proof: no condition beyond those that each theorem names. -/
import Derived.Test.YtdnnaneifaoooaaDoorEvDfr
import Derived.Test.YtdnnaneifaoooaaDoorEvShM
import Derived.Test.YtdnnaneifaoooaaDoorProg
import Derived.KernelRfl
set_option linter.unusedVariables false
set_option maxRecDepth 100000
namespace Go.Ev.Ck
noncomputable section
open Go.Proofs Go.Ev

structure S52 where
  Kind : Int
  Dim_Num : Int
  Dim_Unit : List UInt8
  Subs : List S52
def S52.d : S52 := ⟨0, 0, [], []⟩
structure S106 where
  Kind : Int
  Raw : List UInt8
  Value : List UInt8
  Num : Int
def S106.d : S106 := ⟨0, [], [], 0⟩
structure S92 where
  l : List S106
  n : Int
  gapped : Bool
def S92.d : S92 := ⟨[], 0, false⟩
def base : TypeId → (α : Type) × α
  | 5 => ⟨Int, (0 : Int)⟩
  | 9 => ⟨List UInt8, []⟩
  | 52 => ⟨S52, S52.d⟩
  | 106 => ⟨S106, S106.d⟩
  | 92 => ⟨S92, S92.d⟩
  | _ => ⟨Unit, ()⟩
def T (t : TypeId) : Type := (base t).1
def dflt (t : TypeId) : T t := (base t).2
def dl (t : TypeId) : D T → Option (List (T t))
  | .l t' xs => asT t t' xs
  | .ns => some []
  | _ => none
theorem dl_le {t : TypeId} {d : D T} {l : List (T t)} (h : dl t d = some l) : leD d (.l t l) := by
  unfold dl at h
  split at h
  · rw [asT_l h]; exact .refl _
  · cases h; exact .ns _
  · cases h
def enc5 (x : Int) : List (D T) := [.i .u8 x]
def dec5 (ds : List (D T)) : Option (Int) := match ds with
  | [.i .u8 x0] => some x0
  | _ => none
theorem dec5_ok {ds : List (D T)} {x : Int} (h : dec5 ds = some x) : leDs ds (enc5 x) := by
  unfold dec5 at h
  split at h
  · cases h
    exact .cons (.refl _) <| .nil
  · cases h
def enc9 (x : List UInt8) : List (D T) := [.s x]
def dec9 (ds : List (D T)) : Option (List UInt8) := match ds with
  | [.s x0] => some x0
  | _ => none
theorem dec9_ok {ds : List (D T)} {x : List UInt8} (h : dec9 ds = some x) : leDs ds (enc9 x) := by
  unfold dec9 at h
  split at h
  · cases h
    exact .cons (.refl _) <| .nil
  · cases h
def enc52 (x : S52) : List (D T) := [.i .i64 x.Kind, .i .i64 x.Dim_Num, .s x.Dim_Unit, .l 52 x.Subs]
def dec52 (ds : List (D T)) : Option (S52) := match ds with
  | [.i .i64 x0, .i .i64 x1, .s x2, d3] => (dl 52 d3).bind fun l3 => some ⟨x0, x1, x2, l3⟩
  | _ => none
theorem dec52_ok {ds : List (D T)} {x : S52} (h : dec52 ds = some x) : leDs ds (enc52 x) := by
  unfold dec52 at h
  split at h
  · obtain ⟨l3, h3, h⟩ := Option.bind_eq_some_iff.1 h
    cases h
    exact .cons (.refl _) <| .cons (.refl _) <| .cons (.refl _) <| .cons (dl_le h3) <| .nil
  · cases h
def enc106 (x : S106) : List (D T) := [.i .i64 x.Kind, .s x.Raw, .s x.Value, .i .i64 x.Num]
def dec106 (ds : List (D T)) : Option (S106) := match ds with
  | [.i .i64 x0, .s x1, .s x2, .i .i64 x3] => some ⟨x0, x1, x2, x3⟩
  | _ => none
theorem dec106_ok {ds : List (D T)} {x : S106} (h : dec106 ds = some x) : leDs ds (enc106 x) := by
  unfold dec106 at h
  split at h
  · cases h
    exact .cons (.refl _) <| .cons (.refl _) <| .cons (.refl _) <| .cons (.refl _) <| .nil
  · cases h
def enc92 (x : S92) : List (D T) := [.l 106 x.l, .i .i64 x.n, .b x.gapped]
def dec92 (ds : List (D T)) : Option (S92) := match ds with
  | [d0, .i .i64 x1, .b x2] => (dl 106 d0).bind fun l0 => some ⟨l0, x1, x2⟩
  | _ => none
theorem dec92_ok {ds : List (D T)} {x : S92} (h : dec92 ds = some x) : leDs ds (enc92 x) := by
  unfold dec92 at h
  split at h
  · obtain ⟨l0, h0, h⟩ := Option.bind_eq_some_iff.1 h
    cases h
    exact .cons (dl_le h0) <| .cons (.refl _) <| .cons (.refl _) <| .nil
  · cases h
def enc : (t : TypeId) → T t → List (D T)
  | 5, x => enc5 x
  | 9, x => enc9 x
  | 52, x => enc52 x
  | 106, x => enc106 x
  | 92, x => enc92 x
  | _, _ => []
def dec (t : TypeId) (ds : List (D T)) : Option (T t) := if h : t = 5 then (h ▸ (dec5 ds : Option (T 5))) else if h : t = 9 then (h ▸ (dec9 ds : Option (T 9))) else if h : t = 52 then (h ▸ (dec52 ds : Option (T 52))) else if h : t = 106 then (h ▸ (dec106 ds : Option (T 106))) else if h : t = 92 then (h ▸ (dec92 ds : Option (T 92))) else none
theorem dec_ok (t : TypeId) (ds : List (D T)) (x : T t) (h : dec t ds = some x) : leDs ds (enc t x) := by
  unfold dec at h
  by_cases h5 : t = 5
  · subst h5; exact dec5_ok (show dec5 ds = some x from h)
  rw [dif_neg h5] at h
  by_cases h9 : t = 9
  · subst h9; exact dec9_ok (show dec9 ds = some x from h)
  rw [dif_neg h9] at h
  by_cases h52 : t = 52
  · subst h52; exact dec52_ok (show dec52 ds = some x from h)
  rw [dif_neg h52] at h
  by_cases h106 : t = 106
  · subst h106; exact dec106_ok (show dec106 ds = some x from h)
  rw [dif_neg h106] at h
  by_cases h92 : t = 92
  · subst h92; exact dec92_ok (show dec92 ds = some x from h)
  rw [dif_neg h92] at h
  cases h
def knl : List TypeId := [5, 9, 52, 106, 92]

def ofB : (t : TypeId) → List UInt8 → List (T t)
  | 5, l => bytesI l
  | _, _ => []
def toB : (t : TypeId) → List (T t) → List UInt8
  | 5, l => bytesU l
  | _, _ => []
def cod : Cod T := ⟨fun t => knl.any (·.beq t), enc, dec, dflt, ofB, toB⟩
def g1_0 : List (List UInt8) := [[], [112, 120], [101, 109], [114, 101, 109], [118, 119], [118, 104], [37]]
def gv : Nat → Option (List (D T))
  | 1 => some [.l 9 g1_0]
  | _ => none
def eql : List TypeId := [49]
def hdl : List FuncId := []
def cfg (w0 : World) (t : Tab T) : Cfg T := ⟨Tryd.prog, cod, t, fun t => eql.any (·.beq t), w0, gv, 83, 5, fun f => hdl.any (·.beq f)⟩
def F50 (c : Cfg T) : V T → List (V T) → List (Obj T) → Option (List (Obj T)) := runF c Tryd.f50.ntmps 2 5 (seqR (bodyOf Tryd.f50))
/-- What is asked of the first world. -/
structure Wd (w0 : World) : Prop where
  gv : GvOk (cfg w0 noTab)
  mx : NumAt w0 (Sh.ren143.g 1)
  pw : Lib.TabIs Tryd.prog w0 "internal/strconv.uint64pow10" .u64 Lib.pow10Tab

theorem mem_of {l : List TypeId} {t : TypeId} (h : l.any (·.beq t) = true) : t ∈ l := by
  rw [List.any_eq_true] at h
  obtain ⟨x, hx, hb⟩ := h
  rw [← Nat.eq_of_beq_eq_true hb]; exact hx
theorem len5 : 1 = Tryd.prog.cellsOf 5 := by kernel_rfl
theorem len9 : 1 = Tryd.prog.cellsOf 9 := by kernel_rfl
theorem u8_9 : isU8 Tryd.prog 9 = false := by kernel_rfl
theorem len52 : 4 = Tryd.prog.cellsOf 52 := by kernel_rfl
theorem u8_52 : isU8 Tryd.prog 52 = false := by kernel_rfl
theorem fl52 : flatT Tryd.prog 20 52 = false := by kernel_rfl
theorem len106 : 4 = Tryd.prog.cellsOf 106 := by kernel_rfl
theorem u8_106 : isU8 Tryd.prog 106 = false := by kernel_rfl
theorem len92 : 3 = Tryd.prog.cellsOf 92 := by kernel_rfl
theorem u8_92 : isU8 Tryd.prog 92 = false := by kernel_rfl
theorem fl92 : flatT Tryd.prog 20 92 = false := by kernel_rfl
theorem eqk49 : Tryd.prog.stoodInHeld 49 = false ∧ Tryd.prog.eqGuardType Tryd.prog.depth 49 = false := ⟨by kernel_rfl, by kernel_rfl⟩
theorem zr5 : zeroShape Tryd.prog 5 = true ∧ ∃ ds, zeroCells (T := T) Tryd.prog 5 = some (ofDs ds) ∧ leDs ds (enc5 (0 : Int)) := ⟨by kernel_rfl, [.i .u8 (0 : Int)], by kernel_rfl, .cons (.refl _) <| .nil⟩
theorem zr9 : zeroShape Tryd.prog 9 = true ∧ ∃ ds, zeroCells (T := T) Tryd.prog 9 = some (ofDs ds) ∧ leDs ds (enc9 []) := ⟨by kernel_rfl, [.s ([])], by kernel_rfl, .cons (.refl _) <| .nil⟩
theorem zr52 : zeroShape Tryd.prog 52 = true ∧ ∃ ds, zeroCells (T := T) Tryd.prog 52 = some (ofDs ds) ∧ leDs ds (enc52 S52.d) := ⟨by kernel_rfl, [.i .i64 (0 : Int), .i .i64 (0 : Int), .s ([]), .ns], by kernel_rfl, .cons (.refl _) <| .cons (.refl _) <| .cons (.refl _) <| .cons (.ns _) <| .nil⟩
theorem zr106 : zeroShape Tryd.prog 106 = true ∧ ∃ ds, zeroCells (T := T) Tryd.prog 106 = some (ofDs ds) ∧ leDs ds (enc106 S106.d) := ⟨by kernel_rfl, [.i .i64 (0 : Int), .s ([]), .s ([]), .i .i64 (0 : Int)], by kernel_rfl, .cons (.refl _) <| .cons (.refl _) <| .cons (.refl _) <| .cons (.refl _) <| .nil⟩
theorem zr92 : zeroShape Tryd.prog 92 = true ∧ ∃ ds, zeroCells (T := T) Tryd.prog 92 = some (ofDs ds) ∧ leDs ds (enc92 S92.d) := ⟨by kernel_rfl, [.ns, .i .i64 (0 : Int), .b false], by kernel_rfl, .cons (.ns _) <| .cons (.refl _) <| .cons (.refl _) <| .nil⟩
theorem fl : Tryd.prog.follows .mixedOrders = true := by kernel_rfl
theorem bytesOk (w0 : World) (t : Tab T) : BytesOk (cfg w0 t) := fun e h1 h2 => by
  have hm := mem_of (l := knl) h2
  simp only [knl, List.mem_cons, List.not_mem_nil, or_false] at hm
  rcases hm with rfl | rfl | rfl | rfl | rfl
  · exact ⟨fun l => by induction l with
      | nil => rfl
      | cons b l ih => exact congrArg (List.cons _) ih, fun xs => ⟨xs, rfl, rfl⟩⟩
  · exact absurd h1 (by rw [show isU8 (cfg w0 _).P 9 = false from u8_9]; exact Bool.false_ne_true)
  · exact absurd h1 (by rw [show isU8 (cfg w0 _).P 52 = false from u8_52]; exact Bool.false_ne_true)
  · exact absurd h1 (by rw [show isU8 (cfg w0 _).P 106 = false from u8_106]; exact Bool.false_ne_true)
  · exact absurd h1 (by rw [show isU8 (cfg w0 _).P 92 = false from u8_92]; exact Bool.false_ne_true)
theorem fine (w0 : World) (hw : Wd w0) (t : Tab T) (h : CfOk (cfg w0 t)) : Fine (cfg w0 t) where
  gv := hw.gv
  bytes := bytesOk w0 t
  cod := by
    refine ⟨fun t ht x => ?_, fun t ds x h => ?_⟩
    · have hm := mem_of (l := knl) ht
      simp only [knl, List.mem_cons, List.not_mem_nil, or_false] at hm
      rcases hm with rfl | rfl | rfl | rfl | rfl
      · exact len5
      · exact len9
      · exact len52
      · exact len106
      · exact len92
    · exact dec_ok t ds x h
  zero := fun t ht => by
    have hm := mem_of (l := knl) ht
    simp only [knl, List.mem_cons, List.not_mem_nil, or_false] at hm
    rcases hm with rfl | rfl | rfl | rfl | rfl
    · exact zr5
    · exact zr9
    · exact zr52
    · exact zr106
    · exact zr92
  eqk := fun t h => by
    have hm := mem_of (l := eql) h
    simp only [eql, List.mem_cons, List.not_mem_nil, or_false] at hm
    rcases hm with rfl
    · exact eqk49
  flat := fun t hf hk x d hd => by
    have hm := mem_of (l := knl) hk
    simp only [knl, List.mem_cons, List.not_mem_nil, or_false] at hm
    rcases hm with rfl | rfl | rfl | rfl | rfl
    · have hd : d ∈ enc5 x := hd
      simp only [enc5, List.mem_cons, List.not_mem_nil, or_false] at hd
      rcases hd with rfl <;> rfl
    · have hd : d ∈ enc9 x := hd
      simp only [enc9, List.mem_cons, List.not_mem_nil, or_false] at hd
      rcases hd with rfl <;> rfl
    · exact absurd hf (by rw [show flatT (cfg w0 _).P 20 52 = false from fl52]; exact Bool.false_ne_true)
    · have hd : d ∈ enc106 x := hd
      simp only [enc106, List.mem_cons, List.not_mem_nil, or_false] at hd
      rcases hd with rfl | rfl | rfl | rfl <;> rfl
    · exact absurd hf (by rw [show flatT (cfg w0 _).P 20 92 = false from fl92]; exact Bool.false_ne_true)
  cf := h
theorem dr (w0 : World) (hw : Wd w0) (t : Tab T) (h : CfOk (cfg w0 t)) : DrawOk (cfg w0 t) := drawOk_ok (fine w0 hw t h) fl
def F50.id : Nat := 0
def F50.y1 : TypeId := 20
def F50.y2 : TypeId := 20
def F50.p1 : String := "calc.go:200"
def F50.p2 : String := "calc.go:200"
def F50.e1 : Array Edge := #[]
def F50.e2 : Array Edge := #[⟨0, .data⟩, ⟨0, .chain⟩, ⟨0, .phase⟩]
theorem idle50 (w0 : World) (hw : Wd w0) (t : Tab T) (h : CfOk (cfg w0 t)) : Idle (cfg w0 t) 50 2 :=
  idle_ok (fine w0 hw t h) (dr w0 hw t h) (id := F50.id) (ty1 := F50.y1) (ty2 := F50.y2) (p1 := F50.p1) (p2 := F50.p2) (e1 := F50.e1) (e2 := F50.e2) (rest := seqR (bodyOf Tryd.f50)) (t5 := 5) (t2 := 2) Tryd.func50 (by kernel_rfl) (by kernel_rfl) (Nat.le_of_ble_eq_true rfl) (Nat.le_of_ble_eq_true rfl) 2 (fun vs H => by kernel_rfl)
theorem cat50 (w0 : World) (hw : Wd w0) (t : Tab T) (h : CfOk (cfg w0 t)) : Catch (cfg w0 t) 50 (F50 (cfg w0 t)) :=
  catch_ok (fine w0 hw t h) (dr w0 hw t h) (id := F50.id) (ty1 := F50.y1) (ty2 := F50.y2) (p1 := F50.p1) (p2 := F50.p2) (e1 := F50.e1) (e2 := F50.e2) (rest := seqR (bodyOf Tryd.f50)) (t5 := 5) (t2 := 2) Tryd.func50 (by kernel_rfl) (by kernel_rfl) (Nat.le_of_ble_eq_true rfl) (Nat.le_of_ble_eq_true rfl) runF_ok
def io0 : Io T ((List UInt8) × (List UInt8)) where
  enc v := ([.d (.s v.1), .d (.s v.2)], [])
  pat
    | ([.d (.s p1), .d (.s p2)], []) => some (p1, p2)
    | _ => none
  ok z v h := by
    split at h
    · cases h
      all_goals rfl
    · cases h
def io1 : Io T (List UInt8) where
  enc v := ([.d (.s v)], [])
  pat
    | ([.d (.s p1)], []) => some p1
    | _ => none
  ok z v h := by
    split at h
    · cases h
      all_goals rfl
    · cases h
def io2 : Io T (Bool) where
  enc v := ([.d (.b v)], [])
  pat
    | ([.d (.b p1)], []) => some p1
    | _ => none
  ok z v h := by
    split at h
    · cases h
      all_goals rfl
    · cases h
def io3 : Io T ((List UInt8) × Bool) where
  enc v := ([.d (.s v.1), .d (.b v.2)], [])
  pat
    | ([.d (.s p1), .d (.b p2)], []) => some (p1, p2)
    | _ => none
  ok z v h := by
    split at h
    · cases h
      all_goals rfl
    · cases h
def io4 : Io T (Int) where
  enc v := ([.d (.i .i64 v)], [])
  pat
    | ([.d (.i .i64 p1)], []) => some p1
    | _ => none
  ok z v h := by
    split at h
    · cases h
      all_goals rfl
    · cases h
def io5 : Io T (List UInt8) where
  enc v := ([.bp 0], [.bl v])
  pat
    | ([.bp 0], [.bl p1]) => some p1
    | _ => none
  ok z v h := by
    split at h
    · cases h
      all_goals rfl
    · cases h
def io6 : Io T ((List UInt8) × (List UInt8)) where
  enc v := ([.d (.s v.1)], [.bl v.2])
  pat
    | ([.d (.s p1)], [.bl p2]) => some (p1, p2)
    | _ => none
  ok z v h := by
    split at h
    · cases h
      all_goals rfl
    · cases h
def io7 : Io T (Int × (List UInt8)) where
  enc v := ([.bp 0, .d (.i .u8 v.1)], [.bl v.2])
  pat
    | ([.bp 0, .d (.i .u8 p1)], [.bl p2]) => some (p1, p2)
    | _ => none
  ok z v h := by
    split at h
    · cases h
      all_goals rfl
    · cases h
def io8 : Io T (List UInt8) where
  enc v := ([.d .ni], [.bl v])
  pat
    | ([.d .ni], [.bl p1]) => some p1
    | _ => none
  ok z v h := by
    split at h
    · cases h
      all_goals rfl
    · cases h
def io9 : Io T (Int × (List UInt8) × (List UInt8) × Int) where
  enc v := ([.agg [.d (.i .i64 v.1), .d (.s v.2.1), .d (.s v.2.2.1), .d (.i .i64 v.2.2.2)]], [])
  pat
    | ([.agg [.d (.i .i64 p1), .d (.s p2), .d (.s p3), .d (.i .i64 p4)]], []) => some (p1, p2, p3, p4)
    | _ => none
  ok z v h := by
    split at h
    · cases h
      all_goals rfl
    · cases h
def io10 : Io T ((List UInt8) × Int × Int × (List UInt8) × (List UInt8) × Int × (List UInt8)) where
  enc v := ([.d (.s v.1), .ptr 0 0, .bp 1, .d (.i .i64 v.2.1)], [.box [.d (.i .i64 v.2.2.1), .d (.s v.2.2.2.1), .d (.s v.2.2.2.2.1), .d (.i .i64 v.2.2.2.2.2.1)], .bl v.2.2.2.2.2.2])
  pat
    | ([.d (.s p1), .ptr 0 0, .bp 1, .d (.i .i64 p2)], [.box [.d (.i .i64 p3), .d (.s p4), .d (.s p5), .d (.i .i64 p6)], .bl p7]) => some (p1, p2, p3, p4, p5, p6, p7)
    | _ => none
  ok z v h := by
    split at h
    · cases h
      all_goals rfl
    · cases h
def io11 : Io T ((List UInt8) × Int × (List UInt8) × (List UInt8) × Int) where
  enc v := ([.d (.s v.1), .ptr 0 0], [.box [.d (.i .i64 v.2.1), .d (.s v.2.2.1), .d (.s v.2.2.2.1), .d (.i .i64 v.2.2.2.2)]])
  pat
    | ([.d (.s p1), .ptr 0 0], [.box [.d (.i .i64 p2), .d (.s p3), .d (.s p4), .d (.i .i64 p5)]]) => some (p1, p2, p3, p4, p5)
    | _ => none
  ok z v h := by
    split at h
    · cases h
      all_goals rfl
    · cases h
def io12 : Io T (Int) where
  enc v := ([.d (.i .u8 v)], [])
  pat
    | ([.d (.i .u8 p1)], []) => some p1
    | _ => none
  ok z v h := by
    split at h
    · cases h
      all_goals rfl
    · cases h
def io13 : Io T ((List UInt8) × Int) where
  enc v := ([.d (.s v.1), .d (.i .i64 v.2)], [])
  pat
    | ([.d (.s p1), .d (.i .i64 p2)], []) => some (p1, p2)
    | _ => none
  ok z v h := by
    split at h
    · cases h
      all_goals rfl
    · cases h
def io14 : Io T ((List UInt8) × Int × (List UInt8)) where
  enc v := ([.d (.s v.1), .bp 0, .d (.i .i64 v.2.1)], [.bl v.2.2])
  pat
    | ([.d (.s p1), .bp 0, .d (.i .i64 p2)], [.bl p3]) => some (p1, p2, p3)
    | _ => none
  ok z v h := by
    split at h
    · cases h
      all_goals rfl
    · cases h
def io15 : Io T (Int × (List UInt8)) where
  enc v := ([.bp 0, .d (.i .i64 v.1)], [.bl v.2])
  pat
    | ([.bp 0, .d (.i .i64 p1)], [.bl p2]) => some (p1, p2)
    | _ => none
  ok z v h := by
    split at h
    · cases h
      all_goals rfl
    · cases h
def io16 : Io T (Int × (List UInt8) × Int) where
  enc v := ([.d (.i .i64 v.1), .d (.s v.2.1), .d (.i .i64 v.2.2)], [])
  pat
    | ([.d (.i .i64 p1), .d (.s p2), .d (.i .i64 p3)], []) => some (p1, p2, p3)
    | _ => none
  ok z v h := by
    split at h
    · cases h
      all_goals rfl
    · cases h
def io17 : Io T (Int × Int) where
  enc v := ([.d (.i .u8 v.1), .ptr 0 0], [.box [.d (.i .i64 v.2)]])
  pat
    | ([.d (.i .u8 p1), .ptr 0 0], [.box [.d (.i .i64 p2)]]) => some (p1, p2)
    | _ => none
  ok z v h := by
    split at h
    · cases h
      all_goals rfl
    · cases h
def io18 : Io T (Int) where
  enc v := ([], [.box [.d (.i .i64 v)]])
  pat
    | ([], [.box [.d (.i .i64 p1)]]) => some p1
    | _ => none
  ok z v h := by
    split at h
    · cases h
      all_goals rfl
    · cases h
def io19 : Io T (Int × Int) where
  enc v := ([.d (.i .i64 v.1), .d (.i .i64 v.2)], [])
  pat
    | ([.d (.i .i64 p1), .d (.i .i64 p2)], []) => some (p1, p2)
    | _ => none
  ok z v h := by
    split at h
    · cases h
      all_goals rfl
    · cases h
def io20 : Io T ((List UInt8) × Int × Int × Int × Int × Int × Int × (List Int)) where
  enc v := ([.d (.s v.1), .d (.i .i64 v.2.1), .d (.i .i64 v.2.2.1), .d (.i .i64 v.2.2.2.1), .ptr 0 0, .fn 170 [.ptr 0 0], .sl 1 none, .d (.i .i64 v.2.2.2.2.1), .d (.i .i64 v.2.2.2.2.2.1)], [.box [.d (.i .i64 v.2.2.2.2.2.2.1)], .arr 5 v.2.2.2.2.2.2.2])
  pat
    | ([.d (.s p1), .d (.i .i64 p2), .d (.i .i64 p3), .d (.i .i64 p4), .ptr 0 0, .fn 170 [.ptr 0 0], .sl 1 none, .d (.i .i64 p5), .d (.i .i64 p6)], [.box [.d (.i .i64 p7)], .arr tp8 p8]) => (asT 5 tp8 p8).bind fun q8 => some (p1, p2, p3, p4, p5, p6, p7, q8)
    | _ => none
  ok z v h := by
    split at h
    · obtain ⟨q8, hp8, h⟩ := Option.bind_eq_some_iff.1 h
      cases h
      rw [asT_a hp8]
      all_goals rfl
    · cases h
def io21 : Io T ((List UInt8) × Int × Int × Int × Int) where
  enc v := ([.d (.s v.1), .d (.i .i64 v.2.1), .d (.i .i64 v.2.2.1), .d (.i .i64 v.2.2.2.1), .ptr 0 0, .fn 170 [.ptr 0 0]], [.box [.d (.i .i64 v.2.2.2.2)]])
  pat
    | ([.d (.s p1), .d (.i .i64 p2), .d (.i .i64 p3), .d (.i .i64 p4), .ptr 0 0, .fn 170 [.ptr 0 0]], [.box [.d (.i .i64 p5)]]) => some (p1, p2, p3, p4, p5)
    | _ => none
  ok z v h := by
    split at h
    · cases h
      all_goals rfl
    · cases h
def io22 : Io T ((List UInt8) × Int × (List UInt8) × Int × Int) where
  enc v := ([.d (.s v.1), .ptr 0 0, .fn 170 [.ptr 0 0], .d (.i .i64 v.2.1), .d (.s v.2.2.1), .d (.i .i64 v.2.2.2.1)], [.box [.d (.i .i64 v.2.2.2.2)]])
  pat
    | ([.d (.s p1), .ptr 0 0, .fn 170 [.ptr 0 0], .d (.i .i64 p2), .d (.s p3), .d (.i .i64 p4)], [.box [.d (.i .i64 p5)]]) => some (p1, p2, p3, p4, p5)
    | _ => none
  ok z v h := by
    split at h
    · cases h
      all_goals rfl
    · cases h
def io23 : Io T ((List UInt8) × Int × Int) where
  enc v := ([.d (.s v.1), .ptr 0 0, .d (.i .i64 v.2.1)], [.box [.d (.i .i64 v.2.2)]])
  pat
    | ([.d (.s p1), .ptr 0 0, .d (.i .i64 p2)], [.box [.d (.i .i64 p3)]]) => some (p1, p2, p3)
    | _ => none
  ok z v h := by
    split at h
    · cases h
      all_goals rfl
    · cases h
def io24 : Io T (Int × Int) where
  enc v := ([.ptr 0 0, .d (.i .i64 v.1)], [.box [.d (.i .i64 v.2)]])
  pat
    | ([.ptr 0 0, .d (.i .i64 p1)], [.box [.d (.i .i64 p2)]]) => some (p1, p2)
    | _ => none
  ok z v h := by
    split at h
    · cases h
      all_goals rfl
    · cases h
def io25 : Io T ((List UInt8) × Int × (List UInt8) × Int) where
  enc v := ([.d (.s v.1), .ptr 0 0, .fn 170 [.ptr 0 0], .d (.i .i64 v.2.1), .d (.s v.2.2.1)], [.box [.d (.i .i64 v.2.2.2)]])
  pat
    | ([.d (.s p1), .ptr 0 0, .fn 170 [.ptr 0 0], .d (.i .i64 p2), .d (.s p3)], [.box [.d (.i .i64 p4)]]) => some (p1, p2, p3, p4)
    | _ => none
  ok z v h := by
    split at h
    · cases h
      all_goals rfl
    · cases h
def io26 : Io T ((List UInt8) × Int × Int × Int) where
  enc v := ([.d (.s v.1), .d (.i .i64 v.2.1), .d (.i .i64 v.2.2.1), .d (.i .i64 v.2.2.2)], [])
  pat
    | ([.d (.s p1), .d (.i .i64 p2), .d (.i .i64 p3), .d (.i .i64 p4)], []) => some (p1, p2, p3, p4)
    | _ => none
  ok z v h := by
    split at h
    · cases h
      all_goals rfl
    · cases h
def io27 : Io T (Int × Int × (List Int)) where
  enc v := ([.sl 0 none, .sl 0 none, .d (.i .i64 v.1), .d (.i .i64 v.2.1)], [.arr 5 v.2.2])
  pat
    | ([.sl 0 none, .sl 0 none, .d (.i .i64 p1), .d (.i .i64 p2)], [.arr tp3 p3]) => (asT 5 tp3 p3).bind fun q3 => some (p1, p2, q3)
    | _ => none
  ok z v h := by
    split at h
    · obtain ⟨q3, hp3, h⟩ := Option.bind_eq_some_iff.1 h
      cases h
      rw [asT_a hp3]
      all_goals rfl
    · cases h
def io28 : Io T (List Int) where
  enc v := ([.sl 0 none], [.arr 5 v])
  pat
    | ([.sl 0 none], [.arr tp1 p1]) => (asT 5 tp1 p1).bind fun q1 => some q1
    | _ => none
  ok z v h := by
    split at h
    · obtain ⟨q1, hp1, h⟩ := Option.bind_eq_some_iff.1 h
      cases h
      rw [asT_a hp1]
      all_goals rfl
    · cases h
def io29 : Io T ((List UInt8) × Int × Int) where
  enc v := ([.d (.s v.1), .d (.i .i64 v.2.1), .d (.i .i64 v.2.2)], [])
  pat
    | ([.d (.s p1), .d (.i .i64 p2), .d (.i .i64 p3)], []) => some (p1, p2, p3)
    | _ => none
  ok z v h := by
    split at h
    · cases h
      all_goals rfl
    · cases h
def io30 : Io T (Int × (List UInt8) × (List UInt8) × Int × Int × (List UInt8) × (List UInt8) × Int) where
  enc v := ([.ptr 0 0, .ptr 1 0], [.box [.d (.i .i64 v.1), .d (.s v.2.1), .d (.s v.2.2.1), .d (.i .i64 v.2.2.2.1)], .box [.d (.i .i64 v.2.2.2.2.1), .d (.s v.2.2.2.2.2.1), .d (.s v.2.2.2.2.2.2.1), .d (.i .i64 v.2.2.2.2.2.2.2)]])
  pat
    | ([.ptr 0 0, .ptr 1 0], [.box [.d (.i .i64 p1), .d (.s p2), .d (.s p3), .d (.i .i64 p4)], .box [.d (.i .i64 p5), .d (.s p6), .d (.s p7), .d (.i .i64 p8)]]) => some (p1, p2, p3, p4, p5, p6, p7, p8)
    | _ => none
  ok z v h := by
    split at h
    · cases h
      all_goals rfl
    · cases h
def io31 : Io T (Int × (List UInt8)) where
  enc v := ([.d (.i .i64 v.1), .ptr 0 0], [.box [.d (.s v.2)]])
  pat
    | ([.d (.i .i64 p1), .ptr 0 0], [.box [.d (.s p2)]]) => some (p1, p2)
    | _ => none
  ok z v h := by
    split at h
    · cases h
      all_goals rfl
    · cases h
def io32 : Io T (Int × (List UInt8) × (List UInt8) × Int × (List UInt8)) where
  enc v := ([.agg [.d (.i .i64 v.1), .d (.s v.2.1), .d (.s v.2.2.1), .d (.i .i64 v.2.2.2.1)]], [.box [.d (.s v.2.2.2.2)]])
  pat
    | ([.agg [.d (.i .i64 p1), .d (.s p2), .d (.s p3), .d (.i .i64 p4)]], [.box [.d (.s p5)]]) => some (p1, p2, p3, p4, p5)
    | _ => none
  ok z v h := by
    split at h
    · cases h
      all_goals rfl
    · cases h
def io33 : Io T ((List UInt8) × Int × (List UInt8) × (List UInt8) × Int) where
  enc v := ([.ptr 0 0, .ptr 1 0], [.box [.d (.s v.1)], .box [.d (.i .i64 v.2.1), .d (.s v.2.2.1), .d (.s v.2.2.2.1), .d (.i .i64 v.2.2.2.2)]])
  pat
    | ([.ptr 0 0, .ptr 1 0], [.box [.d (.s p1)], .box [.d (.i .i64 p2), .d (.s p3), .d (.s p4), .d (.i .i64 p5)]]) => some (p1, p2, p3, p4, p5)
    | _ => none
  ok z v h := by
    split at h
    · cases h
      all_goals rfl
    · cases h
def io34 : Io T (Int × (List UInt8) × (List UInt8) × Int × (List UInt8)) where
  enc v := ([.ptr 0 0, .fn 116 [.ptr 1 0]], [.box [.d (.i .i64 v.1), .d (.s v.2.1), .d (.s v.2.2.1), .d (.i .i64 v.2.2.2.1)], .box [.d (.s v.2.2.2.2)]])
  pat
    | ([.ptr 0 0, .fn 116 [.ptr 1 0]], [.box [.d (.i .i64 p1), .d (.s p2), .d (.s p3), .d (.i .i64 p4)], .box [.d (.s p5)]]) => some (p1, p2, p3, p4, p5)
    | _ => none
  ok z v h := by
    split at h
    · cases h
      all_goals rfl
    · cases h
def io35 : Io T (List S106) where
  enc v := ([.sl 0 none], [.arr 106 v])
  pat
    | ([.sl 0 none], [.arr tp1 p1]) => (asT 106 tp1 p1).bind fun q1 => some q1
    | _ => none
  ok z v h := by
    split at h
    · obtain ⟨q1, hp1, h⟩ := Option.bind_eq_some_iff.1 h
      cases h
      rw [asT_a hp1]
      all_goals rfl
    · cases h
def io36 : Io T ((List UInt8) × (List S106)) where
  enc v := ([.d (.s v.1), .sl 0 none], [.arr 106 v.2])
  pat
    | ([.d (.s p1), .sl 0 none], [.arr tp2 p2]) => (asT 106 tp2 p2).bind fun q2 => some (p1, q2)
    | _ => none
  ok z v h := by
    split at h
    · obtain ⟨q2, hp2, h⟩ := Option.bind_eq_some_iff.1 h
      cases h
      rw [asT_a hp2]
      all_goals rfl
    · cases h
def io37 : Io T (Int × Bool × (List S106)) where
  enc v := ([.ptr 0 0], [.box [.sl 1 none, .d (.i .i64 v.1), .d (.b v.2.1)], .arr 106 v.2.2])
  pat
    | ([.ptr 0 0], [.box [.sl 1 none, .d (.i .i64 p1), .d (.b p2)], .arr tp3 p3]) => (asT 106 tp3 p3).bind fun q3 => some (p1, p2, q3)
    | _ => none
  ok z v h := by
    split at h
    · obtain ⟨q3, hp3, h⟩ := Option.bind_eq_some_iff.1 h
      cases h
      rw [asT_a hp3]
      all_goals rfl
    · cases h
def io38 : Io T (Bool × (List S106) × Int × Bool) where
  enc v := ([.d (.b v.1)], [.box [.d (.l 106 v.2.1), .d (.i .i64 v.2.2.1), .d (.b v.2.2.2)], .dead])
  pat
    | ([.d (.b p1)], [.box [.d (.l tp2 p2), .d (.i .i64 p3), .d (.b p4)], .dead]) => (asT 106 tp2 p2).bind fun q2 => some (p1, q2, p3, p4)
    | _ => none
  ok z v h := by
    split at h
    · obtain ⟨q2, hp2, h⟩ := Option.bind_eq_some_iff.1 h
      cases h
      rw [asT_l hp2]
      all_goals rfl
    · cases h
def io39 : Io T (Int × (List S106) × Int × Bool) where
  enc v := ([.ptr 0 0, .d (.i .i64 v.1)], [.box [.d (.l 106 v.2.1), .d (.i .i64 v.2.2.1), .d (.b v.2.2.2)], .dead])
  pat
    | ([.ptr 0 0, .d (.i .i64 p1)], [.box [.d (.l tp2 p2), .d (.i .i64 p3), .d (.b p4)], .dead]) => (asT 106 tp2 p2).bind fun q2 => some (p1, q2, p3, p4)
    | _ => none
  ok z v h := by
    split at h
    · obtain ⟨q2, hp2, h⟩ := Option.bind_eq_some_iff.1 h
      cases h
      rw [asT_l hp2]
      all_goals rfl
    · cases h
def io40 : Io T (Bool × (List S106) × Int × Bool) where
  enc v := ([.ptr 0 0, .d (.b v.1)], [.box [.d (.l 106 v.2.1), .d (.i .i64 v.2.2.1), .d (.b v.2.2.2)]])
  pat
    | ([.ptr 0 0, .d (.b p1)], [.box [.d (.l tp2 p2), .d (.i .i64 p3), .d (.b p4)]]) => (asT 106 tp2 p2).bind fun q2 => some (p1, q2, p3, p4)
    | _ => none
  ok z v h := by
    split at h
    · obtain ⟨q2, hp2, h⟩ := Option.bind_eq_some_iff.1 h
      cases h
      rw [asT_l hp2]
      all_goals rfl
    · cases h
def io41 : Io T ((List S106) × Int × Bool) where
  enc v := ([], [.box [.d (.l 106 v.1), .d (.i .i64 v.2.1), .d (.b v.2.2)]])
  pat
    | ([], [.box [.d (.l tp1 p1), .d (.i .i64 p2), .d (.b p3)]]) => (asT 106 tp1 p1).bind fun q1 => some (q1, p2, p3)
    | _ => none
  ok z v h := by
    split at h
    · obtain ⟨q1, hp1, h⟩ := Option.bind_eq_some_iff.1 h
      cases h
      rw [asT_l hp1]
      all_goals rfl
    · cases h
def io42 : Io T ((List (List UInt8)) × (List UInt8)) where
  enc v := ([.d (.l 9 v.1), .d (.s v.2)], [])
  pat
    | ([.d (.l tp1 p1), .d (.s p2)], []) => (asT 9 tp1 p1).bind fun q1 => some (q1, p2)
    | _ => none
  ok z v h := by
    split at h
    · obtain ⟨q1, hp1, h⟩ := Option.bind_eq_some_iff.1 h
      cases h
      rw [asT_l hp1]
      all_goals rfl
    · cases h
def io43 : Io T ((List (List UInt8)) × (List UInt8) × Int × Int) where
  enc v := ([.d (.l 9 v.1), .d (.s v.2.1), .d (.i .i64 v.2.2.1), .d (.i .i64 v.2.2.2)], [])
  pat
    | ([.d (.l tp1 p1), .d (.s p2), .d (.i .i64 p3), .d (.i .i64 p4)], []) => (asT 9 tp1 p1).bind fun q1 => some (q1, p2, p3, p4)
    | _ => none
  ok z v h := by
    split at h
    · obtain ⟨q1, hp1, h⟩ := Option.bind_eq_some_iff.1 h
      cases h
      rw [asT_l hp1]
      all_goals rfl
    · cases h
def io44 : Io T (Unit) where
  enc v := ([], [])
  pat
    | ([], []) => some ()
    | _ => none
  ok z v h := by
    split at h <;> cases h; rfl
def io45 : Io T (Int × (List UInt8) × Int) where
  enc v := ([.agg [.d (.i .i64 v.1), .d (.s v.2.1)], .d (.i .i64 v.2.2)], [])
  pat
    | ([.agg [.d (.i .i64 p1), .d (.s p2)], .d (.i .i64 p3)], []) => some (p1, p2, p3)
    | _ => none
  ok z v h := by
    split at h
    · cases h
      all_goals rfl
    · cases h
def io46 : Io T (Int × Int × (List UInt8) × (List S106) × Int × Bool) where
  enc v := ([.ptr 0 0, .agg [.d (.i .i64 v.1), .d (.i .i64 v.2.1), .d (.s v.2.2.1), .d .ns]], [.box [.d (.l 106 v.2.2.2.1), .d (.i .i64 v.2.2.2.2.1), .d (.b v.2.2.2.2.2)]])
  pat
    | ([.ptr 0 0, .agg [.d (.i .i64 p1), .d (.i .i64 p2), .d (.s p3), .d .ns]], [.box [.d (.l tp4 p4), .d (.i .i64 p5), .d (.b p6)]]) => (asT 106 tp4 p4).bind fun q4 => some (p1, p2, p3, q4, p5, p6)
    | _ => none
  ok z v h := by
    split at h
    · obtain ⟨q4, hp4, h⟩ := Option.bind_eq_some_iff.1 h
      cases h
      rw [asT_l hp4]
      all_goals rfl
    · cases h
def io47 : Io T (Int × Int × (List UInt8) × (List S106) × Int × Bool) where
  enc v := ([.agg [.d (.i .i64 v.1), .d (.i .i64 v.2.1), .d (.s v.2.2.1), .d .ns]], [.box [.d (.l 106 v.2.2.2.1), .d (.i .i64 v.2.2.2.2.1), .d (.b v.2.2.2.2.2)]])
  pat
    | ([.agg [.d (.i .i64 p1), .d (.i .i64 p2), .d (.s p3), .d .ns]], [.box [.d (.l tp4 p4), .d (.i .i64 p5), .d (.b p6)]]) => (asT 106 tp4 p4).bind fun q4 => some (p1, p2, p3, q4, p5, p6)
    | _ => none
  ok z v h := by
    split at h
    · obtain ⟨q4, hp4, h⟩ := Option.bind_eq_some_iff.1 h
      cases h
      rw [asT_l hp4]
      all_goals rfl
    · cases h
def io48 : Io T ((List S106) × Int × Bool × Int × Int × (List UInt8) × Int × Int × (List UInt8)) where
  enc v := ([.ptr 1 0, .ptr 2 0], [.box [.d (.l 106 v.1), .d (.i .i64 v.2.1), .d (.b v.2.2.1)], .box [.d (.i .i64 v.2.2.2.1), .d (.i .i64 v.2.2.2.2.1), .d (.s v.2.2.2.2.2.1), .d .ns], .box [.d (.i .i64 v.2.2.2.2.2.2.1), .d (.i .i64 v.2.2.2.2.2.2.2.1), .d (.s v.2.2.2.2.2.2.2.2), .d .ns]])
  pat
    | ([.ptr 1 0, .ptr 2 0], [.box [.d (.l tp1 p1), .d (.i .i64 p2), .d (.b p3)], .box [.d (.i .i64 p4), .d (.i .i64 p5), .d (.s p6), .d .ns], .box [.d (.i .i64 p7), .d (.i .i64 p8), .d (.s p9), .d .ns]]) => (asT 106 tp1 p1).bind fun q1 => some (q1, p2, p3, p4, p5, p6, p7, p8, p9)
    | _ => none
  ok z v h := by
    split at h
    · obtain ⟨q1, hp1, h⟩ := Option.bind_eq_some_iff.1 h
      cases h
      rw [asT_l hp1]
      all_goals rfl
    · cases h
def io49 : Io T ((List S106) × Int × Bool) where
  enc v := ([.ptr 0 0], [.box [.d (.l 106 v.1), .d (.i .i64 v.2.1), .d (.b v.2.2)]])
  pat
    | ([.ptr 0 0], [.box [.d (.l tp1 p1), .d (.i .i64 p2), .d (.b p3)]]) => (asT 106 tp1 p1).bind fun q1 => some (q1, p2, p3)
    | _ => none
  ok z v h := by
    split at h
    · obtain ⟨q1, hp1, h⟩ := Option.bind_eq_some_iff.1 h
      cases h
      rw [asT_l hp1]
      all_goals rfl
    · cases h
def io50 : Io T (Bool × (List S106) × Int × Bool) where
  enc v := ([.d (.b v.1)], [.box [.d (.l 106 v.2.1), .d (.i .i64 v.2.2.1), .d (.b v.2.2.2)]])
  pat
    | ([.d (.b p1)], [.box [.d (.l tp2 p2), .d (.i .i64 p3), .d (.b p4)]]) => (asT 106 tp2 p2).bind fun q2 => some (p1, q2, p3, p4)
    | _ => none
  ok z v h := by
    split at h
    · obtain ⟨q2, hp2, h⟩ := Option.bind_eq_some_iff.1 h
      cases h
      rw [asT_l hp2]
      all_goals rfl
    · cases h
def io51 : Io T (Int × (List S106) × Int × Bool) where
  enc v := ([.ptr 0 0, .d (.i .i64 v.1)], [.box [.d (.l 106 v.2.1), .d (.i .i64 v.2.2.1), .d (.b v.2.2.2)]])
  pat
    | ([.ptr 0 0, .d (.i .i64 p1)], [.box [.d (.l tp2 p2), .d (.i .i64 p3), .d (.b p4)]]) => (asT 106 tp2 p2).bind fun q2 => some (p1, q2, p3, p4)
    | _ => none
  ok z v h := by
    split at h
    · obtain ⟨q2, hp2, h⟩ := Option.bind_eq_some_iff.1 h
      cases h
      rw [asT_l hp2]
      all_goals rfl
    · cases h
def io52 : Io T ((List UInt8) × (List S106) × Int × Bool) where
  enc v := ([.ptr 0 0, .d (.s v.1)], [.box [.d (.l 106 v.2.1), .d (.i .i64 v.2.2.1), .d (.b v.2.2.2)]])
  pat
    | ([.ptr 0 0, .d (.s p1)], [.box [.d (.l tp2 p2), .d (.i .i64 p3), .d (.b p4)]]) => (asT 106 tp2 p2).bind fun q2 => some (p1, q2, p3, p4)
    | _ => none
  ok z v h := by
    split at h
    · obtain ⟨q2, hp2, h⟩ := Option.bind_eq_some_iff.1 h
      cases h
      rw [asT_l hp2]
      all_goals rfl
    · cases h
def io53 : Io T (Int × Int × (List UInt8) × (List S106) × Int × Bool × (List S52)) where
  enc v := ([.ptr 0 0, .agg [.d (.i .i64 v.1), .d (.i .i64 v.2.1), .d (.s v.2.2.1), .sl 1 none]], [.box [.d (.l 106 v.2.2.2.1), .d (.i .i64 v.2.2.2.2.1), .d (.b v.2.2.2.2.2.1)], .arr 52 v.2.2.2.2.2.2])
  pat
    | ([.ptr 0 0, .agg [.d (.i .i64 p1), .d (.i .i64 p2), .d (.s p3), .sl 1 none]], [.box [.d (.l tp4 p4), .d (.i .i64 p5), .d (.b p6)], .arr tp7 p7]) => (asT 106 tp4 p4).bind fun q4 => (asT 52 tp7 p7).bind fun q7 => some (p1, p2, p3, q4, p5, p6, q7)
    | _ => none
  ok z v h := by
    split at h
    · obtain ⟨q4, hp4, h⟩ := Option.bind_eq_some_iff.1 h
      obtain ⟨q7, hp7, h⟩ := Option.bind_eq_some_iff.1 h
      cases h
      rw [asT_l hp4]
      rw [asT_a hp7]
      all_goals rfl
    · cases h
def io54 : Io T (Int × Int × (List UInt8) × (List S106) × Int × Bool × (List S52)) where
  enc v := ([.agg [.d (.i .i64 v.1), .d (.i .i64 v.2.1), .d (.s v.2.2.1), .sl 1 none]], [.box [.d (.l 106 v.2.2.2.1), .d (.i .i64 v.2.2.2.2.1), .d (.b v.2.2.2.2.2.1)], .arr 52 v.2.2.2.2.2.2])
  pat
    | ([.agg [.d (.i .i64 p1), .d (.i .i64 p2), .d (.s p3), .sl 1 none]], [.box [.d (.l tp4 p4), .d (.i .i64 p5), .d (.b p6)], .arr tp7 p7]) => (asT 106 tp4 p4).bind fun q4 => (asT 52 tp7 p7).bind fun q7 => some (p1, p2, p3, q4, p5, p6, q7)
    | _ => none
  ok z v h := by
    split at h
    · obtain ⟨q4, hp4, h⟩ := Option.bind_eq_some_iff.1 h
      obtain ⟨q7, hp7, h⟩ := Option.bind_eq_some_iff.1 h
      cases h
      rw [asT_l hp4]
      rw [asT_a hp7]
      all_goals rfl
    · cases h
def io55 : Io T ((List S106) × Int × Bool × (List S52) × Int × Int × (List UInt8) × Int × Int × (List UInt8)) where
  enc v := ([.ptr 2 0, .ptr 3 0], [.box [.d (.l 106 v.1), .d (.i .i64 v.2.1), .d (.b v.2.2.1)], .arr 52 v.2.2.2.1, .box [.d (.i .i64 v.2.2.2.2.1), .d (.i .i64 v.2.2.2.2.2.1), .d (.s v.2.2.2.2.2.2.1), .sl 1 none], .box [.d (.i .i64 v.2.2.2.2.2.2.2.1), .d (.i .i64 v.2.2.2.2.2.2.2.2.1), .d (.s v.2.2.2.2.2.2.2.2.2), .d .ns]])
  pat
    | ([.ptr 2 0, .ptr 3 0], [.box [.d (.l tp1 p1), .d (.i .i64 p2), .d (.b p3)], .arr tp4 p4, .box [.d (.i .i64 p5), .d (.i .i64 p6), .d (.s p7), .sl 1 none], .box [.d (.i .i64 p8), .d (.i .i64 p9), .d (.s p10), .d .ns]]) => (asT 106 tp1 p1).bind fun q1 => (asT 52 tp4 p4).bind fun q4 => some (q1, p2, p3, q4, p5, p6, p7, p8, p9, p10)
    | _ => none
  ok z v h := by
    split at h
    · obtain ⟨q1, hp1, h⟩ := Option.bind_eq_some_iff.1 h
      obtain ⟨q4, hp4, h⟩ := Option.bind_eq_some_iff.1 h
      cases h
      rw [asT_l hp1]
      rw [asT_a hp4]
      all_goals rfl
    · cases h
def io56 : Io T (Int × Int × (List UInt8) × (List S52)) where
  enc v := ([.agg [.d (.i .i64 v.1), .d (.i .i64 v.2.1), .d (.s v.2.2.1), .sl 0 none]], [.arr 52 v.2.2.2])
  pat
    | ([.agg [.d (.i .i64 p1), .d (.i .i64 p2), .d (.s p3), .sl 0 none]], [.arr tp4 p4]) => (asT 52 tp4 p4).bind fun q4 => some (p1, p2, p3, q4)
    | _ => none
  ok z v h := by
    split at h
    · obtain ⟨q4, hp4, h⟩ := Option.bind_eq_some_iff.1 h
      cases h
      rw [asT_a hp4]
      all_goals rfl
    · cases h
def io57 : Io T (Bool × (List S52)) where
  enc v := ([.d (.b v.1)], [.arr 52 v.2])
  pat
    | ([.d (.b p1)], [.arr tp2 p2]) => (asT 52 tp2 p2).bind fun q2 => some (p1, q2)
    | _ => none
  ok z v h := by
    split at h
    · obtain ⟨q2, hp2, h⟩ := Option.bind_eq_some_iff.1 h
      cases h
      rw [asT_a hp2]
      all_goals rfl
    · cases h
def io58 : Io T (Int × Int × (List UInt8) × (List S52) × (List S106) × Int × Bool) where
  enc v := ([.agg [.d (.i .i64 v.1), .d (.i .i64 v.2.1), .d (.s v.2.2.1), .d (.l 52 v.2.2.2.1)]], [.box [.d (.l 106 v.2.2.2.2.1), .d (.i .i64 v.2.2.2.2.2.1), .d (.b v.2.2.2.2.2.2)]])
  pat
    | ([.agg [.d (.i .i64 p1), .d (.i .i64 p2), .d (.s p3), .d (.l tp4 p4)]], [.box [.d (.l tp5 p5), .d (.i .i64 p6), .d (.b p7)]]) => (asT 52 tp4 p4).bind fun q4 => (asT 106 tp5 p5).bind fun q5 => some (p1, p2, p3, q4, q5, p6, p7)
    | _ => none
  ok z v h := by
    split at h
    · obtain ⟨q4, hp4, h⟩ := Option.bind_eq_some_iff.1 h
      obtain ⟨q5, hp5, h⟩ := Option.bind_eq_some_iff.1 h
      cases h
      rw [asT_l hp4]
      rw [asT_l hp5]
      all_goals rfl
    · cases h
def io59 : Io T (Int × (List S106) × Int × Bool × Int × Int × (List UInt8) × Int × Int × (List UInt8) × (List S52)) where
  enc v := ([.ptr 0 0, .ptr 1 0, .ptr 2 0, .d (.i .i64 v.1)], [.box [.d (.l 106 v.2.1), .d (.i .i64 v.2.2.1), .d (.b v.2.2.2.1)], .box [.d (.i .i64 v.2.2.2.2.1), .d (.i .i64 v.2.2.2.2.2.1), .d (.s v.2.2.2.2.2.2.1), .d .ns], .box [.d (.i .i64 v.2.2.2.2.2.2.2.1), .d (.i .i64 v.2.2.2.2.2.2.2.2.1), .d (.s v.2.2.2.2.2.2.2.2.2.1), .d (.l 52 v.2.2.2.2.2.2.2.2.2.2)]])
  pat
    | ([.ptr 0 0, .ptr 1 0, .ptr 2 0, .d (.i .i64 p1)], [.box [.d (.l tp2 p2), .d (.i .i64 p3), .d (.b p4)], .box [.d (.i .i64 p5), .d (.i .i64 p6), .d (.s p7), .d .ns], .box [.d (.i .i64 p8), .d (.i .i64 p9), .d (.s p10), .d (.l tp11 p11)]]) => (asT 106 tp2 p2).bind fun q2 => (asT 52 tp11 p11).bind fun q11 => some (p1, q2, p3, p4, p5, p6, p7, p8, p9, p10, q11)
    | _ => none
  ok z v h := by
    split at h
    · obtain ⟨q2, hp2, h⟩ := Option.bind_eq_some_iff.1 h
      obtain ⟨q11, hp11, h⟩ := Option.bind_eq_some_iff.1 h
      cases h
      rw [asT_l hp2]
      rw [asT_l hp11]
      all_goals rfl
    · cases h
def io60 : Io T ((List S106) × Int × Bool × Int × Int × (List UInt8) × Int × Int × (List UInt8) × (List S52)) where
  enc v := ([.ptr 0 0, .ptr 1 0, .ptr 2 0], [.box [.d (.l 106 v.1), .d (.i .i64 v.2.1), .d (.b v.2.2.1)], .box [.d (.i .i64 v.2.2.2.1), .d (.i .i64 v.2.2.2.2.1), .d (.s v.2.2.2.2.2.1), .d .ns], .box [.d (.i .i64 v.2.2.2.2.2.2.1), .d (.i .i64 v.2.2.2.2.2.2.2.1), .d (.s v.2.2.2.2.2.2.2.2.1), .sl 3 none], .arr 52 v.2.2.2.2.2.2.2.2.2])
  pat
    | ([.ptr 0 0, .ptr 1 0, .ptr 2 0], [.box [.d (.l tp1 p1), .d (.i .i64 p2), .d (.b p3)], .box [.d (.i .i64 p4), .d (.i .i64 p5), .d (.s p6), .d .ns], .box [.d (.i .i64 p7), .d (.i .i64 p8), .d (.s p9), .sl 3 none], .arr tp10 p10]) => (asT 106 tp1 p1).bind fun q1 => (asT 52 tp10 p10).bind fun q10 => some (q1, p2, p3, p4, p5, p6, p7, p8, p9, q10)
    | _ => none
  ok z v h := by
    split at h
    · obtain ⟨q1, hp1, h⟩ := Option.bind_eq_some_iff.1 h
      obtain ⟨q10, hp10, h⟩ := Option.bind_eq_some_iff.1 h
      cases h
      rw [asT_l hp1]
      rw [asT_a hp10]
      all_goals rfl
    · cases h
def io61 : Io T ((List S106) × Int × Bool × Int × Int × (List UInt8) × Int × Int × (List UInt8) × (List S52)) where
  enc v := ([.ptr 0 0, .ptr 1 0, .ptr 2 0], [.box [.d (.l 106 v.1), .d (.i .i64 v.2.1), .d (.b v.2.2.1)], .box [.d (.i .i64 v.2.2.2.1), .d (.i .i64 v.2.2.2.2.1), .d (.s v.2.2.2.2.2.1), .d .ns], .box [.d (.i .i64 v.2.2.2.2.2.2.1), .d (.i .i64 v.2.2.2.2.2.2.2.1), .d (.s v.2.2.2.2.2.2.2.2.1), .d (.l 52 v.2.2.2.2.2.2.2.2.2)]])
  pat
    | ([.ptr 0 0, .ptr 1 0, .ptr 2 0], [.box [.d (.l tp1 p1), .d (.i .i64 p2), .d (.b p3)], .box [.d (.i .i64 p4), .d (.i .i64 p5), .d (.s p6), .d .ns], .box [.d (.i .i64 p7), .d (.i .i64 p8), .d (.s p9), .d (.l tp10 p10)]]) => (asT 106 tp1 p1).bind fun q1 => (asT 52 tp10 p10).bind fun q10 => some (q1, p2, p3, p4, p5, p6, p7, p8, p9, q10)
    | _ => none
  ok z v h := by
    split at h
    · obtain ⟨q1, hp1, h⟩ := Option.bind_eq_some_iff.1 h
      obtain ⟨q10, hp10, h⟩ := Option.bind_eq_some_iff.1 h
      cases h
      rw [asT_l hp1]
      rw [asT_l hp10]
      all_goals rfl
    · cases h
def io62 : Io T (Bool × Int × (List S106) × Int × Bool × Int × Int × (List UInt8) × Int × Int × (List UInt8) × (List S52)) where
  enc v := ([.ptr 0 0, .ptr 1 0, .ptr 2 0, .d (.b v.1), .d (.i .i64 v.2.1)], [.box [.d (.l 106 v.2.2.1), .d (.i .i64 v.2.2.2.1), .d (.b v.2.2.2.2.1)], .box [.d (.i .i64 v.2.2.2.2.2.1), .d (.i .i64 v.2.2.2.2.2.2.1), .d (.s v.2.2.2.2.2.2.2.1), .d .ns], .box [.d (.i .i64 v.2.2.2.2.2.2.2.2.1), .d (.i .i64 v.2.2.2.2.2.2.2.2.2.1), .d (.s v.2.2.2.2.2.2.2.2.2.2.1), .d (.l 52 v.2.2.2.2.2.2.2.2.2.2.2)]])
  pat
    | ([.ptr 0 0, .ptr 1 0, .ptr 2 0, .d (.b p1), .d (.i .i64 p2)], [.box [.d (.l tp3 p3), .d (.i .i64 p4), .d (.b p5)], .box [.d (.i .i64 p6), .d (.i .i64 p7), .d (.s p8), .d .ns], .box [.d (.i .i64 p9), .d (.i .i64 p10), .d (.s p11), .d (.l tp12 p12)]]) => (asT 106 tp3 p3).bind fun q3 => (asT 52 tp12 p12).bind fun q12 => some (p1, p2, q3, p4, p5, p6, p7, p8, p9, p10, p11, q12)
    | _ => none
  ok z v h := by
    split at h
    · obtain ⟨q3, hp3, h⟩ := Option.bind_eq_some_iff.1 h
      obtain ⟨q12, hp12, h⟩ := Option.bind_eq_some_iff.1 h
      cases h
      rw [asT_l hp3]
      rw [asT_l hp12]
      all_goals rfl
    · cases h
def io63 : Io T (Int × Int × (List UInt8) × (List S52) × Int) where
  enc v := ([.agg [.d (.i .i64 v.1), .d (.i .i64 v.2.1), .d (.s v.2.2.1), .d (.l 52 v.2.2.2.1)], .d (.i .i64 v.2.2.2.2)], [])
  pat
    | ([.agg [.d (.i .i64 p1), .d (.i .i64 p2), .d (.s p3), .d (.l tp4 p4)], .d (.i .i64 p5)], []) => (asT 52 tp4 p4).bind fun q4 => some (p1, p2, p3, q4, p5)
    | _ => none
  ok z v h := by
    split at h
    · obtain ⟨q4, hp4, h⟩ := Option.bind_eq_some_iff.1 h
      cases h
      rw [asT_l hp4]
      all_goals rfl
    · cases h
def io64 : Io T (Int × Int × (List UInt8) × (List S52)) where
  enc v := ([.agg [.d (.i .i64 v.1), .d (.i .i64 v.2.1), .d (.s v.2.2.1), .d (.l 52 v.2.2.2)]], [])
  pat
    | ([.agg [.d (.i .i64 p1), .d (.i .i64 p2), .d (.s p3), .d (.l tp4 p4)]], []) => (asT 52 tp4 p4).bind fun q4 => some (p1, p2, p3, q4)
    | _ => none
  ok z v h := by
    split at h
    · obtain ⟨q4, hp4, h⟩ := Option.bind_eq_some_iff.1 h
      cases h
      rw [asT_l hp4]
      all_goals rfl
    · cases h
def io65 : Io T (Int × (List UInt8)) where
  enc v := ([.agg [.d (.i .i64 v.1), .d (.s v.2)]], [])
  pat
    | ([.agg [.d (.i .i64 p1), .d (.s p2)]], []) => some (p1, p2)
    | _ => none
  ok z v h := by
    split at h
    · cases h
      all_goals rfl
    · cases h
def io66 : Io T ((List UInt8) × Int × (List UInt8)) where
  enc v := ([.ptr 0 0, .d (.s v.1)], [.box [.d (.i .i64 v.2.1), .d (.s v.2.2)]])
  pat
    | ([.ptr 0 0, .d (.s p1)], [.box [.d (.i .i64 p2), .d (.s p3)]]) => some (p1, p2, p3)
    | _ => none
  ok z v h := by
    split at h
    · cases h
      all_goals rfl
    · cases h
def io67 : Io T (Int × (List UInt8) × Int × (List UInt8)) where
  enc v := ([.ptr 0 0, .d (.i .i64 v.1), .d (.s v.2.1)], [.box [.d (.i .i64 v.2.2.1), .d (.s v.2.2.2)]])
  pat
    | ([.ptr 0 0, .d (.i .i64 p1), .d (.s p2)], [.box [.d (.i .i64 p3), .d (.s p4)]]) => some (p1, p2, p3, p4)
    | _ => none
  ok z v h := by
    split at h
    · cases h
      all_goals rfl
    · cases h
def io68 : Io T (List UInt8) where
  enc v := ([], [.bl v])
  pat
    | ([], [.bl p1]) => some p1
    | _ => none
  ok z v h := by
    split at h
    · cases h
      all_goals rfl
    · cases h
def io69 : Io T (List UInt8) where
  enc v := ([.d .ns, .d (.s v)], [])
  pat
    | ([.d .ns, .d (.s p1)], []) => some p1
    | _ => none
  ok z v h := by
    split at h
    · cases h
      all_goals rfl
    · cases h
def io70 : Io T ((List UInt8) × Int) where
  enc v := ([.d .ns, .d (.s v.1), .d (.i .i64 v.2)], [])
  pat
    | ([.d .ns, .d (.s p1), .d (.i .i64 p2)], []) => some (p1, p2)
    | _ => none
  ok z v h := by
    split at h
    · cases h
      all_goals rfl
    · cases h
def io71 : Io T ((List UInt8) × Int × Int × Int) where
  enc v := ([.d .ns, .d (.s v.1), .d (.i .i64 v.2.1), .d .ns, .d (.i .i64 v.2.2.1), .d (.i .i64 v.2.2.2)], [])
  pat
    | ([.d .ns, .d (.s p1), .d (.i .i64 p2), .d .ns, .d (.i .i64 p3), .d (.i .i64 p4)], []) => some (p1, p2, p3, p4)
    | _ => none
  ok z v h := by
    split at h
    · cases h
      all_goals rfl
    · cases h
def io72 : Io T ((List UInt8) × (List UInt8)) where
  enc v := ([.bp 0, .d (.s v.1)], [.bl v.2])
  pat
    | ([.bp 0, .d (.s p1)], [.bl p2]) => some (p1, p2)
    | _ => none
  ok z v h := by
    split at h
    · cases h
      all_goals rfl
    · cases h
def io73 : Io T (Int × (List UInt8)) where
  enc v := ([.d (.i .i64 v.1), .d .ni], [.bl v.2])
  pat
    | ([.d (.i .i64 p1), .d .ni], [.bl p2]) => some (p1, p2)
    | _ => none
  ok z v h := by
    split at h
    · cases h
      all_goals rfl
    · cases h
def io74 : Io T ((List (List UInt8)) × (List UInt8) × Int) where
  enc v := ([.d (.l 9 v.1), .d (.s v.2.1), .d (.i .i64 v.2.2)], [])
  pat
    | ([.d (.l tp1 p1), .d (.s p2), .d (.i .i64 p3)], []) => (asT 9 tp1 p1).bind fun q1 => some (q1, p2, p3)
    | _ => none
  ok z v h := by
    split at h
    · obtain ⟨q1, hp1, h⟩ := Option.bind_eq_some_iff.1 h
      cases h
      rw [asT_l hp1]
      all_goals rfl
    · cases h
def io75 : Io T ((List (List UInt8)) × (List UInt8) × Int × (List UInt8) × (List (List UInt8)) × Int × Int) where
  enc v := ([.d (.l 9 v.1), .d (.s v.2.1), .d (.i .i64 v.2.2.1), .d (.s v.2.2.2.1), .d (.l 9 v.2.2.2.2.1), .d (.i .i64 v.2.2.2.2.2.1), .d (.i .i64 v.2.2.2.2.2.2)], [])
  pat
    | ([.d (.l tp1 p1), .d (.s p2), .d (.i .i64 p3), .d (.s p4), .d (.l tp5 p5), .d (.i .i64 p6), .d (.i .i64 p7)], []) => (asT 9 tp1 p1).bind fun q1 => (asT 9 tp5 p5).bind fun q5 => some (q1, p2, p3, p4, q5, p6, p7)
    | _ => none
  ok z v h := by
    split at h
    · obtain ⟨q1, hp1, h⟩ := Option.bind_eq_some_iff.1 h
      obtain ⟨q5, hp5, h⟩ := Option.bind_eq_some_iff.1 h
      cases h
      rw [asT_l hp1]
      rw [asT_l hp5]
      all_goals rfl
    · cases h
def io76 : Io T ((List (List UInt8)) × (List UInt8) × Int × (List (List UInt8)) × Int × Int) where
  enc v := ([.d (.l 9 v.1), .d (.s v.2.1), .d (.i .i64 v.2.2.1), .d (.l 9 v.2.2.2.1), .d (.i .i64 v.2.2.2.2.1), .d (.i .i64 v.2.2.2.2.2)], [])
  pat
    | ([.d (.l tp1 p1), .d (.s p2), .d (.i .i64 p3), .d (.l tp4 p4), .d (.i .i64 p5), .d (.i .i64 p6)], []) => (asT 9 tp1 p1).bind fun q1 => (asT 9 tp4 p4).bind fun q4 => some (q1, p2, p3, q4, p5, p6)
    | _ => none
  ok z v h := by
    split at h
    · obtain ⟨q1, hp1, h⟩ := Option.bind_eq_some_iff.1 h
      obtain ⟨q4, hp4, h⟩ := Option.bind_eq_some_iff.1 h
      cases h
      rw [asT_l hp1]
      rw [asT_l hp4]
      all_goals rfl
    · cases h
def io77 : Io T ((List UInt8) × (List (List UInt8)) × Int × Int × (List UInt8)) where
  enc v := ([.d (.s v.1), .bp 0, .d (.l 9 v.2.1), .d (.i .i64 v.2.2.1), .d (.i .i64 v.2.2.2.1)], [.bl v.2.2.2.2])
  pat
    | ([.d (.s p1), .bp 0, .d (.l tp2 p2), .d (.i .i64 p3), .d (.i .i64 p4)], [.bl p5]) => (asT 9 tp2 p2).bind fun q2 => some (p1, q2, p3, p4, p5)
    | _ => none
  ok z v h := by
    split at h
    · obtain ⟨q2, hp2, h⟩ := Option.bind_eq_some_iff.1 h
      cases h
      rw [asT_l hp2]
      all_goals rfl
    · cases h
def io78 : Io T ((List S52) × Int × Int × Int × Int × (List UInt8) × (List S52) × (List (List UInt8))) where
  enc v := ([.ptr 0 0, .sl 1 none, .d (.l 52 v.1), .d (.i .i64 v.2.1), .d (.i .i64 v.2.2.1)], [.box [.d (.i .i64 v.2.2.2.1), .d (.i .i64 v.2.2.2.2.1), .d (.s v.2.2.2.2.2.1), .d (.l 52 v.2.2.2.2.2.2.1)], .arr 9 v.2.2.2.2.2.2.2])
  pat
    | ([.ptr 0 0, .sl 1 none, .d (.l tp1 p1), .d (.i .i64 p2), .d (.i .i64 p3)], [.box [.d (.i .i64 p4), .d (.i .i64 p5), .d (.s p6), .d (.l tp7 p7)], .arr tp8 p8]) => (asT 52 tp1 p1).bind fun q1 => (asT 52 tp7 p7).bind fun q7 => (asT 9 tp8 p8).bind fun q8 => some (q1, p2, p3, p4, p5, p6, q7, q8)
    | _ => none
  ok z v h := by
    split at h
    · obtain ⟨q1, hp1, h⟩ := Option.bind_eq_some_iff.1 h
      obtain ⟨q7, hp7, h⟩ := Option.bind_eq_some_iff.1 h
      obtain ⟨q8, hp8, h⟩ := Option.bind_eq_some_iff.1 h
      cases h
      rw [asT_l hp1]
      rw [asT_l hp7]
      rw [asT_a hp8]
      all_goals rfl
    · cases h
def io79 : Io T (Int × Int × (List UInt8) × (List S52) × (List (List UInt8))) where
  enc v := ([.ptr 0 0, .sl 1 none], [.box [.d (.i .i64 v.1), .d (.i .i64 v.2.1), .d (.s v.2.2.1), .d (.l 52 v.2.2.2.1)], .arr 9 v.2.2.2.2])
  pat
    | ([.ptr 0 0, .sl 1 none], [.box [.d (.i .i64 p1), .d (.i .i64 p2), .d (.s p3), .d (.l tp4 p4)], .arr tp5 p5]) => (asT 52 tp4 p4).bind fun q4 => (asT 9 tp5 p5).bind fun q5 => some (p1, p2, p3, q4, q5)
    | _ => none
  ok z v h := by
    split at h
    · obtain ⟨q4, hp4, h⟩ := Option.bind_eq_some_iff.1 h
      obtain ⟨q5, hp5, h⟩ := Option.bind_eq_some_iff.1 h
      cases h
      rw [asT_l hp4]
      rw [asT_a hp5]
      all_goals rfl
    · cases h
def io80 : Io T (Int × Int × (List UInt8) × (List S52) × Int × Int × (List UInt8)) where
  enc v := ([.agg [.d (.i .i64 v.1), .d (.i .i64 v.2.1), .d (.s v.2.2.1), .d (.l 52 v.2.2.2.1)], .agg [.d (.i .i64 v.2.2.2.2.1), .d (.i .i64 v.2.2.2.2.2.1), .d (.s v.2.2.2.2.2.2), .d .ns]], [])
  pat
    | ([.agg [.d (.i .i64 p1), .d (.i .i64 p2), .d (.s p3), .d (.l tp4 p4)], .agg [.d (.i .i64 p5), .d (.i .i64 p6), .d (.s p7), .d .ns]], []) => (asT 52 tp4 p4).bind fun q4 => some (p1, p2, p3, q4, p5, p6, p7)
    | _ => none
  ok z v h := by
    split at h
    · obtain ⟨q4, hp4, h⟩ := Option.bind_eq_some_iff.1 h
      cases h
      rw [asT_l hp4]
      all_goals rfl
    · cases h
def io81 : Io T (Int × Int × Int × (List UInt8) × (List S52) × Int × Int × (List UInt8)) where
  enc v := ([.ptr 0 0, .ptr 1 0, .d (.i .i64 v.1)], [.box [.d (.i .i64 v.2.1), .d (.i .i64 v.2.2.1), .d (.s v.2.2.2.1), .d (.l 52 v.2.2.2.2.1)], .box [.d (.i .i64 v.2.2.2.2.2.1), .d (.i .i64 v.2.2.2.2.2.2.1), .d (.s v.2.2.2.2.2.2.2), .d .ns]])
  pat
    | ([.ptr 0 0, .ptr 1 0, .d (.i .i64 p1)], [.box [.d (.i .i64 p2), .d (.i .i64 p3), .d (.s p4), .d (.l tp5 p5)], .box [.d (.i .i64 p6), .d (.i .i64 p7), .d (.s p8), .d .ns]]) => (asT 52 tp5 p5).bind fun q5 => some (p1, p2, p3, p4, q5, p6, p7, p8)
    | _ => none
  ok z v h := by
    split at h
    · obtain ⟨q5, hp5, h⟩ := Option.bind_eq_some_iff.1 h
      cases h
      rw [asT_l hp5]
      all_goals rfl
    · cases h
def io82 : Io T (Int × Int × (List UInt8) × (List S52) × Int × Int × (List UInt8) × (List S52)) where
  enc v := ([.agg [.d (.i .i64 v.1), .d (.i .i64 v.2.1), .d (.s v.2.2.1), .d (.l 52 v.2.2.2.1)], .agg [.d (.i .i64 v.2.2.2.2.1), .d (.i .i64 v.2.2.2.2.2.1), .d (.s v.2.2.2.2.2.2.1), .d (.l 52 v.2.2.2.2.2.2.2)]], [])
  pat
    | ([.agg [.d (.i .i64 p1), .d (.i .i64 p2), .d (.s p3), .d (.l tp4 p4)], .agg [.d (.i .i64 p5), .d (.i .i64 p6), .d (.s p7), .d (.l tp8 p8)]], []) => (asT 52 tp4 p4).bind fun q4 => (asT 52 tp8 p8).bind fun q8 => some (p1, p2, p3, q4, p5, p6, p7, q8)
    | _ => none
  ok z v h := by
    split at h
    · obtain ⟨q4, hp4, h⟩ := Option.bind_eq_some_iff.1 h
      obtain ⟨q8, hp8, h⟩ := Option.bind_eq_some_iff.1 h
      cases h
      rw [asT_l hp4]
      rw [asT_l hp8]
      all_goals rfl
    · cases h
def io83 : Io T (Int × Int × Int × (List UInt8) × (List S52) × Int × Int × (List UInt8) × (List S52)) where
  enc v := ([.ptr 0 0, .ptr 1 0, .d (.i .i64 v.1)], [.box [.d (.i .i64 v.2.1), .d (.i .i64 v.2.2.1), .d (.s v.2.2.2.1), .d (.l 52 v.2.2.2.2.1)], .box [.d (.i .i64 v.2.2.2.2.2.1), .d (.i .i64 v.2.2.2.2.2.2.1), .d (.s v.2.2.2.2.2.2.2.1), .d (.l 52 v.2.2.2.2.2.2.2.2)]])
  pat
    | ([.ptr 0 0, .ptr 1 0, .d (.i .i64 p1)], [.box [.d (.i .i64 p2), .d (.i .i64 p3), .d (.s p4), .d (.l tp5 p5)], .box [.d (.i .i64 p6), .d (.i .i64 p7), .d (.s p8), .d (.l tp9 p9)]]) => (asT 52 tp5 p5).bind fun q5 => (asT 52 tp9 p9).bind fun q9 => some (p1, p2, p3, p4, q5, p6, p7, p8, q9)
    | _ => none
  ok z v h := by
    split at h
    · obtain ⟨q5, hp5, h⟩ := Option.bind_eq_some_iff.1 h
      obtain ⟨q9, hp9, h⟩ := Option.bind_eq_some_iff.1 h
      cases h
      rw [asT_l hp5]
      rw [asT_l hp9]
      all_goals rfl
    · cases h
def pe88 (p : Int) : V T := .pv 88 [.i .i64 p]
def pp88 : V T → Option (Int)
  | .pv t [.i .i64 x0] => bif t.beq 88 then some x0 else none
  | _ => none
theorem pp88_ok : ∀ (v : V T) (p : Int), pp88 v = some p → v = pe88 p := by
  intro v p h
  unfold pp88 at h
  split at h
  · rename_i t x0
    cases hb : t.beq 88 with
    | false => rw [hb] at h; cases h
    | true => rw [hb] at h; cases h; rw [Nat.eq_of_beq_eq_true hb]; rfl
  · cases h
theorem pe88_pv : ∀ p : Int, ∃ t ds, pe88 p = (.pv t ds : V T) := fun p => ⟨_, _, rfl⟩
def tab0 (k : Nat) : Tab T := noTab
def strings_TrimLeft (k : Nat) (a3 : List UInt8) (a4 : List UInt8) : Option (List UInt8) := trimL a3 a4
def tab1 (k : Nat) : Tab T := addTab 117 (line io0 io1 [] (fun v => strings_TrimLeft k v.1 v.2)) (tab0 k)
def stringslite_HasPrefix (k : Nat) (a1 : List UInt8) (a2 : List UInt8) : Option (Bool) :=
let v3 : Bool := (decide ((a1.length : Int) ≥ (a2.length : Int)))
cond ((decide (0 ≤ (a2.length : Int) ∧ (a2.length : Int) ≤ (a1.length : Int))) || !v3) (
let v4 : List UInt8 := (a1.take (a2.length : Int).toNat)
some (cond v3 (v4 == a2) false)) none
def stringslite_HasPrefix.kr (w0 : World) (k : Nat) : Kr T (Bool) := (kret (retK (cfg w0 (tab1 k)) Tryd.f155.results.toList 0 [] io2.pat))
def stringslite_HasPrefix.cuts (w0 : World) (k : Nat) : Cuts T (Bool) := fun n => none
def stringslite_HasPrefix.body : Code := bodyOf Tryd.f155
theorem stringslite_HasPrefix.e (w0 : World) (k : Nat) : ∀ v, (fun v => stringslite_HasPrefix k v.1 v.2) v = runK (cfg w0 (tab1 k)) Tryd.f155.ntmps (stringslite_HasPrefix.kr w0 k) (annot (stringslite_HasPrefix.cuts w0 k) stringslite_HasPrefix.body) (entry (io0.enc v).1 (io0.enc v).2) (endK (stringslite_HasPrefix.kr w0 k)) := by
  intro v; kernel_rfl
theorem stringslite_HasPrefix.hb : Tryd.f155.body = some stringslite_HasPrefix.body := by kernel_rfl
def tab2 (k : Nat) : Tab T := addTab 155 (line io0 io2 false (fun v => stringslite_HasPrefix k v.1 v.2)) (tab1 k)
def stringslite_CutPrefix (k : Nat) (a1 : List UInt8) (a2 : List UInt8) : Option ((List UInt8) × Bool) :=
(stringslite_HasPrefix k a1 a2).bind fun r3 =>
cond (!r3) (
some (a1, false)) (
cond (decide (0 ≤ (a2.length : Int) ∧ (a2.length : Int) ≤ (a1.length : Int))) (
let v4 : List UInt8 := (a1.drop (a2.length : Int).toNat)
some (v4, true)) none)
def stringslite_CutPrefix.kr (w0 : World) (k : Nat) : Kr T ((List UInt8) × Bool) := (kret (retK (cfg w0 (tab2 k)) Tryd.f100.results.toList 0 [] io3.pat))
def stringslite_CutPrefix.cuts (w0 : World) (k : Nat) : Cuts T ((List UInt8) × Bool) := fun n => none
def stringslite_CutPrefix.body : Code := bodyOf Tryd.f100
theorem stringslite_CutPrefix.e (w0 : World) (k : Nat) : ∀ v, (fun v => stringslite_CutPrefix k v.1 v.2) v = runK (cfg w0 (tab2 k)) Tryd.f100.ntmps (stringslite_CutPrefix.kr w0 k) (annot (stringslite_CutPrefix.cuts w0 k) stringslite_CutPrefix.body) (entry (io0.enc v).1 (io0.enc v).2) (endK (stringslite_CutPrefix.kr w0 k)) := by
  intro v; kernel_rfl
theorem stringslite_CutPrefix.hb : Tryd.f100.body = some stringslite_CutPrefix.body := by kernel_rfl
def tab3 (k : Nat) : Tab T := addTab 100 (line io0 io3 ([], false) (fun v => stringslite_CutPrefix k v.1 v.2)) (tab2 k)
def strings_CutPrefix (k : Nat) (a1 : List UInt8) (a2 : List UInt8) : Option ((List UInt8) × Bool) :=
(stringslite_CutPrefix k a1 a2).bind fun r3 =>
some (r3.1, r3.2)
def strings_CutPrefix.kr (w0 : World) (k : Nat) : Kr T ((List UInt8) × Bool) := (kret (retK (cfg w0 (tab3 k)) Tryd.f64.results.toList 0 [] io3.pat))
def strings_CutPrefix.cuts (w0 : World) (k : Nat) : Cuts T ((List UInt8) × Bool) := fun n => none
def strings_CutPrefix.body : Code := bodyOf Tryd.f64
theorem strings_CutPrefix.e (w0 : World) (k : Nat) : ∀ v, (fun v => strings_CutPrefix k v.1 v.2) v = runK (cfg w0 (tab3 k)) Tryd.f64.ntmps (strings_CutPrefix.kr w0 k) (annot (strings_CutPrefix.cuts w0 k) strings_CutPrefix.body) (entry (io0.enc v).1 (io0.enc v).2) (endK (strings_CutPrefix.kr w0 k)) := by
  intro v; kernel_rfl
theorem strings_CutPrefix.hb : Tryd.f64.body = some strings_CutPrefix.body := by kernel_rfl
def tab4 (k : Nat) : Tab T := addTab 64 (line io0 io3 ([], false) (fun v => strings_CutPrefix k v.1 v.2)) (tab3 k)
def strings_Index (k : Nat) (a5 : List UInt8) (a6 : List UInt8) : Option (Int) := findS a5 a6
def tab5 (k : Nat) : Tab T := addTab 45 (line io0 io4 (0 : Int) (fun v => strings_Index k v.1 v.2)) (tab4 k)
def f__strings_Builder__String (k : Nat) (a14 : List UInt8) : Option ((List UInt8) × (List UInt8)) := some (a14, a14)
def tab6 (k : Nat) : Tab T := addTab 48 (line io5 io6 ([], []) (fun v => f__strings_Builder__String k v)) (tab5 k)
def f__strings_Builder__WriteByte (k : Nat) (a21 : Int) (a22 : List UInt8) : Option (List UInt8) := wByte a22 a21
def tab7 (k : Nat) : Tab T := addTab 84 (line io7 io8 [] (fun v => f__strings_Builder__WriteByte k v.1 v.2)) (tab6 k)
def csstok_text.c7 (k : Nat) : Nat → (List UInt8) → Int → Int → (List UInt8) → (List UInt8) → Int → (List UInt8) → ((List UInt8) → Int → (List UInt8) → (List UInt8) → Int → Option (Int × (List UInt8) × (List UInt8) × Int)) → Option (Int × (List UInt8) × (List UInt8) × Int)
  | 0, _, _, _, _, _, _, _, _ => none
  | n + 1, x2, x3, x4, x5, x6, x7, x8, k0 =>
    let v9 : Bool := (decide (x3 < (x2.length : Int)))
    cond v9 (
    cond (decide (0 ≤ x3 ∧ x3 < (x2.length : Int))) (
    let v10 : Int := ((x2.getD x3.toNat 0).toNat : Int)
    cond (decide (0 ≤ (0 : Int) ∧ (0 : Int) < (x2.length : Int))) (
    let v11 : Int := ((x2.getD (0 : Int).toNat 0).toNat : Int)
    cond (v10 == v11) (
    let v12 : Int := (IntKind.wrap .i64 (x3 + (1 : Int)))
    cond (decide (0 ≤ v12 ∧ v12 ≤ (x2.length : Int))) (
    (f__strings_Builder__String k x8).bind fun r13 =>
    some ((5 : Int), (x2.take v12.toNat), r13.1, (0 : Int))) none) (
    cond (v10 == (10 : Int)) (
    cond (decide (0 ≤ x3 ∧ x3 ≤ (x2.length : Int))) (
    some ((6 : Int), (x2.take x3.toNat), [], (0 : Int))) none) (
    let v14 : Int := (IntKind.wrap .i64 (x3 + (1 : Int)))
    let v15 : Bool := (decide (v14 < (x2.length : Int)))
    let v16 : Bool := (cond (v10 == (92 : Int)) v15 false)
    cond v16 (
    let v17 : Int := (IntKind.wrap .i64 (x3 + (1 : Int)))
    cond (decide (0 ≤ v17 ∧ v17 < (x2.length : Int))) (
    let v18 : Int := ((x2.getD v17.toNat 0).toNat : Int)
    (f__strings_Builder__WriteByte k v18 x8).bind fun r19 =>
    let v20 : Int := (IntKind.wrap .i64 (v17 + (1 : Int)))
    csstok_text.c7 k n x2 v20 x4 x5 x6 x7 r19 k0) none) (
    (f__strings_Builder__WriteByte k v10 x8).bind fun r21 =>
    let v22 : Int := (IntKind.wrap .i64 (x3 + (1 : Int)))
    csstok_text.c7 k n x2 v22 x4 x5 x6 x7 r21 k0)))) none) none) (
    k0 x2 x4 x5 x6 x7)
def csstok_text (k : Nat) (a1 : List UInt8) : Option (Int × (List UInt8) × (List UInt8) × Int) :=
csstok_text.c7 k k a1 (1 : Int) (0 : Int) ([]) ([]) (0 : Int) ([] : List UInt8) (fun (y23 : List UInt8) (y24 : Int) (y25 : List UInt8) (y26 : List UInt8) (y27 : Int) =>
some ((6 : Int), y23, [], (0 : Int)))
def csstok_text.kr (w0 : World) (k : Nat) : Kr T (Int × (List UInt8) × (List UInt8) × Int) := (kret (retK (cfg w0 (tab7 k)) Tryd.f118.results.toList 0 [] io9.pat))
def csstok_text.x7 : Ex → Option (List Nat × List Sp)
  | .exit 0 => some ([0, 2], [])
  | _ => none
def csstok_text.L7 (k : Nat) (n : Nat) (v : (List UInt8) × Int × Int × (List UInt8) × (List UInt8) × Int × (List UInt8)) (K : Ex → St T → Option (Int × (List UInt8) × (List UInt8) × Int)) : Option (Int × (List UInt8) × (List UInt8) × Int) := csstok_text.c7 k n v.1 v.2.1 v.2.2.1 v.2.2.2.1 v.2.2.2.2.1 v.2.2.2.2.2.1 v.2.2.2.2.2.2 (fun y14 y15 y16 y17 y18 => K (.exit 0) (mkSt [0, 2] (io11.enc (y14, y15, y16, y17, y18))))
def csstok_text.cuts (w0 : World) (k : Nat) : Cuts T (Int × (List UInt8) × (List UInt8) × Int) := fun n => bif n.beq 7 then some (entK (cfg w0 (tab7 k)) 0 [0, 2, 3, 4] [] io10.pat (csstok_text.L7 k k)) else none
def csstok_text.body : Code := bodyOf Tryd.f118
def csstok_text.b7 : Code := findD 7 csstok_text.body
theorem csstok_text.s7 (w0 : World) (k : Nat) : ∀ n v K, csstok_text.L7 k (n + 1) v K = runK (cfg w0 (tab7 k)) Tryd.f118.ntmps (csstok_text.kr w0 k) (annot (csstok_text.cuts w0 k) csstok_text.b7) (mkSt [0, 2, 3, 4] (io10.enc v)) (loopK (cfg w0 (tab7 k)) 0 csstok_text.x7 (entK (cfg w0 (tab7 k)) 0 [0, 2, 3, 4] [] io10.pat (csstok_text.L7 k n)) K) := by
  intro n v K; kernel_rfl
theorem csstok_text.e (w0 : World) (k : Nat) : ∀ v, (fun v => csstok_text k v) v = runK (cfg w0 (tab7 k)) Tryd.f118.ntmps (csstok_text.kr w0 k) (annot (csstok_text.cuts w0 k) csstok_text.body) (entry (io1.enc v).1 (io1.enc v).2) (endK (csstok_text.kr w0 k)) := by
  intro v; kernel_rfl
theorem csstok_text.hb : Tryd.f118.body = some csstok_text.body := by kernel_rfl
def tab8 (k : Nat) : Tab T := addTab 118 (line io1 io9 ((0 : Int), [], [], (0 : Int)) (fun v => csstok_text k v)) (tab7 k)
def csstok_starts (k : Nat) (a1 : Int) : Option (Bool) :=
let v2 : Bool := (cond (decide (a1 ≥ (128 : Int))) true (a1 == (95 : Int)))
let v3 : Int := (IntKind.wrap .u8 (((BitVec.ofInt (IntKind.bits .u8) a1 ||| BitVec.ofInt (IntKind.bits .u8) (32 : Int)).toNat : Int)))
let v4 : Int := (IntKind.wrap .u8 (((BitVec.ofInt (IntKind.bits .u8) a1 ||| BitVec.ofInt (IntKind.bits .u8) (32 : Int)).toNat : Int)))
let v5 : Bool := (cond (decide (v3 ≥ (97 : Int))) (decide (v4 ≤ (122 : Int))) false)
some (cond v2 true v5)
def csstok_starts.kr (w0 : World) (k : Nat) : Kr T (Bool) := (kret (retK (cfg w0 (tab8 k)) Tryd.f166.results.toList 0 [] io2.pat))
def csstok_starts.cuts (w0 : World) (k : Nat) : Cuts T (Bool) := fun n => none
def csstok_starts.body : Code := bodyOf Tryd.f166
theorem csstok_starts.e (w0 : World) (k : Nat) : ∀ v, (fun v => csstok_starts k v) v = runK (cfg w0 (tab8 k)) Tryd.f166.ntmps (csstok_starts.kr w0 k) (annot (csstok_starts.cuts w0 k) csstok_starts.body) (entry (io12.enc v).1 (io12.enc v).2) (endK (csstok_starts.kr w0 k)) := by
  intro v; kernel_rfl
theorem csstok_starts.hb : Tryd.f166.body = some csstok_starts.body := by kernel_rfl
def tab9 (k : Nat) : Tab T := addTab 166 (line io12 io2 false (fun v => csstok_starts k v)) (tab8 k)
def csstok_digit (k : Nat) (a1 : Int) : Option (Bool) :=
let v2 : Bool := (cond (decide (a1 ≥ (48 : Int))) (decide (a1 ≤ (57 : Int))) false)
some v2
def csstok_digit.kr (w0 : World) (k : Nat) : Kr T (Bool) := (kret (retK (cfg w0 (tab9 k)) Tryd.f167.results.toList 0 [] io2.pat))
def csstok_digit.cuts (w0 : World) (k : Nat) : Cuts T (Bool) := fun n => none
def csstok_digit.body : Code := bodyOf Tryd.f167
theorem csstok_digit.e (w0 : World) (k : Nat) : ∀ v, (fun v => csstok_digit k v) v = runK (cfg w0 (tab9 k)) Tryd.f167.ntmps (csstok_digit.kr w0 k) (annot (csstok_digit.cuts w0 k) csstok_digit.body) (entry (io12.enc v).1 (io12.enc v).2) (endK (csstok_digit.kr w0 k)) := by
  intro v; kernel_rfl
theorem csstok_digit.hb : Tryd.f167.body = some csstok_digit.body := by kernel_rfl
def tab10 (k : Nat) : Tab T := addTab 167 (line io12 io2 false (fun v => csstok_digit k v)) (tab9 k)
def csstok_sign (k : Nat) (a1 : Int) : Option (Bool) :=
(csstok_starts k a1).bind fun r2 =>
(cond (!r2) (csstok_digit k a1) (some false)).bind fun r3 =>
let v4 : Bool := (cond (cond r2 true r3) true (a1 == (45 : Int)))
some v4
def csstok_sign.kr (w0 : World) (k : Nat) : Kr T (Bool) := (kret (retK (cfg w0 (tab10 k)) Tryd.f119.results.toList 0 [] io2.pat))
def csstok_sign.cuts (w0 : World) (k : Nat) : Cuts T (Bool) := fun n => none
def csstok_sign.body : Code := bodyOf Tryd.f119
theorem csstok_sign.e (w0 : World) (k : Nat) : ∀ v, (fun v => csstok_sign k v) v = runK (cfg w0 (tab10 k)) Tryd.f119.ntmps (csstok_sign.kr w0 k) (annot (csstok_sign.cuts w0 k) csstok_sign.body) (entry (io12.enc v).1 (io12.enc v).2) (endK (csstok_sign.kr w0 k)) := by
  intro v; kernel_rfl
theorem csstok_sign.hb : Tryd.f119.body = some csstok_sign.body := by kernel_rfl
def tab11 (k : Nat) : Tab T := addTab 119 (line io12 io2 false (fun v => csstok_sign k v)) (tab10 k)
def csstok_escape (k : Nat) (a1 : List UInt8) : Option (Bool) :=
let v2 : Bool := (decide ((a1.length : Int) > (1 : Int)))
cond ((decide (0 ≤ (0 : Int) ∧ (0 : Int) < (a1.length : Int))) || !v2) (
let v3 : Int := ((a1.getD (0 : Int).toNat 0).toNat : Int)
let v4 : Bool := (cond v2 (v3 == (92 : Int)) false)
cond ((decide (0 ≤ (1 : Int) ∧ (1 : Int) < (a1.length : Int))) || !v4) (
let v5 : Int := ((a1.getD (1 : Int).toNat 0).toNat : Int)
let v6 : Bool := (cond v4 (v5 != (10 : Int)) false)
some v6) none) none
def csstok_escape.kr (w0 : World) (k : Nat) : Kr T (Bool) := (kret (retK (cfg w0 (tab11 k)) Tryd.f120.results.toList 0 [] io2.pat))
def csstok_escape.cuts (w0 : World) (k : Nat) : Cuts T (Bool) := fun n => none
def csstok_escape.body : Code := bodyOf Tryd.f120
theorem csstok_escape.e (w0 : World) (k : Nat) : ∀ v, (fun v => csstok_escape k v) v = runK (cfg w0 (tab11 k)) Tryd.f120.ntmps (csstok_escape.kr w0 k) (annot (csstok_escape.cuts w0 k) csstok_escape.body) (entry (io1.enc v).1 (io1.enc v).2) (endK (csstok_escape.kr w0 k)) := by
  intro v; kernel_rfl
theorem csstok_escape.hb : Tryd.f120.body = some csstok_escape.body := by kernel_rfl
def tab12 (k : Nat) : Tab T := addTab 120 (line io1 io2 false (fun v => csstok_escape k v)) (tab11 k)
def csstok_name.c7 (k : Nat) : Nat → (List UInt8) → Int → (List UInt8) → (Int → (List UInt8) → Option ((List UInt8) × Int)) → Option ((List UInt8) × Int)
  | 0, _, _, _, _ => none
  | n + 1, x2, x3, x4, k0 =>
    let v5 : Bool := (decide (x3 < (x2.length : Int)))
    cond v5 (
    cond (decide (0 ≤ x3 ∧ x3 ≤ (x2.length : Int))) (
    (csstok_escape k (x2.drop x3.toNat)).bind fun r6 =>
    cond r6 (
    let v7 : Int := (IntKind.wrap .i64 (x3 + (1 : Int)))
    cond (decide (0 ≤ v7 ∧ v7 < (x2.length : Int))) (
    let v8 : Int := ((x2.getD v7.toNat 0).toNat : Int)
    (f__strings_Builder__WriteByte k v8 x4).bind fun r9 =>
    let v10 : Int := (IntKind.wrap .i64 (x3 + (2 : Int)))
    csstok_name.c7 k n x2 v10 r9 k0) none) (
    cond (decide (0 ≤ x3 ∧ x3 < (x2.length : Int))) (
    let v11 : Int := ((x2.getD x3.toNat 0).toNat : Int)
    (csstok_sign k v11).bind fun r12 =>
    cond r12 (
    cond (decide (0 ≤ x3 ∧ x3 < (x2.length : Int))) (
    let v13 : Int := ((x2.getD x3.toNat 0).toNat : Int)
    (f__strings_Builder__WriteByte k v13 x4).bind fun r14 =>
    let v15 : Int := (IntKind.wrap .i64 (x3 + (1 : Int)))
    csstok_name.c7 k n x2 v15 r14 k0) none) (
    (f__strings_Builder__String k x4).bind fun r16 =>
    some (r16.1, x3))) none)) none) (
    k0 x3 x4)
def csstok_name (k : Nat) (a1 : List UInt8) : Option ((List UInt8) × Int) :=
csstok_name.c7 k k a1 (0 : Int) ([] : List UInt8) (fun (y17 : Int) (y18 : List UInt8) =>
(f__strings_Builder__String k y18).bind fun r19 =>
some (r19.1, y17))
def csstok_name.kr (w0 : World) (k : Nat) : Kr T ((List UInt8) × Int) := (kret (retK (cfg w0 (tab12 k)) Tryd.f168.results.toList 0 [] io13.pat))
def csstok_name.x7 : Ex → Option (List Nat × List Sp)
  | .exit 0 => some ([4, 5], [])
  | _ => none
def csstok_name.L7 (k : Nat) (n : Nat) (v : (List UInt8) × Int × (List UInt8)) (K : Ex → St T → Option ((List UInt8) × Int)) : Option ((List UInt8) × Int) := csstok_name.c7 k n v.1 v.2.1 v.2.2 (fun y19 y20 => K (.exit 0) (mkSt [4, 5] (io15.enc (y19, y20))))
def csstok_name.cuts (w0 : World) (k : Nat) : Cuts T ((List UInt8) × Int) := fun n => bif n.beq 7 then some (entK (cfg w0 (tab12 k)) 0 [0, 4, 5] [] io14.pat (csstok_name.L7 k k)) else none
def csstok_name.body : Code := bodyOf Tryd.f168
def csstok_name.b7 : Code := findD 7 csstok_name.body
theorem csstok_name.s7 (w0 : World) (k : Nat) : ∀ n v K, csstok_name.L7 k (n + 1) v K = runK (cfg w0 (tab12 k)) Tryd.f168.ntmps (csstok_name.kr w0 k) (annot (csstok_name.cuts w0 k) csstok_name.b7) (mkSt [0, 4, 5] (io14.enc v)) (loopK (cfg w0 (tab12 k)) 0 csstok_name.x7 (entK (cfg w0 (tab12 k)) 0 [0, 4, 5] [] io14.pat (csstok_name.L7 k n)) K) := by
  intro n v K; kernel_rfl
theorem csstok_name.e (w0 : World) (k : Nat) : ∀ v, (fun v => csstok_name k v) v = runK (cfg w0 (tab12 k)) Tryd.f168.ntmps (csstok_name.kr w0 k) (annot (csstok_name.cuts w0 k) csstok_name.body) (entry (io1.enc v).1 (io1.enc v).2) (endK (csstok_name.kr w0 k)) := by
  intro v; kernel_rfl
theorem csstok_name.hb : Tryd.f168.body = some csstok_name.body := by kernel_rfl
def tab13 (k : Nat) : Tab T := addTab 168 (line io1 io13 ([], (0 : Int)) (fun v => csstok_name k v)) (tab12 k)
def csstok_named (k : Nat) (a1 : Int) (a2 : List UInt8) (a3 : Int) : Option (Int × (List UInt8) × (List UInt8) × Int) :=
cond (decide (0 ≤ a3 ∧ a3 ≤ (a2.length : Int))) (
(csstok_name k (a2.drop a3.toNat)).bind fun r4 =>
let v5 : Int := (IntKind.wrap .i64 (a3 + r4.2))
cond (decide (0 ≤ v5 ∧ v5 ≤ (a2.length : Int))) (
some (a1, (a2.take v5.toNat), r4.1, (0 : Int))) none) none
def csstok_named.kr (w0 : World) (k : Nat) : Kr T (Int × (List UInt8) × (List UInt8) × Int) := (kret (retK (cfg w0 (tab13 k)) Tryd.f121.results.toList 0 [] io9.pat))
def csstok_named.cuts (w0 : World) (k : Nat) : Cuts T (Int × (List UInt8) × (List UInt8) × Int) := fun n => none
def csstok_named.body : Code := bodyOf Tryd.f121
theorem csstok_named.e (w0 : World) (k : Nat) : ∀ v, (fun v => csstok_named k v.1 v.2.1 v.2.2) v = runK (cfg w0 (tab13 k)) Tryd.f121.ntmps (csstok_named.kr w0 k) (annot (csstok_named.cuts w0 k) csstok_named.body) (entry (io16.enc v).1 (io16.enc v).2) (endK (csstok_named.kr w0 k)) := by
  intro v; kernel_rfl
theorem csstok_named.hb : Tryd.f121.body = some csstok_named.body := by kernel_rfl
def tab14 (k : Nat) : Tab T := addTab 121 (line io16 io9 ((0 : Int), [], [], (0 : Int)) (fun v => csstok_named k v.1 v.2.1 v.2.2)) (tab13 k)
def csstok_begins (k : Nat) (a1 : List UInt8) : Option (Bool) :=
cond (a1 == ([] : List UInt8)) (
some false) (
cond (decide (0 ≤ (0 : Int) ∧ (0 : Int) < (a1.length : Int))) (
let v2 : Int := ((a1.getD (0 : Int).toNat 0).toNat : Int)
let v3 : Bool := (decide ((a1.length : Int) > (1 : Int)))
let v4 : Bool := (cond (v2 == (45 : Int)) v3 false)
cond v4 (
cond (decide (0 ≤ (1 : Int) ∧ (1 : Int) < (a1.length : Int))) (
let v5 : Int := ((a1.getD (1 : Int).toNat 0).toNat : Int)
cond ((decide (0 ≤ (1 : Int) ∧ (1 : Int) < (a1.length : Int))) || !(!(v5 == (45 : Int)))) (
let v6 : Int := ((a1.getD (1 : Int).toNat 0).toNat : Int)
(cond (!(v5 == (45 : Int))) (csstok_starts k v6) (some false)).bind fun r7 =>
let v8 : Bool := (cond (v5 == (45 : Int)) true r7)
cond ((decide (0 ≤ (1 : Int) ∧ (1 : Int) ≤ (a1.length : Int))) || !(!v8)) (
(cond (!v8) (csstok_escape k (a1.drop (1 : Int).toNat)) (some false)).bind fun r9 =>
some (cond v8 true r9)) none) none) none) (
cond (decide (0 ≤ (0 : Int) ∧ (0 : Int) < (a1.length : Int))) (
let v10 : Int := ((a1.getD (0 : Int).toNat 0).toNat : Int)
(csstok_starts k v10).bind fun r11 =>
(cond (!r11) (csstok_escape k a1) (some false)).bind fun r12 =>
some (cond r11 true r12)) none)) none)
def csstok_begins.kr (w0 : World) (k : Nat) : Kr T (Bool) := (kret (retK (cfg w0 (tab14 k)) Tryd.f122.results.toList 0 [] io2.pat))
def csstok_begins.cuts (w0 : World) (k : Nat) : Cuts T (Bool) := fun n => none
def csstok_begins.body : Code := bodyOf Tryd.f122
theorem csstok_begins.e (w0 : World) (k : Nat) : ∀ v, (fun v => csstok_begins k v) v = runK (cfg w0 (tab14 k)) Tryd.f122.ntmps (csstok_begins.kr w0 k) (annot (csstok_begins.cuts w0 k) csstok_begins.body) (entry (io1.enc v).1 (io1.enc v).2) (endK (csstok_begins.kr w0 k)) := by
  intro v; kernel_rfl
theorem csstok_begins.hb : Tryd.f122.body = some csstok_begins.body := by kernel_rfl
def tab15 (k : Nat) : Tab T := addTab 122 (line io1 io2 false (fun v => csstok_begins k v)) (tab14 k)
def csstok_digits (k : Nat) (a1 : List UInt8) : Option (Int) :=
(strings_TrimLeft k a1 ([48, 49, 50, 51, 52, 53, 54, 55, 56, 57] : List UInt8)).bind fun r2 =>
let v3 : Int := (IntKind.wrap .i64 ((a1.length : Int) - (r2.length : Int)))
some v3
def csstok_digits.kr (w0 : World) (k : Nat) : Kr T (Int) := (kret (retK (cfg w0 (tab15 k)) Tryd.f169.results.toList 0 [] io4.pat))
def csstok_digits.cuts (w0 : World) (k : Nat) : Cuts T (Int) := fun n => none
def csstok_digits.body : Code := bodyOf Tryd.f169
theorem csstok_digits.e (w0 : World) (k : Nat) : ∀ v, (fun v => csstok_digits k v) v = runK (cfg w0 (tab15 k)) Tryd.f169.ntmps (csstok_digits.kr w0 k) (annot (csstok_digits.cuts w0 k) csstok_digits.body) (entry (io1.enc v).1 (io1.enc v).2) (endK (csstok_digits.kr w0 k)) := by
  intro v; kernel_rfl
theorem csstok_digits.hb : Tryd.f169.body = some csstok_digits.body := by kernel_rfl
def tab16 (k : Nat) : Tab T := addTab 169 (line io1 io4 (0 : Int) (fun v => csstok_digits k v)) (tab15 k)
def strings_HasPrefix (k : Nat) (a1 : List UInt8) (a2 : List UInt8) : Option (Bool) :=
(stringslite_HasPrefix k a1 a2).bind fun r3 =>
some r3
def strings_HasPrefix.kr (w0 : World) (k : Nat) : Kr T (Bool) := (kret (retK (cfg w0 (tab16 k)) Tryd.f125.results.toList 0 [] io2.pat))
def strings_HasPrefix.cuts (w0 : World) (k : Nat) : Cuts T (Bool) := fun n => none
def strings_HasPrefix.body : Code := bodyOf Tryd.f125
theorem strings_HasPrefix.e (w0 : World) (k : Nat) : ∀ v, (fun v => strings_HasPrefix k v.1 v.2) v = runK (cfg w0 (tab16 k)) Tryd.f125.ntmps (strings_HasPrefix.kr w0 k) (annot (strings_HasPrefix.cuts w0 k) strings_HasPrefix.body) (entry (io0.enc v).1 (io0.enc v).2) (endK (strings_HasPrefix.kr w0 k)) := by
  intro v; kernel_rfl
theorem strings_HasPrefix.hb : Tryd.f125.body = some strings_HasPrefix.body := by kernel_rfl
def tab17 (k : Nat) : Tab T := addTab 125 (line io0 io2 false (fun v => strings_HasPrefix k v.1 v.2)) (tab16 k)
def csstok_Number_1 (k : Nat) (a1 : Int) (a2 : Int) : Option (Int) :=
let v3 : Int := (IntKind.wrap .i64 ((10 : Int) * a2))
let v4 : Int := (IntKind.wrap .u8 (a1 - (48 : Int)))
let v5 : Int := (IntKind.wrap .i64 (v3 + (IntKind.wrap .i64 v4)))
let v6 : Int := (if (1000000000 : Int) < v5 then (1000000000 : Int) else v5)
some v6
def csstok_Number_1.kr (w0 : World) (k : Nat) : Kr T (Int) := (kret (retK (cfg w0 (tab17 k)) Tryd.f170.results.toList 1 [] io18.pat))
def csstok_Number_1.cuts (w0 : World) (k : Nat) : Cuts T (Int) := fun n => none
def csstok_Number_1.body : Code := bodyOf Tryd.f170
theorem csstok_Number_1.e (w0 : World) (k : Nat) : ∀ v, (fun v => csstok_Number_1 k v.1 v.2) v = runK (cfg w0 (tab17 k)) Tryd.f170.ntmps (csstok_Number_1.kr w0 k) (annot (csstok_Number_1.cuts w0 k) csstok_Number_1.body) (entry (io17.enc v).1 (io17.enc v).2) (endK (csstok_Number_1.kr w0 k)) := by
  intro v; kernel_rfl
theorem csstok_Number_1.hb : Tryd.f170.body = some csstok_Number_1.body := by kernel_rfl
def tab18 (k : Nat) : Tab T := addTab 170 (line io17 io18 (0 : Int) (fun v => csstok_Number_1 k v.1 v.2)) (tab17 k)
def csstok_Number.c29 (k : Nat) : Nat → (List UInt8) → Int → Int → Int → Int → Int → Int → (List Int) → ((List UInt8) → Int → Int → Int → Int → Option (Int × Int)) → Option (Int × Int)
  | 0, _, _, _, _, _, _, _, _, _ => none
  | n + 1, x19, x20, x21, x22, x23, x24, x25, x26, k0 =>
    cond (decide (x24 < x23)) (
    cond (decide (0 ≤ x24 ∧ x24 < (x26.length : Int))) (
    (csstok_Number_1 k (x26.getD x24.toNat (0 : Int)) x25).bind fun r27 =>
    let v28 : Int := (IntKind.wrap .i64 (x24 + (1 : Int)))
    csstok_Number.c29 k n x19 x20 x21 x22 x23 v28 r27 x26 k0) none) (
    k0 x19 x20 x21 x22 x25)
def csstok_Number.c49 (k : Nat) : Nat → (List UInt8) → Int → (List UInt8) → Int → Int → ((List UInt8) → Int → Int → Option (Int × Int)) → Option (Int × Int)
  | 0, _, _, _, _, _, _ => none
  | n + 1, x45, x46, x47, x48, x49, k2 =>
    cond (decide (x48 < (3 : Int))) (
    let v50 : Bool := (decide (x48 < (x47.length : Int)))
    cond v50 (
    cond (decide (0 ≤ x48 ∧ x48 < (x47.length : Int))) (
    let v51 : Int := ((x47.getD x48.toNat 0).toNat : Int)
    (csstok_Number_1 k v51 x49).bind fun r52 =>
    let v53 : Int := (IntKind.wrap .i64 (x48 + (1 : Int)))
    csstok_Number.c49 k n x45 x46 x47 v53 r52 k2) none) (
    (csstok_Number_1 k (48 : Int) x49).bind fun r54 =>
    let v55 : Int := (IntKind.wrap .i64 (x48 + (1 : Int)))
    csstok_Number.c49 k n x45 x46 x47 v55 r54 k2)) (
    k2 x45 x46 x49)
def csstok_Number.c64 (k : Nat) (x60 : Int) (x61 : Int)  : Option (Int × Int) :=
some (x61, x60)
def csstok_Number.c46 (k : Nat) (x41 : List UInt8) (x42 : Int) (x43 : List UInt8) (x44 : Int)  : Option (Int × Int) :=
csstok_Number.c49 k k x41 x42 x43 (0 : Int) x44 (fun (y56 : List UInt8) (y57 : Int) (y58 : Int) =>
cond (decide (0 ≤ (0 : Int) ∧ (0 : Int) < (y56.length : Int))) (
let v59 : Int := ((y56.getD (0 : Int).toNat 0).toNat : Int)
cond (v59 == (45 : Int)) (
csstok_Number.c64 k y57 (IntKind.wrap .i64 (0 - y58))) (
csstok_Number.c64 k y57 y58)) none)
def csstok_Number.c18 (k : Nat) (x12 : List UInt8) (x13 : Int) (x14 : Int) (x15 : Int)  : Option (Int × Int) :=
let v16 : Int := (IntKind.wrap .i64 (x14 + x15))
cond (v16 == (0 : Int)) (
some ((0 : Int), (0 : Int))) (
let v17 : Int := (IntKind.wrap .i64 (x13 + x14))
cond (decide (0 ≤ x13 ∧ x13 ≤ v17 ∧ v17 ≤ (x12.length : Int))) (
let v18 : List UInt8 := ((x12.take v17.toNat).drop x13.toNat)
csstok_Number.c29 k k x12 x13 x14 x15 ((bytesI v18).length : Int) (0 : Int) (0 : Int) (bytesI v18) (fun (y29 : List UInt8) (y30 : Int) (y31 : Int) (y32 : Int) (y33 : Int) =>
let v34 : Int := (IntKind.wrap .i64 (y30 + y31))
cond (decide (y32 > (0 : Int))) (
let v35 : Int := (IntKind.wrap .i64 (v34 + (1 : Int)))
let v36 : Int := (IntKind.wrap .i64 (v34 + (1 : Int)))
let v37 : Int := (IntKind.wrap .i64 (v36 + y32))
cond (decide (0 ≤ v35 ∧ v35 ≤ v37 ∧ v37 ≤ (y29.length : Int))) (
let v38 : List UInt8 := ((y29.take v37.toNat).drop v35.toNat)
let v39 : Int := (IntKind.wrap .i64 ((1 : Int) + y32))
let v40 : Int := (IntKind.wrap .i64 (v34 + v39))
csstok_Number.c46 k y29 v40 v38 y33) none) (
csstok_Number.c46 k y29 v34 ([] : List UInt8) y33))) none)
def csstok_Number.c8 (k : Nat) (x6 : List UInt8) (x7 : Int)  : Option (Int × Int) :=
cond (decide (0 ≤ x7 ∧ x7 ≤ (x6.length : Int))) (
(csstok_digits k (x6.drop x7.toNat)).bind fun r8 =>
cond (decide (0 ≤ (IntKind.wrap .i64 (x7 + r8)) ∧ (IntKind.wrap .i64 (x7 + r8)) ≤ (x6.length : Int))) (
let v9 : List UInt8 := (x6.drop (IntKind.wrap .i64 (x7 + r8)).toNat)
(strings_HasPrefix k v9 ([46] : List UInt8)).bind fun r10 =>
cond r10 (
cond (decide (0 ≤ (1 : Int) ∧ (1 : Int) ≤ (v9.length : Int))) (
(csstok_digits k (v9.drop (1 : Int).toNat)).bind fun r11 =>
csstok_Number.c18 k x6 x7 r8 r11) none) (
csstok_Number.c18 k x6 x7 r8 (0 : Int))) none) none
def csstok_Number (k : Nat) (a1 : List UInt8) : Option (Int × Int) :=
cond ((decide (0 ≤ (0 : Int) ∧ (0 : Int) < (a1.length : Int))) || !(!(a1 == ([] : List UInt8)))) (
let v2 : Int := ((a1.getD (0 : Int).toNat 0).toNat : Int)
cond ((decide (0 ≤ (0 : Int) ∧ (0 : Int) < (a1.length : Int))) || !((!(a1 == ([] : List UInt8))) && (!(v2 == (43 : Int))))) (
let v3 : Int := ((a1.getD (0 : Int).toNat 0).toNat : Int)
let v4 : Bool := (cond (v2 == (43 : Int)) true (v3 == (45 : Int)))
let v5 : Bool := (cond (!(a1 == ([] : List UInt8))) v4 false)
cond v5 (
csstok_Number.c8 k a1 (1 : Int)) (
csstok_Number.c8 k a1 (0 : Int))) none) none
def csstok_Number.kr (w0 : World) (k : Nat) : Kr T (Int × Int) := (kret (retK (cfg w0 (tab18 k)) Tryd.f123.results.toList 0 [] io19.pat))
def csstok_Number.x29 : Ex → Option (List Nat × List Sp)
  | .exit 0 => some ([0, 4, 5, 6, 8, 9], [])
  | _ => none
def csstok_Number.L29 (k : Nat) (n : Nat) (v : (List UInt8) × Int × Int × Int × Int × Int × Int × (List Int)) (K : Ex → St T → Option (Int × Int)) : Option (Int × Int) := csstok_Number.c29 k n v.1 v.2.1 v.2.2.1 v.2.2.2.1 v.2.2.2.2.1 v.2.2.2.2.2.1 v.2.2.2.2.2.2.1 v.2.2.2.2.2.2.2 (fun y21 y22 y23 y24 y25 => K (.exit 0) (mkSt [0, 4, 5, 6, 8, 9] (io21.enc (y21, y22, y23, y24, y25))))
def csstok_Number.x49 : Ex → Option (List Nat × List Sp)
  | .exit 2 => some ([0, 8, 12], [])
  | _ => none
def csstok_Number.L49 (k : Nat) (n : Nat) (v : (List UInt8) × Int × (List UInt8) × Int × Int) (K : Ex → St T → Option (Int × Int)) : Option (Int × Int) := csstok_Number.c49 k n v.1 v.2.1 v.2.2.1 v.2.2.2.1 v.2.2.2.2 (fun y26 y27 y28 => K (.exit 2) (mkSt [0, 8, 12] (io23.enc (y26, y27, y28))))
def csstok_Number.x64 : Ex → Option (List Nat × List Sp)
  | _ => none
def csstok_Number.L64 (k : Nat) (v : Int × Int) (K : Ex → St T → Option (Int × Int)) : Option (Int × Int) := csstok_Number.c64 k v.1 v.2
def csstok_Number.x46 : Ex → Option (List Nat × List Sp)
  | _ => none
def csstok_Number.L46 (k : Nat) (v : (List UInt8) × Int × (List UInt8) × Int) (K : Ex → St T → Option (Int × Int)) : Option (Int × Int) := csstok_Number.c46 k v.1 v.2.1 v.2.2.1 v.2.2.2
def csstok_Number.x18 : Ex → Option (List Nat × List Sp)
  | _ => none
def csstok_Number.L18 (k : Nat) (v : (List UInt8) × Int × Int × Int) (K : Ex → St T → Option (Int × Int)) : Option (Int × Int) := csstok_Number.c18 k v.1 v.2.1 v.2.2.1 v.2.2.2
def csstok_Number.x8 : Ex → Option (List Nat × List Sp)
  | _ => none
def csstok_Number.L8 (k : Nat) (v : (List UInt8) × Int) (K : Ex → St T → Option (Int × Int)) : Option (Int × Int) := csstok_Number.c8 k v.1 v.2
def csstok_Number.cuts (w0 : World) (k : Nat) : Cuts T (Int × Int) := fun n => bif n.beq 29 then some (entK (cfg w0 (tab18 k)) 0 [0, 4, 5, 6, 8, 9, 52, 53, 54] [] io20.pat (csstok_Number.L29 k k)) else bif n.beq 49 then some (entK (cfg w0 (tab18 k)) 0 [0, 8, 9, 12, 13, 79] [] io22.pat (csstok_Number.L49 k k)) else bif n.beq 64 then some (entK (cfg w0 (tab18 k)) 0 [8, 12] [] io24.pat (csstok_Number.L64 k)) else bif n.beq 46 then some (entK (cfg w0 (tab18 k)) 0 [0, 8, 9, 12, 13] [] io25.pat (csstok_Number.L46 k)) else bif n.beq 18 then some (entK (cfg w0 (tab18 k)) 0 [0, 4, 5, 6] [] io26.pat (csstok_Number.L18 k)) else bif n.beq 8 then some (entK (cfg w0 (tab18 k)) 0 [0, 4] [] io13.pat (csstok_Number.L8 k)) else none
def csstok_Number.body : Code := bodyOf Tryd.f123
def csstok_Number.b29 : Code := findD 29 csstok_Number.body
theorem csstok_Number.s29 (w0 : World) (k : Nat) : ∀ n v K, csstok_Number.L29 k (n + 1) v K = runK (cfg w0 (tab18 k)) Tryd.f123.ntmps (csstok_Number.kr w0 k) (annot (csstok_Number.cuts w0 k) csstok_Number.b29) (mkSt [0, 4, 5, 6, 8, 9, 52, 53, 54] (io20.enc v)) (loopK (cfg w0 (tab18 k)) 0 csstok_Number.x29 (entK (cfg w0 (tab18 k)) 0 [0, 4, 5, 6, 8, 9, 52, 53, 54] [] io20.pat (csstok_Number.L29 k n)) K) := by
  intro n v K; kernel_rfl
def csstok_Number.b49 : Code := findD 49 csstok_Number.body
theorem csstok_Number.s49 (w0 : World) (k : Nat) : ∀ n v K, csstok_Number.L49 k (n + 1) v K = runK (cfg w0 (tab18 k)) Tryd.f123.ntmps (csstok_Number.kr w0 k) (annot (csstok_Number.cuts w0 k) csstok_Number.b49) (mkSt [0, 8, 9, 12, 13, 79] (io22.enc v)) (loopK (cfg w0 (tab18 k)) 0 csstok_Number.x49 (entK (cfg w0 (tab18 k)) 0 [0, 8, 9, 12, 13, 79] [] io22.pat (csstok_Number.L49 k n)) K) := by
  intro n v K; kernel_rfl
def csstok_Number.b64 : Code := findD 64 csstok_Number.body
theorem csstok_Number.s64 (w0 : World) (k : Nat) : ∀ v K, csstok_Number.L64 k v K = runK (cfg w0 (tab18 k)) Tryd.f123.ntmps (csstok_Number.kr w0 k) (annot (csstok_Number.cuts w0 k) csstok_Number.b64) (mkSt [8, 12] (io24.enc v)) (outK (cfg w0 (tab18 k)) 0 csstok_Number.x64 K) := by
  intro v K; kernel_rfl
def csstok_Number.b46 : Code := findD 46 csstok_Number.body
theorem csstok_Number.s46 (w0 : World) (k : Nat) : ∀ v K, csstok_Number.L46 k v K = runK (cfg w0 (tab18 k)) Tryd.f123.ntmps (csstok_Number.kr w0 k) (annot (csstok_Number.cuts w0 k) csstok_Number.b46) (mkSt [0, 8, 9, 12, 13] (io25.enc v)) (outK (cfg w0 (tab18 k)) 0 csstok_Number.x46 K) := by
  intro v K; kernel_rfl
def csstok_Number.b18 : Code := findD 18 csstok_Number.body
theorem csstok_Number.s18 (w0 : World) (k : Nat) : ∀ v K, csstok_Number.L18 k v K = runK (cfg w0 (tab18 k)) Tryd.f123.ntmps (csstok_Number.kr w0 k) (annot (csstok_Number.cuts w0 k) csstok_Number.b18) (mkSt [0, 4, 5, 6] (io26.enc v)) (outK (cfg w0 (tab18 k)) 0 csstok_Number.x18 K) := by
  intro v K; kernel_rfl
def csstok_Number.b8 : Code := findD 8 csstok_Number.body
theorem csstok_Number.s8 (w0 : World) (k : Nat) : ∀ v K, csstok_Number.L8 k v K = runK (cfg w0 (tab18 k)) Tryd.f123.ntmps (csstok_Number.kr w0 k) (annot (csstok_Number.cuts w0 k) csstok_Number.b8) (mkSt [0, 4] (io13.enc v)) (outK (cfg w0 (tab18 k)) 0 csstok_Number.x8 K) := by
  intro v K; kernel_rfl
theorem csstok_Number.e (w0 : World) (k : Nat) : ∀ v, (fun v => csstok_Number k v) v = runK (cfg w0 (tab18 k)) Tryd.f123.ntmps (csstok_Number.kr w0 k) (annot (csstok_Number.cuts w0 k) csstok_Number.body) (entry (io1.enc v).1 (io1.enc v).2) (endK (csstok_Number.kr w0 k)) := by
  intro v; kernel_rfl
theorem csstok_Number.hb : Tryd.f123.body = some csstok_Number.body := by kernel_rfl
def tab19 (k : Nat) : Tab T := addTab 123 (line io1 io19 ((0 : Int), (0 : Int)) (fun v => csstok_Number k v)) (tab18 k)
def csstok_lower.c7 (k : Nat) : Nat → Int → Int → (List Int) → ((List Int) → Option (List UInt8)) → Option (List UInt8)
  | 0, _, _, _, _ => none
  | n + 1, x2, x3, x4, k0 =>
    cond (decide (x3 < x2)) (
    cond (decide (0 ≤ x3 ∧ x3 < (x4.length : Int))) (
    let v5 : Bool := (decide ((x4.getD x3.toNat (0 : Int)) ≥ (65 : Int)))
    let v6 : Bool := (decide ((x4.getD x3.toNat (0 : Int)) ≤ (90 : Int)))
    cond (cond v5 v6 false) (
    let v7 : Int := (IntKind.wrap .u8 ((x4.getD x3.toNat (0 : Int)) + (32 : Int)))
    cond (decide (0 ≤ x3 ∧ x3 < (x4.length : Int))) (
    let v8 : Int := (IntKind.wrap .i64 (x3 + (1 : Int)))
    csstok_lower.c7 k n x2 v8 (x4.set x3.toNat v7) k0) none) (
    let v9 : Int := (IntKind.wrap .i64 (x3 + (1 : Int)))
    csstok_lower.c7 k n x2 v9 x4 k0)) none) (
    k0 x4)
def csstok_lower (k : Nat) (a1 : List UInt8) : Option (List UInt8) :=
csstok_lower.c7 k k ((bytesI a1).length : Int) (0 : Int) (bytesI a1) (fun (y10 : List Int) =>
some (bytesU y10))
def csstok_lower.kr (w0 : World) (k : Nat) : Kr T (List UInt8) := (kret (retK (cfg w0 (tab19 k)) Tryd.f171.results.toList 0 [] io1.pat))
def csstok_lower.x7 : Ex → Option (List Nat × List Sp)
  | .exit 0 => some ([3], [])
  | _ => none
def csstok_lower.L7 (k : Nat) (n : Nat) (v : Int × Int × (List Int)) (K : Ex → St T → Option (List UInt8)) : Option (List UInt8) := csstok_lower.c7 k n v.1 v.2.1 v.2.2 (fun y29 => K (.exit 0) (mkSt [3] (io28.enc y29)))
def csstok_lower.cuts (w0 : World) (k : Nat) : Cuts T (List UInt8) := fun n => bif n.beq 7 then some (entK (cfg w0 (tab19 k)) 0 [3, 8, 9, 10] [] io27.pat (csstok_lower.L7 k k)) else none
def csstok_lower.body : Code := bodyOf Tryd.f171
def csstok_lower.b7 : Code := findD 7 csstok_lower.body
theorem csstok_lower.s7 (w0 : World) (k : Nat) : ∀ n v K, csstok_lower.L7 k (n + 1) v K = runK (cfg w0 (tab19 k)) Tryd.f171.ntmps (csstok_lower.kr w0 k) (annot (csstok_lower.cuts w0 k) csstok_lower.b7) (mkSt [3, 8, 9, 10] (io27.enc v)) (loopK (cfg w0 (tab19 k)) 0 csstok_lower.x7 (entK (cfg w0 (tab19 k)) 0 [3, 8, 9, 10] [] io27.pat (csstok_lower.L7 k n)) K) := by
  intro n v K; kernel_rfl
theorem csstok_lower.e (w0 : World) (k : Nat) : ∀ v, (fun v => csstok_lower k v) v = runK (cfg w0 (tab19 k)) Tryd.f171.ntmps (csstok_lower.kr w0 k) (annot (csstok_lower.cuts w0 k) csstok_lower.body) (entry (io1.enc v).1 (io1.enc v).2) (endK (csstok_lower.kr w0 k)) := by
  intro v; kernel_rfl
theorem csstok_lower.hb : Tryd.f171.body = some csstok_lower.body := by kernel_rfl
def tab20 (k : Nat) : Tab T := addTab 171 (line io1 io1 [] (fun v => csstok_lower k v)) (tab19 k)
def csstok_number.c16 (k : Nat) (x6 : Int) (x7 : List UInt8) (x8 : List UInt8) (x9 : Int) (x10 : Int) (x11 : List UInt8) (x12 : List UInt8) (x13 : Int)  : Option (Int × (List UInt8) × (List UInt8) × Int) :=
some (x10, x11, x12, x13)
def csstok_number (k : Nat) (a1 : List UInt8) (a2 : Int) (a3 : Int) : Option (Int × (List UInt8) × (List UInt8) × Int) :=
cond (decide (0 ≤ a3 ∧ a3 ≤ (a1.length : Int))) (
cond (decide (0 ≤ a3 ∧ a3 ≤ (a1.length : Int))) (
(strings_HasPrefix k (a1.drop a3.toNat) ([37] : List UInt8)).bind fun r4 =>
cond r4 (
let v5 : Int := (IntKind.wrap .i64 (a3 + (1 : Int)))
cond (decide (0 ≤ v5 ∧ v5 ≤ (a1.length : Int))) (
csstok_number.c16 k (0 : Int) ([]) ([]) (0 : Int) (7 : Int) (a1.take v5.toNat) ([37] : List UInt8) a2) none) (
(csstok_begins k (a1.drop a3.toNat)).bind fun r14 =>
cond r14 (
(csstok_name k (a1.drop a3.toNat)).bind fun r15 =>
let v16 : Int := (IntKind.wrap .i64 (a3 + r15.2))
cond (decide (0 ≤ v16 ∧ v16 ≤ (a1.length : Int))) (
(csstok_lower k r15.1).bind fun r17 =>
csstok_number.c16 k (0 : Int) ([]) ([]) (0 : Int) (7 : Int) (a1.take v16.toNat) r17 a2) none) (
csstok_number.c16 k (0 : Int) ([]) ([]) (0 : Int) (7 : Int) (a1.take a3.toNat) ([]) a2))) none) none
def csstok_number.kr (w0 : World) (k : Nat) : Kr T (Int × (List UInt8) × (List UInt8) × Int) := (kret (retK (cfg w0 (tab20 k)) Tryd.f124.results.toList 0 [] io9.pat))
def csstok_number.x16 : Ex → Option (List Nat × List Sp)
  | _ => none
def csstok_number.L16 (k : Nat) (v : Int × (List UInt8) × (List UInt8) × Int × Int × (List UInt8) × (List UInt8) × Int) (K : Ex → St T → Option (Int × (List UInt8) × (List UInt8) × Int)) : Option (Int × (List UInt8) × (List UInt8) × Int) := csstok_number.c16 k v.1 v.2.1 v.2.2.1 v.2.2.2.1 v.2.2.2.2.1 v.2.2.2.2.2.1 v.2.2.2.2.2.2.1 v.2.2.2.2.2.2.2
def csstok_number.cuts (w0 : World) (k : Nat) : Cuts T (Int × (List UInt8) × (List UInt8) × Int) := fun n => bif n.beq 16 then some (entK (cfg w0 (tab20 k)) 0 [6, 7] [] io30.pat (csstok_number.L16 k)) else none
def csstok_number.body : Code := bodyOf Tryd.f124
def csstok_number.b16 : Code := findD 16 csstok_number.body
theorem csstok_number.s16 (w0 : World) (k : Nat) : ∀ v K, csstok_number.L16 k v K = runK (cfg w0 (tab20 k)) Tryd.f124.ntmps (csstok_number.kr w0 k) (annot (csstok_number.cuts w0 k) csstok_number.b16) (mkSt [6, 7] (io30.enc v)) (outK (cfg w0 (tab20 k)) 0 csstok_number.x16 K) := by
  intro v K; kernel_rfl
theorem csstok_number.e (w0 : World) (k : Nat) : ∀ v, (fun v => csstok_number k v.1 v.2.1 v.2.2) v = runK (cfg w0 (tab20 k)) Tryd.f124.ntmps (csstok_number.kr w0 k) (annot (csstok_number.cuts w0 k) csstok_number.body) (entry (io29.enc v).1 (io29.enc v).2) (endK (csstok_number.kr w0 k)) := by
  intro v; kernel_rfl
theorem csstok_number.hb : Tryd.f124.body = some csstok_number.body := by kernel_rfl
def tab21 (k : Nat) : Tab T := addTab 124 (line io29 io9 ((0 : Int), [], [], (0 : Int)) (fun v => csstok_number k v.1 v.2.1 v.2.2)) (tab20 k)
def csstok_first_1 (k : Nat) (a1 : Int) (a2 : List UInt8) : Option (Int × (List UInt8) × (List UInt8) × Int × (List UInt8)) :=
cond (decide (0 ≤ (1 : Int) ∧ (1 : Int) ≤ (a2.length : Int))) (
some (a1, (a2.take (1 : Int).toNat), [], (0 : Int), a2)) none
def csstok_first_1.kr (w0 : World) (k : Nat) : Kr T (Int × (List UInt8) × (List UInt8) × Int × (List UInt8)) := (kret (retK (cfg w0 (tab21 k)) Tryd.f116.results.toList 1 [] io32.pat))
def csstok_first_1.cuts (w0 : World) (k : Nat) : Cuts T (Int × (List UInt8) × (List UInt8) × Int × (List UInt8)) := fun n => none
def csstok_first_1.body : Code := bodyOf Tryd.f116
theorem csstok_first_1.e (w0 : World) (k : Nat) : ∀ v, (fun v => csstok_first_1 k v.1 v.2) v = runK (cfg w0 (tab21 k)) Tryd.f116.ntmps (csstok_first_1.kr w0 k) (annot (csstok_first_1.cuts w0 k) csstok_first_1.body) (entry (io31.enc v).1 (io31.enc v).2) (endK (csstok_first_1.kr w0 k)) := by
  intro v; kernel_rfl
theorem csstok_first_1.hb : Tryd.f116.body = some csstok_first_1.body := by kernel_rfl
def tab22 (k : Nat) : Tab T := addTab 116 (line io31 io32 ((0 : Int), [], [], (0 : Int), []) (fun v => csstok_first_1 k v.1 v.2)) (tab21 k)
def csstok_first.c20 (k : Nat) (x7 : List UInt8) (x8 : Int) (x9 : List UInt8) (x10 : List UInt8) (x11 : Int)  : Option (Int × (List UInt8) × (List UInt8) × Int) :=
some ((9 : Int), x7, [], (0 : Int))
def csstok_first.c52 (k : Nat) (x32 : Int) (x33 : List UInt8) (x34 : List UInt8) (x35 : Int) (x36 : Int) (x37 : List UInt8) (x38 : List UInt8) (x39 : Int)  : Option (Int × (List UInt8) × (List UInt8) × Int) :=
some (x36, x37, x38, x39)
def csstok_first.c76 (k : Nat) (x44 : Int) (x45 : List UInt8) (x46 : List UInt8) (x47 : Int) (x48 : List UInt8)  : Option (Int × (List UInt8) × (List UInt8) × Int) :=
(csstok_first_1 k (12 : Int) x48).bind fun r49 =>
some (r49.1, r49.2.1, r49.2.2.1, r49.2.2.2.1)
def csstok_first (k : Nat) (a1 : List UInt8) : Option (Int × (List UInt8) × (List UInt8) × Int) :=
(strings_TrimLeft k a1 ([32, 9, 10, 12, 13] : List UInt8)).bind fun r2 =>
let v3 : Int := (IntKind.wrap .i64 ((a1.length : Int) - (r2.length : Int)))
cond (decide (v3 > (0 : Int))) (
cond (decide (0 ≤ v3 ∧ v3 ≤ (a1.length : Int))) (
some ((8 : Int), (a1.take v3.toNat), [], (0 : Int))) none) (
(strings_CutPrefix k a1 ([47, 42] : List UInt8)).bind fun r4 =>
cond r4.2 (
(strings_Index k r4.1 ([42, 47] : List UInt8)).bind fun r5 =>
cond (decide (r5 ≥ (0 : Int))) (
let v6 : Int := (IntKind.wrap .i64 (r5 + (4 : Int)))
cond (decide (0 ≤ v6 ∧ v6 ≤ (a1.length : Int))) (
csstok_first.c20 k (a1.take v6.toNat) (0 : Int) ([]) ([]) (0 : Int)) none) (
csstok_first.c20 k a1 (0 : Int) ([]) ([]) (0 : Int))) (
cond (decide (0 ≤ (0 : Int) ∧ (0 : Int) < (a1.length : Int))) (
let v12 : Int := ((a1.getD (0 : Int).toNat 0).toNat : Int)
let v13 : Bool := (cond (v12 == (39 : Int)) true (v12 == (34 : Int)))
cond v13 (
(csstok_text k a1).bind fun r14 =>
some (r14.1, r14.2.1, r14.2.2.1, r14.2.2.2)) (
let v15 : Bool := (decide ((a1.length : Int) > (1 : Int)))
let v16 : Bool := (cond (v12 == (35 : Int)) v15 false)
cond ((decide (0 ≤ (1 : Int) ∧ (1 : Int) < (a1.length : Int))) || !v16) (
let v17 : Int := ((a1.getD (1 : Int).toNat 0).toNat : Int)
(cond v16 (csstok_sign k v17) (some false)).bind fun r18 =>
cond ((decide (0 ≤ (1 : Int) ∧ (1 : Int) ≤ (a1.length : Int))) || !(v16 && (!r18))) (
(cond (v16 && (!r18)) (csstok_escape k (a1.drop (1 : Int).toNat)) (some false)).bind fun r19 =>
let v20 : Bool := (cond v16 (cond r18 true r19) false)
cond v20 (
(csstok_named k (4 : Int) a1 (1 : Int)).bind fun r21 =>
some (r21.1, r21.2.1, r21.2.2.1, r21.2.2.2)) (
cond ((decide (0 ≤ (1 : Int) ∧ (1 : Int) ≤ (a1.length : Int))) || !(v12 == (64 : Int))) (
(cond (v12 == (64 : Int)) (csstok_begins k (a1.drop (1 : Int).toNat)) (some false)).bind fun r22 =>
let v23 : Bool := (cond (v12 == (64 : Int)) r22 false)
cond v23 (
(csstok_named k (3 : Int) a1 (1 : Int)).bind fun r24 =>
some (r24.1, r24.2.1, r24.2.2.1, r24.2.2.2)) (
(csstok_Number k a1).bind fun r25 =>
cond (decide (r25.2 > (0 : Int))) (
(csstok_number k a1 r25.1 r25.2).bind fun r26 =>
some (r26.1, r26.2.1, r26.2.2.1, r26.2.2.2)) (
(csstok_begins k a1).bind fun r27 =>
cond r27 (
(csstok_named k (1 : Int) a1 (0 : Int)).bind fun r28 =>
cond (decide (0 ≤ (r28.2.1.length : Int) ∧ (r28.2.1.length : Int) ≤ (a1.length : Int))) (
let v29 : List UInt8 := (a1.drop (r28.2.1.length : Int).toNat)
(strings_HasPrefix k v29 ([40] : List UInt8)).bind fun r30 =>
cond r30 (
let v31 : Int := (IntKind.wrap .i64 ((r28.2.1.length : Int) + (1 : Int)))
cond (decide (0 ≤ v31 ∧ v31 ≤ (a1.length : Int))) (
csstok_first.c52 k (0 : Int) ([]) ([]) (0 : Int) (2 : Int) (a1.take v31.toNat) r28.2.2.1 r28.2.2.2) none) (
csstok_first.c52 k (0 : Int) ([]) ([]) (0 : Int) r28.1 r28.2.1 r28.2.2.1 r28.2.2.2)) none) (
cond (decide (0 ≤ (0 : Int) ∧ (0 : Int) < (a1.length : Int))) (
let v40 : Int := ((a1.getD (0 : Int).toNat 0).toNat : Int)
cond (v40 == (40 : Int)) (
cond (v40 == (40 : Int)) (
(csstok_first_1 k (10 : Int) a1).bind fun r41 =>
some (r41.1, r41.2.1, r41.2.2.1, r41.2.2.2.1)) (
cond (v40 == (41 : Int)) (
cond (v40 == (41 : Int)) (
(csstok_first_1 k (11 : Int) a1).bind fun r42 =>
some (r42.1, r42.2.1, r42.2.2.1, r42.2.2.2.1)) (
cond (v40 == (92 : Int)) (
(csstok_first_1 k (6 : Int) a1).bind fun r43 =>
some (r43.1, r43.2.1, r43.2.2.1, r43.2.2.2.1)) (
csstok_first.c76 k (0 : Int) ([]) ([]) (0 : Int) a1))) (
cond (v40 == (93 : Int)) (
cond (v40 == (93 : Int)) (
(csstok_first_1 k (11 : Int) a1).bind fun r50 =>
some (r50.1, r50.2.1, r50.2.2.1, r50.2.2.2.1)) (
cond (v40 == (92 : Int)) (
(csstok_first_1 k (6 : Int) a1).bind fun r51 =>
some (r51.1, r51.2.1, r51.2.2.1, r51.2.2.2.1)) (
csstok_first.c76 k (0 : Int) ([]) ([]) (0 : Int) a1))) (
cond (v40 == (125 : Int)) (
(csstok_first_1 k (11 : Int) a1).bind fun r52 =>
some (r52.1, r52.2.1, r52.2.2.1, r52.2.2.2.1)) (
cond (v40 == (92 : Int)) (
(csstok_first_1 k (6 : Int) a1).bind fun r53 =>
some (r53.1, r53.2.1, r53.2.2.1, r53.2.2.2.1)) (
csstok_first.c76 k (0 : Int) ([]) ([]) (0 : Int) a1)))))) (
cond (v40 == (91 : Int)) (
cond (v40 == (91 : Int)) (
(csstok_first_1 k (10 : Int) a1).bind fun r54 =>
some (r54.1, r54.2.1, r54.2.2.1, r54.2.2.2.1)) (
cond (v40 == (41 : Int)) (
cond (v40 == (41 : Int)) (
(csstok_first_1 k (11 : Int) a1).bind fun r55 =>
some (r55.1, r55.2.1, r55.2.2.1, r55.2.2.2.1)) (
cond (v40 == (92 : Int)) (
(csstok_first_1 k (6 : Int) a1).bind fun r56 =>
some (r56.1, r56.2.1, r56.2.2.1, r56.2.2.2.1)) (
csstok_first.c76 k (0 : Int) ([]) ([]) (0 : Int) a1))) (
cond (v40 == (93 : Int)) (
cond (v40 == (93 : Int)) (
(csstok_first_1 k (11 : Int) a1).bind fun r57 =>
some (r57.1, r57.2.1, r57.2.2.1, r57.2.2.2.1)) (
cond (v40 == (92 : Int)) (
(csstok_first_1 k (6 : Int) a1).bind fun r58 =>
some (r58.1, r58.2.1, r58.2.2.1, r58.2.2.2.1)) (
csstok_first.c76 k (0 : Int) ([]) ([]) (0 : Int) a1))) (
cond (v40 == (125 : Int)) (
(csstok_first_1 k (11 : Int) a1).bind fun r59 =>
some (r59.1, r59.2.1, r59.2.2.1, r59.2.2.2.1)) (
cond (v40 == (92 : Int)) (
(csstok_first_1 k (6 : Int) a1).bind fun r60 =>
some (r60.1, r60.2.1, r60.2.2.1, r60.2.2.2.1)) (
csstok_first.c76 k (0 : Int) ([]) ([]) (0 : Int) a1)))))) (
cond (v40 == (123 : Int)) (
(csstok_first_1 k (10 : Int) a1).bind fun r61 =>
some (r61.1, r61.2.1, r61.2.2.1, r61.2.2.2.1)) (
cond (v40 == (41 : Int)) (
cond (v40 == (41 : Int)) (
(csstok_first_1 k (11 : Int) a1).bind fun r62 =>
some (r62.1, r62.2.1, r62.2.2.1, r62.2.2.2.1)) (
cond (v40 == (92 : Int)) (
(csstok_first_1 k (6 : Int) a1).bind fun r63 =>
some (r63.1, r63.2.1, r63.2.2.1, r63.2.2.2.1)) (
csstok_first.c76 k (0 : Int) ([]) ([]) (0 : Int) a1))) (
cond (v40 == (93 : Int)) (
cond (v40 == (93 : Int)) (
(csstok_first_1 k (11 : Int) a1).bind fun r64 =>
some (r64.1, r64.2.1, r64.2.2.1, r64.2.2.2.1)) (
cond (v40 == (92 : Int)) (
(csstok_first_1 k (6 : Int) a1).bind fun r65 =>
some (r65.1, r65.2.1, r65.2.2.1, r65.2.2.2.1)) (
csstok_first.c76 k (0 : Int) ([]) ([]) (0 : Int) a1))) (
cond (v40 == (125 : Int)) (
(csstok_first_1 k (11 : Int) a1).bind fun r66 =>
some (r66.1, r66.2.1, r66.2.2.1, r66.2.2.2.1)) (
cond (v40 == (92 : Int)) (
(csstok_first_1 k (6 : Int) a1).bind fun r67 =>
some (r67.1, r67.2.1, r67.2.2.1, r67.2.2.2.1)) (
csstok_first.c76 k (0 : Int) ([]) ([]) (0 : Int) a1)))))))) none)))) none)) none) none)) none))
def csstok_first.kr (w0 : World) (k : Nat) : Kr T (Int × (List UInt8) × (List UInt8) × Int) := (kret (retK (cfg w0 (tab22 k)) Tryd.f75.results.toList 0 [] io9.pat))
def csstok_first.x20 : Ex → Option (List Nat × List Sp)
  | _ => none
def csstok_first.L20 (k : Nat) (v : (List UInt8) × Int × (List UInt8) × (List UInt8) × Int) (K : Ex → St T → Option (Int × (List UInt8) × (List UInt8) × Int)) : Option (Int × (List UInt8) × (List UInt8) × Int) := csstok_first.c20 k v.1 v.2.1 v.2.2.1 v.2.2.2.1 v.2.2.2.2
def csstok_first.x52 : Ex → Option (List Nat × List Sp)
  | _ => none
def csstok_first.L52 (k : Nat) (v : Int × (List UInt8) × (List UInt8) × Int × Int × (List UInt8) × (List UInt8) × Int) (K : Ex → St T → Option (Int × (List UInt8) × (List UInt8) × Int)) : Option (Int × (List UInt8) × (List UInt8) × Int) := csstok_first.c52 k v.1 v.2.1 v.2.2.1 v.2.2.2.1 v.2.2.2.2.1 v.2.2.2.2.2.1 v.2.2.2.2.2.2.1 v.2.2.2.2.2.2.2
def csstok_first.x76 : Ex → Option (List Nat × List Sp)
  | _ => none
def csstok_first.L76 (k : Nat) (v : Int × (List UInt8) × (List UInt8) × Int × (List UInt8)) (K : Ex → St T → Option (Int × (List UInt8) × (List UInt8) × Int)) : Option (Int × (List UInt8) × (List UInt8) × Int) := csstok_first.c76 k v.1 v.2.1 v.2.2.1 v.2.2.2.1 v.2.2.2.2
def csstok_first.cuts (w0 : World) (k : Nat) : Cuts T (Int × (List UInt8) × (List UInt8) × Int) := fun n => bif n.beq 20 then some (entK (cfg w0 (tab22 k)) 0 [1, 2] [] io33.pat (csstok_first.L20 k)) else bif n.beq 52 then some (entK (cfg w0 (tab22 k)) 0 [2, 11] [] io30.pat (csstok_first.L52 k)) else bif n.beq 76 then some (entK (cfg w0 (tab22 k)) 0 [2, 3] [] io34.pat (csstok_first.L76 k)) else none
def csstok_first.body : Code := bodyOf Tryd.f75
def csstok_first.b20 : Code := findD 20 csstok_first.body
theorem csstok_first.s20 (w0 : World) (k : Nat) : ∀ v K, csstok_first.L20 k v K = runK (cfg w0 (tab22 k)) Tryd.f75.ntmps (csstok_first.kr w0 k) (annot (csstok_first.cuts w0 k) csstok_first.b20) (mkSt [1, 2] (io33.enc v)) (outK (cfg w0 (tab22 k)) 0 csstok_first.x20 K) := by
  intro v K; kernel_rfl
def csstok_first.b52 : Code := findD 52 csstok_first.body
theorem csstok_first.s52 (w0 : World) (k : Nat) : ∀ v K, csstok_first.L52 k v K = runK (cfg w0 (tab22 k)) Tryd.f75.ntmps (csstok_first.kr w0 k) (annot (csstok_first.cuts w0 k) csstok_first.b52) (mkSt [2, 11] (io30.enc v)) (outK (cfg w0 (tab22 k)) 0 csstok_first.x52 K) := by
  intro v K; kernel_rfl
def csstok_first.b76 : Code := findD 76 csstok_first.body
theorem csstok_first.s76 (w0 : World) (k : Nat) : ∀ v K, csstok_first.L76 k v K = runK (cfg w0 (tab22 k)) Tryd.f75.ntmps (csstok_first.kr w0 k) (annot (csstok_first.cuts w0 k) csstok_first.b76) (mkSt [2, 3] (io34.enc v)) (outK (cfg w0 (tab22 k)) 0 csstok_first.x76 K) := by
  intro v K; kernel_rfl
theorem csstok_first.e (w0 : World) (k : Nat) : ∀ v, (fun v => csstok_first k v) v = runK (cfg w0 (tab22 k)) Tryd.f75.ntmps (csstok_first.kr w0 k) (annot (csstok_first.cuts w0 k) csstok_first.body) (entry (io1.enc v).1 (io1.enc v).2) (endK (csstok_first.kr w0 k)) := by
  intro v; kernel_rfl
theorem csstok_first.hb : Tryd.f75.body = some csstok_first.body := by kernel_rfl
def tab23 (k : Nat) : Tab T := addTab 75 (line io1 io9 ((0 : Int), [], [], (0 : Int)) (fun v => csstok_first k v)) (tab22 k)
def csstok_Cut.c5 (k : Nat) : Nat → (List UInt8) → (List S106) → ((List S106) → Option (List S106)) → Option (List S106)
  | 0, _, _, _ => none
  | n + 1, x2, x3, k0 =>
    cond (!(x2 == ([] : List UInt8))) (
    (csstok_first k x2).bind fun r4 =>
    let v5 : List S106 := [(⟨r4.1, r4.2.1, r4.2.2.1, r4.2.2.2⟩ : S106)]
    cond (decide ((x3 ++ v5).length < most)) (
    cond (decide (0 ≤ (r4.2.1.length : Int) ∧ (r4.2.1.length : Int) ≤ (x2.length : Int))) (
    let v6 : List UInt8 := (x2.drop (r4.2.1.length : Int).toNat)
    csstok_Cut.c5 k n v6 (x3 ++ v5) k0) none) none) (
    k0 x3)
def csstok_Cut (k : Nat) (a1 : List UInt8) : Option (List S106) :=
csstok_Cut.c5 k k a1 ([] : List S106) (fun (y7 : List S106) =>
some y7)
def csstok_Cut.kr (w0 : World) (k : Nat) : Kr T (List S106) := (kret (retK (cfg w0 (tab23 k)) Tryd.f34.results.toList 0 [.own 0 106] io35.pat))
def csstok_Cut.x5 : Ex → Option (List Nat × List Sp)
  | .exit 0 => some ([3], [.own 3 106])
  | _ => none
def csstok_Cut.L5 (k : Nat) (n : Nat) (v : (List UInt8) × (List S106)) (K : Ex → St T → Option (List S106)) : Option (List S106) := csstok_Cut.c5 k n v.1 v.2 (fun y30 => K (.exit 0) (mkSt [3] (io35.enc y30)))
def csstok_Cut.cuts (w0 : World) (k : Nat) : Cuts T (List S106) := fun n => bif n.beq 5 then some (entK (cfg w0 (tab23 k)) 0 [0, 3] [.own 3 106] io36.pat (csstok_Cut.L5 k k)) else none
def csstok_Cut.body : Code := bodyOf Tryd.f34
def csstok_Cut.b5 : Code := findD 5 csstok_Cut.body
theorem csstok_Cut.s5 (w0 : World) (k : Nat) : ∀ n v K, csstok_Cut.L5 k (n + 1) v K = runK (cfg w0 (tab23 k)) Tryd.f34.ntmps (csstok_Cut.kr w0 k) (annot (csstok_Cut.cuts w0 k) csstok_Cut.b5) (mkSt [0, 3] (io36.enc v)) (loopK (cfg w0 (tab23 k)) 0 csstok_Cut.x5 (entK (cfg w0 (tab23 k)) 0 [0, 3] [.own 3 106] io36.pat (csstok_Cut.L5 k n)) K) := by
  intro n v K; kernel_rfl
theorem csstok_Cut.e (w0 : World) (k : Nat) : ∀ v, (fun v => csstok_Cut k v) v = runK (cfg w0 (tab23 k)) Tryd.f34.ntmps (csstok_Cut.kr w0 k) (annot (csstok_Cut.cuts w0 k) csstok_Cut.body) (entry (io1.enc v).1 (io1.enc v).2) (endK (csstok_Cut.kr w0 k)) := by
  intro v; kernel_rfl
theorem csstok_Cut.hb : Tryd.f34.body = some csstok_Cut.body := by kernel_rfl
def tab24 (k : Nat) : Tab T := addTab 34 (line io1 io35 [] (fun v => csstok_Cut k v)) (tab23 k)
def calc_reader__gap.c5 (k : Nat) : Nat → Int → (List S106) → Int → Bool → (Int → (List S106) → Int → Bool → Option (Bool × (List S106) × Int × Bool)) → Option (Bool × (List S106) × Int × Bool)
  | 0, _, _, _, _, _ => none
  | n + 1, x4, x5, x6, x7, k0 =>
    let v8 : Bool := (decide ((x5.length : Int) > (0 : Int)))
    cond ((decide (0 ≤ (0 : Int) ∧ (0 : Int) < (x5.length : Int))) || !v8) (
    let v9 : Int := (x5.getD ((0 : Int).toNat) S106.d).Kind
    cond ((decide (0 ≤ (0 : Int) ∧ (0 : Int) < (x5.length : Int))) || !(v8 && (!(v9 == (8 : Int))))) (
    let v10 : Int := (x5.getD ((0 : Int).toNat) S106.d).Kind
    let v11 : Bool := (cond (v9 == (8 : Int)) true (v10 == (9 : Int)))
    cond (cond v8 v11 false) (
    cond (decide (0 ≤ (1 : Int) ∧ (1 : Int) ≤ (x5.length : Int))) (
    calc_reader__gap.c5 k n x4 (x5.drop (1 : Int).toNat) x6 x7 k0) none) (
    k0 x4 x5 x6 x7)) none) none
def calc_reader__gap (k : Nat) (a1 : Int) (a2 : Bool) (a3 : List S106) : Option (Bool × (List S106) × Int × Bool) :=
calc_reader__gap.c5 k k (a3.length : Int) a3 a1 a2 (fun (y12 : Int) (y13 : List S106) (y14 : Int) (y15 : Bool) =>
let v16 : Bool := (decide ((y13.length : Int) < y12))
some (v16, y13, y14, y15))
def calc_reader__gap.kr (w0 : World) (k : Nat) : Kr T (Bool × (List S106) × Int × Bool) := (kret (retK (cfg w0 (tab24 k)) Tryd.f51.results.toList 2 [] io38.pat))
def calc_reader__gap.x5 : Ex → Option (List Nat × List Sp)
  | .exit 0 => some ([0, 3], [.box 0 92])
  | _ => none
def calc_reader__gap.L5 (k : Nat) (n : Nat) (v : Int × (List S106) × Int × Bool) (K : Ex → St T → Option (Bool × (List S106) × Int × Bool)) : Option (Bool × (List S106) × Int × Bool) := calc_reader__gap.c5 k n v.1 v.2.1 v.2.2.1 v.2.2.2 (fun y31 y32 y33 y34 => K (.exit 0) (mkSt [0, 3] (io39.enc (y31, y32, y33, y34))))
def calc_reader__gap.cuts (w0 : World) (k : Nat) : Cuts T (Bool × (List S106) × Int × Bool) := fun n => bif n.beq 5 then some (entK (cfg w0 (tab24 k)) 2 [0, 3] [.box 0 92] io39.pat (calc_reader__gap.L5 k k)) else none
def calc_reader__gap.body : Code := bodyOf Tryd.f51
def calc_reader__gap.b5 : Code := findD 5 calc_reader__gap.body
theorem calc_reader__gap.s5 (w0 : World) (k : Nat) : ∀ n v K, calc_reader__gap.L5 k (n + 1) v K = runK (cfg w0 (tab24 k)) Tryd.f51.ntmps (calc_reader__gap.kr w0 k) (annot (calc_reader__gap.cuts w0 k) calc_reader__gap.b5) (mkSt [0, 3] (io39.enc v)) (loopK (cfg w0 (tab24 k)) 2 calc_reader__gap.x5 (entK (cfg w0 (tab24 k)) 2 [0, 3] [.box 0 92] io39.pat (calc_reader__gap.L5 k n)) K) := by
  intro n v K; kernel_rfl
theorem calc_reader__gap.e (w0 : World) (k : Nat) : ∀ v, (fun v => calc_reader__gap k v.1 v.2.1 v.2.2) v = runK (cfg w0 (tab24 k)) Tryd.f51.ntmps (calc_reader__gap.kr w0 k) (annot (calc_reader__gap.cuts w0 k) calc_reader__gap.body) (entry (io37.enc v).1 (io37.enc v).2) (endK (calc_reader__gap.kr w0 k)) := by
  intro v; kernel_rfl
theorem calc_reader__gap.hb : Tryd.f51.body = some calc_reader__gap.body := by kernel_rfl
def tab25 (k : Nat) : Tab T := addTab 51 (line io37 io38 (false, [], (0 : Int), false) (fun v => calc_reader__gap k v.1 v.2.1 v.2.2)) (tab24 k)
def calc_reader__need (k : Nat) (a1 : Bool) (a2 : List S106) (a3 : Int) (a4 : Bool) : Option (Bool × Int × ((List S106) × Int × Bool)) :=
cond (!a1) (
some (true, (4 : Int), ([], (0 : Int), false))) (
some (false, (0 : Int), (a2, a3, a4)))
def calc_reader__need.kr (w0 : World) (k : Nat) : Kr T (Bool × Int × ((List S106) × Int × Bool)) := (kpan (retK (cfg w0 (tab25 k)) Tryd.f53.results.toList 1 [] io41.pat) pp88 (0 : Int) ([], (0 : Int), false))
def calc_reader__need.cuts (w0 : World) (k : Nat) : Cuts T (Bool × Int × ((List S106) × Int × Bool)) := fun n => none
def calc_reader__need.body : Code := bodyOf Tryd.f53
theorem calc_reader__need.e (w0 : World) (k : Nat) : ∀ v, (fun v => calc_reader__need k v.1 v.2.1 v.2.2.1 v.2.2.2) v = runK (cfg w0 (tab25 k)) Tryd.f53.ntmps (calc_reader__need.kr w0 k) (annot (calc_reader__need.cuts w0 k) calc_reader__need.body) (entry (io40.enc v).1 (io40.enc v).2) (endK (calc_reader__need.kr w0 k)) := by
  intro v; kernel_rfl
theorem calc_reader__need.hb : Tryd.f53.body = some calc_reader__need.body := by kernel_rfl
def tab26 (k : Nat) : Tab T := addTab 53 (lineP io40 io41 pe88 (0 : Int) ([], (0 : Int), false) (fun v => calc_reader__need k v.1 v.2.1 v.2.2.1 v.2.2.2)) (tab25 k)
def slices_Index___string_string_.c5 (k : Nat) : Nat → (List (List UInt8)) → (List UInt8) → Int → Int → (Option (Int)) → Option (Int)
  | 0, _, _, _, _, _ => none
  | n + 1, x3, x4, x5, x6, k0 =>
    cond (decide (x6 < x5)) (
    cond (decide (0 ≤ x6 ∧ x6 < (x3.length : Int))) (
    cond (x4 == (x3.getD x6.toNat [])) (
    some x6) (
    let v7 : Int := (IntKind.wrap .i64 (x6 + (1 : Int)))
    slices_Index___string_string_.c5 k n x3 x4 x5 v7 k0)) none) (
    k0)
def slices_Index___string_string_ (k : Nat) (a1 : List (List UInt8)) (a2 : List UInt8) : Option (Int) :=
slices_Index___string_string_.c5 k k a1 a2 (a1.length : Int) (0 : Int) (
some (-1 : Int))
def slices_Index___string_string_.kr (w0 : World) (k : Nat) : Kr T (Int) := (kret (retK (cfg w0 (tab26 k)) Tryd.f97.results.toList 0 [] io4.pat))
def slices_Index___string_string_.x5 : Ex → Option (List Nat × List Sp)
  | .exit 0 => some ([], [])
  | _ => none
def slices_Index___string_string_.L5 (k : Nat) (n : Nat) (v : (List (List UInt8)) × (List UInt8) × Int × Int) (K : Ex → St T → Option (Int)) : Option (Int) := slices_Index___string_string_.c5 k n v.1 v.2.1 v.2.2.1 v.2.2.2 ( K (.exit 0) (mkSt [] (io44.enc ())))
def slices_Index___string_string_.cuts (w0 : World) (k : Nat) : Cuts T (Int) := fun n => bif n.beq 5 then some (entK (cfg w0 (tab26 k)) 0 [0, 1, 7, 8] [] io43.pat (slices_Index___string_string_.L5 k k)) else none
def slices_Index___string_string_.body : Code := bodyOf Tryd.f97
def slices_Index___string_string_.b5 : Code := findD 5 slices_Index___string_string_.body
theorem slices_Index___string_string_.s5 (w0 : World) (k : Nat) : ∀ n v K, slices_Index___string_string_.L5 k (n + 1) v K = runK (cfg w0 (tab26 k)) Tryd.f97.ntmps (slices_Index___string_string_.kr w0 k) (annot (slices_Index___string_string_.cuts w0 k) slices_Index___string_string_.b5) (mkSt [0, 1, 7, 8] (io43.enc v)) (loopK (cfg w0 (tab26 k)) 0 slices_Index___string_string_.x5 (entK (cfg w0 (tab26 k)) 0 [0, 1, 7, 8] [] io43.pat (slices_Index___string_string_.L5 k n)) K) := by
  intro n v K; kernel_rfl
theorem slices_Index___string_string_.e (w0 : World) (k : Nat) : ∀ v, (fun v => slices_Index___string_string_ k v.1 v.2) v = runK (cfg w0 (tab26 k)) Tryd.f97.ntmps (slices_Index___string_string_.kr w0 k) (annot (slices_Index___string_string_.cuts w0 k) slices_Index___string_string_.body) (entry (io42.enc v).1 (io42.enc v).2) (endK (slices_Index___string_string_.kr w0 k)) := by
  intro v; kernel_rfl
theorem slices_Index___string_string_.hb : Tryd.f97.body = some slices_Index___string_string_.body := by kernel_rfl
def tab27 (k : Nat) : Tab T := addTab 97 (line io42 io4 (0 : Int) (fun v => slices_Index___string_string_ k v.1 v.2)) (tab26 k)
def slices_Contains___string_string_ (k : Nat) (a1 : List (List UInt8)) (a2 : List UInt8) : Option (Bool) :=
(slices_Index___string_string_ k a1 a2).bind fun r3 =>
some (decide (r3 ≥ (0 : Int)))
def slices_Contains___string_string_.kr (w0 : World) (k : Nat) : Kr T (Bool) := (kret (retK (cfg w0 (tab27 k)) Tryd.f145.results.toList 0 [] io2.pat))
def slices_Contains___string_string_.cuts (w0 : World) (k : Nat) : Cuts T (Bool) := fun n => none
def slices_Contains___string_string_.body : Code := bodyOf Tryd.f145
theorem slices_Contains___string_string_.e (w0 : World) (k : Nat) : ∀ v, (fun v => slices_Contains___string_string_ k v.1 v.2) v = runK (cfg w0 (tab27 k)) Tryd.f145.ntmps (slices_Contains___string_string_.kr w0 k) (annot (slices_Contains___string_string_.cuts w0 k) slices_Contains___string_string_.body) (entry (io42.enc v).1 (io42.enc v).2) (endK (slices_Contains___string_string_.kr w0 k)) := by
  intro v; kernel_rfl
theorem slices_Contains___string_string_.hb : Tryd.f145.body = some slices_Contains___string_string_.body := by kernel_rfl
def tab28 (k : Nat) : Tab T := addTab 145 (line io42 io2 false (fun v => slices_Contains___string_string_ k v.1 v.2)) (tab27 k)
def dim_Read (k : Nat) (a1 : List UInt8) : Option (Int × (List UInt8) × Int) :=
(csstok_Cut k a1).bind fun r2 =>
let v3 : Bool := ((r2.length : Int) != (1 : Int))
cond ((decide (0 ≤ (0 : Int) ∧ (0 : Int) < (r2.length : Int))) || !(!v3)) (
let v4 : Int := (r2.getD ((0 : Int).toNat) S106.d).Kind
let v5 : Bool := (cond v3 true (v4 != (7 : Int)))
cond ((decide (0 ≤ (0 : Int) ∧ (0 : Int) < (r2.length : Int))) || !(!v5)) (
let v6 : List UInt8 := (r2.getD ((0 : Int).toNat) S106.d).Value
(cond (!v5) (slices_Contains___string_string_ k g1_0 v6) (some false)).bind fun r7 =>
cond (cond v5 true (!r7)) (
some ((0 : Int), [], (4 : Int))) (
cond (decide (0 ≤ (0 : Int) ∧ (0 : Int) < (r2.length : Int))) (
let v8 : Int := (r2.getD ((0 : Int).toNat) S106.d).Num
cond (decide (0 ≤ (0 : Int) ∧ (0 : Int) < (r2.length : Int))) (
let v9 : List UInt8 := (r2.getD ((0 : Int).toNat) S106.d).Value
some (v8, v9, (0 : Int))) none) none)) none) none
def dim_Read.kr (w0 : World) (k : Nat) : Kr T (Int × (List UInt8) × Int) := (kret (retK (cfg w0 (tab28 k)) Tryd.f92.results.toList 0 [] io45.pat))
def dim_Read.cuts (w0 : World) (k : Nat) : Cuts T (Int × (List UInt8) × Int) := fun n => none
def dim_Read.body : Code := bodyOf Tryd.f92
theorem dim_Read.e (w0 : World) (k : Nat) : ∀ v, (fun v => dim_Read k v) v = runK (cfg w0 (tab28 k)) Tryd.f92.ntmps (dim_Read.kr w0 k) (annot (dim_Read.cuts w0 k) dim_Read.body) (entry (io1.enc v).1 (io1.enc v).2) (endK (dim_Read.kr w0 k)) := by
  intro v; kernel_rfl
theorem dim_Read.hb : Tryd.f92.body = some dim_Read.body := by kernel_rfl
def tab29 (k : Nat) : Tab T := addTab 92 (line io1 io45 ((0 : Int), [], (0 : Int)) (fun v => dim_Read k v)) (tab28 k)
def calc_reader__made.c8 (k : Nat) (x8 : List S106) (x9 : Int) (x10 : Bool) (x11 : Int) (x12 : Int) (x13 : List UInt8) (x14 : Int) (x15 : Int) (x16 : List UInt8)  : Option (Bool × Int × (Int × Int × (List UInt8) × (List S106) × Int × Bool)) :=
some (false, (0 : Int), (x11, x12, x13, x8, x9, x10))
def calc_reader__made (k : Nat) (a1 : Int) (a2 : Int) (a3 : List UInt8) (a4 : List S106) (a5 : Int) (a6 : Bool) : Option (Bool × Int × (Int × Int × (List UInt8) × (List S106) × Int × Bool)) :=
let v7 : Int := (IntKind.wrap .i64 (a5 + (1 : Int)))
cond (decide (v7 > (30 : Int))) (
some (true, (2 : Int), ((0 : Int), (0 : Int), [], [], (0 : Int), false))) (
calc_reader__made.c8 k a4 v7 a6 a1 a2 a3 (0 : Int) (0 : Int) ([]))
def calc_reader__made.kr (w0 : World) (k : Nat) : Kr T (Bool × Int × (Int × Int × (List UInt8) × (List S106) × Int × Bool)) := (kpan (retK (cfg w0 (tab29 k)) Tryd.f93.results.toList 1 [] io47.pat) pp88 (0 : Int) ((0 : Int), (0 : Int), [], [], (0 : Int), false))
def calc_reader__made.x8 : Ex → Option (List Nat × List Sp)
  | _ => none
def calc_reader__made.L8 (k : Nat) (v : (List S106) × Int × Bool × Int × Int × (List UInt8) × Int × Int × (List UInt8)) (K : Ex → St T → Option (Bool × Int × (Int × Int × (List UInt8) × (List S106) × Int × Bool))) : Option (Bool × Int × (Int × Int × (List UInt8) × (List S106) × Int × Bool)) := calc_reader__made.c8 k v.1 v.2.1 v.2.2.1 v.2.2.2.1 v.2.2.2.2.1 v.2.2.2.2.2.1 v.2.2.2.2.2.2.1 v.2.2.2.2.2.2.2.1 v.2.2.2.2.2.2.2.2
def calc_reader__made.cuts (w0 : World) (k : Nat) : Cuts T (Bool × Int × (Int × Int × (List UInt8) × (List S106) × Int × Bool)) := fun n => bif n.beq 8 then some (entK (cfg w0 (tab29 k)) 1 [3, 4] [] io48.pat (calc_reader__made.L8 k)) else none
def calc_reader__made.body : Code := bodyOf Tryd.f93
def calc_reader__made.b8 : Code := findD 8 calc_reader__made.body
theorem calc_reader__made.s8 (w0 : World) (k : Nat) : ∀ v K, calc_reader__made.L8 k v K = runK (cfg w0 (tab29 k)) Tryd.f93.ntmps (calc_reader__made.kr w0 k) (annot (calc_reader__made.cuts w0 k) calc_reader__made.b8) (mkSt [3, 4] (io48.enc v)) (outK (cfg w0 (tab29 k)) 1 calc_reader__made.x8 K) := by
  intro v K; kernel_rfl
theorem calc_reader__made.e (w0 : World) (k : Nat) : ∀ v, (fun v => calc_reader__made k v.1 v.2.1 v.2.2.1 v.2.2.2.1 v.2.2.2.2.1 v.2.2.2.2.2) v = runK (cfg w0 (tab29 k)) Tryd.f93.ntmps (calc_reader__made.kr w0 k) (annot (calc_reader__made.cuts w0 k) calc_reader__made.body) (entry (io46.enc v).1 (io46.enc v).2) (endK (calc_reader__made.kr w0 k)) := by
  intro v; kernel_rfl
theorem calc_reader__made.hb : Tryd.f93.body = some calc_reader__made.body := by kernel_rfl
def tab30 (k : Nat) : Tab T := addTab 93 (lineP io46 io47 pe88 (0 : Int) ((0 : Int), (0 : Int), [], [], (0 : Int), false) (fun v => calc_reader__made k v.1 v.2.1 v.2.2.1 v.2.2.2.1 v.2.2.2.2.1 v.2.2.2.2.2)) (tab29 k)
def calc_reader__gap_v2.c5 (k : Nat) : Nat → Int → (List S106) → Int → Bool → (Int → (List S106) → Int → Bool → Option (Bool × (List S106) × Int × Bool)) → Option (Bool × (List S106) × Int × Bool)
  | 0, _, _, _, _, _ => none
  | n + 1, x4, x5, x6, x7, k0 =>
    let v8 : Bool := (decide ((x5.length : Int) > (0 : Int)))
    cond ((decide (0 ≤ (0 : Int) ∧ (0 : Int) < (x5.length : Int))) || !v8) (
    let v9 : Int := (x5.getD ((0 : Int).toNat) S106.d).Kind
    cond ((decide (0 ≤ (0 : Int) ∧ (0 : Int) < (x5.length : Int))) || !(v8 && (!(v9 == (8 : Int))))) (
    let v10 : Int := (x5.getD ((0 : Int).toNat) S106.d).Kind
    let v11 : Bool := (cond (v9 == (8 : Int)) true (v10 == (9 : Int)))
    cond (cond v8 v11 false) (
    cond (decide (0 ≤ (1 : Int) ∧ (1 : Int) ≤ (x5.length : Int))) (
    calc_reader__gap_v2.c5 k n x4 (x5.drop (1 : Int).toNat) x6 x7 k0) none) (
    k0 x4 x5 x6 x7)) none) none
def calc_reader__gap_v2 (k : Nat) (a1 : List S106) (a2 : Int) (a3 : Bool) : Option (Bool × (List S106) × Int × Bool) :=
calc_reader__gap_v2.c5 k k (a1.length : Int) a1 a2 a3 (fun (y12 : Int) (y13 : List S106) (y14 : Int) (y15 : Bool) =>
let v16 : Bool := (decide ((y13.length : Int) < y12))
some (v16, y13, y14, y15))
def calc_reader__gap_v2.kr (w0 : World) (k : Nat) : Kr T (Bool × (List S106) × Int × Bool) := (kret (retK (cfg w0 (tab30 k)) Tryd.f51.results.toList 1 [] io50.pat))
def calc_reader__gap_v2.x5 : Ex → Option (List Nat × List Sp)
  | .exit 0 => some ([0, 3], [])
  | _ => none
def calc_reader__gap_v2.L5 (k : Nat) (n : Nat) (v : Int × (List S106) × Int × Bool) (K : Ex → St T → Option (Bool × (List S106) × Int × Bool)) : Option (Bool × (List S106) × Int × Bool) := calc_reader__gap_v2.c5 k n v.1 v.2.1 v.2.2.1 v.2.2.2 (fun y35 y36 y37 y38 => K (.exit 0) (mkSt [0, 3] (io51.enc (y35, y36, y37, y38))))
def calc_reader__gap_v2.cuts (w0 : World) (k : Nat) : Cuts T (Bool × (List S106) × Int × Bool) := fun n => bif n.beq 5 then some (entK (cfg w0 (tab30 k)) 1 [0, 3] [] io51.pat (calc_reader__gap_v2.L5 k k)) else none
def calc_reader__gap_v2.body : Code := bodyOf Tryd.f51
def calc_reader__gap_v2.b5 : Code := findD 5 calc_reader__gap_v2.body
theorem calc_reader__gap_v2.s5 (w0 : World) (k : Nat) : ∀ n v K, calc_reader__gap_v2.L5 k (n + 1) v K = runK (cfg w0 (tab30 k)) Tryd.f51.ntmps (calc_reader__gap_v2.kr w0 k) (annot (calc_reader__gap_v2.cuts w0 k) calc_reader__gap_v2.b5) (mkSt [0, 3] (io51.enc v)) (loopK (cfg w0 (tab30 k)) 1 calc_reader__gap_v2.x5 (entK (cfg w0 (tab30 k)) 1 [0, 3] [] io51.pat (calc_reader__gap_v2.L5 k n)) K) := by
  intro n v K; kernel_rfl
theorem calc_reader__gap_v2.e (w0 : World) (k : Nat) : ∀ v, (fun v => calc_reader__gap_v2 k v.1 v.2.1 v.2.2) v = runK (cfg w0 (tab30 k)) Tryd.f51.ntmps (calc_reader__gap_v2.kr w0 k) (annot (calc_reader__gap_v2.cuts w0 k) calc_reader__gap_v2.body) (entry (io49.enc v).1 (io49.enc v).2) (endK (calc_reader__gap_v2.kr w0 k)) := by
  intro v; kernel_rfl
theorem calc_reader__gap_v2.hb : Tryd.f51.body = some calc_reader__gap_v2.body := by kernel_rfl
def tab31 (k : Nat) : Tab T := addTab 51 (line io49 io50 (false, [], (0 : Int), false) (fun v => calc_reader__gap_v2 k v.1 v.2.1 v.2.2)) (tab30 k)
def calc_lower.c7 (k : Nat) : Nat → Int → Int → (List Int) → ((List Int) → Option (List UInt8)) → Option (List UInt8)
  | 0, _, _, _, _ => none
  | n + 1, x2, x3, x4, k0 =>
    cond (decide (x3 < x2)) (
    cond (decide (0 ≤ x3 ∧ x3 < (x4.length : Int))) (
    let v5 : Bool := (decide ((x4.getD x3.toNat (0 : Int)) ≥ (65 : Int)))
    let v6 : Bool := (decide ((x4.getD x3.toNat (0 : Int)) ≤ (90 : Int)))
    cond (cond v5 v6 false) (
    let v7 : Int := (IntKind.wrap .u8 ((x4.getD x3.toNat (0 : Int)) + (32 : Int)))
    cond (decide (0 ≤ x3 ∧ x3 < (x4.length : Int))) (
    let v8 : Int := (IntKind.wrap .i64 (x3 + (1 : Int)))
    calc_lower.c7 k n x2 v8 (x4.set x3.toNat v7) k0) none) (
    let v9 : Int := (IntKind.wrap .i64 (x3 + (1 : Int)))
    calc_lower.c7 k n x2 v9 x4 k0)) none) (
    k0 x4)
def calc_lower (k : Nat) (a1 : List UInt8) : Option (List UInt8) :=
calc_lower.c7 k k ((bytesI a1).length : Int) (0 : Int) (bytesI a1) (fun (y10 : List Int) =>
some (bytesU y10))
def calc_lower.kr (w0 : World) (k : Nat) : Kr T (List UInt8) := (kret (retK (cfg w0 (tab31 k)) Tryd.f96.results.toList 0 [] io1.pat))
def calc_lower.x7 : Ex → Option (List Nat × List Sp)
  | .exit 0 => some ([3], [])
  | _ => none
def calc_lower.L7 (k : Nat) (n : Nat) (v : Int × Int × (List Int)) (K : Ex → St T → Option (List UInt8)) : Option (List UInt8) := calc_lower.c7 k n v.1 v.2.1 v.2.2 (fun y39 => K (.exit 0) (mkSt [3] (io28.enc y39)))
def calc_lower.cuts (w0 : World) (k : Nat) : Cuts T (List UInt8) := fun n => bif n.beq 7 then some (entK (cfg w0 (tab31 k)) 0 [3, 8, 9, 10] [] io27.pat (calc_lower.L7 k k)) else none
def calc_lower.body : Code := bodyOf Tryd.f96
def calc_lower.b7 : Code := findD 7 calc_lower.body
theorem calc_lower.s7 (w0 : World) (k : Nat) : ∀ n v K, calc_lower.L7 k (n + 1) v K = runK (cfg w0 (tab31 k)) Tryd.f96.ntmps (calc_lower.kr w0 k) (annot (calc_lower.cuts w0 k) calc_lower.b7) (mkSt [3, 8, 9, 10] (io27.enc v)) (loopK (cfg w0 (tab31 k)) 0 calc_lower.x7 (entK (cfg w0 (tab31 k)) 0 [3, 8, 9, 10] [] io27.pat (calc_lower.L7 k n)) K) := by
  intro n v K; kernel_rfl
theorem calc_lower.e (w0 : World) (k : Nat) : ∀ v, (fun v => calc_lower k v) v = runK (cfg w0 (tab31 k)) Tryd.f96.ntmps (calc_lower.kr w0 k) (annot (calc_lower.cuts w0 k) calc_lower.body) (entry (io1.enc v).1 (io1.enc v).2) (endK (calc_lower.kr w0 k)) := by
  intro v; kernel_rfl
theorem calc_lower.hb : Tryd.f96.body = some calc_lower.body := by kernel_rfl
def tab32 (k : Nat) : Tab T := addTab 96 (line io1 io1 [] (fun v => calc_lower k v)) (tab31 k)
def calc_reader__raw (k : Nat) (a1 : List UInt8) (a2 : List S106) (a3 : Int) (a4 : Bool) : Option (Bool × (List S106) × Int × Bool) :=
let v5 : Bool := ((a2.length : Int) == (0 : Int))
cond ((decide (0 ≤ (0 : Int) ∧ (0 : Int) < (a2.length : Int))) || !(!v5)) (
let v6 : List UInt8 := (a2.getD ((0 : Int).toNat) S106.d).Raw
cond (cond v5 true (!(v6 == a1))) (
some (false, a2, a3, a4)) (
cond (decide (0 ≤ (1 : Int) ∧ (1 : Int) ≤ (a2.length : Int))) (
some (true, (a2.drop (1 : Int).toNat), a3, a4)) none)) none
def calc_reader__raw.kr (w0 : World) (k : Nat) : Kr T (Bool × (List S106) × Int × Bool) := (kret (retK (cfg w0 (tab32 k)) Tryd.f95.results.toList 1 [] io50.pat))
def calc_reader__raw.cuts (w0 : World) (k : Nat) : Cuts T (Bool × (List S106) × Int × Bool) := fun n => none
def calc_reader__raw.body : Code := bodyOf Tryd.f95
theorem calc_reader__raw.e (w0 : World) (k : Nat) : ∀ v, (fun v => calc_reader__raw k v.1 v.2.1 v.2.2.1 v.2.2.2) v = runK (cfg w0 (tab32 k)) Tryd.f95.ntmps (calc_reader__raw.kr w0 k) (annot (calc_reader__raw.cuts w0 k) calc_reader__raw.body) (entry (io52.enc v).1 (io52.enc v).2) (endK (calc_reader__raw.kr w0 k)) := by
  intro v; kernel_rfl
theorem calc_reader__raw.hb : Tryd.f95.body = some calc_reader__raw.body := by kernel_rfl
def tab33 (k : Nat) : Tab T := addTab 95 (line io52 io50 (false, [], (0 : Int), false) (fun v => calc_reader__raw k v.1 v.2.1 v.2.2.1 v.2.2.2)) (tab32 k)
def calc_reader__made_v2.c8 (k : Nat) (x9 : List S106) (x10 : Int) (x11 : Bool) (x12 : List S52) (x13 : Int) (x14 : Int) (x15 : List UInt8) (x16 : Int) (x17 : Int) (x18 : List UInt8)  : Option (Bool × Int × (Int × Int × (List UInt8) × (List S106) × Int × Bool × (List S52))) :=
some (false, (0 : Int), (x13, x14, x15, x9, x10, x11, x12))
def calc_reader__made_v2 (k : Nat) (a1 : Int) (a2 : Int) (a3 : List UInt8) (a4 : List S106) (a5 : Int) (a6 : Bool) (a7 : List S52) : Option (Bool × Int × (Int × Int × (List UInt8) × (List S106) × Int × Bool × (List S52))) :=
let v8 : Int := (IntKind.wrap .i64 (a5 + (1 : Int)))
cond (decide (v8 > (30 : Int))) (
some (true, (2 : Int), ((0 : Int), (0 : Int), [], [], (0 : Int), false, []))) (
calc_reader__made_v2.c8 k a4 v8 a6 a7 a1 a2 a3 (0 : Int) (0 : Int) ([]))
def calc_reader__made_v2.kr (w0 : World) (k : Nat) : Kr T (Bool × Int × (Int × Int × (List UInt8) × (List S106) × Int × Bool × (List S52))) := (kpan (retK (cfg w0 (tab33 k)) Tryd.f93.results.toList 2 [] io54.pat) pp88 (0 : Int) ((0 : Int), (0 : Int), [], [], (0 : Int), false, []))
def calc_reader__made_v2.x8 : Ex → Option (List Nat × List Sp)
  | _ => none
def calc_reader__made_v2.L8 (k : Nat) (v : (List S106) × Int × Bool × (List S52) × Int × Int × (List UInt8) × Int × Int × (List UInt8)) (K : Ex → St T → Option (Bool × Int × (Int × Int × (List UInt8) × (List S106) × Int × Bool × (List S52)))) : Option (Bool × Int × (Int × Int × (List UInt8) × (List S106) × Int × Bool × (List S52))) := calc_reader__made_v2.c8 k v.1 v.2.1 v.2.2.1 v.2.2.2.1 v.2.2.2.2.1 v.2.2.2.2.2.1 v.2.2.2.2.2.2.1 v.2.2.2.2.2.2.2.1 v.2.2.2.2.2.2.2.2.1 v.2.2.2.2.2.2.2.2.2
def calc_reader__made_v2.cuts (w0 : World) (k : Nat) : Cuts T (Bool × Int × (Int × Int × (List UInt8) × (List S106) × Int × Bool × (List S52))) := fun n => bif n.beq 8 then some (entK (cfg w0 (tab33 k)) 2 [3, 4] [] io55.pat (calc_reader__made_v2.L8 k)) else none
def calc_reader__made_v2.body : Code := bodyOf Tryd.f93
def calc_reader__made_v2.b8 : Code := findD 8 calc_reader__made_v2.body
theorem calc_reader__made_v2.s8 (w0 : World) (k : Nat) : ∀ v K, calc_reader__made_v2.L8 k v K = runK (cfg w0 (tab33 k)) Tryd.f93.ntmps (calc_reader__made_v2.kr w0 k) (annot (calc_reader__made_v2.cuts w0 k) calc_reader__made_v2.b8) (mkSt [3, 4] (io55.enc v)) (outK (cfg w0 (tab33 k)) 2 calc_reader__made_v2.x8 K) := by
  intro v K; kernel_rfl
theorem calc_reader__made_v2.e (w0 : World) (k : Nat) : ∀ v, (fun v => calc_reader__made_v2 k v.1 v.2.1 v.2.2.1 v.2.2.2.1 v.2.2.2.2.1 v.2.2.2.2.2.1 v.2.2.2.2.2.2) v = runK (cfg w0 (tab33 k)) Tryd.f93.ntmps (calc_reader__made_v2.kr w0 k) (annot (calc_reader__made_v2.cuts w0 k) calc_reader__made_v2.body) (entry (io53.enc v).1 (io53.enc v).2) (endK (calc_reader__made_v2.kr w0 k)) := by
  intro v; kernel_rfl
theorem calc_reader__made_v2.hb : Tryd.f93.body = some calc_reader__made_v2.body := by kernel_rfl
def tab34 (k : Nat) : Tab T := addTab 93 (lineP io53 io54 pe88 (0 : Int) ((0 : Int), (0 : Int), [], [], (0 : Int), false, []) (fun v => calc_reader__made_v2 k v.1 v.2.1 v.2.2.1 v.2.2.2.1 v.2.2.2.2.1 v.2.2.2.2.2.1 v.2.2.2.2.2.2)) (tab33 k)
def calc_shaped (k : Nat) (a1 : Int) (a2 : Int) (a3 : List UInt8) (a4 : List S52) : Option (Bool × (List S52)) :=
cond (a1 == (1 : Int)) (
let v5 : Bool := ((a4.length : Int) == (0 : Int))
some (v5, a4)) (
cond (a1 == (2 : Int)) (
cond (a1 == (2 : Int)) (
let v6 : Bool := ((a4.length : Int) == (2 : Int))
some (v6, a4)) (
cond (a1 == (6 : Int)) (
cond (a1 == (6 : Int)) (
let v7 : Bool := (decide ((a4.length : Int) > (0 : Int)))
some (v7, a4)) (
cond (a1 == (8 : Int)) (
let v8 : Bool := ((a4.length : Int) == (3 : Int))
some (v8, a4)) (
some (false, a4)))) (
cond (a1 == (7 : Int)) (
let v9 : Bool := (decide ((a4.length : Int) > (0 : Int)))
some (v9, a4)) (
cond (a1 == (8 : Int)) (
let v10 : Bool := ((a4.length : Int) == (3 : Int))
some (v10, a4)) (
some (false, a4)))))) (
cond (a1 == (3 : Int)) (
cond (a1 == (3 : Int)) (
let v11 : Bool := ((a4.length : Int) == (2 : Int))
some (v11, a4)) (
cond (a1 == (6 : Int)) (
cond (a1 == (6 : Int)) (
let v12 : Bool := (decide ((a4.length : Int) > (0 : Int)))
some (v12, a4)) (
cond (a1 == (8 : Int)) (
let v13 : Bool := ((a4.length : Int) == (3 : Int))
some (v13, a4)) (
some (false, a4)))) (
cond (a1 == (7 : Int)) (
let v14 : Bool := (decide ((a4.length : Int) > (0 : Int)))
some (v14, a4)) (
cond (a1 == (8 : Int)) (
let v15 : Bool := ((a4.length : Int) == (3 : Int))
some (v15, a4)) (
some (false, a4)))))) (
cond (a1 == (4 : Int)) (
cond (a1 == (4 : Int)) (
let v16 : Bool := ((a4.length : Int) == (2 : Int))
some (v16, a4)) (
cond (a1 == (6 : Int)) (
cond (a1 == (6 : Int)) (
let v17 : Bool := (decide ((a4.length : Int) > (0 : Int)))
some (v17, a4)) (
cond (a1 == (8 : Int)) (
let v18 : Bool := ((a4.length : Int) == (3 : Int))
some (v18, a4)) (
some (false, a4)))) (
cond (a1 == (7 : Int)) (
let v19 : Bool := (decide ((a4.length : Int) > (0 : Int)))
some (v19, a4)) (
cond (a1 == (8 : Int)) (
let v20 : Bool := ((a4.length : Int) == (3 : Int))
some (v20, a4)) (
some (false, a4)))))) (
cond (a1 == (5 : Int)) (
let v21 : Bool := ((a4.length : Int) == (2 : Int))
some (v21, a4)) (
cond (a1 == (6 : Int)) (
cond (a1 == (6 : Int)) (
let v22 : Bool := (decide ((a4.length : Int) > (0 : Int)))
some (v22, a4)) (
cond (a1 == (8 : Int)) (
let v23 : Bool := ((a4.length : Int) == (3 : Int))
some (v23, a4)) (
some (false, a4)))) (
cond (a1 == (7 : Int)) (
let v24 : Bool := (decide ((a4.length : Int) > (0 : Int)))
some (v24, a4)) (
cond (a1 == (8 : Int)) (
let v25 : Bool := ((a4.length : Int) == (3 : Int))
some (v25, a4)) (
some (false, a4)))))))))
def calc_shaped.kr (w0 : World) (k : Nat) : Kr T (Bool × (List S52)) := (kret (retK (cfg w0 (tab34 k)) Tryd.f54.results.toList 1 [] io57.pat))
def calc_shaped.cuts (w0 : World) (k : Nat) : Cuts T (Bool × (List S52)) := fun n => none
def calc_shaped.body : Code := bodyOf Tryd.f54
theorem calc_shaped.e (w0 : World) (k : Nat) : ∀ v, (fun v => calc_shaped k v.1 v.2.1 v.2.2.1 v.2.2.2) v = runK (cfg w0 (tab34 k)) Tryd.f54.ntmps (calc_shaped.kr w0 k) (annot (calc_shaped.cuts w0 k) calc_shaped.body) (entry (io56.enc v).1 (io56.enc v).2) (endK (calc_shaped.kr w0 k)) := by
  intro v; kernel_rfl
theorem calc_shaped.hb : Tryd.f54.body = some calc_shaped.body := by kernel_rfl
def tab35 (k : Nat) : Tab T := addTab 54 (line io56 io57 (false, []) (fun v => calc_shaped k v.1 v.2.1 v.2.2.1 v.2.2.2)) (tab34 k)
structure calc_reader__value.G.R where
  calc_reader__product : (List S106) → Int → Bool → Option (Bool × Int × (Int × Int × (List UInt8) × (List S52) × (List S106) × Int × Bool))
  calc_reader__sum : (List S106) → Int → Bool → Option (Bool × Int × (Int × Int × (List UInt8) × (List S52) × (List S106) × Int × Bool))
  calc_reader__value : Bool → (List S106) → Int → Bool → Option (Bool × Int × (Int × Int × (List UInt8) × (List S52) × (List S106) × Int × Bool))
def calc_reader__product.c20 (k : Nat) (r : calc_reader__value.G.R) (x18 : Int) (x19 : List S106) (x20 : Int) (x21 : Bool) (x22 : Int) (x23 : Int) (x24 : List UInt8) (x25 : Int) (x26 : Int) (x27 : List UInt8) (x28 : List S52) (kn : (List S106) → Int → Bool → Int → Int → (List UInt8) → Int → Int → (List UInt8) → (List S52) → Option (Bool × Int × (Int × Int × (List UInt8) × (List S52) × (List S106) × Int × Bool))) : Option (Bool × Int × (Int × Int × (List UInt8) × (List S52) × (List S106) × Int × Bool)) :=
(calc_reader__gap_v2 k x19 x20 x21).bind fun r29 =>
(r.calc_reader__value true r29.2.1 r29.2.2.1 r29.2.2.2).bind fun r30 =>
cond r30.1 (
some (true, r30.2.1, ((0 : Int), (0 : Int), [], [], [], (0 : Int), false))) (
let v31 : List S52 := [(⟨x25, x26, x27, x28⟩ : S52), (⟨r30.2.2.1, r30.2.2.2.1, r30.2.2.2.2.1, r30.2.2.2.2.2.1⟩ : S52)]
(calc_reader__made_v2 k x18 (0 : Int) ([]) r30.2.2.2.2.2.2.1 r30.2.2.2.2.2.2.2.1 r30.2.2.2.2.2.2.2.2 v31).bind fun r32 =>
cond r32.1 (
some (true, r32.2.1, ((0 : Int), (0 : Int), [], [], [], (0 : Int), false))) (
kn r32.2.2.2.2.2.1 r32.2.2.2.2.2.2.1 r32.2.2.2.2.2.2.2.1 x22 x23 x24 r32.2.2.1 r32.2.2.2.1 r32.2.2.2.2.1 r32.2.2.2.2.2.2.2.2))
def calc_reader__product.c7 (k : Nat) (r : calc_reader__value.G.R) : Nat → (List S106) → Int → Bool → Int → Int → (List UInt8) → Int → Int → (List UInt8) → (List S52) → Option (Bool × Int × (Int × Int × (List UInt8) × (List S52) × (List S106) × Int × Bool))
  | 0, _, _, _, _, _, _, _, _, _, _ => none
  | n + 1, x6, x7, x8, x9, x10, x11, x12, x13, x14, x15 =>
    (calc_reader__gap_v2 k x6 x7 x8).bind fun r16 =>
    (calc_reader__raw k ([42] : List UInt8) r16.2.1 r16.2.2.1 r16.1).bind fun r17 =>
    cond r17.1 (
    calc_reader__product.c20 k r (4 : Int) r17.2.1 r17.2.2.1 r17.2.2.2 x9 x10 x11 x12 x13 x14 x15 (fun (y33 : List S106) (y34 : Int) (y35 : Bool) (y36 : Int) (y37 : Int) (y38 : List UInt8) (y39 : Int) (y40 : Int) (y41 : List UInt8) (y42 : List S52) =>
    calc_reader__product.c7 k r n y33 y34 y35 y36 y37 y38 y39 y40 y41 y42)) (
    (calc_reader__raw k ([47] : List UInt8) r17.2.1 r17.2.2.1 r17.2.2.2).bind fun r43 =>
    cond r43.1 (
    calc_reader__product.c20 k r (5 : Int) r43.2.1 r43.2.2.1 r43.2.2.2 x9 x10 x11 x12 x13 x14 x15 (fun (y44 : List S106) (y45 : Int) (y46 : Bool) (y47 : Int) (y48 : Int) (y49 : List UInt8) (y50 : Int) (y51 : Int) (y52 : List UInt8) (y53 : List S52) =>
    calc_reader__product.c7 k r n y44 y45 y46 y47 y48 y49 y50 y51 y52 y53)) (
    some (false, (0 : Int), (x12, x13, x14, x15, r43.2.1, r43.2.2.1, r43.2.2.2))))
def calc_reader__product.nat (k : Nat) (r : calc_reader__value.G.R) (a1 : List S106) (a2 : Int) (a3 : Bool) : Option (Bool × Int × (Int × Int × (List UInt8) × (List S52) × (List S106) × Int × Bool)) :=
(calc_reader__gap_v2 k a1 a2 a3).bind fun r4 =>
(r.calc_reader__value true r4.2.1 r4.2.2.1 r4.2.2.2).bind fun r5 =>
cond r5.1 (
some (true, r5.2.1, ((0 : Int), (0 : Int), [], [], [], (0 : Int), false))) (
calc_reader__product.c7 k r k r5.2.2.2.2.2.2.1 r5.2.2.2.2.2.2.2.1 r5.2.2.2.2.2.2.2.2 (0 : Int) (0 : Int) ([]) r5.2.2.1 r5.2.2.2.1 r5.2.2.2.2.1 r5.2.2.2.2.2.1)
def calc_reader__sum.c18 (k : Nat) (r : calc_reader__value.G.R) (x18 : Bool) (x19 : Int) (x20 : List S106) (x21 : Int) (x22 : Bool) (x23 : Int) (x24 : Int) (x25 : List UInt8) (x26 : Int) (x27 : Int) (x28 : List UInt8) (x29 : List S52) (kn : (List S106) → Int → Bool → Int → Int → (List UInt8) → Int → Int → (List UInt8) → (List S52) → Option (Bool × Int × (Int × Int × (List UInt8) × (List S52) × (List S106) × Int × Bool))) : Option (Bool × Int × (Int × Int × (List UInt8) × (List S52) × (List S106) × Int × Bool)) :=
cond (decide (0 ≤ (1 : Int) ∧ (1 : Int) ≤ (x20.length : Int))) (
cond x18 (
(calc_reader__gap_v2 k (x20.drop (1 : Int).toNat) x21 x22).bind fun r30 =>
(calc_reader__need k (cond x18 r30.1 false) r30.2.1 r30.2.2.1 r30.2.2.2).bind fun r31 =>
cond r31.1 (
some (true, r31.2.1, ((0 : Int), (0 : Int), [], [], [], (0 : Int), false))) (
(r.calc_reader__product r31.2.2.1 r31.2.2.2.1 r31.2.2.2.2).bind fun r32 =>
cond r32.1 (
some (true, r32.2.1, ((0 : Int), (0 : Int), [], [], [], (0 : Int), false))) (
let v33 : List S52 := [(⟨x26, x27, x28, x29⟩ : S52), (⟨r32.2.2.1, r32.2.2.2.1, r32.2.2.2.2.1, r32.2.2.2.2.2.1⟩ : S52)]
(calc_reader__made_v2 k x19 (0 : Int) ([]) r32.2.2.2.2.2.2.1 r32.2.2.2.2.2.2.2.1 r32.2.2.2.2.2.2.2.2 v33).bind fun r34 =>
cond r34.1 (
some (true, r34.2.1, ((0 : Int), (0 : Int), [], [], [], (0 : Int), false))) (
kn r34.2.2.2.2.2.1 r34.2.2.2.2.2.2.1 r34.2.2.2.2.2.2.2.1 x23 x24 x25 r34.2.2.1 r34.2.2.2.1 r34.2.2.2.2.1 r34.2.2.2.2.2.2.2.2)))) (
cond (!x18) (
(calc_reader__need k false (x20.drop (1 : Int).toNat) x21 x22).bind fun r35 =>
cond r35.1 (
some (true, r35.2.1, ((0 : Int), (0 : Int), [], [], [], (0 : Int), false))) (
(r.calc_reader__product r35.2.2.1 r35.2.2.2.1 r35.2.2.2.2).bind fun r36 =>
cond r36.1 (
some (true, r36.2.1, ((0 : Int), (0 : Int), [], [], [], (0 : Int), false))) (
let v37 : List S52 := [(⟨x26, x27, x28, x29⟩ : S52), (⟨r36.2.2.1, r36.2.2.2.1, r36.2.2.2.2.1, r36.2.2.2.2.2.1⟩ : S52)]
(calc_reader__made_v2 k x19 (0 : Int) ([]) r36.2.2.2.2.2.2.1 r36.2.2.2.2.2.2.2.1 r36.2.2.2.2.2.2.2.2 v37).bind fun r38 =>
cond r38.1 (
some (true, r38.2.1, ((0 : Int), (0 : Int), [], [], [], (0 : Int), false))) (
kn r38.2.2.2.2.2.1 r38.2.2.2.2.2.2.1 r38.2.2.2.2.2.2.2.1 x23 x24 x25 r38.2.2.1 r38.2.2.2.1 r38.2.2.2.2.1 r38.2.2.2.2.2.2.2.2)))) none)) none
def calc_reader__sum.c5 (k : Nat) (r : calc_reader__value.G.R) : Nat → (List S106) → Int → Bool → Int → Int → (List UInt8) → Int → Int → (List UInt8) → (List S52) → Option (Bool × Int × (Int × Int × (List UInt8) × (List S52) × (List S106) × Int × Bool))
  | 0, _, _, _, _, _, _, _, _, _, _ => none
  | n + 1, x5, x6, x7, x8, x9, x10, x11, x12, x13, x14 =>
    let v15 : Bool := (decide ((x5.length : Int) > (0 : Int)))
    cond ((decide (0 ≤ (0 : Int) ∧ (0 : Int) < (x5.length : Int))) || !v15) (
    let v16 : List UInt8 := (x5.getD ((0 : Int).toNat) S106.d).Raw
    let v17 : Bool := (cond v15 (v16 == ([43] : List UInt8)) false)
    cond v17 (
    calc_reader__sum.c18 k r x7 (2 : Int) x5 x6 x7 x8 x9 x10 x11 x12 x13 x14 (fun (y39 : List S106) (y40 : Int) (y41 : Bool) (y42 : Int) (y43 : Int) (y44 : List UInt8) (y45 : Int) (y46 : Int) (y47 : List UInt8) (y48 : List S52) =>
    calc_reader__sum.c5 k r n y39 y40 y41 y42 y43 y44 y45 y46 y47 y48)) (
    let v49 : Bool := (decide ((x5.length : Int) > (0 : Int)))
    cond ((decide (0 ≤ (0 : Int) ∧ (0 : Int) < (x5.length : Int))) || !v49) (
    let v50 : List UInt8 := (x5.getD ((0 : Int).toNat) S106.d).Raw
    let v51 : Bool := (cond v49 (v50 == ([45] : List UInt8)) false)
    cond v51 (
    calc_reader__sum.c18 k r x7 (3 : Int) x5 x6 x7 x8 x9 x10 x11 x12 x13 x14 (fun (y52 : List S106) (y53 : Int) (y54 : Bool) (y55 : Int) (y56 : Int) (y57 : List UInt8) (y58 : Int) (y59 : Int) (y60 : List UInt8) (y61 : List S52) =>
    calc_reader__sum.c5 k r n y52 y53 y54 y55 y56 y57 y58 y59 y60 y61)) (
    some (false, (0 : Int), (x11, x12, x13, x14, x5, x6, x7)))) none)) none
def calc_reader__sum.nat (k : Nat) (r : calc_reader__value.G.R) (a1 : List S106) (a2 : Int) (a3 : Bool) : Option (Bool × Int × (Int × Int × (List UInt8) × (List S52) × (List S106) × Int × Bool)) :=
(r.calc_reader__product a1 a2 a3).bind fun r4 =>
cond r4.1 (
some (true, r4.2.1, ((0 : Int), (0 : Int), [], [], [], (0 : Int), false))) (
calc_reader__sum.c5 k r k r4.2.2.2.2.2.2.1 r4.2.2.2.2.2.2.2.1 r4.2.2.2.2.2.2.2.2 (0 : Int) (0 : Int) ([]) r4.2.2.1 r4.2.2.2.1 r4.2.2.2.2.1 r4.2.2.2.2.2.1)
def calc_reader__value.c43 (k : Nat) (r : calc_reader__value.G.R) : Nat → (List S106) → Int → Bool → Int → Int → (List UInt8) → Int → Int → (List UInt8) → (List S52) → Option (Bool × Int × (Int × Int × (List UInt8) × (List S52) × (List S106) × Int × Bool))
  | 0, _, _, _, _, _, _, _, _, _, _ => none
  | n + 1, x73, x74, x75, x76, x77, x78, x79, x80, x81, x82 =>
    (r.calc_reader__sum x73 x74 x75).bind fun r83 =>
    cond r83.1 (
    some (true, r83.2.1, ((0 : Int), (0 : Int), [], [], [], (0 : Int), false))) (
    let v84 : List S52 := [(⟨r83.2.2.1, r83.2.2.2.1, r83.2.2.2.2.1, r83.2.2.2.2.2.1⟩ : S52)]
    cond (decide ((x82 ++ v84).length < most)) (
    (calc_reader__raw k ([44] : List UInt8) r83.2.2.2.2.2.2.1 r83.2.2.2.2.2.2.2.1 r83.2.2.2.2.2.2.2.2).bind fun r85 =>
    cond r85.1 (
    calc_reader__value.c43 k r n r85.2.1 r85.2.2.1 r85.2.2.2 x76 x77 x78 x79 x80 x81 (x82 ++ v84)) (
    (calc_reader__raw k ([41] : List UInt8) r85.2.1 r85.2.2.1 r85.2.2.2).bind fun r86 =>
    cond r86.1 (
    (calc_shaped k x79 x80 x81 (x82 ++ v84)).bind fun r87 =>
    (calc_reader__need k (cond r86.1 r87.1 false) r86.2.1 r86.2.2.1 r86.2.2.2).bind fun r88 =>
    cond r88.1 (
    some (true, r88.2.1, ((0 : Int), (0 : Int), [], [], [], (0 : Int), false))) (
    (calc_reader__made_v2 k x79 x80 x81 r88.2.2.1 r88.2.2.2.1 r88.2.2.2.2 r87.2).bind fun r89 =>
    cond r89.1 (
    some (true, r89.2.1, ((0 : Int), (0 : Int), [], [], [], (0 : Int), false))) (
    some (false, (0 : Int), (r89.2.2.1, r89.2.2.2.1, r89.2.2.2.2.1, r89.2.2.2.2.2.2.2.2, r89.2.2.2.2.2.1, r89.2.2.2.2.2.2.1, r89.2.2.2.2.2.2.2.1))))) (
    cond (!r86.1) (
    (calc_reader__need k false r86.2.1 r86.2.2.1 r86.2.2.2).bind fun r90 =>
    cond r90.1 (
    some (true, r90.2.1, ((0 : Int), (0 : Int), [], [], [], (0 : Int), false))) (
    (calc_reader__made_v2 k x79 x80 x81 r90.2.2.1 r90.2.2.2.1 r90.2.2.2.2 (x82 ++ v84)).bind fun r91 =>
    cond r91.1 (
    some (true, r91.2.1, ((0 : Int), (0 : Int), [], [], [], (0 : Int), false))) (
    some (false, (0 : Int), (r91.2.2.1, r91.2.2.2.1, r91.2.2.2.2.1, r91.2.2.2.2.2.2.2.2, r91.2.2.2.2.2.1, r91.2.2.2.2.2.2.1, r91.2.2.2.2.2.2.2.1))))) none))) none)
def calc_reader__value.nat (k : Nat) (r : calc_reader__value.G.R) (a1 : Bool) (a2 : List S106) (a3 : Int) (a4 : Bool) : Option (Bool × Int × (Int × Int × (List UInt8) × (List S52) × (List S106) × Int × Bool)) :=
let v5 : Bool := (decide ((a2.length : Int) > (0 : Int)))
(calc_reader__need k v5 a2 a3 a4).bind fun r6 =>
cond r6.1 (
some (true, r6.2.1, ((0 : Int), (0 : Int), [], [], [], (0 : Int), false))) (
cond (decide (0 ≤ (0 : Int) ∧ (0 : Int) < (r6.2.2.1.length : Int))) (
let v7 : Int := (r6.2.2.1.getD ((0 : Int).toNat) S106.d).Kind
let v8 : List UInt8 := (r6.2.2.1.getD ((0 : Int).toNat) S106.d).Raw
let v9 : List UInt8 := (r6.2.2.1.getD ((0 : Int).toNat) S106.d).Value
let v10 : Int := (r6.2.2.1.getD ((0 : Int).toNat) S106.d).Num
cond (decide (0 ≤ (1 : Int) ∧ (1 : Int) ≤ (r6.2.2.1.length : Int))) (
let v11 : List S106 := (r6.2.2.1.drop (1 : Int).toNat)
cond (v7 == (7 : Int)) (
(dim_Read k v8).bind fun r12 =>
(calc_reader__need k (r12.2.2 == (0 : Int)) v11 r6.2.2.2.1 r6.2.2.2.2).bind fun r13 =>
cond r13.1 (
some (true, r13.2.1, ((0 : Int), (0 : Int), [], [], [], (0 : Int), false))) (
(calc_reader__made k (1 : Int) r12.1 r12.2.1 r13.2.2.1 r13.2.2.2.1 r13.2.2.2.2).bind fun r14 =>
cond r14.1 (
some (true, r14.2.1, ((0 : Int), (0 : Int), [], [], [], (0 : Int), false))) (
some (false, (0 : Int), (r14.2.2.1, r14.2.2.2.1, r14.2.2.2.2.1, ([] : List S52), r14.2.2.2.2.2.1, r14.2.2.2.2.2.2.1, r14.2.2.2.2.2.2.2))))) (
let v15 : Bool := (cond a1 (v8 == ([40] : List UInt8)) false)
cond v15 (
(r.calc_reader__sum v11 r6.2.2.2.1 r6.2.2.2.2).bind fun r16 =>
cond r16.1 (
some (true, r16.2.1, ((0 : Int), (0 : Int), [], [], [], (0 : Int), false))) (
(calc_reader__raw k ([41] : List UInt8) r16.2.2.2.2.2.2.1 r16.2.2.2.2.2.2.2.1 r16.2.2.2.2.2.2.2.2).bind fun r62 =>
(calc_reader__need k r62.1 r62.2.1 r62.2.2.1 r62.2.2.2).bind fun r63 =>
cond r63.1 (
some (true, r63.2.1, ((0 : Int), (0 : Int), [], [], [], (0 : Int), false))) (
some (false, (0 : Int), (r16.2.2.1, r16.2.2.2.1, r16.2.2.2.2.1, r16.2.2.2.2.2.1, r63.2.2.1, r63.2.2.2.1, r63.2.2.2.2))))) (
(calc_reader__need k (v7 == (2 : Int)) v11 r6.2.2.2.1 r6.2.2.2.2).bind fun r64 =>
cond r64.1 (
some (true, r64.2.1, ((0 : Int), (0 : Int), [], [], [], (0 : Int), false))) (
(calc_lower k v9).bind fun r65 =>
let v66 : Bool := (r65 == ([99, 97, 108, 99] : List UInt8))
cond v66 (
(r.calc_reader__sum r64.2.2.1 r64.2.2.2.1 r64.2.2.2.2).bind fun r67 =>
cond r67.1 (
some (true, r67.2.1, ((0 : Int), (0 : Int), [], [], [], (0 : Int), false))) (
(calc_reader__raw k ([41] : List UInt8) r67.2.2.2.2.2.2.1 r67.2.2.2.2.2.2.2.1 r67.2.2.2.2.2.2.2.2).bind fun r68 =>
(calc_reader__need k r68.1 r68.2.1 r68.2.2.1 r68.2.2.2).bind fun r69 =>
cond r69.1 (
some (true, r69.2.1, ((0 : Int), (0 : Int), [], [], [], (0 : Int), false))) (
some (false, (0 : Int), (r67.2.2.1, r67.2.2.2.1, r67.2.2.2.2.1, r67.2.2.2.2.2.1, r69.2.2.1, r69.2.2.2.1, r69.2.2.2.2))))) (
let v70 : List (List UInt8) := [[], [], [], [], [], [], ([109, 105, 110] : List UInt8), ([109, 97, 120] : List UInt8), ([99, 108, 97, 109, 112] : List UInt8)]
(slices_Index___string_string_ k v70 r65).bind fun r71 =>
(calc_reader__need k (decide (r71 > (0 : Int))) r64.2.2.1 r64.2.2.2.1 r64.2.2.2.2).bind fun r72 =>
cond r72.1 (
some (true, r72.2.1, ((0 : Int), (0 : Int), [], [], [], (0 : Int), false))) (
calc_reader__value.c43 k r k r72.2.2.1 r72.2.2.2.1 r72.2.2.2.2 (0 : Int) (0 : Int) ([]) r71 (0 : Int) ([]) ([] : List S52))))))) none) none)
def calc_reader__value.G.rec (k : Nat) : Nat → calc_reader__value.G.R
  | 0 => ⟨fun _ _ _ => none, fun _ _ _ => none, fun _ _ _ _ => none⟩
  | n + 1 => ⟨calc_reader__product.nat k (calc_reader__value.G.rec k n), calc_reader__sum.nat k (calc_reader__value.G.rec k n), calc_reader__value.nat k (calc_reader__value.G.rec k n)⟩
def calc_reader__product (k : Nat) : (List S106) → Int → Bool → Option (Bool × Int × (Int × Int × (List UInt8) × (List S52) × (List S106) × Int × Bool)) := (calc_reader__value.G.rec k k).calc_reader__product
def calc_reader__sum (k : Nat) : (List S106) → Int → Bool → Option (Bool × Int × (Int × Int × (List UInt8) × (List S52) × (List S106) × Int × Bool)) := (calc_reader__value.G.rec k k).calc_reader__sum
def calc_reader__value (k : Nat) : Bool → (List S106) → Int → Bool → Option (Bool × Int × (Int × Int × (List UInt8) × (List S52) × (List S106) × Int × Bool)) := (calc_reader__value.G.rec k k).calc_reader__value
def calc_reader__value.G.tab (k : Nat) (r : calc_reader__value.G.R) : Tab T := addTab 52 (lineP io40 io58 pe88 (0 : Int) ((0 : Int), (0 : Int), [], [], [], (0 : Int), false) (fun v => r.calc_reader__value v.1 v.2.1 v.2.2.1 v.2.2.2)) (addTab 94 (lineP io49 io58 pe88 (0 : Int) ((0 : Int), (0 : Int), [], [], [], (0 : Int), false) (fun v => r.calc_reader__sum v.1 v.2.1 v.2.2)) (addTab 146 (lineP io49 io58 pe88 (0 : Int) ((0 : Int), (0 : Int), [], [], [], (0 : Int), false) (fun v => r.calc_reader__product v.1 v.2.1 v.2.2)) (tab35 k)))
def calc_reader__product.kr (w0 : World) (k : Nat) (r : calc_reader__value.G.R) : Kr T (Bool × Int × (Int × Int × (List UInt8) × (List S52) × (List S106) × Int × Bool)) := (kpan (retK (cfg w0 (calc_reader__value.G.tab k r)) Tryd.f146.results.toList 1 [] io58.pat) pp88 (0 : Int) ((0 : Int), (0 : Int), [], [], [], (0 : Int), false))
def calc_reader__product.x20 : Ex → Option (List Nat × List Sp)
  | .norm => some ([0, 2, 3], [])
  | _ => none
def calc_reader__product.L20 (k : Nat) (r : calc_reader__value.G.R) (v : Int × (List S106) × Int × Bool × Int × Int × (List UInt8) × Int × Int × (List UInt8) × (List S52)) (K : Ex → St T → Option (Bool × Int × (Int × Int × (List UInt8) × (List S52) × (List S106) × Int × Bool))) : Option (Bool × Int × (Int × Int × (List UInt8) × (List S52) × (List S106) × Int × Bool)) := calc_reader__product.c20 k r v.1 v.2.1 v.2.2.1 v.2.2.2.1 v.2.2.2.2.1 v.2.2.2.2.2.1 v.2.2.2.2.2.2.1 v.2.2.2.2.2.2.2.1 v.2.2.2.2.2.2.2.2.1 v.2.2.2.2.2.2.2.2.2.1 v.2.2.2.2.2.2.2.2.2.2 (fun y40 y41 y42 y43 y44 y45 y46 y47 y48 y49 => K .norm (mkSt [0, 2, 3] (io60.enc (y40, y41, y42, y43, y44, y45, y46, y47, y48, y49))))
def calc_reader__product.x7 : Ex → Option (List Nat × List Sp)
  | _ => none
def calc_reader__product.L7 (k : Nat) (r : calc_reader__value.G.R) (n : Nat) (v : (List S106) × Int × Bool × Int × Int × (List UInt8) × Int × Int × (List UInt8) × (List S52)) (K : Ex → St T → Option (Bool × Int × (Int × Int × (List UInt8) × (List S52) × (List S106) × Int × Bool))) : Option (Bool × Int × (Int × Int × (List UInt8) × (List S52) × (List S106) × Int × Bool)) := calc_reader__product.c7 k r n v.1 v.2.1 v.2.2.1 v.2.2.2.1 v.2.2.2.2.1 v.2.2.2.2.2.1 v.2.2.2.2.2.2.1 v.2.2.2.2.2.2.2.1 v.2.2.2.2.2.2.2.2.1 v.2.2.2.2.2.2.2.2.2
def calc_reader__product.cuts (w0 : World) (k : Nat) (r : calc_reader__value.G.R) : Cuts T (Bool × Int × (Int × Int × (List UInt8) × (List S52) × (List S106) × Int × Bool)) := fun n => bif n.beq 20 then some (entK (cfg w0 (calc_reader__value.G.tab k r)) 1 [0, 2, 3, 4] [] io59.pat (calc_reader__product.L20 k r)) else bif n.beq 7 then some (entK (cfg w0 (calc_reader__value.G.tab k r)) 1 [0, 2, 3] [.box 3 52] io61.pat (calc_reader__product.L7 k r k)) else none
def calc_reader__product.body : Code := bodyOf Tryd.f146
def calc_reader__product.b20 : Code := findD 20 calc_reader__product.body
theorem calc_reader__product.s20 (w0 : World) (k : Nat) (r : calc_reader__value.G.R) : ∀ v K, calc_reader__product.L20 k r v K = runK (cfg w0 (calc_reader__value.G.tab k r)) Tryd.f146.ntmps (calc_reader__product.kr w0 k r) (annot (calc_reader__product.cuts w0 k r) calc_reader__product.b20) (mkSt [0, 2, 3, 4] (io59.enc v)) (outK (cfg w0 (calc_reader__value.G.tab k r)) 1 calc_reader__product.x20 K) := by
  intro v K; kernel_rfl
def calc_reader__product.b7 : Code := findD 7 calc_reader__product.body
theorem calc_reader__product.s7 (w0 : World) (k : Nat) (r : calc_reader__value.G.R) : ∀ n v K, calc_reader__product.L7 k r (n + 1) v K = runK (cfg w0 (calc_reader__value.G.tab k r)) Tryd.f146.ntmps (calc_reader__product.kr w0 k r) (annot (calc_reader__product.cuts w0 k r) calc_reader__product.b7) (mkSt [0, 2, 3] (io61.enc v)) (loopK (cfg w0 (calc_reader__value.G.tab k r)) 1 calc_reader__product.x7 (entK (cfg w0 (calc_reader__value.G.tab k r)) 1 [0, 2, 3] [.box 3 52] io61.pat (calc_reader__product.L7 k r n)) K) := by
  intro n v K; kernel_rfl
theorem calc_reader__product.e (w0 : World) (k : Nat) (r : calc_reader__value.G.R) : ∀ v, (fun v => calc_reader__product.nat k r v.1 v.2.1 v.2.2) v = runK (cfg w0 (calc_reader__value.G.tab k r)) Tryd.f146.ntmps (calc_reader__product.kr w0 k r) (annot (calc_reader__product.cuts w0 k r) calc_reader__product.body) (entry (io49.enc v).1 (io49.enc v).2) (endK (calc_reader__product.kr w0 k r)) := by
  intro v; kernel_rfl
theorem calc_reader__product.hb : Tryd.f146.body = some calc_reader__product.body := by kernel_rfl
def calc_reader__sum.kr (w0 : World) (k : Nat) (r : calc_reader__value.G.R) : Kr T (Bool × Int × (Int × Int × (List UInt8) × (List S52) × (List S106) × Int × Bool)) := (kpan (retK (cfg w0 (calc_reader__value.G.tab k r)) Tryd.f94.results.toList 1 [] io58.pat) pp88 (0 : Int) ((0 : Int), (0 : Int), [], [], [], (0 : Int), false))
def calc_reader__sum.x18 : Ex → Option (List Nat × List Sp)
  | .norm => some ([0, 2, 3], [])
  | _ => none
def calc_reader__sum.L18 (k : Nat) (r : calc_reader__value.G.R) (v : Bool × Int × (List S106) × Int × Bool × Int × Int × (List UInt8) × Int × Int × (List UInt8) × (List S52)) (K : Ex → St T → Option (Bool × Int × (Int × Int × (List UInt8) × (List S52) × (List S106) × Int × Bool))) : Option (Bool × Int × (Int × Int × (List UInt8) × (List S52) × (List S106) × Int × Bool)) := calc_reader__sum.c18 k r v.1 v.2.1 v.2.2.1 v.2.2.2.1 v.2.2.2.2.1 v.2.2.2.2.2.1 v.2.2.2.2.2.2.1 v.2.2.2.2.2.2.2.1 v.2.2.2.2.2.2.2.2.1 v.2.2.2.2.2.2.2.2.2.1 v.2.2.2.2.2.2.2.2.2.2.1 v.2.2.2.2.2.2.2.2.2.2.2 (fun y50 y51 y52 y53 y54 y55 y56 y57 y58 y59 => K .norm (mkSt [0, 2, 3] (io60.enc (y50, y51, y52, y53, y54, y55, y56, y57, y58, y59))))
def calc_reader__sum.x5 : Ex → Option (List Nat × List Sp)
  | _ => none
def calc_reader__sum.L5 (k : Nat) (r : calc_reader__value.G.R) (n : Nat) (v : (List S106) × Int × Bool × Int × Int × (List UInt8) × Int × Int × (List UInt8) × (List S52)) (K : Ex → St T → Option (Bool × Int × (Int × Int × (List UInt8) × (List S52) × (List S106) × Int × Bool))) : Option (Bool × Int × (Int × Int × (List UInt8) × (List S52) × (List S106) × Int × Bool)) := calc_reader__sum.c5 k r n v.1 v.2.1 v.2.2.1 v.2.2.2.1 v.2.2.2.2.1 v.2.2.2.2.2.1 v.2.2.2.2.2.2.1 v.2.2.2.2.2.2.2.1 v.2.2.2.2.2.2.2.2.1 v.2.2.2.2.2.2.2.2.2
def calc_reader__sum.cuts (w0 : World) (k : Nat) (r : calc_reader__value.G.R) : Cuts T (Bool × Int × (Int × Int × (List UInt8) × (List S52) × (List S106) × Int × Bool)) := fun n => bif n.beq 18 then some (entK (cfg w0 (calc_reader__value.G.tab k r)) 1 [0, 2, 3, 4, 5] [] io62.pat (calc_reader__sum.L18 k r)) else bif n.beq 5 then some (entK (cfg w0 (calc_reader__value.G.tab k r)) 1 [0, 2, 3] [.box 3 52] io61.pat (calc_reader__sum.L5 k r k)) else none
def calc_reader__sum.body : Code := bodyOf Tryd.f94
def calc_reader__sum.b18 : Code := findD 18 calc_reader__sum.body
theorem calc_reader__sum.s18 (w0 : World) (k : Nat) (r : calc_reader__value.G.R) : ∀ v K, calc_reader__sum.L18 k r v K = runK (cfg w0 (calc_reader__value.G.tab k r)) Tryd.f94.ntmps (calc_reader__sum.kr w0 k r) (annot (calc_reader__sum.cuts w0 k r) calc_reader__sum.b18) (mkSt [0, 2, 3, 4, 5] (io62.enc v)) (outK (cfg w0 (calc_reader__value.G.tab k r)) 1 calc_reader__sum.x18 K) := by
  intro v K; kernel_rfl
def calc_reader__sum.b5 : Code := findD 5 calc_reader__sum.body
theorem calc_reader__sum.s5 (w0 : World) (k : Nat) (r : calc_reader__value.G.R) : ∀ n v K, calc_reader__sum.L5 k r (n + 1) v K = runK (cfg w0 (calc_reader__value.G.tab k r)) Tryd.f94.ntmps (calc_reader__sum.kr w0 k r) (annot (calc_reader__sum.cuts w0 k r) calc_reader__sum.b5) (mkSt [0, 2, 3] (io61.enc v)) (loopK (cfg w0 (calc_reader__value.G.tab k r)) 1 calc_reader__sum.x5 (entK (cfg w0 (calc_reader__value.G.tab k r)) 1 [0, 2, 3] [.box 3 52] io61.pat (calc_reader__sum.L5 k r n)) K) := by
  intro n v K; kernel_rfl
theorem calc_reader__sum.e (w0 : World) (k : Nat) (r : calc_reader__value.G.R) : ∀ v, (fun v => calc_reader__sum.nat k r v.1 v.2.1 v.2.2) v = runK (cfg w0 (calc_reader__value.G.tab k r)) Tryd.f94.ntmps (calc_reader__sum.kr w0 k r) (annot (calc_reader__sum.cuts w0 k r) calc_reader__sum.body) (entry (io49.enc v).1 (io49.enc v).2) (endK (calc_reader__sum.kr w0 k r)) := by
  intro v; kernel_rfl
theorem calc_reader__sum.hb : Tryd.f94.body = some calc_reader__sum.body := by kernel_rfl
def calc_reader__value.kr (w0 : World) (k : Nat) (r : calc_reader__value.G.R) : Kr T (Bool × Int × (Int × Int × (List UInt8) × (List S52) × (List S106) × Int × Bool)) := (kpan (retK (cfg w0 (calc_reader__value.G.tab k r)) Tryd.f52.results.toList 1 [.agg 0 52] io58.pat) pp88 (0 : Int) ((0 : Int), (0 : Int), [], [], [], (0 : Int), false))
def calc_reader__value.x43 : Ex → Option (List Nat × List Sp)
  | _ => none
def calc_reader__value.L43 (k : Nat) (r : calc_reader__value.G.R) (n : Nat) (v : (List S106) × Int × Bool × Int × Int × (List UInt8) × Int × Int × (List UInt8) × (List S52)) (K : Ex → St T → Option (Bool × Int × (Int × Int × (List UInt8) × (List S52) × (List S106) × Int × Bool))) : Option (Bool × Int × (Int × Int × (List UInt8) × (List S52) × (List S106) × Int × Bool)) := calc_reader__value.c43 k r n v.1 v.2.1 v.2.2.1 v.2.2.2.1 v.2.2.2.2.1 v.2.2.2.2.2.1 v.2.2.2.2.2.2.1 v.2.2.2.2.2.2.2.1 v.2.2.2.2.2.2.2.2.1 v.2.2.2.2.2.2.2.2.2
def calc_reader__value.cuts (w0 : World) (k : Nat) (r : calc_reader__value.G.R) : Cuts T (Bool × Int × (Int × Int × (List UInt8) × (List S52) × (List S106) × Int × Bool)) := fun n => bif n.beq 43 then some (entK (cfg w0 (calc_reader__value.G.tab k r)) 1 [0, 4, 12] [.cell 12 3 52] io60.pat (calc_reader__value.L43 k r k)) else none
def calc_reader__value.body : Code := bodyOf Tryd.f52
def calc_reader__value.b43 : Code := findD 43 calc_reader__value.body
theorem calc_reader__value.s43 (w0 : World) (k : Nat) (r : calc_reader__value.G.R) : ∀ n v K, calc_reader__value.L43 k r (n + 1) v K = runK (cfg w0 (calc_reader__value.G.tab k r)) Tryd.f52.ntmps (calc_reader__value.kr w0 k r) (annot (calc_reader__value.cuts w0 k r) calc_reader__value.b43) (mkSt [0, 4, 12] (io60.enc v)) (loopK (cfg w0 (calc_reader__value.G.tab k r)) 1 calc_reader__value.x43 (entK (cfg w0 (calc_reader__value.G.tab k r)) 1 [0, 4, 12] [.cell 12 3 52] io60.pat (calc_reader__value.L43 k r n)) K) := by
  intro n v K; kernel_rfl
theorem calc_reader__value.e (w0 : World) (k : Nat) (r : calc_reader__value.G.R) : ∀ v, (fun v => calc_reader__value.nat k r v.1 v.2.1 v.2.2.1 v.2.2.2) v = runK (cfg w0 (calc_reader__value.G.tab k r)) Tryd.f52.ntmps (calc_reader__value.kr w0 k r) (annot (calc_reader__value.cuts w0 k r) calc_reader__value.body) (entry (io40.enc v).1 (io40.enc v).2) (endK (calc_reader__value.kr w0 k r)) := by
  intro v; kernel_rfl
theorem calc_reader__value.hb : Tryd.f52.body = some calc_reader__value.body := by kernel_rfl
def tab36 (k : Nat) : Tab T := calc_reader__value.G.tab k (calc_reader__value.G.rec k k)
def calc_Read (k : Nat) (a1 : List UInt8) : Option (Int × Int × (List UInt8) × (List S52) × Int) :=
let v2 : Bool := (decide ((a1.length : Int) > (400 : Int)))
cond v2 (
some ((0 : Int), (0 : Int), [], ([] : List S52), (2 : Int))) (
(csstok_Cut k a1).bind fun r3 =>
(calc_reader__gap k (0 : Int) false r3).bind fun r4 =>
(calc_reader__value k false r4.2.1 r4.2.2.1 r4.2.2.2).bind fun r5 =>
cond r5.1 (
some ((0 : Int), (0 : Int), [], ([] : List S52), r5.2.1)) (
(calc_reader__gap_v2 k r5.2.2.2.2.2.2.1 r5.2.2.2.2.2.2.2.1 r5.2.2.2.2.2.2.2.2).bind fun r6 =>
let v7 : Bool := ((r6.2.1.length : Int) == (0 : Int))
(calc_reader__need k v7 r6.2.1 r6.2.2.1 r6.2.2.2).bind fun r8 =>
cond r8.1 (
some ((0 : Int), (0 : Int), [], ([] : List S52), r8.2.1)) (
some (r5.2.2.1, r5.2.2.2.1, r5.2.2.2.2.1, r5.2.2.2.2.2.1, (0 : Int)))))
def calc_Read.body : Code := bodyOf Tryd.f25
theorem calc_Read.e (w0 : World) (k : Nat) : ∀ v, (fun v => calc_Read k v) v = runDf (cfg w0 (tab36 k)) Tryd.f25.ntmps (retK (cfg w0 (tab36 k)) Tryd.f25.results.toList 0 [.agg 0 52] io63.pat) (F50 (cfg w0 (tab36 k))) (seqA calc_Read.body) (seqC calc_Read.body) (seqB calc_Read.body) 9 50 #[.tmp 2, .tmp 3].toList (entry (io1.enc v).1 (io1.enc v).2) := by
  intro v; kernel_rfl
theorem calc_Read.hb : Tryd.f25.body = some (.seq (seqA calc_Read.body) (.seq (seqC calc_Read.body) (.seq (.region 3 #[⟨some 9, .makeFunc (.func 50) #[] #[.tmp 2, .tmp 3], 1, "calc.go:199", #[], none⟩, ⟨none, .defer ⟨.value (.tmp 9), #[], #[]⟩, 0, "calc.go:199", #[⟨0, .data⟩], none⟩] false) (seqB calc_Read.body)))) := by kernel_rfl
def tab37 (k : Nat) : Tab T := addTab 25 (line io1 io63 ((0 : Int), (0 : Int), [], [], (0 : Int)) (fun v => calc_Read k v)) (tab36 k)
def calc_shaped_v2 (k : Nat) (a1 : Int) (a2 : Int) (a3 : List UInt8) (a4 : List S52) : Option (Bool) :=
cond (a1 == (1 : Int)) (
let v5 : Bool := ((a4.length : Int) == (0 : Int))
some v5) (
cond (a1 == (2 : Int)) (
cond (a1 == (2 : Int)) (
let v6 : Bool := ((a4.length : Int) == (2 : Int))
some v6) (
cond (a1 == (6 : Int)) (
cond (a1 == (6 : Int)) (
let v7 : Bool := (decide ((a4.length : Int) > (0 : Int)))
some v7) (
cond (a1 == (8 : Int)) (
let v8 : Bool := ((a4.length : Int) == (3 : Int))
some v8) (
some false))) (
cond (a1 == (7 : Int)) (
let v9 : Bool := (decide ((a4.length : Int) > (0 : Int)))
some v9) (
cond (a1 == (8 : Int)) (
let v10 : Bool := ((a4.length : Int) == (3 : Int))
some v10) (
some false))))) (
cond (a1 == (3 : Int)) (
cond (a1 == (3 : Int)) (
let v11 : Bool := ((a4.length : Int) == (2 : Int))
some v11) (
cond (a1 == (6 : Int)) (
cond (a1 == (6 : Int)) (
let v12 : Bool := (decide ((a4.length : Int) > (0 : Int)))
some v12) (
cond (a1 == (8 : Int)) (
let v13 : Bool := ((a4.length : Int) == (3 : Int))
some v13) (
some false))) (
cond (a1 == (7 : Int)) (
let v14 : Bool := (decide ((a4.length : Int) > (0 : Int)))
some v14) (
cond (a1 == (8 : Int)) (
let v15 : Bool := ((a4.length : Int) == (3 : Int))
some v15) (
some false))))) (
cond (a1 == (4 : Int)) (
cond (a1 == (4 : Int)) (
let v16 : Bool := ((a4.length : Int) == (2 : Int))
some v16) (
cond (a1 == (6 : Int)) (
cond (a1 == (6 : Int)) (
let v17 : Bool := (decide ((a4.length : Int) > (0 : Int)))
some v17) (
cond (a1 == (8 : Int)) (
let v18 : Bool := ((a4.length : Int) == (3 : Int))
some v18) (
some false))) (
cond (a1 == (7 : Int)) (
let v19 : Bool := (decide ((a4.length : Int) > (0 : Int)))
some v19) (
cond (a1 == (8 : Int)) (
let v20 : Bool := ((a4.length : Int) == (3 : Int))
some v20) (
some false))))) (
cond (a1 == (5 : Int)) (
let v21 : Bool := ((a4.length : Int) == (2 : Int))
some v21) (
cond (a1 == (6 : Int)) (
cond (a1 == (6 : Int)) (
let v22 : Bool := (decide ((a4.length : Int) > (0 : Int)))
some v22) (
cond (a1 == (8 : Int)) (
let v23 : Bool := ((a4.length : Int) == (3 : Int))
some v23) (
some false))) (
cond (a1 == (7 : Int)) (
let v24 : Bool := (decide ((a4.length : Int) > (0 : Int)))
some v24) (
cond (a1 == (8 : Int)) (
let v25 : Bool := ((a4.length : Int) == (3 : Int))
some v25) (
some false))))))))
def calc_shaped_v2.kr (w0 : World) (k : Nat) : Kr T (Bool) := (kret (retK (cfg w0 (tab37 k)) Tryd.f54.results.toList 0 [] io2.pat))
def calc_shaped_v2.cuts (w0 : World) (k : Nat) : Cuts T (Bool) := fun n => none
def calc_shaped_v2.body : Code := bodyOf Tryd.f54
theorem calc_shaped_v2.e (w0 : World) (k : Nat) : ∀ v, (fun v => calc_shaped_v2 k v.1 v.2.1 v.2.2.1 v.2.2.2) v = runK (cfg w0 (tab37 k)) Tryd.f54.ntmps (calc_shaped_v2.kr w0 k) (annot (calc_shaped_v2.cuts w0 k) calc_shaped_v2.body) (entry (io64.enc v).1 (io64.enc v).2) (endK (calc_shaped_v2.kr w0 k)) := by
  intro v; kernel_rfl
theorem calc_shaped_v2.hb : Tryd.f54.body = some calc_shaped_v2.body := by kernel_rfl
def tab38 (k : Nat) : Tab T := addTab 54 (line io64 io2 false (fun v => calc_shaped_v2 k v.1 v.2.1 v.2.2.1 v.2.2.2)) (tab37 k)
def strconv_Itoa (k : Nat) (a11 : Int) : Option (List UInt8) := itoaS a11
def tab39 (k : Nat) : Tab T := addTab 79 (line io4 io1 [] (fun v => strconv_Itoa k v)) (tab38 k)
def strings_TrimRight (k : Nat) (a15 : List UInt8) (a16 : List UInt8) : Option (List UInt8) := trimR a15 a16
def tab40 (k : Nat) : Tab T := addTab 98 (line io0 io1 [] (fun v => strings_TrimRight k v.1 v.2)) (tab39 k)
def dim_Text.c18 (k : Nat) (x15 : List UInt8) (x16 : Int) (x17 : List UInt8)  : Option (List UInt8) :=
cond (Nat.ble (x15.length + x17.length) 9223372036854775807) (
some (x15 ++ x17)) none
def dim_Text.c10 (k : Nat) (x5 : Int) (x6 : List UInt8) (x7 : Int) (x8 : List UInt8)  : Option (List UInt8) :=
cond ((1000 : Int) != 0) (
let v9 : Int := (IntKind.wrap .i64 (Int.tdiv x5 (1000 : Int)))
(strconv_Itoa k v9).bind fun r10 =>
cond (Nat.ble (x6.length + r10.length) 9223372036854775807) (
cond ((1000 : Int) != 0) (
let v11 : Int := (IntKind.wrap .i64 ((1000 : Int) + (Int.tmod x5 (1000 : Int))))
(strconv_Itoa k v11).bind fun r12 =>
cond (decide (0 ≤ (1 : Int) ∧ (1 : Int) ≤ (r12.length : Int))) (
(strings_TrimRight k (r12.drop (1 : Int).toNat) ([48] : List UInt8)).bind fun r13 =>
cond (!(r13 == ([] : List UInt8))) (
cond (Nat.ble (([46] : List UInt8).length + r13.length) 9223372036854775807) (
cond (Nat.ble ((x6 ++ r10).length + (([46] : List UInt8) ++ r13).length) 9223372036854775807) (
let v14 : List UInt8 := ((x6 ++ r10) ++ (([46] : List UInt8) ++ r13))
dim_Text.c18 k v14 x7 x8) none) none) (
dim_Text.c18 k (x6 ++ r10) x7 x8)) none) none) none) none
def dim_Text (k : Nat) (a1 : Int) (a2 : List UInt8) : Option (List UInt8) :=
let v3 : Int := (if (-1000000000 : Int) > a1 then (-1000000000 : Int) else a1)
let v4 : Int := (if (1000000000 : Int) < v3 then (1000000000 : Int) else v3)
cond (decide (v4 < (0 : Int))) (
dim_Text.c10 k (IntKind.wrap .i64 (0 - v4)) ([45] : List UInt8) a1 a2) (
dim_Text.c10 k v4 ([] : List UInt8) a1 a2)
def dim_Text.kr (w0 : World) (k : Nat) : Kr T (List UInt8) := (kret (retK (cfg w0 (tab40 k)) Tryd.f55.results.toList 0 [] io1.pat))
def dim_Text.x18 : Ex → Option (List Nat × List Sp)
  | _ => none
def dim_Text.L18 (k : Nat) (v : (List UInt8) × Int × (List UInt8)) (K : Ex → St T → Option (List UInt8)) : Option (List UInt8) := dim_Text.c18 k v.1 v.2.1 v.2.2
def dim_Text.x10 : Ex → Option (List Nat × List Sp)
  | _ => none
def dim_Text.L10 (k : Nat) (v : Int × (List UInt8) × Int × (List UInt8)) (K : Ex → St T → Option (List UInt8)) : Option (List UInt8) := dim_Text.c10 k v.1 v.2.1 v.2.2.1 v.2.2.2
def dim_Text.cuts (w0 : World) (k : Nat) : Cuts T (List UInt8) := fun n => bif n.beq 18 then some (entK (cfg w0 (tab40 k)) 0 [1, 5] [] io66.pat (dim_Text.L18 k)) else bif n.beq 10 then some (entK (cfg w0 (tab40 k)) 0 [1, 3, 4] [] io67.pat (dim_Text.L10 k)) else none
def dim_Text.body : Code := bodyOf Tryd.f55
def dim_Text.b18 : Code := findD 18 dim_Text.body
theorem dim_Text.s18 (w0 : World) (k : Nat) : ∀ v K, dim_Text.L18 k v K = runK (cfg w0 (tab40 k)) Tryd.f55.ntmps (dim_Text.kr w0 k) (annot (dim_Text.cuts w0 k) dim_Text.b18) (mkSt [1, 5] (io66.enc v)) (outK (cfg w0 (tab40 k)) 0 dim_Text.x18 K) := by
  intro v K; kernel_rfl
def dim_Text.b10 : Code := findD 10 dim_Text.body
theorem dim_Text.s10 (w0 : World) (k : Nat) : ∀ v K, dim_Text.L10 k v K = runK (cfg w0 (tab40 k)) Tryd.f55.ntmps (dim_Text.kr w0 k) (annot (dim_Text.cuts w0 k) dim_Text.b10) (mkSt [1, 3, 4] (io67.enc v)) (outK (cfg w0 (tab40 k)) 0 dim_Text.x10 K) := by
  intro v K; kernel_rfl
theorem dim_Text.e (w0 : World) (k : Nat) : ∀ v, (fun v => dim_Text k v.1 v.2) v = runK (cfg w0 (tab40 k)) Tryd.f55.ntmps (dim_Text.kr w0 k) (annot (dim_Text.cuts w0 k) dim_Text.body) (entry (io65.enc v).1 (io65.enc v).2) (endK (dim_Text.kr w0 k)) := by
  intro v; kernel_rfl
theorem dim_Text.hb : Tryd.f55.body = some dim_Text.body := by kernel_rfl
def tab41 (k : Nat) : Tab T := addTab 55 (line io65 io1 [] (fun v => dim_Text k v.1 v.2)) (tab40 k)
def calc_word (k : Nat) (a1 : Int) : Option (List UInt8) :=
cond (a1 == (6 : Int)) (
some ([109, 105, 110] : List UInt8)) (
cond (a1 == (7 : Int)) (
some ([109, 97, 120] : List UInt8)) (
cond (a1 == (8 : Int)) (
let v2 : List UInt8 := ([99, 108, 97, 109, 112] : List UInt8)
some v2) (
some ([] : List UInt8))))
def calc_word.kr (w0 : World) (k : Nat) : Kr T (List UInt8) := (kret (retK (cfg w0 (tab41 k)) Tryd.f56.results.toList 0 [] io1.pat))
def calc_word.cuts (w0 : World) (k : Nat) : Cuts T (List UInt8) := fun n => none
def calc_word.body : Code := bodyOf Tryd.f56
theorem calc_word.e (w0 : World) (k : Nat) : ∀ v, (fun v => calc_word k v) v = runK (cfg w0 (tab41 k)) Tryd.f56.ntmps (calc_word.kr w0 k) (annot (calc_word.cuts w0 k) calc_word.body) (entry (io4.enc v).1 (io4.enc v).2) (endK (calc_word.kr w0 k)) := by
  intro v; kernel_rfl
theorem calc_word.hb : Tryd.f56.body = some calc_word.body := by kernel_rfl
def tab42 (k : Nat) : Tab T := addTab 56 (line io4 io1 [] (fun v => calc_word k v)) (tab41 k)
def calc_sign (k : Nat) (a1 : Int) : Option (List UInt8) :=
cond (a1 == (2 : Int)) (
some ([32, 43, 32] : List UInt8)) (
cond (a1 == (3 : Int)) (
some ([32, 45, 32] : List UInt8)) (
cond (a1 == (4 : Int)) (
some ([32, 42, 32] : List UInt8)) (
cond (a1 == (5 : Int)) (
some ([32, 47, 32] : List UInt8)) (
some ([44, 32] : List UInt8)))))
def calc_sign.kr (w0 : World) (k : Nat) : Kr T (List UInt8) := (kret (retK (cfg w0 (tab42 k)) Tryd.f58.results.toList 0 [] io1.pat))
def calc_sign.cuts (w0 : World) (k : Nat) : Cuts T (List UInt8) := fun n => none
def calc_sign.body : Code := bodyOf Tryd.f58
theorem calc_sign.e (w0 : World) (k : Nat) : ∀ v, (fun v => calc_sign k v) v = runK (cfg w0 (tab42 k)) Tryd.f58.ntmps (calc_sign.kr w0 k) (annot (calc_sign.cuts w0 k) calc_sign.body) (entry (io4.enc v).1 (io4.enc v).2) (endK (calc_sign.kr w0 k)) := by
  intro v; kernel_rfl
theorem calc_sign.hb : Tryd.f58.body = some calc_sign.body := by kernel_rfl
def tab43 (k : Nat) : Tab T := addTab 58 (line io4 io1 [] (fun v => calc_sign k v)) (tab42 k)
def f__strings_Builder__Grow (k : Nat) (a23 : Int) (a24 : List UInt8) : Option (List UInt8) := growS a24 a23
def tab44 (k : Nat) : Tab T := addTab 82 (line io15 io68 [] (fun v => f__strings_Builder__Grow k v.1 v.2)) (tab43 k)
def strings_Join.c20 (k : Nat) (x8 : List UInt8) (x9 : Int) (kn : (List UInt8) → Int → Option (List UInt8)) : Option (List UInt8) :=
let v10 : Int := (IntKind.wrap .i64 (((0 : Nat) : Int) - (1 : Int)))
let v11 : Int := (IntKind.wrap .i64 ((x8.length : Int) * v10))
kn x8 (IntKind.wrap .i64 (x9 + v11))
def strings_Join.c25 (k : Nat) : Nat → (List UInt8) → Int → Int → Int → ((List UInt8) → Int → Option (List UInt8)) → Option (List UInt8)
  | 0, _, _, _, _, _ => none
  | n + 1, x16, x17, x18, x19, k1 =>
    cond (decide (x19 < x18)) (
    none) (
    k1 x16 x17)
def strings_Join.c22 (k : Nat) (x14 : List UInt8) (x15 : Int)  : Option (List UInt8) :=
strings_Join.c25 k k x14 x15 ((0 : Nat) : Int) (0 : Int) (fun (y20 : List UInt8) (y21 : Int) =>
(f__strings_Builder__Grow k y21 ([] : List UInt8)).bind fun r22 =>
none)
def strings_Join (k : Nat) (a1 : List UInt8) : Option (List UInt8) :=
let v2 : Bool := (((0 : Nat) : Int) == (0 : Int))
cond v2 (
some ([] : List UInt8)) (
let v3 : Bool := (((0 : Nat) : Int) == (1 : Int))
cond v3 (
none) (
let v4 : Bool := (decide ((a1.length : Int) > (0 : Int)))
cond v4 (
let v5 : Int := (IntKind.wrap .i64 (((0 : Nat) : Int) - (1 : Int)))
cond (v5 != 0) (
let v6 : Int := (IntKind.wrap .i64 (Int.tdiv (9223372036854775807 : Int) v5))
let v7 : Bool := (decide ((a1.length : Int) ≥ v6))
cond v7 (
none) (
strings_Join.c20 k a1 (0 : Int) (fun (y12 : List UInt8) (y13 : Int) =>
strings_Join.c22 k y12 y13))) none) (
strings_Join.c22 k a1 (0 : Int))))
def strings_Join.kr (w0 : World) (k : Nat) : Kr T (List UInt8) := (kret (retK (cfg w0 (tab44 k)) Tryd.f57.results.toList 0 [] io1.pat))
def strings_Join.x20 : Ex → Option (List Nat × List Sp)
  | .norm => some ([0, 1, 5], [])
  | _ => none
def strings_Join.L20 (k : Nat) (v : (List UInt8) × Int) (K : Ex → St T → Option (List UInt8)) : Option (List UInt8) := strings_Join.c20 k v.1 v.2 (fun y60 y61 => K .norm (mkSt [0, 1, 5] (io70.enc (y60, y61))))
def strings_Join.x25 : Ex → Option (List Nat × List Sp)
  | .exit 1 => some ([0, 1, 5], [])
  | _ => none
def strings_Join.L25 (k : Nat) (n : Nat) (v : (List UInt8) × Int × Int × Int) (K : Ex → St T → Option (List UInt8)) : Option (List UInt8) := strings_Join.c25 k n v.1 v.2.1 v.2.2.1 v.2.2.2 (fun y62 y63 => K (.exit 1) (mkSt [0, 1, 5] (io70.enc (y62, y63))))
def strings_Join.x22 : Ex → Option (List Nat × List Sp)
  | _ => none
def strings_Join.L22 (k : Nat) (v : (List UInt8) × Int) (K : Ex → St T → Option (List UInt8)) : Option (List UInt8) := strings_Join.c22 k v.1 v.2
def strings_Join.cuts (w0 : World) (k : Nat) : Cuts T (List UInt8) := fun n => bif n.beq 20 then some (entK (cfg w0 (tab44 k)) 0 [0, 1, 5] [] io70.pat (strings_Join.L20 k)) else bif n.beq 25 then some (entK (cfg w0 (tab44 k)) 0 [0, 1, 5, 39, 40, 41] [] io71.pat (strings_Join.L25 k k)) else bif n.beq 22 then some (entK (cfg w0 (tab44 k)) 0 [0, 1, 5] [] io70.pat (strings_Join.L22 k)) else none
def strings_Join.body : Code := bodyOf Tryd.f57
def strings_Join.b20 : Code := findD 20 strings_Join.body
theorem strings_Join.s20 (w0 : World) (k : Nat) : ∀ v K, strings_Join.L20 k v K = runK (cfg w0 (tab44 k)) Tryd.f57.ntmps (strings_Join.kr w0 k) (annot (strings_Join.cuts w0 k) strings_Join.b20) (mkSt [0, 1, 5] (io70.enc v)) (outK (cfg w0 (tab44 k)) 0 strings_Join.x20 K) := by
  intro v K; kernel_rfl
def strings_Join.b25 : Code := findD 25 strings_Join.body
theorem strings_Join.s25 (w0 : World) (k : Nat) : ∀ n v K, strings_Join.L25 k (n + 1) v K = runK (cfg w0 (tab44 k)) Tryd.f57.ntmps (strings_Join.kr w0 k) (annot (strings_Join.cuts w0 k) strings_Join.b25) (mkSt [0, 1, 5, 39, 40, 41] (io71.enc v)) (loopK (cfg w0 (tab44 k)) 0 strings_Join.x25 (entK (cfg w0 (tab44 k)) 0 [0, 1, 5, 39, 40, 41] [] io71.pat (strings_Join.L25 k n)) K) := by
  intro n v K; kernel_rfl
def strings_Join.b22 : Code := findD 22 strings_Join.body
theorem strings_Join.s22 (w0 : World) (k : Nat) : ∀ v K, strings_Join.L22 k v K = runK (cfg w0 (tab44 k)) Tryd.f57.ntmps (strings_Join.kr w0 k) (annot (strings_Join.cuts w0 k) strings_Join.b22) (mkSt [0, 1, 5] (io70.enc v)) (outK (cfg w0 (tab44 k)) 0 strings_Join.x22 K) := by
  intro v K; kernel_rfl
theorem strings_Join.e (w0 : World) (k : Nat) : ∀ v, (fun v => strings_Join k v) v = runK (cfg w0 (tab44 k)) Tryd.f57.ntmps (strings_Join.kr w0 k) (annot (strings_Join.cuts w0 k) strings_Join.body) (entry (io69.enc v).1 (io69.enc v).2) (endK (strings_Join.kr w0 k)) := by
  intro v; kernel_rfl
theorem strings_Join.hb : Tryd.f57.body = some strings_Join.body := by kernel_rfl
def tab45 (k : Nat) : Tab T := addTab 57 (line io69 io1 [] (fun v => strings_Join k v)) (tab44 k)
def f__strings_Builder__WriteString (k : Nat) (a50 : List UInt8) (a51 : List UInt8) : Option (Int × (List UInt8)) := (wStr a51 a50).map fun s => ((a50.length : Int), s)
def tab46 (k : Nat) : Tab T := addTab 83 (line io72 io73 ((0 : Int), []) (fun v => f__strings_Builder__WriteString k v.1 v.2)) (tab45 k)
def strings_Join_v2.c20 (k : Nat) (x9 : List (List UInt8)) (x10 : List UInt8) (x11 : Int) (kn : (List (List UInt8)) → (List UInt8) → Int → Option (List UInt8)) : Option (List UInt8) :=
let v12 : Int := (IntKind.wrap .i64 ((x9.length : Int) - (1 : Int)))
let v13 : Int := (IntKind.wrap .i64 ((x10.length : Int) * v12))
let v14 : Int := (IntKind.wrap .i64 (x11 + v13))
kn x9 x10 v14
def strings_Join_v2.c32 (k : Nat) (x29 : List (List UInt8)) (x30 : List UInt8) (x31 : Int) (x32 : List UInt8) (x33 : List (List UInt8)) (x34 : Int) (x35 : Int) (kn : (List (List UInt8)) → (List UInt8) → Int → (List (List UInt8)) → Int → Int → Option (List UInt8)) : Option (List UInt8) :=
let v36 : Int := (IntKind.wrap .i64 (x31 + (x32.length : Int)))
kn x29 x30 v36 x33 x34 x35
def strings_Join_v2.c25 (k : Nat) : Nat → (List (List UInt8)) → (List UInt8) → Int → (List (List UInt8)) → Int → Int → ((List (List UInt8)) → (List UInt8) → Int → Option (List UInt8)) → Option (List UInt8)
  | 0, _, _, _, _, _, _, _ => none
  | n + 1, x21, x22, x23, x24, x25, x26, k1 =>
    cond (decide (x26 < x25)) (
    cond (decide (0 ≤ x26 ∧ x26 < (x24.length : Int))) (
    let v27 : Int := ((x24.getD x26.toNat []).length : Int)
    let v28 : Int := (IntKind.wrap .i64 ((9223372036854775807 : Int) - x23))
    cond (decide (v27 > v28)) (
    none) (
    strings_Join_v2.c32 k x21 x22 x23 (x24.getD x26.toNat []) x24 x25 x26 (fun (y37 : List (List UInt8)) (y38 : List UInt8) (y39 : Int) (y40 : List (List UInt8)) (y41 : Int) (y42 : Int) =>
    let v43 : Int := (IntKind.wrap .i64 (y42 + (1 : Int)))
    strings_Join_v2.c25 k n y37 y38 y39 y40 y41 v43 k1))) none) (
    k1 x21 x22 x23)
def strings_Join_v2.c45 (k : Nat) : Nat → (List UInt8) → (List (List UInt8)) → Int → Int → (List UInt8) → ((List UInt8) → Option (List UInt8)) → Option (List UInt8)
  | 0, _, _, _, _, _, _ => none
  | n + 1, x51, x52, x53, x54, x55, k3 =>
    cond (decide (x54 < x53)) (
    cond (decide (0 ≤ x54 ∧ x54 < (x52.length : Int))) (
    (f__strings_Builder__WriteString k x51 x55).bind fun r56 =>
    (f__strings_Builder__WriteString k (x52.getD x54.toNat []) r56.2).bind fun r57 =>
    let v58 : Int := (IntKind.wrap .i64 (x54 + (1 : Int)))
    strings_Join_v2.c45 k n x51 x52 x53 v58 r57.2 k3) none) (
    k3 x55)
def strings_Join_v2.c22 (k : Nat) (x18 : List (List UInt8)) (x19 : List UInt8) (x20 : Int)  : Option (List UInt8) :=
strings_Join_v2.c25 k k x18 x19 x20 x18 (x18.length : Int) (0 : Int) (fun (y44 : List (List UInt8)) (y45 : List UInt8) (y46 : Int) =>
(f__strings_Builder__Grow k y46 ([] : List UInt8)).bind fun r47 =>
cond (decide (0 ≤ (0 : Int) ∧ (0 : Int) < (y44.length : Int))) (
let v48 : List UInt8 := (y44.getD ((0 : Int).toNat) [])
(f__strings_Builder__WriteString k v48 r47).bind fun r49 =>
cond (decide (0 ≤ (1 : Int) ∧ (1 : Int) ≤ (y44.length : Int))) (
let v50 : Int := ((y44.drop (1 : Int).toNat).length : Int)
strings_Join_v2.c45 k k y45 (y44.drop (1 : Int).toNat) v50 (0 : Int) r49.2 (fun (y59 : List UInt8) =>
(f__strings_Builder__String k y59).bind fun r60 =>
some r60.1)) none) none)
def strings_Join_v2 (k : Nat) (a1 : List (List UInt8)) (a2 : List UInt8) : Option (List UInt8) :=
let v3 : Bool := ((a1.length : Int) == (0 : Int))
cond v3 (
some ([] : List UInt8)) (
let v4 : Bool := ((a1.length : Int) == (1 : Int))
cond v4 (
cond (decide (0 ≤ (0 : Int) ∧ (0 : Int) < (a1.length : Int))) (
some (a1.getD ((0 : Int).toNat) [])) none) (
let v5 : Bool := (decide ((a2.length : Int) > (0 : Int)))
cond v5 (
let v6 : Int := (IntKind.wrap .i64 ((a1.length : Int) - (1 : Int)))
cond (v6 != 0) (
let v7 : Int := (IntKind.wrap .i64 (Int.tdiv (9223372036854775807 : Int) v6))
let v8 : Bool := (decide ((a2.length : Int) ≥ v7))
cond v8 (
none) (
strings_Join_v2.c20 k a1 a2 (0 : Int) (fun (y15 : List (List UInt8)) (y16 : List UInt8) (y17 : Int) =>
strings_Join_v2.c22 k y15 y16 y17))) none) (
strings_Join_v2.c22 k a1 a2 (0 : Int))))
def strings_Join_v2.kr (w0 : World) (k : Nat) : Kr T (List UInt8) := (kret (retK (cfg w0 (tab46 k)) Tryd.f57.results.toList 0 [] io1.pat))
def strings_Join_v2.x20 : Ex → Option (List Nat × List Sp)
  | .norm => some ([0, 1, 5], [])
  | _ => none
def strings_Join_v2.L20 (k : Nat) (v : (List (List UInt8)) × (List UInt8) × Int) (K : Ex → St T → Option (List UInt8)) : Option (List UInt8) := strings_Join_v2.c20 k v.1 v.2.1 v.2.2 (fun y64 y65 y66 => K .norm (mkSt [0, 1, 5] (io74.enc (y64, y65, y66))))
def strings_Join_v2.x32 : Ex → Option (List Nat × List Sp)
  | .norm => some ([0, 1, 5, 39, 40, 41], [])
  | _ => none
def strings_Join_v2.L32 (k : Nat) (v : (List (List UInt8)) × (List UInt8) × Int × (List UInt8) × (List (List UInt8)) × Int × Int) (K : Ex → St T → Option (List UInt8)) : Option (List UInt8) := strings_Join_v2.c32 k v.1 v.2.1 v.2.2.1 v.2.2.2.1 v.2.2.2.2.1 v.2.2.2.2.2.1 v.2.2.2.2.2.2 (fun y67 y68 y69 y70 y71 y72 => K .norm (mkSt [0, 1, 5, 39, 40, 41] (io76.enc (y67, y68, y69, y70, y71, y72))))
def strings_Join_v2.x25 : Ex → Option (List Nat × List Sp)
  | .exit 1 => some ([0, 1, 5], [])
  | _ => none
def strings_Join_v2.L25 (k : Nat) (n : Nat) (v : (List (List UInt8)) × (List UInt8) × Int × (List (List UInt8)) × Int × Int) (K : Ex → St T → Option (List UInt8)) : Option (List UInt8) := strings_Join_v2.c25 k n v.1 v.2.1 v.2.2.1 v.2.2.2.1 v.2.2.2.2.1 v.2.2.2.2.2 (fun y73 y74 y75 => K (.exit 1) (mkSt [0, 1, 5] (io74.enc (y73, y74, y75))))
def strings_Join_v2.x45 : Ex → Option (List Nat × List Sp)
  | .exit 3 => some ([8], [])
  | _ => none
def strings_Join_v2.L45 (k : Nat) (n : Nat) (v : (List UInt8) × (List (List UInt8)) × Int × Int × (List UInt8)) (K : Ex → St T → Option (List UInt8)) : Option (List UInt8) := strings_Join_v2.c45 k n v.1 v.2.1 v.2.2.1 v.2.2.2.1 v.2.2.2.2 (fun y76 => K (.exit 3) (mkSt [8] (io5.enc y76)))
def strings_Join_v2.x22 : Ex → Option (List Nat × List Sp)
  | _ => none
def strings_Join_v2.L22 (k : Nat) (v : (List (List UInt8)) × (List UInt8) × Int) (K : Ex → St T → Option (List UInt8)) : Option (List UInt8) := strings_Join_v2.c22 k v.1 v.2.1 v.2.2
def strings_Join_v2.cuts (w0 : World) (k : Nat) : Cuts T (List UInt8) := fun n => bif n.beq 20 then some (entK (cfg w0 (tab46 k)) 0 [0, 1, 5] [] io74.pat (strings_Join_v2.L20 k)) else bif n.beq 32 then some (entK (cfg w0 (tab46 k)) 0 [0, 1, 5, 7, 39, 40, 41] [] io75.pat (strings_Join_v2.L32 k)) else bif n.beq 25 then some (entK (cfg w0 (tab46 k)) 0 [0, 1, 5, 39, 40, 41] [] io76.pat (strings_Join_v2.L25 k k)) else bif n.beq 45 then some (entK (cfg w0 (tab46 k)) 0 [1, 8, 63, 64, 65] [] io77.pat (strings_Join_v2.L45 k k)) else bif n.beq 22 then some (entK (cfg w0 (tab46 k)) 0 [0, 1, 5] [] io74.pat (strings_Join_v2.L22 k)) else none
def strings_Join_v2.body : Code := bodyOf Tryd.f57
def strings_Join_v2.b20 : Code := findD 20 strings_Join_v2.body
theorem strings_Join_v2.s20 (w0 : World) (k : Nat) : ∀ v K, strings_Join_v2.L20 k v K = runK (cfg w0 (tab46 k)) Tryd.f57.ntmps (strings_Join_v2.kr w0 k) (annot (strings_Join_v2.cuts w0 k) strings_Join_v2.b20) (mkSt [0, 1, 5] (io74.enc v)) (outK (cfg w0 (tab46 k)) 0 strings_Join_v2.x20 K) := by
  intro v K; kernel_rfl
def strings_Join_v2.b32 : Code := findD 32 strings_Join_v2.body
theorem strings_Join_v2.s32 (w0 : World) (k : Nat) : ∀ v K, strings_Join_v2.L32 k v K = runK (cfg w0 (tab46 k)) Tryd.f57.ntmps (strings_Join_v2.kr w0 k) (annot (strings_Join_v2.cuts w0 k) strings_Join_v2.b32) (mkSt [0, 1, 5, 7, 39, 40, 41] (io75.enc v)) (outK (cfg w0 (tab46 k)) 0 strings_Join_v2.x32 K) := by
  intro v K; kernel_rfl
def strings_Join_v2.b25 : Code := findD 25 strings_Join_v2.body
theorem strings_Join_v2.s25 (w0 : World) (k : Nat) : ∀ n v K, strings_Join_v2.L25 k (n + 1) v K = runK (cfg w0 (tab46 k)) Tryd.f57.ntmps (strings_Join_v2.kr w0 k) (annot (strings_Join_v2.cuts w0 k) strings_Join_v2.b25) (mkSt [0, 1, 5, 39, 40, 41] (io76.enc v)) (loopK (cfg w0 (tab46 k)) 0 strings_Join_v2.x25 (entK (cfg w0 (tab46 k)) 0 [0, 1, 5, 39, 40, 41] [] io76.pat (strings_Join_v2.L25 k n)) K) := by
  intro n v K; kernel_rfl
def strings_Join_v2.b45 : Code := findD 45 strings_Join_v2.body
theorem strings_Join_v2.s45 (w0 : World) (k : Nat) : ∀ n v K, strings_Join_v2.L45 k (n + 1) v K = runK (cfg w0 (tab46 k)) Tryd.f57.ntmps (strings_Join_v2.kr w0 k) (annot (strings_Join_v2.cuts w0 k) strings_Join_v2.b45) (mkSt [1, 8, 63, 64, 65] (io77.enc v)) (loopK (cfg w0 (tab46 k)) 0 strings_Join_v2.x45 (entK (cfg w0 (tab46 k)) 0 [1, 8, 63, 64, 65] [] io77.pat (strings_Join_v2.L45 k n)) K) := by
  intro n v K; kernel_rfl
def strings_Join_v2.b22 : Code := findD 22 strings_Join_v2.body
theorem strings_Join_v2.s22 (w0 : World) (k : Nat) : ∀ v K, strings_Join_v2.L22 k v K = runK (cfg w0 (tab46 k)) Tryd.f57.ntmps (strings_Join_v2.kr w0 k) (annot (strings_Join_v2.cuts w0 k) strings_Join_v2.b22) (mkSt [0, 1, 5] (io74.enc v)) (outK (cfg w0 (tab46 k)) 0 strings_Join_v2.x22 K) := by
  intro v K; kernel_rfl
theorem strings_Join_v2.e (w0 : World) (k : Nat) : ∀ v, (fun v => strings_Join_v2 k v.1 v.2) v = runK (cfg w0 (tab46 k)) Tryd.f57.ntmps (strings_Join_v2.kr w0 k) (annot (strings_Join_v2.cuts w0 k) strings_Join_v2.body) (entry (io42.enc v).1 (io42.enc v).2) (endK (strings_Join_v2.kr w0 k)) := by
  intro v; kernel_rfl
theorem strings_Join_v2.hb : Tryd.f57.body = some strings_Join_v2.body := by kernel_rfl
def tab47 (k : Nat) : Tab T := addTab 57 (line io42 io1 [] (fun v => strings_Join_v2 k v.1 v.2)) (tab46 k)
structure calc_Text.G.R where
  calc_Text : Int → Int → (List UInt8) → (List S52) → Option (List UInt8)
def calc_Text.c15 (k : Nat) (r : calc_Text.G.R) : Nat → (List S52) → Int → Int → Int → Int → (List UInt8) → (List S52) → (List (List UInt8)) → (Int → Int → (List UInt8) → (List S52) → (List (List UInt8)) → Option (List UInt8)) → Option (List UInt8)
  | 0, _, _, _, _, _, _, _, _, _ => none
  | n + 1, x7, x8, x9, x10, x11, x12, x13, x14, k0 =>
    cond (decide (x9 < x8)) (
    cond (decide (0 ≤ x9 ∧ x9 < (x7.length : Int))) (
    let v15 : Int := (x7.getD x9.toNat S52.d).Dim_Num
    let v16 : List UInt8 := (x7.getD x9.toNat S52.d).Dim_Unit
    (r.calc_Text ((x7.getD x9.toNat S52.d).Kind) v15 v16 ((x7.getD x9.toNat S52.d).Subs)).bind fun r17 =>
    cond (decide ((x14 ++ ([r17])).length < most)) (
    let v18 : Int := (IntKind.wrap .i64 (x9 + (1 : Int)))
    calc_Text.c15 k r n x7 x8 v18 x10 x11 x12 x13 (x14 ++ ([r17])) k0) none) none) (
    k0 x10 x11 x12 x13 x14)
def calc_Text.nat (k : Nat) (r : calc_Text.G.R) (a1 : Int) (a2 : Int) (a3 : List UInt8) (a4 : List S52) : Option (List UInt8) :=
(calc_shaped_v2 k a1 a2 a3 a4).bind fun r5 =>
cond (!r5) (
some ([] : List UInt8)) (
cond (a1 == (1 : Int)) (
(dim_Text k a2 a3).bind fun r6 =>
some r6) (
calc_Text.c15 k r k a4 (a4.length : Int) (0 : Int) a1 a2 a3 a4 ([] : List (List UInt8)) (fun (y19 : Int) (y20 : Int) (y21 : List UInt8) (y22 : List S52) (y23 : List (List UInt8)) =>
(calc_word k y19).bind fun r24 =>
cond (Nat.ble (r24.length + ([40] : List UInt8).length) 9223372036854775807) (
(calc_sign k y19).bind fun r25 =>
(strings_Join_v2 k y23 r25).bind fun r26 =>
cond (Nat.ble ((r24 ++ ([40] : List UInt8)).length + r26.length) 9223372036854775807) (
let v27 : List UInt8 := ((r24 ++ ([40] : List UInt8)) ++ r26)
cond (Nat.ble (v27.length + ([41] : List UInt8).length) 9223372036854775807) (
some (v27 ++ ([41] : List UInt8))) none) none) none)))
def calc_Text.G.rec (k : Nat) : Nat → calc_Text.G.R
  | 0 => ⟨fun _ _ _ _ => none⟩
  | n + 1 => ⟨calc_Text.nat k (calc_Text.G.rec k n)⟩
def calc_Text (k : Nat) : Int → Int → (List UInt8) → (List S52) → Option (List UInt8) := (calc_Text.G.rec k k).calc_Text
def calc_Text.G.tab (k : Nat) (r : calc_Text.G.R) : Tab T := addTab 27 (line io64 io1 [] (fun v => r.calc_Text v.1 v.2.1 v.2.2.1 v.2.2.2)) (tab47 k)
def calc_Text.kr (w0 : World) (k : Nat) (r : calc_Text.G.R) : Kr T (List UInt8) := (kret (retK (cfg w0 (calc_Text.G.tab k r)) Tryd.f27.results.toList 0 [] io1.pat))
def calc_Text.x15 : Ex → Option (List Nat × List Sp)
  | .exit 0 => some ([1, 3], [.own 3 9])
  | _ => none
def calc_Text.L15 (k : Nat) (r : calc_Text.G.R) (n : Nat) (v : (List S52) × Int × Int × Int × Int × (List UInt8) × (List S52) × (List (List UInt8))) (K : Ex → St T → Option (List UInt8)) : Option (List UInt8) := calc_Text.c15 k r n v.1 v.2.1 v.2.2.1 v.2.2.2.1 v.2.2.2.2.1 v.2.2.2.2.2.1 v.2.2.2.2.2.2.1 v.2.2.2.2.2.2.2 (fun y77 y78 y79 y80 y81 => K (.exit 0) (mkSt [1, 3] (io79.enc (y77, y78, y79, y80, y81))))
def calc_Text.cuts (w0 : World) (k : Nat) (r : calc_Text.G.R) : Cuts T (List UInt8) := fun n => bif n.beq 15 then some (entK (cfg w0 (calc_Text.G.tab k r)) 0 [1, 3, 16, 17, 18] [.own 3 9] io78.pat (calc_Text.L15 k r k)) else none
def calc_Text.body : Code := bodyOf Tryd.f27
def calc_Text.b15 : Code := findD 15 calc_Text.body
theorem calc_Text.s15 (w0 : World) (k : Nat) (r : calc_Text.G.R) : ∀ n v K, calc_Text.L15 k r (n + 1) v K = runK (cfg w0 (calc_Text.G.tab k r)) Tryd.f27.ntmps (calc_Text.kr w0 k r) (annot (calc_Text.cuts w0 k r) calc_Text.b15) (mkSt [1, 3, 16, 17, 18] (io78.enc v)) (loopK (cfg w0 (calc_Text.G.tab k r)) 0 calc_Text.x15 (entK (cfg w0 (calc_Text.G.tab k r)) 0 [1, 3, 16, 17, 18] [.own 3 9] io78.pat (calc_Text.L15 k r n)) K) := by
  intro n v K; kernel_rfl
theorem calc_Text.e (w0 : World) (k : Nat) (r : calc_Text.G.R) : ∀ v, (fun v => calc_Text.nat k r v.1 v.2.1 v.2.2.1 v.2.2.2) v = runK (cfg w0 (calc_Text.G.tab k r)) Tryd.f27.ntmps (calc_Text.kr w0 k r) (annot (calc_Text.cuts w0 k r) calc_Text.body) (entry (io64.enc v).1 (io64.enc v).2) (endK (calc_Text.kr w0 k r)) := by
  intro v; kernel_rfl
theorem calc_Text.hb : Tryd.f27.body = some calc_Text.body := by kernel_rfl
def tab48 (k : Nat) : Tab T := calc_Text.G.tab k (calc_Text.G.rec k k)
def clerestorykeep2_twice (k : Nat)  : Option (Bool) :=
(calc_Read k ([99, 97, 108, 99, 40, 49, 112, 120, 32, 42, 32, 50, 41] : List UInt8)).bind fun r1 =>
(cond (r1.2.2.2.2 == (0 : Int)) (calc_Text k r1.1 r1.2.1 r1.2.2.1 r1.2.2.2.1) (some [])).bind fun r2 =>
let v3 : Bool := (r2 == ([40, 49, 112, 120, 32, 42, 32, 50, 41] : List UInt8))
let v4 : Bool := (cond (r1.2.2.2.2 == (0 : Int)) v3 false)
some v4
def clerestorykeep2_twice.kr (w0 : World) (k : Nat) : Kr T (Bool) := (kret (retK (cfg w0 (tab48 k)) Tryd.f24.results.toList 0 [] io2.pat))
def clerestorykeep2_twice.cuts (w0 : World) (k : Nat) : Cuts T (Bool) := fun n => none
def clerestorykeep2_twice.body : Code := bodyOf Tryd.f24
theorem clerestorykeep2_twice.e (w0 : World) (k : Nat) : ∀ v, (fun v => clerestorykeep2_twice k ) v = runK (cfg w0 (tab48 k)) Tryd.f24.ntmps (clerestorykeep2_twice.kr w0 k) (annot (clerestorykeep2_twice.cuts w0 k) clerestorykeep2_twice.body) (entry (io44.enc v).1 (io44.enc v).2) (endK (clerestorykeep2_twice.kr w0 k)) := by
  intro v; kernel_rfl
theorem clerestorykeep2_twice.hb : Tryd.f24.body = some clerestorykeep2_twice.body := by kernel_rfl
def tab49 (k : Nat) : Tab T := addTab 24 (line io44 io2 false (fun v => clerestorykeep2_twice k )) (tab48 k)
def clerestorykeep2_sameTerm.c9 (k : Nat) : Nat → Int → Int → Int → (List UInt8) → (List S52) → Int → Int → (List UInt8) → (Option (Bool)) → Option (Bool)
  | 0, _, _, _, _, _, _, _, _, _ => none
  | n + 1, x11, x12, x13, x14, x15, x16, x17, x18, k0 =>
    let v19 : Bool := (decide (x11 < (x15.length : Int)))
    cond v19 (
    cond (decide (0 ≤ x11 ∧ x11 < (x15.length : Int))) (
    let v20 : Int := (x15.getD x11.toNat S52.d).Kind
    let v21 : Int := (x15.getD x11.toNat S52.d).Dim_Num
    let v22 : List UInt8 := (x15.getD x11.toNat S52.d).Dim_Unit
    let v23 : List S52 := (x15.getD x11.toNat S52.d).Subs
    none) none) (
    k0)
def clerestorykeep2_sameTerm (k : Nat) (a1 : Int) (a2 : Int) (a3 : List UInt8) (a4 : List S52) (a5 : Int) (a6 : Int) (a7 : List UInt8) : Option (Bool) :=
let v8 : Bool := (!((a2 == a6) && ((a3 == a7) && true)))
let v9 : Bool := ((a4.length : Int) != ((0 : Nat) : Int))
let v10 : Bool := (cond (cond (a1 != a5) true v8) true v9)
cond v10 (
some false) (
clerestorykeep2_sameTerm.c9 k k (0 : Int) a1 a2 a3 a4 a5 a6 a7 (
some true))
def clerestorykeep2_sameTerm.kr (w0 : World) (k : Nat) : Kr T (Bool) := (kret (retK (cfg w0 (tab49 k)) Tryd.f26.results.toList 0 [] io2.pat))
def clerestorykeep2_sameTerm.x9 : Ex → Option (List Nat × List Sp)
  | .exit 0 => some ([], [])
  | _ => none
def clerestorykeep2_sameTerm.L9 (k : Nat) (n : Nat) (v : Int × Int × Int × (List UInt8) × (List S52) × Int × Int × (List UInt8)) (K : Ex → St T → Option (Bool)) : Option (Bool) := clerestorykeep2_sameTerm.c9 k n v.1 v.2.1 v.2.2.1 v.2.2.2.1 v.2.2.2.2.1 v.2.2.2.2.2.1 v.2.2.2.2.2.2.1 v.2.2.2.2.2.2.2 ( K (.exit 0) (mkSt [] (io44.enc ())))
def clerestorykeep2_sameTerm.cuts (w0 : World) (k : Nat) : Cuts T (Bool) := fun n => bif n.beq 9 then some (entK (cfg w0 (tab49 k)) 0 [2, 3, 5] [] io81.pat (clerestorykeep2_sameTerm.L9 k k)) else none
def clerestorykeep2_sameTerm.body : Code := bodyOf Tryd.f26
def clerestorykeep2_sameTerm.b9 : Code := findD 9 clerestorykeep2_sameTerm.body
theorem clerestorykeep2_sameTerm.s9 (w0 : World) (k : Nat) : ∀ n v K, clerestorykeep2_sameTerm.L9 k (n + 1) v K = runK (cfg w0 (tab49 k)) Tryd.f26.ntmps (clerestorykeep2_sameTerm.kr w0 k) (annot (clerestorykeep2_sameTerm.cuts w0 k) clerestorykeep2_sameTerm.b9) (mkSt [2, 3, 5] (io81.enc v)) (loopK (cfg w0 (tab49 k)) 0 clerestorykeep2_sameTerm.x9 (entK (cfg w0 (tab49 k)) 0 [2, 3, 5] [] io81.pat (clerestorykeep2_sameTerm.L9 k n)) K) := by
  intro n v K; kernel_rfl
theorem clerestorykeep2_sameTerm.e (w0 : World) (k : Nat) : ∀ v, (fun v => clerestorykeep2_sameTerm k v.1 v.2.1 v.2.2.1 v.2.2.2.1 v.2.2.2.2.1 v.2.2.2.2.2.1 v.2.2.2.2.2.2) v = runK (cfg w0 (tab49 k)) Tryd.f26.ntmps (clerestorykeep2_sameTerm.kr w0 k) (annot (clerestorykeep2_sameTerm.cuts w0 k) clerestorykeep2_sameTerm.body) (entry (io80.enc v).1 (io80.enc v).2) (endK (clerestorykeep2_sameTerm.kr w0 k)) := by
  intro v; kernel_rfl
theorem clerestorykeep2_sameTerm.hb : Tryd.f26.body = some clerestorykeep2_sameTerm.body := by kernel_rfl
def tab50 (k : Nat) : Tab T := addTab 26 (line io80 io2 false (fun v => clerestorykeep2_sameTerm k v.1 v.2.1 v.2.2.1 v.2.2.2.1 v.2.2.2.2.1 v.2.2.2.2.2.1 v.2.2.2.2.2.2)) (tab49 k)
structure clerestorykeep2_sameTerm_v2.G.R where
  clerestorykeep2_sameTerm_v2 : Int → Int → (List UInt8) → (List S52) → Int → Int → (List UInt8) → (List S52) → Option (Bool)
def clerestorykeep2_sameTerm_v2.c9 (k : Nat) (r : clerestorykeep2_sameTerm_v2.G.R) : Nat → Int → Int → Int → (List UInt8) → (List S52) → Int → Int → (List UInt8) → (List S52) → (Option (Bool)) → Option (Bool)
  | 0, _, _, _, _, _, _, _, _, _, _ => none
  | n + 1, x12, x13, x14, x15, x16, x17, x18, x19, x20, k0 =>
    let v21 : Bool := (decide (x12 < (x16.length : Int)))
    cond v21 (
    cond (decide (0 ≤ x12 ∧ x12 < (x16.length : Int))) (
    let v22 : Int := (x16.getD x12.toNat S52.d).Kind
    let v23 : Int := (x16.getD x12.toNat S52.d).Dim_Num
    let v24 : List UInt8 := (x16.getD x12.toNat S52.d).Dim_Unit
    let v25 : List S52 := (x16.getD x12.toNat S52.d).Subs
    cond (decide (0 ≤ x12 ∧ x12 < (x20.length : Int))) (
    let v26 : Int := (x20.getD x12.toNat S52.d).Kind
    let v27 : Int := (x20.getD x12.toNat S52.d).Dim_Num
    let v28 : List UInt8 := (x20.getD x12.toNat S52.d).Dim_Unit
    let v29 : List S52 := (x20.getD x12.toNat S52.d).Subs
    (r.clerestorykeep2_sameTerm_v2 v22 v23 v24 v25 v26 v27 v28 v29).bind fun r30 =>
    cond (!r30) (
    some false) (
    let v31 : Int := (IntKind.wrap .i64 (x12 + (1 : Int)))
    clerestorykeep2_sameTerm_v2.c9 k r n v31 x13 x14 x15 x16 x17 x18 x19 x20 k0)) none) none) (
    k0)
def clerestorykeep2_sameTerm_v2.nat (k : Nat) (r : clerestorykeep2_sameTerm_v2.G.R) (a1 : Int) (a2 : Int) (a3 : List UInt8) (a4 : List S52) (a5 : Int) (a6 : Int) (a7 : List UInt8) (a8 : List S52) : Option (Bool) :=
let v9 : Bool := (!((a2 == a6) && ((a3 == a7) && true)))
let v10 : Bool := ((a4.length : Int) != (a8.length : Int))
let v11 : Bool := (cond (cond (a1 != a5) true v9) true v10)
cond v11 (
some false) (
clerestorykeep2_sameTerm_v2.c9 k r k (0 : Int) a1 a2 a3 a4 a5 a6 a7 a8 (
some true))
def clerestorykeep2_sameTerm_v2.G.rec (k : Nat) : Nat → clerestorykeep2_sameTerm_v2.G.R
  | 0 => ⟨fun _ _ _ _ _ _ _ _ => none⟩
  | n + 1 => ⟨clerestorykeep2_sameTerm_v2.nat k (clerestorykeep2_sameTerm_v2.G.rec k n)⟩
def clerestorykeep2_sameTerm_v2 (k : Nat) : Int → Int → (List UInt8) → (List S52) → Int → Int → (List UInt8) → (List S52) → Option (Bool) := (clerestorykeep2_sameTerm_v2.G.rec k k).clerestorykeep2_sameTerm_v2
def clerestorykeep2_sameTerm_v2.G.tab (k : Nat) (r : clerestorykeep2_sameTerm_v2.G.R) : Tab T := addTab 26 (line io82 io2 false (fun v => r.clerestorykeep2_sameTerm_v2 v.1 v.2.1 v.2.2.1 v.2.2.2.1 v.2.2.2.2.1 v.2.2.2.2.2.1 v.2.2.2.2.2.2.1 v.2.2.2.2.2.2.2)) (tab50 k)
def clerestorykeep2_sameTerm_v2.kr (w0 : World) (k : Nat) (r : clerestorykeep2_sameTerm_v2.G.R) : Kr T (Bool) := (kret (retK (cfg w0 (clerestorykeep2_sameTerm_v2.G.tab k r)) Tryd.f26.results.toList 0 [] io2.pat))
def clerestorykeep2_sameTerm_v2.x9 : Ex → Option (List Nat × List Sp)
  | .exit 0 => some ([], [])
  | _ => none
def clerestorykeep2_sameTerm_v2.L9 (k : Nat) (r : clerestorykeep2_sameTerm_v2.G.R) (n : Nat) (v : Int × Int × Int × (List UInt8) × (List S52) × Int × Int × (List UInt8) × (List S52)) (K : Ex → St T → Option (Bool)) : Option (Bool) := clerestorykeep2_sameTerm_v2.c9 k r n v.1 v.2.1 v.2.2.1 v.2.2.2.1 v.2.2.2.2.1 v.2.2.2.2.2.1 v.2.2.2.2.2.2.1 v.2.2.2.2.2.2.2.1 v.2.2.2.2.2.2.2.2 ( K (.exit 0) (mkSt [] (io44.enc ())))
def clerestorykeep2_sameTerm_v2.cuts (w0 : World) (k : Nat) (r : clerestorykeep2_sameTerm_v2.G.R) : Cuts T (Bool) := fun n => bif n.beq 9 then some (entK (cfg w0 (clerestorykeep2_sameTerm_v2.G.tab k r)) 0 [2, 3, 5] [] io83.pat (clerestorykeep2_sameTerm_v2.L9 k r k)) else none
def clerestorykeep2_sameTerm_v2.body : Code := bodyOf Tryd.f26
def clerestorykeep2_sameTerm_v2.b9 : Code := findD 9 clerestorykeep2_sameTerm_v2.body
theorem clerestorykeep2_sameTerm_v2.s9 (w0 : World) (k : Nat) (r : clerestorykeep2_sameTerm_v2.G.R) : ∀ n v K, clerestorykeep2_sameTerm_v2.L9 k r (n + 1) v K = runK (cfg w0 (clerestorykeep2_sameTerm_v2.G.tab k r)) Tryd.f26.ntmps (clerestorykeep2_sameTerm_v2.kr w0 k r) (annot (clerestorykeep2_sameTerm_v2.cuts w0 k r) clerestorykeep2_sameTerm_v2.b9) (mkSt [2, 3, 5] (io83.enc v)) (loopK (cfg w0 (clerestorykeep2_sameTerm_v2.G.tab k r)) 0 clerestorykeep2_sameTerm_v2.x9 (entK (cfg w0 (clerestorykeep2_sameTerm_v2.G.tab k r)) 0 [2, 3, 5] [] io83.pat (clerestorykeep2_sameTerm_v2.L9 k r n)) K) := by
  intro n v K; kernel_rfl
theorem clerestorykeep2_sameTerm_v2.e (w0 : World) (k : Nat) (r : clerestorykeep2_sameTerm_v2.G.R) : ∀ v, (fun v => clerestorykeep2_sameTerm_v2.nat k r v.1 v.2.1 v.2.2.1 v.2.2.2.1 v.2.2.2.2.1 v.2.2.2.2.2.1 v.2.2.2.2.2.2.1 v.2.2.2.2.2.2.2) v = runK (cfg w0 (clerestorykeep2_sameTerm_v2.G.tab k r)) Tryd.f26.ntmps (clerestorykeep2_sameTerm_v2.kr w0 k r) (annot (clerestorykeep2_sameTerm_v2.cuts w0 k r) clerestorykeep2_sameTerm_v2.body) (entry (io82.enc v).1 (io82.enc v).2) (endK (clerestorykeep2_sameTerm_v2.kr w0 k r)) := by
  intro v; kernel_rfl
theorem clerestorykeep2_sameTerm_v2.hb : Tryd.f26.body = some clerestorykeep2_sameTerm_v2.body := by kernel_rfl
def tab51 (k : Nat) : Tab T := clerestorykeep2_sameTerm_v2.G.tab k (clerestorykeep2_sameTerm_v2.G.rec k k)
def clerestorykeep2_CalcBack (k : Nat) (a1 : List UInt8) : Option (Bool) :=
(clerestorykeep2_twice k).bind fun r2 =>
(calc_Read k a1).bind fun r3 =>
cond (r3.2.2.2.2 != (0 : Int)) (
let v4 : Bool := (cond (r3.2.2.2.2 == (4 : Int)) true (r3.2.2.2.2 == (2 : Int)))
(cond (cond r2 v4 false) (clerestorykeep2_sameTerm k r3.1 r3.2.1 r3.2.2.1 r3.2.2.2.1 (0 : Int) (0 : Int) ([])) (some false)).bind fun r5 =>
let v6 : Bool := (cond (cond r2 v4 false) r5 false)
some v6) (
(calc_Text k r3.1 r3.2.1 r3.2.2.1 r3.2.2.2.1).bind fun r7 =>
cond (Nat.ble (([99, 97, 108, 99, 40] : List UInt8).length + r7.length) 9223372036854775807) (
let v8 : List UInt8 := (([99, 97, 108, 99, 40] : List UInt8) ++ r7)
cond (Nat.ble (v8.length + ([41] : List UInt8).length) 9223372036854775807) (
(calc_Read k (v8 ++ ([41] : List UInt8))).bind fun r9 =>
(clerestorykeep2_sameTerm_v2 k r9.1 r9.2.1 r9.2.2.1 r9.2.2.2.1 r3.1 r3.2.1 r3.2.2.1 r3.2.2.2.1).bind fun r10 =>
let v11 : Int := ((v8 ++ ([41] : List UInt8)).length : Int)
let v12 : Bool := (cond (r9.2.2.2.2 == (0 : Int)) r10 false)
let v13 : Bool := (cond (decide (v11 > (400 : Int))) true v12)
some (cond r2 v13 false)) none) none)
def clerestorykeep2_CalcBack.kr (w0 : World) (k : Nat) : Kr T (Bool) := (kret (retK (cfg w0 (tab51 k)) Tryd.f8.results.toList 0 [] io2.pat))
def clerestorykeep2_CalcBack.cuts (w0 : World) (k : Nat) : Cuts T (Bool) := fun n => none
def clerestorykeep2_CalcBack.body : Code := bodyOf Tryd.f8
theorem clerestorykeep2_CalcBack.e (w0 : World) (k : Nat) : ∀ v, (fun v => clerestorykeep2_CalcBack k v) v = runK (cfg w0 (tab51 k)) Tryd.f8.ntmps (clerestorykeep2_CalcBack.kr w0 k) (annot (clerestorykeep2_CalcBack.cuts w0 k) clerestorykeep2_CalcBack.body) (entry (io1.enc v).1 (io1.enc v).2) (endK (clerestorykeep2_CalcBack.kr w0 k)) := by
  intro v; kernel_rfl
theorem clerestorykeep2_CalcBack.hb : Tryd.f8.body = some clerestorykeep2_CalcBack.body := by kernel_rfl
def tab52 (k : Nat) : Tab T := addTab 8 (line io1 io2 false (fun v => clerestorykeep2_CalcBack k v)) (tab51 k)
attribute [local irreducible] runK retK annot entry
theorem ok0 (w0 : World) (hw : Wd w0) (k : Nat) : CfOk (cfg w0 (tab0 k)) := noTab_ok fun _ _ _ => rfl
theorem sim_cf {w0 : World} {t t' : Tab T} {f : FuncId} {a : List (V T)} {b : List (Obj T)} {c : List (V T)} {d : List (Obj T)} (h : Sim (cfg w0 t) f a b c d) : Sim (cfg w0 t') f a b c d := h
theorem simP_cf {w0 : World} {t t' : Tab T} {f : FuncId} {a : List (V T)} {b : List (Obj T)} {c : List (V T)} {d : List (Obj T)} {p : V T} {q : Bool} (h : (q = false → Sim (cfg w0 t) f a b c d) ∧ (q = true → SimP (cfg w0 t) f a b p)) : (q = false → Sim (cfg w0 t') f a b c d) ∧ (q = true → SimP (cfg w0 t') f a b p) := h
theorem strings_TrimLeft.sim (w0 : World) (hw : Wd w0) (k : Nat) : ∀ v x, (fun v => strings_TrimLeft k v.1 v.2) v = some x → Sim (cfg w0 (tab0 k)) 117 (io0.enc v).1 (io0.enc v).2 (io1.enc x).1 (io1.enc x).2 := by
  intro v x h; exact sim_trimL (c := cfg w0 (tab0 k)) (ρ := Sh.ren161) Sh.l161 (by kernel_rfl) h
theorem ok1 (w0 : World) (hw : Wd w0) (k : Nat) : CfOk (cfg w0 (tab1 k)) := addTab_ok (ok0 w0 hw k) (strings_TrimLeft.sim w0 hw k)
theorem stringslite_HasPrefix.a (w0 : World) (k : Nat) : cutsAt (fun n => (stringslite_HasPrefix.cuts w0 k n).isSome) stringslite_HasPrefix.body = [] := by kernel_rfl
theorem stringslite_HasPrefix.sim (w0 : World) (hw : Wd w0) (k : Nat) : ∀ v x, (fun v => stringslite_HasPrefix k v.1 v.2) v = some x → Sim (cfg w0 (tab1 k)) 155 (io0.enc v).1 (io0.enc v).2 (io2.enc x).1 (io2.enc x).2 :=
  sim_of (c := (cfg w0 (tab1 k))) (fine w0 hw _ (ok1 w0 hw k)) (dr w0 hw _ (ok1 w0 hw k)) (i := io0) (o := io2) (ps := []) (cuts := fun _ => stringslite_HasPrefix.cuts w0 k) (m := 0) (g := fun v => stringslite_HasPrefix k v.1 v.2) Tryd.func155 (by kernel_rfl) stringslite_HasPrefix.hb (fun _ => rfl) (fun _ => Nat.le_of_ble_eq_true rfl) (good_cuts (stringslite_HasPrefix.a w0 k) trivial) (stringslite_HasPrefix.e w0 k)
theorem ok2 (w0 : World) (hw : Wd w0) (k : Nat) : CfOk (cfg w0 (tab2 k)) := addTab_ok (ok1 w0 hw k) (stringslite_HasPrefix.sim w0 hw k)
theorem stringslite_CutPrefix.a (w0 : World) (k : Nat) : cutsAt (fun n => (stringslite_CutPrefix.cuts w0 k n).isSome) stringslite_CutPrefix.body = [] := by kernel_rfl
theorem stringslite_CutPrefix.sim (w0 : World) (hw : Wd w0) (k : Nat) : ∀ v x, (fun v => stringslite_CutPrefix k v.1 v.2) v = some x → Sim (cfg w0 (tab2 k)) 100 (io0.enc v).1 (io0.enc v).2 (io3.enc x).1 (io3.enc x).2 :=
  sim_of (c := (cfg w0 (tab2 k))) (fine w0 hw _ (ok2 w0 hw k)) (dr w0 hw _ (ok2 w0 hw k)) (i := io0) (o := io3) (ps := []) (cuts := fun _ => stringslite_CutPrefix.cuts w0 k) (m := 0) (g := fun v => stringslite_CutPrefix k v.1 v.2) Tryd.func100 (by kernel_rfl) stringslite_CutPrefix.hb (fun _ => rfl) (fun _ => Nat.le_of_ble_eq_true rfl) (good_cuts (stringslite_CutPrefix.a w0 k) trivial) (stringslite_CutPrefix.e w0 k)
theorem ok3 (w0 : World) (hw : Wd w0) (k : Nat) : CfOk (cfg w0 (tab3 k)) := addTab_ok (ok2 w0 hw k) (stringslite_CutPrefix.sim w0 hw k)
theorem strings_CutPrefix.a (w0 : World) (k : Nat) : cutsAt (fun n => (strings_CutPrefix.cuts w0 k n).isSome) strings_CutPrefix.body = [] := by kernel_rfl
theorem strings_CutPrefix.sim (w0 : World) (hw : Wd w0) (k : Nat) : ∀ v x, (fun v => strings_CutPrefix k v.1 v.2) v = some x → Sim (cfg w0 (tab3 k)) 64 (io0.enc v).1 (io0.enc v).2 (io3.enc x).1 (io3.enc x).2 :=
  sim_of (c := (cfg w0 (tab3 k))) (fine w0 hw _ (ok3 w0 hw k)) (dr w0 hw _ (ok3 w0 hw k)) (i := io0) (o := io3) (ps := []) (cuts := fun _ => strings_CutPrefix.cuts w0 k) (m := 0) (g := fun v => strings_CutPrefix k v.1 v.2) Tryd.func64 (by kernel_rfl) strings_CutPrefix.hb (fun _ => rfl) (fun _ => Nat.le_of_ble_eq_true rfl) (good_cuts (strings_CutPrefix.a w0 k) trivial) (strings_CutPrefix.e w0 k)
theorem ok4 (w0 : World) (hw : Wd w0) (k : Nat) : CfOk (cfg w0 (tab4 k)) := addTab_ok (ok3 w0 hw k) (strings_CutPrefix.sim w0 hw k)
theorem strings_Index.sim (w0 : World) (hw : Wd w0) (k : Nat) : ∀ v x, (fun v => strings_Index k v.1 v.2) v = some x → Sim (cfg w0 (tab4 k)) 45 (io0.enc v).1 (io0.enc v).2 (io4.enc x).1 (io4.enc x).2 := by
  intro v x h; exact sim_findS (c := cfg w0 (tab4 k)) (ρ := Sh.ren143) Sh.l143 hw.mx h
theorem ok5 (w0 : World) (hw : Wd w0) (k : Nat) : CfOk (cfg w0 (tab5 k)) := addTab_ok (ok4 w0 hw k) (strings_Index.sim w0 hw k)
theorem f__strings_Builder__String.sim (w0 : World) (hw : Wd w0) (k : Nat) : ∀ v x, (fun v => f__strings_Builder__String k v) v = some x → Sim (cfg w0 (tab5 k)) 48 (io5.enc v).1 (io5.enc v).2 (io6.enc x).1 (io6.enc x).2 := by
  intro v x h; cases h; exact sim_str (c := cfg w0 (tab5 k)) (ρ := Sh.blr) Sh.bl Sh.bl.f169 Sh.ext rfl rfl _
theorem ok6 (w0 : World) (hw : Wd w0) (k : Nat) : CfOk (cfg w0 (tab6 k)) := addTab_ok (ok5 w0 hw k) (f__strings_Builder__String.sim w0 hw k)
theorem f__strings_Builder__WriteByte.sim (w0 : World) (hw : Wd w0) (k : Nat) : ∀ v x, (fun v => f__strings_Builder__WriteByte k v.1 v.2) v = some x → Sim (cfg w0 (tab6 k)) 84 (io7.enc v).1 (io7.enc v).2 (io8.enc x).1 (io8.enc x).2 := by
  intro v x h; exact sim_wByte (c := cfg w0 (tab6 k)) (ρ := Sh.blr) Sh.bl Sh.fWriteByte Sh.ext rfl rfl h
theorem ok7 (w0 : World) (hw : Wd w0) (k : Nat) : CfOk (cfg w0 (tab7 k)) := addTab_ok (ok6 w0 hw k) (f__strings_Builder__WriteByte.sim w0 hw k)
theorem csstok_text.a7 (w0 : World) (k : Nat) : cutsAt (fun n => (csstok_text.cuts w0 k n).isSome) csstok_text.b7 = [] := by kernel_rfl
theorem csstok_text.a (w0 : World) (k : Nat) : cutsAt (fun n => (csstok_text.cuts w0 k n).isSome) csstok_text.body = [(7, Code.loop csstok_text.b7)] := by kernel_rfl
theorem csstok_text.so7 (w0 : World) (hw : Wd w0) (k : Nat) : Sound (cfg w0 (tab7 k)) Tryd.f118.ntmps 0 (csstok_text.kr w0 k) (.loop csstok_text.b7) (entK (cfg w0 (tab7 k)) 0 [0, 2, 3, 4] [] io10.pat (csstok_text.L7 k k)) :=
  loop_ok (fine w0 hw _ (ok7 w0 hw k)) (dr w0 hw _ (ok7 w0 hw k)) (good_cuts (csstok_text.a7 w0 k) trivial) io10.ok (xn := csstok_text.x7) (L := csstok_text.L7 k) (fun v K => rfl) (csstok_text.s7 w0 k) k
theorem csstok_text.sim (w0 : World) (hw : Wd w0) (k : Nat) : ∀ v x, (fun v => csstok_text k v) v = some x → Sim (cfg w0 (tab7 k)) 118 (io1.enc v).1 (io1.enc v).2 (io9.enc x).1 (io9.enc x).2 :=
  sim_of (c := (cfg w0 (tab7 k))) (fine w0 hw _ (ok7 w0 hw k)) (dr w0 hw _ (ok7 w0 hw k)) (i := io1) (o := io9) (ps := []) (cuts := fun _ => csstok_text.cuts w0 k) (m := 0) (g := fun v => csstok_text k v) Tryd.func118 (by kernel_rfl) csstok_text.hb (fun _ => rfl) (fun _ => Nat.le_of_ble_eq_true rfl) (good_cuts (csstok_text.a w0 k) ⟨fun f hf => by cases hf; exact csstok_text.so7 w0 hw k, trivial⟩) (csstok_text.e w0 k)
theorem ok8 (w0 : World) (hw : Wd w0) (k : Nat) : CfOk (cfg w0 (tab8 k)) := addTab_ok (ok7 w0 hw k) (csstok_text.sim w0 hw k)
theorem csstok_starts.a (w0 : World) (k : Nat) : cutsAt (fun n => (csstok_starts.cuts w0 k n).isSome) csstok_starts.body = [] := by kernel_rfl
theorem csstok_starts.sim (w0 : World) (hw : Wd w0) (k : Nat) : ∀ v x, (fun v => csstok_starts k v) v = some x → Sim (cfg w0 (tab8 k)) 166 (io12.enc v).1 (io12.enc v).2 (io2.enc x).1 (io2.enc x).2 :=
  sim_of (c := (cfg w0 (tab8 k))) (fine w0 hw _ (ok8 w0 hw k)) (dr w0 hw _ (ok8 w0 hw k)) (i := io12) (o := io2) (ps := []) (cuts := fun _ => csstok_starts.cuts w0 k) (m := 0) (g := fun v => csstok_starts k v) Tryd.func166 (by kernel_rfl) csstok_starts.hb (fun _ => rfl) (fun _ => Nat.le_of_ble_eq_true rfl) (good_cuts (csstok_starts.a w0 k) trivial) (csstok_starts.e w0 k)
theorem ok9 (w0 : World) (hw : Wd w0) (k : Nat) : CfOk (cfg w0 (tab9 k)) := addTab_ok (ok8 w0 hw k) (csstok_starts.sim w0 hw k)
theorem csstok_digit.a (w0 : World) (k : Nat) : cutsAt (fun n => (csstok_digit.cuts w0 k n).isSome) csstok_digit.body = [] := by kernel_rfl
theorem csstok_digit.sim (w0 : World) (hw : Wd w0) (k : Nat) : ∀ v x, (fun v => csstok_digit k v) v = some x → Sim (cfg w0 (tab9 k)) 167 (io12.enc v).1 (io12.enc v).2 (io2.enc x).1 (io2.enc x).2 :=
  sim_of (c := (cfg w0 (tab9 k))) (fine w0 hw _ (ok9 w0 hw k)) (dr w0 hw _ (ok9 w0 hw k)) (i := io12) (o := io2) (ps := []) (cuts := fun _ => csstok_digit.cuts w0 k) (m := 0) (g := fun v => csstok_digit k v) Tryd.func167 (by kernel_rfl) csstok_digit.hb (fun _ => rfl) (fun _ => Nat.le_of_ble_eq_true rfl) (good_cuts (csstok_digit.a w0 k) trivial) (csstok_digit.e w0 k)
theorem ok10 (w0 : World) (hw : Wd w0) (k : Nat) : CfOk (cfg w0 (tab10 k)) := addTab_ok (ok9 w0 hw k) (csstok_digit.sim w0 hw k)
theorem csstok_sign.a (w0 : World) (k : Nat) : cutsAt (fun n => (csstok_sign.cuts w0 k n).isSome) csstok_sign.body = [] := by kernel_rfl
theorem csstok_sign.sim (w0 : World) (hw : Wd w0) (k : Nat) : ∀ v x, (fun v => csstok_sign k v) v = some x → Sim (cfg w0 (tab10 k)) 119 (io12.enc v).1 (io12.enc v).2 (io2.enc x).1 (io2.enc x).2 :=
  sim_of (c := (cfg w0 (tab10 k))) (fine w0 hw _ (ok10 w0 hw k)) (dr w0 hw _ (ok10 w0 hw k)) (i := io12) (o := io2) (ps := []) (cuts := fun _ => csstok_sign.cuts w0 k) (m := 0) (g := fun v => csstok_sign k v) Tryd.func119 (by kernel_rfl) csstok_sign.hb (fun _ => rfl) (fun _ => Nat.le_of_ble_eq_true rfl) (good_cuts (csstok_sign.a w0 k) trivial) (csstok_sign.e w0 k)
theorem ok11 (w0 : World) (hw : Wd w0) (k : Nat) : CfOk (cfg w0 (tab11 k)) := addTab_ok (ok10 w0 hw k) (csstok_sign.sim w0 hw k)
theorem csstok_escape.a (w0 : World) (k : Nat) : cutsAt (fun n => (csstok_escape.cuts w0 k n).isSome) csstok_escape.body = [] := by kernel_rfl
theorem csstok_escape.sim (w0 : World) (hw : Wd w0) (k : Nat) : ∀ v x, (fun v => csstok_escape k v) v = some x → Sim (cfg w0 (tab11 k)) 120 (io1.enc v).1 (io1.enc v).2 (io2.enc x).1 (io2.enc x).2 :=
  sim_of (c := (cfg w0 (tab11 k))) (fine w0 hw _ (ok11 w0 hw k)) (dr w0 hw _ (ok11 w0 hw k)) (i := io1) (o := io2) (ps := []) (cuts := fun _ => csstok_escape.cuts w0 k) (m := 0) (g := fun v => csstok_escape k v) Tryd.func120 (by kernel_rfl) csstok_escape.hb (fun _ => rfl) (fun _ => Nat.le_of_ble_eq_true rfl) (good_cuts (csstok_escape.a w0 k) trivial) (csstok_escape.e w0 k)
theorem ok12 (w0 : World) (hw : Wd w0) (k : Nat) : CfOk (cfg w0 (tab12 k)) := addTab_ok (ok11 w0 hw k) (csstok_escape.sim w0 hw k)
theorem csstok_name.a7 (w0 : World) (k : Nat) : cutsAt (fun n => (csstok_name.cuts w0 k n).isSome) csstok_name.b7 = [] := by kernel_rfl
theorem csstok_name.a (w0 : World) (k : Nat) : cutsAt (fun n => (csstok_name.cuts w0 k n).isSome) csstok_name.body = [(7, Code.loop csstok_name.b7)] := by kernel_rfl
theorem csstok_name.so7 (w0 : World) (hw : Wd w0) (k : Nat) : Sound (cfg w0 (tab12 k)) Tryd.f168.ntmps 0 (csstok_name.kr w0 k) (.loop csstok_name.b7) (entK (cfg w0 (tab12 k)) 0 [0, 4, 5] [] io14.pat (csstok_name.L7 k k)) :=
  loop_ok (fine w0 hw _ (ok12 w0 hw k)) (dr w0 hw _ (ok12 w0 hw k)) (good_cuts (csstok_name.a7 w0 k) trivial) io14.ok (xn := csstok_name.x7) (L := csstok_name.L7 k) (fun v K => rfl) (csstok_name.s7 w0 k) k
theorem csstok_name.sim (w0 : World) (hw : Wd w0) (k : Nat) : ∀ v x, (fun v => csstok_name k v) v = some x → Sim (cfg w0 (tab12 k)) 168 (io1.enc v).1 (io1.enc v).2 (io13.enc x).1 (io13.enc x).2 :=
  sim_of (c := (cfg w0 (tab12 k))) (fine w0 hw _ (ok12 w0 hw k)) (dr w0 hw _ (ok12 w0 hw k)) (i := io1) (o := io13) (ps := []) (cuts := fun _ => csstok_name.cuts w0 k) (m := 0) (g := fun v => csstok_name k v) Tryd.func168 (by kernel_rfl) csstok_name.hb (fun _ => rfl) (fun _ => Nat.le_of_ble_eq_true rfl) (good_cuts (csstok_name.a w0 k) ⟨fun f hf => by cases hf; exact csstok_name.so7 w0 hw k, trivial⟩) (csstok_name.e w0 k)
theorem ok13 (w0 : World) (hw : Wd w0) (k : Nat) : CfOk (cfg w0 (tab13 k)) := addTab_ok (ok12 w0 hw k) (csstok_name.sim w0 hw k)
theorem csstok_named.a (w0 : World) (k : Nat) : cutsAt (fun n => (csstok_named.cuts w0 k n).isSome) csstok_named.body = [] := by kernel_rfl
theorem csstok_named.sim (w0 : World) (hw : Wd w0) (k : Nat) : ∀ v x, (fun v => csstok_named k v.1 v.2.1 v.2.2) v = some x → Sim (cfg w0 (tab13 k)) 121 (io16.enc v).1 (io16.enc v).2 (io9.enc x).1 (io9.enc x).2 :=
  sim_of (c := (cfg w0 (tab13 k))) (fine w0 hw _ (ok13 w0 hw k)) (dr w0 hw _ (ok13 w0 hw k)) (i := io16) (o := io9) (ps := []) (cuts := fun _ => csstok_named.cuts w0 k) (m := 0) (g := fun v => csstok_named k v.1 v.2.1 v.2.2) Tryd.func121 (by kernel_rfl) csstok_named.hb (fun _ => rfl) (fun _ => Nat.le_of_ble_eq_true rfl) (good_cuts (csstok_named.a w0 k) trivial) (csstok_named.e w0 k)
theorem ok14 (w0 : World) (hw : Wd w0) (k : Nat) : CfOk (cfg w0 (tab14 k)) := addTab_ok (ok13 w0 hw k) (csstok_named.sim w0 hw k)
theorem csstok_begins.a (w0 : World) (k : Nat) : cutsAt (fun n => (csstok_begins.cuts w0 k n).isSome) csstok_begins.body = [] := by kernel_rfl
theorem csstok_begins.sim (w0 : World) (hw : Wd w0) (k : Nat) : ∀ v x, (fun v => csstok_begins k v) v = some x → Sim (cfg w0 (tab14 k)) 122 (io1.enc v).1 (io1.enc v).2 (io2.enc x).1 (io2.enc x).2 :=
  sim_of (c := (cfg w0 (tab14 k))) (fine w0 hw _ (ok14 w0 hw k)) (dr w0 hw _ (ok14 w0 hw k)) (i := io1) (o := io2) (ps := []) (cuts := fun _ => csstok_begins.cuts w0 k) (m := 0) (g := fun v => csstok_begins k v) Tryd.func122 (by kernel_rfl) csstok_begins.hb (fun _ => rfl) (fun _ => Nat.le_of_ble_eq_true rfl) (good_cuts (csstok_begins.a w0 k) trivial) (csstok_begins.e w0 k)
theorem ok15 (w0 : World) (hw : Wd w0) (k : Nat) : CfOk (cfg w0 (tab15 k)) := addTab_ok (ok14 w0 hw k) (csstok_begins.sim w0 hw k)
theorem csstok_digits.a (w0 : World) (k : Nat) : cutsAt (fun n => (csstok_digits.cuts w0 k n).isSome) csstok_digits.body = [] := by kernel_rfl
theorem csstok_digits.sim (w0 : World) (hw : Wd w0) (k : Nat) : ∀ v x, (fun v => csstok_digits k v) v = some x → Sim (cfg w0 (tab15 k)) 169 (io1.enc v).1 (io1.enc v).2 (io4.enc x).1 (io4.enc x).2 :=
  sim_of (c := (cfg w0 (tab15 k))) (fine w0 hw _ (ok15 w0 hw k)) (dr w0 hw _ (ok15 w0 hw k)) (i := io1) (o := io4) (ps := []) (cuts := fun _ => csstok_digits.cuts w0 k) (m := 0) (g := fun v => csstok_digits k v) Tryd.func169 (by kernel_rfl) csstok_digits.hb (fun _ => rfl) (fun _ => Nat.le_of_ble_eq_true rfl) (good_cuts (csstok_digits.a w0 k) trivial) (csstok_digits.e w0 k)
theorem ok16 (w0 : World) (hw : Wd w0) (k : Nat) : CfOk (cfg w0 (tab16 k)) := addTab_ok (ok15 w0 hw k) (csstok_digits.sim w0 hw k)
theorem strings_HasPrefix.a (w0 : World) (k : Nat) : cutsAt (fun n => (strings_HasPrefix.cuts w0 k n).isSome) strings_HasPrefix.body = [] := by kernel_rfl
theorem strings_HasPrefix.sim (w0 : World) (hw : Wd w0) (k : Nat) : ∀ v x, (fun v => strings_HasPrefix k v.1 v.2) v = some x → Sim (cfg w0 (tab16 k)) 125 (io0.enc v).1 (io0.enc v).2 (io2.enc x).1 (io2.enc x).2 :=
  sim_of (c := (cfg w0 (tab16 k))) (fine w0 hw _ (ok16 w0 hw k)) (dr w0 hw _ (ok16 w0 hw k)) (i := io0) (o := io2) (ps := []) (cuts := fun _ => strings_HasPrefix.cuts w0 k) (m := 0) (g := fun v => strings_HasPrefix k v.1 v.2) Tryd.func125 (by kernel_rfl) strings_HasPrefix.hb (fun _ => rfl) (fun _ => Nat.le_of_ble_eq_true rfl) (good_cuts (strings_HasPrefix.a w0 k) trivial) (strings_HasPrefix.e w0 k)
theorem ok17 (w0 : World) (hw : Wd w0) (k : Nat) : CfOk (cfg w0 (tab17 k)) := addTab_ok (ok16 w0 hw k) (strings_HasPrefix.sim w0 hw k)
theorem csstok_Number_1.a (w0 : World) (k : Nat) : cutsAt (fun n => (csstok_Number_1.cuts w0 k n).isSome) csstok_Number_1.body = [] := by kernel_rfl
theorem csstok_Number_1.sim (w0 : World) (hw : Wd w0) (k : Nat) : ∀ v x, (fun v => csstok_Number_1 k v.1 v.2) v = some x → Sim (cfg w0 (tab17 k)) 170 (io17.enc v).1 (io17.enc v).2 (io18.enc x).1 (io18.enc x).2 :=
  sim_of (c := (cfg w0 (tab17 k))) (fine w0 hw _ (ok17 w0 hw k)) (dr w0 hw _ (ok17 w0 hw k)) (i := io17) (o := io18) (ps := []) (cuts := fun _ => csstok_Number_1.cuts w0 k) (m := 1) (g := fun v => csstok_Number_1 k v.1 v.2) Tryd.func170 (by kernel_rfl) csstok_Number_1.hb (fun _ => rfl) (fun _ => Nat.le_of_ble_eq_true rfl) (good_cuts (csstok_Number_1.a w0 k) trivial) (csstok_Number_1.e w0 k)
theorem ok18 (w0 : World) (hw : Wd w0) (k : Nat) : CfOk (cfg w0 (tab18 k)) := addTab_ok (ok17 w0 hw k) (csstok_Number_1.sim w0 hw k)
theorem csstok_Number.a29 (w0 : World) (k : Nat) : cutsAt (fun n => (csstok_Number.cuts w0 k n).isSome) csstok_Number.b29 = [] := by kernel_rfl
theorem csstok_Number.a49 (w0 : World) (k : Nat) : cutsAt (fun n => (csstok_Number.cuts w0 k n).isSome) csstok_Number.b49 = [] := by kernel_rfl
theorem csstok_Number.a64 (w0 : World) (k : Nat) : cutsAt (fun n => (csstok_Number.cuts w0 k n).isSome) csstok_Number.b64 = [] := by kernel_rfl
theorem csstok_Number.a46 (w0 : World) (k : Nat) : cutsAt (fun n => (csstok_Number.cuts w0 k n).isSome) csstok_Number.b46 = [(49, Code.loop csstok_Number.b49), (64, csstok_Number.b64)] := by kernel_rfl
theorem csstok_Number.a18 (w0 : World) (k : Nat) : cutsAt (fun n => (csstok_Number.cuts w0 k n).isSome) csstok_Number.b18 = [(29, Code.loop csstok_Number.b29), (46, csstok_Number.b46)] := by kernel_rfl
theorem csstok_Number.a8 (w0 : World) (k : Nat) : cutsAt (fun n => (csstok_Number.cuts w0 k n).isSome) csstok_Number.b8 = [(18, csstok_Number.b18)] := by kernel_rfl
theorem csstok_Number.a (w0 : World) (k : Nat) : cutsAt (fun n => (csstok_Number.cuts w0 k n).isSome) csstok_Number.body = [(8, csstok_Number.b8)] := by kernel_rfl
theorem csstok_Number.so29 (w0 : World) (hw : Wd w0) (k : Nat) : Sound (cfg w0 (tab18 k)) Tryd.f123.ntmps 0 (csstok_Number.kr w0 k) (.loop csstok_Number.b29) (entK (cfg w0 (tab18 k)) 0 [0, 4, 5, 6, 8, 9, 52, 53, 54] [] io20.pat (csstok_Number.L29 k k)) :=
  loop_ok (fine w0 hw _ (ok18 w0 hw k)) (dr w0 hw _ (ok18 w0 hw k)) (good_cuts (csstok_Number.a29 w0 k) trivial) io20.ok (xn := csstok_Number.x29) (L := csstok_Number.L29 k) (fun v K => rfl) (csstok_Number.s29 w0 k) k
theorem csstok_Number.so49 (w0 : World) (hw : Wd w0) (k : Nat) : Sound (cfg w0 (tab18 k)) Tryd.f123.ntmps 0 (csstok_Number.kr w0 k) (.loop csstok_Number.b49) (entK (cfg w0 (tab18 k)) 0 [0, 8, 9, 12, 13, 79] [] io22.pat (csstok_Number.L49 k k)) :=
  loop_ok (fine w0 hw _ (ok18 w0 hw k)) (dr w0 hw _ (ok18 w0 hw k)) (good_cuts (csstok_Number.a49 w0 k) trivial) io22.ok (xn := csstok_Number.x49) (L := csstok_Number.L49 k) (fun v K => rfl) (csstok_Number.s49 w0 k) k
theorem csstok_Number.so64 (w0 : World) (hw : Wd w0) (k : Nat) : Sound (cfg w0 (tab18 k)) Tryd.f123.ntmps 0 (csstok_Number.kr w0 k) csstok_Number.b64 (entK (cfg w0 (tab18 k)) 0 [8, 12] [] io24.pat (csstok_Number.L64 k)) :=
  join_ok (fine w0 hw _ (ok18 w0 hw k)) (dr w0 hw _ (ok18 w0 hw k)) (good_cuts (csstok_Number.a64 w0 k) trivial) io24.ok (xn := csstok_Number.x64) (L := csstok_Number.L64 k) (csstok_Number.s64 w0 k)
theorem csstok_Number.so46 (w0 : World) (hw : Wd w0) (k : Nat) : Sound (cfg w0 (tab18 k)) Tryd.f123.ntmps 0 (csstok_Number.kr w0 k) csstok_Number.b46 (entK (cfg w0 (tab18 k)) 0 [0, 8, 9, 12, 13] [] io25.pat (csstok_Number.L46 k)) :=
  join_ok (fine w0 hw _ (ok18 w0 hw k)) (dr w0 hw _ (ok18 w0 hw k)) (good_cuts (csstok_Number.a46 w0 k) ⟨fun f hf => by cases hf; exact csstok_Number.so49 w0 hw k, fun f hf => by cases hf; exact csstok_Number.so64 w0 hw k, trivial⟩) io25.ok (xn := csstok_Number.x46) (L := csstok_Number.L46 k) (csstok_Number.s46 w0 k)
theorem csstok_Number.so18 (w0 : World) (hw : Wd w0) (k : Nat) : Sound (cfg w0 (tab18 k)) Tryd.f123.ntmps 0 (csstok_Number.kr w0 k) csstok_Number.b18 (entK (cfg w0 (tab18 k)) 0 [0, 4, 5, 6] [] io26.pat (csstok_Number.L18 k)) :=
  join_ok (fine w0 hw _ (ok18 w0 hw k)) (dr w0 hw _ (ok18 w0 hw k)) (good_cuts (csstok_Number.a18 w0 k) ⟨fun f hf => by cases hf; exact csstok_Number.so29 w0 hw k, fun f hf => by cases hf; exact csstok_Number.so46 w0 hw k, trivial⟩) io26.ok (xn := csstok_Number.x18) (L := csstok_Number.L18 k) (csstok_Number.s18 w0 k)
theorem csstok_Number.so8 (w0 : World) (hw : Wd w0) (k : Nat) : Sound (cfg w0 (tab18 k)) Tryd.f123.ntmps 0 (csstok_Number.kr w0 k) csstok_Number.b8 (entK (cfg w0 (tab18 k)) 0 [0, 4] [] io13.pat (csstok_Number.L8 k)) :=
  join_ok (fine w0 hw _ (ok18 w0 hw k)) (dr w0 hw _ (ok18 w0 hw k)) (good_cuts (csstok_Number.a8 w0 k) ⟨fun f hf => by cases hf; exact csstok_Number.so18 w0 hw k, trivial⟩) io13.ok (xn := csstok_Number.x8) (L := csstok_Number.L8 k) (csstok_Number.s8 w0 k)
theorem csstok_Number.sim (w0 : World) (hw : Wd w0) (k : Nat) : ∀ v x, (fun v => csstok_Number k v) v = some x → Sim (cfg w0 (tab18 k)) 123 (io1.enc v).1 (io1.enc v).2 (io19.enc x).1 (io19.enc x).2 :=
  sim_of (c := (cfg w0 (tab18 k))) (fine w0 hw _ (ok18 w0 hw k)) (dr w0 hw _ (ok18 w0 hw k)) (i := io1) (o := io19) (ps := []) (cuts := fun _ => csstok_Number.cuts w0 k) (m := 0) (g := fun v => csstok_Number k v) Tryd.func123 (by kernel_rfl) csstok_Number.hb (fun _ => rfl) (fun _ => Nat.le_of_ble_eq_true rfl) (good_cuts (csstok_Number.a w0 k) ⟨fun f hf => by cases hf; exact csstok_Number.so8 w0 hw k, trivial⟩) (csstok_Number.e w0 k)
theorem ok19 (w0 : World) (hw : Wd w0) (k : Nat) : CfOk (cfg w0 (tab19 k)) := addTab_ok (ok18 w0 hw k) (csstok_Number.sim w0 hw k)
theorem csstok_lower.a7 (w0 : World) (k : Nat) : cutsAt (fun n => (csstok_lower.cuts w0 k n).isSome) csstok_lower.b7 = [] := by kernel_rfl
theorem csstok_lower.a (w0 : World) (k : Nat) : cutsAt (fun n => (csstok_lower.cuts w0 k n).isSome) csstok_lower.body = [(7, Code.loop csstok_lower.b7)] := by kernel_rfl
theorem csstok_lower.so7 (w0 : World) (hw : Wd w0) (k : Nat) : Sound (cfg w0 (tab19 k)) Tryd.f171.ntmps 0 (csstok_lower.kr w0 k) (.loop csstok_lower.b7) (entK (cfg w0 (tab19 k)) 0 [3, 8, 9, 10] [] io27.pat (csstok_lower.L7 k k)) :=
  loop_ok (fine w0 hw _ (ok19 w0 hw k)) (dr w0 hw _ (ok19 w0 hw k)) (good_cuts (csstok_lower.a7 w0 k) trivial) io27.ok (xn := csstok_lower.x7) (L := csstok_lower.L7 k) (fun v K => rfl) (csstok_lower.s7 w0 k) k
theorem csstok_lower.sim (w0 : World) (hw : Wd w0) (k : Nat) : ∀ v x, (fun v => csstok_lower k v) v = some x → Sim (cfg w0 (tab19 k)) 171 (io1.enc v).1 (io1.enc v).2 (io1.enc x).1 (io1.enc x).2 :=
  sim_of (c := (cfg w0 (tab19 k))) (fine w0 hw _ (ok19 w0 hw k)) (dr w0 hw _ (ok19 w0 hw k)) (i := io1) (o := io1) (ps := []) (cuts := fun _ => csstok_lower.cuts w0 k) (m := 0) (g := fun v => csstok_lower k v) Tryd.func171 (by kernel_rfl) csstok_lower.hb (fun _ => rfl) (fun _ => Nat.le_of_ble_eq_true rfl) (good_cuts (csstok_lower.a w0 k) ⟨fun f hf => by cases hf; exact csstok_lower.so7 w0 hw k, trivial⟩) (csstok_lower.e w0 k)
theorem ok20 (w0 : World) (hw : Wd w0) (k : Nat) : CfOk (cfg w0 (tab20 k)) := addTab_ok (ok19 w0 hw k) (csstok_lower.sim w0 hw k)
theorem csstok_number.a16 (w0 : World) (k : Nat) : cutsAt (fun n => (csstok_number.cuts w0 k n).isSome) csstok_number.b16 = [] := by kernel_rfl
theorem csstok_number.a (w0 : World) (k : Nat) : cutsAt (fun n => (csstok_number.cuts w0 k n).isSome) csstok_number.body = [(16, csstok_number.b16)] := by kernel_rfl
theorem csstok_number.so16 (w0 : World) (hw : Wd w0) (k : Nat) : Sound (cfg w0 (tab20 k)) Tryd.f124.ntmps 0 (csstok_number.kr w0 k) csstok_number.b16 (entK (cfg w0 (tab20 k)) 0 [6, 7] [] io30.pat (csstok_number.L16 k)) :=
  join_ok (fine w0 hw _ (ok20 w0 hw k)) (dr w0 hw _ (ok20 w0 hw k)) (good_cuts (csstok_number.a16 w0 k) trivial) io30.ok (xn := csstok_number.x16) (L := csstok_number.L16 k) (csstok_number.s16 w0 k)
theorem csstok_number.sim (w0 : World) (hw : Wd w0) (k : Nat) : ∀ v x, (fun v => csstok_number k v.1 v.2.1 v.2.2) v = some x → Sim (cfg w0 (tab20 k)) 124 (io29.enc v).1 (io29.enc v).2 (io9.enc x).1 (io9.enc x).2 :=
  sim_of (c := (cfg w0 (tab20 k))) (fine w0 hw _ (ok20 w0 hw k)) (dr w0 hw _ (ok20 w0 hw k)) (i := io29) (o := io9) (ps := []) (cuts := fun _ => csstok_number.cuts w0 k) (m := 0) (g := fun v => csstok_number k v.1 v.2.1 v.2.2) Tryd.func124 (by kernel_rfl) csstok_number.hb (fun _ => rfl) (fun _ => Nat.le_of_ble_eq_true rfl) (good_cuts (csstok_number.a w0 k) ⟨fun f hf => by cases hf; exact csstok_number.so16 w0 hw k, trivial⟩) (csstok_number.e w0 k)
theorem ok21 (w0 : World) (hw : Wd w0) (k : Nat) : CfOk (cfg w0 (tab21 k)) := addTab_ok (ok20 w0 hw k) (csstok_number.sim w0 hw k)
theorem csstok_first_1.a (w0 : World) (k : Nat) : cutsAt (fun n => (csstok_first_1.cuts w0 k n).isSome) csstok_first_1.body = [] := by kernel_rfl
theorem csstok_first_1.sim (w0 : World) (hw : Wd w0) (k : Nat) : ∀ v x, (fun v => csstok_first_1 k v.1 v.2) v = some x → Sim (cfg w0 (tab21 k)) 116 (io31.enc v).1 (io31.enc v).2 (io32.enc x).1 (io32.enc x).2 :=
  sim_of (c := (cfg w0 (tab21 k))) (fine w0 hw _ (ok21 w0 hw k)) (dr w0 hw _ (ok21 w0 hw k)) (i := io31) (o := io32) (ps := []) (cuts := fun _ => csstok_first_1.cuts w0 k) (m := 1) (g := fun v => csstok_first_1 k v.1 v.2) Tryd.func116 (by kernel_rfl) csstok_first_1.hb (fun _ => rfl) (fun _ => Nat.le_of_ble_eq_true rfl) (good_cuts (csstok_first_1.a w0 k) trivial) (csstok_first_1.e w0 k)
theorem ok22 (w0 : World) (hw : Wd w0) (k : Nat) : CfOk (cfg w0 (tab22 k)) := addTab_ok (ok21 w0 hw k) (csstok_first_1.sim w0 hw k)
theorem csstok_first.a20 (w0 : World) (k : Nat) : cutsAt (fun n => (csstok_first.cuts w0 k n).isSome) csstok_first.b20 = [] := by kernel_rfl
theorem csstok_first.a52 (w0 : World) (k : Nat) : cutsAt (fun n => (csstok_first.cuts w0 k n).isSome) csstok_first.b52 = [] := by kernel_rfl
theorem csstok_first.a76 (w0 : World) (k : Nat) : cutsAt (fun n => (csstok_first.cuts w0 k n).isSome) csstok_first.b76 = [] := by kernel_rfl
theorem csstok_first.a (w0 : World) (k : Nat) : cutsAt (fun n => (csstok_first.cuts w0 k n).isSome) csstok_first.body = [(20, csstok_first.b20), (52, csstok_first.b52), (76, csstok_first.b76)] := by kernel_rfl
theorem csstok_first.so20 (w0 : World) (hw : Wd w0) (k : Nat) : Sound (cfg w0 (tab22 k)) Tryd.f75.ntmps 0 (csstok_first.kr w0 k) csstok_first.b20 (entK (cfg w0 (tab22 k)) 0 [1, 2] [] io33.pat (csstok_first.L20 k)) :=
  join_ok (fine w0 hw _ (ok22 w0 hw k)) (dr w0 hw _ (ok22 w0 hw k)) (good_cuts (csstok_first.a20 w0 k) trivial) io33.ok (xn := csstok_first.x20) (L := csstok_first.L20 k) (csstok_first.s20 w0 k)
theorem csstok_first.so52 (w0 : World) (hw : Wd w0) (k : Nat) : Sound (cfg w0 (tab22 k)) Tryd.f75.ntmps 0 (csstok_first.kr w0 k) csstok_first.b52 (entK (cfg w0 (tab22 k)) 0 [2, 11] [] io30.pat (csstok_first.L52 k)) :=
  join_ok (fine w0 hw _ (ok22 w0 hw k)) (dr w0 hw _ (ok22 w0 hw k)) (good_cuts (csstok_first.a52 w0 k) trivial) io30.ok (xn := csstok_first.x52) (L := csstok_first.L52 k) (csstok_first.s52 w0 k)
theorem csstok_first.so76 (w0 : World) (hw : Wd w0) (k : Nat) : Sound (cfg w0 (tab22 k)) Tryd.f75.ntmps 0 (csstok_first.kr w0 k) csstok_first.b76 (entK (cfg w0 (tab22 k)) 0 [2, 3] [] io34.pat (csstok_first.L76 k)) :=
  join_ok (fine w0 hw _ (ok22 w0 hw k)) (dr w0 hw _ (ok22 w0 hw k)) (good_cuts (csstok_first.a76 w0 k) trivial) io34.ok (xn := csstok_first.x76) (L := csstok_first.L76 k) (csstok_first.s76 w0 k)
theorem csstok_first.sim (w0 : World) (hw : Wd w0) (k : Nat) : ∀ v x, (fun v => csstok_first k v) v = some x → Sim (cfg w0 (tab22 k)) 75 (io1.enc v).1 (io1.enc v).2 (io9.enc x).1 (io9.enc x).2 :=
  sim_of (c := (cfg w0 (tab22 k))) (fine w0 hw _ (ok22 w0 hw k)) (dr w0 hw _ (ok22 w0 hw k)) (i := io1) (o := io9) (ps := []) (cuts := fun _ => csstok_first.cuts w0 k) (m := 0) (g := fun v => csstok_first k v) Tryd.func75 (by kernel_rfl) csstok_first.hb (fun _ => rfl) (fun _ => Nat.le_of_ble_eq_true rfl) (good_cuts (csstok_first.a w0 k) ⟨fun f hf => by cases hf; exact csstok_first.so20 w0 hw k, fun f hf => by cases hf; exact csstok_first.so52 w0 hw k, fun f hf => by cases hf; exact csstok_first.so76 w0 hw k, trivial⟩) (csstok_first.e w0 k)
theorem ok23 (w0 : World) (hw : Wd w0) (k : Nat) : CfOk (cfg w0 (tab23 k)) := addTab_ok (ok22 w0 hw k) (csstok_first.sim w0 hw k)
theorem csstok_Cut.a5 (w0 : World) (k : Nat) : cutsAt (fun n => (csstok_Cut.cuts w0 k n).isSome) csstok_Cut.b5 = [] := by kernel_rfl
theorem csstok_Cut.a (w0 : World) (k : Nat) : cutsAt (fun n => (csstok_Cut.cuts w0 k n).isSome) csstok_Cut.body = [(5, Code.loop csstok_Cut.b5)] := by kernel_rfl
theorem csstok_Cut.so5 (w0 : World) (hw : Wd w0) (k : Nat) : Sound (cfg w0 (tab23 k)) Tryd.f34.ntmps 0 (csstok_Cut.kr w0 k) (.loop csstok_Cut.b5) (entK (cfg w0 (tab23 k)) 0 [0, 3] [.own 3 106] io36.pat (csstok_Cut.L5 k k)) :=
  loop_ok (fine w0 hw _ (ok23 w0 hw k)) (dr w0 hw _ (ok23 w0 hw k)) (good_cuts (csstok_Cut.a5 w0 k) trivial) io36.ok (xn := csstok_Cut.x5) (L := csstok_Cut.L5 k) (fun v K => rfl) (csstok_Cut.s5 w0 k) k
theorem csstok_Cut.sim (w0 : World) (hw : Wd w0) (k : Nat) : ∀ v x, (fun v => csstok_Cut k v) v = some x → Sim (cfg w0 (tab23 k)) 34 (io1.enc v).1 (io1.enc v).2 (io35.enc x).1 (io35.enc x).2 :=
  sim_of (c := (cfg w0 (tab23 k))) (fine w0 hw _ (ok23 w0 hw k)) (dr w0 hw _ (ok23 w0 hw k)) (i := io1) (o := io35) (ps := [.own 0 106]) (cuts := fun _ => csstok_Cut.cuts w0 k) (m := 0) (g := fun v => csstok_Cut k v) Tryd.func34 (by kernel_rfl) csstok_Cut.hb (fun _ => rfl) (fun _ => Nat.le_of_ble_eq_true rfl) (good_cuts (csstok_Cut.a w0 k) ⟨fun f hf => by cases hf; exact csstok_Cut.so5 w0 hw k, trivial⟩) (csstok_Cut.e w0 k)
theorem ok24 (w0 : World) (hw : Wd w0) (k : Nat) : CfOk (cfg w0 (tab24 k)) := addTab_ok (ok23 w0 hw k) (csstok_Cut.sim w0 hw k)
theorem calc_reader__gap.a5 (w0 : World) (k : Nat) : cutsAt (fun n => (calc_reader__gap.cuts w0 k n).isSome) calc_reader__gap.b5 = [] := by kernel_rfl
theorem calc_reader__gap.a (w0 : World) (k : Nat) : cutsAt (fun n => (calc_reader__gap.cuts w0 k n).isSome) calc_reader__gap.body = [(5, Code.loop calc_reader__gap.b5)] := by kernel_rfl
theorem calc_reader__gap.so5 (w0 : World) (hw : Wd w0) (k : Nat) : Sound (cfg w0 (tab24 k)) Tryd.f51.ntmps 2 (calc_reader__gap.kr w0 k) (.loop calc_reader__gap.b5) (entK (cfg w0 (tab24 k)) 2 [0, 3] [.box 0 92] io39.pat (calc_reader__gap.L5 k k)) :=
  loop_ok (fine w0 hw _ (ok24 w0 hw k)) (dr w0 hw _ (ok24 w0 hw k)) (good_cuts (calc_reader__gap.a5 w0 k) trivial) io39.ok (xn := calc_reader__gap.x5) (L := calc_reader__gap.L5 k) (fun v K => rfl) (calc_reader__gap.s5 w0 k) k
theorem calc_reader__gap.sim (w0 : World) (hw : Wd w0) (k : Nat) : ∀ v x, (fun v => calc_reader__gap k v.1 v.2.1 v.2.2) v = some x → Sim (cfg w0 (tab24 k)) 51 (io37.enc v).1 (io37.enc v).2 (io38.enc x).1 (io38.enc x).2 :=
  sim_of (c := (cfg w0 (tab24 k))) (fine w0 hw _ (ok24 w0 hw k)) (dr w0 hw _ (ok24 w0 hw k)) (i := io37) (o := io38) (ps := []) (cuts := fun _ => calc_reader__gap.cuts w0 k) (m := 2) (g := fun v => calc_reader__gap k v.1 v.2.1 v.2.2) Tryd.func51 (by kernel_rfl) calc_reader__gap.hb (fun _ => rfl) (fun _ => Nat.le_of_ble_eq_true rfl) (good_cuts (calc_reader__gap.a w0 k) ⟨fun f hf => by cases hf; exact calc_reader__gap.so5 w0 hw k, trivial⟩) (calc_reader__gap.e w0 k)
theorem ok25 (w0 : World) (hw : Wd w0) (k : Nat) : CfOk (cfg w0 (tab25 k)) := addTab_ok (ok24 w0 hw k) (calc_reader__gap.sim w0 hw k)
theorem calc_reader__need.a (w0 : World) (k : Nat) : cutsAt (fun n => (calc_reader__need.cuts w0 k n).isSome) calc_reader__need.body = [] := by kernel_rfl
theorem calc_reader__need.sim (w0 : World) (hw : Wd w0) (k : Nat) : ∀ v x, (fun v => calc_reader__need k v.1 v.2.1 v.2.2.1 v.2.2.2) v = some x → (x.1 = false → Sim (cfg w0 (tab25 k)) 53 (io40.enc v).1 (io40.enc v).2 (io41.enc x.2.2).1 (io41.enc x.2.2).2) ∧ (x.1 = true → SimP (cfg w0 (tab25 k)) 53 (io40.enc v).1 (io40.enc v).2 (pe88 x.2.1)) :=
  simP_of (c := (cfg w0 (tab25 k))) (fine w0 hw _ (ok25 w0 hw k)) (dr w0 hw _ (ok25 w0 hw k)) (i := io40) (o := io41) (hpe := pp88_ok) (hpv := pe88_pv) (dp := (0 : Int)) (dr := ([], (0 : Int), false)) (ps := []) (cuts := fun _ => calc_reader__need.cuts w0 k) (m := 1) (g := fun v => calc_reader__need k v.1 v.2.1 v.2.2.1 v.2.2.2) Tryd.func53 (by kernel_rfl) calc_reader__need.hb (fun _ => rfl) (fun _ => Nat.le_of_ble_eq_true rfl) (good_cuts (calc_reader__need.a w0 k) trivial) (calc_reader__need.e w0 k)
theorem ok26 (w0 : World) (hw : Wd w0) (k : Nat) : CfOk (cfg w0 (tab26 k)) := addTabP_ok (ok25 w0 hw k) (calc_reader__need.sim w0 hw k)
theorem slices_Index___string_string_.a5 (w0 : World) (k : Nat) : cutsAt (fun n => (slices_Index___string_string_.cuts w0 k n).isSome) slices_Index___string_string_.b5 = [] := by kernel_rfl
theorem slices_Index___string_string_.a (w0 : World) (k : Nat) : cutsAt (fun n => (slices_Index___string_string_.cuts w0 k n).isSome) slices_Index___string_string_.body = [(5, Code.loop slices_Index___string_string_.b5)] := by kernel_rfl
theorem slices_Index___string_string_.so5 (w0 : World) (hw : Wd w0) (k : Nat) : Sound (cfg w0 (tab26 k)) Tryd.f97.ntmps 0 (slices_Index___string_string_.kr w0 k) (.loop slices_Index___string_string_.b5) (entK (cfg w0 (tab26 k)) 0 [0, 1, 7, 8] [] io43.pat (slices_Index___string_string_.L5 k k)) :=
  loop_ok (fine w0 hw _ (ok26 w0 hw k)) (dr w0 hw _ (ok26 w0 hw k)) (good_cuts (slices_Index___string_string_.a5 w0 k) trivial) io43.ok (xn := slices_Index___string_string_.x5) (L := slices_Index___string_string_.L5 k) (fun v K => rfl) (slices_Index___string_string_.s5 w0 k) k
theorem slices_Index___string_string_.sim (w0 : World) (hw : Wd w0) (k : Nat) : ∀ v x, (fun v => slices_Index___string_string_ k v.1 v.2) v = some x → Sim (cfg w0 (tab26 k)) 97 (io42.enc v).1 (io42.enc v).2 (io4.enc x).1 (io4.enc x).2 :=
  sim_of (c := (cfg w0 (tab26 k))) (fine w0 hw _ (ok26 w0 hw k)) (dr w0 hw _ (ok26 w0 hw k)) (i := io42) (o := io4) (ps := []) (cuts := fun _ => slices_Index___string_string_.cuts w0 k) (m := 0) (g := fun v => slices_Index___string_string_ k v.1 v.2) Tryd.func97 (by kernel_rfl) slices_Index___string_string_.hb (fun _ => rfl) (fun _ => Nat.le_of_ble_eq_true rfl) (good_cuts (slices_Index___string_string_.a w0 k) ⟨fun f hf => by cases hf; exact slices_Index___string_string_.so5 w0 hw k, trivial⟩) (slices_Index___string_string_.e w0 k)
theorem ok27 (w0 : World) (hw : Wd w0) (k : Nat) : CfOk (cfg w0 (tab27 k)) := addTab_ok (ok26 w0 hw k) (slices_Index___string_string_.sim w0 hw k)
theorem slices_Contains___string_string_.a (w0 : World) (k : Nat) : cutsAt (fun n => (slices_Contains___string_string_.cuts w0 k n).isSome) slices_Contains___string_string_.body = [] := by kernel_rfl
theorem slices_Contains___string_string_.sim (w0 : World) (hw : Wd w0) (k : Nat) : ∀ v x, (fun v => slices_Contains___string_string_ k v.1 v.2) v = some x → Sim (cfg w0 (tab27 k)) 145 (io42.enc v).1 (io42.enc v).2 (io2.enc x).1 (io2.enc x).2 :=
  sim_of (c := (cfg w0 (tab27 k))) (fine w0 hw _ (ok27 w0 hw k)) (dr w0 hw _ (ok27 w0 hw k)) (i := io42) (o := io2) (ps := []) (cuts := fun _ => slices_Contains___string_string_.cuts w0 k) (m := 0) (g := fun v => slices_Contains___string_string_ k v.1 v.2) Tryd.func145 (by kernel_rfl) slices_Contains___string_string_.hb (fun _ => rfl) (fun _ => Nat.le_of_ble_eq_true rfl) (good_cuts (slices_Contains___string_string_.a w0 k) trivial) (slices_Contains___string_string_.e w0 k)
theorem ok28 (w0 : World) (hw : Wd w0) (k : Nat) : CfOk (cfg w0 (tab28 k)) := addTab_ok (ok27 w0 hw k) (slices_Contains___string_string_.sim w0 hw k)
theorem dim_Read.a (w0 : World) (k : Nat) : cutsAt (fun n => (dim_Read.cuts w0 k n).isSome) dim_Read.body = [] := by kernel_rfl
theorem dim_Read.sim (w0 : World) (hw : Wd w0) (k : Nat) : ∀ v x, (fun v => dim_Read k v) v = some x → Sim (cfg w0 (tab28 k)) 92 (io1.enc v).1 (io1.enc v).2 (io45.enc x).1 (io45.enc x).2 :=
  sim_of (c := (cfg w0 (tab28 k))) (fine w0 hw _ (ok28 w0 hw k)) (dr w0 hw _ (ok28 w0 hw k)) (i := io1) (o := io45) (ps := []) (cuts := fun _ => dim_Read.cuts w0 k) (m := 0) (g := fun v => dim_Read k v) Tryd.func92 (by kernel_rfl) dim_Read.hb (fun _ => rfl) (fun _ => Nat.le_of_ble_eq_true rfl) (good_cuts (dim_Read.a w0 k) trivial) (dim_Read.e w0 k)
theorem ok29 (w0 : World) (hw : Wd w0) (k : Nat) : CfOk (cfg w0 (tab29 k)) := addTab_ok (ok28 w0 hw k) (dim_Read.sim w0 hw k)
theorem calc_reader__made.a8 (w0 : World) (k : Nat) : cutsAt (fun n => (calc_reader__made.cuts w0 k n).isSome) calc_reader__made.b8 = [] := by kernel_rfl
theorem calc_reader__made.a (w0 : World) (k : Nat) : cutsAt (fun n => (calc_reader__made.cuts w0 k n).isSome) calc_reader__made.body = [(8, calc_reader__made.b8)] := by kernel_rfl
theorem calc_reader__made.so8 (w0 : World) (hw : Wd w0) (k : Nat) : Sound (cfg w0 (tab29 k)) Tryd.f93.ntmps 1 (calc_reader__made.kr w0 k) calc_reader__made.b8 (entK (cfg w0 (tab29 k)) 1 [3, 4] [] io48.pat (calc_reader__made.L8 k)) :=
  join_ok (fine w0 hw _ (ok29 w0 hw k)) (dr w0 hw _ (ok29 w0 hw k)) (good_cuts (calc_reader__made.a8 w0 k) trivial) io48.ok (xn := calc_reader__made.x8) (L := calc_reader__made.L8 k) (calc_reader__made.s8 w0 k)
theorem calc_reader__made.sim (w0 : World) (hw : Wd w0) (k : Nat) : ∀ v x, (fun v => calc_reader__made k v.1 v.2.1 v.2.2.1 v.2.2.2.1 v.2.2.2.2.1 v.2.2.2.2.2) v = some x → (x.1 = false → Sim (cfg w0 (tab29 k)) 93 (io46.enc v).1 (io46.enc v).2 (io47.enc x.2.2).1 (io47.enc x.2.2).2) ∧ (x.1 = true → SimP (cfg w0 (tab29 k)) 93 (io46.enc v).1 (io46.enc v).2 (pe88 x.2.1)) :=
  simP_of (c := (cfg w0 (tab29 k))) (fine w0 hw _ (ok29 w0 hw k)) (dr w0 hw _ (ok29 w0 hw k)) (i := io46) (o := io47) (hpe := pp88_ok) (hpv := pe88_pv) (dp := (0 : Int)) (dr := ((0 : Int), (0 : Int), [], [], (0 : Int), false)) (ps := []) (cuts := fun _ => calc_reader__made.cuts w0 k) (m := 1) (g := fun v => calc_reader__made k v.1 v.2.1 v.2.2.1 v.2.2.2.1 v.2.2.2.2.1 v.2.2.2.2.2) Tryd.func93 (by kernel_rfl) calc_reader__made.hb (fun _ => rfl) (fun _ => Nat.le_of_ble_eq_true rfl) (good_cuts (calc_reader__made.a w0 k) ⟨fun f hf => by cases hf; exact calc_reader__made.so8 w0 hw k, trivial⟩) (calc_reader__made.e w0 k)
theorem ok30 (w0 : World) (hw : Wd w0) (k : Nat) : CfOk (cfg w0 (tab30 k)) := addTabP_ok (ok29 w0 hw k) (calc_reader__made.sim w0 hw k)
theorem calc_reader__gap_v2.a5 (w0 : World) (k : Nat) : cutsAt (fun n => (calc_reader__gap_v2.cuts w0 k n).isSome) calc_reader__gap_v2.b5 = [] := by kernel_rfl
theorem calc_reader__gap_v2.a (w0 : World) (k : Nat) : cutsAt (fun n => (calc_reader__gap_v2.cuts w0 k n).isSome) calc_reader__gap_v2.body = [(5, Code.loop calc_reader__gap_v2.b5)] := by kernel_rfl
theorem calc_reader__gap_v2.so5 (w0 : World) (hw : Wd w0) (k : Nat) : Sound (cfg w0 (tab30 k)) Tryd.f51.ntmps 1 (calc_reader__gap_v2.kr w0 k) (.loop calc_reader__gap_v2.b5) (entK (cfg w0 (tab30 k)) 1 [0, 3] [] io51.pat (calc_reader__gap_v2.L5 k k)) :=
  loop_ok (fine w0 hw _ (ok30 w0 hw k)) (dr w0 hw _ (ok30 w0 hw k)) (good_cuts (calc_reader__gap_v2.a5 w0 k) trivial) io51.ok (xn := calc_reader__gap_v2.x5) (L := calc_reader__gap_v2.L5 k) (fun v K => rfl) (calc_reader__gap_v2.s5 w0 k) k
theorem calc_reader__gap_v2.sim (w0 : World) (hw : Wd w0) (k : Nat) : ∀ v x, (fun v => calc_reader__gap_v2 k v.1 v.2.1 v.2.2) v = some x → Sim (cfg w0 (tab30 k)) 51 (io49.enc v).1 (io49.enc v).2 (io50.enc x).1 (io50.enc x).2 :=
  sim_of (c := (cfg w0 (tab30 k))) (fine w0 hw _ (ok30 w0 hw k)) (dr w0 hw _ (ok30 w0 hw k)) (i := io49) (o := io50) (ps := []) (cuts := fun _ => calc_reader__gap_v2.cuts w0 k) (m := 1) (g := fun v => calc_reader__gap_v2 k v.1 v.2.1 v.2.2) Tryd.func51 (by kernel_rfl) calc_reader__gap_v2.hb (fun _ => rfl) (fun _ => Nat.le_of_ble_eq_true rfl) (good_cuts (calc_reader__gap_v2.a w0 k) ⟨fun f hf => by cases hf; exact calc_reader__gap_v2.so5 w0 hw k, trivial⟩) (calc_reader__gap_v2.e w0 k)
theorem ok31 (w0 : World) (hw : Wd w0) (k : Nat) : CfOk (cfg w0 (tab31 k)) := addTab_ok (ok30 w0 hw k) (calc_reader__gap_v2.sim w0 hw k)
theorem calc_lower.a7 (w0 : World) (k : Nat) : cutsAt (fun n => (calc_lower.cuts w0 k n).isSome) calc_lower.b7 = [] := by kernel_rfl
theorem calc_lower.a (w0 : World) (k : Nat) : cutsAt (fun n => (calc_lower.cuts w0 k n).isSome) calc_lower.body = [(7, Code.loop calc_lower.b7)] := by kernel_rfl
theorem calc_lower.so7 (w0 : World) (hw : Wd w0) (k : Nat) : Sound (cfg w0 (tab31 k)) Tryd.f96.ntmps 0 (calc_lower.kr w0 k) (.loop calc_lower.b7) (entK (cfg w0 (tab31 k)) 0 [3, 8, 9, 10] [] io27.pat (calc_lower.L7 k k)) :=
  loop_ok (fine w0 hw _ (ok31 w0 hw k)) (dr w0 hw _ (ok31 w0 hw k)) (good_cuts (calc_lower.a7 w0 k) trivial) io27.ok (xn := calc_lower.x7) (L := calc_lower.L7 k) (fun v K => rfl) (calc_lower.s7 w0 k) k
theorem calc_lower.sim (w0 : World) (hw : Wd w0) (k : Nat) : ∀ v x, (fun v => calc_lower k v) v = some x → Sim (cfg w0 (tab31 k)) 96 (io1.enc v).1 (io1.enc v).2 (io1.enc x).1 (io1.enc x).2 :=
  sim_of (c := (cfg w0 (tab31 k))) (fine w0 hw _ (ok31 w0 hw k)) (dr w0 hw _ (ok31 w0 hw k)) (i := io1) (o := io1) (ps := []) (cuts := fun _ => calc_lower.cuts w0 k) (m := 0) (g := fun v => calc_lower k v) Tryd.func96 (by kernel_rfl) calc_lower.hb (fun _ => rfl) (fun _ => Nat.le_of_ble_eq_true rfl) (good_cuts (calc_lower.a w0 k) ⟨fun f hf => by cases hf; exact calc_lower.so7 w0 hw k, trivial⟩) (calc_lower.e w0 k)
theorem ok32 (w0 : World) (hw : Wd w0) (k : Nat) : CfOk (cfg w0 (tab32 k)) := addTab_ok (ok31 w0 hw k) (calc_lower.sim w0 hw k)
theorem calc_reader__raw.a (w0 : World) (k : Nat) : cutsAt (fun n => (calc_reader__raw.cuts w0 k n).isSome) calc_reader__raw.body = [] := by kernel_rfl
theorem calc_reader__raw.sim (w0 : World) (hw : Wd w0) (k : Nat) : ∀ v x, (fun v => calc_reader__raw k v.1 v.2.1 v.2.2.1 v.2.2.2) v = some x → Sim (cfg w0 (tab32 k)) 95 (io52.enc v).1 (io52.enc v).2 (io50.enc x).1 (io50.enc x).2 :=
  sim_of (c := (cfg w0 (tab32 k))) (fine w0 hw _ (ok32 w0 hw k)) (dr w0 hw _ (ok32 w0 hw k)) (i := io52) (o := io50) (ps := []) (cuts := fun _ => calc_reader__raw.cuts w0 k) (m := 1) (g := fun v => calc_reader__raw k v.1 v.2.1 v.2.2.1 v.2.2.2) Tryd.func95 (by kernel_rfl) calc_reader__raw.hb (fun _ => rfl) (fun _ => Nat.le_of_ble_eq_true rfl) (good_cuts (calc_reader__raw.a w0 k) trivial) (calc_reader__raw.e w0 k)
theorem ok33 (w0 : World) (hw : Wd w0) (k : Nat) : CfOk (cfg w0 (tab33 k)) := addTab_ok (ok32 w0 hw k) (calc_reader__raw.sim w0 hw k)
theorem calc_reader__made_v2.a8 (w0 : World) (k : Nat) : cutsAt (fun n => (calc_reader__made_v2.cuts w0 k n).isSome) calc_reader__made_v2.b8 = [] := by kernel_rfl
theorem calc_reader__made_v2.a (w0 : World) (k : Nat) : cutsAt (fun n => (calc_reader__made_v2.cuts w0 k n).isSome) calc_reader__made_v2.body = [(8, calc_reader__made_v2.b8)] := by kernel_rfl
theorem calc_reader__made_v2.so8 (w0 : World) (hw : Wd w0) (k : Nat) : Sound (cfg w0 (tab33 k)) Tryd.f93.ntmps 2 (calc_reader__made_v2.kr w0 k) calc_reader__made_v2.b8 (entK (cfg w0 (tab33 k)) 2 [3, 4] [] io55.pat (calc_reader__made_v2.L8 k)) :=
  join_ok (fine w0 hw _ (ok33 w0 hw k)) (dr w0 hw _ (ok33 w0 hw k)) (good_cuts (calc_reader__made_v2.a8 w0 k) trivial) io55.ok (xn := calc_reader__made_v2.x8) (L := calc_reader__made_v2.L8 k) (calc_reader__made_v2.s8 w0 k)
theorem calc_reader__made_v2.sim (w0 : World) (hw : Wd w0) (k : Nat) : ∀ v x, (fun v => calc_reader__made_v2 k v.1 v.2.1 v.2.2.1 v.2.2.2.1 v.2.2.2.2.1 v.2.2.2.2.2.1 v.2.2.2.2.2.2) v = some x → (x.1 = false → Sim (cfg w0 (tab33 k)) 93 (io53.enc v).1 (io53.enc v).2 (io54.enc x.2.2).1 (io54.enc x.2.2).2) ∧ (x.1 = true → SimP (cfg w0 (tab33 k)) 93 (io53.enc v).1 (io53.enc v).2 (pe88 x.2.1)) :=
  simP_of (c := (cfg w0 (tab33 k))) (fine w0 hw _ (ok33 w0 hw k)) (dr w0 hw _ (ok33 w0 hw k)) (i := io53) (o := io54) (hpe := pp88_ok) (hpv := pe88_pv) (dp := (0 : Int)) (dr := ((0 : Int), (0 : Int), [], [], (0 : Int), false, [])) (ps := []) (cuts := fun _ => calc_reader__made_v2.cuts w0 k) (m := 2) (g := fun v => calc_reader__made_v2 k v.1 v.2.1 v.2.2.1 v.2.2.2.1 v.2.2.2.2.1 v.2.2.2.2.2.1 v.2.2.2.2.2.2) Tryd.func93 (by kernel_rfl) calc_reader__made_v2.hb (fun _ => rfl) (fun _ => Nat.le_of_ble_eq_true rfl) (good_cuts (calc_reader__made_v2.a w0 k) ⟨fun f hf => by cases hf; exact calc_reader__made_v2.so8 w0 hw k, trivial⟩) (calc_reader__made_v2.e w0 k)
theorem ok34 (w0 : World) (hw : Wd w0) (k : Nat) : CfOk (cfg w0 (tab34 k)) := addTabP_ok (ok33 w0 hw k) (calc_reader__made_v2.sim w0 hw k)
theorem calc_shaped.a (w0 : World) (k : Nat) : cutsAt (fun n => (calc_shaped.cuts w0 k n).isSome) calc_shaped.body = [] := by kernel_rfl
theorem calc_shaped.sim (w0 : World) (hw : Wd w0) (k : Nat) : ∀ v x, (fun v => calc_shaped k v.1 v.2.1 v.2.2.1 v.2.2.2) v = some x → Sim (cfg w0 (tab34 k)) 54 (io56.enc v).1 (io56.enc v).2 (io57.enc x).1 (io57.enc x).2 :=
  sim_of (c := (cfg w0 (tab34 k))) (fine w0 hw _ (ok34 w0 hw k)) (dr w0 hw _ (ok34 w0 hw k)) (i := io56) (o := io57) (ps := []) (cuts := fun _ => calc_shaped.cuts w0 k) (m := 1) (g := fun v => calc_shaped k v.1 v.2.1 v.2.2.1 v.2.2.2) Tryd.func54 (by kernel_rfl) calc_shaped.hb (fun _ => rfl) (fun _ => Nat.le_of_ble_eq_true rfl) (good_cuts (calc_shaped.a w0 k) trivial) (calc_shaped.e w0 k)
theorem ok35 (w0 : World) (hw : Wd w0) (k : Nat) : CfOk (cfg w0 (tab35 k)) := addTab_ok (ok34 w0 hw k) (calc_shaped.sim w0 hw k)
theorem calc_reader__product.a20 (w0 : World) (k : Nat) (r : calc_reader__value.G.R) : cutsAt (fun n => (calc_reader__product.cuts w0 k r n).isSome) calc_reader__product.b20 = [] := by kernel_rfl
theorem calc_reader__product.a7 (w0 : World) (k : Nat) (r : calc_reader__value.G.R) : cutsAt (fun n => (calc_reader__product.cuts w0 k r n).isSome) calc_reader__product.b7 = [(20, calc_reader__product.b20)] := by kernel_rfl
theorem calc_reader__product.a (w0 : World) (k : Nat) (r : calc_reader__value.G.R) : cutsAt (fun n => (calc_reader__product.cuts w0 k r n).isSome) calc_reader__product.body = [(7, Code.loop calc_reader__product.b7)] := by kernel_rfl
theorem calc_reader__product.so20 (w0 : World) (hw : Wd w0) (k : Nat) (r : calc_reader__value.G.R) (hr : CfOk (cfg w0 (calc_reader__value.G.tab k r))) : Sound (cfg w0 (calc_reader__value.G.tab k r)) Tryd.f146.ntmps 1 (calc_reader__product.kr w0 k r) calc_reader__product.b20 (entK (cfg w0 (calc_reader__value.G.tab k r)) 1 [0, 2, 3, 4] [] io59.pat (calc_reader__product.L20 k r)) :=
  join_ok (fine w0 hw _ hr) (dr w0 hw _ hr) (good_cuts (calc_reader__product.a20 w0 k r) trivial) io59.ok (xn := calc_reader__product.x20) (L := calc_reader__product.L20 k r) (calc_reader__product.s20 w0 k r)
theorem calc_reader__product.so7 (w0 : World) (hw : Wd w0) (k : Nat) (r : calc_reader__value.G.R) (hr : CfOk (cfg w0 (calc_reader__value.G.tab k r))) : Sound (cfg w0 (calc_reader__value.G.tab k r)) Tryd.f146.ntmps 1 (calc_reader__product.kr w0 k r) (.loop calc_reader__product.b7) (entK (cfg w0 (calc_reader__value.G.tab k r)) 1 [0, 2, 3] [.box 3 52] io61.pat (calc_reader__product.L7 k r k)) :=
  loop_ok (fine w0 hw _ hr) (dr w0 hw _ hr) (good_cuts (calc_reader__product.a7 w0 k r) ⟨fun f hf => by cases hf; exact calc_reader__product.so20 w0 hw k r hr, trivial⟩) io61.ok (xn := calc_reader__product.x7) (L := calc_reader__product.L7 k r) (fun v K => rfl) (calc_reader__product.s7 w0 k r) k
theorem calc_reader__product.simr (w0 : World) (hw : Wd w0) (k : Nat) (r : calc_reader__value.G.R) (hr : CfOk (cfg w0 (calc_reader__value.G.tab k r))) : ∀ v x, (fun v => calc_reader__product.nat k r v.1 v.2.1 v.2.2) v = some x → (x.1 = false → Sim (cfg w0 (calc_reader__value.G.tab k r)) 146 (io49.enc v).1 (io49.enc v).2 (io58.enc x.2.2).1 (io58.enc x.2.2).2) ∧ (x.1 = true → SimP (cfg w0 (calc_reader__value.G.tab k r)) 146 (io49.enc v).1 (io49.enc v).2 (pe88 x.2.1)) :=
  simP_of (c := (cfg w0 (calc_reader__value.G.tab k r))) (fine w0 hw _ hr) (dr w0 hw _ hr) (i := io49) (o := io58) (hpe := pp88_ok) (hpv := pe88_pv) (dp := (0 : Int)) (dr := ((0 : Int), (0 : Int), [], [], [], (0 : Int), false)) (ps := []) (cuts := fun _ => calc_reader__product.cuts w0 k r) (m := 1) (g := fun v => calc_reader__product.nat k r v.1 v.2.1 v.2.2) Tryd.func146 (by kernel_rfl) calc_reader__product.hb (fun _ => rfl) (fun _ => Nat.le_of_ble_eq_true rfl) (good_cuts (calc_reader__product.a w0 k r) ⟨fun f hf => by cases hf; exact calc_reader__product.so7 w0 hw k r hr, trivial⟩) (calc_reader__product.e w0 k r)
theorem calc_reader__sum.a18 (w0 : World) (k : Nat) (r : calc_reader__value.G.R) : cutsAt (fun n => (calc_reader__sum.cuts w0 k r n).isSome) calc_reader__sum.b18 = [] := by kernel_rfl
theorem calc_reader__sum.a5 (w0 : World) (k : Nat) (r : calc_reader__value.G.R) : cutsAt (fun n => (calc_reader__sum.cuts w0 k r n).isSome) calc_reader__sum.b5 = [(18, calc_reader__sum.b18)] := by kernel_rfl
theorem calc_reader__sum.a (w0 : World) (k : Nat) (r : calc_reader__value.G.R) : cutsAt (fun n => (calc_reader__sum.cuts w0 k r n).isSome) calc_reader__sum.body = [(5, Code.loop calc_reader__sum.b5)] := by kernel_rfl
theorem calc_reader__sum.so18 (w0 : World) (hw : Wd w0) (k : Nat) (r : calc_reader__value.G.R) (hr : CfOk (cfg w0 (calc_reader__value.G.tab k r))) : Sound (cfg w0 (calc_reader__value.G.tab k r)) Tryd.f94.ntmps 1 (calc_reader__sum.kr w0 k r) calc_reader__sum.b18 (entK (cfg w0 (calc_reader__value.G.tab k r)) 1 [0, 2, 3, 4, 5] [] io62.pat (calc_reader__sum.L18 k r)) :=
  join_ok (fine w0 hw _ hr) (dr w0 hw _ hr) (good_cuts (calc_reader__sum.a18 w0 k r) trivial) io62.ok (xn := calc_reader__sum.x18) (L := calc_reader__sum.L18 k r) (calc_reader__sum.s18 w0 k r)
theorem calc_reader__sum.so5 (w0 : World) (hw : Wd w0) (k : Nat) (r : calc_reader__value.G.R) (hr : CfOk (cfg w0 (calc_reader__value.G.tab k r))) : Sound (cfg w0 (calc_reader__value.G.tab k r)) Tryd.f94.ntmps 1 (calc_reader__sum.kr w0 k r) (.loop calc_reader__sum.b5) (entK (cfg w0 (calc_reader__value.G.tab k r)) 1 [0, 2, 3] [.box 3 52] io61.pat (calc_reader__sum.L5 k r k)) :=
  loop_ok (fine w0 hw _ hr) (dr w0 hw _ hr) (good_cuts (calc_reader__sum.a5 w0 k r) ⟨fun f hf => by cases hf; exact calc_reader__sum.so18 w0 hw k r hr, trivial⟩) io61.ok (xn := calc_reader__sum.x5) (L := calc_reader__sum.L5 k r) (fun v K => rfl) (calc_reader__sum.s5 w0 k r) k
theorem calc_reader__sum.simr (w0 : World) (hw : Wd w0) (k : Nat) (r : calc_reader__value.G.R) (hr : CfOk (cfg w0 (calc_reader__value.G.tab k r))) : ∀ v x, (fun v => calc_reader__sum.nat k r v.1 v.2.1 v.2.2) v = some x → (x.1 = false → Sim (cfg w0 (calc_reader__value.G.tab k r)) 94 (io49.enc v).1 (io49.enc v).2 (io58.enc x.2.2).1 (io58.enc x.2.2).2) ∧ (x.1 = true → SimP (cfg w0 (calc_reader__value.G.tab k r)) 94 (io49.enc v).1 (io49.enc v).2 (pe88 x.2.1)) :=
  simP_of (c := (cfg w0 (calc_reader__value.G.tab k r))) (fine w0 hw _ hr) (dr w0 hw _ hr) (i := io49) (o := io58) (hpe := pp88_ok) (hpv := pe88_pv) (dp := (0 : Int)) (dr := ((0 : Int), (0 : Int), [], [], [], (0 : Int), false)) (ps := []) (cuts := fun _ => calc_reader__sum.cuts w0 k r) (m := 1) (g := fun v => calc_reader__sum.nat k r v.1 v.2.1 v.2.2) Tryd.func94 (by kernel_rfl) calc_reader__sum.hb (fun _ => rfl) (fun _ => Nat.le_of_ble_eq_true rfl) (good_cuts (calc_reader__sum.a w0 k r) ⟨fun f hf => by cases hf; exact calc_reader__sum.so5 w0 hw k r hr, trivial⟩) (calc_reader__sum.e w0 k r)
theorem calc_reader__value.a43 (w0 : World) (k : Nat) (r : calc_reader__value.G.R) : cutsAt (fun n => (calc_reader__value.cuts w0 k r n).isSome) calc_reader__value.b43 = [] := by kernel_rfl
theorem calc_reader__value.a (w0 : World) (k : Nat) (r : calc_reader__value.G.R) : cutsAt (fun n => (calc_reader__value.cuts w0 k r n).isSome) calc_reader__value.body = [(43, Code.loop calc_reader__value.b43)] := by kernel_rfl
theorem calc_reader__value.so43 (w0 : World) (hw : Wd w0) (k : Nat) (r : calc_reader__value.G.R) (hr : CfOk (cfg w0 (calc_reader__value.G.tab k r))) : Sound (cfg w0 (calc_reader__value.G.tab k r)) Tryd.f52.ntmps 1 (calc_reader__value.kr w0 k r) (.loop calc_reader__value.b43) (entK (cfg w0 (calc_reader__value.G.tab k r)) 1 [0, 4, 12] [.cell 12 3 52] io60.pat (calc_reader__value.L43 k r k)) :=
  loop_ok (fine w0 hw _ hr) (dr w0 hw _ hr) (good_cuts (calc_reader__value.a43 w0 k r) trivial) io60.ok (xn := calc_reader__value.x43) (L := calc_reader__value.L43 k r) (fun v K => rfl) (calc_reader__value.s43 w0 k r) k
theorem calc_reader__value.simr (w0 : World) (hw : Wd w0) (k : Nat) (r : calc_reader__value.G.R) (hr : CfOk (cfg w0 (calc_reader__value.G.tab k r))) : ∀ v x, (fun v => calc_reader__value.nat k r v.1 v.2.1 v.2.2.1 v.2.2.2) v = some x → (x.1 = false → Sim (cfg w0 (calc_reader__value.G.tab k r)) 52 (io40.enc v).1 (io40.enc v).2 (io58.enc x.2.2).1 (io58.enc x.2.2).2) ∧ (x.1 = true → SimP (cfg w0 (calc_reader__value.G.tab k r)) 52 (io40.enc v).1 (io40.enc v).2 (pe88 x.2.1)) :=
  simP_of (c := (cfg w0 (calc_reader__value.G.tab k r))) (fine w0 hw _ hr) (dr w0 hw _ hr) (i := io40) (o := io58) (hpe := pp88_ok) (hpv := pe88_pv) (dp := (0 : Int)) (dr := ((0 : Int), (0 : Int), [], [], [], (0 : Int), false)) (ps := [.agg 0 52]) (cuts := fun _ => calc_reader__value.cuts w0 k r) (m := 1) (g := fun v => calc_reader__value.nat k r v.1 v.2.1 v.2.2.1 v.2.2.2) Tryd.func52 (by kernel_rfl) calc_reader__value.hb (fun _ => rfl) (fun _ => Nat.le_of_ble_eq_true rfl) (good_cuts (calc_reader__value.a w0 k r) ⟨fun f hf => by cases hf; exact calc_reader__value.so43 w0 hw k r hr, trivial⟩) (calc_reader__value.e w0 k r)
theorem calc_reader__value.G.tab_ok (w0 : World) (k : Nat) (r : calc_reader__value.G.R) (h0 : CfOk (cfg w0 (tab35 k))) (h_calc_reader__product : ∀ v x, (fun v => r.calc_reader__product v.1 v.2.1 v.2.2) v = some x → (x.1 = false → Sim (cfg w0 (tab35 k)) 146 (io49.enc v).1 (io49.enc v).2 (io58.enc x.2.2).1 (io58.enc x.2.2).2) ∧ (x.1 = true → SimP (cfg w0 (tab35 k)) 146 (io49.enc v).1 (io49.enc v).2 (pe88 x.2.1))) (h_calc_reader__sum : ∀ v x, (fun v => r.calc_reader__sum v.1 v.2.1 v.2.2) v = some x → (x.1 = false → Sim (cfg w0 (tab35 k)) 94 (io49.enc v).1 (io49.enc v).2 (io58.enc x.2.2).1 (io58.enc x.2.2).2) ∧ (x.1 = true → SimP (cfg w0 (tab35 k)) 94 (io49.enc v).1 (io49.enc v).2 (pe88 x.2.1))) (h_calc_reader__value : ∀ v x, (fun v => r.calc_reader__value v.1 v.2.1 v.2.2.1 v.2.2.2) v = some x → (x.1 = false → Sim (cfg w0 (tab35 k)) 52 (io40.enc v).1 (io40.enc v).2 (io58.enc x.2.2).1 (io58.enc x.2.2).2) ∧ (x.1 = true → SimP (cfg w0 (tab35 k)) 52 (io40.enc v).1 (io40.enc v).2 (pe88 x.2.1))) : CfOk (cfg w0 (calc_reader__value.G.tab k r)) :=
  addTabP_ok (addTabP_ok (addTabP_ok (h0) (fun v x h => simP_cf (h_calc_reader__product v x h))) (fun v x h => simP_cf (h_calc_reader__sum v x h))) (fun v x h => simP_cf (h_calc_reader__value v x h))
theorem calc_reader__product.z (k : Nat) : ∀ v : (List S106) × Int × Bool, (fun v : (List S106) × Int × Bool => (calc_reader__value.G.rec k 0).calc_reader__product v.1 v.2.1 v.2.2) v = none := fun v => rfl
theorem calc_reader__product.u (k n : Nat) : ∀ v : (List S106) × Int × Bool, (fun v : (List S106) × Int × Bool => (calc_reader__value.G.rec k (n + 1)).calc_reader__product v.1 v.2.1 v.2.2) v = (fun v : (List S106) × Int × Bool => calc_reader__product.nat k (calc_reader__value.G.rec k n) v.1 v.2.1 v.2.2) v := fun v => rfl
theorem calc_reader__sum.z (k : Nat) : ∀ v : (List S106) × Int × Bool, (fun v : (List S106) × Int × Bool => (calc_reader__value.G.rec k 0).calc_reader__sum v.1 v.2.1 v.2.2) v = none := fun v => rfl
theorem calc_reader__sum.u (k n : Nat) : ∀ v : (List S106) × Int × Bool, (fun v : (List S106) × Int × Bool => (calc_reader__value.G.rec k (n + 1)).calc_reader__sum v.1 v.2.1 v.2.2) v = (fun v : (List S106) × Int × Bool => calc_reader__sum.nat k (calc_reader__value.G.rec k n) v.1 v.2.1 v.2.2) v := fun v => rfl
theorem calc_reader__value.z (k : Nat) : ∀ v : Bool × (List S106) × Int × Bool, (fun v : Bool × (List S106) × Int × Bool => (calc_reader__value.G.rec k 0).calc_reader__value v.1 v.2.1 v.2.2.1 v.2.2.2) v = none := fun v => rfl
theorem calc_reader__value.u (k n : Nat) : ∀ v : Bool × (List S106) × Int × Bool, (fun v : Bool × (List S106) × Int × Bool => (calc_reader__value.G.rec k (n + 1)).calc_reader__value v.1 v.2.1 v.2.2.1 v.2.2.2) v = (fun v : Bool × (List S106) × Int × Bool => calc_reader__value.nat k (calc_reader__value.G.rec k n) v.1 v.2.1 v.2.2.1 v.2.2.2) v := fun v => rfl
theorem calc_reader__value.G.ok (w0 : World) (hw : Wd w0) (k : Nat) : ∀ n, CfOk (cfg w0 (calc_reader__value.G.tab k (calc_reader__value.G.rec k n)))
  | 0 => calc_reader__value.G.tab_ok w0 k _ (ok35 w0 hw k) (fun v x h => by rw [calc_reader__product.z k v] at h; cases h) (fun v x h => by rw [calc_reader__sum.z k v] at h; cases h) (fun v x h => by rw [calc_reader__value.z k v] at h; cases h)
  | n + 1 => calc_reader__value.G.tab_ok w0 k _ (ok35 w0 hw k) (fun v x h => simP_cf (calc_reader__product.simr w0 hw k _ (calc_reader__value.G.ok w0 hw k n) v x ((calc_reader__product.u k n v).symm.trans h))) (fun v x h => simP_cf (calc_reader__sum.simr w0 hw k _ (calc_reader__value.G.ok w0 hw k n) v x ((calc_reader__sum.u k n v).symm.trans h))) (fun v x h => simP_cf (calc_reader__value.simr w0 hw k _ (calc_reader__value.G.ok w0 hw k n) v x ((calc_reader__value.u k n v).symm.trans h)))
theorem ok36 (w0 : World) (hw : Wd w0) (k : Nat) : CfOk (cfg w0 (tab36 k)) := calc_reader__value.G.ok w0 hw k k
theorem calc_Read.sim (w0 : World) (hw : Wd w0) (k : Nat) : ∀ v x, (fun v => calc_Read k v) v = some x → Sim (cfg w0 (tab36 k)) 25 (io1.enc v).1 (io1.enc v).2 (io63.enc x).1 (io63.enc x).2 := by
  intro v x h
  rw [calc_Read.e w0 k v] at h
  exact fn_defer (c := (cfg w0 (tab36 k))) (fine w0 hw _ (ok36 w0 hw k)) (dr w0 hw _ (ok36 w0 hw k)) Tryd.func25 (by kernel_rfl) (Nat.le_of_ble_eq_true rfl) ⟨_, Tryd.func50, by kernel_rfl, by kernel_rfl⟩ calc_Read.hb io63.ok (idle50 w0 hw _ (ok36 w0 hw k)) (cat50 w0 hw _ (ok36 w0 hw k)) h (Nat.le_of_ble_eq_true rfl)
theorem ok37 (w0 : World) (hw : Wd w0) (k : Nat) : CfOk (cfg w0 (tab37 k)) := addTab_ok (ok36 w0 hw k) (calc_Read.sim w0 hw k)
theorem calc_shaped_v2.a (w0 : World) (k : Nat) : cutsAt (fun n => (calc_shaped_v2.cuts w0 k n).isSome) calc_shaped_v2.body = [] := by kernel_rfl
theorem calc_shaped_v2.sim (w0 : World) (hw : Wd w0) (k : Nat) : ∀ v x, (fun v => calc_shaped_v2 k v.1 v.2.1 v.2.2.1 v.2.2.2) v = some x → Sim (cfg w0 (tab37 k)) 54 (io64.enc v).1 (io64.enc v).2 (io2.enc x).1 (io2.enc x).2 :=
  sim_of (c := (cfg w0 (tab37 k))) (fine w0 hw _ (ok37 w0 hw k)) (dr w0 hw _ (ok37 w0 hw k)) (i := io64) (o := io2) (ps := []) (cuts := fun _ => calc_shaped_v2.cuts w0 k) (m := 0) (g := fun v => calc_shaped_v2 k v.1 v.2.1 v.2.2.1 v.2.2.2) Tryd.func54 (by kernel_rfl) calc_shaped_v2.hb (fun _ => rfl) (fun _ => Nat.le_of_ble_eq_true rfl) (good_cuts (calc_shaped_v2.a w0 k) trivial) (calc_shaped_v2.e w0 k)
theorem ok38 (w0 : World) (hw : Wd w0) (k : Nat) : CfOk (cfg w0 (tab38 k)) := addTab_ok (ok37 w0 hw k) (calc_shaped_v2.sim w0 hw k)
theorem strconv_Itoa.sim (w0 : World) (hw : Wd w0) (k : Nat) : ∀ v x, (fun v => strconv_Itoa k v) v = some x → Sim (cfg w0 (tab38 k)) 79 (io4.enc v).1 (io4.enc v).2 (io1.enc x).1 (io1.enc x).2 := by
  intro v x h; exact sim_itoa (c := cfg w0 (tab38 k)) (ρ := Sh.ren171) Sh.l171 hw.pw h
theorem ok39 (w0 : World) (hw : Wd w0) (k : Nat) : CfOk (cfg w0 (tab39 k)) := addTab_ok (ok38 w0 hw k) (strconv_Itoa.sim w0 hw k)
theorem strings_TrimRight.sim (w0 : World) (hw : Wd w0) (k : Nat) : ∀ v x, (fun v => strings_TrimRight k v.1 v.2) v = some x → Sim (cfg w0 (tab39 k)) 98 (io0.enc v).1 (io0.enc v).2 (io1.enc x).1 (io1.enc x).2 := by
  intro v x h; exact sim_trimR (c := cfg w0 (tab39 k)) (ρ := Sh.ren162) Sh.l162 (by kernel_rfl) h
theorem ok40 (w0 : World) (hw : Wd w0) (k : Nat) : CfOk (cfg w0 (tab40 k)) := addTab_ok (ok39 w0 hw k) (strings_TrimRight.sim w0 hw k)
theorem dim_Text.a18 (w0 : World) (k : Nat) : cutsAt (fun n => (dim_Text.cuts w0 k n).isSome) dim_Text.b18 = [] := by kernel_rfl
theorem dim_Text.a10 (w0 : World) (k : Nat) : cutsAt (fun n => (dim_Text.cuts w0 k n).isSome) dim_Text.b10 = [(18, dim_Text.b18)] := by kernel_rfl
theorem dim_Text.a (w0 : World) (k : Nat) : cutsAt (fun n => (dim_Text.cuts w0 k n).isSome) dim_Text.body = [(10, dim_Text.b10)] := by kernel_rfl
theorem dim_Text.so18 (w0 : World) (hw : Wd w0) (k : Nat) : Sound (cfg w0 (tab40 k)) Tryd.f55.ntmps 0 (dim_Text.kr w0 k) dim_Text.b18 (entK (cfg w0 (tab40 k)) 0 [1, 5] [] io66.pat (dim_Text.L18 k)) :=
  join_ok (fine w0 hw _ (ok40 w0 hw k)) (dr w0 hw _ (ok40 w0 hw k)) (good_cuts (dim_Text.a18 w0 k) trivial) io66.ok (xn := dim_Text.x18) (L := dim_Text.L18 k) (dim_Text.s18 w0 k)
theorem dim_Text.so10 (w0 : World) (hw : Wd w0) (k : Nat) : Sound (cfg w0 (tab40 k)) Tryd.f55.ntmps 0 (dim_Text.kr w0 k) dim_Text.b10 (entK (cfg w0 (tab40 k)) 0 [1, 3, 4] [] io67.pat (dim_Text.L10 k)) :=
  join_ok (fine w0 hw _ (ok40 w0 hw k)) (dr w0 hw _ (ok40 w0 hw k)) (good_cuts (dim_Text.a10 w0 k) ⟨fun f hf => by cases hf; exact dim_Text.so18 w0 hw k, trivial⟩) io67.ok (xn := dim_Text.x10) (L := dim_Text.L10 k) (dim_Text.s10 w0 k)
theorem dim_Text.sim (w0 : World) (hw : Wd w0) (k : Nat) : ∀ v x, (fun v => dim_Text k v.1 v.2) v = some x → Sim (cfg w0 (tab40 k)) 55 (io65.enc v).1 (io65.enc v).2 (io1.enc x).1 (io1.enc x).2 :=
  sim_of (c := (cfg w0 (tab40 k))) (fine w0 hw _ (ok40 w0 hw k)) (dr w0 hw _ (ok40 w0 hw k)) (i := io65) (o := io1) (ps := []) (cuts := fun _ => dim_Text.cuts w0 k) (m := 0) (g := fun v => dim_Text k v.1 v.2) Tryd.func55 (by kernel_rfl) dim_Text.hb (fun _ => rfl) (fun _ => Nat.le_of_ble_eq_true rfl) (good_cuts (dim_Text.a w0 k) ⟨fun f hf => by cases hf; exact dim_Text.so10 w0 hw k, trivial⟩) (dim_Text.e w0 k)
theorem ok41 (w0 : World) (hw : Wd w0) (k : Nat) : CfOk (cfg w0 (tab41 k)) := addTab_ok (ok40 w0 hw k) (dim_Text.sim w0 hw k)
theorem calc_word.a (w0 : World) (k : Nat) : cutsAt (fun n => (calc_word.cuts w0 k n).isSome) calc_word.body = [] := by kernel_rfl
theorem calc_word.sim (w0 : World) (hw : Wd w0) (k : Nat) : ∀ v x, (fun v => calc_word k v) v = some x → Sim (cfg w0 (tab41 k)) 56 (io4.enc v).1 (io4.enc v).2 (io1.enc x).1 (io1.enc x).2 :=
  sim_of (c := (cfg w0 (tab41 k))) (fine w0 hw _ (ok41 w0 hw k)) (dr w0 hw _ (ok41 w0 hw k)) (i := io4) (o := io1) (ps := []) (cuts := fun _ => calc_word.cuts w0 k) (m := 0) (g := fun v => calc_word k v) Tryd.func56 (by kernel_rfl) calc_word.hb (fun _ => rfl) (fun _ => Nat.le_of_ble_eq_true rfl) (good_cuts (calc_word.a w0 k) trivial) (calc_word.e w0 k)
theorem ok42 (w0 : World) (hw : Wd w0) (k : Nat) : CfOk (cfg w0 (tab42 k)) := addTab_ok (ok41 w0 hw k) (calc_word.sim w0 hw k)
theorem calc_sign.a (w0 : World) (k : Nat) : cutsAt (fun n => (calc_sign.cuts w0 k n).isSome) calc_sign.body = [] := by kernel_rfl
theorem calc_sign.sim (w0 : World) (hw : Wd w0) (k : Nat) : ∀ v x, (fun v => calc_sign k v) v = some x → Sim (cfg w0 (tab42 k)) 58 (io4.enc v).1 (io4.enc v).2 (io1.enc x).1 (io1.enc x).2 :=
  sim_of (c := (cfg w0 (tab42 k))) (fine w0 hw _ (ok42 w0 hw k)) (dr w0 hw _ (ok42 w0 hw k)) (i := io4) (o := io1) (ps := []) (cuts := fun _ => calc_sign.cuts w0 k) (m := 0) (g := fun v => calc_sign k v) Tryd.func58 (by kernel_rfl) calc_sign.hb (fun _ => rfl) (fun _ => Nat.le_of_ble_eq_true rfl) (good_cuts (calc_sign.a w0 k) trivial) (calc_sign.e w0 k)
theorem ok43 (w0 : World) (hw : Wd w0) (k : Nat) : CfOk (cfg w0 (tab43 k)) := addTab_ok (ok42 w0 hw k) (calc_sign.sim w0 hw k)
theorem f__strings_Builder__Grow.sim (w0 : World) (hw : Wd w0) (k : Nat) : ∀ v x, (fun v => f__strings_Builder__Grow k v.1 v.2) v = some x → Sim (cfg w0 (tab43 k)) 82 (io15.enc v).1 (io15.enc v).2 (io68.enc x).1 (io68.enc x).2 := by
  intro v x h; exact sim_grow (c := cfg w0 (tab43 k)) (ρ := Sh.blr) Sh.bl Sh.l241 Sh.fGrow Sh.ext rfl rfl h
theorem ok44 (w0 : World) (hw : Wd w0) (k : Nat) : CfOk (cfg w0 (tab44 k)) := addTab_ok (ok43 w0 hw k) (f__strings_Builder__Grow.sim w0 hw k)
theorem strings_Join.a20 (w0 : World) (k : Nat) : cutsAt (fun n => (strings_Join.cuts w0 k n).isSome) strings_Join.b20 = [] := by kernel_rfl
theorem strings_Join.a25 (w0 : World) (k : Nat) : cutsAt (fun n => (strings_Join.cuts w0 k n).isSome) strings_Join.b25 = [] := by kernel_rfl
theorem strings_Join.a22 (w0 : World) (k : Nat) : cutsAt (fun n => (strings_Join.cuts w0 k n).isSome) strings_Join.b22 = [(25, Code.loop strings_Join.b25)] := by kernel_rfl
theorem strings_Join.a (w0 : World) (k : Nat) : cutsAt (fun n => (strings_Join.cuts w0 k n).isSome) strings_Join.body = [(20, strings_Join.b20), (22, strings_Join.b22)] := by kernel_rfl
theorem strings_Join.so20 (w0 : World) (hw : Wd w0) (k : Nat) : Sound (cfg w0 (tab44 k)) Tryd.f57.ntmps 0 (strings_Join.kr w0 k) strings_Join.b20 (entK (cfg w0 (tab44 k)) 0 [0, 1, 5] [] io70.pat (strings_Join.L20 k)) :=
  join_ok (fine w0 hw _ (ok44 w0 hw k)) (dr w0 hw _ (ok44 w0 hw k)) (good_cuts (strings_Join.a20 w0 k) trivial) io70.ok (xn := strings_Join.x20) (L := strings_Join.L20 k) (strings_Join.s20 w0 k)
theorem strings_Join.so25 (w0 : World) (hw : Wd w0) (k : Nat) : Sound (cfg w0 (tab44 k)) Tryd.f57.ntmps 0 (strings_Join.kr w0 k) (.loop strings_Join.b25) (entK (cfg w0 (tab44 k)) 0 [0, 1, 5, 39, 40, 41] [] io71.pat (strings_Join.L25 k k)) :=
  loop_ok (fine w0 hw _ (ok44 w0 hw k)) (dr w0 hw _ (ok44 w0 hw k)) (good_cuts (strings_Join.a25 w0 k) trivial) io71.ok (xn := strings_Join.x25) (L := strings_Join.L25 k) (fun v K => rfl) (strings_Join.s25 w0 k) k
theorem strings_Join.so22 (w0 : World) (hw : Wd w0) (k : Nat) : Sound (cfg w0 (tab44 k)) Tryd.f57.ntmps 0 (strings_Join.kr w0 k) strings_Join.b22 (entK (cfg w0 (tab44 k)) 0 [0, 1, 5] [] io70.pat (strings_Join.L22 k)) :=
  join_ok (fine w0 hw _ (ok44 w0 hw k)) (dr w0 hw _ (ok44 w0 hw k)) (good_cuts (strings_Join.a22 w0 k) ⟨fun f hf => by cases hf; exact strings_Join.so25 w0 hw k, trivial⟩) io70.ok (xn := strings_Join.x22) (L := strings_Join.L22 k) (strings_Join.s22 w0 k)
theorem strings_Join.sim (w0 : World) (hw : Wd w0) (k : Nat) : ∀ v x, (fun v => strings_Join k v) v = some x → Sim (cfg w0 (tab44 k)) 57 (io69.enc v).1 (io69.enc v).2 (io1.enc x).1 (io1.enc x).2 :=
  sim_of (c := (cfg w0 (tab44 k))) (fine w0 hw _ (ok44 w0 hw k)) (dr w0 hw _ (ok44 w0 hw k)) (i := io69) (o := io1) (ps := []) (cuts := fun _ => strings_Join.cuts w0 k) (m := 0) (g := fun v => strings_Join k v) Tryd.func57 (by kernel_rfl) strings_Join.hb (fun _ => rfl) (fun _ => Nat.le_of_ble_eq_true rfl) (good_cuts (strings_Join.a w0 k) ⟨fun f hf => by cases hf; exact strings_Join.so20 w0 hw k, fun f hf => by cases hf; exact strings_Join.so22 w0 hw k, trivial⟩) (strings_Join.e w0 k)
theorem ok45 (w0 : World) (hw : Wd w0) (k : Nat) : CfOk (cfg w0 (tab45 k)) := addTab_ok (ok44 w0 hw k) (strings_Join.sim w0 hw k)
theorem f__strings_Builder__WriteString.sim (w0 : World) (hw : Wd w0) (k : Nat) : ∀ v x, (fun v => f__strings_Builder__WriteString k v.1 v.2) v = some x → Sim (cfg w0 (tab45 k)) 83 (io72.enc v).1 (io72.enc v).2 (io73.enc x).1 (io73.enc x).2 := by
  intro v x h; obtain ⟨s, hs, rfl⟩ := Option.map_eq_some_iff.1 h; exact sim_wStr (c := cfg w0 (tab45 k)) (ρ := Sh.blr) Sh.bl Sh.fWriteString Sh.ext rfl rfl hs
theorem ok46 (w0 : World) (hw : Wd w0) (k : Nat) : CfOk (cfg w0 (tab46 k)) := addTab_ok (ok45 w0 hw k) (f__strings_Builder__WriteString.sim w0 hw k)
theorem strings_Join_v2.a20 (w0 : World) (k : Nat) : cutsAt (fun n => (strings_Join_v2.cuts w0 k n).isSome) strings_Join_v2.b20 = [] := by kernel_rfl
theorem strings_Join_v2.a32 (w0 : World) (k : Nat) : cutsAt (fun n => (strings_Join_v2.cuts w0 k n).isSome) strings_Join_v2.b32 = [] := by kernel_rfl
theorem strings_Join_v2.a25 (w0 : World) (k : Nat) : cutsAt (fun n => (strings_Join_v2.cuts w0 k n).isSome) strings_Join_v2.b25 = [(32, strings_Join_v2.b32)] := by kernel_rfl
theorem strings_Join_v2.a45 (w0 : World) (k : Nat) : cutsAt (fun n => (strings_Join_v2.cuts w0 k n).isSome) strings_Join_v2.b45 = [] := by kernel_rfl
theorem strings_Join_v2.a22 (w0 : World) (k : Nat) : cutsAt (fun n => (strings_Join_v2.cuts w0 k n).isSome) strings_Join_v2.b22 = [(25, Code.loop strings_Join_v2.b25), (45, Code.loop strings_Join_v2.b45)] := by kernel_rfl
theorem strings_Join_v2.a (w0 : World) (k : Nat) : cutsAt (fun n => (strings_Join_v2.cuts w0 k n).isSome) strings_Join_v2.body = [(20, strings_Join_v2.b20), (22, strings_Join_v2.b22)] := by kernel_rfl
theorem strings_Join_v2.so20 (w0 : World) (hw : Wd w0) (k : Nat) : Sound (cfg w0 (tab46 k)) Tryd.f57.ntmps 0 (strings_Join_v2.kr w0 k) strings_Join_v2.b20 (entK (cfg w0 (tab46 k)) 0 [0, 1, 5] [] io74.pat (strings_Join_v2.L20 k)) :=
  join_ok (fine w0 hw _ (ok46 w0 hw k)) (dr w0 hw _ (ok46 w0 hw k)) (good_cuts (strings_Join_v2.a20 w0 k) trivial) io74.ok (xn := strings_Join_v2.x20) (L := strings_Join_v2.L20 k) (strings_Join_v2.s20 w0 k)
theorem strings_Join_v2.so32 (w0 : World) (hw : Wd w0) (k : Nat) : Sound (cfg w0 (tab46 k)) Tryd.f57.ntmps 0 (strings_Join_v2.kr w0 k) strings_Join_v2.b32 (entK (cfg w0 (tab46 k)) 0 [0, 1, 5, 7, 39, 40, 41] [] io75.pat (strings_Join_v2.L32 k)) :=
  join_ok (fine w0 hw _ (ok46 w0 hw k)) (dr w0 hw _ (ok46 w0 hw k)) (good_cuts (strings_Join_v2.a32 w0 k) trivial) io75.ok (xn := strings_Join_v2.x32) (L := strings_Join_v2.L32 k) (strings_Join_v2.s32 w0 k)
theorem strings_Join_v2.so25 (w0 : World) (hw : Wd w0) (k : Nat) : Sound (cfg w0 (tab46 k)) Tryd.f57.ntmps 0 (strings_Join_v2.kr w0 k) (.loop strings_Join_v2.b25) (entK (cfg w0 (tab46 k)) 0 [0, 1, 5, 39, 40, 41] [] io76.pat (strings_Join_v2.L25 k k)) :=
  loop_ok (fine w0 hw _ (ok46 w0 hw k)) (dr w0 hw _ (ok46 w0 hw k)) (good_cuts (strings_Join_v2.a25 w0 k) ⟨fun f hf => by cases hf; exact strings_Join_v2.so32 w0 hw k, trivial⟩) io76.ok (xn := strings_Join_v2.x25) (L := strings_Join_v2.L25 k) (fun v K => rfl) (strings_Join_v2.s25 w0 k) k
theorem strings_Join_v2.so45 (w0 : World) (hw : Wd w0) (k : Nat) : Sound (cfg w0 (tab46 k)) Tryd.f57.ntmps 0 (strings_Join_v2.kr w0 k) (.loop strings_Join_v2.b45) (entK (cfg w0 (tab46 k)) 0 [1, 8, 63, 64, 65] [] io77.pat (strings_Join_v2.L45 k k)) :=
  loop_ok (fine w0 hw _ (ok46 w0 hw k)) (dr w0 hw _ (ok46 w0 hw k)) (good_cuts (strings_Join_v2.a45 w0 k) trivial) io77.ok (xn := strings_Join_v2.x45) (L := strings_Join_v2.L45 k) (fun v K => rfl) (strings_Join_v2.s45 w0 k) k
theorem strings_Join_v2.so22 (w0 : World) (hw : Wd w0) (k : Nat) : Sound (cfg w0 (tab46 k)) Tryd.f57.ntmps 0 (strings_Join_v2.kr w0 k) strings_Join_v2.b22 (entK (cfg w0 (tab46 k)) 0 [0, 1, 5] [] io74.pat (strings_Join_v2.L22 k)) :=
  join_ok (fine w0 hw _ (ok46 w0 hw k)) (dr w0 hw _ (ok46 w0 hw k)) (good_cuts (strings_Join_v2.a22 w0 k) ⟨fun f hf => by cases hf; exact strings_Join_v2.so25 w0 hw k, fun f hf => by cases hf; exact strings_Join_v2.so45 w0 hw k, trivial⟩) io74.ok (xn := strings_Join_v2.x22) (L := strings_Join_v2.L22 k) (strings_Join_v2.s22 w0 k)
theorem strings_Join_v2.sim (w0 : World) (hw : Wd w0) (k : Nat) : ∀ v x, (fun v => strings_Join_v2 k v.1 v.2) v = some x → Sim (cfg w0 (tab46 k)) 57 (io42.enc v).1 (io42.enc v).2 (io1.enc x).1 (io1.enc x).2 :=
  sim_of (c := (cfg w0 (tab46 k))) (fine w0 hw _ (ok46 w0 hw k)) (dr w0 hw _ (ok46 w0 hw k)) (i := io42) (o := io1) (ps := []) (cuts := fun _ => strings_Join_v2.cuts w0 k) (m := 0) (g := fun v => strings_Join_v2 k v.1 v.2) Tryd.func57 (by kernel_rfl) strings_Join_v2.hb (fun _ => rfl) (fun _ => Nat.le_of_ble_eq_true rfl) (good_cuts (strings_Join_v2.a w0 k) ⟨fun f hf => by cases hf; exact strings_Join_v2.so20 w0 hw k, fun f hf => by cases hf; exact strings_Join_v2.so22 w0 hw k, trivial⟩) (strings_Join_v2.e w0 k)
theorem ok47 (w0 : World) (hw : Wd w0) (k : Nat) : CfOk (cfg w0 (tab47 k)) := addTab_ok (ok46 w0 hw k) (strings_Join_v2.sim w0 hw k)
theorem calc_Text.a15 (w0 : World) (k : Nat) (r : calc_Text.G.R) : cutsAt (fun n => (calc_Text.cuts w0 k r n).isSome) calc_Text.b15 = [] := by kernel_rfl
theorem calc_Text.a (w0 : World) (k : Nat) (r : calc_Text.G.R) : cutsAt (fun n => (calc_Text.cuts w0 k r n).isSome) calc_Text.body = [(15, Code.loop calc_Text.b15)] := by kernel_rfl
theorem calc_Text.so15 (w0 : World) (hw : Wd w0) (k : Nat) (r : calc_Text.G.R) (hr : CfOk (cfg w0 (calc_Text.G.tab k r))) : Sound (cfg w0 (calc_Text.G.tab k r)) Tryd.f27.ntmps 0 (calc_Text.kr w0 k r) (.loop calc_Text.b15) (entK (cfg w0 (calc_Text.G.tab k r)) 0 [1, 3, 16, 17, 18] [.own 3 9] io78.pat (calc_Text.L15 k r k)) :=
  loop_ok (fine w0 hw _ hr) (dr w0 hw _ hr) (good_cuts (calc_Text.a15 w0 k r) trivial) io78.ok (xn := calc_Text.x15) (L := calc_Text.L15 k r) (fun v K => rfl) (calc_Text.s15 w0 k r) k
theorem calc_Text.simr (w0 : World) (hw : Wd w0) (k : Nat) (r : calc_Text.G.R) (hr : CfOk (cfg w0 (calc_Text.G.tab k r))) : ∀ v x, (fun v => calc_Text.nat k r v.1 v.2.1 v.2.2.1 v.2.2.2) v = some x → Sim (cfg w0 (calc_Text.G.tab k r)) 27 (io64.enc v).1 (io64.enc v).2 (io1.enc x).1 (io1.enc x).2 :=
  sim_of (c := (cfg w0 (calc_Text.G.tab k r))) (fine w0 hw _ hr) (dr w0 hw _ hr) (i := io64) (o := io1) (ps := []) (cuts := fun _ => calc_Text.cuts w0 k r) (m := 0) (g := fun v => calc_Text.nat k r v.1 v.2.1 v.2.2.1 v.2.2.2) Tryd.func27 (by kernel_rfl) calc_Text.hb (fun _ => rfl) (fun _ => Nat.le_of_ble_eq_true rfl) (good_cuts (calc_Text.a w0 k r) ⟨fun f hf => by cases hf; exact calc_Text.so15 w0 hw k r hr, trivial⟩) (calc_Text.e w0 k r)
theorem calc_Text.G.tab_ok (w0 : World) (k : Nat) (r : calc_Text.G.R) (h0 : CfOk (cfg w0 (tab47 k))) (h_calc_Text : ∀ v x, (fun v => r.calc_Text v.1 v.2.1 v.2.2.1 v.2.2.2) v = some x → Sim (cfg w0 (tab47 k)) 27 (io64.enc v).1 (io64.enc v).2 (io1.enc x).1 (io1.enc x).2) : CfOk (cfg w0 (calc_Text.G.tab k r)) :=
  addTab_ok (h0) (fun v x h => sim_cf (h_calc_Text v x h))
theorem calc_Text.z (k : Nat) : ∀ v : Int × Int × (List UInt8) × (List S52), (fun v : Int × Int × (List UInt8) × (List S52) => (calc_Text.G.rec k 0).calc_Text v.1 v.2.1 v.2.2.1 v.2.2.2) v = none := fun v => rfl
theorem calc_Text.u (k n : Nat) : ∀ v : Int × Int × (List UInt8) × (List S52), (fun v : Int × Int × (List UInt8) × (List S52) => (calc_Text.G.rec k (n + 1)).calc_Text v.1 v.2.1 v.2.2.1 v.2.2.2) v = (fun v : Int × Int × (List UInt8) × (List S52) => calc_Text.nat k (calc_Text.G.rec k n) v.1 v.2.1 v.2.2.1 v.2.2.2) v := fun v => rfl
theorem calc_Text.G.ok (w0 : World) (hw : Wd w0) (k : Nat) : ∀ n, CfOk (cfg w0 (calc_Text.G.tab k (calc_Text.G.rec k n)))
  | 0 => calc_Text.G.tab_ok w0 k _ (ok47 w0 hw k) (fun v x h => by rw [calc_Text.z k v] at h; cases h)
  | n + 1 => calc_Text.G.tab_ok w0 k _ (ok47 w0 hw k) (fun v x h => sim_cf (calc_Text.simr w0 hw k _ (calc_Text.G.ok w0 hw k n) v x ((calc_Text.u k n v).symm.trans h)))
theorem ok48 (w0 : World) (hw : Wd w0) (k : Nat) : CfOk (cfg w0 (tab48 k)) := calc_Text.G.ok w0 hw k k
theorem clerestorykeep2_twice.a (w0 : World) (k : Nat) : cutsAt (fun n => (clerestorykeep2_twice.cuts w0 k n).isSome) clerestorykeep2_twice.body = [] := by kernel_rfl
theorem clerestorykeep2_twice.sim (w0 : World) (hw : Wd w0) (k : Nat) : ∀ v x, (fun v => clerestorykeep2_twice k ) v = some x → Sim (cfg w0 (tab48 k)) 24 (io44.enc v).1 (io44.enc v).2 (io2.enc x).1 (io2.enc x).2 :=
  sim_of (c := (cfg w0 (tab48 k))) (fine w0 hw _ (ok48 w0 hw k)) (dr w0 hw _ (ok48 w0 hw k)) (i := io44) (o := io2) (ps := []) (cuts := fun _ => clerestorykeep2_twice.cuts w0 k) (m := 0) (g := fun v => clerestorykeep2_twice k ) Tryd.func24 (by kernel_rfl) clerestorykeep2_twice.hb (fun _ => rfl) (fun _ => Nat.le_of_ble_eq_true rfl) (good_cuts (clerestorykeep2_twice.a w0 k) trivial) (clerestorykeep2_twice.e w0 k)
theorem ok49 (w0 : World) (hw : Wd w0) (k : Nat) : CfOk (cfg w0 (tab49 k)) := addTab_ok (ok48 w0 hw k) (clerestorykeep2_twice.sim w0 hw k)
theorem clerestorykeep2_sameTerm.a9 (w0 : World) (k : Nat) : cutsAt (fun n => (clerestorykeep2_sameTerm.cuts w0 k n).isSome) clerestorykeep2_sameTerm.b9 = [] := by kernel_rfl
theorem clerestorykeep2_sameTerm.a (w0 : World) (k : Nat) : cutsAt (fun n => (clerestorykeep2_sameTerm.cuts w0 k n).isSome) clerestorykeep2_sameTerm.body = [(9, Code.loop clerestorykeep2_sameTerm.b9)] := by kernel_rfl
theorem clerestorykeep2_sameTerm.so9 (w0 : World) (hw : Wd w0) (k : Nat) : Sound (cfg w0 (tab49 k)) Tryd.f26.ntmps 0 (clerestorykeep2_sameTerm.kr w0 k) (.loop clerestorykeep2_sameTerm.b9) (entK (cfg w0 (tab49 k)) 0 [2, 3, 5] [] io81.pat (clerestorykeep2_sameTerm.L9 k k)) :=
  loop_ok (fine w0 hw _ (ok49 w0 hw k)) (dr w0 hw _ (ok49 w0 hw k)) (good_cuts (clerestorykeep2_sameTerm.a9 w0 k) trivial) io81.ok (xn := clerestorykeep2_sameTerm.x9) (L := clerestorykeep2_sameTerm.L9 k) (fun v K => rfl) (clerestorykeep2_sameTerm.s9 w0 k) k
theorem clerestorykeep2_sameTerm.sim (w0 : World) (hw : Wd w0) (k : Nat) : ∀ v x, (fun v => clerestorykeep2_sameTerm k v.1 v.2.1 v.2.2.1 v.2.2.2.1 v.2.2.2.2.1 v.2.2.2.2.2.1 v.2.2.2.2.2.2) v = some x → Sim (cfg w0 (tab49 k)) 26 (io80.enc v).1 (io80.enc v).2 (io2.enc x).1 (io2.enc x).2 :=
  sim_of (c := (cfg w0 (tab49 k))) (fine w0 hw _ (ok49 w0 hw k)) (dr w0 hw _ (ok49 w0 hw k)) (i := io80) (o := io2) (ps := []) (cuts := fun _ => clerestorykeep2_sameTerm.cuts w0 k) (m := 0) (g := fun v => clerestorykeep2_sameTerm k v.1 v.2.1 v.2.2.1 v.2.2.2.1 v.2.2.2.2.1 v.2.2.2.2.2.1 v.2.2.2.2.2.2) Tryd.func26 (by kernel_rfl) clerestorykeep2_sameTerm.hb (fun _ => rfl) (fun _ => Nat.le_of_ble_eq_true rfl) (good_cuts (clerestorykeep2_sameTerm.a w0 k) ⟨fun f hf => by cases hf; exact clerestorykeep2_sameTerm.so9 w0 hw k, trivial⟩) (clerestorykeep2_sameTerm.e w0 k)
theorem ok50 (w0 : World) (hw : Wd w0) (k : Nat) : CfOk (cfg w0 (tab50 k)) := addTab_ok (ok49 w0 hw k) (clerestorykeep2_sameTerm.sim w0 hw k)
theorem clerestorykeep2_sameTerm_v2.a9 (w0 : World) (k : Nat) (r : clerestorykeep2_sameTerm_v2.G.R) : cutsAt (fun n => (clerestorykeep2_sameTerm_v2.cuts w0 k r n).isSome) clerestorykeep2_sameTerm_v2.b9 = [] := by kernel_rfl
theorem clerestorykeep2_sameTerm_v2.a (w0 : World) (k : Nat) (r : clerestorykeep2_sameTerm_v2.G.R) : cutsAt (fun n => (clerestorykeep2_sameTerm_v2.cuts w0 k r n).isSome) clerestorykeep2_sameTerm_v2.body = [(9, Code.loop clerestorykeep2_sameTerm_v2.b9)] := by kernel_rfl
theorem clerestorykeep2_sameTerm_v2.so9 (w0 : World) (hw : Wd w0) (k : Nat) (r : clerestorykeep2_sameTerm_v2.G.R) (hr : CfOk (cfg w0 (clerestorykeep2_sameTerm_v2.G.tab k r))) : Sound (cfg w0 (clerestorykeep2_sameTerm_v2.G.tab k r)) Tryd.f26.ntmps 0 (clerestorykeep2_sameTerm_v2.kr w0 k r) (.loop clerestorykeep2_sameTerm_v2.b9) (entK (cfg w0 (clerestorykeep2_sameTerm_v2.G.tab k r)) 0 [2, 3, 5] [] io83.pat (clerestorykeep2_sameTerm_v2.L9 k r k)) :=
  loop_ok (fine w0 hw _ hr) (dr w0 hw _ hr) (good_cuts (clerestorykeep2_sameTerm_v2.a9 w0 k r) trivial) io83.ok (xn := clerestorykeep2_sameTerm_v2.x9) (L := clerestorykeep2_sameTerm_v2.L9 k r) (fun v K => rfl) (clerestorykeep2_sameTerm_v2.s9 w0 k r) k
theorem clerestorykeep2_sameTerm_v2.simr (w0 : World) (hw : Wd w0) (k : Nat) (r : clerestorykeep2_sameTerm_v2.G.R) (hr : CfOk (cfg w0 (clerestorykeep2_sameTerm_v2.G.tab k r))) : ∀ v x, (fun v => clerestorykeep2_sameTerm_v2.nat k r v.1 v.2.1 v.2.2.1 v.2.2.2.1 v.2.2.2.2.1 v.2.2.2.2.2.1 v.2.2.2.2.2.2.1 v.2.2.2.2.2.2.2) v = some x → Sim (cfg w0 (clerestorykeep2_sameTerm_v2.G.tab k r)) 26 (io82.enc v).1 (io82.enc v).2 (io2.enc x).1 (io2.enc x).2 :=
  sim_of (c := (cfg w0 (clerestorykeep2_sameTerm_v2.G.tab k r))) (fine w0 hw _ hr) (dr w0 hw _ hr) (i := io82) (o := io2) (ps := []) (cuts := fun _ => clerestorykeep2_sameTerm_v2.cuts w0 k r) (m := 0) (g := fun v => clerestorykeep2_sameTerm_v2.nat k r v.1 v.2.1 v.2.2.1 v.2.2.2.1 v.2.2.2.2.1 v.2.2.2.2.2.1 v.2.2.2.2.2.2.1 v.2.2.2.2.2.2.2) Tryd.func26 (by kernel_rfl) clerestorykeep2_sameTerm_v2.hb (fun _ => rfl) (fun _ => Nat.le_of_ble_eq_true rfl) (good_cuts (clerestorykeep2_sameTerm_v2.a w0 k r) ⟨fun f hf => by cases hf; exact clerestorykeep2_sameTerm_v2.so9 w0 hw k r hr, trivial⟩) (clerestorykeep2_sameTerm_v2.e w0 k r)
theorem clerestorykeep2_sameTerm_v2.G.tab_ok (w0 : World) (k : Nat) (r : clerestorykeep2_sameTerm_v2.G.R) (h0 : CfOk (cfg w0 (tab50 k))) (h_clerestorykeep2_sameTerm_v2 : ∀ v x, (fun v => r.clerestorykeep2_sameTerm_v2 v.1 v.2.1 v.2.2.1 v.2.2.2.1 v.2.2.2.2.1 v.2.2.2.2.2.1 v.2.2.2.2.2.2.1 v.2.2.2.2.2.2.2) v = some x → Sim (cfg w0 (tab50 k)) 26 (io82.enc v).1 (io82.enc v).2 (io2.enc x).1 (io2.enc x).2) : CfOk (cfg w0 (clerestorykeep2_sameTerm_v2.G.tab k r)) :=
  addTab_ok (h0) (fun v x h => sim_cf (h_clerestorykeep2_sameTerm_v2 v x h))
theorem clerestorykeep2_sameTerm_v2.z (k : Nat) : ∀ v : Int × Int × (List UInt8) × (List S52) × Int × Int × (List UInt8) × (List S52), (fun v : Int × Int × (List UInt8) × (List S52) × Int × Int × (List UInt8) × (List S52) => (clerestorykeep2_sameTerm_v2.G.rec k 0).clerestorykeep2_sameTerm_v2 v.1 v.2.1 v.2.2.1 v.2.2.2.1 v.2.2.2.2.1 v.2.2.2.2.2.1 v.2.2.2.2.2.2.1 v.2.2.2.2.2.2.2) v = none := fun v => rfl
theorem clerestorykeep2_sameTerm_v2.u (k n : Nat) : ∀ v : Int × Int × (List UInt8) × (List S52) × Int × Int × (List UInt8) × (List S52), (fun v : Int × Int × (List UInt8) × (List S52) × Int × Int × (List UInt8) × (List S52) => (clerestorykeep2_sameTerm_v2.G.rec k (n + 1)).clerestorykeep2_sameTerm_v2 v.1 v.2.1 v.2.2.1 v.2.2.2.1 v.2.2.2.2.1 v.2.2.2.2.2.1 v.2.2.2.2.2.2.1 v.2.2.2.2.2.2.2) v = (fun v : Int × Int × (List UInt8) × (List S52) × Int × Int × (List UInt8) × (List S52) => clerestorykeep2_sameTerm_v2.nat k (clerestorykeep2_sameTerm_v2.G.rec k n) v.1 v.2.1 v.2.2.1 v.2.2.2.1 v.2.2.2.2.1 v.2.2.2.2.2.1 v.2.2.2.2.2.2.1 v.2.2.2.2.2.2.2) v := fun v => rfl
theorem clerestorykeep2_sameTerm_v2.G.ok (w0 : World) (hw : Wd w0) (k : Nat) : ∀ n, CfOk (cfg w0 (clerestorykeep2_sameTerm_v2.G.tab k (clerestorykeep2_sameTerm_v2.G.rec k n)))
  | 0 => clerestorykeep2_sameTerm_v2.G.tab_ok w0 k _ (ok50 w0 hw k) (fun v x h => by rw [clerestorykeep2_sameTerm_v2.z k v] at h; cases h)
  | n + 1 => clerestorykeep2_sameTerm_v2.G.tab_ok w0 k _ (ok50 w0 hw k) (fun v x h => sim_cf (clerestorykeep2_sameTerm_v2.simr w0 hw k _ (clerestorykeep2_sameTerm_v2.G.ok w0 hw k n) v x ((clerestorykeep2_sameTerm_v2.u k n v).symm.trans h)))
theorem ok51 (w0 : World) (hw : Wd w0) (k : Nat) : CfOk (cfg w0 (tab51 k)) := clerestorykeep2_sameTerm_v2.G.ok w0 hw k k
theorem clerestorykeep2_CalcBack.a (w0 : World) (k : Nat) : cutsAt (fun n => (clerestorykeep2_CalcBack.cuts w0 k n).isSome) clerestorykeep2_CalcBack.body = [] := by kernel_rfl
theorem clerestorykeep2_CalcBack.sim (w0 : World) (hw : Wd w0) (k : Nat) : ∀ v x, (fun v => clerestorykeep2_CalcBack k v) v = some x → Sim (cfg w0 (tab51 k)) 8 (io1.enc v).1 (io1.enc v).2 (io2.enc x).1 (io2.enc x).2 :=
  sim_of (c := (cfg w0 (tab51 k))) (fine w0 hw _ (ok51 w0 hw k)) (dr w0 hw _ (ok51 w0 hw k)) (i := io1) (o := io2) (ps := []) (cuts := fun _ => clerestorykeep2_CalcBack.cuts w0 k) (m := 0) (g := fun v => clerestorykeep2_CalcBack k v) Tryd.func8 (by kernel_rfl) clerestorykeep2_CalcBack.hb (fun _ => rfl) (fun _ => Nat.le_of_ble_eq_true rfl) (good_cuts (clerestorykeep2_CalcBack.a w0 k) trivial) (clerestorykeep2_CalcBack.e w0 k)
theorem ok52 (w0 : World) (hw : Wd w0) (k : Nat) : CfOk (cfg w0 (tab52 k)) := addTab_ok (ok51 w0 hw k) (clerestorykeep2_CalcBack.sim w0 hw k)
end
end Go.Ev.Ck
