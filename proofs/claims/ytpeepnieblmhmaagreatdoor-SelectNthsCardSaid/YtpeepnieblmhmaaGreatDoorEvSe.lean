/- A part of the evaluator of Go code over small heaps and of its proof: no condition beyond those that each theorem names. -/
import Derived.Test.YtpeepnieblmhmaaGreatDoorEvDfr
import Derived.Test.YtpeepnieblmhmaaGreatDoorEvShS
import Derived.Test.YtpeepnieblmhmaaGreatDoorProg
import Derived.KernelRfl
set_option linter.unusedVariables false
set_option maxRecDepth 100000
namespace Go.Ev.Se
noncomputable section
open Go.Proofs Go.Ev

mutual
structure S36 where
  Steps : List (List S26)
  Joins : List Int
structure S26 where
  Kind : Int
  Name : List UInt8
  Op : Int
  Value : List UInt8
  A : Int
  B : Int
  Subs : List S36
end
def S36.d : S36 := ⟨[], []⟩
def S26.d : S26 := ⟨0, [], 0, [], 0, 0, []⟩
structure S70 where
  Kind : Int
  Raw : List UInt8
  Value : List UInt8
  Num : Int
def S70.d : S70 := ⟨0, [], [], 0⟩
def base : TypeId → (α : Type) × α
  | 5 => ⟨Int, (0 : Int)⟩
  | 9 => ⟨List UInt8, []⟩
  | 27 => ⟨List S26, []⟩
  | 36 => ⟨S36, S36.d⟩
  | 26 => ⟨S26, S26.d⟩
  | 70 => ⟨S70, S70.d⟩
  | _ => ⟨Unit, ()⟩
def T (t : TypeId) : Type := (base t).1
def dflt (t : TypeId) : T t := (base t).2
def dl (t : TypeId) : D T → Option (List (T t))
  | .l t' xs => asT t t' xs
  | .ns => some []
  | _ => none
theorem dl_le {t : TypeId} {d : D T} {l : List (T t)} (h : dl t d = some l) : leD d (.l t l) := by
  unfold dl at h
  split at h
  · rw [asT_l h]; exact .refl _
  · cases h; exact .ns _
  · cases h
def enc5 (x : Int) : List (D T) := [.i .u8 x]
def dec5 (ds : List (D T)) : Option (Int) := match ds with
  | [.i .u8 x0] => some x0
  | _ => none
theorem dec5_ok {ds : List (D T)} {x : Int} (h : dec5 ds = some x) : leDs ds (enc5 x) := by
  unfold dec5 at h
  split at h
  · cases h
    exact .cons (.refl _) <| .nil
  · cases h
def enc9 (x : List UInt8) : List (D T) := [.s x]
def dec9 (ds : List (D T)) : Option (List UInt8) := match ds with
  | [.s x0] => some x0
  | _ => none
theorem dec9_ok {ds : List (D T)} {x : List UInt8} (h : dec9 ds = some x) : leDs ds (enc9 x) := by
  unfold dec9 at h
  split at h
  · cases h
    exact .cons (.refl _) <| .nil
  · cases h
def enc27 (x : List S26) : List (D T) := [.l 26 x]
def dec27 (ds : List (D T)) : Option (List S26) := match ds with
  | [d0] => (dl 26 d0).bind fun l0 => some l0
  | _ => none
theorem dec27_ok {ds : List (D T)} {x : List S26} (h : dec27 ds = some x) : leDs ds (enc27 x) := by
  unfold dec27 at h
  split at h
  · obtain ⟨l0, h0, h⟩ := Option.bind_eq_some_iff.1 h
    cases h
    exact .cons (dl_le h0) <| .nil
  · cases h
def enc36 (x : S36) : List (D T) := [.l 27 x.Steps, .l 5 x.Joins]
def dec36 (ds : List (D T)) : Option (S36) := match ds with
  | [d0, d1] => (dl 27 d0).bind fun l0 => (dl 5 d1).bind fun l1 => some ⟨l0, l1⟩
  | _ => none
theorem dec36_ok {ds : List (D T)} {x : S36} (h : dec36 ds = some x) : leDs ds (enc36 x) := by
  unfold dec36 at h
  split at h
  · obtain ⟨l0, h0, h⟩ := Option.bind_eq_some_iff.1 h
    obtain ⟨l1, h1, h⟩ := Option.bind_eq_some_iff.1 h
    cases h
    exact .cons (dl_le h0) <| .cons (dl_le h1) <| .nil
  · cases h
def enc26 (x : S26) : List (D T) := [.i .i64 x.Kind, .s x.Name, .i .u8 x.Op, .s x.Value, .i .i64 x.A, .i .i64 x.B, .l 36 x.Subs]
def dec26 (ds : List (D T)) : Option (S26) := match ds with
  | [.i .i64 x0, .s x1, .i .u8 x2, .s x3, .i .i64 x4, .i .i64 x5, d6] => (dl 36 d6).bind fun l6 => some ⟨x0, x1, x2, x3, x4, x5, l6⟩
  | _ => none
theorem dec26_ok {ds : List (D T)} {x : S26} (h : dec26 ds = some x) : leDs ds (enc26 x) := by
  unfold dec26 at h
  split at h
  · obtain ⟨l6, h6, h⟩ := Option.bind_eq_some_iff.1 h
    cases h
    exact .cons (.refl _) <| .cons (.refl _) <| .cons (.refl _) <| .cons (.refl _) <| .cons (.refl _) <| .cons (.refl _) <| .cons (dl_le h6) <| .nil
  · cases h
def enc70 (x : S70) : List (D T) := [.i .i64 x.Kind, .s x.Raw, .s x.Value, .i .i64 x.Num]
def dec70 (ds : List (D T)) : Option (S70) := match ds with
  | [.i .i64 x0, .s x1, .s x2, .i .i64 x3] => some ⟨x0, x1, x2, x3⟩
  | _ => none
theorem dec70_ok {ds : List (D T)} {x : S70} (h : dec70 ds = some x) : leDs ds (enc70 x) := by
  unfold dec70 at h
  split at h
  · cases h
    exact .cons (.refl _) <| .cons (.refl _) <| .cons (.refl _) <| .cons (.refl _) <| .nil
  · cases h
def enc : (t : TypeId) → T t → List (D T)
  | 5, x => enc5 x
  | 9, x => enc9 x
  | 27, x => enc27 x
  | 36, x => enc36 x
  | 26, x => enc26 x
  | 70, x => enc70 x
  | _, _ => []
def dec (t : TypeId) (ds : List (D T)) : Option (T t) := if h : t = 5 then (h ▸ (dec5 ds : Option (T 5))) else if h : t = 9 then (h ▸ (dec9 ds : Option (T 9))) else if h : t = 27 then (h ▸ (dec27 ds : Option (T 27))) else if h : t = 36 then (h ▸ (dec36 ds : Option (T 36))) else if h : t = 26 then (h ▸ (dec26 ds : Option (T 26))) else if h : t = 70 then (h ▸ (dec70 ds : Option (T 70))) else none
theorem dec_ok (t : TypeId) (ds : List (D T)) (x : T t) (h : dec t ds = some x) : leDs ds (enc t x) := by
  unfold dec at h
  by_cases h5 : t = 5
  · subst h5; exact dec5_ok (show dec5 ds = some x from h)
  rw [dif_neg h5] at h
  by_cases h9 : t = 9
  · subst h9; exact dec9_ok (show dec9 ds = some x from h)
  rw [dif_neg h9] at h
  by_cases h27 : t = 27
  · subst h27; exact dec27_ok (show dec27 ds = some x from h)
  rw [dif_neg h27] at h
  by_cases h36 : t = 36
  · subst h36; exact dec36_ok (show dec36 ds = some x from h)
  rw [dif_neg h36] at h
  by_cases h26 : t = 26
  · subst h26; exact dec26_ok (show dec26 ds = some x from h)
  rw [dif_neg h26] at h
  by_cases h70 : t = 70
  · subst h70; exact dec70_ok (show dec70 ds = some x from h)
  rw [dif_neg h70] at h
  cases h
def knl : List TypeId := [5, 9, 27, 36, 26, 70]

def ofB : (t : TypeId) → List UInt8 → List (T t)
  | 5, l => bytesI l
  | _, _ => []
def toB : (t : TypeId) → List (T t) → List UInt8
  | 5, l => bytesU l
  | _, _ => []
def cod : Cod T := ⟨fun t => knl.any (·.beq t), enc, dec, dflt, ofB, toB⟩
def gv : Nat → Option (List (D T))
  | _ => none
def eql : List TypeId := []
def hdl : List FuncId := []
def fbl : List TypeId := [60]
def cfg (w0 : World) (t : Tab T) : Cfg T := ⟨Tryz.prog, cod, t, fun t => eql.any (·.beq t), w0, gv, 83, 5, fun f => hdl.any (·.beq f), fun t => fbl.any (·.beq t)⟩
def F16 (c : Cfg T) : V T → List (V T) → List (Obj T) → Option (List (Obj T)) := runF c Tryz.f16.ntmps 2 5 (seqR (bodyOf Tryz.f16))
/-- What is asked of the first world. -/
structure Wd (w0 : World) : Prop where
  gv : GvOk (cfg w0 noTab)
  mx : NumAt w0 (Sh.ren143.g 1)
  pw : Lib.TabIs Tryz.prog w0 "internal/strconv.uint64pow10" .u64 Lib.pow10Tab
  es : IfAt w0 (Sh.ren172.g 15)
  er : IfAt w0 (Sh.ren172.g 16)

theorem mem_of {l : List TypeId} {t : TypeId} (h : l.any (·.beq t) = true) : t ∈ l := by
  rw [List.any_eq_true] at h
  obtain ⟨x, hx, hb⟩ := h
  rw [← Nat.eq_of_beq_eq_true hb]; exact hx
theorem len5 : 1 = Tryz.prog.cellsOf 5 := by kernel_rfl
theorem len9 : 1 = Tryz.prog.cellsOf 9 := by kernel_rfl
theorem u8_9 : isU8 Tryz.prog 9 = false := by kernel_rfl
theorem len27 : 1 = Tryz.prog.cellsOf 27 := by kernel_rfl
theorem u8_27 : isU8 Tryz.prog 27 = false := by kernel_rfl
theorem fl27 : flatT Tryz.prog 20 27 = false := by kernel_rfl
theorem len36 : 2 = Tryz.prog.cellsOf 36 := by kernel_rfl
theorem u8_36 : isU8 Tryz.prog 36 = false := by kernel_rfl
theorem fl36 : flatT Tryz.prog 20 36 = false := by kernel_rfl
theorem len26 : 7 = Tryz.prog.cellsOf 26 := by kernel_rfl
theorem u8_26 : isU8 Tryz.prog 26 = false := by kernel_rfl
theorem fl26 : flatT Tryz.prog 20 26 = false := by kernel_rfl
theorem len70 : 4 = Tryz.prog.cellsOf 70 := by kernel_rfl
theorem u8_70 : isU8 Tryz.prog 70 = false := by kernel_rfl
theorem zr5 : zeroShape Tryz.prog 5 = true ∧ ∃ ds, zeroCells (T := T) Tryz.prog 5 = some (ofDs ds) ∧ leDs ds (enc5 (0 : Int)) := ⟨by kernel_rfl, [.i .u8 (0 : Int)], by kernel_rfl, .cons (.refl _) <| .nil⟩
theorem zr9 : zeroShape Tryz.prog 9 = true ∧ ∃ ds, zeroCells (T := T) Tryz.prog 9 = some (ofDs ds) ∧ leDs ds (enc9 []) := ⟨by kernel_rfl, [.s ([])], by kernel_rfl, .cons (.refl _) <| .nil⟩
theorem zr27 : zeroShape Tryz.prog 27 = true ∧ ∃ ds, zeroCells (T := T) Tryz.prog 27 = some (ofDs ds) ∧ leDs ds (enc27 []) := ⟨by kernel_rfl, [.ns], by kernel_rfl, .cons (.ns _) <| .nil⟩
theorem zr36 : zeroShape Tryz.prog 36 = true ∧ ∃ ds, zeroCells (T := T) Tryz.prog 36 = some (ofDs ds) ∧ leDs ds (enc36 S36.d) := ⟨by kernel_rfl, [.ns, .ns], by kernel_rfl, .cons (.ns _) <| .cons (.ns _) <| .nil⟩
theorem zr26 : zeroShape Tryz.prog 26 = true ∧ ∃ ds, zeroCells (T := T) Tryz.prog 26 = some (ofDs ds) ∧ leDs ds (enc26 S26.d) := ⟨by kernel_rfl, [.i .i64 (0 : Int), .s ([]), .i .u8 (0 : Int), .s ([]), .i .i64 (0 : Int), .i .i64 (0 : Int), .ns], by kernel_rfl, .cons (.refl _) <| .cons (.refl _) <| .cons (.refl _) <| .cons (.refl _) <| .cons (.refl _) <| .cons (.refl _) <| .cons (.ns _) <| .nil⟩
theorem zr70 : zeroShape Tryz.prog 70 = true ∧ ∃ ds, zeroCells (T := T) Tryz.prog 70 = some (ofDs ds) ∧ leDs ds (enc70 S70.d) := ⟨by kernel_rfl, [.i .i64 (0 : Int), .s ([]), .s ([]), .i .i64 (0 : Int)], by kernel_rfl, .cons (.refl _) <| .cons (.refl _) <| .cons (.refl _) <| .cons (.refl _) <| .nil⟩
theorem fl : Tryz.prog.follows .mixedOrders = true := by kernel_rfl
theorem bytesOk (w0 : World) (t : Tab T) : BytesOk (cfg w0 t) := fun e h1 h2 => by
  have hm := mem_of (l := knl) h2
  simp only [knl, List.mem_cons, List.not_mem_nil, or_false] at hm
  rcases hm with rfl | rfl | rfl | rfl | rfl | rfl
  · exact ⟨fun l => by induction l with
      | nil => rfl
      | cons b l ih => exact congrArg (List.cons _) ih, fun xs => ⟨xs, rfl, rfl⟩⟩
  · exact absurd h1 (by rw [show isU8 (cfg w0 _).P 9 = false from u8_9]; exact Bool.false_ne_true)
  · exact absurd h1 (by rw [show isU8 (cfg w0 _).P 27 = false from u8_27]; exact Bool.false_ne_true)
  · exact absurd h1 (by rw [show isU8 (cfg w0 _).P 36 = false from u8_36]; exact Bool.false_ne_true)
  · exact absurd h1 (by rw [show isU8 (cfg w0 _).P 26 = false from u8_26]; exact Bool.false_ne_true)
  · exact absurd h1 (by rw [show isU8 (cfg w0 _).P 70 = false from u8_70]; exact Bool.false_ne_true)
theorem fine (w0 : World) (hw : Wd w0) (t : Tab T) (h : CfOk (cfg w0 t)) : Fine (cfg w0 t) where
  gv := hw.gv
  bytes := bytesOk w0 t
  cod := by
    refine ⟨fun t ht x => ?_, fun t ds x h => ?_⟩
    · have hm := mem_of (l := knl) ht
      simp only [knl, List.mem_cons, List.not_mem_nil, or_false] at hm
      rcases hm with rfl | rfl | rfl | rfl | rfl | rfl
      · exact len5
      · exact len9
      · exact len27
      · exact len36
      · exact len26
      · exact len70
    · exact dec_ok t ds x h
  zero := fun t ht => by
    have hm := mem_of (l := knl) ht
    simp only [knl, List.mem_cons, List.not_mem_nil, or_false] at hm
    rcases hm with rfl | rfl | rfl | rfl | rfl | rfl
    · exact zr5
    · exact zr9
    · exact zr27
    · exact zr36
    · exact zr26
    · exact zr70
  eqk := fun t h => by
    cases h
  flat := fun t hf hk x d hd => by
    have hm := mem_of (l := knl) hk
    simp only [knl, List.mem_cons, List.not_mem_nil, or_false] at hm
    rcases hm with rfl | rfl | rfl | rfl | rfl | rfl
    · have hd : d ∈ enc5 x := hd
      simp only [enc5, List.mem_cons, List.not_mem_nil, or_false] at hd
      rcases hd with rfl <;> rfl
    · have hd : d ∈ enc9 x := hd
      simp only [enc9, List.mem_cons, List.not_mem_nil, or_false] at hd
      rcases hd with rfl <;> rfl
    · exact absurd hf (by rw [show flatT (cfg w0 _).P 20 27 = false from fl27]; exact Bool.false_ne_true)
    · exact absurd hf (by rw [show flatT (cfg w0 _).P 20 36 = false from fl36]; exact Bool.false_ne_true)
    · exact absurd hf (by rw [show flatT (cfg w0 _).P 20 26 = false from fl26]; exact Bool.false_ne_true)
    · have hd : d ∈ enc70 x := hd
      simp only [enc70, List.mem_cons, List.not_mem_nil, or_false] at hd
      rcases hd with rfl | rfl | rfl | rfl <;> rfl
  cf := h
theorem dr (w0 : World) (hw : Wd w0) (t : Tab T) (h : CfOk (cfg w0 t)) : DrawOk (cfg w0 t) := drawOk_ok (fine w0 hw t h) fl
def F16.id : Nat := 0
def F16.y1 : TypeId := 20
def F16.y2 : TypeId := 20
def F16.p1 : String := "selector.go:405"
def F16.p2 : String := "selector.go:405"
def F16.e1 : Array Edge := #[]
def F16.e2 : Array Edge := #[⟨0, .data⟩, ⟨0, .chain⟩, ⟨0, .phase⟩]
theorem idle16 (w0 : World) (hw : Wd w0) (t : Tab T) (h : CfOk (cfg w0 t)) : Idle (cfg w0 t) 16 2 :=
  idle_ok (fine w0 hw t h) (dr w0 hw t h) (id := F16.id) (ty1 := F16.y1) (ty2 := F16.y2) (p1 := F16.p1) (p2 := F16.p2) (e1 := F16.e1) (e2 := F16.e2) (rest := seqR (bodyOf Tryz.f16)) (t5 := 5) (t2 := 2) Tryz.func16 (by kernel_rfl) (by kernel_rfl) (Nat.le_of_ble_eq_true rfl) (Nat.le_of_ble_eq_true rfl) 2 (fun vs H => by kernel_rfl)
theorem cat16 (w0 : World) (hw : Wd w0) (t : Tab T) (h : CfOk (cfg w0 t)) : Catch (cfg w0 t) 16 (F16 (cfg w0 t)) :=
  catch_ok (fine w0 hw t h) (dr w0 hw t h) (id := F16.id) (ty1 := F16.y1) (ty2 := F16.y2) (p1 := F16.p1) (p2 := F16.p2) (e1 := F16.e1) (e2 := F16.e2) (rest := seqR (bodyOf Tryz.f16)) (t5 := 5) (t2 := 2) Tryz.func16 (by kernel_rfl) (by kernel_rfl) (Nat.le_of_ble_eq_true rfl) (Nat.le_of_ble_eq_true rfl) runF_ok
def io0 : Io T ((List UInt8) × (List UInt8)) where
  enc v := ([.d (.s v.1), .d (.s v.2)], [])
  pat
    | ([.d (.s p1), .d (.s p2)], []) => some (p1, p2)
    | _ => none
  ok z v h := by
    split at h
    · cases h
      all_goals rfl
    · cases h
def io1 : Io T (List UInt8) where
  enc v := ([.d (.s v)], [])
  pat
    | ([.d (.s p1)], []) => some p1
    | _ => none
  ok z v h := by
    split at h
    · cases h
      all_goals rfl
    · cases h
def io2 : Io T (Bool) where
  enc v := ([.d (.b v)], [])
  pat
    | ([.d (.b p1)], []) => some p1
    | _ => none
  ok z v h := by
    split at h
    · cases h
      all_goals rfl
    · cases h
def io3 : Io T ((List UInt8) × Bool) where
  enc v := ([.d (.s v.1), .d (.b v.2)], [])
  pat
    | ([.d (.s p1), .d (.b p2)], []) => some (p1, p2)
    | _ => none
  ok z v h := by
    split at h
    · cases h
      all_goals rfl
    · cases h
def io4 : Io T (Int) where
  enc v := ([.d (.i .i64 v)], [])
  pat
    | ([.d (.i .i64 p1)], []) => some p1
    | _ => none
  ok z v h := by
    split at h
    · cases h
      all_goals rfl
    · cases h
def io5 : Io T (List UInt8) where
  enc v := ([.bp 0], [.bl v])
  pat
    | ([.bp 0], [.bl p1]) => some p1
    | _ => none
  ok z v h := by
    split at h
    · cases h
      all_goals rfl
    · cases h
def io6 : Io T ((List UInt8) × (List UInt8)) where
  enc v := ([.d (.s v.1)], [.bl v.2])
  pat
    | ([.d (.s p1)], [.bl p2]) => some (p1, p2)
    | _ => none
  ok z v h := by
    split at h
    · cases h
      all_goals rfl
    · cases h
def io7 : Io T (Int × (List UInt8)) where
  enc v := ([.bp 0, .d (.i .u8 v.1)], [.bl v.2])
  pat
    | ([.bp 0, .d (.i .u8 p1)], [.bl p2]) => some (p1, p2)
    | _ => none
  ok z v h := by
    split at h
    · cases h
      all_goals rfl
    · cases h
def io8 : Io T (List UInt8) where
  enc v := ([.d .ni], [.bl v])
  pat
    | ([.d .ni], [.bl p1]) => some p1
    | _ => none
  ok z v h := by
    split at h
    · cases h
      all_goals rfl
    · cases h
def io9 : Io T (Int × (List UInt8) × (List UInt8) × Int) where
  enc v := ([.agg [.d (.i .i64 v.1), .d (.s v.2.1), .d (.s v.2.2.1), .d (.i .i64 v.2.2.2)]], [])
  pat
    | ([.agg [.d (.i .i64 p1), .d (.s p2), .d (.s p3), .d (.i .i64 p4)]], []) => some (p1, p2, p3, p4)
    | _ => none
  ok z v h := by
    split at h
    · cases h
      all_goals rfl
    · cases h
def io10 : Io T ((List UInt8) × Int × Int × (List UInt8) × (List UInt8) × Int × (List UInt8)) where
  enc v := ([.d (.s v.1), .ptr 0 0, .bp 1, .d (.i .i64 v.2.1)], [.box [.d (.i .i64 v.2.2.1), .d (.s v.2.2.2.1), .d (.s v.2.2.2.2.1), .d (.i .i64 v.2.2.2.2.2.1)], .bl v.2.2.2.2.2.2])
  pat
    | ([.d (.s p1), .ptr 0 0, .bp 1, .d (.i .i64 p2)], [.box [.d (.i .i64 p3), .d (.s p4), .d (.s p5), .d (.i .i64 p6)], .bl p7]) => some (p1, p2, p3, p4, p5, p6, p7)
    | _ => none
  ok z v h := by
    split at h
    · cases h
      all_goals rfl
    · cases h
def io11 : Io T ((List UInt8) × Int × (List UInt8) × (List UInt8) × Int) where
  enc v := ([.d (.s v.1), .ptr 0 0], [.box [.d (.i .i64 v.2.1), .d (.s v.2.2.1), .d (.s v.2.2.2.1), .d (.i .i64 v.2.2.2.2)]])
  pat
    | ([.d (.s p1), .ptr 0 0], [.box [.d (.i .i64 p2), .d (.s p3), .d (.s p4), .d (.i .i64 p5)]]) => some (p1, p2, p3, p4, p5)
    | _ => none
  ok z v h := by
    split at h
    · cases h
      all_goals rfl
    · cases h
def io12 : Io T (Int) where
  enc v := ([.d (.i .u8 v)], [])
  pat
    | ([.d (.i .u8 p1)], []) => some p1
    | _ => none
  ok z v h := by
    split at h
    · cases h
      all_goals rfl
    · cases h
def io13 : Io T ((List UInt8) × Int) where
  enc v := ([.d (.s v.1), .d (.i .i64 v.2)], [])
  pat
    | ([.d (.s p1), .d (.i .i64 p2)], []) => some (p1, p2)
    | _ => none
  ok z v h := by
    split at h
    · cases h
      all_goals rfl
    · cases h
def io14 : Io T ((List UInt8) × Int × (List UInt8)) where
  enc v := ([.d (.s v.1), .bp 0, .d (.i .i64 v.2.1)], [.bl v.2.2])
  pat
    | ([.d (.s p1), .bp 0, .d (.i .i64 p2)], [.bl p3]) => some (p1, p2, p3)
    | _ => none
  ok z v h := by
    split at h
    · cases h
      all_goals rfl
    · cases h
def io15 : Io T (Int × (List UInt8)) where
  enc v := ([.bp 0, .d (.i .i64 v.1)], [.bl v.2])
  pat
    | ([.bp 0, .d (.i .i64 p1)], [.bl p2]) => some (p1, p2)
    | _ => none
  ok z v h := by
    split at h
    · cases h
      all_goals rfl
    · cases h
def io16 : Io T (Int × (List UInt8) × Int) where
  enc v := ([.d (.i .i64 v.1), .d (.s v.2.1), .d (.i .i64 v.2.2)], [])
  pat
    | ([.d (.i .i64 p1), .d (.s p2), .d (.i .i64 p3)], []) => some (p1, p2, p3)
    | _ => none
  ok z v h := by
    split at h
    · cases h
      all_goals rfl
    · cases h
def io17 : Io T (Int × Int) where
  enc v := ([.d (.i .u8 v.1), .ptr 0 0], [.box [.d (.i .i64 v.2)]])
  pat
    | ([.d (.i .u8 p1), .ptr 0 0], [.box [.d (.i .i64 p2)]]) => some (p1, p2)
    | _ => none
  ok z v h := by
    split at h
    · cases h
      all_goals rfl
    · cases h
def io18 : Io T (Int) where
  enc v := ([], [.box [.d (.i .i64 v)]])
  pat
    | ([], [.box [.d (.i .i64 p1)]]) => some p1
    | _ => none
  ok z v h := by
    split at h
    · cases h
      all_goals rfl
    · cases h
def io19 : Io T (Int × Int) where
  enc v := ([.d (.i .i64 v.1), .d (.i .i64 v.2)], [])
  pat
    | ([.d (.i .i64 p1), .d (.i .i64 p2)], []) => some (p1, p2)
    | _ => none
  ok z v h := by
    split at h
    · cases h
      all_goals rfl
    · cases h
def io20 : Io T ((List UInt8) × Int × Int × Int × Int × Int × Int × (List Int)) where
  enc v := ([.d (.s v.1), .d (.i .i64 v.2.1), .d (.i .i64 v.2.2.1), .d (.i .i64 v.2.2.2.1), .ptr 0 0, .fn 84 [.ptr 0 0], .sl 1 none, .d (.i .i64 v.2.2.2.2.1), .d (.i .i64 v.2.2.2.2.2.1)], [.box [.d (.i .i64 v.2.2.2.2.2.2.1)], .arr 5 v.2.2.2.2.2.2.2])
  pat
    | ([.d (.s p1), .d (.i .i64 p2), .d (.i .i64 p3), .d (.i .i64 p4), .ptr 0 0, .fn 84 [.ptr 0 0], .sl 1 none, .d (.i .i64 p5), .d (.i .i64 p6)], [.box [.d (.i .i64 p7)], .arr tp8 p8]) => (asT 5 tp8 p8).bind fun q8 => some (p1, p2, p3, p4, p5, p6, p7, q8)
    | _ => none
  ok z v h := by
    split at h
    · obtain ⟨q8, hp8, h⟩ := Option.bind_eq_some_iff.1 h
      cases h
      rw [asT_a hp8]
      all_goals rfl
    · cases h
def io21 : Io T ((List UInt8) × Int × Int × Int × Int) where
  enc v := ([.d (.s v.1), .d (.i .i64 v.2.1), .d (.i .i64 v.2.2.1), .d (.i .i64 v.2.2.2.1), .ptr 0 0, .fn 84 [.ptr 0 0]], [.box [.d (.i .i64 v.2.2.2.2)]])
  pat
    | ([.d (.s p1), .d (.i .i64 p2), .d (.i .i64 p3), .d (.i .i64 p4), .ptr 0 0, .fn 84 [.ptr 0 0]], [.box [.d (.i .i64 p5)]]) => some (p1, p2, p3, p4, p5)
    | _ => none
  ok z v h := by
    split at h
    · cases h
      all_goals rfl
    · cases h
def io22 : Io T ((List UInt8) × Int × (List UInt8) × Int × Int) where
  enc v := ([.d (.s v.1), .ptr 0 0, .fn 84 [.ptr 0 0], .d (.i .i64 v.2.1), .d (.s v.2.2.1), .d (.i .i64 v.2.2.2.1)], [.box [.d (.i .i64 v.2.2.2.2)]])
  pat
    | ([.d (.s p1), .ptr 0 0, .fn 84 [.ptr 0 0], .d (.i .i64 p2), .d (.s p3), .d (.i .i64 p4)], [.box [.d (.i .i64 p5)]]) => some (p1, p2, p3, p4, p5)
    | _ => none
  ok z v h := by
    split at h
    · cases h
      all_goals rfl
    · cases h
def io23 : Io T ((List UInt8) × Int × Int) where
  enc v := ([.d (.s v.1), .ptr 0 0, .d (.i .i64 v.2.1)], [.box [.d (.i .i64 v.2.2)]])
  pat
    | ([.d (.s p1), .ptr 0 0, .d (.i .i64 p2)], [.box [.d (.i .i64 p3)]]) => some (p1, p2, p3)
    | _ => none
  ok z v h := by
    split at h
    · cases h
      all_goals rfl
    · cases h
def io24 : Io T (Int × Int) where
  enc v := ([.ptr 0 0, .d (.i .i64 v.1)], [.box [.d (.i .i64 v.2)]])
  pat
    | ([.ptr 0 0, .d (.i .i64 p1)], [.box [.d (.i .i64 p2)]]) => some (p1, p2)
    | _ => none
  ok z v h := by
    split at h
    · cases h
      all_goals rfl
    · cases h
def io25 : Io T ((List UInt8) × Int × (List UInt8) × Int) where
  enc v := ([.d (.s v.1), .ptr 0 0, .fn 84 [.ptr 0 0], .d (.i .i64 v.2.1), .d (.s v.2.2.1)], [.box [.d (.i .i64 v.2.2.2)]])
  pat
    | ([.d (.s p1), .ptr 0 0, .fn 84 [.ptr 0 0], .d (.i .i64 p2), .d (.s p3)], [.box [.d (.i .i64 p4)]]) => some (p1, p2, p3, p4)
    | _ => none
  ok z v h := by
    split at h
    · cases h
      all_goals rfl
    · cases h
def io26 : Io T ((List UInt8) × Int × Int × Int) where
  enc v := ([.d (.s v.1), .d (.i .i64 v.2.1), .d (.i .i64 v.2.2.1), .d (.i .i64 v.2.2.2)], [])
  pat
    | ([.d (.s p1), .d (.i .i64 p2), .d (.i .i64 p3), .d (.i .i64 p4)], []) => some (p1, p2, p3, p4)
    | _ => none
  ok z v h := by
    split at h
    · cases h
      all_goals rfl
    · cases h
def io27 : Io T (Int × Int × (List Int)) where
  enc v := ([.sl 0 none, .sl 0 none, .d (.i .i64 v.1), .d (.i .i64 v.2.1)], [.arr 5 v.2.2])
  pat
    | ([.sl 0 none, .sl 0 none, .d (.i .i64 p1), .d (.i .i64 p2)], [.arr tp3 p3]) => (asT 5 tp3 p3).bind fun q3 => some (p1, p2, q3)
    | _ => none
  ok z v h := by
    split at h
    · obtain ⟨q3, hp3, h⟩ := Option.bind_eq_some_iff.1 h
      cases h
      rw [asT_a hp3]
      all_goals rfl
    · cases h
def io28 : Io T (List Int) where
  enc v := ([.sl 0 none], [.arr 5 v])
  pat
    | ([.sl 0 none], [.arr tp1 p1]) => (asT 5 tp1 p1).bind fun q1 => some q1
    | _ => none
  ok z v h := by
    split at h
    · obtain ⟨q1, hp1, h⟩ := Option.bind_eq_some_iff.1 h
      cases h
      rw [asT_a hp1]
      all_goals rfl
    · cases h
def io29 : Io T ((List UInt8) × Int × Int) where
  enc v := ([.d (.s v.1), .d (.i .i64 v.2.1), .d (.i .i64 v.2.2)], [])
  pat
    | ([.d (.s p1), .d (.i .i64 p2), .d (.i .i64 p3)], []) => some (p1, p2, p3)
    | _ => none
  ok z v h := by
    split at h
    · cases h
      all_goals rfl
    · cases h
def io30 : Io T (Int × (List UInt8) × (List UInt8) × Int × Int × (List UInt8) × (List UInt8) × Int) where
  enc v := ([.ptr 0 0, .ptr 1 0], [.box [.d (.i .i64 v.1), .d (.s v.2.1), .d (.s v.2.2.1), .d (.i .i64 v.2.2.2.1)], .box [.d (.i .i64 v.2.2.2.2.1), .d (.s v.2.2.2.2.2.1), .d (.s v.2.2.2.2.2.2.1), .d (.i .i64 v.2.2.2.2.2.2.2)]])
  pat
    | ([.ptr 0 0, .ptr 1 0], [.box [.d (.i .i64 p1), .d (.s p2), .d (.s p3), .d (.i .i64 p4)], .box [.d (.i .i64 p5), .d (.s p6), .d (.s p7), .d (.i .i64 p8)]]) => some (p1, p2, p3, p4, p5, p6, p7, p8)
    | _ => none
  ok z v h := by
    split at h
    · cases h
      all_goals rfl
    · cases h
def io31 : Io T (Int × (List UInt8)) where
  enc v := ([.d (.i .i64 v.1), .ptr 0 0], [.box [.d (.s v.2)]])
  pat
    | ([.d (.i .i64 p1), .ptr 0 0], [.box [.d (.s p2)]]) => some (p1, p2)
    | _ => none
  ok z v h := by
    split at h
    · cases h
      all_goals rfl
    · cases h
def io32 : Io T (Int × (List UInt8) × (List UInt8) × Int × (List UInt8)) where
  enc v := ([.agg [.d (.i .i64 v.1), .d (.s v.2.1), .d (.s v.2.2.1), .d (.i .i64 v.2.2.2.1)]], [.box [.d (.s v.2.2.2.2)]])
  pat
    | ([.agg [.d (.i .i64 p1), .d (.s p2), .d (.s p3), .d (.i .i64 p4)]], [.box [.d (.s p5)]]) => some (p1, p2, p3, p4, p5)
    | _ => none
  ok z v h := by
    split at h
    · cases h
      all_goals rfl
    · cases h
def io33 : Io T ((List UInt8) × Int × (List UInt8) × (List UInt8) × Int) where
  enc v := ([.ptr 0 0, .ptr 1 0], [.box [.d (.s v.1)], .box [.d (.i .i64 v.2.1), .d (.s v.2.2.1), .d (.s v.2.2.2.1), .d (.i .i64 v.2.2.2.2)]])
  pat
    | ([.ptr 0 0, .ptr 1 0], [.box [.d (.s p1)], .box [.d (.i .i64 p2), .d (.s p3), .d (.s p4), .d (.i .i64 p5)]]) => some (p1, p2, p3, p4, p5)
    | _ => none
  ok z v h := by
    split at h
    · cases h
      all_goals rfl
    · cases h
def io34 : Io T (Int × (List UInt8) × (List UInt8) × Int × (List UInt8)) where
  enc v := ([.ptr 0 0, .fn 45 [.ptr 1 0]], [.box [.d (.i .i64 v.1), .d (.s v.2.1), .d (.s v.2.2.1), .d (.i .i64 v.2.2.2.1)], .box [.d (.s v.2.2.2.2)]])
  pat
    | ([.ptr 0 0, .fn 45 [.ptr 1 0]], [.box [.d (.i .i64 p1), .d (.s p2), .d (.s p3), .d (.i .i64 p4)], .box [.d (.s p5)]]) => some (p1, p2, p3, p4, p5)
    | _ => none
  ok z v h := by
    split at h
    · cases h
      all_goals rfl
    · cases h
def io35 : Io T (List S70) where
  enc v := ([.sl 0 none], [.arr 70 v])
  pat
    | ([.sl 0 none], [.arr tp1 p1]) => (asT 70 tp1 p1).bind fun q1 => some q1
    | _ => none
  ok z v h := by
    split at h
    · obtain ⟨q1, hp1, h⟩ := Option.bind_eq_some_iff.1 h
      cases h
      rw [asT_a hp1]
      all_goals rfl
    · cases h
def io36 : Io T ((List UInt8) × (List S70)) where
  enc v := ([.d (.s v.1), .sl 0 none], [.arr 70 v.2])
  pat
    | ([.d (.s p1), .sl 0 none], [.arr tp2 p2]) => (asT 70 tp2 p2).bind fun q2 => some (p1, q2)
    | _ => none
  ok z v h := by
    split at h
    · obtain ⟨q2, hp2, h⟩ := Option.bind_eq_some_iff.1 h
      cases h
      rw [asT_a hp2]
      all_goals rfl
    · cases h
def io37 : Io T (List S70) where
  enc v := ([.ptr 0 0], [.box [.d (.l 70 v)]])
  pat
    | ([.ptr 0 0], [.box [.d (.l tp1 p1)]]) => (asT 70 tp1 p1).bind fun q1 => some q1
    | _ => none
  ok z v h := by
    split at h
    · obtain ⟨q1, hp1, h⟩ := Option.bind_eq_some_iff.1 h
      cases h
      rw [asT_l hp1]
      all_goals rfl
    · cases h
def io38 : Io T (Int × (List UInt8) × (List UInt8) × Int × (List S70)) where
  enc v := ([.agg [.d (.i .i64 v.1), .d (.s v.2.1), .d (.s v.2.2.1), .d (.i .i64 v.2.2.2.1)]], [.box [.d (.l 70 v.2.2.2.2)]])
  pat
    | ([.agg [.d (.i .i64 p1), .d (.s p2), .d (.s p3), .d (.i .i64 p4)]], [.box [.d (.l tp5 p5)]]) => (asT 70 tp5 p5).bind fun q5 => some (p1, p2, p3, p4, q5)
    | _ => none
  ok z v h := by
    split at h
    · obtain ⟨q5, hp5, h⟩ := Option.bind_eq_some_iff.1 h
      cases h
      rw [asT_l hp5]
      all_goals rfl
    · cases h
def io39 : Io T (Bool × (List S70)) where
  enc v := ([.d (.b v.1)], [.box [.d (.l 70 v.2)]])
  pat
    | ([.d (.b p1)], [.box [.d (.l tp2 p2)]]) => (asT 70 tp2 p2).bind fun q2 => some (p1, q2)
    | _ => none
  ok z v h := by
    split at h
    · obtain ⟨q2, hp2, h⟩ := Option.bind_eq_some_iff.1 h
      cases h
      rw [asT_l hp2]
      all_goals rfl
    · cases h
def io40 : Io T (Int × (List S70) × Int × (List UInt8) × (List UInt8) × Int) where
  enc v := ([.ptr 0 0, .d (.i .i64 v.1), .ptr 1 0], [.box [.d (.l 70 v.2.1)], .box [.d (.i .i64 v.2.2.1), .d (.s v.2.2.2.1), .d (.s v.2.2.2.2.1), .d (.i .i64 v.2.2.2.2.2)]])
  pat
    | ([.ptr 0 0, .d (.i .i64 p1), .ptr 1 0], [.box [.d (.l tp2 p2)], .box [.d (.i .i64 p3), .d (.s p4), .d (.s p5), .d (.i .i64 p6)]]) => (asT 70 tp2 p2).bind fun q2 => some (p1, q2, p3, p4, p5, p6)
    | _ => none
  ok z v h := by
    split at h
    · obtain ⟨q2, hp2, h⟩ := Option.bind_eq_some_iff.1 h
      cases h
      rw [asT_l hp2]
      all_goals rfl
    · cases h
def io41 : Io T (Int × (List S70)) where
  enc v := ([.ptr 0 0, .d (.i .i64 v.1)], [.box [.d (.l 70 v.2)]])
  pat
    | ([.ptr 0 0, .d (.i .i64 p1)], [.box [.d (.l tp2 p2)]]) => (asT 70 tp2 p2).bind fun q2 => some (p1, q2)
    | _ => none
  ok z v h := by
    split at h
    · obtain ⟨q2, hp2, h⟩ := Option.bind_eq_some_iff.1 h
      cases h
      rw [asT_l hp2]
      all_goals rfl
    · cases h
def io42 : Io T ((List S70) × Int × (List UInt8) × (List UInt8) × Int × Int × (List UInt8) × (List UInt8) × Int) where
  enc v := ([.ptr 0 0, .ptr 1 0, .ptr 2 0], [.box [.d (.l 70 v.1)], .box [.d (.i .i64 v.2.1), .d (.s v.2.2.1), .d (.s v.2.2.2.1), .d (.i .i64 v.2.2.2.2.1)], .box [.d (.i .i64 v.2.2.2.2.2.1), .d (.s v.2.2.2.2.2.2.1), .d (.s v.2.2.2.2.2.2.2.1), .d (.i .i64 v.2.2.2.2.2.2.2.2)]])
  pat
    | ([.ptr 0 0, .ptr 1 0, .ptr 2 0], [.box [.d (.l tp1 p1)], .box [.d (.i .i64 p2), .d (.s p3), .d (.s p4), .d (.i .i64 p5)], .box [.d (.i .i64 p6), .d (.s p7), .d (.s p8), .d (.i .i64 p9)]]) => (asT 70 tp1 p1).bind fun q1 => some (q1, p2, p3, p4, p5, p6, p7, p8, p9)
    | _ => none
  ok z v h := by
    split at h
    · obtain ⟨q1, hp1, h⟩ := Option.bind_eq_some_iff.1 h
      cases h
      rw [asT_l hp1]
      all_goals rfl
    · cases h
def io43 : Io T (Bool × (List S70)) where
  enc v := ([.ptr 0 0, .d (.b v.1)], [.box [.d (.l 70 v.2)]])
  pat
    | ([.ptr 0 0, .d (.b p1)], [.box [.d (.l tp2 p2)]]) => (asT 70 tp2 p2).bind fun q2 => some (p1, q2)
    | _ => none
  ok z v h := by
    split at h
    · obtain ⟨q2, hp2, h⟩ := Option.bind_eq_some_iff.1 h
      cases h
      rw [asT_l hp2]
      all_goals rfl
    · cases h
def io44 : Io T (List S70) where
  enc v := ([], [.box [.d (.l 70 v)]])
  pat
    | ([], [.box [.d (.l tp1 p1)]]) => (asT 70 tp1 p1).bind fun q1 => some q1
    | _ => none
  ok z v h := by
    split at h
    · obtain ⟨q1, hp1, h⟩ := Option.bind_eq_some_iff.1 h
      cases h
      rw [asT_l hp1]
      all_goals rfl
    · cases h
def io45 : Io T (Int × (List UInt8) × (List UInt8) × Int × Int × (List UInt8) × (List S70)) where
  enc v := ([.ptr 0 0, .agg [.d (.i .i64 v.1), .d (.s v.2.1), .d (.s v.2.2.1), .d (.i .i64 v.2.2.2.1)], .d (.i .i64 v.2.2.2.2.1), .d (.s v.2.2.2.2.2.1)], [.box [.d (.l 70 v.2.2.2.2.2.2)]])
  pat
    | ([.ptr 0 0, .agg [.d (.i .i64 p1), .d (.s p2), .d (.s p3), .d (.i .i64 p4)], .d (.i .i64 p5), .d (.s p6)], [.box [.d (.l tp7 p7)]]) => (asT 70 tp7 p7).bind fun q7 => some (p1, p2, p3, p4, p5, p6, q7)
    | _ => none
  ok z v h := by
    split at h
    · obtain ⟨q7, hp7, h⟩ := Option.bind_eq_some_iff.1 h
      cases h
      rw [asT_l hp7]
      all_goals rfl
    · cases h
def io46 : Io T ((List UInt8) × (List S70)) where
  enc v := ([.d (.s v.1)], [.box [.d (.l 70 v.2)]])
  pat
    | ([.d (.s p1)], [.box [.d (.l tp2 p2)]]) => (asT 70 tp2 p2).bind fun q2 => some (p1, q2)
    | _ => none
  ok z v h := by
    split at h
    · obtain ⟨q2, hp2, h⟩ := Option.bind_eq_some_iff.1 h
      cases h
      rw [asT_l hp2]
      all_goals rfl
    · cases h
def io47 : Io T ((List UInt8) × (List S70)) where
  enc v := ([.ptr 0 0, .d (.s v.1)], [.box [.d (.l 70 v.2)]])
  pat
    | ([.ptr 0 0, .d (.s p1)], [.box [.d (.l tp2 p2)]]) => (asT 70 tp2 p2).bind fun q2 => some (p1, q2)
    | _ => none
  ok z v h := by
    split at h
    · obtain ⟨q2, hp2, h⟩ := Option.bind_eq_some_iff.1 h
      cases h
      rw [asT_l hp2]
      all_goals rfl
    · cases h
def io48 : Io T (Int × (List UInt8) × Int × (List UInt8) × Int × Int × (List S70)) where
  enc v := ([.agg [.d (.i .i64 v.1), .d (.s v.2.1), .d (.i .u8 v.2.2.1), .d (.s v.2.2.2.1), .d (.i .i64 v.2.2.2.2.1), .d (.i .i64 v.2.2.2.2.2.1), .d .ns]], [.box [.d (.l 70 v.2.2.2.2.2.2)]])
  pat
    | ([.agg [.d (.i .i64 p1), .d (.s p2), .d (.i .u8 p3), .d (.s p4), .d (.i .i64 p5), .d (.i .i64 p6), .d .ns]], [.box [.d (.l tp7 p7)]]) => (asT 70 tp7 p7).bind fun q7 => some (p1, p2, p3, p4, p5, p6, q7)
    | _ => none
  ok z v h := by
    split at h
    · obtain ⟨q7, hp7, h⟩ := Option.bind_eq_some_iff.1 h
      cases h
      rw [asT_l hp7]
      all_goals rfl
    · cases h
def io49 : Io T ((List S70) × Int × (List UInt8) × Int × (List UInt8) × Int × Int × Int × (List UInt8) × Int × (List UInt8) × Int × Int) where
  enc v := ([.ptr 0 0, .ptr 1 0, .ptr 2 0], [.box [.d (.l 70 v.1)], .box [.d (.i .i64 v.2.1), .d (.s v.2.2.1), .d (.i .u8 v.2.2.2.1), .d (.s v.2.2.2.2.1), .d (.i .i64 v.2.2.2.2.2.1), .d (.i .i64 v.2.2.2.2.2.2.1), .d .ns], .box [.d (.i .i64 v.2.2.2.2.2.2.2.1), .d (.s v.2.2.2.2.2.2.2.2.1), .d (.i .u8 v.2.2.2.2.2.2.2.2.2.1), .d (.s v.2.2.2.2.2.2.2.2.2.2.1), .d (.i .i64 v.2.2.2.2.2.2.2.2.2.2.2.1), .d (.i .i64 v.2.2.2.2.2.2.2.2.2.2.2.2), .d .ns]])
  pat
    | ([.ptr 0 0, .ptr 1 0, .ptr 2 0], [.box [.d (.l tp1 p1)], .box [.d (.i .i64 p2), .d (.s p3), .d (.i .u8 p4), .d (.s p5), .d (.i .i64 p6), .d (.i .i64 p7), .d .ns], .box [.d (.i .i64 p8), .d (.s p9), .d (.i .u8 p10), .d (.s p11), .d (.i .i64 p12), .d (.i .i64 p13), .d .ns]]) => (asT 70 tp1 p1).bind fun q1 => some (q1, p2, p3, p4, p5, p6, p7, p8, p9, p10, p11, p12, p13)
    | _ => none
  ok z v h := by
    split at h
    · obtain ⟨q1, hp1, h⟩ := Option.bind_eq_some_iff.1 h
      cases h
      rw [asT_l hp1]
      all_goals rfl
    · cases h
def io50 : Io T ((List UInt8) × (List UInt8) × Bool) where
  enc v := ([.d (.s v.1), .d (.s v.2.1), .d (.b v.2.2)], [])
  pat
    | ([.d (.s p1), .d (.s p2), .d (.b p3)], []) => some (p1, p2, p3)
    | _ => none
  ok z v h := by
    split at h
    · cases h
      all_goals rfl
    · cases h
def io51 : Io T (Int × Bool) where
  enc v := ([.d (.i .i64 v.1), .d (.ie v.2)], [])
  pat
    | ([.d (.i .i64 p1), .d (.ie p2)], []) => some (p1, p2)
    | _ => none
  ok z v h := by
    split at h
    · cases h
      all_goals rfl
    · cases h
def io52 : Io T (Int × Bool) where
  enc v := ([.d (.i .i64 v.1), .d (.b v.2)], [])
  pat
    | ([.d (.i .i64 p1), .d (.b p2)], []) => some (p1, p2)
    | _ => none
  ok z v h := by
    split at h
    · cases h
      all_goals rfl
    · cases h
def io53 : Io T (Int × Int × Bool) where
  enc v := ([.d (.i .i64 v.1), .d (.i .i64 v.2.1), .d (.b v.2.2)], [])
  pat
    | ([.d (.i .i64 p1), .d (.i .i64 p2), .d (.b p3)], []) => some (p1, p2, p3)
    | _ => none
  ok z v h := by
    split at h
    · cases h
      all_goals rfl
    · cases h
def io54 : Io T (Int × Bool × Int) where
  enc v := ([.d (.i .i64 v.1), .d (.b v.2.1), .d (.i .i64 v.2.2)], [])
  pat
    | ([.d (.i .i64 p1), .d (.b p2), .d (.i .i64 p3)], []) => some (p1, p2, p3)
    | _ => none
  ok z v h := by
    split at h
    · cases h
      all_goals rfl
    · cases h
def io55 : Io T ((List UInt8) × Int × Bool) where
  enc v := ([.d (.s v.1), .d (.i .i64 v.2.1), .d (.b v.2.2)], [])
  pat
    | ([.d (.s p1), .d (.i .i64 p2), .d (.b p3)], []) => some (p1, p2, p3)
    | _ => none
  ok z v h := by
    split at h
    · cases h
      all_goals rfl
    · cases h
def io56 : Io T (Int × (List UInt8) × (List S70) × Int × (List UInt8) × Int × (List UInt8) × Int × Int) where
  enc v := ([.ptr 0 0, .d (.i .i64 v.1), .ptr 1 0, .d (.s v.2.1)], [.box [.d (.l 70 v.2.2.1)], .box [.d (.i .i64 v.2.2.2.1), .d (.s v.2.2.2.2.1), .d (.i .u8 v.2.2.2.2.2.1), .d (.s v.2.2.2.2.2.2.1), .d (.i .i64 v.2.2.2.2.2.2.2.1), .d (.i .i64 v.2.2.2.2.2.2.2.2), .d .ns]])
  pat
    | ([.ptr 0 0, .d (.i .i64 p1), .ptr 1 0, .d (.s p2)], [.box [.d (.l tp3 p3)], .box [.d (.i .i64 p4), .d (.s p5), .d (.i .u8 p6), .d (.s p7), .d (.i .i64 p8), .d (.i .i64 p9), .d .ns]]) => (asT 70 tp3 p3).bind fun q3 => some (p1, p2, q3, p4, p5, p6, p7, p8, p9)
    | _ => none
  ok z v h := by
    split at h
    · obtain ⟨q3, hp3, h⟩ := Option.bind_eq_some_iff.1 h
      cases h
      rw [asT_l hp3]
      all_goals rfl
    · cases h
def io57 : Io T (Int × (List UInt8) × Int × (List UInt8) × Int × Int × (List S36) × (List S70)) where
  enc v := ([.agg [.d (.i .i64 v.1), .d (.s v.2.1), .d (.i .u8 v.2.2.1), .d (.s v.2.2.2.1), .d (.i .i64 v.2.2.2.2.1), .d (.i .i64 v.2.2.2.2.2.1), .d (.l 36 v.2.2.2.2.2.2.1)]], [.box [.d (.l 70 v.2.2.2.2.2.2.2)]])
  pat
    | ([.agg [.d (.i .i64 p1), .d (.s p2), .d (.i .u8 p3), .d (.s p4), .d (.i .i64 p5), .d (.i .i64 p6), .d (.l tp7 p7)]], [.box [.d (.l tp8 p8)]]) => (asT 36 tp7 p7).bind fun q7 => (asT 70 tp8 p8).bind fun q8 => some (p1, p2, p3, p4, p5, p6, q7, q8)
    | _ => none
  ok z v h := by
    split at h
    · obtain ⟨q7, hp7, h⟩ := Option.bind_eq_some_iff.1 h
      obtain ⟨q8, hp8, h⟩ := Option.bind_eq_some_iff.1 h
      cases h
      rw [asT_l hp7]
      rw [asT_l hp8]
      all_goals rfl
    · cases h
def io58 : Io T (Int × (List UInt8) × Int × (List UInt8) × Int × Int × (List S36) × Bool × (List S70)) where
  enc v := ([.agg [.d (.i .i64 v.1), .d (.s v.2.1), .d (.i .u8 v.2.2.1), .d (.s v.2.2.2.1), .d (.i .i64 v.2.2.2.2.1), .d (.i .i64 v.2.2.2.2.2.1), .d (.l 36 v.2.2.2.2.2.2.1)], .d (.b v.2.2.2.2.2.2.2.1)], [.box [.d (.l 70 v.2.2.2.2.2.2.2.2)]])
  pat
    | ([.agg [.d (.i .i64 p1), .d (.s p2), .d (.i .u8 p3), .d (.s p4), .d (.i .i64 p5), .d (.i .i64 p6), .d (.l tp7 p7)], .d (.b p8)], [.box [.d (.l tp9 p9)]]) => (asT 36 tp7 p7).bind fun q7 => (asT 70 tp9 p9).bind fun q9 => some (p1, p2, p3, p4, p5, p6, q7, p8, q9)
    | _ => none
  ok z v h := by
    split at h
    · obtain ⟨q7, hp7, h⟩ := Option.bind_eq_some_iff.1 h
      obtain ⟨q9, hp9, h⟩ := Option.bind_eq_some_iff.1 h
      cases h
      rw [asT_l hp7]
      rw [asT_l hp9]
      all_goals rfl
    · cases h
def io59 : Io T ((List S70) × (List S26)) where
  enc v := ([.sl 1 none], [.box [.d (.l 70 v.1)], .arr 26 v.2])
  pat
    | ([.sl 1 none], [.box [.d (.l tp1 p1)], .arr tp2 p2]) => (asT 70 tp1 p1).bind fun q1 => (asT 26 tp2 p2).bind fun q2 => some (q1, q2)
    | _ => none
  ok z v h := by
    split at h
    · obtain ⟨q1, hp1, h⟩ := Option.bind_eq_some_iff.1 h
      obtain ⟨q2, hp2, h⟩ := Option.bind_eq_some_iff.1 h
      cases h
      rw [asT_l hp1]
      rw [asT_a hp2]
      all_goals rfl
    · cases h
def io60 : Io T (Bool × (List S70) × (List S26) × Int × (List UInt8) × Int × (List UInt8) × Int × Int × (List S36)) where
  enc v := ([.ptr 0 0, .sl 1 none, .ptr 2 0, .d (.b v.1)], [.box [.d (.l 70 v.2.1)], .arr 26 v.2.2.1, .box [.d (.i .i64 v.2.2.2.1), .d (.s v.2.2.2.2.1), .d (.i .u8 v.2.2.2.2.2.1), .d (.s v.2.2.2.2.2.2.1), .d (.i .i64 v.2.2.2.2.2.2.2.1), .d (.i .i64 v.2.2.2.2.2.2.2.2.1), .d (.l 36 v.2.2.2.2.2.2.2.2.2)]])
  pat
    | ([.ptr 0 0, .sl 1 none, .ptr 2 0, .d (.b p1)], [.box [.d (.l tp2 p2)], .arr tp3 p3, .box [.d (.i .i64 p4), .d (.s p5), .d (.i .u8 p6), .d (.s p7), .d (.i .i64 p8), .d (.i .i64 p9), .d (.l tp10 p10)]]) => (asT 70 tp2 p2).bind fun q2 => (asT 26 tp3 p3).bind fun q3 => (asT 36 tp10 p10).bind fun q10 => some (p1, q2, q3, p4, p5, p6, p7, p8, p9, q10)
    | _ => none
  ok z v h := by
    split at h
    · obtain ⟨q2, hp2, h⟩ := Option.bind_eq_some_iff.1 h
      obtain ⟨q3, hp3, h⟩ := Option.bind_eq_some_iff.1 h
      obtain ⟨q10, hp10, h⟩ := Option.bind_eq_some_iff.1 h
      cases h
      rw [asT_l hp2]
      rw [asT_l hp10]
      rw [asT_a hp3]
      all_goals rfl
    · cases h
def io61 : Io T ((List S70) × (List S26)) where
  enc v := ([.ptr 0 0, .sl 1 none], [.box [.d (.l 70 v.1)], .arr 26 v.2])
  pat
    | ([.ptr 0 0, .sl 1 none], [.box [.d (.l tp1 p1)], .arr tp2 p2]) => (asT 70 tp1 p1).bind fun q1 => (asT 26 tp2 p2).bind fun q2 => some (q1, q2)
    | _ => none
  ok z v h := by
    split at h
    · obtain ⟨q1, hp1, h⟩ := Option.bind_eq_some_iff.1 h
      obtain ⟨q2, hp2, h⟩ := Option.bind_eq_some_iff.1 h
      cases h
      rw [asT_l hp1]
      rw [asT_a hp2]
      all_goals rfl
    · cases h
def io62 : Io T ((List (List S26)) × (List Int) × (List S70)) where
  enc v := ([.agg [.d (.l 27 v.1), .d (.l 5 v.2.1)]], [.box [.d (.l 70 v.2.2)]])
  pat
    | ([.agg [.d (.l tp1 p1), .d (.l tp2 p2)]], [.box [.d (.l tp3 p3)]]) => (asT 27 tp1 p1).bind fun q1 => (asT 5 tp2 p2).bind fun q2 => (asT 70 tp3 p3).bind fun q3 => some (q1, q2, q3)
    | _ => none
  ok z v h := by
    split at h
    · obtain ⟨q1, hp1, h⟩ := Option.bind_eq_some_iff.1 h
      obtain ⟨q2, hp2, h⟩ := Option.bind_eq_some_iff.1 h
      obtain ⟨q3, hp3, h⟩ := Option.bind_eq_some_iff.1 h
      cases h
      rw [asT_l hp1]
      rw [asT_l hp2]
      rw [asT_l hp3]
      all_goals rfl
    · cases h
def io63 : Io T ((List S70) × (List (List S26)) × (List Int)) where
  enc v := ([.ptr 0 0, .ptr 1 0, .ptr 2 0], [.box [.d (.l 70 v.1)], .box [.d .ns, .d .ns], .box [.sl 3 none, .sl 4 none], .arr 27 v.2.1, .arr 5 v.2.2])
  pat
    | ([.ptr 0 0, .ptr 1 0, .ptr 2 0], [.box [.d (.l tp1 p1)], .box [.d .ns, .d .ns], .box [.sl 3 none, .sl 4 none], .arr tp2 p2, .arr tp3 p3]) => (asT 70 tp1 p1).bind fun q1 => (asT 27 tp2 p2).bind fun q2 => (asT 5 tp3 p3).bind fun q3 => some (q1, q2, q3)
    | _ => none
  ok z v h := by
    split at h
    · obtain ⟨q1, hp1, h⟩ := Option.bind_eq_some_iff.1 h
      obtain ⟨q2, hp2, h⟩ := Option.bind_eq_some_iff.1 h
      obtain ⟨q3, hp3, h⟩ := Option.bind_eq_some_iff.1 h
      cases h
      rw [asT_l hp1]
      rw [asT_a hp2]
      rw [asT_a hp3]
      all_goals rfl
    · cases h
def io64 : Io T ((List S70) × (List S36)) where
  enc v := ([.sl 1 none], [.box [.d (.l 70 v.1)], .arr 36 v.2])
  pat
    | ([.sl 1 none], [.box [.d (.l tp1 p1)], .arr tp2 p2]) => (asT 70 tp1 p1).bind fun q1 => (asT 36 tp2 p2).bind fun q2 => some (q1, q2)
    | _ => none
  ok z v h := by
    split at h
    · obtain ⟨q1, hp1, h⟩ := Option.bind_eq_some_iff.1 h
      obtain ⟨q2, hp2, h⟩ := Option.bind_eq_some_iff.1 h
      cases h
      rw [asT_l hp1]
      rw [asT_a hp2]
      all_goals rfl
    · cases h
def io65 : Io T ((List UInt8) × (List S70) × (List S36)) where
  enc v := ([.ptr 0 0, .d (.s v.1), .sl 1 none], [.box [.d (.l 70 v.2.1)], .arr 36 v.2.2])
  pat
    | ([.ptr 0 0, .d (.s p1), .sl 1 none], [.box [.d (.l tp2 p2)], .arr tp3 p3]) => (asT 70 tp2 p2).bind fun q2 => (asT 36 tp3 p3).bind fun q3 => some (p1, q2, q3)
    | _ => none
  ok z v h := by
    split at h
    · obtain ⟨q2, hp2, h⟩ := Option.bind_eq_some_iff.1 h
      obtain ⟨q3, hp3, h⟩ := Option.bind_eq_some_iff.1 h
      cases h
      rw [asT_l hp2]
      rw [asT_a hp3]
      all_goals rfl
    · cases h
def io66 : Io T ((List S36) × Int) where
  enc v := ([.d (.l 36 v.1), .d (.i .i64 v.2)], [])
  pat
    | ([.d (.l tp1 p1), .d (.i .i64 p2)], []) => (asT 36 tp1 p1).bind fun q1 => some (q1, p2)
    | _ => none
  ok z v h := by
    split at h
    · obtain ⟨q1, hp1, h⟩ := Option.bind_eq_some_iff.1 h
      cases h
      rw [asT_l hp1]
      all_goals rfl
    · cases h
def io67 : Io T (Int × Int × (List S36) × Int × Int × (List (List S26)) × Int × Int × (List S26) × Int × Int) where
  enc v := ([.d (.i .i64 v.1), .d (.i .i64 v.2.1), .d (.l 36 v.2.2.1), .d (.i .i64 v.2.2.2.1), .d (.i .i64 v.2.2.2.2.1), .d (.l 27 v.2.2.2.2.2.1), .d (.i .i64 v.2.2.2.2.2.2.1), .d (.i .i64 v.2.2.2.2.2.2.2.1), .d (.l 26 v.2.2.2.2.2.2.2.2.1), .d (.i .i64 v.2.2.2.2.2.2.2.2.2.1), .d (.i .i64 v.2.2.2.2.2.2.2.2.2.2)], [])
  pat
    | ([.d (.i .i64 p1), .d (.i .i64 p2), .d (.l tp3 p3), .d (.i .i64 p4), .d (.i .i64 p5), .d (.l tp6 p6), .d (.i .i64 p7), .d (.i .i64 p8), .d (.l tp9 p9), .d (.i .i64 p10), .d (.i .i64 p11)], []) => (asT 36 tp3 p3).bind fun q3 => (asT 27 tp6 p6).bind fun q6 => (asT 26 tp9 p9).bind fun q9 => some (p1, p2, q3, p4, p5, q6, p7, p8, q9, p10, p11)
    | _ => none
  ok z v h := by
    split at h
    · obtain ⟨q3, hp3, h⟩ := Option.bind_eq_some_iff.1 h
      obtain ⟨q6, hp6, h⟩ := Option.bind_eq_some_iff.1 h
      obtain ⟨q9, hp9, h⟩ := Option.bind_eq_some_iff.1 h
      cases h
      rw [asT_l hp3]
      rw [asT_l hp6]
      rw [asT_l hp9]
      all_goals rfl
    · cases h
def io68 : Io T (Int × Int × (List S36) × Int × Int × (List (List S26)) × Int × Int) where
  enc v := ([.d (.i .i64 v.1), .d (.i .i64 v.2.1), .d (.l 36 v.2.2.1), .d (.i .i64 v.2.2.2.1), .d (.i .i64 v.2.2.2.2.1), .d (.l 27 v.2.2.2.2.2.1), .d (.i .i64 v.2.2.2.2.2.2.1), .d (.i .i64 v.2.2.2.2.2.2.2)], [])
  pat
    | ([.d (.i .i64 p1), .d (.i .i64 p2), .d (.l tp3 p3), .d (.i .i64 p4), .d (.i .i64 p5), .d (.l tp6 p6), .d (.i .i64 p7), .d (.i .i64 p8)], []) => (asT 36 tp3 p3).bind fun q3 => (asT 27 tp6 p6).bind fun q6 => some (p1, p2, q3, p4, p5, q6, p7, p8)
    | _ => none
  ok z v h := by
    split at h
    · obtain ⟨q3, hp3, h⟩ := Option.bind_eq_some_iff.1 h
      obtain ⟨q6, hp6, h⟩ := Option.bind_eq_some_iff.1 h
      cases h
      rw [asT_l hp3]
      rw [asT_l hp6]
      all_goals rfl
    · cases h
def io69 : Io T (Int × Int × (List S36) × Int × Int) where
  enc v := ([.d (.i .i64 v.1), .d (.i .i64 v.2.1), .d (.l 36 v.2.2.1), .d (.i .i64 v.2.2.2.1), .d (.i .i64 v.2.2.2.2)], [])
  pat
    | ([.d (.i .i64 p1), .d (.i .i64 p2), .d (.l tp3 p3), .d (.i .i64 p4), .d (.i .i64 p5)], []) => (asT 36 tp3 p3).bind fun q3 => some (p1, p2, q3, p4, p5)
    | _ => none
  ok z v h := by
    split at h
    · obtain ⟨q3, hp3, h⟩ := Option.bind_eq_some_iff.1 h
      cases h
      rw [asT_l hp3]
      all_goals rfl
    · cases h
def io70 : Io T ((List UInt8) × Int) where
  enc v := ([.d (.s v.1), .d (.i .u8 v.2)], [])
  pat
    | ([.d (.s p1), .d (.i .u8 p2)], []) => some (p1, p2)
    | _ => none
  ok z v h := by
    split at h
    · cases h
      all_goals rfl
    · cases h
def io71 : Io T (Int × (List UInt8) × Int × (List UInt8) × Int × Int × (List S36)) where
  enc v := ([.agg [.d (.i .i64 v.1), .d (.s v.2.1), .d (.i .u8 v.2.2.1), .d (.s v.2.2.2.1), .d (.i .i64 v.2.2.2.2.1), .d (.i .i64 v.2.2.2.2.2.1), .d (.l 36 v.2.2.2.2.2.2)]], [])
  pat
    | ([.agg [.d (.i .i64 p1), .d (.s p2), .d (.i .u8 p3), .d (.s p4), .d (.i .i64 p5), .d (.i .i64 p6), .d (.l tp7 p7)]], []) => (asT 36 tp7 p7).bind fun q7 => some (p1, p2, p3, p4, p5, p6, q7)
    | _ => none
  ok z v h := by
    split at h
    · obtain ⟨q7, hp7, h⟩ := Option.bind_eq_some_iff.1 h
      cases h
      rw [asT_l hp7]
      all_goals rfl
    · cases h
def io72 : Io T (Int × (List UInt8) × Int × (List UInt8) × Int × Int × (List S36) × Int) where
  enc v := ([.agg [.d (.i .i64 v.1), .d (.s v.2.1), .d (.i .u8 v.2.2.1), .d (.s v.2.2.2.1), .d (.i .i64 v.2.2.2.2.1), .d (.i .i64 v.2.2.2.2.2.1), .d (.l 36 v.2.2.2.2.2.2.1)], .d (.i .i64 v.2.2.2.2.2.2.2)], [])
  pat
    | ([.agg [.d (.i .i64 p1), .d (.s p2), .d (.i .u8 p3), .d (.s p4), .d (.i .i64 p5), .d (.i .i64 p6), .d (.l tp7 p7)], .d (.i .i64 p8)], []) => (asT 36 tp7 p7).bind fun q7 => some (p1, p2, p3, p4, p5, p6, q7, p8)
    | _ => none
  ok z v h := by
    split at h
    · obtain ⟨q7, hp7, h⟩ := Option.bind_eq_some_iff.1 h
      cases h
      rw [asT_l hp7]
      all_goals rfl
    · cases h
def io73 : Io T (List S36) where
  enc v := ([.d (.l 36 v)], [])
  pat
    | ([.d (.l tp1 p1)], []) => (asT 36 tp1 p1).bind fun q1 => some q1
    | _ => none
  ok z v h := by
    split at h
    · obtain ⟨q1, hp1, h⟩ := Option.bind_eq_some_iff.1 h
      cases h
      rw [asT_l hp1]
      all_goals rfl
    · cases h
def io74 : Io T ((List S36) × (List S26) × (List S36) × Int × Int × (List (List S26)) × Int × Int × (List S26) × Int × Int × (List (List S26)) × (List Int)) where
  enc v := ([.d (.l 36 v.1), .ptr 0 0, .d (.l 26 v.2.1), .d (.l 36 v.2.2.1), .d (.i .i64 v.2.2.2.1), .d (.i .i64 v.2.2.2.2.1), .d (.l 27 v.2.2.2.2.2.1), .d (.i .i64 v.2.2.2.2.2.2.1), .d (.i .i64 v.2.2.2.2.2.2.2.1), .d (.l 26 v.2.2.2.2.2.2.2.2.1), .d (.i .i64 v.2.2.2.2.2.2.2.2.2.1), .d (.i .i64 v.2.2.2.2.2.2.2.2.2.2.1)], [.box [.d (.l 27 v.2.2.2.2.2.2.2.2.2.2.2.1), .d (.l 5 v.2.2.2.2.2.2.2.2.2.2.2.2)]])
  pat
    | ([.d (.l tp1 p1), .ptr 0 0, .d (.l tp2 p2), .d (.l tp3 p3), .d (.i .i64 p4), .d (.i .i64 p5), .d (.l tp6 p6), .d (.i .i64 p7), .d (.i .i64 p8), .d (.l tp9 p9), .d (.i .i64 p10), .d (.i .i64 p11)], [.box [.d (.l tp12 p12), .d (.l tp13 p13)]]) => (asT 36 tp1 p1).bind fun q1 => (asT 26 tp2 p2).bind fun q2 => (asT 36 tp3 p3).bind fun q3 => (asT 27 tp6 p6).bind fun q6 => (asT 26 tp9 p9).bind fun q9 => (asT 27 tp12 p12).bind fun q12 => (asT 5 tp13 p13).bind fun q13 => some (q1, q2, q3, p4, p5, q6, p7, p8, q9, p10, p11, q12, q13)
    | _ => none
  ok z v h := by
    split at h
    · obtain ⟨q1, hp1, h⟩ := Option.bind_eq_some_iff.1 h
      obtain ⟨q2, hp2, h⟩ := Option.bind_eq_some_iff.1 h
      obtain ⟨q3, hp3, h⟩ := Option.bind_eq_some_iff.1 h
      obtain ⟨q6, hp6, h⟩ := Option.bind_eq_some_iff.1 h
      obtain ⟨q9, hp9, h⟩ := Option.bind_eq_some_iff.1 h
      obtain ⟨q12, hp12, h⟩ := Option.bind_eq_some_iff.1 h
      obtain ⟨q13, hp13, h⟩ := Option.bind_eq_some_iff.1 h
      cases h
      rw [asT_l hp1]
      rw [asT_l hp2]
      rw [asT_l hp3]
      rw [asT_l hp6]
      rw [asT_l hp9]
      rw [asT_l hp12]
      rw [asT_l hp13]
      all_goals rfl
    · cases h
def io75 : Io T ((List S36) × (List S26) × (List S36) × Int × Int × (List (List S26)) × Int × Int × (List (List S26)) × (List Int)) where
  enc v := ([.d (.l 36 v.1), .ptr 0 0, .d (.l 26 v.2.1), .d (.l 36 v.2.2.1), .d (.i .i64 v.2.2.2.1), .d (.i .i64 v.2.2.2.2.1), .d (.l 27 v.2.2.2.2.2.1), .d (.i .i64 v.2.2.2.2.2.2.1), .d (.i .i64 v.2.2.2.2.2.2.2.1)], [.box [.d (.l 27 v.2.2.2.2.2.2.2.2.1), .d (.l 5 v.2.2.2.2.2.2.2.2.2)]])
  pat
    | ([.d (.l tp1 p1), .ptr 0 0, .d (.l tp2 p2), .d (.l tp3 p3), .d (.i .i64 p4), .d (.i .i64 p5), .d (.l tp6 p6), .d (.i .i64 p7), .d (.i .i64 p8)], [.box [.d (.l tp9 p9), .d (.l tp10 p10)]]) => (asT 36 tp1 p1).bind fun q1 => (asT 26 tp2 p2).bind fun q2 => (asT 36 tp3 p3).bind fun q3 => (asT 27 tp6 p6).bind fun q6 => (asT 27 tp9 p9).bind fun q9 => (asT 5 tp10 p10).bind fun q10 => some (q1, q2, q3, p4, p5, q6, p7, p8, q9, q10)
    | _ => none
  ok z v h := by
    split at h
    · obtain ⟨q1, hp1, h⟩ := Option.bind_eq_some_iff.1 h
      obtain ⟨q2, hp2, h⟩ := Option.bind_eq_some_iff.1 h
      obtain ⟨q3, hp3, h⟩ := Option.bind_eq_some_iff.1 h
      obtain ⟨q6, hp6, h⟩ := Option.bind_eq_some_iff.1 h
      obtain ⟨q9, hp9, h⟩ := Option.bind_eq_some_iff.1 h
      obtain ⟨q10, hp10, h⟩ := Option.bind_eq_some_iff.1 h
      cases h
      rw [asT_l hp1]
      rw [asT_l hp2]
      rw [asT_l hp3]
      rw [asT_l hp6]
      rw [asT_l hp9]
      rw [asT_l hp10]
      all_goals rfl
    · cases h
def io76 : Io T ((List S36) × (List S36) × Int × Int × (List (List S26)) × Int × Int × (List (List S26)) × (List Int)) where
  enc v := ([.d (.l 36 v.1), .ptr 0 0, .d (.l 36 v.2.1), .d (.i .i64 v.2.2.1), .d (.i .i64 v.2.2.2.1), .d (.l 27 v.2.2.2.2.1), .d (.i .i64 v.2.2.2.2.2.1), .d (.i .i64 v.2.2.2.2.2.2.1)], [.box [.d (.l 27 v.2.2.2.2.2.2.2.1), .d (.l 5 v.2.2.2.2.2.2.2.2)]])
  pat
    | ([.d (.l tp1 p1), .ptr 0 0, .d (.l tp2 p2), .d (.i .i64 p3), .d (.i .i64 p4), .d (.l tp5 p5), .d (.i .i64 p6), .d (.i .i64 p7)], [.box [.d (.l tp8 p8), .d (.l tp9 p9)]]) => (asT 36 tp1 p1).bind fun q1 => (asT 36 tp2 p2).bind fun q2 => (asT 27 tp5 p5).bind fun q5 => (asT 27 tp8 p8).bind fun q8 => (asT 5 tp9 p9).bind fun q9 => some (q1, q2, p3, p4, q5, p6, p7, q8, q9)
    | _ => none
  ok z v h := by
    split at h
    · obtain ⟨q1, hp1, h⟩ := Option.bind_eq_some_iff.1 h
      obtain ⟨q2, hp2, h⟩ := Option.bind_eq_some_iff.1 h
      obtain ⟨q5, hp5, h⟩ := Option.bind_eq_some_iff.1 h
      obtain ⟨q8, hp8, h⟩ := Option.bind_eq_some_iff.1 h
      obtain ⟨q9, hp9, h⟩ := Option.bind_eq_some_iff.1 h
      cases h
      rw [asT_l hp1]
      rw [asT_l hp2]
      rw [asT_l hp5]
      rw [asT_l hp8]
      rw [asT_l hp9]
      all_goals rfl
    · cases h
def io77 : Io T ((List S36) × (List S36) × Int × Int × (List (List S26)) × (List Int)) where
  enc v := ([.d (.l 36 v.1), .ptr 0 0, .d (.l 36 v.2.1), .d (.i .i64 v.2.2.1), .d (.i .i64 v.2.2.2.1)], [.box [.d (.l 27 v.2.2.2.2.1), .d (.l 5 v.2.2.2.2.2)]])
  pat
    | ([.d (.l tp1 p1), .ptr 0 0, .d (.l tp2 p2), .d (.i .i64 p3), .d (.i .i64 p4)], [.box [.d (.l tp5 p5), .d (.l tp6 p6)]]) => (asT 36 tp1 p1).bind fun q1 => (asT 36 tp2 p2).bind fun q2 => (asT 27 tp5 p5).bind fun q5 => (asT 5 tp6 p6).bind fun q6 => some (q1, q2, p3, p4, q5, q6)
    | _ => none
  ok z v h := by
    split at h
    · obtain ⟨q1, hp1, h⟩ := Option.bind_eq_some_iff.1 h
      obtain ⟨q2, hp2, h⟩ := Option.bind_eq_some_iff.1 h
      obtain ⟨q5, hp5, h⟩ := Option.bind_eq_some_iff.1 h
      obtain ⟨q6, hp6, h⟩ := Option.bind_eq_some_iff.1 h
      cases h
      rw [asT_l hp1]
      rw [asT_l hp2]
      rw [asT_l hp5]
      rw [asT_l hp6]
      all_goals rfl
    · cases h
def io78 : Io T ((List S36) × (List S36) × Int × Int × (List Int) × Int × Int) where
  enc v := ([.d (.l 36 v.1), .d (.l 36 v.2.1), .d (.i .i64 v.2.2.1), .d (.i .i64 v.2.2.2.1), .d (.l 5 v.2.2.2.2.1), .d (.i .i64 v.2.2.2.2.2.1), .d (.i .i64 v.2.2.2.2.2.2)], [])
  pat
    | ([.d (.l tp1 p1), .d (.l tp2 p2), .d (.i .i64 p3), .d (.i .i64 p4), .d (.l tp5 p5), .d (.i .i64 p6), .d (.i .i64 p7)], []) => (asT 36 tp1 p1).bind fun q1 => (asT 36 tp2 p2).bind fun q2 => (asT 5 tp5 p5).bind fun q5 => some (q1, q2, p3, p4, q5, p6, p7)
    | _ => none
  ok z v h := by
    split at h
    · obtain ⟨q1, hp1, h⟩ := Option.bind_eq_some_iff.1 h
      obtain ⟨q2, hp2, h⟩ := Option.bind_eq_some_iff.1 h
      obtain ⟨q5, hp5, h⟩ := Option.bind_eq_some_iff.1 h
      cases h
      rw [asT_l hp1]
      rw [asT_l hp2]
      rw [asT_l hp5]
      all_goals rfl
    · cases h
def io79 : Io T ((List S36) × (List S36) × Int × Int) where
  enc v := ([.d (.l 36 v.1), .d (.l 36 v.2.1), .d (.i .i64 v.2.2.1), .d (.i .i64 v.2.2.2)], [])
  pat
    | ([.d (.l tp1 p1), .d (.l tp2 p2), .d (.i .i64 p3), .d (.i .i64 p4)], []) => (asT 36 tp1 p1).bind fun q1 => (asT 36 tp2 p2).bind fun q2 => some (q1, q2, p3, p4)
    | _ => none
  ok z v h := by
    split at h
    · obtain ⟨q1, hp1, h⟩ := Option.bind_eq_some_iff.1 h
      obtain ⟨q2, hp2, h⟩ := Option.bind_eq_some_iff.1 h
      cases h
      rw [asT_l hp1]
      rw [asT_l hp2]
      all_goals rfl
    · cases h
def io80 : Io T (Int × (List S36)) where
  enc v := ([.sl 0 none, .d (.i .i64 v.1)], [.arr 36 v.2])
  pat
    | ([.sl 0 none, .d (.i .i64 p1)], [.arr tp2 p2]) => (asT 36 tp2 p2).bind fun q2 => some (p1, q2)
    | _ => none
  ok z v h := by
    split at h
    · obtain ⟨q2, hp2, h⟩ := Option.bind_eq_some_iff.1 h
      cases h
      rw [asT_a hp2]
      all_goals rfl
    · cases h
def io81 : Io T (Unit) where
  enc v := ([], [])
  pat
    | ([], []) => some ()
    | _ => none
  ok z v h := by
    split at h <;> cases h; rfl
def io82 : Io T ((List S26) × (List S26)) where
  enc v := ([.d (.l 26 v.1), .d (.l 26 v.2)], [])
  pat
    | ([.d (.l tp1 p1), .d (.l tp2 p2)], []) => (asT 26 tp1 p1).bind fun q1 => (asT 26 tp2 p2).bind fun q2 => some (q1, q2)
    | _ => none
  ok z v h := by
    split at h
    · obtain ⟨q1, hp1, h⟩ := Option.bind_eq_some_iff.1 h
      obtain ⟨q2, hp2, h⟩ := Option.bind_eq_some_iff.1 h
      cases h
      rw [asT_l hp1]
      rw [asT_l hp2]
      all_goals rfl
    · cases h
def io83 : Io T ((List S26) × (List S26) × Int) where
  enc v := ([.d (.l 26 v.1), .d (.l 26 v.2.1), .d (.i .i64 v.2.2)], [])
  pat
    | ([.d (.l tp1 p1), .d (.l tp2 p2), .d (.i .i64 p3)], []) => (asT 26 tp1 p1).bind fun q1 => (asT 26 tp2 p2).bind fun q2 => some (q1, q2, p3)
    | _ => none
  ok z v h := by
    split at h
    · obtain ⟨q1, hp1, h⟩ := Option.bind_eq_some_iff.1 h
      obtain ⟨q2, hp2, h⟩ := Option.bind_eq_some_iff.1 h
      cases h
      rw [asT_l hp1]
      rw [asT_l hp2]
      all_goals rfl
    · cases h
def io84 : Io T ((List S36) × (List S36)) where
  enc v := ([.d (.l 36 v.1), .d (.l 36 v.2)], [])
  pat
    | ([.d (.l tp1 p1), .d (.l tp2 p2)], []) => (asT 36 tp1 p1).bind fun q1 => (asT 36 tp2 p2).bind fun q2 => some (q1, q2)
    | _ => none
  ok z v h := by
    split at h
    · obtain ⟨q1, hp1, h⟩ := Option.bind_eq_some_iff.1 h
      obtain ⟨q2, hp2, h⟩ := Option.bind_eq_some_iff.1 h
      cases h
      rw [asT_l hp1]
      rw [asT_l hp2]
      all_goals rfl
    · cases h
def io85 : Io T ((List S36) × (List S36) × Int) where
  enc v := ([.d (.l 36 v.1), .d (.l 36 v.2.1), .d (.i .i64 v.2.2)], [])
  pat
    | ([.d (.l tp1 p1), .d (.l tp2 p2), .d (.i .i64 p3)], []) => (asT 36 tp1 p1).bind fun q1 => (asT 36 tp2 p2).bind fun q2 => some (q1, q2, p3)
    | _ => none
  ok z v h := by
    split at h
    · obtain ⟨q1, hp1, h⟩ := Option.bind_eq_some_iff.1 h
      obtain ⟨q2, hp2, h⟩ := Option.bind_eq_some_iff.1 h
      cases h
      rw [asT_l hp1]
      rw [asT_l hp2]
      all_goals rfl
    · cases h
def io86 : Io T (Int × (List UInt8)) where
  enc v := ([.agg [.d (.i .i64 v.1), .d (.s v.2)]], [])
  pat
    | ([.agg [.d (.i .i64 p1), .d (.s p2)]], []) => some (p1, p2)
    | _ => none
  ok z v h := by
    split at h
    · cases h
      all_goals rfl
    · cases h
def io87 : Io T ((List UInt8) × Int × (List UInt8)) where
  enc v := ([.ptr 0 0, .d (.s v.1)], [.box [.d (.i .i64 v.2.1), .d (.s v.2.2)]])
  pat
    | ([.ptr 0 0, .d (.s p1)], [.box [.d (.i .i64 p2), .d (.s p3)]]) => some (p1, p2, p3)
    | _ => none
  ok z v h := by
    split at h
    · cases h
      all_goals rfl
    · cases h
def io88 : Io T (Int × (List UInt8) × Int × (List UInt8)) where
  enc v := ([.ptr 0 0, .d (.i .i64 v.1), .d (.s v.2.1)], [.box [.d (.i .i64 v.2.2.1), .d (.s v.2.2.2)]])
  pat
    | ([.ptr 0 0, .d (.i .i64 p1), .d (.s p2)], [.box [.d (.i .i64 p3), .d (.s p4)]]) => some (p1, p2, p3, p4)
    | _ => none
  ok z v h := by
    split at h
    · cases h
      all_goals rfl
    · cases h
def pe54 (p : Unit) : V T := .pv 54 []
def pp54 : V T → Option (Unit)
  | .pv t [] => bif t.beq 54 then some () else none
  | _ => none
theorem pp54_ok : ∀ (v : V T) (p : Unit), pp54 v = some p → v = pe54 p := by
  intro v p h
  unfold pp54 at h
  split at h
  · rename_i t 
    cases hb : t.beq 54 with
    | false => rw [hb] at h; cases h
    | true => rw [hb] at h; cases h; rw [Nat.eq_of_beq_eq_true hb]; rfl
  · cases h
theorem pe54_pv : ∀ p : Unit, ∃ t ds, pe54 p = (.pv t ds : V T) := fun p => ⟨_, _, rfl⟩
def tab0 (k : Nat) : Tab T := noTab
def strings_TrimLeft (k : Nat) (a3 : List UInt8) (a4 : List UInt8) : Option (List UInt8) := trimL a3 a4
def tab1 (k : Nat) : Tab T := addTab 46 (line io0 io1 [] (fun v => strings_TrimLeft k v.1 v.2)) (tab0 k)
def stringslite_HasPrefix (k : Nat) (a1 : List UInt8) (a2 : List UInt8) : Option (Bool) :=
let v3 : Bool := (decide ((a1.length : Int) ≥ (a2.length : Int)))
cond ((decide (0 ≤ (a2.length : Int) ∧ (a2.length : Int) ≤ (a1.length : Int))) || !v3) (
let v4 : List UInt8 := (a1.take (a2.length : Int).toNat)
some (cond v3 (v4 == a2) false)) none
def stringslite_HasPrefix.kr (w0 : World) (k : Nat) : Kr T (Bool) := (kret (retK (cfg w0 (tab1 k)) Tryz.f86.results.toList 0 [] io2.pat))
def stringslite_HasPrefix.cuts (w0 : World) (k : Nat) : Cuts T (Bool) := fun n => none
def stringslite_HasPrefix.body : Code := bodyOf Tryz.f86
theorem stringslite_HasPrefix.e (w0 : World) (k : Nat) : ∀ v, (fun v => stringslite_HasPrefix k v.1 v.2) v = runK (cfg w0 (tab1 k)) Tryz.f86.ntmps (stringslite_HasPrefix.kr w0 k) (annot (stringslite_HasPrefix.cuts w0 k) stringslite_HasPrefix.body) (entry (io0.enc v).1 (io0.enc v).2) (endK (stringslite_HasPrefix.kr w0 k)) := by
  intro v; kernel_rfl
theorem stringslite_HasPrefix.hb : Tryz.f86.body = some stringslite_HasPrefix.body := by kernel_rfl
def tab2 (k : Nat) : Tab T := addTab 86 (line io0 io2 false (fun v => stringslite_HasPrefix k v.1 v.2)) (tab1 k)
def stringslite_CutPrefix (k : Nat) (a1 : List UInt8) (a2 : List UInt8) : Option ((List UInt8) × Bool) :=
(stringslite_HasPrefix k a1 a2).bind fun r3 =>
cond (!r3) (
some (a1, false)) (
cond (decide (0 ≤ (a2.length : Int) ∧ (a2.length : Int) ≤ (a1.length : Int))) (
let v4 : List UInt8 := (a1.drop (a2.length : Int).toNat)
some (v4, true)) none)
def stringslite_CutPrefix.kr (w0 : World) (k : Nat) : Kr T ((List UInt8) × Bool) := (kret (retK (cfg w0 (tab2 k)) Tryz.f78.results.toList 0 [] io3.pat))
def stringslite_CutPrefix.cuts (w0 : World) (k : Nat) : Cuts T ((List UInt8) × Bool) := fun n => none
def stringslite_CutPrefix.body : Code := bodyOf Tryz.f78
theorem stringslite_CutPrefix.e (w0 : World) (k : Nat) : ∀ v, (fun v => stringslite_CutPrefix k v.1 v.2) v = runK (cfg w0 (tab2 k)) Tryz.f78.ntmps (stringslite_CutPrefix.kr w0 k) (annot (stringslite_CutPrefix.cuts w0 k) stringslite_CutPrefix.body) (entry (io0.enc v).1 (io0.enc v).2) (endK (stringslite_CutPrefix.kr w0 k)) := by
  intro v; kernel_rfl
theorem stringslite_CutPrefix.hb : Tryz.f78.body = some stringslite_CutPrefix.body := by kernel_rfl
def tab3 (k : Nat) : Tab T := addTab 78 (line io0 io3 ([], false) (fun v => stringslite_CutPrefix k v.1 v.2)) (tab2 k)
def strings_CutPrefix (k : Nat) (a1 : List UInt8) (a2 : List UInt8) : Option ((List UInt8) × Bool) :=
(stringslite_CutPrefix k a1 a2).bind fun r3 =>
some (r3.1, r3.2)
def strings_CutPrefix.kr (w0 : World) (k : Nat) : Kr T ((List UInt8) × Bool) := (kret (retK (cfg w0 (tab3 k)) Tryz.f47.results.toList 0 [] io3.pat))
def strings_CutPrefix.cuts (w0 : World) (k : Nat) : Cuts T ((List UInt8) × Bool) := fun n => none
def strings_CutPrefix.body : Code := bodyOf Tryz.f47
theorem strings_CutPrefix.e (w0 : World) (k : Nat) : ∀ v, (fun v => strings_CutPrefix k v.1 v.2) v = runK (cfg w0 (tab3 k)) Tryz.f47.ntmps (strings_CutPrefix.kr w0 k) (annot (strings_CutPrefix.cuts w0 k) strings_CutPrefix.body) (entry (io0.enc v).1 (io0.enc v).2) (endK (strings_CutPrefix.kr w0 k)) := by
  intro v; kernel_rfl
theorem strings_CutPrefix.hb : Tryz.f47.body = some strings_CutPrefix.body := by kernel_rfl
def tab4 (k : Nat) : Tab T := addTab 47 (line io0 io3 ([], false) (fun v => strings_CutPrefix k v.1 v.2)) (tab3 k)
def strings_Index (k : Nat) (a5 : List UInt8) (a6 : List UInt8) : Option (Int) := findS a5 a6
def tab5 (k : Nat) : Tab T := addTab 48 (line io0 io4 (0 : Int) (fun v => strings_Index k v.1 v.2)) (tab4 k)
def f__strings_Builder__String (k : Nat) (a14 : List UInt8) : Option ((List UInt8) × (List UInt8)) := some (a14, a14)
def tab6 (k : Nat) : Tab T := addTab 40 (line io5 io6 ([], []) (fun v => f__strings_Builder__String k v)) (tab5 k)
def f__strings_Builder__WriteByte (k : Nat) (a21 : Int) (a22 : List UInt8) : Option (List UInt8) := wByte a22 a21
def tab7 (k : Nat) : Tab T := addTab 36 (line io7 io8 [] (fun v => f__strings_Builder__WriteByte k v.1 v.2)) (tab6 k)
def csstok_text.c7 (k : Nat) : Nat → (List UInt8) → Int → Int → (List UInt8) → (List UInt8) → Int → (List UInt8) → ((List UInt8) → Int → (List UInt8) → (List UInt8) → Int → Option (Int × (List UInt8) × (List UInt8) × Int)) → Option (Int × (List UInt8) × (List UInt8) × Int)
  | 0, _, _, _, _, _, _, _, _ => none
  | n + 1, x2, x3, x4, x5, x6, x7, x8, k0 =>
    let v9 : Bool := (decide (x3 < (x2.length : Int)))
    cond v9 (
    cond (decide (0 ≤ x3 ∧ x3 < (x2.length : Int))) (
    let v10 : Int := ((x2.getD x3.toNat 0).toNat : Int)
    cond (decide (0 ≤ (0 : Int) ∧ (0 : Int) < (x2.length : Int))) (
    let v11 : Int := ((x2.getD (0 : Int).toNat 0).toNat : Int)
    cond (v10 == v11) (
    let v12 : Int := (IntKind.wrap .i64 (x3 + (1 : Int)))
    cond (decide (0 ≤ v12 ∧ v12 ≤ (x2.length : Int))) (
    (f__strings_Builder__String k x8).bind fun r13 =>
    some ((5 : Int), (x2.take v12.toNat), r13.1, (0 : Int))) none) (
    cond (v10 == (10 : Int)) (
    cond (decide (0 ≤ x3 ∧ x3 ≤ (x2.length : Int))) (
    some ((6 : Int), (x2.take x3.toNat), [], (0 : Int))) none) (
    let v14 : Int := (IntKind.wrap .i64 (x3 + (1 : Int)))
    let v15 : Bool := (decide (v14 < (x2.length : Int)))
    let v16 : Bool := (cond (v10 == (92 : Int)) v15 false)
    cond v16 (
    let v17 : Int := (IntKind.wrap .i64 (x3 + (1 : Int)))
    cond (decide (0 ≤ v17 ∧ v17 < (x2.length : Int))) (
    let v18 : Int := ((x2.getD v17.toNat 0).toNat : Int)
    (f__strings_Builder__WriteByte k v18 x8).bind fun r19 =>
    let v20 : Int := (IntKind.wrap .i64 (v17 + (1 : Int)))
    csstok_text.c7 k n x2 v20 x4 x5 x6 x7 r19 k0) none) (
    (f__strings_Builder__WriteByte k v10 x8).bind fun r21 =>
    let v22 : Int := (IntKind.wrap .i64 (x3 + (1 : Int)))
    csstok_text.c7 k n x2 v22 x4 x5 x6 x7 r21 k0)))) none) none) (
    k0 x2 x4 x5 x6 x7)
def csstok_text (k : Nat) (a1 : List UInt8) : Option (Int × (List UInt8) × (List UInt8) × Int) :=
csstok_text.c7 k k a1 (1 : Int) (0 : Int) ([]) ([]) (0 : Int) ([] : List UInt8) (fun (y23 : List UInt8) (y24 : Int) (y25 : List UInt8) (y26 : List UInt8) (y27 : Int) =>
some ((6 : Int), y23, [], (0 : Int)))
def csstok_text.kr (w0 : World) (k : Nat) : Kr T (Int × (List UInt8) × (List UInt8) × Int) := (kret (retK (cfg w0 (tab7 k)) Tryz.f49.results.toList 0 [] io9.pat))
def csstok_text.x7 : Ex → Option (List Nat × List Sp)
  | .exit 0 => some ([0, 2], [])
  | _ => none
def csstok_text.L7 (k : Nat) (n : Nat) (v : (List UInt8) × Int × Int × (List UInt8) × (List UInt8) × Int × (List UInt8)) (K : Ex → St T → Option (Int × (List UInt8) × (List UInt8) × Int)) : Option (Int × (List UInt8) × (List UInt8) × Int) := csstok_text.c7 k n v.1 v.2.1 v.2.2.1 v.2.2.2.1 v.2.2.2.2.1 v.2.2.2.2.2.1 v.2.2.2.2.2.2 (fun y26 y27 y28 y29 y30 => K (.exit 0) (mkSt [0, 2] (io11.enc (y26, y27, y28, y29, y30))))
def csstok_text.cuts (w0 : World) (k : Nat) : Cuts T (Int × (List UInt8) × (List UInt8) × Int) := fun n => bif n.beq 7 then some (entK (cfg w0 (tab7 k)) 0 [0, 2, 3, 4] [] io10.pat (csstok_text.L7 k k)) else none
def csstok_text.body : Code := bodyOf Tryz.f49
def csstok_text.b7 : Code := findD 7 csstok_text.body
theorem csstok_text.s7 (w0 : World) (k : Nat) : ∀ n v K, csstok_text.L7 k (n + 1) v K = runK (cfg w0 (tab7 k)) Tryz.f49.ntmps (csstok_text.kr w0 k) (annot (csstok_text.cuts w0 k) csstok_text.b7) (mkSt [0, 2, 3, 4] (io10.enc v)) (loopK (cfg w0 (tab7 k)) 0 csstok_text.x7 (entK (cfg w0 (tab7 k)) 0 [0, 2, 3, 4] [] io10.pat (csstok_text.L7 k n)) K) := by
  intro n v K; kernel_rfl
theorem csstok_text.e (w0 : World) (k : Nat) : ∀ v, (fun v => csstok_text k v) v = runK (cfg w0 (tab7 k)) Tryz.f49.ntmps (csstok_text.kr w0 k) (annot (csstok_text.cuts w0 k) csstok_text.body) (entry (io1.enc v).1 (io1.enc v).2) (endK (csstok_text.kr w0 k)) := by
  intro v; kernel_rfl
theorem csstok_text.hb : Tryz.f49.body = some csstok_text.body := by kernel_rfl
def tab8 (k : Nat) : Tab T := addTab 49 (line io1 io9 ((0 : Int), [], [], (0 : Int)) (fun v => csstok_text k v)) (tab7 k)
def csstok_starts (k : Nat) (a1 : Int) : Option (Bool) :=
let v2 : Bool := (cond (decide (a1 ≥ (128 : Int))) true (a1 == (95 : Int)))
let v3 : Int := (IntKind.wrap .u8 (((BitVec.ofInt (IntKind.bits .u8) a1 ||| BitVec.ofInt (IntKind.bits .u8) (32 : Int)).toNat : Int)))
let v4 : Int := (IntKind.wrap .u8 (((BitVec.ofInt (IntKind.bits .u8) a1 ||| BitVec.ofInt (IntKind.bits .u8) (32 : Int)).toNat : Int)))
let v5 : Bool := (cond (decide (v3 ≥ (97 : Int))) (decide (v4 ≤ (122 : Int))) false)
some (cond v2 true v5)
def csstok_starts.kr (w0 : World) (k : Nat) : Kr T (Bool) := (kret (retK (cfg w0 (tab8 k)) Tryz.f80.results.toList 0 [] io2.pat))
def csstok_starts.cuts (w0 : World) (k : Nat) : Cuts T (Bool) := fun n => none
def csstok_starts.body : Code := bodyOf Tryz.f80
theorem csstok_starts.e (w0 : World) (k : Nat) : ∀ v, (fun v => csstok_starts k v) v = runK (cfg w0 (tab8 k)) Tryz.f80.ntmps (csstok_starts.kr w0 k) (annot (csstok_starts.cuts w0 k) csstok_starts.body) (entry (io12.enc v).1 (io12.enc v).2) (endK (csstok_starts.kr w0 k)) := by
  intro v; kernel_rfl
theorem csstok_starts.hb : Tryz.f80.body = some csstok_starts.body := by kernel_rfl
def tab9 (k : Nat) : Tab T := addTab 80 (line io12 io2 false (fun v => csstok_starts k v)) (tab8 k)
def csstok_digit (k : Nat) (a1 : Int) : Option (Bool) :=
let v2 : Bool := (cond (decide (a1 ≥ (48 : Int))) (decide (a1 ≤ (57 : Int))) false)
some v2
def csstok_digit.kr (w0 : World) (k : Nat) : Kr T (Bool) := (kret (retK (cfg w0 (tab9 k)) Tryz.f81.results.toList 0 [] io2.pat))
def csstok_digit.cuts (w0 : World) (k : Nat) : Cuts T (Bool) := fun n => none
def csstok_digit.body : Code := bodyOf Tryz.f81
theorem csstok_digit.e (w0 : World) (k : Nat) : ∀ v, (fun v => csstok_digit k v) v = runK (cfg w0 (tab9 k)) Tryz.f81.ntmps (csstok_digit.kr w0 k) (annot (csstok_digit.cuts w0 k) csstok_digit.body) (entry (io12.enc v).1 (io12.enc v).2) (endK (csstok_digit.kr w0 k)) := by
  intro v; kernel_rfl
theorem csstok_digit.hb : Tryz.f81.body = some csstok_digit.body := by kernel_rfl
def tab10 (k : Nat) : Tab T := addTab 81 (line io12 io2 false (fun v => csstok_digit k v)) (tab9 k)
def csstok_sign (k : Nat) (a1 : Int) : Option (Bool) :=
(csstok_starts k a1).bind fun r2 =>
(cond (!r2) (csstok_digit k a1) (some false)).bind fun r3 =>
let v4 : Bool := (cond (cond r2 true r3) true (a1 == (45 : Int)))
some v4
def csstok_sign.kr (w0 : World) (k : Nat) : Kr T (Bool) := (kret (retK (cfg w0 (tab10 k)) Tryz.f50.results.toList 0 [] io2.pat))
def csstok_sign.cuts (w0 : World) (k : Nat) : Cuts T (Bool) := fun n => none
def csstok_sign.body : Code := bodyOf Tryz.f50
theorem csstok_sign.e (w0 : World) (k : Nat) : ∀ v, (fun v => csstok_sign k v) v = runK (cfg w0 (tab10 k)) Tryz.f50.ntmps (csstok_sign.kr w0 k) (annot (csstok_sign.cuts w0 k) csstok_sign.body) (entry (io12.enc v).1 (io12.enc v).2) (endK (csstok_sign.kr w0 k)) := by
  intro v; kernel_rfl
theorem csstok_sign.hb : Tryz.f50.body = some csstok_sign.body := by kernel_rfl
def tab11 (k : Nat) : Tab T := addTab 50 (line io12 io2 false (fun v => csstok_sign k v)) (tab10 k)
def csstok_escape (k : Nat) (a1 : List UInt8) : Option (Bool) :=
let v2 : Bool := (decide ((a1.length : Int) > (1 : Int)))
cond ((decide (0 ≤ (0 : Int) ∧ (0 : Int) < (a1.length : Int))) || !v2) (
let v3 : Int := ((a1.getD (0 : Int).toNat 0).toNat : Int)
let v4 : Bool := (cond v2 (v3 == (92 : Int)) false)
cond ((decide (0 ≤ (1 : Int) ∧ (1 : Int) < (a1.length : Int))) || !v4) (
let v5 : Int := ((a1.getD (1 : Int).toNat 0).toNat : Int)
let v6 : Bool := (cond v4 (v5 != (10 : Int)) false)
some v6) none) none
def csstok_escape.kr (w0 : World) (k : Nat) : Kr T (Bool) := (kret (retK (cfg w0 (tab11 k)) Tryz.f51.results.toList 0 [] io2.pat))
def csstok_escape.cuts (w0 : World) (k : Nat) : Cuts T (Bool) := fun n => none
def csstok_escape.body : Code := bodyOf Tryz.f51
theorem csstok_escape.e (w0 : World) (k : Nat) : ∀ v, (fun v => csstok_escape k v) v = runK (cfg w0 (tab11 k)) Tryz.f51.ntmps (csstok_escape.kr w0 k) (annot (csstok_escape.cuts w0 k) csstok_escape.body) (entry (io1.enc v).1 (io1.enc v).2) (endK (csstok_escape.kr w0 k)) := by
  intro v; kernel_rfl
theorem csstok_escape.hb : Tryz.f51.body = some csstok_escape.body := by kernel_rfl
def tab12 (k : Nat) : Tab T := addTab 51 (line io1 io2 false (fun v => csstok_escape k v)) (tab11 k)
def csstok_name.c7 (k : Nat) : Nat → (List UInt8) → Int → (List UInt8) → (Int → (List UInt8) → Option ((List UInt8) × Int)) → Option ((List UInt8) × Int)
  | 0, _, _, _, _ => none
  | n + 1, x2, x3, x4, k0 =>
    let v5 : Bool := (decide (x3 < (x2.length : Int)))
    cond v5 (
    cond (decide (0 ≤ x3 ∧ x3 ≤ (x2.length : Int))) (
    (csstok_escape k (x2.drop x3.toNat)).bind fun r6 =>
    cond r6 (
    let v7 : Int := (IntKind.wrap .i64 (x3 + (1 : Int)))
    cond (decide (0 ≤ v7 ∧ v7 < (x2.length : Int))) (
    let v8 : Int := ((x2.getD v7.toNat 0).toNat : Int)
    (f__strings_Builder__WriteByte k v8 x4).bind fun r9 =>
    let v10 : Int := (IntKind.wrap .i64 (x3 + (2 : Int)))
    csstok_name.c7 k n x2 v10 r9 k0) none) (
    cond (decide (0 ≤ x3 ∧ x3 < (x2.length : Int))) (
    let v11 : Int := ((x2.getD x3.toNat 0).toNat : Int)
    (csstok_sign k v11).bind fun r12 =>
    cond r12 (
    cond (decide (0 ≤ x3 ∧ x3 < (x2.length : Int))) (
    let v13 : Int := ((x2.getD x3.toNat 0).toNat : Int)
    (f__strings_Builder__WriteByte k v13 x4).bind fun r14 =>
    let v15 : Int := (IntKind.wrap .i64 (x3 + (1 : Int)))
    csstok_name.c7 k n x2 v15 r14 k0) none) (
    (f__strings_Builder__String k x4).bind fun r16 =>
    some (r16.1, x3))) none)) none) (
    k0 x3 x4)
def csstok_name (k : Nat) (a1 : List UInt8) : Option ((List UInt8) × Int) :=
csstok_name.c7 k k a1 (0 : Int) ([] : List UInt8) (fun (y17 : Int) (y18 : List UInt8) =>
(f__strings_Builder__String k y18).bind fun r19 =>
some (r19.1, y17))
def csstok_name.kr (w0 : World) (k : Nat) : Kr T ((List UInt8) × Int) := (kret (retK (cfg w0 (tab12 k)) Tryz.f82.results.toList 0 [] io13.pat))
def csstok_name.x7 : Ex → Option (List Nat × List Sp)
  | .exit 0 => some ([4, 5], [])
  | _ => none
def csstok_name.L7 (k : Nat) (n : Nat) (v : (List UInt8) × Int × (List UInt8)) (K : Ex → St T → Option ((List UInt8) × Int)) : Option ((List UInt8) × Int) := csstok_name.c7 k n v.1 v.2.1 v.2.2 (fun y31 y32 => K (.exit 0) (mkSt [4, 5] (io15.enc (y31, y32))))
def csstok_name.cuts (w0 : World) (k : Nat) : Cuts T ((List UInt8) × Int) := fun n => bif n.beq 7 then some (entK (cfg w0 (tab12 k)) 0 [0, 4, 5] [] io14.pat (csstok_name.L7 k k)) else none
def csstok_name.body : Code := bodyOf Tryz.f82
def csstok_name.b7 : Code := findD 7 csstok_name.body
theorem csstok_name.s7 (w0 : World) (k : Nat) : ∀ n v K, csstok_name.L7 k (n + 1) v K = runK (cfg w0 (tab12 k)) Tryz.f82.ntmps (csstok_name.kr w0 k) (annot (csstok_name.cuts w0 k) csstok_name.b7) (mkSt [0, 4, 5] (io14.enc v)) (loopK (cfg w0 (tab12 k)) 0 csstok_name.x7 (entK (cfg w0 (tab12 k)) 0 [0, 4, 5] [] io14.pat (csstok_name.L7 k n)) K) := by
  intro n v K; kernel_rfl
theorem csstok_name.e (w0 : World) (k : Nat) : ∀ v, (fun v => csstok_name k v) v = runK (cfg w0 (tab12 k)) Tryz.f82.ntmps (csstok_name.kr w0 k) (annot (csstok_name.cuts w0 k) csstok_name.body) (entry (io1.enc v).1 (io1.enc v).2) (endK (csstok_name.kr w0 k)) := by
  intro v; kernel_rfl
theorem csstok_name.hb : Tryz.f82.body = some csstok_name.body := by kernel_rfl
def tab13 (k : Nat) : Tab T := addTab 82 (line io1 io13 ([], (0 : Int)) (fun v => csstok_name k v)) (tab12 k)
def csstok_named (k : Nat) (a1 : Int) (a2 : List UInt8) (a3 : Int) : Option (Int × (List UInt8) × (List UInt8) × Int) :=
cond (decide (0 ≤ a3 ∧ a3 ≤ (a2.length : Int))) (
(csstok_name k (a2.drop a3.toNat)).bind fun r4 =>
let v5 : Int := (IntKind.wrap .i64 (a3 + r4.2))
cond (decide (0 ≤ v5 ∧ v5 ≤ (a2.length : Int))) (
some (a1, (a2.take v5.toNat), r4.1, (0 : Int))) none) none
def csstok_named.kr (w0 : World) (k : Nat) : Kr T (Int × (List UInt8) × (List UInt8) × Int) := (kret (retK (cfg w0 (tab13 k)) Tryz.f52.results.toList 0 [] io9.pat))
def csstok_named.cuts (w0 : World) (k : Nat) : Cuts T (Int × (List UInt8) × (List UInt8) × Int) := fun n => none
def csstok_named.body : Code := bodyOf Tryz.f52
theorem csstok_named.e (w0 : World) (k : Nat) : ∀ v, (fun v => csstok_named k v.1 v.2.1 v.2.2) v = runK (cfg w0 (tab13 k)) Tryz.f52.ntmps (csstok_named.kr w0 k) (annot (csstok_named.cuts w0 k) csstok_named.body) (entry (io16.enc v).1 (io16.enc v).2) (endK (csstok_named.kr w0 k)) := by
  intro v; kernel_rfl
theorem csstok_named.hb : Tryz.f52.body = some csstok_named.body := by kernel_rfl
def tab14 (k : Nat) : Tab T := addTab 52 (line io16 io9 ((0 : Int), [], [], (0 : Int)) (fun v => csstok_named k v.1 v.2.1 v.2.2)) (tab13 k)
def csstok_begins (k : Nat) (a1 : List UInt8) : Option (Bool) :=
cond (a1 == ([] : List UInt8)) (
some false) (
cond (decide (0 ≤ (0 : Int) ∧ (0 : Int) < (a1.length : Int))) (
let v2 : Int := ((a1.getD (0 : Int).toNat 0).toNat : Int)
let v3 : Bool := (decide ((a1.length : Int) > (1 : Int)))
let v4 : Bool := (cond (v2 == (45 : Int)) v3 false)
cond v4 (
cond (decide (0 ≤ (1 : Int) ∧ (1 : Int) < (a1.length : Int))) (
let v5 : Int := ((a1.getD (1 : Int).toNat 0).toNat : Int)
cond ((decide (0 ≤ (1 : Int) ∧ (1 : Int) < (a1.length : Int))) || !(!(v5 == (45 : Int)))) (
let v6 : Int := ((a1.getD (1 : Int).toNat 0).toNat : Int)
(cond (!(v5 == (45 : Int))) (csstok_starts k v6) (some false)).bind fun r7 =>
let v8 : Bool := (cond (v5 == (45 : Int)) true r7)
cond ((decide (0 ≤ (1 : Int) ∧ (1 : Int) ≤ (a1.length : Int))) || !(!v8)) (
(cond (!v8) (csstok_escape k (a1.drop (1 : Int).toNat)) (some false)).bind fun r9 =>
some (cond v8 true r9)) none) none) none) (
cond (decide (0 ≤ (0 : Int) ∧ (0 : Int) < (a1.length : Int))) (
let v10 : Int := ((a1.getD (0 : Int).toNat 0).toNat : Int)
(csstok_starts k v10).bind fun r11 =>
(cond (!r11) (csstok_escape k a1) (some false)).bind fun r12 =>
some (cond r11 true r12)) none)) none)
def csstok_begins.kr (w0 : World) (k : Nat) : Kr T (Bool) := (kret (retK (cfg w0 (tab14 k)) Tryz.f53.results.toList 0 [] io2.pat))
def csstok_begins.cuts (w0 : World) (k : Nat) : Cuts T (Bool) := fun n => none
def csstok_begins.body : Code := bodyOf Tryz.f53
theorem csstok_begins.e (w0 : World) (k : Nat) : ∀ v, (fun v => csstok_begins k v) v = runK (cfg w0 (tab14 k)) Tryz.f53.ntmps (csstok_begins.kr w0 k) (annot (csstok_begins.cuts w0 k) csstok_begins.body) (entry (io1.enc v).1 (io1.enc v).2) (endK (csstok_begins.kr w0 k)) := by
  intro v; kernel_rfl
theorem csstok_begins.hb : Tryz.f53.body = some csstok_begins.body := by kernel_rfl
def tab15 (k : Nat) : Tab T := addTab 53 (line io1 io2 false (fun v => csstok_begins k v)) (tab14 k)
def csstok_digits (k : Nat) (a1 : List UInt8) : Option (Int) :=
(strings_TrimLeft k a1 ([48, 49, 50, 51, 52, 53, 54, 55, 56, 57] : List UInt8)).bind fun r2 =>
let v3 : Int := (IntKind.wrap .i64 ((a1.length : Int) - (r2.length : Int)))
some v3
def csstok_digits.kr (w0 : World) (k : Nat) : Kr T (Int) := (kret (retK (cfg w0 (tab15 k)) Tryz.f83.results.toList 0 [] io4.pat))
def csstok_digits.cuts (w0 : World) (k : Nat) : Cuts T (Int) := fun n => none
def csstok_digits.body : Code := bodyOf Tryz.f83
theorem csstok_digits.e (w0 : World) (k : Nat) : ∀ v, (fun v => csstok_digits k v) v = runK (cfg w0 (tab15 k)) Tryz.f83.ntmps (csstok_digits.kr w0 k) (annot (csstok_digits.cuts w0 k) csstok_digits.body) (entry (io1.enc v).1 (io1.enc v).2) (endK (csstok_digits.kr w0 k)) := by
  intro v; kernel_rfl
theorem csstok_digits.hb : Tryz.f83.body = some csstok_digits.body := by kernel_rfl
def tab16 (k : Nat) : Tab T := addTab 83 (line io1 io4 (0 : Int) (fun v => csstok_digits k v)) (tab15 k)
def strings_HasPrefix (k : Nat) (a1 : List UInt8) (a2 : List UInt8) : Option (Bool) :=
(stringslite_HasPrefix k a1 a2).bind fun r3 =>
some r3
def strings_HasPrefix.kr (w0 : World) (k : Nat) : Kr T (Bool) := (kret (retK (cfg w0 (tab16 k)) Tryz.f56.results.toList 0 [] io2.pat))
def strings_HasPrefix.cuts (w0 : World) (k : Nat) : Cuts T (Bool) := fun n => none
def strings_HasPrefix.body : Code := bodyOf Tryz.f56
theorem strings_HasPrefix.e (w0 : World) (k : Nat) : ∀ v, (fun v => strings_HasPrefix k v.1 v.2) v = runK (cfg w0 (tab16 k)) Tryz.f56.ntmps (strings_HasPrefix.kr w0 k) (annot (strings_HasPrefix.cuts w0 k) strings_HasPrefix.body) (entry (io0.enc v).1 (io0.enc v).2) (endK (strings_HasPrefix.kr w0 k)) := by
  intro v; kernel_rfl
theorem strings_HasPrefix.hb : Tryz.f56.body = some strings_HasPrefix.body := by kernel_rfl
def tab17 (k : Nat) : Tab T := addTab 56 (line io0 io2 false (fun v => strings_HasPrefix k v.1 v.2)) (tab16 k)
def csstok_Number_1 (k : Nat) (a1 : Int) (a2 : Int) : Option (Int) :=
let v3 : Int := (IntKind.wrap .i64 ((10 : Int) * a2))
let v4 : Int := (IntKind.wrap .u8 (a1 - (48 : Int)))
let v5 : Int := (IntKind.wrap .i64 (v3 + (IntKind.wrap .i64 v4)))
let v6 : Int := (if (1000000000 : Int) < v5 then (1000000000 : Int) else v5)
some v6
def csstok_Number_1.kr (w0 : World) (k : Nat) : Kr T (Int) := (kret (retK (cfg w0 (tab17 k)) Tryz.f84.results.toList 1 [] io18.pat))
def csstok_Number_1.cuts (w0 : World) (k : Nat) : Cuts T (Int) := fun n => none
def csstok_Number_1.body : Code := bodyOf Tryz.f84
theorem csstok_Number_1.e (w0 : World) (k : Nat) : ∀ v, (fun v => csstok_Number_1 k v.1 v.2) v = runK (cfg w0 (tab17 k)) Tryz.f84.ntmps (csstok_Number_1.kr w0 k) (annot (csstok_Number_1.cuts w0 k) csstok_Number_1.body) (entry (io17.enc v).1 (io17.enc v).2) (endK (csstok_Number_1.kr w0 k)) := by
  intro v; kernel_rfl
theorem csstok_Number_1.hb : Tryz.f84.body = some csstok_Number_1.body := by kernel_rfl
def tab18 (k : Nat) : Tab T := addTab 84 (line io17 io18 (0 : Int) (fun v => csstok_Number_1 k v.1 v.2)) (tab17 k)
def csstok_Number.c29 (k : Nat) : Nat → (List UInt8) → Int → Int → Int → Int → Int → Int → (List Int) → ((List UInt8) → Int → Int → Int → Int → Option (Int × Int)) → Option (Int × Int)
  | 0, _, _, _, _, _, _, _, _, _ => none
  | n + 1, x19, x20, x21, x22, x23, x24, x25, x26, k0 =>
    cond (decide (x24 < x23)) (
    cond (decide (0 ≤ x24 ∧ x24 < (x26.length : Int))) (
    (csstok_Number_1 k (x26.getD x24.toNat (0 : Int)) x25).bind fun r27 =>
    let v28 : Int := (IntKind.wrap .i64 (x24 + (1 : Int)))
    csstok_Number.c29 k n x19 x20 x21 x22 x23 v28 r27 x26 k0) none) (
    k0 x19 x20 x21 x22 x25)
def csstok_Number.c49 (k : Nat) : Nat → (List UInt8) → Int → (List UInt8) → Int → Int → ((List UInt8) → Int → Int → Option (Int × Int)) → Option (Int × Int)
  | 0, _, _, _, _, _, _ => none
  | n + 1, x45, x46, x47, x48, x49, k2 =>
    cond (decide (x48 < (3 : Int))) (
    let v50 : Bool := (decide (x48 < (x47.length : Int)))
    cond v50 (
    cond (decide (0 ≤ x48 ∧ x48 < (x47.length : Int))) (
    let v51 : Int := ((x47.getD x48.toNat 0).toNat : Int)
    (csstok_Number_1 k v51 x49).bind fun r52 =>
    let v53 : Int := (IntKind.wrap .i64 (x48 + (1 : Int)))
    csstok_Number.c49 k n x45 x46 x47 v53 r52 k2) none) (
    (csstok_Number_1 k (48 : Int) x49).bind fun r54 =>
    let v55 : Int := (IntKind.wrap .i64 (x48 + (1 : Int)))
    csstok_Number.c49 k n x45 x46 x47 v55 r54 k2)) (
    k2 x45 x46 x49)
def csstok_Number.c64 (k : Nat) (x60 : Int) (x61 : Int)  : Option (Int × Int) :=
some (x61, x60)
def csstok_Number.c46 (k : Nat) (x41 : List UInt8) (x42 : Int) (x43 : List UInt8) (x44 : Int)  : Option (Int × Int) :=
csstok_Number.c49 k k x41 x42 x43 (0 : Int) x44 (fun (y56 : List UInt8) (y57 : Int) (y58 : Int) =>
cond (decide (0 ≤ (0 : Int) ∧ (0 : Int) < (y56.length : Int))) (
let v59 : Int := ((y56.getD (0 : Int).toNat 0).toNat : Int)
cond (v59 == (45 : Int)) (
csstok_Number.c64 k y57 (IntKind.wrap .i64 (0 - y58))) (
csstok_Number.c64 k y57 y58)) none)
def csstok_Number.c18 (k : Nat) (x12 : List UInt8) (x13 : Int) (x14 : Int) (x15 : Int)  : Option (Int × Int) :=
let v16 : Int := (IntKind.wrap .i64 (x14 + x15))
cond (v16 == (0 : Int)) (
some ((0 : Int), (0 : Int))) (
let v17 : Int := (IntKind.wrap .i64 (x13 + x14))
cond (decide (0 ≤ x13 ∧ x13 ≤ v17 ∧ v17 ≤ (x12.length : Int))) (
let v18 : List UInt8 := ((x12.take v17.toNat).drop x13.toNat)
csstok_Number.c29 k k x12 x13 x14 x15 ((bytesI v18).length : Int) (0 : Int) (0 : Int) (bytesI v18) (fun (y29 : List UInt8) (y30 : Int) (y31 : Int) (y32 : Int) (y33 : Int) =>
let v34 : Int := (IntKind.wrap .i64 (y30 + y31))
cond (decide (y32 > (0 : Int))) (
let v35 : Int := (IntKind.wrap .i64 (v34 + (1 : Int)))
let v36 : Int := (IntKind.wrap .i64 (v34 + (1 : Int)))
let v37 : Int := (IntKind.wrap .i64 (v36 + y32))
cond (decide (0 ≤ v35 ∧ v35 ≤ v37 ∧ v37 ≤ (y29.length : Int))) (
let v38 : List UInt8 := ((y29.take v37.toNat).drop v35.toNat)
let v39 : Int := (IntKind.wrap .i64 ((1 : Int) + y32))
let v40 : Int := (IntKind.wrap .i64 (v34 + v39))
csstok_Number.c46 k y29 v40 v38 y33) none) (
csstok_Number.c46 k y29 v34 ([] : List UInt8) y33))) none)
def csstok_Number.c8 (k : Nat) (x6 : List UInt8) (x7 : Int)  : Option (Int × Int) :=
cond (decide (0 ≤ x7 ∧ x7 ≤ (x6.length : Int))) (
(csstok_digits k (x6.drop x7.toNat)).bind fun r8 =>
cond (decide (0 ≤ (IntKind.wrap .i64 (x7 + r8)) ∧ (IntKind.wrap .i64 (x7 + r8)) ≤ (x6.length : Int))) (
let v9 : List UInt8 := (x6.drop (IntKind.wrap .i64 (x7 + r8)).toNat)
(strings_HasPrefix k v9 ([46] : List UInt8)).bind fun r10 =>
cond r10 (
cond (decide (0 ≤ (1 : Int) ∧ (1 : Int) ≤ (v9.length : Int))) (
(csstok_digits k (v9.drop (1 : Int).toNat)).bind fun r11 =>
csstok_Number.c18 k x6 x7 r8 r11) none) (
csstok_Number.c18 k x6 x7 r8 (0 : Int))) none) none
def csstok_Number (k : Nat) (a1 : List UInt8) : Option (Int × Int) :=
cond ((decide (0 ≤ (0 : Int) ∧ (0 : Int) < (a1.length : Int))) || !(!(a1 == ([] : List UInt8)))) (
let v2 : Int := ((a1.getD (0 : Int).toNat 0).toNat : Int)
cond ((decide (0 ≤ (0 : Int) ∧ (0 : Int) < (a1.length : Int))) || !((!(a1 == ([] : List UInt8))) && (!(v2 == (43 : Int))))) (
let v3 : Int := ((a1.getD (0 : Int).toNat 0).toNat : Int)
let v4 : Bool := (cond (v2 == (43 : Int)) true (v3 == (45 : Int)))
let v5 : Bool := (cond (!(a1 == ([] : List UInt8))) v4 false)
cond v5 (
csstok_Number.c8 k a1 (1 : Int)) (
csstok_Number.c8 k a1 (0 : Int))) none) none
def csstok_Number.kr (w0 : World) (k : Nat) : Kr T (Int × Int) := (kret (retK (cfg w0 (tab18 k)) Tryz.f54.results.toList 0 [] io19.pat))
def csstok_Number.x29 : Ex → Option (List Nat × List Sp)
  | .exit 0 => some ([0, 4, 5, 6, 8, 9], [])
  | _ => none
def csstok_Number.L29 (k : Nat) (n : Nat) (v : (List UInt8) × Int × Int × Int × Int × Int × Int × (List Int)) (K : Ex → St T → Option (Int × Int)) : Option (Int × Int) := csstok_Number.c29 k n v.1 v.2.1 v.2.2.1 v.2.2.2.1 v.2.2.2.2.1 v.2.2.2.2.2.1 v.2.2.2.2.2.2.1 v.2.2.2.2.2.2.2 (fun y33 y34 y35 y36 y37 => K (.exit 0) (mkSt [0, 4, 5, 6, 8, 9] (io21.enc (y33, y34, y35, y36, y37))))
def csstok_Number.x49 : Ex → Option (List Nat × List Sp)
  | .exit 2 => some ([0, 8, 12], [])
  | _ => none
def csstok_Number.L49 (k : Nat) (n : Nat) (v : (List UInt8) × Int × (List UInt8) × Int × Int) (K : Ex → St T → Option (Int × Int)) : Option (Int × Int) := csstok_Number.c49 k n v.1 v.2.1 v.2.2.1 v.2.2.2.1 v.2.2.2.2 (fun y38 y39 y40 => K (.exit 2) (mkSt [0, 8, 12] (io23.enc (y38, y39, y40))))
def csstok_Number.x64 : Ex → Option (List Nat × List Sp)
  | _ => none
def csstok_Number.L64 (k : Nat) (v : Int × Int) (K : Ex → St T → Option (Int × Int)) : Option (Int × Int) := csstok_Number.c64 k v.1 v.2
def csstok_Number.x46 : Ex → Option (List Nat × List Sp)
  | _ => none
def csstok_Number.L46 (k : Nat) (v : (List UInt8) × Int × (List UInt8) × Int) (K : Ex → St T → Option (Int × Int)) : Option (Int × Int) := csstok_Number.c46 k v.1 v.2.1 v.2.2.1 v.2.2.2
def csstok_Number.x18 : Ex → Option (List Nat × List Sp)
  | _ => none
def csstok_Number.L18 (k : Nat) (v : (List UInt8) × Int × Int × Int) (K : Ex → St T → Option (Int × Int)) : Option (Int × Int) := csstok_Number.c18 k v.1 v.2.1 v.2.2.1 v.2.2.2
def csstok_Number.x8 : Ex → Option (List Nat × List Sp)
  | _ => none
def csstok_Number.L8 (k : Nat) (v : (List UInt8) × Int) (K : Ex → St T → Option (Int × Int)) : Option (Int × Int) := csstok_Number.c8 k v.1 v.2
def csstok_Number.cuts (w0 : World) (k : Nat) : Cuts T (Int × Int) := fun n => bif n.beq 29 then some (entK (cfg w0 (tab18 k)) 0 [0, 4, 5, 6, 8, 9, 52, 53, 54] [] io20.pat (csstok_Number.L29 k k)) else bif n.beq 49 then some (entK (cfg w0 (tab18 k)) 0 [0, 8, 9, 12, 13, 79] [] io22.pat (csstok_Number.L49 k k)) else bif n.beq 64 then some (entK (cfg w0 (tab18 k)) 0 [8, 12] [] io24.pat (csstok_Number.L64 k)) else bif n.beq 46 then some (entK (cfg w0 (tab18 k)) 0 [0, 8, 9, 12, 13] [] io25.pat (csstok_Number.L46 k)) else bif n.beq 18 then some (entK (cfg w0 (tab18 k)) 0 [0, 4, 5, 6] [] io26.pat (csstok_Number.L18 k)) else bif n.beq 8 then some (entK (cfg w0 (tab18 k)) 0 [0, 4] [] io13.pat (csstok_Number.L8 k)) else none
def csstok_Number.body : Code := bodyOf Tryz.f54
def csstok_Number.b29 : Code := findD 29 csstok_Number.body
theorem csstok_Number.s29 (w0 : World) (k : Nat) : ∀ n v K, csstok_Number.L29 k (n + 1) v K = runK (cfg w0 (tab18 k)) Tryz.f54.ntmps (csstok_Number.kr w0 k) (annot (csstok_Number.cuts w0 k) csstok_Number.b29) (mkSt [0, 4, 5, 6, 8, 9, 52, 53, 54] (io20.enc v)) (loopK (cfg w0 (tab18 k)) 0 csstok_Number.x29 (entK (cfg w0 (tab18 k)) 0 [0, 4, 5, 6, 8, 9, 52, 53, 54] [] io20.pat (csstok_Number.L29 k n)) K) := by
  intro n v K; kernel_rfl
def csstok_Number.b49 : Code := findD 49 csstok_Number.body
theorem csstok_Number.s49 (w0 : World) (k : Nat) : ∀ n v K, csstok_Number.L49 k (n + 1) v K = runK (cfg w0 (tab18 k)) Tryz.f54.ntmps (csstok_Number.kr w0 k) (annot (csstok_Number.cuts w0 k) csstok_Number.b49) (mkSt [0, 8, 9, 12, 13, 79] (io22.enc v)) (loopK (cfg w0 (tab18 k)) 0 csstok_Number.x49 (entK (cfg w0 (tab18 k)) 0 [0, 8, 9, 12, 13, 79] [] io22.pat (csstok_Number.L49 k n)) K) := by
  intro n v K; kernel_rfl
def csstok_Number.b64 : Code := findD 64 csstok_Number.body
theorem csstok_Number.s64 (w0 : World) (k : Nat) : ∀ v K, csstok_Number.L64 k v K = runK (cfg w0 (tab18 k)) Tryz.f54.ntmps (csstok_Number.kr w0 k) (annot (csstok_Number.cuts w0 k) csstok_Number.b64) (mkSt [8, 12] (io24.enc v)) (outK (cfg w0 (tab18 k)) 0 csstok_Number.x64 K) := by
  intro v K; kernel_rfl
def csstok_Number.b46 : Code := findD 46 csstok_Number.body
theorem csstok_Number.s46 (w0 : World) (k : Nat) : ∀ v K, csstok_Number.L46 k v K = runK (cfg w0 (tab18 k)) Tryz.f54.ntmps (csstok_Number.kr w0 k) (annot (csstok_Number.cuts w0 k) csstok_Number.b46) (mkSt [0, 8, 9, 12, 13] (io25.enc v)) (outK (cfg w0 (tab18 k)) 0 csstok_Number.x46 K) := by
  intro v K; kernel_rfl
def csstok_Number.b18 : Code := findD 18 csstok_Number.body
theorem csstok_Number.s18 (w0 : World) (k : Nat) : ∀ v K, csstok_Number.L18 k v K = runK (cfg w0 (tab18 k)) Tryz.f54.ntmps (csstok_Number.kr w0 k) (annot (csstok_Number.cuts w0 k) csstok_Number.b18) (mkSt [0, 4, 5, 6] (io26.enc v)) (outK (cfg w0 (tab18 k)) 0 csstok_Number.x18 K) := by
  intro v K; kernel_rfl
def csstok_Number.b8 : Code := findD 8 csstok_Number.body
theorem csstok_Number.s8 (w0 : World) (k : Nat) : ∀ v K, csstok_Number.L8 k v K = runK (cfg w0 (tab18 k)) Tryz.f54.ntmps (csstok_Number.kr w0 k) (annot (csstok_Number.cuts w0 k) csstok_Number.b8) (mkSt [0, 4] (io13.enc v)) (outK (cfg w0 (tab18 k)) 0 csstok_Number.x8 K) := by
  intro v K; kernel_rfl
theorem csstok_Number.e (w0 : World) (k : Nat) : ∀ v, (fun v => csstok_Number k v) v = runK (cfg w0 (tab18 k)) Tryz.f54.ntmps (csstok_Number.kr w0 k) (annot (csstok_Number.cuts w0 k) csstok_Number.body) (entry (io1.enc v).1 (io1.enc v).2) (endK (csstok_Number.kr w0 k)) := by
  intro v; kernel_rfl
theorem csstok_Number.hb : Tryz.f54.body = some csstok_Number.body := by kernel_rfl
def tab19 (k : Nat) : Tab T := addTab 54 (line io1 io19 ((0 : Int), (0 : Int)) (fun v => csstok_Number k v)) (tab18 k)
def csstok_lower.c7 (k : Nat) : Nat → Int → Int → (List Int) → ((List Int) → Option (List UInt8)) → Option (List UInt8)
  | 0, _, _, _, _ => none
  | n + 1, x2, x3, x4, k0 =>
    cond (decide (x3 < x2)) (
    cond (decide (0 ≤ x3 ∧ x3 < (x4.length : Int))) (
    let v5 : Bool := (decide ((x4.getD x3.toNat (0 : Int)) ≥ (65 : Int)))
    let v6 : Bool := (decide ((x4.getD x3.toNat (0 : Int)) ≤ (90 : Int)))
    cond (cond v5 v6 false) (
    let v7 : Int := (IntKind.wrap .u8 ((x4.getD x3.toNat (0 : Int)) + (32 : Int)))
    cond (decide (0 ≤ x3 ∧ x3 < (x4.length : Int))) (
    let v8 : Int := (IntKind.wrap .i64 (x3 + (1 : Int)))
    csstok_lower.c7 k n x2 v8 (x4.set x3.toNat v7) k0) none) (
    let v9 : Int := (IntKind.wrap .i64 (x3 + (1 : Int)))
    csstok_lower.c7 k n x2 v9 x4 k0)) none) (
    k0 x4)
def csstok_lower (k : Nat) (a1 : List UInt8) : Option (List UInt8) :=
csstok_lower.c7 k k ((bytesI a1).length : Int) (0 : Int) (bytesI a1) (fun (y10 : List Int) =>
some (bytesU y10))
def csstok_lower.kr (w0 : World) (k : Nat) : Kr T (List UInt8) := (kret (retK (cfg w0 (tab19 k)) Tryz.f85.results.toList 0 [] io1.pat))
def csstok_lower.x7 : Ex → Option (List Nat × List Sp)
  | .exit 0 => some ([3], [])
  | _ => none
def csstok_lower.L7 (k : Nat) (n : Nat) (v : Int × Int × (List Int)) (K : Ex → St T → Option (List UInt8)) : Option (List UInt8) := csstok_lower.c7 k n v.1 v.2.1 v.2.2 (fun y41 => K (.exit 0) (mkSt [3] (io28.enc y41)))
def csstok_lower.cuts (w0 : World) (k : Nat) : Cuts T (List UInt8) := fun n => bif n.beq 7 then some (entK (cfg w0 (tab19 k)) 0 [3, 8, 9, 10] [] io27.pat (csstok_lower.L7 k k)) else none
def csstok_lower.body : Code := bodyOf Tryz.f85
def csstok_lower.b7 : Code := findD 7 csstok_lower.body
theorem csstok_lower.s7 (w0 : World) (k : Nat) : ∀ n v K, csstok_lower.L7 k (n + 1) v K = runK (cfg w0 (tab19 k)) Tryz.f85.ntmps (csstok_lower.kr w0 k) (annot (csstok_lower.cuts w0 k) csstok_lower.b7) (mkSt [3, 8, 9, 10] (io27.enc v)) (loopK (cfg w0 (tab19 k)) 0 csstok_lower.x7 (entK (cfg w0 (tab19 k)) 0 [3, 8, 9, 10] [] io27.pat (csstok_lower.L7 k n)) K) := by
  intro n v K; kernel_rfl
theorem csstok_lower.e (w0 : World) (k : Nat) : ∀ v, (fun v => csstok_lower k v) v = runK (cfg w0 (tab19 k)) Tryz.f85.ntmps (csstok_lower.kr w0 k) (annot (csstok_lower.cuts w0 k) csstok_lower.body) (entry (io1.enc v).1 (io1.enc v).2) (endK (csstok_lower.kr w0 k)) := by
  intro v; kernel_rfl
theorem csstok_lower.hb : Tryz.f85.body = some csstok_lower.body := by kernel_rfl
def tab20 (k : Nat) : Tab T := addTab 85 (line io1 io1 [] (fun v => csstok_lower k v)) (tab19 k)
def csstok_number.c16 (k : Nat) (x6 : Int) (x7 : List UInt8) (x8 : List UInt8) (x9 : Int) (x10 : Int) (x11 : List UInt8) (x12 : List UInt8) (x13 : Int)  : Option (Int × (List UInt8) × (List UInt8) × Int) :=
some (x10, x11, x12, x13)
def csstok_number (k : Nat) (a1 : List UInt8) (a2 : Int) (a3 : Int) : Option (Int × (List UInt8) × (List UInt8) × Int) :=
cond (decide (0 ≤ a3 ∧ a3 ≤ (a1.length : Int))) (
cond (decide (0 ≤ a3 ∧ a3 ≤ (a1.length : Int))) (
(strings_HasPrefix k (a1.drop a3.toNat) ([37] : List UInt8)).bind fun r4 =>
cond r4 (
let v5 : Int := (IntKind.wrap .i64 (a3 + (1 : Int)))
cond (decide (0 ≤ v5 ∧ v5 ≤ (a1.length : Int))) (
csstok_number.c16 k (0 : Int) ([]) ([]) (0 : Int) (7 : Int) (a1.take v5.toNat) ([37] : List UInt8) a2) none) (
(csstok_begins k (a1.drop a3.toNat)).bind fun r14 =>
cond r14 (
(csstok_name k (a1.drop a3.toNat)).bind fun r15 =>
let v16 : Int := (IntKind.wrap .i64 (a3 + r15.2))
cond (decide (0 ≤ v16 ∧ v16 ≤ (a1.length : Int))) (
(csstok_lower k r15.1).bind fun r17 =>
csstok_number.c16 k (0 : Int) ([]) ([]) (0 : Int) (7 : Int) (a1.take v16.toNat) r17 a2) none) (
csstok_number.c16 k (0 : Int) ([]) ([]) (0 : Int) (7 : Int) (a1.take a3.toNat) ([]) a2))) none) none
def csstok_number.kr (w0 : World) (k : Nat) : Kr T (Int × (List UInt8) × (List UInt8) × Int) := (kret (retK (cfg w0 (tab20 k)) Tryz.f55.results.toList 0 [] io9.pat))
def csstok_number.x16 : Ex → Option (List Nat × List Sp)
  | _ => none
def csstok_number.L16 (k : Nat) (v : Int × (List UInt8) × (List UInt8) × Int × Int × (List UInt8) × (List UInt8) × Int) (K : Ex → St T → Option (Int × (List UInt8) × (List UInt8) × Int)) : Option (Int × (List UInt8) × (List UInt8) × Int) := csstok_number.c16 k v.1 v.2.1 v.2.2.1 v.2.2.2.1 v.2.2.2.2.1 v.2.2.2.2.2.1 v.2.2.2.2.2.2.1 v.2.2.2.2.2.2.2
def csstok_number.cuts (w0 : World) (k : Nat) : Cuts T (Int × (List UInt8) × (List UInt8) × Int) := fun n => bif n.beq 16 then some (entK (cfg w0 (tab20 k)) 0 [6, 7] [] io30.pat (csstok_number.L16 k)) else none
def csstok_number.body : Code := bodyOf Tryz.f55
def csstok_number.b16 : Code := findD 16 csstok_number.body
theorem csstok_number.s16 (w0 : World) (k : Nat) : ∀ v K, csstok_number.L16 k v K = runK (cfg w0 (tab20 k)) Tryz.f55.ntmps (csstok_number.kr w0 k) (annot (csstok_number.cuts w0 k) csstok_number.b16) (mkSt [6, 7] (io30.enc v)) (outK (cfg w0 (tab20 k)) 0 csstok_number.x16 K) := by
  intro v K; kernel_rfl
theorem csstok_number.e (w0 : World) (k : Nat) : ∀ v, (fun v => csstok_number k v.1 v.2.1 v.2.2) v = runK (cfg w0 (tab20 k)) Tryz.f55.ntmps (csstok_number.kr w0 k) (annot (csstok_number.cuts w0 k) csstok_number.body) (entry (io29.enc v).1 (io29.enc v).2) (endK (csstok_number.kr w0 k)) := by
  intro v; kernel_rfl
theorem csstok_number.hb : Tryz.f55.body = some csstok_number.body := by kernel_rfl
def tab21 (k : Nat) : Tab T := addTab 55 (line io29 io9 ((0 : Int), [], [], (0 : Int)) (fun v => csstok_number k v.1 v.2.1 v.2.2)) (tab20 k)
def csstok_first_1 (k : Nat) (a1 : Int) (a2 : List UInt8) : Option (Int × (List UInt8) × (List UInt8) × Int × (List UInt8)) :=
cond (decide (0 ≤ (1 : Int) ∧ (1 : Int) ≤ (a2.length : Int))) (
some (a1, (a2.take (1 : Int).toNat), [], (0 : Int), a2)) none
def csstok_first_1.kr (w0 : World) (k : Nat) : Kr T (Int × (List UInt8) × (List UInt8) × Int × (List UInt8)) := (kret (retK (cfg w0 (tab21 k)) Tryz.f45.results.toList 1 [] io32.pat))
def csstok_first_1.cuts (w0 : World) (k : Nat) : Cuts T (Int × (List UInt8) × (List UInt8) × Int × (List UInt8)) := fun n => none
def csstok_first_1.body : Code := bodyOf Tryz.f45
theorem csstok_first_1.e (w0 : World) (k : Nat) : ∀ v, (fun v => csstok_first_1 k v.1 v.2) v = runK (cfg w0 (tab21 k)) Tryz.f45.ntmps (csstok_first_1.kr w0 k) (annot (csstok_first_1.cuts w0 k) csstok_first_1.body) (entry (io31.enc v).1 (io31.enc v).2) (endK (csstok_first_1.kr w0 k)) := by
  intro v; kernel_rfl
theorem csstok_first_1.hb : Tryz.f45.body = some csstok_first_1.body := by kernel_rfl
def tab22 (k : Nat) : Tab T := addTab 45 (line io31 io32 ((0 : Int), [], [], (0 : Int), []) (fun v => csstok_first_1 k v.1 v.2)) (tab21 k)
def csstok_first.c20 (k : Nat) (x7 : List UInt8) (x8 : Int) (x9 : List UInt8) (x10 : List UInt8) (x11 : Int)  : Option (Int × (List UInt8) × (List UInt8) × Int) :=
some ((9 : Int), x7, [], (0 : Int))
def csstok_first.c52 (k : Nat) (x32 : Int) (x33 : List UInt8) (x34 : List UInt8) (x35 : Int) (x36 : Int) (x37 : List UInt8) (x38 : List UInt8) (x39 : Int)  : Option (Int × (List UInt8) × (List UInt8) × Int) :=
some (x36, x37, x38, x39)
def csstok_first.c76 (k : Nat) (x44 : Int) (x45 : List UInt8) (x46 : List UInt8) (x47 : Int) (x48 : List UInt8)  : Option (Int × (List UInt8) × (List UInt8) × Int) :=
(csstok_first_1 k (12 : Int) x48).bind fun r49 =>
some (r49.1, r49.2.1, r49.2.2.1, r49.2.2.2.1)
def csstok_first (k : Nat) (a1 : List UInt8) : Option (Int × (List UInt8) × (List UInt8) × Int) :=
(strings_TrimLeft k a1 ([32, 9, 10, 12, 13] : List UInt8)).bind fun r2 =>
let v3 : Int := (IntKind.wrap .i64 ((a1.length : Int) - (r2.length : Int)))
cond (decide (v3 > (0 : Int))) (
cond (decide (0 ≤ v3 ∧ v3 ≤ (a1.length : Int))) (
some ((8 : Int), (a1.take v3.toNat), [], (0 : Int))) none) (
(strings_CutPrefix k a1 ([47, 42] : List UInt8)).bind fun r4 =>
cond r4.2 (
(strings_Index k r4.1 ([42, 47] : List UInt8)).bind fun r5 =>
cond (decide (r5 ≥ (0 : Int))) (
let v6 : Int := (IntKind.wrap .i64 (r5 + (4 : Int)))
cond (decide (0 ≤ v6 ∧ v6 ≤ (a1.length : Int))) (
csstok_first.c20 k (a1.take v6.toNat) (0 : Int) ([]) ([]) (0 : Int)) none) (
csstok_first.c20 k a1 (0 : Int) ([]) ([]) (0 : Int))) (
cond (decide (0 ≤ (0 : Int) ∧ (0 : Int) < (a1.length : Int))) (
let v12 : Int := ((a1.getD (0 : Int).toNat 0).toNat : Int)
let v13 : Bool := (cond (v12 == (39 : Int)) true (v12 == (34 : Int)))
cond v13 (
(csstok_text k a1).bind fun r14 =>
some (r14.1, r14.2.1, r14.2.2.1, r14.2.2.2)) (
let v15 : Bool := (decide ((a1.length : Int) > (1 : Int)))
let v16 : Bool := (cond (v12 == (35 : Int)) v15 false)
cond ((decide (0 ≤ (1 : Int) ∧ (1 : Int) < (a1.length : Int))) || !v16) (
let v17 : Int := ((a1.getD (1 : Int).toNat 0).toNat : Int)
(cond v16 (csstok_sign k v17) (some false)).bind fun r18 =>
cond ((decide (0 ≤ (1 : Int) ∧ (1 : Int) ≤ (a1.length : Int))) || !(v16 && (!r18))) (
(cond (v16 && (!r18)) (csstok_escape k (a1.drop (1 : Int).toNat)) (some false)).bind fun r19 =>
let v20 : Bool := (cond v16 (cond r18 true r19) false)
cond v20 (
(csstok_named k (4 : Int) a1 (1 : Int)).bind fun r21 =>
some (r21.1, r21.2.1, r21.2.2.1, r21.2.2.2)) (
cond ((decide (0 ≤ (1 : Int) ∧ (1 : Int) ≤ (a1.length : Int))) || !(v12 == (64 : Int))) (
(cond (v12 == (64 : Int)) (csstok_begins k (a1.drop (1 : Int).toNat)) (some false)).bind fun r22 =>
let v23 : Bool := (cond (v12 == (64 : Int)) r22 false)
cond v23 (
(csstok_named k (3 : Int) a1 (1 : Int)).bind fun r24 =>
some (r24.1, r24.2.1, r24.2.2.1, r24.2.2.2)) (
(csstok_Number k a1).bind fun r25 =>
cond (decide (r25.2 > (0 : Int))) (
(csstok_number k a1 r25.1 r25.2).bind fun r26 =>
some (r26.1, r26.2.1, r26.2.2.1, r26.2.2.2)) (
(csstok_begins k a1).bind fun r27 =>
cond r27 (
(csstok_named k (1 : Int) a1 (0 : Int)).bind fun r28 =>
cond (decide (0 ≤ (r28.2.1.length : Int) ∧ (r28.2.1.length : Int) ≤ (a1.length : Int))) (
let v29 : List UInt8 := (a1.drop (r28.2.1.length : Int).toNat)
(strings_HasPrefix k v29 ([40] : List UInt8)).bind fun r30 =>
cond r30 (
let v31 : Int := (IntKind.wrap .i64 ((r28.2.1.length : Int) + (1 : Int)))
cond (decide (0 ≤ v31 ∧ v31 ≤ (a1.length : Int))) (
csstok_first.c52 k (0 : Int) ([]) ([]) (0 : Int) (2 : Int) (a1.take v31.toNat) r28.2.2.1 r28.2.2.2) none) (
csstok_first.c52 k (0 : Int) ([]) ([]) (0 : Int) r28.1 r28.2.1 r28.2.2.1 r28.2.2.2)) none) (
cond (decide (0 ≤ (0 : Int) ∧ (0 : Int) < (a1.length : Int))) (
let v40 : Int := ((a1.getD (0 : Int).toNat 0).toNat : Int)
cond (v40 == (40 : Int)) (
cond (v40 == (40 : Int)) (
(csstok_first_1 k (10 : Int) a1).bind fun r41 =>
some (r41.1, r41.2.1, r41.2.2.1, r41.2.2.2.1)) (
cond (v40 == (41 : Int)) (
cond (v40 == (41 : Int)) (
(csstok_first_1 k (11 : Int) a1).bind fun r42 =>
some (r42.1, r42.2.1, r42.2.2.1, r42.2.2.2.1)) (
cond (v40 == (92 : Int)) (
(csstok_first_1 k (6 : Int) a1).bind fun r43 =>
some (r43.1, r43.2.1, r43.2.2.1, r43.2.2.2.1)) (
csstok_first.c76 k (0 : Int) ([]) ([]) (0 : Int) a1))) (
cond (v40 == (93 : Int)) (
cond (v40 == (93 : Int)) (
(csstok_first_1 k (11 : Int) a1).bind fun r50 =>
some (r50.1, r50.2.1, r50.2.2.1, r50.2.2.2.1)) (
cond (v40 == (92 : Int)) (
(csstok_first_1 k (6 : Int) a1).bind fun r51 =>
some (r51.1, r51.2.1, r51.2.2.1, r51.2.2.2.1)) (
csstok_first.c76 k (0 : Int) ([]) ([]) (0 : Int) a1))) (
cond (v40 == (125 : Int)) (
(csstok_first_1 k (11 : Int) a1).bind fun r52 =>
some (r52.1, r52.2.1, r52.2.2.1, r52.2.2.2.1)) (
cond (v40 == (92 : Int)) (
(csstok_first_1 k (6 : Int) a1).bind fun r53 =>
some (r53.1, r53.2.1, r53.2.2.1, r53.2.2.2.1)) (
csstok_first.c76 k (0 : Int) ([]) ([]) (0 : Int) a1)))))) (
cond (v40 == (91 : Int)) (
cond (v40 == (91 : Int)) (
(csstok_first_1 k (10 : Int) a1).bind fun r54 =>
some (r54.1, r54.2.1, r54.2.2.1, r54.2.2.2.1)) (
cond (v40 == (41 : Int)) (
cond (v40 == (41 : Int)) (
(csstok_first_1 k (11 : Int) a1).bind fun r55 =>
some (r55.1, r55.2.1, r55.2.2.1, r55.2.2.2.1)) (
cond (v40 == (92 : Int)) (
(csstok_first_1 k (6 : Int) a1).bind fun r56 =>
some (r56.1, r56.2.1, r56.2.2.1, r56.2.2.2.1)) (
csstok_first.c76 k (0 : Int) ([]) ([]) (0 : Int) a1))) (
cond (v40 == (93 : Int)) (
cond (v40 == (93 : Int)) (
(csstok_first_1 k (11 : Int) a1).bind fun r57 =>
some (r57.1, r57.2.1, r57.2.2.1, r57.2.2.2.1)) (
cond (v40 == (92 : Int)) (
(csstok_first_1 k (6 : Int) a1).bind fun r58 =>
some (r58.1, r58.2.1, r58.2.2.1, r58.2.2.2.1)) (
csstok_first.c76 k (0 : Int) ([]) ([]) (0 : Int) a1))) (
cond (v40 == (125 : Int)) (
(csstok_first_1 k (11 : Int) a1).bind fun r59 =>
some (r59.1, r59.2.1, r59.2.2.1, r59.2.2.2.1)) (
cond (v40 == (92 : Int)) (
(csstok_first_1 k (6 : Int) a1).bind fun r60 =>
some (r60.1, r60.2.1, r60.2.2.1, r60.2.2.2.1)) (
csstok_first.c76 k (0 : Int) ([]) ([]) (0 : Int) a1)))))) (
cond (v40 == (123 : Int)) (
(csstok_first_1 k (10 : Int) a1).bind fun r61 =>
some (r61.1, r61.2.1, r61.2.2.1, r61.2.2.2.1)) (
cond (v40 == (41 : Int)) (
cond (v40 == (41 : Int)) (
(csstok_first_1 k (11 : Int) a1).bind fun r62 =>
some (r62.1, r62.2.1, r62.2.2.1, r62.2.2.2.1)) (
cond (v40 == (92 : Int)) (
(csstok_first_1 k (6 : Int) a1).bind fun r63 =>
some (r63.1, r63.2.1, r63.2.2.1, r63.2.2.2.1)) (
csstok_first.c76 k (0 : Int) ([]) ([]) (0 : Int) a1))) (
cond (v40 == (93 : Int)) (
cond (v40 == (93 : Int)) (
(csstok_first_1 k (11 : Int) a1).bind fun r64 =>
some (r64.1, r64.2.1, r64.2.2.1, r64.2.2.2.1)) (
cond (v40 == (92 : Int)) (
(csstok_first_1 k (6 : Int) a1).bind fun r65 =>
some (r65.1, r65.2.1, r65.2.2.1, r65.2.2.2.1)) (
csstok_first.c76 k (0 : Int) ([]) ([]) (0 : Int) a1))) (
cond (v40 == (125 : Int)) (
(csstok_first_1 k (11 : Int) a1).bind fun r66 =>
some (r66.1, r66.2.1, r66.2.2.1, r66.2.2.2.1)) (
cond (v40 == (92 : Int)) (
(csstok_first_1 k (6 : Int) a1).bind fun r67 =>
some (r67.1, r67.2.1, r67.2.2.1, r67.2.2.2.1)) (
csstok_first.c76 k (0 : Int) ([]) ([]) (0 : Int) a1)))))))) none)))) none)) none) none)) none))
def csstok_first.kr (w0 : World) (k : Nat) : Kr T (Int × (List UInt8) × (List UInt8) × Int) := (kret (retK (cfg w0 (tab22 k)) Tryz.f26.results.toList 0 [] io9.pat))
def csstok_first.x20 : Ex → Option (List Nat × List Sp)
  | _ => none
def csstok_first.L20 (k : Nat) (v : (List UInt8) × Int × (List UInt8) × (List UInt8) × Int) (K : Ex → St T → Option (Int × (List UInt8) × (List UInt8) × Int)) : Option (Int × (List UInt8) × (List UInt8) × Int) := csstok_first.c20 k v.1 v.2.1 v.2.2.1 v.2.2.2.1 v.2.2.2.2
def csstok_first.x52 : Ex → Option (List Nat × List Sp)
  | _ => none
def csstok_first.L52 (k : Nat) (v : Int × (List UInt8) × (List UInt8) × Int × Int × (List UInt8) × (List UInt8) × Int) (K : Ex → St T → Option (Int × (List UInt8) × (List UInt8) × Int)) : Option (Int × (List UInt8) × (List UInt8) × Int) := csstok_first.c52 k v.1 v.2.1 v.2.2.1 v.2.2.2.1 v.2.2.2.2.1 v.2.2.2.2.2.1 v.2.2.2.2.2.2.1 v.2.2.2.2.2.2.2
def csstok_first.x76 : Ex → Option (List Nat × List Sp)
  | _ => none
def csstok_first.L76 (k : Nat) (v : Int × (List UInt8) × (List UInt8) × Int × (List UInt8)) (K : Ex → St T → Option (Int × (List UInt8) × (List UInt8) × Int)) : Option (Int × (List UInt8) × (List UInt8) × Int) := csstok_first.c76 k v.1 v.2.1 v.2.2.1 v.2.2.2.1 v.2.2.2.2
def csstok_first.cuts (w0 : World) (k : Nat) : Cuts T (Int × (List UInt8) × (List UInt8) × Int) := fun n => bif n.beq 20 then some (entK (cfg w0 (tab22 k)) 0 [1, 2] [] io33.pat (csstok_first.L20 k)) else bif n.beq 52 then some (entK (cfg w0 (tab22 k)) 0 [2, 11] [] io30.pat (csstok_first.L52 k)) else bif n.beq 76 then some (entK (cfg w0 (tab22 k)) 0 [2, 3] [] io34.pat (csstok_first.L76 k)) else none
def csstok_first.body : Code := bodyOf Tryz.f26
def csstok_first.b20 : Code := findD 20 csstok_first.body
theorem csstok_first.s20 (w0 : World) (k : Nat) : ∀ v K, csstok_first.L20 k v K = runK (cfg w0 (tab22 k)) Tryz.f26.ntmps (csstok_first.kr w0 k) (annot (csstok_first.cuts w0 k) csstok_first.b20) (mkSt [1, 2] (io33.enc v)) (outK (cfg w0 (tab22 k)) 0 csstok_first.x20 K) := by
  intro v K; kernel_rfl
def csstok_first.b52 : Code := findD 52 csstok_first.body
theorem csstok_first.s52 (w0 : World) (k : Nat) : ∀ v K, csstok_first.L52 k v K = runK (cfg w0 (tab22 k)) Tryz.f26.ntmps (csstok_first.kr w0 k) (annot (csstok_first.cuts w0 k) csstok_first.b52) (mkSt [2, 11] (io30.enc v)) (outK (cfg w0 (tab22 k)) 0 csstok_first.x52 K) := by
  intro v K; kernel_rfl
def csstok_first.b76 : Code := findD 76 csstok_first.body
theorem csstok_first.s76 (w0 : World) (k : Nat) : ∀ v K, csstok_first.L76 k v K = runK (cfg w0 (tab22 k)) Tryz.f26.ntmps (csstok_first.kr w0 k) (annot (csstok_first.cuts w0 k) csstok_first.b76) (mkSt [2, 3] (io34.enc v)) (outK (cfg w0 (tab22 k)) 0 csstok_first.x76 K) := by
  intro v K; kernel_rfl
theorem csstok_first.e (w0 : World) (k : Nat) : ∀ v, (fun v => csstok_first k v) v = runK (cfg w0 (tab22 k)) Tryz.f26.ntmps (csstok_first.kr w0 k) (annot (csstok_first.cuts w0 k) csstok_first.body) (entry (io1.enc v).1 (io1.enc v).2) (endK (csstok_first.kr w0 k)) := by
  intro v; kernel_rfl
theorem csstok_first.hb : Tryz.f26.body = some csstok_first.body := by kernel_rfl
def tab23 (k : Nat) : Tab T := addTab 26 (line io1 io9 ((0 : Int), [], [], (0 : Int)) (fun v => csstok_first k v)) (tab22 k)
def csstok_Cut.c5 (k : Nat) : Nat → (List UInt8) → (List S70) → ((List S70) → Option (List S70)) → Option (List S70)
  | 0, _, _, _ => none
  | n + 1, x2, x3, k0 =>
    cond (!(x2 == ([] : List UInt8))) (
    (csstok_first k x2).bind fun r4 =>
    let v5 : List S70 := [(⟨r4.1, r4.2.1, r4.2.2.1, r4.2.2.2⟩ : S70)]
    cond (decide ((x3 ++ v5).length < most)) (
    cond (decide (0 ≤ (r4.2.1.length : Int) ∧ (r4.2.1.length : Int) ≤ (x2.length : Int))) (
    let v6 : List UInt8 := (x2.drop (r4.2.1.length : Int).toNat)
    csstok_Cut.c5 k n v6 (x3 ++ v5) k0) none) none) (
    k0 x3)
def csstok_Cut (k : Nat) (a1 : List UInt8) : Option (List S70) :=
csstok_Cut.c5 k k a1 ([] : List S70) (fun (y7 : List S70) =>
some y7)
def csstok_Cut.kr (w0 : World) (k : Nat) : Kr T (List S70) := (kret (retK (cfg w0 (tab23 k)) Tryz.f17.results.toList 0 [.own 0 70] io35.pat))
def csstok_Cut.x5 : Ex → Option (List Nat × List Sp)
  | .exit 0 => some ([3], [.own 3 70])
  | _ => none
def csstok_Cut.L5 (k : Nat) (n : Nat) (v : (List UInt8) × (List S70)) (K : Ex → St T → Option (List S70)) : Option (List S70) := csstok_Cut.c5 k n v.1 v.2 (fun y42 => K (.exit 0) (mkSt [3] (io35.enc y42)))
def csstok_Cut.cuts (w0 : World) (k : Nat) : Cuts T (List S70) := fun n => bif n.beq 5 then some (entK (cfg w0 (tab23 k)) 0 [0, 3] [.own 3 70] io36.pat (csstok_Cut.L5 k k)) else none
def csstok_Cut.body : Code := bodyOf Tryz.f17
def csstok_Cut.b5 : Code := findD 5 csstok_Cut.body
theorem csstok_Cut.s5 (w0 : World) (k : Nat) : ∀ n v K, csstok_Cut.L5 k (n + 1) v K = runK (cfg w0 (tab23 k)) Tryz.f17.ntmps (csstok_Cut.kr w0 k) (annot (csstok_Cut.cuts w0 k) csstok_Cut.b5) (mkSt [0, 3] (io36.enc v)) (loopK (cfg w0 (tab23 k)) 0 csstok_Cut.x5 (entK (cfg w0 (tab23 k)) 0 [0, 3] [.own 3 70] io36.pat (csstok_Cut.L5 k n)) K) := by
  intro n v K; kernel_rfl
theorem csstok_Cut.e (w0 : World) (k : Nat) : ∀ v, (fun v => csstok_Cut k v) v = runK (cfg w0 (tab23 k)) Tryz.f17.ntmps (csstok_Cut.kr w0 k) (annot (csstok_Cut.cuts w0 k) csstok_Cut.body) (entry (io1.enc v).1 (io1.enc v).2) (endK (csstok_Cut.kr w0 k)) := by
  intro v; kernel_rfl
theorem csstok_Cut.hb : Tryz.f17.body = some csstok_Cut.body := by kernel_rfl
def tab24 (k : Nat) : Tab T := addTab 17 (line io1 io35 [] (fun v => csstok_Cut k v)) (tab23 k)
def selector_reader__peek (k : Nat) (a1 : List S70) : Option (Int × (List UInt8) × (List UInt8) × Int × (List S70)) :=
let v2 : Bool := ((a1.length : Int) == (0 : Int))
cond v2 (
some ((0 : Int), [], [], (0 : Int), a1)) (
cond (decide (0 ≤ (0 : Int) ∧ (0 : Int) < (a1.length : Int))) (
let v3 : Int := (a1.getD ((0 : Int).toNat) S70.d).Kind
let v4 : List UInt8 := (a1.getD ((0 : Int).toNat) S70.d).Raw
let v5 : List UInt8 := (a1.getD ((0 : Int).toNat) S70.d).Value
let v6 : Int := (a1.getD ((0 : Int).toNat) S70.d).Num
some (v3, v4, v5, v6, a1)) none)
def selector_reader__peek.kr (w0 : World) (k : Nat) : Kr T (Int × (List UInt8) × (List UInt8) × Int × (List S70)) := (kret (retK (cfg w0 (tab24 k)) Tryz.f57.results.toList 1 [] io38.pat))
def selector_reader__peek.cuts (w0 : World) (k : Nat) : Cuts T (Int × (List UInt8) × (List UInt8) × Int × (List S70)) := fun n => none
def selector_reader__peek.body : Code := bodyOf Tryz.f57
theorem selector_reader__peek.e (w0 : World) (k : Nat) : ∀ v, (fun v => selector_reader__peek k v) v = runK (cfg w0 (tab24 k)) Tryz.f57.ntmps (selector_reader__peek.kr w0 k) (annot (selector_reader__peek.cuts w0 k) selector_reader__peek.body) (entry (io37.enc v).1 (io37.enc v).2) (endK (selector_reader__peek.kr w0 k)) := by
  intro v; kernel_rfl
theorem selector_reader__peek.hb : Tryz.f57.body = some selector_reader__peek.body := by kernel_rfl
def tab25 (k : Nat) : Tab T := addTab 57 (line io37 io38 ((0 : Int), [], [], (0 : Int), []) (fun v => selector_reader__peek k v)) (tab24 k)
def selector_reader__gap.c7 (k : Nat) : Nat → Int → (List S70) → Int → (List UInt8) → (List UInt8) → Int → (Int → (List S70) → Option (Bool × (List S70))) → Option (Bool × (List S70))
  | 0, _, _, _, _, _, _, _ => none
  | n + 1, x3, x4, x5, x6, x7, x8, k0 =>
    let v9 : Bool := (cond (x5 == (8 : Int)) true (x5 == (9 : Int)))
    cond v9 (
    cond (decide (0 ≤ (1 : Int) ∧ (1 : Int) ≤ (x4.length : Int))) (
    (selector_reader__peek k (x4.drop (1 : Int).toNat)).bind fun r10 =>
    selector_reader__gap.c7 k n x3 r10.2.2.2.2 r10.1 r10.2.1 r10.2.2.1 r10.2.2.2.1 k0) none) (
    k0 x3 x4)
def selector_reader__gap (k : Nat) (a1 : List S70) : Option (Bool × (List S70)) :=
(selector_reader__peek k a1).bind fun r2 =>
selector_reader__gap.c7 k k (a1.length : Int) r2.2.2.2.2 r2.1 r2.2.1 r2.2.2.1 r2.2.2.2.1 (fun (y11 : Int) (y12 : List S70) =>
let v13 : Bool := (decide ((y12.length : Int) < y11))
some (v13, y12))
def selector_reader__gap.kr (w0 : World) (k : Nat) : Kr T (Bool × (List S70)) := (kret (retK (cfg w0 (tab25 k)) Tryz.f27.results.toList 1 [] io39.pat))
def selector_reader__gap.x7 : Ex → Option (List Nat × List Sp)
  | .exit 0 => some ([0, 3], [])
  | _ => none
def selector_reader__gap.L7 (k : Nat) (n : Nat) (v : Int × (List S70) × Int × (List UInt8) × (List UInt8) × Int) (K : Ex → St T → Option (Bool × (List S70))) : Option (Bool × (List S70)) := selector_reader__gap.c7 k n v.1 v.2.1 v.2.2.1 v.2.2.2.1 v.2.2.2.2.1 v.2.2.2.2.2 (fun y43 y44 => K (.exit 0) (mkSt [0, 3] (io41.enc (y43, y44))))
def selector_reader__gap.cuts (w0 : World) (k : Nat) : Cuts T (Bool × (List S70)) := fun n => bif n.beq 7 then some (entK (cfg w0 (tab25 k)) 1 [0, 3, 4] [] io40.pat (selector_reader__gap.L7 k k)) else none
def selector_reader__gap.body : Code := bodyOf Tryz.f27
def selector_reader__gap.b7 : Code := findD 7 selector_reader__gap.body
theorem selector_reader__gap.s7 (w0 : World) (k : Nat) : ∀ n v K, selector_reader__gap.L7 k (n + 1) v K = runK (cfg w0 (tab25 k)) Tryz.f27.ntmps (selector_reader__gap.kr w0 k) (annot (selector_reader__gap.cuts w0 k) selector_reader__gap.b7) (mkSt [0, 3, 4] (io40.enc v)) (loopK (cfg w0 (tab25 k)) 1 selector_reader__gap.x7 (entK (cfg w0 (tab25 k)) 1 [0, 3, 4] [] io40.pat (selector_reader__gap.L7 k n)) K) := by
  intro n v K; kernel_rfl
theorem selector_reader__gap.e (w0 : World) (k : Nat) : ∀ v, (fun v => selector_reader__gap k v) v = runK (cfg w0 (tab25 k)) Tryz.f27.ntmps (selector_reader__gap.kr w0 k) (annot (selector_reader__gap.cuts w0 k) selector_reader__gap.body) (entry (io37.enc v).1 (io37.enc v).2) (endK (selector_reader__gap.kr w0 k)) := by
  intro v; kernel_rfl
theorem selector_reader__gap.hb : Tryz.f27.body = some selector_reader__gap.body := by kernel_rfl
def tab26 (k : Nat) : Tab T := addTab 27 (line io37 io39 (false, []) (fun v => selector_reader__gap k v)) (tab25 k)
def selector_reader__next.c8 (k : Nat) (x3 : List S70) (x4 : Int) (x5 : List UInt8) (x6 : List UInt8) (x7 : Int) (x8 : Int) (x9 : List UInt8) (x10 : List UInt8) (x11 : Int)  : Option (Bool × Unit × (Int × (List UInt8) × (List UInt8) × Int × (List S70))) :=
cond (decide (0 ≤ (1 : Int) ∧ (1 : Int) ≤ (x3.length : Int))) (
some (false, (), (x8, x9, x10, x11, (x3.drop (1 : Int).toNat)))) none
def selector_reader__next (k : Nat) (a1 : List S70) : Option (Bool × Unit × (Int × (List UInt8) × (List UInt8) × Int × (List S70))) :=
(selector_reader__peek k a1).bind fun r2 =>
cond (r2.1 == (0 : Int)) (
some (true, (), ((0 : Int), [], [], (0 : Int), []))) (
selector_reader__next.c8 k r2.2.2.2.2 (0 : Int) ([]) ([]) (0 : Int) r2.1 r2.2.1 r2.2.2.1 r2.2.2.2.1)
def selector_reader__next.kr (w0 : World) (k : Nat) : Kr T (Bool × Unit × (Int × (List UInt8) × (List UInt8) × Int × (List S70))) := (kpan (retK (cfg w0 (tab26 k)) Tryz.f59.results.toList 1 [] io38.pat) pp54 () ((0 : Int), [], [], (0 : Int), []))
def selector_reader__next.x8 : Ex → Option (List Nat × List Sp)
  | _ => none
def selector_reader__next.L8 (k : Nat) (v : (List S70) × Int × (List UInt8) × (List UInt8) × Int × Int × (List UInt8) × (List UInt8) × Int) (K : Ex → St T → Option (Bool × Unit × (Int × (List UInt8) × (List UInt8) × Int × (List S70)))) : Option (Bool × Unit × (Int × (List UInt8) × (List UInt8) × Int × (List S70))) := selector_reader__next.c8 k v.1 v.2.1 v.2.2.1 v.2.2.2.1 v.2.2.2.2.1 v.2.2.2.2.2.1 v.2.2.2.2.2.2.1 v.2.2.2.2.2.2.2.1 v.2.2.2.2.2.2.2.2
def selector_reader__next.cuts (w0 : World) (k : Nat) : Cuts T (Bool × Unit × (Int × (List UInt8) × (List UInt8) × Int × (List S70))) := fun n => bif n.beq 8 then some (entK (cfg w0 (tab26 k)) 1 [0, 2, 3] [] io42.pat (selector_reader__next.L8 k)) else none
def selector_reader__next.body : Code := bodyOf Tryz.f59
def selector_reader__next.b8 : Code := findD 8 selector_reader__next.body
theorem selector_reader__next.s8 (w0 : World) (k : Nat) : ∀ v K, selector_reader__next.L8 k v K = runK (cfg w0 (tab26 k)) Tryz.f59.ntmps (selector_reader__next.kr w0 k) (annot (selector_reader__next.cuts w0 k) selector_reader__next.b8) (mkSt [0, 2, 3] (io42.enc v)) (outK (cfg w0 (tab26 k)) 1 selector_reader__next.x8 K) := by
  intro v K; kernel_rfl
theorem selector_reader__next.e (w0 : World) (k : Nat) : ∀ v, (fun v => selector_reader__next k v) v = runK (cfg w0 (tab26 k)) Tryz.f59.ntmps (selector_reader__next.kr w0 k) (annot (selector_reader__next.cuts w0 k) selector_reader__next.body) (entry (io37.enc v).1 (io37.enc v).2) (endK (selector_reader__next.kr w0 k)) := by
  intro v; kernel_rfl
theorem selector_reader__next.hb : Tryz.f59.body = some selector_reader__next.body := by kernel_rfl
def tab27 (k : Nat) : Tab T := addTab 59 (lineP io37 io38 pe54 () ((0 : Int), [], [], (0 : Int), []) (fun v => selector_reader__next k v)) (tab26 k)
def selector_name (k : Nat) (a1 : List UInt8) : Option (Bool) :=
(csstok_Cut k a1).bind fun r2 =>
let v3 : Bool := ((r2.length : Int) == (1 : Int))
cond ((decide (0 ≤ (0 : Int) ∧ (0 : Int) < (r2.length : Int))) || !v3) (
let v4 : Int := (r2.getD ((0 : Int).toNat) S70.d).Kind
let v5 : Bool := (cond v3 (v4 == (1 : Int)) false)
cond ((decide (0 ≤ (0 : Int) ∧ (0 : Int) < (r2.length : Int))) || !v5) (
let v6 : List UInt8 := (r2.getD ((0 : Int).toNat) S70.d).Raw
cond ((decide (0 ≤ (0 : Int) ∧ (0 : Int) < (r2.length : Int))) || !(cond v5 (v6 == a1) false)) (
let v7 : List UInt8 := (r2.getD ((0 : Int).toNat) S70.d).Value
let v8 : Bool := (cond (cond v5 (v6 == a1) false) (v7 == a1) false)
some v8) none) none) none
def selector_name.kr (w0 : World) (k : Nat) : Kr T (Bool) := (kret (retK (cfg w0 (tab27 k)) Tryz.f69.results.toList 0 [] io2.pat))
def selector_name.cuts (w0 : World) (k : Nat) : Cuts T (Bool) := fun n => none
def selector_name.body : Code := bodyOf Tryz.f69
theorem selector_name.e (w0 : World) (k : Nat) : ∀ v, (fun v => selector_name k v) v = runK (cfg w0 (tab27 k)) Tryz.f69.ntmps (selector_name.kr w0 k) (annot (selector_name.cuts w0 k) selector_name.body) (entry (io1.enc v).1 (io1.enc v).2) (endK (selector_name.kr w0 k)) := by
  intro v; kernel_rfl
theorem selector_name.hb : Tryz.f69.body = some selector_name.body := by kernel_rfl
def tab28 (k : Nat) : Tab T := addTab 69 (line io1 io2 false (fun v => selector_name k v)) (tab27 k)
def selector_reader__need (k : Nat) (a1 : Bool) (a2 : List S70) : Option (Bool × Unit × (List S70)) :=
cond (!a1) (
some (true, (), [])) (
some (false, (), a2))
def selector_reader__need.kr (w0 : World) (k : Nat) : Kr T (Bool × Unit × (List S70)) := (kpan (retK (cfg w0 (tab28 k)) Tryz.f30.results.toList 1 [] io44.pat) pp54 () [])
def selector_reader__need.cuts (w0 : World) (k : Nat) : Cuts T (Bool × Unit × (List S70)) := fun n => none
def selector_reader__need.body : Code := bodyOf Tryz.f30
theorem selector_reader__need.e (w0 : World) (k : Nat) : ∀ v, (fun v => selector_reader__need k v.1 v.2) v = runK (cfg w0 (tab28 k)) Tryz.f30.ntmps (selector_reader__need.kr w0 k) (annot (selector_reader__need.cuts w0 k) selector_reader__need.body) (entry (io43.enc v).1 (io43.enc v).2) (endK (selector_reader__need.kr w0 k)) := by
  intro v; kernel_rfl
theorem selector_reader__need.hb : Tryz.f30.body = some selector_reader__need.body := by kernel_rfl
def tab29 (k : Nat) : Tab T := addTab 30 (lineP io43 io44 pe54 () [] (fun v => selector_reader__need k v.1 v.2)) (tab28 k)
def selector_reader__word (k : Nat) (a1 : Int) (a2 : List UInt8) (a3 : List UInt8) (a4 : Int) (a5 : Int) (a6 : List UInt8) (a7 : List S70) : Option (Bool × Unit × ((List UInt8) × (List S70))) :=
cond ((Nat.ble (a6.length + a3.length) 9223372036854775807) || !(a1 == a5)) (
let v8 : Bool := (cond (a1 == a5) (a2 == (a6 ++ a3)) false)
(cond v8 (selector_name k a3) (some false)).bind fun r9 =>
(selector_reader__need k (cond v8 r9 false) a7).bind fun r10 =>
cond r10.1 (
some (true, (), ([], []))) (
some (false, (), (a3, r10.2.2)))) none
def selector_reader__word.kr (w0 : World) (k : Nat) : Kr T (Bool × Unit × ((List UInt8) × (List S70))) := (kpan (retK (cfg w0 (tab29 k)) Tryz.f104.results.toList 1 [] io46.pat) pp54 () ([], []))
def selector_reader__word.cuts (w0 : World) (k : Nat) : Cuts T (Bool × Unit × ((List UInt8) × (List S70))) := fun n => none
def selector_reader__word.body : Code := bodyOf Tryz.f104
theorem selector_reader__word.e (w0 : World) (k : Nat) : ∀ v, (fun v => selector_reader__word k v.1 v.2.1 v.2.2.1 v.2.2.2.1 v.2.2.2.2.1 v.2.2.2.2.2.1 v.2.2.2.2.2.2) v = runK (cfg w0 (tab29 k)) Tryz.f104.ntmps (selector_reader__word.kr w0 k) (annot (selector_reader__word.cuts w0 k) selector_reader__word.body) (entry (io45.enc v).1 (io45.enc v).2) (endK (selector_reader__word.kr w0 k)) := by
  intro v; kernel_rfl
theorem selector_reader__word.hb : Tryz.f104.body = some selector_reader__word.body := by kernel_rfl
def tab30 (k : Nat) : Tab T := addTab 104 (lineP io45 io46 pe54 () ([], []) (fun v => selector_reader__word k v.1 v.2.1 v.2.2.1 v.2.2.2.1 v.2.2.2.2.1 v.2.2.2.2.2.1 v.2.2.2.2.2.2)) (tab29 k)
def selector_lower.c7 (k : Nat) : Nat → Int → Int → (List Int) → ((List Int) → Option (List UInt8)) → Option (List UInt8)
  | 0, _, _, _, _ => none
  | n + 1, x2, x3, x4, k0 =>
    cond (decide (x3 < x2)) (
    cond (decide (0 ≤ x3 ∧ x3 < (x4.length : Int))) (
    let v5 : Bool := (decide ((x4.getD x3.toNat (0 : Int)) ≥ (65 : Int)))
    let v6 : Bool := (decide ((x4.getD x3.toNat (0 : Int)) ≤ (90 : Int)))
    cond (cond v5 v6 false) (
    let v7 : Int := (IntKind.wrap .u8 ((x4.getD x3.toNat (0 : Int)) + (32 : Int)))
    cond (decide (0 ≤ x3 ∧ x3 < (x4.length : Int))) (
    let v8 : Int := (IntKind.wrap .i64 (x3 + (1 : Int)))
    selector_lower.c7 k n x2 v8 (x4.set x3.toNat v7) k0) none) (
    let v9 : Int := (IntKind.wrap .i64 (x3 + (1 : Int)))
    selector_lower.c7 k n x2 v9 x4 k0)) none) (
    k0 x4)
def selector_lower (k : Nat) (a1 : List UInt8) : Option (List UInt8) :=
selector_lower.c7 k k ((bytesI a1).length : Int) (0 : Int) (bytesI a1) (fun (y10 : List Int) =>
some (bytesU y10))
def selector_lower.kr (w0 : World) (k : Nat) : Kr T (List UInt8) := (kret (retK (cfg w0 (tab30 k)) Tryz.f70.results.toList 0 [] io1.pat))
def selector_lower.x7 : Ex → Option (List Nat × List Sp)
  | .exit 0 => some ([3], [])
  | _ => none
def selector_lower.L7 (k : Nat) (n : Nat) (v : Int × Int × (List Int)) (K : Ex → St T → Option (List UInt8)) : Option (List UInt8) := selector_lower.c7 k n v.1 v.2.1 v.2.2 (fun y45 => K (.exit 0) (mkSt [3] (io28.enc y45)))
def selector_lower.cuts (w0 : World) (k : Nat) : Cuts T (List UInt8) := fun n => bif n.beq 7 then some (entK (cfg w0 (tab30 k)) 0 [3, 8, 9, 10] [] io27.pat (selector_lower.L7 k k)) else none
def selector_lower.body : Code := bodyOf Tryz.f70
def selector_lower.b7 : Code := findD 7 selector_lower.body
theorem selector_lower.s7 (w0 : World) (k : Nat) : ∀ n v K, selector_lower.L7 k (n + 1) v K = runK (cfg w0 (tab30 k)) Tryz.f70.ntmps (selector_lower.kr w0 k) (annot (selector_lower.cuts w0 k) selector_lower.b7) (mkSt [3, 8, 9, 10] (io27.enc v)) (loopK (cfg w0 (tab30 k)) 0 selector_lower.x7 (entK (cfg w0 (tab30 k)) 0 [3, 8, 9, 10] [] io27.pat (selector_lower.L7 k n)) K) := by
  intro n v K; kernel_rfl
theorem selector_lower.e (w0 : World) (k : Nat) : ∀ v, (fun v => selector_lower k v) v = runK (cfg w0 (tab30 k)) Tryz.f70.ntmps (selector_lower.kr w0 k) (annot (selector_lower.cuts w0 k) selector_lower.body) (entry (io1.enc v).1 (io1.enc v).2) (endK (selector_lower.kr w0 k)) := by
  intro v; kernel_rfl
theorem selector_lower.hb : Tryz.f70.body = some selector_lower.body := by kernel_rfl
def tab31 (k : Nat) : Tab T := addTab 70 (line io1 io1 [] (fun v => selector_lower k v)) (tab30 k)
def selector_reader__raw (k : Nat) (a1 : List UInt8) (a2 : List S70) : Option (Bool × (List S70)) :=
(selector_reader__peek k a2).bind fun r3 =>
cond (!(r3.2.1 == a1)) (
some (false, r3.2.2.2.2)) (
cond (decide (0 ≤ (1 : Int) ∧ (1 : Int) ≤ (r3.2.2.2.2.length : Int))) (
let v4 : List S70 := (r3.2.2.2.2.drop (1 : Int).toNat)
some (true, v4)) none)
def selector_reader__raw.kr (w0 : World) (k : Nat) : Kr T (Bool × (List S70)) := (kret (retK (cfg w0 (tab31 k)) Tryz.f29.results.toList 1 [] io39.pat))
def selector_reader__raw.cuts (w0 : World) (k : Nat) : Cuts T (Bool × (List S70)) := fun n => none
def selector_reader__raw.body : Code := bodyOf Tryz.f29
theorem selector_reader__raw.e (w0 : World) (k : Nat) : ∀ v, (fun v => selector_reader__raw k v.1 v.2) v = runK (cfg w0 (tab31 k)) Tryz.f29.ntmps (selector_reader__raw.kr w0 k) (annot (selector_reader__raw.cuts w0 k) selector_reader__raw.body) (entry (io47.enc v).1 (io47.enc v).2) (endK (selector_reader__raw.kr w0 k)) := by
  intro v; kernel_rfl
theorem selector_reader__raw.hb : Tryz.f29.body = some selector_reader__raw.body := by kernel_rfl
def tab32 (k : Nat) : Tab T := addTab 29 (line io47 io39 (false, []) (fun v => selector_reader__raw k v.1 v.2)) (tab31 k)
def selector_reader__attr.c28 (k : Nat) (x26 : List S70) (x27 : Int) (x28 : List UInt8) (x29 : Int) (x30 : List UInt8) (x31 : Int) (x32 : Int) (x33 : Int) (x34 : List UInt8) (x35 : Int) (x36 : List UInt8) (x37 : Int) (x38 : Int)  : Option (Bool × Unit × (Int × (List UInt8) × Int × (List UInt8) × Int × Int × (List S70))) :=
(selector_reader__raw k ([93] : List UInt8) x26).bind fun r39 =>
(selector_reader__need k r39.1 r39.2).bind fun r40 =>
cond r40.1 (
some (true, (), ((0 : Int), [], (0 : Int), [], (0 : Int), (0 : Int), []))) (
some (false, (), (x33, x34, x35, x36, x37, x38, r40.2.2)))
def selector_reader__attr.c20 (k : Nat) (x11 : List S70) (x12 : Int) (x13 : List UInt8) (x14 : Int) (x15 : List UInt8) (x16 : Int) (x17 : Int) (x18 : Int) (x19 : List UInt8) (x20 : Int) (x21 : List UInt8) (x22 : Int) (x23 : Int)  : Option (Bool × Unit × (Int × (List UInt8) × Int × (List UInt8) × Int × Int × (List S70))) :=
(selector_reader__next k x11).bind fun r24 =>
cond r24.1 (
some (true, (), ((0 : Int), [], (0 : Int), [], (0 : Int), (0 : Int), []))) (
cond (r24.2.2.1 != (5 : Int)) (
(selector_reader__word k r24.2.2.1 r24.2.2.2.1 r24.2.2.2.2.1 r24.2.2.2.2.2.1 (1 : Int) ([] : List UInt8) r24.2.2.2.2.2.2).bind fun r25 =>
cond r25.1 (
some (true, (), ((0 : Int), [], (0 : Int), [], (0 : Int), (0 : Int), []))) (
selector_reader__attr.c28 k r25.2.2.2 x12 x13 x14 x15 x16 x17 x18 x19 x20 r25.2.2.1 x22 x23)) (
selector_reader__attr.c28 k r24.2.2.2.2.2.2 x12 x13 x14 x15 x16 x17 x18 x19 x20 r24.2.2.2.2.1 x22 x23))
def selector_reader__attr (k : Nat) (a1 : List S70) : Option (Bool × Unit × (Int × (List UInt8) × Int × (List UInt8) × Int × Int × (List S70))) :=
(selector_reader__next k a1).bind fun r2 =>
cond r2.1 (
some (true, (), ((0 : Int), [], (0 : Int), [], (0 : Int), (0 : Int), []))) (
(selector_reader__word k r2.2.2.1 r2.2.2.2.1 r2.2.2.2.2.1 r2.2.2.2.2.2.1 (1 : Int) ([] : List UInt8) r2.2.2.2.2.2.2).bind fun r3 =>
cond r3.1 (
some (true, (), ((0 : Int), [], (0 : Int), [], (0 : Int), (0 : Int), []))) (
(selector_lower k r3.2.2.1).bind fun r4 =>
(selector_reader__raw k ([93] : List UInt8) r3.2.2.2).bind fun r5 =>
cond r5.1 (
some (false, (), ((5 : Int), r4, (0 : Int), [], (0 : Int), (0 : Int), r5.2))) (
(selector_reader__next k r5.2).bind fun r6 =>
cond r6.1 (
some (true, (), ((0 : Int), [], (0 : Int), [], (0 : Int), (0 : Int), []))) (
(selector_reader__need k (r6.2.2.1 == (12 : Int)) r6.2.2.2.2.2.2).bind fun r7 =>
cond r7.1 (
some (true, (), ((0 : Int), [], (0 : Int), [], (0 : Int), (0 : Int), []))) (
cond (decide (0 ≤ (0 : Int) ∧ (0 : Int) < (r6.2.2.2.1.length : Int))) (
let v8 : Int := ((r6.2.2.2.1.getD (0 : Int).toNat 0).toNat : Int)
cond (v8 != (61 : Int)) (
(selector_reader__raw k ([61] : List UInt8) r7.2.2).bind fun r9 =>
(selector_reader__need k r9.1 r9.2).bind fun r10 =>
cond r10.1 (
some (true, (), ((0 : Int), [], (0 : Int), [], (0 : Int), (0 : Int), []))) (
selector_reader__attr.c20 k r10.2.2 (0 : Int) ([]) (0 : Int) ([]) (0 : Int) (0 : Int) (5 : Int) r4 v8 ([]) (0 : Int) (0 : Int))) (
selector_reader__attr.c20 k r7.2.2 (0 : Int) ([]) (0 : Int) ([]) (0 : Int) (0 : Int) (5 : Int) r4 v8 ([]) (0 : Int) (0 : Int))) none)))))
def selector_reader__attr.kr (w0 : World) (k : Nat) : Kr T (Bool × Unit × (Int × (List UInt8) × Int × (List UInt8) × Int × Int × (List S70))) := (kpan (retK (cfg w0 (tab32 k)) Tryz.f105.results.toList 1 [] io48.pat) pp54 () ((0 : Int), [], (0 : Int), [], (0 : Int), (0 : Int), []))
def selector_reader__attr.x28 : Ex → Option (List Nat × List Sp)
  | _ => none
def selector_reader__attr.L28 (k : Nat) (v : (List S70) × Int × (List UInt8) × Int × (List UInt8) × Int × Int × Int × (List UInt8) × Int × (List UInt8) × Int × Int) (K : Ex → St T → Option (Bool × Unit × (Int × (List UInt8) × Int × (List UInt8) × Int × Int × (List S70)))) : Option (Bool × Unit × (Int × (List UInt8) × Int × (List UInt8) × Int × Int × (List S70))) := selector_reader__attr.c28 k v.1 v.2.1 v.2.2.1 v.2.2.2.1 v.2.2.2.2.1 v.2.2.2.2.2.1 v.2.2.2.2.2.2.1 v.2.2.2.2.2.2.2.1 v.2.2.2.2.2.2.2.2.1 v.2.2.2.2.2.2.2.2.2.1 v.2.2.2.2.2.2.2.2.2.2.1 v.2.2.2.2.2.2.2.2.2.2.2.1 v.2.2.2.2.2.2.2.2.2.2.2.2
def selector_reader__attr.x20 : Ex → Option (List Nat × List Sp)
  | _ => none
def selector_reader__attr.L20 (k : Nat) (v : (List S70) × Int × (List UInt8) × Int × (List UInt8) × Int × Int × Int × (List UInt8) × Int × (List UInt8) × Int × Int) (K : Ex → St T → Option (Bool × Unit × (Int × (List UInt8) × Int × (List UInt8) × Int × Int × (List S70)))) : Option (Bool × Unit × (Int × (List UInt8) × Int × (List UInt8) × Int × Int × (List S70))) := selector_reader__attr.c20 k v.1 v.2.1 v.2.2.1 v.2.2.2.1 v.2.2.2.2.1 v.2.2.2.2.2.1 v.2.2.2.2.2.2.1 v.2.2.2.2.2.2.2.1 v.2.2.2.2.2.2.2.2.1 v.2.2.2.2.2.2.2.2.2.1 v.2.2.2.2.2.2.2.2.2.2.1 v.2.2.2.2.2.2.2.2.2.2.2.1 v.2.2.2.2.2.2.2.2.2.2.2.2
def selector_reader__attr.cuts (w0 : World) (k : Nat) : Cuts T (Bool × Unit × (Int × (List UInt8) × Int × (List UInt8) × Int × Int × (List S70))) := fun n => bif n.beq 28 then some (entK (cfg w0 (tab32 k)) 1 [0, 2, 4] [] io49.pat (selector_reader__attr.L28 k)) else bif n.beq 20 then some (entK (cfg w0 (tab32 k)) 1 [0, 2, 4] [] io49.pat (selector_reader__attr.L20 k)) else none
def selector_reader__attr.body : Code := bodyOf Tryz.f105
def selector_reader__attr.b28 : Code := findD 28 selector_reader__attr.body
theorem selector_reader__attr.s28 (w0 : World) (k : Nat) : ∀ v K, selector_reader__attr.L28 k v K = runK (cfg w0 (tab32 k)) Tryz.f105.ntmps (selector_reader__attr.kr w0 k) (annot (selector_reader__attr.cuts w0 k) selector_reader__attr.b28) (mkSt [0, 2, 4] (io49.enc v)) (outK (cfg w0 (tab32 k)) 1 selector_reader__attr.x28 K) := by
  intro v K; kernel_rfl
def selector_reader__attr.b20 : Code := findD 20 selector_reader__attr.body
theorem selector_reader__attr.s20 (w0 : World) (k : Nat) : ∀ v K, selector_reader__attr.L20 k v K = runK (cfg w0 (tab32 k)) Tryz.f105.ntmps (selector_reader__attr.kr w0 k) (annot (selector_reader__attr.cuts w0 k) selector_reader__attr.b20) (mkSt [0, 2, 4] (io49.enc v)) (outK (cfg w0 (tab32 k)) 1 selector_reader__attr.x20 K) := by
  intro v K; kernel_rfl
theorem selector_reader__attr.e (w0 : World) (k : Nat) : ∀ v, (fun v => selector_reader__attr k v) v = runK (cfg w0 (tab32 k)) Tryz.f105.ntmps (selector_reader__attr.kr w0 k) (annot (selector_reader__attr.cuts w0 k) selector_reader__attr.body) (entry (io37.enc v).1 (io37.enc v).2) (endK (selector_reader__attr.kr w0 k)) := by
  intro v; kernel_rfl
theorem selector_reader__attr.hb : Tryz.f105.body = some selector_reader__attr.body := by kernel_rfl
def tab33 (k : Nat) : Tab T := addTab 105 (lineP io37 io48 pe54 () ((0 : Int), [], (0 : Int), [], (0 : Int), (0 : Int), []) (fun v => selector_reader__attr k v)) (tab32 k)
def stringslite_Index (k : Nat) (a4 : List UInt8) (a5 : List UInt8) : Option (Int) := findS a4 a5
def tab34 (k : Nat) : Tab T := addTab 79 (line io0 io4 (0 : Int) (fun v => stringslite_Index k v.1 v.2)) (tab33 k)
def stringslite_Cut (k : Nat) (a1 : List UInt8) (a2 : List UInt8) : Option ((List UInt8) × (List UInt8) × Bool) :=
(stringslite_Index k a1 a2).bind fun r3 =>
cond (decide (r3 ≥ (0 : Int))) (
cond (decide (0 ≤ r3 ∧ r3 ≤ (a1.length : Int))) (
let v4 : Int := (IntKind.wrap .i64 (r3 + (a2.length : Int)))
cond (decide (0 ≤ v4 ∧ v4 ≤ (a1.length : Int))) (
some ((a1.take r3.toNat), (a1.drop v4.toNat), true)) none) none) (
some (a1, ([] : List UInt8), false))
def stringslite_Cut.kr (w0 : World) (k : Nat) : Kr T ((List UInt8) × (List UInt8) × Bool) := (kret (retK (cfg w0 (tab34 k)) Tryz.f140.results.toList 0 [] io50.pat))
def stringslite_Cut.cuts (w0 : World) (k : Nat) : Cuts T ((List UInt8) × (List UInt8) × Bool) := fun n => none
def stringslite_Cut.body : Code := bodyOf Tryz.f140
theorem stringslite_Cut.e (w0 : World) (k : Nat) : ∀ v, (fun v => stringslite_Cut k v.1 v.2) v = runK (cfg w0 (tab34 k)) Tryz.f140.ntmps (stringslite_Cut.kr w0 k) (annot (stringslite_Cut.cuts w0 k) stringslite_Cut.body) (entry (io0.enc v).1 (io0.enc v).2) (endK (stringslite_Cut.kr w0 k)) := by
  intro v; kernel_rfl
theorem stringslite_Cut.hb : Tryz.f140.body = some stringslite_Cut.body := by kernel_rfl
def tab35 (k : Nat) : Tab T := addTab 140 (line io0 io50 ([], [], false) (fun v => stringslite_Cut k v.1 v.2)) (tab34 k)
def strings_Cut (k : Nat) (a1 : List UInt8) (a2 : List UInt8) : Option ((List UInt8) × (List UInt8) × Bool) :=
(stringslite_Cut k a1 a2).bind fun r3 =>
some (r3.1, r3.2.1, r3.2.2)
def strings_Cut.kr (w0 : World) (k : Nat) : Kr T ((List UInt8) × (List UInt8) × Bool) := (kret (retK (cfg w0 (tab35 k)) Tryz.f132.results.toList 0 [] io50.pat))
def strings_Cut.cuts (w0 : World) (k : Nat) : Cuts T ((List UInt8) × (List UInt8) × Bool) := fun n => none
def strings_Cut.body : Code := bodyOf Tryz.f132
theorem strings_Cut.e (w0 : World) (k : Nat) : ∀ v, (fun v => strings_Cut k v.1 v.2) v = runK (cfg w0 (tab35 k)) Tryz.f132.ntmps (strings_Cut.kr w0 k) (annot (strings_Cut.cuts w0 k) strings_Cut.body) (entry (io0.enc v).1 (io0.enc v).2) (endK (strings_Cut.kr w0 k)) := by
  intro v; kernel_rfl
theorem strings_Cut.hb : Tryz.f132.body = some strings_Cut.body := by kernel_rfl
def tab36 (k : Nat) : Tab T := addTab 132 (line io0 io50 ([], [], false) (fun v => strings_Cut k v.1 v.2)) (tab35 k)
def strconv_Atoi (k : Nat) (a3 : List UInt8) : Option (Int × Bool) := atoiS a3
def tab37 (k : Nat) : Tab T := addTab 141 (line io1 io51 ((0 : Int), false) (fun v => strconv_Atoi k v)) (tab36 k)
def strings_Trim (k : Nat) (a7 : List UInt8) (a8 : List UInt8) : Option (List UInt8) := trimB a7 a8
def tab38 (k : Nat) : Tab T := addTab 142 (line io0 io1 [] (fun v => strings_Trim k v.1 v.2)) (tab37 k)
def selector_whole (k : Nat) (a1 : List UInt8) : Option (Int × Bool) :=
(strconv_Atoi k a1).bind fun r2 =>
cond ((decide (0 ≤ (1 : Int) ∧ (1 : Int) ≤ (a1.length : Int))) || !(!r2.2)) (
(cond (!r2.2) (strings_TrimLeft k (a1.take (1 : Int).toNat) ([43, 45] : List UInt8)) (some [])).bind fun r3 =>
cond ((decide (0 ≤ (1 : Int) ∧ (1 : Int) ≤ (a1.length : Int))) || !(!r2.2)) (
cond ((Nat.ble (r3.length + (a1.drop (1 : Int).toNat).length) 9223372036854775807) || !(!r2.2)) (
let v4 : List UInt8 := (r3 ++ (a1.drop (1 : Int).toNat))
(cond (!r2.2) (strings_Trim k v4 ([48, 49, 50, 51, 52, 53, 54, 55, 56, 57] : List UInt8)) (some [])).bind fun r5 =>
let v6 : Bool := (cond (!r2.2) (r5 == ([] : List UInt8)) false)
some (r2.1, v6)) none) none) none
def selector_whole.kr (w0 : World) (k : Nat) : Kr T (Int × Bool) := (kret (retK (cfg w0 (tab38 k)) Tryz.f133.results.toList 0 [] io52.pat))
def selector_whole.cuts (w0 : World) (k : Nat) : Cuts T (Int × Bool) := fun n => none
def selector_whole.body : Code := bodyOf Tryz.f133
theorem selector_whole.e (w0 : World) (k : Nat) : ∀ v, (fun v => selector_whole k v) v = runK (cfg w0 (tab38 k)) Tryz.f133.ntmps (selector_whole.kr w0 k) (annot (selector_whole.cuts w0 k) selector_whole.body) (entry (io1.enc v).1 (io1.enc v).2) (endK (selector_whole.kr w0 k)) := by
  intro v; kernel_rfl
theorem selector_whole.hb : Tryz.f133.body = some selector_whole.body := by kernel_rfl
def tab39 (k : Nat) : Tab T := addTab 133 (line io1 io52 ((0 : Int), false) (fun v => selector_whole k v)) (tab38 k)
def selector_nth.c48 (k : Nat) (x15 : Int) (x16 : Bool) (x17 : Int)  : Option (Int × Int × Bool) :=
some (x15, x17, x16)
def selector_nth.c38 (k : Nat) (x7 : List UInt8) (x8 : Int) (x9 : Bool)  : Option (Int × Int × Bool) :=
cond (!(x7 == ([] : List UInt8))) (
(selector_whole k x7).bind fun r10 =>
cond ((decide (0 ≤ (0 : Int) ∧ (0 : Int) < (x7.length : Int))) || !(cond x9 r10.2 false)) (
let v11 : Int := ((x7.getD (0 : Int).toNat 0).toNat : Int)
cond ((decide (0 ≤ (0 : Int) ∧ (0 : Int) < (x7.length : Int))) || !((cond x9 r10.2 false) && (!(v11 == (43 : Int))))) (
let v12 : Int := ((x7.getD (0 : Int).toNat 0).toNat : Int)
let v13 : Bool := (cond (v11 == (43 : Int)) true (v12 == (45 : Int)))
let v14 : Bool := (cond (cond x9 r10.2 false) v13 false)
selector_nth.c48 k x8 v14 r10.1) none) none) (
selector_nth.c48 k x8 x9 (0 : Int))
def selector_nth (k : Nat) (a1 : List UInt8) : Option (Int × Int × Bool) :=
(selector_lower k a1).bind fun r2 =>
let v3 : Bool := (r2 == ([111, 100, 100] : List UInt8))
cond v3 (
some ((2 : Int), (1 : Int), true)) (
let v4 : Bool := (r2 == ([101, 118, 101, 110] : List UInt8))
cond v4 (
some ((2 : Int), (0 : Int), true)) (
(strings_Cut k r2 ([110] : List UInt8)).bind fun r5 =>
cond (!r5.2.2) (
cond (r2 == ([] : List UInt8)) (
some ((0 : Int), (0 : Int), false)) (
(selector_whole k r2).bind fun r6 =>
some ((0 : Int), r6.1, r6.2))) (
cond (r5.1 == ([] : List UInt8)) (
selector_nth.c38 k r5.2.1 (1 : Int) true) (
cond (r5.1 == ([45] : List UInt8)) (
selector_nth.c38 k r5.2.1 (-1 : Int) true) (
(selector_whole k r5.1).bind fun r18 =>
selector_nth.c38 k r5.2.1 r18.1 r18.2)))))
def selector_nth.kr (w0 : World) (k : Nat) : Kr T (Int × Int × Bool) := (kret (retK (cfg w0 (tab39 k)) Tryz.f125.results.toList 0 [] io53.pat))
def selector_nth.x48 : Ex → Option (List Nat × List Sp)
  | _ => none
def selector_nth.L48 (k : Nat) (v : Int × Bool × Int) (K : Ex → St T → Option (Int × Int × Bool)) : Option (Int × Int × Bool) := selector_nth.c48 k v.1 v.2.1 v.2.2
def selector_nth.x38 : Ex → Option (List Nat × List Sp)
  | _ => none
def selector_nth.L38 (k : Nat) (v : (List UInt8) × Int × Bool) (K : Ex → St T → Option (Int × Int × Bool)) : Option (Int × Int × Bool) := selector_nth.c38 k v.1 v.2.1 v.2.2
def selector_nth.cuts (w0 : World) (k : Nat) : Cuts T (Int × Int × Bool) := fun n => bif n.beq 48 then some (entK (cfg w0 (tab39 k)) 0 [10, 11, 12] [] io54.pat (selector_nth.L48 k)) else bif n.beq 38 then some (entK (cfg w0 (tab39 k)) 0 [6, 10, 11] [] io55.pat (selector_nth.L38 k)) else none
def selector_nth.body : Code := bodyOf Tryz.f125
def selector_nth.b48 : Code := findD 48 selector_nth.body
theorem selector_nth.s48 (w0 : World) (k : Nat) : ∀ v K, selector_nth.L48 k v K = runK (cfg w0 (tab39 k)) Tryz.f125.ntmps (selector_nth.kr w0 k) (annot (selector_nth.cuts w0 k) selector_nth.b48) (mkSt [10, 11, 12] (io54.enc v)) (outK (cfg w0 (tab39 k)) 0 selector_nth.x48 K) := by
  intro v K; kernel_rfl
def selector_nth.b38 : Code := findD 38 selector_nth.body
theorem selector_nth.s38 (w0 : World) (k : Nat) : ∀ v K, selector_nth.L38 k v K = runK (cfg w0 (tab39 k)) Tryz.f125.ntmps (selector_nth.kr w0 k) (annot (selector_nth.cuts w0 k) selector_nth.b38) (mkSt [6, 10, 11] (io55.enc v)) (outK (cfg w0 (tab39 k)) 0 selector_nth.x38 K) := by
  intro v K; kernel_rfl
theorem selector_nth.e (w0 : World) (k : Nat) : ∀ v, (fun v => selector_nth k v) v = runK (cfg w0 (tab39 k)) Tryz.f125.ntmps (selector_nth.kr w0 k) (annot (selector_nth.cuts w0 k) selector_nth.body) (entry (io1.enc v).1 (io1.enc v).2) (endK (selector_nth.kr w0 k)) := by
  intro v; kernel_rfl
theorem selector_nth.hb : Tryz.f125.body = some selector_nth.body := by kernel_rfl
def tab40 (k : Nat) : Tab T := addTab 125 (line io1 io53 ((0 : Int), (0 : Int), false) (fun v => selector_nth k v)) (tab39 k)
def selector_reader__counted.c5 (k : Nat) : Nat → Int → (List UInt8) → (List S70) → Int → (List UInt8) → Int → (List UInt8) → Int → Int → (Int → (List UInt8) → (List S70) → Int → (List UInt8) → Int → (List UInt8) → Int → Int → Option (Bool × Unit × (Int × (List UInt8) × Int × (List UInt8) × Int × Int × (List S70)))) → Option (Bool × Unit × (Int × (List UInt8) × Int × (List UInt8) × Int × Int × (List S70)))
  | 0, _, _, _, _, _, _, _, _, _, _ => none
  | n + 1, x3, x4, x5, x6, x7, x8, x9, x10, x11, k0 =>
    (selector_reader__raw k ([41] : List UInt8) x5).bind fun r12 =>
    cond (!r12.1) (
    (selector_reader__next k r12.2).bind fun r13 =>
    cond r13.1 (
    some (true, (), ((0 : Int), [], (0 : Int), [], (0 : Int), (0 : Int), []))) (
    cond (Nat.ble (x4.length + r13.2.2.2.1.length) 9223372036854775807) (
    selector_reader__counted.c5 k n x3 (x4 ++ r13.2.2.2.1) r13.2.2.2.2.2.2 x6 x7 x8 x9 x10 x11 k0) none)) (
    k0 x3 x4 r12.2 x6 x7 x8 x9 x10 x11)
def selector_reader__counted (k : Nat) (a1 : Int) (a2 : List S70) : Option (Bool × Unit × (Int × (List UInt8) × Int × (List UInt8) × Int × Int × (List S70))) :=
selector_reader__counted.c5 k k a1 ([] : List UInt8) a2 (0 : Int) ([]) (0 : Int) ([]) (0 : Int) (0 : Int) (fun (y14 : Int) (y15 : List UInt8) (y16 : List S70) (y17 : Int) (y18 : List UInt8) (y19 : Int) (y20 : List UInt8) (y21 : Int) (y22 : Int) =>
(selector_nth k y15).bind fun r23 =>
(selector_reader__need k r23.2.2 y16).bind fun r24 =>
cond r24.1 (
some (true, (), ((0 : Int), [], (0 : Int), [], (0 : Int), (0 : Int), []))) (
some (false, (), (y14, [], (0 : Int), [], r23.1, r23.2.1, r24.2.2))))
def selector_reader__counted.kr (w0 : World) (k : Nat) : Kr T (Bool × Unit × (Int × (List UInt8) × Int × (List UInt8) × Int × Int × (List S70))) := (kpan (retK (cfg w0 (tab40 k)) Tryz.f119.results.toList 1 [] io48.pat) pp54 () ((0 : Int), [], (0 : Int), [], (0 : Int), (0 : Int), []))
def selector_reader__counted.x5 : Ex → Option (List Nat × List Sp)
  | .exit 0 => some ([0, 1, 4, 5], [])
  | _ => none
def selector_reader__counted.L5 (k : Nat) (n : Nat) (v : Int × (List UInt8) × (List S70) × Int × (List UInt8) × Int × (List UInt8) × Int × Int) (K : Ex → St T → Option (Bool × Unit × (Int × (List UInt8) × Int × (List UInt8) × Int × Int × (List S70)))) : Option (Bool × Unit × (Int × (List UInt8) × Int × (List UInt8) × Int × Int × (List S70))) := selector_reader__counted.c5 k n v.1 v.2.1 v.2.2.1 v.2.2.2.1 v.2.2.2.2.1 v.2.2.2.2.2.1 v.2.2.2.2.2.2.1 v.2.2.2.2.2.2.2.1 v.2.2.2.2.2.2.2.2 (fun y46 y47 y48 y49 y50 y51 y52 y53 y54 => K (.exit 0) (mkSt [0, 1, 4, 5] (io56.enc (y46, y47, y48, y49, y50, y51, y52, y53, y54))))
def selector_reader__counted.cuts (w0 : World) (k : Nat) : Cuts T (Bool × Unit × (Int × (List UInt8) × Int × (List UInt8) × Int × Int × (List S70))) := fun n => bif n.beq 5 then some (entK (cfg w0 (tab40 k)) 1 [0, 1, 4, 5] [] io56.pat (selector_reader__counted.L5 k k)) else none
def selector_reader__counted.body : Code := bodyOf Tryz.f119
def selector_reader__counted.b5 : Code := findD 5 selector_reader__counted.body
theorem selector_reader__counted.s5 (w0 : World) (k : Nat) : ∀ n v K, selector_reader__counted.L5 k (n + 1) v K = runK (cfg w0 (tab40 k)) Tryz.f119.ntmps (selector_reader__counted.kr w0 k) (annot (selector_reader__counted.cuts w0 k) selector_reader__counted.b5) (mkSt [0, 1, 4, 5] (io56.enc v)) (loopK (cfg w0 (tab40 k)) 1 selector_reader__counted.x5 (entK (cfg w0 (tab40 k)) 1 [0, 1, 4, 5] [] io56.pat (selector_reader__counted.L5 k n)) K) := by
  intro n v K; kernel_rfl
theorem selector_reader__counted.e (w0 : World) (k : Nat) : ∀ v, (fun v => selector_reader__counted k v.1 v.2) v = runK (cfg w0 (tab40 k)) Tryz.f119.ntmps (selector_reader__counted.kr w0 k) (annot (selector_reader__counted.cuts w0 k) selector_reader__counted.body) (entry (io41.enc v).1 (io41.enc v).2) (endK (selector_reader__counted.kr w0 k)) := by
  intro v; kernel_rfl
theorem selector_reader__counted.hb : Tryz.f119.body = some selector_reader__counted.body := by kernel_rfl
def tab41 (k : Nat) : Tab T := addTab 119 (lineP io41 io48 pe54 () ((0 : Int), [], (0 : Int), [], (0 : Int), (0 : Int), []) (fun v => selector_reader__counted k v.1 v.2)) (tab40 k)
structure selector_reader__list.G.R where
  selector_reader__pseudo : (List S70) → Option (Bool × Unit × (Int × (List UInt8) × Int × (List UInt8) × Int × Int × (List S36) × (List S70)))
  selector_reader__one : (List S70) → Option (Bool × Unit × (Int × (List UInt8) × Int × (List UInt8) × Int × Int × (List S36) × Bool × (List S70)))
  selector_reader__step : (List S70) → Option (Bool × Unit × ((List S70) × (List S26)))
  selector_reader__path : (List S70) → Option (Bool × Unit × ((List (List S26)) × (List Int) × (List S70)))
  selector_reader__list : (List UInt8) → (List S70) → Option (Bool × Unit × ((List S70) × (List S36)))
def selector_reader__pseudo.nat (k : Nat) (r : selector_reader__list.G.R) (a1 : List S70) : Option (Bool × Unit × (Int × (List UInt8) × Int × (List UInt8) × Int × Int × (List S36) × (List S70))) :=
(selector_reader__next k a1).bind fun r2 =>
cond r2.1 (
some (true, (), ((0 : Int), [], (0 : Int), [], (0 : Int), (0 : Int), [], []))) (
(selector_lower k r2.2.2.2.2.1).bind fun r3 =>
let v4 : Bool := (cond (r2.2.2.1 == (1 : Int)) (r2.2.2.2.1 == r2.2.2.2.2.1) false)
cond v4 (
let v5 : Bool := (r3 == ([114, 111, 111, 116] : List UInt8))
cond v5 (
some (false, (), ((6 : Int), [], (0 : Int), [], (0 : Int), (0 : Int), ([] : List S36), r2.2.2.2.2.2.2))) (
let v6 : Bool := (r3 == ([101, 109, 112, 116, 121] : List UInt8))
cond v6 (
some (false, (), ((7 : Int), [], (0 : Int), [], (0 : Int), (0 : Int), ([] : List S36), r2.2.2.2.2.2.2))) (
let v7 : Bool := (r3 == ([102, 105, 114, 115, 116, 45, 99, 104, 105, 108, 100] : List UInt8))
cond v7 (
some (false, (), ((8 : Int), [], (0 : Int), [], (0 : Int), (1 : Int), ([] : List S36), r2.2.2.2.2.2.2))) (
let v8 : Bool := (r3 == ([108, 97, 115, 116, 45, 99, 104, 105, 108, 100] : List UInt8))
cond v8 (
some (false, (), ((9 : Int), [], (0 : Int), [], (0 : Int), (1 : Int), ([] : List S36), r2.2.2.2.2.2.2))) (
some (true, (), ((0 : Int), [], (0 : Int), [], (0 : Int), (0 : Int), [], []))))))) (
cond ((Nat.ble (r2.2.2.2.2.1.length + ([40] : List UInt8).length) 9223372036854775807) || !(r2.2.2.1 == (2 : Int))) (
let v9 : List UInt8 := (r2.2.2.2.2.1 ++ ([40] : List UInt8))
let v10 : Bool := (cond (r2.2.2.1 == (2 : Int)) (r2.2.2.2.1 == v9) false)
cond v10 (
let v11 : Bool := (r3 == ([110, 116, 104, 45, 99, 104, 105, 108, 100] : List UInt8))
cond v11 (
(selector_reader__counted k (8 : Int) r2.2.2.2.2.2.2).bind fun r12 =>
cond r12.1 (
some (true, (), ((0 : Int), [], (0 : Int), [], (0 : Int), (0 : Int), [], []))) (
some (false, (), (r12.2.2.1, r12.2.2.2.1, r12.2.2.2.2.1, r12.2.2.2.2.2.1, r12.2.2.2.2.2.2.1, r12.2.2.2.2.2.2.2.1, ([] : List S36), r12.2.2.2.2.2.2.2.2)))) (
let v13 : Bool := (r3 == ([110, 116, 104, 45, 108, 97, 115, 116, 45, 99, 104, 105, 108, 100] : List UInt8))
cond v13 (
(selector_reader__counted k (9 : Int) r2.2.2.2.2.2.2).bind fun r14 =>
cond r14.1 (
some (true, (), ((0 : Int), [], (0 : Int), [], (0 : Int), (0 : Int), [], []))) (
some (false, (), (r14.2.2.1, r14.2.2.2.1, r14.2.2.2.2.1, r14.2.2.2.2.2.1, r14.2.2.2.2.2.2.1, r14.2.2.2.2.2.2.2.1, ([] : List S36), r14.2.2.2.2.2.2.2.2)))) (
let v15 : Bool := (r3 == ([110, 111, 116] : List UInt8))
cond v15 (
(r.selector_reader__list ([41] : List UInt8) r2.2.2.2.2.2.2).bind fun r16 =>
cond r16.1 (
some (true, (), ((0 : Int), [], (0 : Int), [], (0 : Int), (0 : Int), [], []))) (
some (false, (), ((10 : Int), [], (0 : Int), [], (0 : Int), (0 : Int), r16.2.2.2, r16.2.2.1)))) (
let v17 : Bool := (r3 == ([105, 115] : List UInt8))
cond v17 (
(r.selector_reader__list ([41] : List UInt8) r2.2.2.2.2.2.2).bind fun r18 =>
cond r18.1 (
some (true, (), ((0 : Int), [], (0 : Int), [], (0 : Int), (0 : Int), [], []))) (
some (false, (), ((11 : Int), [], (0 : Int), [], (0 : Int), (0 : Int), r18.2.2.2, r18.2.2.1)))) (
some (true, (), ((0 : Int), [], (0 : Int), [], (0 : Int), (0 : Int), [], []))))))) (
some (true, (), ((0 : Int), [], (0 : Int), [], (0 : Int), (0 : Int), [], [])))) none))
def selector_reader__one.nat (k : Nat) (r : selector_reader__list.G.R) (a1 : List S70) : Option (Bool × Unit × (Int × (List UInt8) × Int × (List UInt8) × Int × Int × (List S36) × Bool × (List S70))) :=
(selector_reader__peek k a1).bind fun r2 =>
let v3 : Bool := (r2.2.1 == ([42] : List UInt8))
cond v3 (
(selector_reader__next k r2.2.2.2.2).bind fun r4 =>
cond r4.1 (
some (true, (), ((0 : Int), [], (0 : Int), [], (0 : Int), (0 : Int), [], false, []))) (
some (false, (), ((1 : Int), [], (0 : Int), [], (0 : Int), (0 : Int), ([] : List S36), true, r4.2.2.2.2.2.2)))) (
cond (r2.1 == (1 : Int)) (
(selector_reader__next k r2.2.2.2.2).bind fun r5 =>
cond r5.1 (
some (true, (), ((0 : Int), [], (0 : Int), [], (0 : Int), (0 : Int), [], false, []))) (
(selector_reader__word k r5.2.2.1 r5.2.2.2.1 r5.2.2.2.2.1 r5.2.2.2.2.2.1 (1 : Int) ([] : List UInt8) r5.2.2.2.2.2.2).bind fun r6 =>
cond r6.1 (
some (true, (), ((0 : Int), [], (0 : Int), [], (0 : Int), (0 : Int), [], false, []))) (
(selector_lower k r6.2.2.1).bind fun r7 =>
some (false, (), ((2 : Int), r7, (0 : Int), [], (0 : Int), (0 : Int), ([] : List S36), true, r6.2.2.2))))) (
cond (r2.1 == (4 : Int)) (
(selector_reader__next k r2.2.2.2.2).bind fun r8 =>
cond r8.1 (
some (true, (), ((0 : Int), [], (0 : Int), [], (0 : Int), (0 : Int), [], false, []))) (
(selector_reader__word k r8.2.2.1 r8.2.2.2.1 r8.2.2.2.2.1 r8.2.2.2.2.2.1 (4 : Int) ([35] : List UInt8) r8.2.2.2.2.2.2).bind fun r9 =>
cond r9.1 (
some (true, (), ((0 : Int), [], (0 : Int), [], (0 : Int), (0 : Int), [], false, []))) (
some (false, (), ((3 : Int), r9.2.2.1, (0 : Int), [], (0 : Int), (0 : Int), ([] : List S36), true, r9.2.2.2))))) (
let v10 : Bool := (r2.2.1 == ([46] : List UInt8))
cond v10 (
(selector_reader__next k r2.2.2.2.2).bind fun r11 =>
cond r11.1 (
some (true, (), ((0 : Int), [], (0 : Int), [], (0 : Int), (0 : Int), [], false, []))) (
(selector_reader__next k r11.2.2.2.2.2.2).bind fun r12 =>
cond r12.1 (
some (true, (), ((0 : Int), [], (0 : Int), [], (0 : Int), (0 : Int), [], false, []))) (
(selector_reader__word k r12.2.2.1 r12.2.2.2.1 r12.2.2.2.2.1 r12.2.2.2.2.2.1 (1 : Int) ([] : List UInt8) r12.2.2.2.2.2.2).bind fun r13 =>
cond r13.1 (
some (true, (), ((0 : Int), [], (0 : Int), [], (0 : Int), (0 : Int), [], false, []))) (
some (false, (), ((4 : Int), r13.2.2.1, (0 : Int), [], (0 : Int), (0 : Int), ([] : List S36), true, r13.2.2.2)))))) (
let v14 : Bool := (r2.2.1 == ([91] : List UInt8))
cond v14 (
(selector_reader__next k r2.2.2.2.2).bind fun r15 =>
cond r15.1 (
some (true, (), ((0 : Int), [], (0 : Int), [], (0 : Int), (0 : Int), [], false, []))) (
(selector_reader__attr k r15.2.2.2.2.2.2).bind fun r16 =>
cond r16.1 (
some (true, (), ((0 : Int), [], (0 : Int), [], (0 : Int), (0 : Int), [], false, []))) (
some (false, (), (r16.2.2.1, r16.2.2.2.1, r16.2.2.2.2.1, r16.2.2.2.2.2.1, r16.2.2.2.2.2.2.1, r16.2.2.2.2.2.2.2.1, ([] : List S36), true, r16.2.2.2.2.2.2.2.2))))) (
let v17 : Bool := (r2.2.1 == ([58] : List UInt8))
cond v17 (
(selector_reader__next k r2.2.2.2.2).bind fun r18 =>
cond r18.1 (
some (true, (), ((0 : Int), [], (0 : Int), [], (0 : Int), (0 : Int), [], false, []))) (
(r.selector_reader__pseudo r18.2.2.2.2.2.2).bind fun r19 =>
cond r19.1 (
some (true, (), ((0 : Int), [], (0 : Int), [], (0 : Int), (0 : Int), [], false, []))) (
some (false, (), (r19.2.2.1, r19.2.2.2.1, r19.2.2.2.2.1, r19.2.2.2.2.2.1, r19.2.2.2.2.2.2.1, r19.2.2.2.2.2.2.2.1, r19.2.2.2.2.2.2.2.2.1, true, r19.2.2.2.2.2.2.2.2.2))))) (
some (false, (), ((0 : Int), [], (0 : Int), [], (0 : Int), (0 : Int), ([] : List S36), false, r2.2.2.2.2))))))))
def selector_reader__step.c7 (k : Nat) (r : selector_reader__list.G.R) : Nat → Bool → (List S70) → (List S26) → Int → (List UInt8) → Int → (List UInt8) → Int → Int → (List S36) → ((List S70) → (List S26) → Option (Bool × Unit × ((List S70) × (List S26)))) → Option (Bool × Unit × ((List S70) × (List S26)))
  | 0, _, _, _, _, _, _, _, _, _, _, _ => none
  | n + 1, x3, x4, x5, x6, x7, x8, x9, x10, x11, x12, k0 =>
    cond x3 (
    let v13 : List S26 := [(⟨x6, x7, x8, x9, x10, x11, x12⟩ : S26)]
    cond (decide ((x5 ++ v13).length < most)) (
    (r.selector_reader__one x4).bind fun r14 =>
    cond r14.1 (
    some (true, (), ([], []))) (
    selector_reader__step.c7 k r n r14.2.2.2.2.2.2.2.2.2.1 r14.2.2.2.2.2.2.2.2.2.2 (x5 ++ v13) r14.2.2.1 r14.2.2.2.1 r14.2.2.2.2.1 r14.2.2.2.2.2.1 r14.2.2.2.2.2.2.1 r14.2.2.2.2.2.2.2.1 r14.2.2.2.2.2.2.2.2.1 k0)) none) (
    k0 x4 x5)
def selector_reader__step.nat (k : Nat) (r : selector_reader__list.G.R) (a1 : List S70) : Option (Bool × Unit × ((List S70) × (List S26))) :=
(r.selector_reader__one a1).bind fun r2 =>
cond r2.1 (
some (true, (), ([], []))) (
selector_reader__step.c7 k r k r2.2.2.2.2.2.2.2.2.2.1 r2.2.2.2.2.2.2.2.2.2.2 ([] : List S26) r2.2.2.1 r2.2.2.2.1 r2.2.2.2.2.1 r2.2.2.2.2.2.1 r2.2.2.2.2.2.2.1 r2.2.2.2.2.2.2.2.1 r2.2.2.2.2.2.2.2.2.1 (fun (y15 : List S70) (y16 : List S26) =>
let v17 : Bool := (decide ((y16.length : Int) > (0 : Int)))
(selector_reader__need k v17 y15).bind fun r18 =>
cond r18.1 (
some (true, (), ([], []))) (
some (false, (), (r18.2.2, y16)))))
def selector_reader__path.c22 (k : Nat) (r : selector_reader__list.G.R) (x15 : List S70) (x16 : List (List S26)) (x17 : List Int) (kn : (List S70) → (List (List S26)) → (List Int) → Option (Bool × Unit × ((List (List S26)) × (List Int) × (List S70)))) : Option (Bool × Unit × ((List (List S26)) × (List Int) × (List S70))) :=
(r.selector_reader__step x15).bind fun r18 =>
cond r18.1 (
some (true, (), ([], [], []))) (
cond (decide ((x16 ++ ([r18.2.2.2])).length < most)) (
kn r18.2.2.1 (x16 ++ ([r18.2.2.2])) x17) none)
def selector_reader__path.c5 (k : Nat) (r : selector_reader__list.G.R) : Nat → (List S70) → (List (List S26)) → (List Int) → Option (Bool × Unit × ((List (List S26)) × (List Int) × (List S70)))
  | 0, _, _, _ => none
  | n + 1, x3, x4, x5 =>
    (selector_reader__gap k x3).bind fun r6 =>
    (selector_reader__peek k r6.2).bind fun r7 =>
    let v8 : Bool := (r7.2.1 == ([62] : List UInt8))
    let v9 : Bool := (r7.2.1 == ([43] : List UInt8))
    let v10 : Bool := (r7.2.1 == ([126] : List UInt8))
    let v11 : Bool := (cond (cond v8 true v9) true v10)
    cond v11 (
    (selector_reader__next k r7.2.2.2.2).bind fun r12 =>
    cond r12.1 (
    some (true, (), ([], [], []))) (
    (selector_reader__gap k r12.2.2.2.2.2.2).bind fun r13 =>
    cond (decide (0 ≤ (0 : Int) ∧ (0 : Int) < (r7.2.1.length : Int))) (
    let v14 : Int := ((r7.2.1.getD (0 : Int).toNat 0).toNat : Int)
    cond (decide ((x5 ++ ([v14])).length < most)) (
    selector_reader__path.c22 k r r13.2 x4 (x5 ++ ([v14])) (fun (y19 : List S70) (y20 : List (List S26)) (y21 : List Int) =>
    selector_reader__path.c5 k r n y19 y20 y21)) none) none)) (
    let v22 : Bool := (cond r6.1 (r7.1 != (0 : Int)) false)
    let v23 : Bool := (!(r7.2.1 == ([44] : List UInt8)))
    let v24 : Bool := (!(r7.2.1 == ([41] : List UInt8)))
    let v25 : Bool := (cond (cond v22 v23 false) v24 false)
    cond v25 (
    cond (decide ((x5 ++ ([(32 : Int)])).length < most)) (
    selector_reader__path.c22 k r r7.2.2.2.2 x4 (x5 ++ ([(32 : Int)])) (fun (y26 : List S70) (y27 : List (List S26)) (y28 : List Int) =>
    selector_reader__path.c5 k r n y26 y27 y28)) none) (
    some (false, (), (x4, x5, r7.2.2.2.2))))
def selector_reader__path.nat (k : Nat) (r : selector_reader__list.G.R) (a1 : List S70) : Option (Bool × Unit × ((List (List S26)) × (List Int) × (List S70))) :=
(r.selector_reader__step a1).bind fun r2 =>
cond r2.1 (
some (true, (), ([], [], []))) (
selector_reader__path.c5 k r k r2.2.2.1 ([r2.2.2.2]) ([] : List Int))
def selector_reader__list.c18 (k : Nat) (r : selector_reader__list.G.R) (x34 : List S70) (x35 : List S36)  : Option (Bool × Unit × ((List S70) × (List S36))) :=
some (false, (), (x34, x35))
def selector_reader__list.c5 (k : Nat) (r : selector_reader__list.G.R) : Nat → (List UInt8) → (List S70) → (List S36) → Option (Bool × Unit × ((List S70) × (List S36)))
  | 0, _, _, _ => none
  | n + 1, x3, x4, x5 =>
    (selector_reader__gap k x4).bind fun r6 =>
    (r.selector_reader__path r6.2).bind fun r7 =>
    cond r7.1 (
    some (true, (), ([], []))) (
    let v29 : List S36 := [(⟨r7.2.2.1, r7.2.2.2.1⟩ : S36)]
    cond (decide ((x5 ++ v29).length < most)) (
    (selector_reader__gap k r7.2.2.2.2).bind fun r30 =>
    (selector_reader__raw k ([44] : List UInt8) r30.2).bind fun r31 =>
    cond r31.1 (
    selector_reader__list.c5 k r n x3 r31.2 (x5 ++ v29)) (
    cond (x3 == ([] : List UInt8)) (
    let v32 : Bool := ((r31.2.length : Int) == (0 : Int))
    (selector_reader__need k v32 r31.2).bind fun r33 =>
    cond r33.1 (
    some (true, (), ([], []))) (
    selector_reader__list.c18 k r r33.2.2 (x5 ++ v29))) (
    (selector_reader__raw k x3 r31.2).bind fun r36 =>
    (selector_reader__need k r36.1 r36.2).bind fun r37 =>
    cond r37.1 (
    some (true, (), ([], []))) (
    selector_reader__list.c18 k r r37.2.2 (x5 ++ v29))))) none)
def selector_reader__list.nat (k : Nat) (r : selector_reader__list.G.R) (a1 : List UInt8) (a2 : List S70) : Option (Bool × Unit × ((List S70) × (List S36))) :=
selector_reader__list.c5 k r k a1 a2 ([] : List S36)
def selector_reader__list.G.rec (k : Nat) : Nat → selector_reader__list.G.R
  | 0 => ⟨fun _ => none, fun _ => none, fun _ => none, fun _ => none, fun _ _ => none⟩
  | n + 1 => ⟨selector_reader__pseudo.nat k (selector_reader__list.G.rec k n), selector_reader__one.nat k (selector_reader__list.G.rec k n), selector_reader__step.nat k (selector_reader__list.G.rec k n), selector_reader__path.nat k (selector_reader__list.G.rec k n), selector_reader__list.nat k (selector_reader__list.G.rec k n)⟩
def selector_reader__pseudo (k : Nat) : (List S70) → Option (Bool × Unit × (Int × (List UInt8) × Int × (List UInt8) × Int × Int × (List S36) × (List S70))) := (selector_reader__list.G.rec k k).selector_reader__pseudo
def selector_reader__one (k : Nat) : (List S70) → Option (Bool × Unit × (Int × (List UInt8) × Int × (List UInt8) × Int × Int × (List S36) × Bool × (List S70))) := (selector_reader__list.G.rec k k).selector_reader__one
def selector_reader__step (k : Nat) : (List S70) → Option (Bool × Unit × ((List S70) × (List S26))) := (selector_reader__list.G.rec k k).selector_reader__step
def selector_reader__path (k : Nat) : (List S70) → Option (Bool × Unit × ((List (List S26)) × (List Int) × (List S70))) := (selector_reader__list.G.rec k k).selector_reader__path
def selector_reader__list (k : Nat) : (List UInt8) → (List S70) → Option (Bool × Unit × ((List S70) × (List S36))) := (selector_reader__list.G.rec k k).selector_reader__list
def selector_reader__list.G.tab (k : Nat) (r : selector_reader__list.G.R) : Tab T := addTab 18 (lineP io47 io64 pe54 () ([], []) (fun v => r.selector_reader__list v.1 v.2)) (addTab 28 (lineP io37 io62 pe54 () ([], [], []) (fun v => r.selector_reader__path v)) (addTab 58 (lineP io37 io59 pe54 () ([], []) (fun v => r.selector_reader__step v)) (addTab 87 (lineP io37 io58 pe54 () ((0 : Int), [], (0 : Int), [], (0 : Int), (0 : Int), [], false, []) (fun v => r.selector_reader__one v)) (addTab 106 (lineP io37 io57 pe54 () ((0 : Int), [], (0 : Int), [], (0 : Int), (0 : Int), [], []) (fun v => r.selector_reader__pseudo v)) (tab41 k)))))
def selector_reader__pseudo.kr (w0 : World) (k : Nat) (r : selector_reader__list.G.R) : Kr T (Bool × Unit × (Int × (List UInt8) × Int × (List UInt8) × Int × Int × (List S36) × (List S70))) := (kpan (retK (cfg w0 (selector_reader__list.G.tab k r)) Tryz.f106.results.toList 1 [.agg 0 26] io57.pat) pp54 () ((0 : Int), [], (0 : Int), [], (0 : Int), (0 : Int), [], []))
def selector_reader__pseudo.cuts (w0 : World) (k : Nat) (r : selector_reader__list.G.R) : Cuts T (Bool × Unit × (Int × (List UInt8) × Int × (List UInt8) × Int × Int × (List S36) × (List S70))) := fun n => none
def selector_reader__pseudo.body : Code := bodyOf Tryz.f106
theorem selector_reader__pseudo.e (w0 : World) (k : Nat) (r : selector_reader__list.G.R) : ∀ v, (fun v => selector_reader__pseudo.nat k r v) v = runK (cfg w0 (selector_reader__list.G.tab k r)) Tryz.f106.ntmps (selector_reader__pseudo.kr w0 k r) (annot (selector_reader__pseudo.cuts w0 k r) selector_reader__pseudo.body) (entry (io37.enc v).1 (io37.enc v).2) (endK (selector_reader__pseudo.kr w0 k r)) := by
  intro v; kernel_rfl
theorem selector_reader__pseudo.hb : Tryz.f106.body = some selector_reader__pseudo.body := by kernel_rfl
def selector_reader__one.kr (w0 : World) (k : Nat) (r : selector_reader__list.G.R) : Kr T (Bool × Unit × (Int × (List UInt8) × Int × (List UInt8) × Int × Int × (List S36) × Bool × (List S70))) := (kpan (retK (cfg w0 (selector_reader__list.G.tab k r)) Tryz.f87.results.toList 1 [.agg 0 26] io58.pat) pp54 () ((0 : Int), [], (0 : Int), [], (0 : Int), (0 : Int), [], false, []))
def selector_reader__one.cuts (w0 : World) (k : Nat) (r : selector_reader__list.G.R) : Cuts T (Bool × Unit × (Int × (List UInt8) × Int × (List UInt8) × Int × Int × (List S36) × Bool × (List S70))) := fun n => none
def selector_reader__one.body : Code := bodyOf Tryz.f87
theorem selector_reader__one.e (w0 : World) (k : Nat) (r : selector_reader__list.G.R) : ∀ v, (fun v => selector_reader__one.nat k r v) v = runK (cfg w0 (selector_reader__list.G.tab k r)) Tryz.f87.ntmps (selector_reader__one.kr w0 k r) (annot (selector_reader__one.cuts w0 k r) selector_reader__one.body) (entry (io37.enc v).1 (io37.enc v).2) (endK (selector_reader__one.kr w0 k r)) := by
  intro v; kernel_rfl
theorem selector_reader__one.hb : Tryz.f87.body = some selector_reader__one.body := by kernel_rfl
def selector_reader__step.kr (w0 : World) (k : Nat) (r : selector_reader__list.G.R) : Kr T (Bool × Unit × ((List S70) × (List S26))) := (kpan (retK (cfg w0 (selector_reader__list.G.tab k r)) Tryz.f58.results.toList 1 [.own 0 26] io59.pat) pp54 () ([], []))
def selector_reader__step.x7 : Ex → Option (List Nat × List Sp)
  | .exit 0 => some ([0, 3], [.own 3 26])
  | _ => none
def selector_reader__step.L7 (k : Nat) (r : selector_reader__list.G.R) (n : Nat) (v : Bool × (List S70) × (List S26) × Int × (List UInt8) × Int × (List UInt8) × Int × Int × (List S36)) (K : Ex → St T → Option (Bool × Unit × ((List S70) × (List S26)))) : Option (Bool × Unit × ((List S70) × (List S26))) := selector_reader__step.c7 k r n v.1 v.2.1 v.2.2.1 v.2.2.2.1 v.2.2.2.2.1 v.2.2.2.2.2.1 v.2.2.2.2.2.2.1 v.2.2.2.2.2.2.2.1 v.2.2.2.2.2.2.2.2.1 v.2.2.2.2.2.2.2.2.2 (fun y55 y56 => K (.exit 0) (mkSt [0, 3] (io61.enc (y55, y56))))
def selector_reader__step.cuts (w0 : World) (k : Nat) (r : selector_reader__list.G.R) : Cuts T (Bool × Unit × ((List S70) × (List S26))) := fun n => bif n.beq 7 then some (entK (cfg w0 (selector_reader__list.G.tab k r)) 1 [0, 3, 4, 5] [.own 3 26] io60.pat (selector_reader__step.L7 k r k)) else none
def selector_reader__step.body : Code := bodyOf Tryz.f58
def selector_reader__step.b7 : Code := findD 7 selector_reader__step.body
theorem selector_reader__step.s7 (w0 : World) (k : Nat) (r : selector_reader__list.G.R) : ∀ n v K, selector_reader__step.L7 k r (n + 1) v K = runK (cfg w0 (selector_reader__list.G.tab k r)) Tryz.f58.ntmps (selector_reader__step.kr w0 k r) (annot (selector_reader__step.cuts w0 k r) selector_reader__step.b7) (mkSt [0, 3, 4, 5] (io60.enc v)) (loopK (cfg w0 (selector_reader__list.G.tab k r)) 1 selector_reader__step.x7 (entK (cfg w0 (selector_reader__list.G.tab k r)) 1 [0, 3, 4, 5] [.own 3 26] io60.pat (selector_reader__step.L7 k r n)) K) := by
  intro n v K; kernel_rfl
theorem selector_reader__step.e (w0 : World) (k : Nat) (r : selector_reader__list.G.R) : ∀ v, (fun v => selector_reader__step.nat k r v) v = runK (cfg w0 (selector_reader__list.G.tab k r)) Tryz.f58.ntmps (selector_reader__step.kr w0 k r) (annot (selector_reader__step.cuts w0 k r) selector_reader__step.body) (entry (io37.enc v).1 (io37.enc v).2) (endK (selector_reader__step.kr w0 k r)) := by
  intro v; kernel_rfl
theorem selector_reader__step.hb : Tryz.f58.body = some selector_reader__step.body := by kernel_rfl
def selector_reader__path.kr (w0 : World) (k : Nat) (r : selector_reader__list.G.R) : Kr T (Bool × Unit × ((List (List S26)) × (List Int) × (List S70))) := (kpan (retK (cfg w0 (selector_reader__list.G.tab k r)) Tryz.f28.results.toList 1 [.agg 0 36] io62.pat) pp54 () ([], [], []))
def selector_reader__path.x22 : Ex → Option (List Nat × List Sp)
  | .norm => some ([0, 2, 3], [])
  | _ => none
def selector_reader__path.L22 (k : Nat) (r : selector_reader__list.G.R) (v : (List S70) × (List (List S26)) × (List Int)) (K : Ex → St T → Option (Bool × Unit × ((List (List S26)) × (List Int) × (List S70)))) : Option (Bool × Unit × ((List (List S26)) × (List Int) × (List S70))) := selector_reader__path.c22 k r v.1 v.2.1 v.2.2 (fun y57 y58 y59 => K .norm (mkSt [0, 2, 3] (io63.enc (y57, y58, y59))))
def selector_reader__path.x5 : Ex → Option (List Nat × List Sp)
  | _ => none
def selector_reader__path.L5 (k : Nat) (r : selector_reader__list.G.R) (n : Nat) (v : (List S70) × (List (List S26)) × (List Int)) (K : Ex → St T → Option (Bool × Unit × ((List (List S26)) × (List Int) × (List S70)))) : Option (Bool × Unit × ((List (List S26)) × (List Int) × (List S70))) := selector_reader__path.c5 k r n v.1 v.2.1 v.2.2
def selector_reader__path.cuts (w0 : World) (k : Nat) (r : selector_reader__list.G.R) : Cuts T (Bool × Unit × ((List (List S26)) × (List Int) × (List S70))) := fun n => bif n.beq 22 then some (entK (cfg w0 (selector_reader__list.G.tab k r)) 1 [0, 2, 3] [] io63.pat (selector_reader__path.L22 k r)) else bif n.beq 5 then some (entK (cfg w0 (selector_reader__list.G.tab k r)) 1 [0, 2, 3] [.cell 3 1 5] io63.pat (selector_reader__path.L5 k r k)) else none
def selector_reader__path.body : Code := bodyOf Tryz.f28
def selector_reader__path.b22 : Code := findD 22 selector_reader__path.body
theorem selector_reader__path.s22 (w0 : World) (k : Nat) (r : selector_reader__list.G.R) : ∀ v K, selector_reader__path.L22 k r v K = runK (cfg w0 (selector_reader__list.G.tab k r)) Tryz.f28.ntmps (selector_reader__path.kr w0 k r) (annot (selector_reader__path.cuts w0 k r) selector_reader__path.b22) (mkSt [0, 2, 3] (io63.enc v)) (outK (cfg w0 (selector_reader__list.G.tab k r)) 1 selector_reader__path.x22 K) := by
  intro v K; kernel_rfl
def selector_reader__path.b5 : Code := findD 5 selector_reader__path.body
theorem selector_reader__path.s5 (w0 : World) (k : Nat) (r : selector_reader__list.G.R) : ∀ n v K, selector_reader__path.L5 k r (n + 1) v K = runK (cfg w0 (selector_reader__list.G.tab k r)) Tryz.f28.ntmps (selector_reader__path.kr w0 k r) (annot (selector_reader__path.cuts w0 k r) selector_reader__path.b5) (mkSt [0, 2, 3] (io63.enc v)) (loopK (cfg w0 (selector_reader__list.G.tab k r)) 1 selector_reader__path.x5 (entK (cfg w0 (selector_reader__list.G.tab k r)) 1 [0, 2, 3] [.cell 3 1 5] io63.pat (selector_reader__path.L5 k r n)) K) := by
  intro n v K; kernel_rfl
theorem selector_reader__path.e (w0 : World) (k : Nat) (r : selector_reader__list.G.R) : ∀ v, (fun v => selector_reader__path.nat k r v) v = runK (cfg w0 (selector_reader__list.G.tab k r)) Tryz.f28.ntmps (selector_reader__path.kr w0 k r) (annot (selector_reader__path.cuts w0 k r) selector_reader__path.body) (entry (io37.enc v).1 (io37.enc v).2) (endK (selector_reader__path.kr w0 k r)) := by
  intro v; kernel_rfl
theorem selector_reader__path.hb : Tryz.f28.body = some selector_reader__path.body := by kernel_rfl
def selector_reader__list.kr (w0 : World) (k : Nat) (r : selector_reader__list.G.R) : Kr T (Bool × Unit × ((List S70) × (List S36))) := (kpan (retK (cfg w0 (selector_reader__list.G.tab k r)) Tryz.f18.results.toList 1 [] io64.pat) pp54 () ([], []))
def selector_reader__list.x18 : Ex → Option (List Nat × List Sp)
  | _ => none
def selector_reader__list.L18 (k : Nat) (r : selector_reader__list.G.R) (v : (List S70) × (List S36)) (K : Ex → St T → Option (Bool × Unit × ((List S70) × (List S36)))) : Option (Bool × Unit × ((List S70) × (List S36))) := selector_reader__list.c18 k r v.1 v.2
def selector_reader__list.x5 : Ex → Option (List Nat × List Sp)
  | _ => none
def selector_reader__list.L5 (k : Nat) (r : selector_reader__list.G.R) (n : Nat) (v : (List UInt8) × (List S70) × (List S36)) (K : Ex → St T → Option (Bool × Unit × ((List S70) × (List S36)))) : Option (Bool × Unit × ((List S70) × (List S36))) := selector_reader__list.c5 k r n v.1 v.2.1 v.2.2
def selector_reader__list.cuts (w0 : World) (k : Nat) (r : selector_reader__list.G.R) : Cuts T (Bool × Unit × ((List S70) × (List S36))) := fun n => bif n.beq 18 then some (entK (cfg w0 (selector_reader__list.G.tab k r)) 1 [5] [] io64.pat (selector_reader__list.L18 k r)) else bif n.beq 5 then some (entK (cfg w0 (selector_reader__list.G.tab k r)) 1 [0, 1, 5] [.own 5 36] io65.pat (selector_reader__list.L5 k r k)) else none
def selector_reader__list.body : Code := bodyOf Tryz.f18
def selector_reader__list.b18 : Code := findD 18 selector_reader__list.body
theorem selector_reader__list.s18 (w0 : World) (k : Nat) (r : selector_reader__list.G.R) : ∀ v K, selector_reader__list.L18 k r v K = runK (cfg w0 (selector_reader__list.G.tab k r)) Tryz.f18.ntmps (selector_reader__list.kr w0 k r) (annot (selector_reader__list.cuts w0 k r) selector_reader__list.b18) (mkSt [5] (io64.enc v)) (outK (cfg w0 (selector_reader__list.G.tab k r)) 1 selector_reader__list.x18 K) := by
  intro v K; kernel_rfl
def selector_reader__list.b5 : Code := findD 5 selector_reader__list.body
theorem selector_reader__list.s5 (w0 : World) (k : Nat) (r : selector_reader__list.G.R) : ∀ n v K, selector_reader__list.L5 k r (n + 1) v K = runK (cfg w0 (selector_reader__list.G.tab k r)) Tryz.f18.ntmps (selector_reader__list.kr w0 k r) (annot (selector_reader__list.cuts w0 k r) selector_reader__list.b5) (mkSt [0, 1, 5] (io65.enc v)) (loopK (cfg w0 (selector_reader__list.G.tab k r)) 1 selector_reader__list.x5 (entK (cfg w0 (selector_reader__list.G.tab k r)) 1 [0, 1, 5] [.own 5 36] io65.pat (selector_reader__list.L5 k r n)) K) := by
  intro n v K; kernel_rfl
theorem selector_reader__list.e (w0 : World) (k : Nat) (r : selector_reader__list.G.R) : ∀ v, (fun v => selector_reader__list.nat k r v.1 v.2) v = runK (cfg w0 (selector_reader__list.G.tab k r)) Tryz.f18.ntmps (selector_reader__list.kr w0 k r) (annot (selector_reader__list.cuts w0 k r) selector_reader__list.body) (entry (io47.enc v).1 (io47.enc v).2) (endK (selector_reader__list.kr w0 k r)) := by
  intro v; kernel_rfl
theorem selector_reader__list.hb : Tryz.f18.body = some selector_reader__list.body := by kernel_rfl
def tab42 (k : Nat) : Tab T := selector_reader__list.G.tab k (selector_reader__list.G.rec k k)
structure selector_tests.G.R where
  selector_tests : (List S36) → Int → Option (Int × Bool)
def selector_tests.c21 (k : Nat) (r : selector_tests.G.R) : Nat → Int → Int → (List S36) → Int → Int → (List (List S26)) → Int → Int → (List S26) → Int → Int → (Int → Int → (List S36) → Int → Int → (List (List S26)) → Int → Int → Option (Int × Bool)) → Option (Int × Bool)
  | 0, _, _, _, _, _, _, _, _, _, _, _, _ => none
  | n + 1, x20, x21, x22, x23, x24, x25, x26, x27, x28, x29, x30, k4 =>
    cond (decide (x30 < x29)) (
    cond (decide (0 ≤ x30 ∧ x30 < (x28.length : Int))) (
    let v31 : Int := (x28.getD x30.toNat S26.d).Kind
    let v32 : List UInt8 := (x28.getD x30.toNat S26.d).Name
    let v33 : List UInt8 := (x28.getD x30.toNat S26.d).Value
    let v34 : List S36 := (x28.getD x30.toNat S26.d).Subs
    let v35 : Bool := ((v34.length : Int) == (0 : Int))
    cond v35 (
    let v36 : Int := (IntKind.wrap .i64 (x30 + (1 : Int)))
    selector_tests.c21 k r n x20 x21 x22 x23 x24 x25 x26 x27 x28 x29 v36 k4) (
    let v37 : Int := (IntKind.wrap .i64 (x20 + (1 : Int)))
    (r.selector_tests v34 v37).bind fun r38 =>
    let v39 : Int := (IntKind.wrap .i64 (x21 + r38.1))
    let v40 : Bool := (cond (!r38.2) true (decide (x20 ≥ (3 : Int))))
    let v41 : Bool := (cond v40 true (decide (v39 > (40 : Int))))
    cond v41 (
    some (v39, false)) (
    let v42 : Int := (IntKind.wrap .i64 (x30 + (1 : Int)))
    selector_tests.c21 k r n x20 v39 x22 x23 x24 x25 x26 x27 x28 x29 v42 k4))) none) (
    k4 x20 x21 x22 x23 x24 x25 x26 x27)
def selector_tests.c13 (k : Nat) (r : selector_tests.G.R) : Nat → Int → Int → (List S36) → Int → Int → (List (List S26)) → Int → Int → (Int → Int → (List S36) → Int → Int → Option (Int × Bool)) → Option (Int × Bool)
  | 0, _, _, _, _, _, _, _, _, _ => none
  | n + 1, x9, x10, x11, x12, x13, x14, x15, x16, k2 =>
    cond (decide (x16 < x15)) (
    cond (decide (0 ≤ x16 ∧ x16 < (x14.length : Int))) (
    let v17 : Int := ((x14.getD x16.toNat []).length : Int)
    let v18 : Int := (IntKind.wrap .i64 (x10 + v17))
    let v19 : Int := ((x14.getD x16.toNat []).length : Int)
    selector_tests.c21 k r k x9 v18 x11 x12 x13 x14 x15 x16 (x14.getD x16.toNat []) v19 (0 : Int) (fun (y43 : Int) (y44 : Int) (y45 : List S36) (y46 : Int) (y47 : Int) (y48 : List (List S26)) (y49 : Int) (y50 : Int) =>
    let v51 : Int := (IntKind.wrap .i64 (y50 + (1 : Int)))
    selector_tests.c13 k r n y43 y44 y45 y46 y47 y48 y49 v51 k2)) none) (
    k2 x9 x10 x11 x12 x13)
def selector_tests.c7 (k : Nat) (r : selector_tests.G.R) : Nat → Int → Int → (List S36) → Int → Int → (Int → Option (Int × Bool)) → Option (Int × Bool)
  | 0, _, _, _, _, _, _ => none
  | n + 1, x3, x4, x5, x6, x7, k0 =>
    cond (decide (x7 < x6)) (
    cond (decide (0 ≤ x7 ∧ x7 < (x5.length : Int))) (
    let v8 : Int := (((x5.getD x7.toNat S36.d).Steps).length : Int)
    selector_tests.c13 k r k x3 x4 x5 x6 x7 ((x5.getD x7.toNat S36.d).Steps) v8 (0 : Int) (fun (y52 : Int) (y53 : Int) (y54 : List S36) (y55 : Int) (y56 : Int) =>
    let v57 : Int := (IntKind.wrap .i64 (y56 + (1 : Int)))
    selector_tests.c7 k r n y52 y53 y54 y55 v57 k0)) none) (
    k0 x4)
def selector_tests.nat (k : Nat) (r : selector_tests.G.R) (a1 : List S36) (a2 : Int) : Option (Int × Bool) :=
selector_tests.c7 k r k a2 (0 : Int) a1 (a1.length : Int) (0 : Int) (fun (y58 : Int) =>
some (y58, (decide (y58 ≤ (40 : Int)))))
def selector_tests.G.rec (k : Nat) : Nat → selector_tests.G.R
  | 0 => ⟨fun _ _ => none⟩
  | n + 1 => ⟨selector_tests.nat k (selector_tests.G.rec k n)⟩
def selector_tests (k : Nat) : (List S36) → Int → Option (Int × Bool) := (selector_tests.G.rec k k).selector_tests
def selector_tests.G.tab (k : Nat) (r : selector_tests.G.R) : Tab T := addTab 23 (line io66 io52 ((0 : Int), false) (fun v => r.selector_tests v.1 v.2)) (tab42 k)
def selector_tests.kr (w0 : World) (k : Nat) (r : selector_tests.G.R) : Kr T (Int × Bool) := (kret (retK (cfg w0 (selector_tests.G.tab k r)) Tryz.f23.results.toList 0 [] io52.pat))
def selector_tests.x21 : Ex → Option (List Nat × List Sp)
  | .exit 4 => some ([1, 6, 15, 16, 17, 22, 23, 24], [])
  | _ => none
def selector_tests.L21 (k : Nat) (r : selector_tests.G.R) (n : Nat) (v : Int × Int × (List S36) × Int × Int × (List (List S26)) × Int × Int × (List S26) × Int × Int) (K : Ex → St T → Option (Int × Bool)) : Option (Int × Bool) := selector_tests.c21 k r n v.1 v.2.1 v.2.2.1 v.2.2.2.1 v.2.2.2.2.1 v.2.2.2.2.2.1 v.2.2.2.2.2.2.1 v.2.2.2.2.2.2.2.1 v.2.2.2.2.2.2.2.2.1 v.2.2.2.2.2.2.2.2.2.1 v.2.2.2.2.2.2.2.2.2.2 (fun y60 y61 y62 y63 y64 y65 y66 y67 => K (.exit 4) (mkSt [1, 6, 15, 16, 17, 22, 23, 24] (io68.enc (y60, y61, y62, y63, y64, y65, y66, y67))))
def selector_tests.x13 : Ex → Option (List Nat × List Sp)
  | .exit 2 => some ([1, 6, 15, 16, 17], [])
  | _ => none
def selector_tests.L13 (k : Nat) (r : selector_tests.G.R) (n : Nat) (v : Int × Int × (List S36) × Int × Int × (List (List S26)) × Int × Int) (K : Ex → St T → Option (Int × Bool)) : Option (Int × Bool) := selector_tests.c13 k r n v.1 v.2.1 v.2.2.1 v.2.2.2.1 v.2.2.2.2.1 v.2.2.2.2.2.1 v.2.2.2.2.2.2.1 v.2.2.2.2.2.2.2 (fun y68 y69 y70 y71 y72 => K (.exit 2) (mkSt [1, 6, 15, 16, 17] (io69.enc (y68, y69, y70, y71, y72))))
def selector_tests.x7 : Ex → Option (List Nat × List Sp)
  | .exit 0 => some ([6], [])
  | _ => none
def selector_tests.L7 (k : Nat) (r : selector_tests.G.R) (n : Nat) (v : Int × Int × (List S36) × Int × Int) (K : Ex → St T → Option (Int × Bool)) : Option (Int × Bool) := selector_tests.c7 k r n v.1 v.2.1 v.2.2.1 v.2.2.2.1 v.2.2.2.2 (fun y73 => K (.exit 0) (mkSt [6] (io4.enc y73)))
def selector_tests.cuts (w0 : World) (k : Nat) (r : selector_tests.G.R) : Cuts T (Int × Bool) := fun n => bif n.beq 21 then some (entK (cfg w0 (selector_tests.G.tab k r)) 0 [1, 6, 15, 16, 17, 22, 23, 24, 32, 33, 34] [] io67.pat (selector_tests.L21 k r k)) else bif n.beq 13 then some (entK (cfg w0 (selector_tests.G.tab k r)) 0 [1, 6, 15, 16, 17, 22, 23, 24] [] io68.pat (selector_tests.L13 k r k)) else bif n.beq 7 then some (entK (cfg w0 (selector_tests.G.tab k r)) 0 [1, 6, 15, 16, 17] [] io69.pat (selector_tests.L7 k r k)) else none
def selector_tests.body : Code := bodyOf Tryz.f23
def selector_tests.b21 : Code := findD 21 selector_tests.body
theorem selector_tests.s21 (w0 : World) (k : Nat) (r : selector_tests.G.R) : ∀ n v K, selector_tests.L21 k r (n + 1) v K = runK (cfg w0 (selector_tests.G.tab k r)) Tryz.f23.ntmps (selector_tests.kr w0 k r) (annot (selector_tests.cuts w0 k r) selector_tests.b21) (mkSt [1, 6, 15, 16, 17, 22, 23, 24, 32, 33, 34] (io67.enc v)) (loopK (cfg w0 (selector_tests.G.tab k r)) 0 selector_tests.x21 (entK (cfg w0 (selector_tests.G.tab k r)) 0 [1, 6, 15, 16, 17, 22, 23, 24, 32, 33, 34] [] io67.pat (selector_tests.L21 k r n)) K) := by
  intro n v K; kernel_rfl
def selector_tests.b13 : Code := findD 13 selector_tests.body
theorem selector_tests.s13 (w0 : World) (k : Nat) (r : selector_tests.G.R) : ∀ n v K, selector_tests.L13 k r (n + 1) v K = runK (cfg w0 (selector_tests.G.tab k r)) Tryz.f23.ntmps (selector_tests.kr w0 k r) (annot (selector_tests.cuts w0 k r) selector_tests.b13) (mkSt [1, 6, 15, 16, 17, 22, 23, 24] (io68.enc v)) (loopK (cfg w0 (selector_tests.G.tab k r)) 0 selector_tests.x13 (entK (cfg w0 (selector_tests.G.tab k r)) 0 [1, 6, 15, 16, 17, 22, 23, 24] [] io68.pat (selector_tests.L13 k r n)) K) := by
  intro n v K; kernel_rfl
def selector_tests.b7 : Code := findD 7 selector_tests.body
theorem selector_tests.s7 (w0 : World) (k : Nat) (r : selector_tests.G.R) : ∀ n v K, selector_tests.L7 k r (n + 1) v K = runK (cfg w0 (selector_tests.G.tab k r)) Tryz.f23.ntmps (selector_tests.kr w0 k r) (annot (selector_tests.cuts w0 k r) selector_tests.b7) (mkSt [1, 6, 15, 16, 17] (io69.enc v)) (loopK (cfg w0 (selector_tests.G.tab k r)) 0 selector_tests.x7 (entK (cfg w0 (selector_tests.G.tab k r)) 0 [1, 6, 15, 16, 17] [] io69.pat (selector_tests.L7 k r n)) K) := by
  intro n v K; kernel_rfl
theorem selector_tests.e (w0 : World) (k : Nat) (r : selector_tests.G.R) : ∀ v, (fun v => selector_tests.nat k r v.1 v.2) v = runK (cfg w0 (selector_tests.G.tab k r)) Tryz.f23.ntmps (selector_tests.kr w0 k r) (annot (selector_tests.cuts w0 k r) selector_tests.body) (entry (io66.enc v).1 (io66.enc v).2) (endK (selector_tests.kr w0 k r)) := by
  intro v; kernel_rfl
theorem selector_tests.hb : Tryz.f23.body = some selector_tests.body := by kernel_rfl
def tab43 (k : Nat) : Tab T := selector_tests.G.tab k (selector_tests.G.rec k k)
def strings_IndexByte (k : Nat) (a20 : List UInt8) (a21 : Int) : Option (Int) := some (ixbS a20 a21)
def tab44 (k : Nat) : Tab T := addTab 43 (line io70 io4 (0 : Int) (fun v => strings_IndexByte k v.1 v.2)) (tab43 k)
def selector_counts (k : Nat) (a1 : Int) (a2 : List UInt8) (a3 : Int) (a4 : List UInt8) (a5 : Int) (a6 : Int) (a7 : List S36) : Option (Bool) :=
let v8 : Bool := (cond (a1 == (8 : Int)) true (a1 == (9 : Int)))
some v8
def selector_counts.kr (w0 : World) (k : Nat) : Kr T (Bool) := (kret (retK (cfg w0 (tab44 k)) Tryz.f71.results.toList 0 [] io2.pat))
def selector_counts.cuts (w0 : World) (k : Nat) : Cuts T (Bool) := fun n => none
def selector_counts.body : Code := bodyOf Tryz.f71
theorem selector_counts.e (w0 : World) (k : Nat) : ∀ v, (fun v => selector_counts k v.1 v.2.1 v.2.2.1 v.2.2.2.1 v.2.2.2.2.1 v.2.2.2.2.2.1 v.2.2.2.2.2.2) v = runK (cfg w0 (tab44 k)) Tryz.f71.ntmps (selector_counts.kr w0 k) (annot (selector_counts.cuts w0 k) selector_counts.body) (entry (io71.enc v).1 (io71.enc v).2) (endK (selector_counts.kr w0 k)) := by
  intro v; kernel_rfl
theorem selector_counts.hb : Tryz.f71.body = some selector_counts.body := by kernel_rfl
def tab45 (k : Nat) : Tab T := addTab 71 (line io71 io2 false (fun v => selector_counts k v.1 v.2.1 v.2.2.1 v.2.2.2.1 v.2.2.2.2.1 v.2.2.2.2.2.1 v.2.2.2.2.2.2)) (tab44 k)
def selector_nested (k : Nat) (a1 : Int) (a2 : List UInt8) (a3 : Int) (a4 : List UInt8) (a5 : Int) (a6 : Int) (a7 : List S36) : Option (Bool) :=
let v8 : Bool := (cond (a1 == (10 : Int)) true (a1 == (11 : Int)))
some v8
def selector_nested.kr (w0 : World) (k : Nat) : Kr T (Bool) := (kret (retK (cfg w0 (tab45 k)) Tryz.f72.results.toList 0 [] io2.pat))
def selector_nested.cuts (w0 : World) (k : Nat) : Cuts T (Bool) := fun n => none
def selector_nested.body : Code := bodyOf Tryz.f72
theorem selector_nested.e (w0 : World) (k : Nat) : ∀ v, (fun v => selector_nested k v.1 v.2.1 v.2.2.1 v.2.2.2.1 v.2.2.2.2.1 v.2.2.2.2.2.1 v.2.2.2.2.2.2) v = runK (cfg w0 (tab45 k)) Tryz.f72.ntmps (selector_nested.kr w0 k) (annot (selector_nested.cuts w0 k) selector_nested.body) (entry (io71.enc v).1 (io71.enc v).2) (endK (selector_nested.kr w0 k)) := by
  intro v; kernel_rfl
theorem selector_nested.hb : Tryz.f72.body = some selector_nested.body := by kernel_rfl
def tab46 (k : Nat) : Tab T := addTab 72 (line io71 io2 false (fun v => selector_nested k v.1 v.2.1 v.2.2.1 v.2.2.2.1 v.2.2.2.2.1 v.2.2.2.2.2.1 v.2.2.2.2.2.2)) (tab45 k)
structure selector_paths.G.R where
  selector_test : Int → (List UInt8) → Int → (List UInt8) → Int → Int → (List S36) → Int → Option (Bool)
  selector_paths : (List S36) → Option (Bool)
def selector_test.nat (k : Nat) (r : selector_paths.G.R) (a1 : Int) (a2 : List UInt8) (a3 : Int) (a4 : List UInt8) (a5 : Int) (a6 : Int) (a7 : List S36) (a8 : Int) : Option (Bool) :=
let v9 : Bool := (cond (decide (a1 ≥ (2 : Int))) (decide (a1 ≤ (5 : Int))) false)
let v10 : Bool := (cond (decide (a1 < (1 : Int))) true (decide (a1 > (11 : Int))))
let v11 : Bool := (cond (decide (a1 ≤ (2 : Int))) (decide (a8 > (0 : Int))) false)
let v12 : Bool := (!(v9 == (!(a2 == ([] : List UInt8)))))
let v13 : Bool := (cond (cond v10 true v11) true v12)
(cond ((!v13) && v9) (selector_name k a2) (some false)).bind fun r14 =>
let v15 : Bool := (cond v13 true (cond v9 (!r14) false))
cond v15 (
some false) (
let v16 : Bool := (cond (a1 == (2 : Int)) true (a1 == (5 : Int)))
(cond v16 (selector_lower k a2) (some [])).bind fun r17 =>
let v18 : Bool := (cond v16 (!(a2 == r17)) false)
cond v18 (
some false) (
(cond ((a3 != (0 : Int)) && (!(a1 != (5 : Int)))) (strings_IndexByte k ([61, 126, 124, 94, 36, 42] : List UInt8) a3) (some (0 : Int))).bind fun r19 =>
let v20 : Bool := (cond (a1 != (5 : Int)) true (decide (r19 < (0 : Int))))
let v21 : Bool := (cond (a3 != (0 : Int)) v20 false)
let v22 : Bool := (cond (a3 == (0 : Int)) (!(a4 == ([] : List UInt8))) false)
cond (cond v21 true v22) (
some false) (
(selector_counts k a1 a2 a3 a4 a5 a6 a7).bind fun r23 =>
let v24 : Bool := (cond (a5 != (0 : Int)) true (a6 != (0 : Int)))
let v25 : Bool := (decide ((if a6 < a5 then a6 else a5) < (-1000 : Int)))
let v26 : Bool := (cond (cond (!r23) v24 false) true v25)
let v27 : Bool := (decide ((if a6 > a5 then a6 else a5) > (1000 : Int)))
cond (cond v26 true v27) (
some false) (
(selector_nested k a1 a2 a3 a4 a5 a6 a7).bind fun r28 =>
cond r28 (
(r.selector_paths a7).bind fun r29 =>
some r29) (
let v30 : Bool := ((a7.length : Int) == (0 : Int))
some v30)))))
def selector_paths.c21 (k : Nat) (r : selector_paths.G.R) : Nat → (List S36) → (List S26) → (List S36) → Int → Int → (List (List S26)) → Int → Int → (List S26) → Int → Int → (List (List S26)) → (List Int) → ((List S36) → (List S26) → (List S36) → Int → Int → (List (List S26)) → Int → Int → (List (List S26)) → (List Int) → Option (Bool)) → Option (Bool)
  | 0, _, _, _, _, _, _, _, _, _, _, _, _, _, _ => none
  | n + 1, x22, x23, x24, x25, x26, x27, x28, x29, x30, x31, x32, x33, x34, k4 =>
    cond (decide (x32 < x31)) (
    cond (decide (0 ≤ x32 ∧ x32 < (x30.length : Int))) (
    let v35 : Int := (x30.getD x32.toNat S26.d).Kind
    let v36 : List UInt8 := (x30.getD x32.toNat S26.d).Name
    let v37 : List UInt8 := (x30.getD x32.toNat S26.d).Value
    let v38 : List S36 := (x30.getD x32.toNat S26.d).Subs
    (r.selector_test v35 v36 ((x30.getD x32.toNat S26.d).Op) v37 ((x30.getD x32.toNat S26.d).A) ((x30.getD x32.toNat S26.d).B) v38 x32).bind fun r39 =>
    cond (!r39) (
    some false) (
    let v31 : Int := (IntKind.wrap .i64 (x32 + (1 : Int)))
    selector_paths.c21 k r n x22 x23 x24 x25 x26 x27 x28 x29 x30 x31 v31 x33 x34 k4)) none) (
    k4 x22 x23 x24 x25 x26 x27 x28 x29 x33 x34)
def selector_paths.c15 (k : Nat) (r : selector_paths.G.R) : Nat → (List S36) → (List S36) → Int → Int → (List (List S26)) → Int → Int → (List (List S26)) → (List Int) → ((List S36) → (List S36) → Int → Int → (List (List S26)) → (List Int) → Option (Bool)) → Option (Bool)
  | 0, _, _, _, _, _, _, _, _, _, _ => none
  | n + 1, x12, x13, x14, x15, x16, x17, x18, x19, x20, k2 =>
    cond (decide (x18 < x17)) (
    cond (decide (0 ≤ x18 ∧ x18 < (x16.length : Int))) (
    let v21 : Int := ((x16.getD x18.toNat []).length : Int)
    selector_paths.c21 k r k x12 (x16.getD x18.toNat []) x13 x14 x15 x16 x17 x18 (x16.getD x18.toNat []) v21 (0 : Int) x19 x20 (fun (y32 : List S36) (y33 : List S26) (y34 : List S36) (y35 : Int) (y36 : Int) (y37 : List (List S26)) (y38 : Int) (y39 : Int) (y40 : List (List S26)) (y41 : List Int) =>
    let v42 : Bool := ((y33.length : Int) == (0 : Int))
    cond v42 (
    some false) (
    let v43 : Int := (IntKind.wrap .i64 (y39 + (1 : Int)))
    selector_paths.c15 k r n y32 y34 y35 y36 y37 y38 v43 y40 y41 k2))) none) (
    k2 x12 x13 x14 x15 x19 x20)
def selector_paths.c39 (k : Nat) (r : selector_paths.G.R) : Nat → (List S36) → (List S36) → Int → Int → (List Int) → Int → Int → ((List S36) → (List S36) → Int → Int → Option (Bool)) → Option (Bool)
  | 0, _, _, _, _, _, _, _, _ => none
  | n + 1, x50, x51, x52, x53, x54, x55, x56, k6 =>
    cond (decide (x56 < x55)) (
    cond (decide (0 ≤ x56 ∧ x56 < (x54.length : Int))) (
    (strings_IndexByte k ([32, 62, 43, 126] : List UInt8) (x54.getD x56.toNat (0 : Int))).bind fun r57 =>
    cond (decide (r57 < (0 : Int))) (
    some false) (
    let v58 : Int := (IntKind.wrap .i64 (x56 + (1 : Int)))
    selector_paths.c39 k r n x50 x51 x52 x53 x54 x55 v58 k6)) none) (
    k6 x50 x51 x52 x53)
def selector_paths.c5 (k : Nat) (r : selector_paths.G.R) : Nat → (List S36) → (List S36) → Int → Int → ((List S36) → Option (Bool)) → Option (Bool)
  | 0, _, _, _, _, _ => none
  | n + 1, x2, x3, x4, x5, k0 =>
    cond (decide (x5 < x4)) (
    cond (decide (0 ≤ x5 ∧ x5 < (x3.length : Int))) (
    let v6 : Int := (((x3.getD x5.toNat S36.d).Steps).length : Int)
    let v7 : Int := (((x3.getD x5.toNat S36.d).Joins).length : Int)
    let v8 : Int := (((x3.getD x5.toNat S36.d).Steps).length : Int)
    let v9 : Int := (IntKind.wrap .i64 (v8 - (1 : Int)))
    let v10 : Bool := (cond (v6 == (0 : Int)) true (v7 != v9))
    cond v10 (
    some false) (
    let v11 : Int := (((x3.getD x5.toNat S36.d).Steps).length : Int)
    selector_paths.c15 k r k x2 x3 x4 x5 ((x3.getD x5.toNat S36.d).Steps) v11 (0 : Int) ((x3.getD x5.toNat S36.d).Steps) ((x3.getD x5.toNat S36.d).Joins) (fun (y44 : List S36) (y45 : List S36) (y46 : Int) (y47 : Int) (y48 : List (List S26)) (y49 : List Int) =>
    selector_paths.c39 k r k y44 y45 y46 y47 y49 (y49.length : Int) (0 : Int) (fun (y59 : List S36) (y60 : List S36) (y61 : Int) (y62 : Int) =>
    let v63 : Int := (IntKind.wrap .i64 (y62 + (1 : Int)))
    selector_paths.c5 k r n y59 y60 y61 v63 k0)))) none) (
    k0 x2)
def selector_paths.nat (k : Nat) (r : selector_paths.G.R) (a1 : List S36) : Option (Bool) :=
selector_paths.c5 k r k a1 a1 (a1.length : Int) (0 : Int) (fun (y64 : List S36) =>
let v65 : Bool := (decide ((y64.length : Int) > (0 : Int)))
some v65)
def selector_paths.G.rec (k : Nat) : Nat → selector_paths.G.R
  | 0 => ⟨fun _ _ _ _ _ _ _ _ => none, fun _ => none⟩
  | n + 1 => ⟨selector_test.nat k (selector_paths.G.rec k n), selector_paths.nat k (selector_paths.G.rec k n)⟩
def selector_test (k : Nat) : Int → (List UInt8) → Int → (List UInt8) → Int → Int → (List S36) → Int → Option (Bool) := (selector_paths.G.rec k k).selector_test
def selector_paths (k : Nat) : (List S36) → Option (Bool) := (selector_paths.G.rec k k).selector_paths
def selector_paths.G.tab (k : Nat) (r : selector_paths.G.R) : Tab T := addTab 24 (line io73 io2 false (fun v => r.selector_paths v)) (addTab 42 (line io72 io2 false (fun v => r.selector_test v.1 v.2.1 v.2.2.1 v.2.2.2.1 v.2.2.2.2.1 v.2.2.2.2.2.1 v.2.2.2.2.2.2.1 v.2.2.2.2.2.2.2)) (tab46 k))
def selector_test.kr (w0 : World) (k : Nat) (r : selector_paths.G.R) : Kr T (Bool) := (kret (retK (cfg w0 (selector_paths.G.tab k r)) Tryz.f42.results.toList 0 [] io2.pat))
def selector_test.cuts (w0 : World) (k : Nat) (r : selector_paths.G.R) : Cuts T (Bool) := fun n => none
def selector_test.body : Code := bodyOf Tryz.f42
theorem selector_test.e (w0 : World) (k : Nat) (r : selector_paths.G.R) : ∀ v, (fun v => selector_test.nat k r v.1 v.2.1 v.2.2.1 v.2.2.2.1 v.2.2.2.2.1 v.2.2.2.2.2.1 v.2.2.2.2.2.2.1 v.2.2.2.2.2.2.2) v = runK (cfg w0 (selector_paths.G.tab k r)) Tryz.f42.ntmps (selector_test.kr w0 k r) (annot (selector_test.cuts w0 k r) selector_test.body) (entry (io72.enc v).1 (io72.enc v).2) (endK (selector_test.kr w0 k r)) := by
  intro v; kernel_rfl
theorem selector_test.hb : Tryz.f42.body = some selector_test.body := by kernel_rfl
def selector_paths.kr (w0 : World) (k : Nat) (r : selector_paths.G.R) : Kr T (Bool) := (kret (retK (cfg w0 (selector_paths.G.tab k r)) Tryz.f24.results.toList 0 [] io2.pat))
def selector_paths.x21 : Ex → Option (List Nat × List Sp)
  | .exit 4 => some ([0, 4, 6, 11, 12, 13, 32, 33, 34], [])
  | _ => none
def selector_paths.L21 (k : Nat) (r : selector_paths.G.R) (n : Nat) (v : (List S36) × (List S26) × (List S36) × Int × Int × (List (List S26)) × Int × Int × (List S26) × Int × Int × (List (List S26)) × (List Int)) (K : Ex → St T → Option (Bool)) : Option (Bool) := selector_paths.c21 k r n v.1 v.2.1 v.2.2.1 v.2.2.2.1 v.2.2.2.2.1 v.2.2.2.2.2.1 v.2.2.2.2.2.2.1 v.2.2.2.2.2.2.2.1 v.2.2.2.2.2.2.2.2.1 v.2.2.2.2.2.2.2.2.2.1 v.2.2.2.2.2.2.2.2.2.2.1 v.2.2.2.2.2.2.2.2.2.2.2.1 v.2.2.2.2.2.2.2.2.2.2.2.2 (fun y74 y75 y76 y77 y78 y79 y80 y81 y82 y83 => K (.exit 4) (mkSt [0, 4, 6, 11, 12, 13, 32, 33, 34] (io75.enc (y74, y75, y76, y77, y78, y79, y80, y81, y82, y83))))
def selector_paths.x15 : Ex → Option (List Nat × List Sp)
  | .exit 2 => some ([0, 4, 11, 12, 13], [])
  | _ => none
def selector_paths.L15 (k : Nat) (r : selector_paths.G.R) (n : Nat) (v : (List S36) × (List S36) × Int × Int × (List (List S26)) × Int × Int × (List (List S26)) × (List Int)) (K : Ex → St T → Option (Bool)) : Option (Bool) := selector_paths.c15 k r n v.1 v.2.1 v.2.2.1 v.2.2.2.1 v.2.2.2.2.1 v.2.2.2.2.2.1 v.2.2.2.2.2.2.1 v.2.2.2.2.2.2.2.1 v.2.2.2.2.2.2.2.2 (fun y84 y85 y86 y87 y88 y89 => K (.exit 2) (mkSt [0, 4, 11, 12, 13] (io77.enc (y84, y85, y86, y87, y88, y89))))
def selector_paths.x39 : Ex → Option (List Nat × List Sp)
  | .exit 6 => some ([0, 11, 12, 13], [])
  | _ => none
def selector_paths.L39 (k : Nat) (r : selector_paths.G.R) (n : Nat) (v : (List S36) × (List S36) × Int × Int × (List Int) × Int × Int) (K : Ex → St T → Option (Bool)) : Option (Bool) := selector_paths.c39 k r n v.1 v.2.1 v.2.2.1 v.2.2.2.1 v.2.2.2.2.1 v.2.2.2.2.2.1 v.2.2.2.2.2.2 (fun y90 y91 y92 y93 => K (.exit 6) (mkSt [0, 11, 12, 13] (io79.enc (y90, y91, y92, y93))))
def selector_paths.x5 : Ex → Option (List Nat × List Sp)
  | .exit 0 => some ([0], [])
  | _ => none
def selector_paths.L5 (k : Nat) (r : selector_paths.G.R) (n : Nat) (v : (List S36) × (List S36) × Int × Int) (K : Ex → St T → Option (Bool)) : Option (Bool) := selector_paths.c5 k r n v.1 v.2.1 v.2.2.1 v.2.2.2 (fun y94 => K (.exit 0) (mkSt [0] (io73.enc y94)))
def selector_paths.cuts (w0 : World) (k : Nat) (r : selector_paths.G.R) : Cuts T (Bool) := fun n => bif n.beq 21 then some (entK (cfg w0 (selector_paths.G.tab k r)) 0 [0, 4, 6, 11, 12, 13, 32, 33, 34, 38, 39, 40] [] io74.pat (selector_paths.L21 k r k)) else bif n.beq 15 then some (entK (cfg w0 (selector_paths.G.tab k r)) 0 [0, 4, 11, 12, 13, 32, 33, 34] [] io76.pat (selector_paths.L15 k r k)) else bif n.beq 39 then some (entK (cfg w0 (selector_paths.G.tab k r)) 0 [0, 11, 12, 13, 55, 56, 57] [] io78.pat (selector_paths.L39 k r k)) else bif n.beq 5 then some (entK (cfg w0 (selector_paths.G.tab k r)) 0 [0, 11, 12, 13] [] io79.pat (selector_paths.L5 k r k)) else none
def selector_paths.body : Code := bodyOf Tryz.f24
def selector_paths.b21 : Code := findD 21 selector_paths.body
theorem selector_paths.s21 (w0 : World) (k : Nat) (r : selector_paths.G.R) : ∀ n v K, selector_paths.L21 k r (n + 1) v K = runK (cfg w0 (selector_paths.G.tab k r)) Tryz.f24.ntmps (selector_paths.kr w0 k r) (annot (selector_paths.cuts w0 k r) selector_paths.b21) (mkSt [0, 4, 6, 11, 12, 13, 32, 33, 34, 38, 39, 40] (io74.enc v)) (loopK (cfg w0 (selector_paths.G.tab k r)) 0 selector_paths.x21 (entK (cfg w0 (selector_paths.G.tab k r)) 0 [0, 4, 6, 11, 12, 13, 32, 33, 34, 38, 39, 40] [] io74.pat (selector_paths.L21 k r n)) K) := by
  intro n v K; kernel_rfl
def selector_paths.b15 : Code := findD 15 selector_paths.body
theorem selector_paths.s15 (w0 : World) (k : Nat) (r : selector_paths.G.R) : ∀ n v K, selector_paths.L15 k r (n + 1) v K = runK (cfg w0 (selector_paths.G.tab k r)) Tryz.f24.ntmps (selector_paths.kr w0 k r) (annot (selector_paths.cuts w0 k r) selector_paths.b15) (mkSt [0, 4, 11, 12, 13, 32, 33, 34] (io76.enc v)) (loopK (cfg w0 (selector_paths.G.tab k r)) 0 selector_paths.x15 (entK (cfg w0 (selector_paths.G.tab k r)) 0 [0, 4, 11, 12, 13, 32, 33, 34] [] io76.pat (selector_paths.L15 k r n)) K) := by
  intro n v K; kernel_rfl
def selector_paths.b39 : Code := findD 39 selector_paths.body
theorem selector_paths.s39 (w0 : World) (k : Nat) (r : selector_paths.G.R) : ∀ n v K, selector_paths.L39 k r (n + 1) v K = runK (cfg w0 (selector_paths.G.tab k r)) Tryz.f24.ntmps (selector_paths.kr w0 k r) (annot (selector_paths.cuts w0 k r) selector_paths.b39) (mkSt [0, 11, 12, 13, 55, 56, 57] (io78.enc v)) (loopK (cfg w0 (selector_paths.G.tab k r)) 0 selector_paths.x39 (entK (cfg w0 (selector_paths.G.tab k r)) 0 [0, 11, 12, 13, 55, 56, 57] [] io78.pat (selector_paths.L39 k r n)) K) := by
  intro n v K; kernel_rfl
def selector_paths.b5 : Code := findD 5 selector_paths.body
theorem selector_paths.s5 (w0 : World) (k : Nat) (r : selector_paths.G.R) : ∀ n v K, selector_paths.L5 k r (n + 1) v K = runK (cfg w0 (selector_paths.G.tab k r)) Tryz.f24.ntmps (selector_paths.kr w0 k r) (annot (selector_paths.cuts w0 k r) selector_paths.b5) (mkSt [0, 11, 12, 13] (io79.enc v)) (loopK (cfg w0 (selector_paths.G.tab k r)) 0 selector_paths.x5 (entK (cfg w0 (selector_paths.G.tab k r)) 0 [0, 11, 12, 13] [] io79.pat (selector_paths.L5 k r n)) K) := by
  intro n v K; kernel_rfl
theorem selector_paths.e (w0 : World) (k : Nat) (r : selector_paths.G.R) : ∀ v, (fun v => selector_paths.nat k r v) v = runK (cfg w0 (selector_paths.G.tab k r)) Tryz.f24.ntmps (selector_paths.kr w0 k r) (annot (selector_paths.cuts w0 k r) selector_paths.body) (entry (io73.enc v).1 (io73.enc v).2) (endK (selector_paths.kr w0 k r)) := by
  intro v; kernel_rfl
theorem selector_paths.hb : Tryz.f24.body = some selector_paths.body := by kernel_rfl
def tab47 (k : Nat) : Tab T := selector_paths.G.tab k (selector_paths.G.rec k k)
def selector_Check (k : Nat) (a1 : List S36) : Option (Int) :=
(selector_tests k a1 (0 : Int)).bind fun r2 =>
cond (!r2.2) (
some (2 : Int)) (
(selector_paths k a1).bind fun r3 =>
cond (!r3) (
some (3 : Int)) (
some (0 : Int)))
def selector_Check.kr (w0 : World) (k : Nat) : Kr T (Int) := (kret (retK (cfg w0 (tab47 k)) Tryz.f13.results.toList 0 [] io4.pat))
def selector_Check.cuts (w0 : World) (k : Nat) : Cuts T (Int) := fun n => none
def selector_Check.body : Code := bodyOf Tryz.f13
theorem selector_Check.e (w0 : World) (k : Nat) : ∀ v, (fun v => selector_Check k v) v = runK (cfg w0 (tab47 k)) Tryz.f13.ntmps (selector_Check.kr w0 k) (annot (selector_Check.cuts w0 k) selector_Check.body) (entry (io73.enc v).1 (io73.enc v).2) (endK (selector_Check.kr w0 k)) := by
  intro v; kernel_rfl
theorem selector_Check.hb : Tryz.f13.body = some selector_Check.body := by kernel_rfl
def tab48 (k : Nat) : Tab T := addTab 13 (line io73 io4 (0 : Int) (fun v => selector_Check k v)) (tab47 k)
def selector_Read (k : Nat) (a1 : List UInt8) : Option (Int × (List S36)) :=
let v2 : Bool := (decide ((a1.length : Int) > (400 : Int)))
cond v2 (
some ((2 : Int), ([] : List S36))) (
(csstok_Cut k a1).bind fun r3 =>
(selector_reader__list k ([] : List UInt8) r3).bind fun r4 =>
cond r4.1 (
some ((4 : Int), ([] : List S36))) (
(selector_Check k r4.2.2.2).bind fun r5 =>
cond (r5 != (0 : Int)) (
some ((4 : Int), ([] : List S36))) (
some ((0 : Int), r4.2.2.2))))
def selector_Read.body : Code := bodyOf Tryz.f9
theorem selector_Read.e (w0 : World) (k : Nat) : ∀ v, (fun v => selector_Read k v) v = runDf (cfg w0 (tab48 k)) Tryz.f9.ntmps (retK (cfg w0 (tab48 k)) Tryz.f9.results.toList 0 [.own 0 36] io80.pat) (F16 (cfg w0 (tab48 k))) (seqA selector_Read.body) (seqC selector_Read.body) (seqB selector_Read.body) 8 16 #[.tmp 2, .tmp 3].toList (entry (io1.enc v).1 (io1.enc v).2) := by
  intro v; kernel_rfl
theorem selector_Read.hb : Tryz.f9.body = some (.seq (seqA selector_Read.body) (.seq (seqC selector_Read.body) (.seq (.region 3 #[⟨some 8, .makeFunc (.func 16) #[] #[.tmp 2, .tmp 3], 1, "selector.go:404", #[], none⟩, ⟨none, .defer ⟨.value (.tmp 8), #[], #[]⟩, 0, "selector.go:404", #[⟨0, .data⟩], none⟩] false) (seqB selector_Read.body)))) := by kernel_rfl
def tab49 (k : Nat) : Tab T := addTab 9 (line io1 io80 ((0 : Int), []) (fun v => selector_Read k v)) (tab48 k)
def clerestorykeep2_listed (k : Nat)  : Option (Bool) :=
(selector_Read k ([97, 32, 62, 32, 46, 98] : List UInt8)).bind fun r1 =>
let v2 : Bool := ((r1.2.length : Int) == (1 : Int))
let v3 : Bool := (cond (r1.1 == (0 : Int)) v2 false)
cond ((decide (0 ≤ (0 : Int) ∧ (0 : Int) < (r1.2.length : Int))) || !v3) (
let v4 : List (List S26) := (r1.2.getD ((0 : Int).toNat) S36.d).Steps
let v5 : Bool := ((v4.length : Int) == (2 : Int))
cond ((decide (0 ≤ (0 : Int) ∧ (0 : Int) < (r1.2.length : Int))) || !(cond v3 v5 false)) (
let v6 : List Int := (r1.2.getD ((0 : Int).toNat) S36.d).Joins
let v7 : Bool := ((bytesU v6) == ([62] : List UInt8))
let v8 : Bool := (cond (cond v3 v5 false) v7 false)
some v8) none) none
def clerestorykeep2_listed.kr (w0 : World) (k : Nat) : Kr T (Bool) := (kret (retK (cfg w0 (tab49 k)) Tryz.f8.results.toList 0 [] io2.pat))
def clerestorykeep2_listed.cuts (w0 : World) (k : Nat) : Cuts T (Bool) := fun n => none
def clerestorykeep2_listed.body : Code := bodyOf Tryz.f8
theorem clerestorykeep2_listed.e (w0 : World) (k : Nat) : ∀ v, (fun v => clerestorykeep2_listed k ) v = runK (cfg w0 (tab49 k)) Tryz.f8.ntmps (clerestorykeep2_listed.kr w0 k) (annot (clerestorykeep2_listed.cuts w0 k) clerestorykeep2_listed.body) (entry (io81.enc v).1 (io81.enc v).2) (endK (clerestorykeep2_listed.kr w0 k)) := by
  intro v; kernel_rfl
theorem clerestorykeep2_listed.hb : Tryz.f8.body = some clerestorykeep2_listed.body := by kernel_rfl
def tab50 (k : Nat) : Tab T := addTab 8 (line io81 io2 false (fun v => clerestorykeep2_listed k )) (tab49 k)
structure clerestorykeep2_samePaths.G.R where
  clerestorykeep2_sameStep : (List S26) → (List S26) → Option (Bool)
  clerestorykeep2_samePaths : (List S36) → (List S36) → Option (Bool)
def clerestorykeep2_sameStep.c9 (k : Nat) (r : clerestorykeep2_samePaths.G.R) : Nat → (List S26) → (List S26) → Int → (Option (Bool)) → Option (Bool)
  | 0, _, _, _, _ => none
  | n + 1, x4, x5, x6, k0 =>
    let v7 : Bool := (decide (x6 < (x4.length : Int)))
    cond v7 (
    cond (decide (0 ≤ x6 ∧ x6 < (x4.length : Int))) (
    cond (decide (0 ≤ x6 ∧ x6 < (x5.length : Int))) (
    let v8 : Bool := (((x4.getD x6.toNat S26.d).Kind) != ((x5.getD x6.toNat S26.d).Kind))
    let v9 : Bool := (!(((x4.getD x6.toNat S26.d).Name) == ((x5.getD x6.toNat S26.d).Name)))
    let v10 : Bool := (((x4.getD x6.toNat S26.d).Op) != ((x5.getD x6.toNat S26.d).Op))
    let v11 : Bool := (cond (cond v8 true v9) true v10)
    let v12 : Bool := (!(((x4.getD x6.toNat S26.d).Value) == ((x5.getD x6.toNat S26.d).Value)))
    let v13 : Bool := (((x4.getD x6.toNat S26.d).A) != ((x5.getD x6.toNat S26.d).A))
    let v14 : Bool := (cond (cond v11 true v12) true v13)
    let v15 : Bool := (((x4.getD x6.toNat S26.d).B) != ((x5.getD x6.toNat S26.d).B))
    (cond (!(cond v14 true v15)) (r.clerestorykeep2_samePaths ((x4.getD x6.toNat S26.d).Subs) ((x5.getD x6.toNat S26.d).Subs)) (some false)).bind fun r16 =>
    let v17 : Bool := (cond (cond v14 true v15) true (!r16))
    cond v17 (
    some false) (
    let v18 : Int := (IntKind.wrap .i64 (x6 + (1 : Int)))
    clerestorykeep2_sameStep.c9 k r n x4 x5 v18 k0)) none) none) (
    k0)
def clerestorykeep2_sameStep.nat (k : Nat) (r : clerestorykeep2_samePaths.G.R) (a1 : List S26) (a2 : List S26) : Option (Bool) :=
let v3 : Bool := ((a1.length : Int) != (a2.length : Int))
cond v3 (
some false) (
clerestorykeep2_sameStep.c9 k r k a1 a2 (0 : Int) (
some true))
def clerestorykeep2_samePaths.c19 (k : Nat) (r : clerestorykeep2_samePaths.G.R) : Nat → (List S36) → (List S36) → Int → Int → ((List S36) → (List S36) → Int → Option (Bool)) → Option (Bool)
  | 0, _, _, _, _, _ => none
  | n + 1, x13, x14, x15, x16, k2 =>
    cond (decide (0 ≤ x15 ∧ x15 < (x13.length : Int))) (
    let v17 : List (List S26) := (x13.getD x15.toNat S36.d).Steps
    let v18 : Bool := (decide (x16 < (v17.length : Int)))
    cond v18 (
    cond (decide (0 ≤ x15 ∧ x15 < (x13.length : Int))) (
    let v19 : List (List S26) := (x13.getD x15.toNat S36.d).Steps
    cond (decide (0 ≤ x16 ∧ x16 < (v19.length : Int))) (
    cond (decide (0 ≤ x15 ∧ x15 < (x14.length : Int))) (
    let v20 : List (List S26) := (x14.getD x15.toNat S36.d).Steps
    cond (decide (0 ≤ x16 ∧ x16 < (v20.length : Int))) (
    (r.clerestorykeep2_sameStep (v19.getD x16.toNat []) (v20.getD x16.toNat [])).bind fun r21 =>
    cond (!r21) (
    some false) (
    let v19 : Int := (IntKind.wrap .i64 (x16 + (1 : Int)))
    clerestorykeep2_samePaths.c19 k r n x13 x14 x15 v19 k2)) none) none) none) none) (
    k2 x13 x14 x15)) none
def clerestorykeep2_samePaths.c9 (k : Nat) (r : clerestorykeep2_samePaths.G.R) : Nat → (List S36) → (List S36) → Int → (Option (Bool)) → Option (Bool)
  | 0, _, _, _, _ => none
  | n + 1, x4, x5, x6, k0 =>
    let v7 : Bool := (decide (x6 < (x4.length : Int)))
    cond v7 (
    cond (decide (0 ≤ x6 ∧ x6 < (x4.length : Int))) (
    let v8 : List UInt8 := (bytesU ((x4.getD x6.toNat S36.d).Joins))
    cond (decide (0 ≤ x6 ∧ x6 < (x5.length : Int))) (
    let v9 : List UInt8 := (bytesU ((x5.getD x6.toNat S36.d).Joins))
    cond ((decide (0 ≤ x6 ∧ x6 < (x4.length : Int))) || !(!(!(v8 == v9)))) (
    let v10 : Int := (((x4.getD x6.toNat S36.d).Steps).length : Int)
    cond ((decide (0 ≤ x6 ∧ x6 < (x5.length : Int))) || !(!(!(v8 == v9)))) (
    let v11 : Int := (((x5.getD x6.toNat S36.d).Steps).length : Int)
    let v12 : Bool := (cond (!(v8 == v9)) true (v10 != v11))
    cond v12 (
    some false) (
    clerestorykeep2_samePaths.c19 k r k x4 x5 x6 (0 : Int) (fun (y20 : List S36) (y21 : List S36) (y22 : Int) =>
    let v23 : Int := (IntKind.wrap .i64 (y22 + (1 : Int)))
    clerestorykeep2_samePaths.c9 k r n y20 y21 v23 k0))) none) none) none) none) (
    k0)
def clerestorykeep2_samePaths.nat (k : Nat) (r : clerestorykeep2_samePaths.G.R) (a1 : List S36) (a2 : List S36) : Option (Bool) :=
let v3 : Bool := ((a1.length : Int) != (a2.length : Int))
cond v3 (
some false) (
clerestorykeep2_samePaths.c9 k r k a1 a2 (0 : Int) (
some true))
def clerestorykeep2_samePaths.G.rec (k : Nat) : Nat → clerestorykeep2_samePaths.G.R
  | 0 => ⟨fun _ _ => none, fun _ _ => none⟩
  | n + 1 => ⟨clerestorykeep2_sameStep.nat k (clerestorykeep2_samePaths.G.rec k n), clerestorykeep2_samePaths.nat k (clerestorykeep2_samePaths.G.rec k n)⟩
def clerestorykeep2_sameStep (k : Nat) : (List S26) → (List S26) → Option (Bool) := (clerestorykeep2_samePaths.G.rec k k).clerestorykeep2_sameStep
def clerestorykeep2_samePaths (k : Nat) : (List S36) → (List S36) → Option (Bool) := (clerestorykeep2_samePaths.G.rec k k).clerestorykeep2_samePaths
def clerestorykeep2_samePaths.G.tab (k : Nat) (r : clerestorykeep2_samePaths.G.R) : Tab T := addTab 10 (line io84 io2 false (fun v => r.clerestorykeep2_samePaths v.1 v.2)) (addTab 19 (line io82 io2 false (fun v => r.clerestorykeep2_sameStep v.1 v.2)) (tab50 k))
def clerestorykeep2_sameStep.kr (w0 : World) (k : Nat) (r : clerestorykeep2_samePaths.G.R) : Kr T (Bool) := (kret (retK (cfg w0 (clerestorykeep2_samePaths.G.tab k r)) Tryz.f19.results.toList 0 [] io2.pat))
def clerestorykeep2_sameStep.x9 : Ex → Option (List Nat × List Sp)
  | .exit 0 => some ([], [])
  | _ => none
def clerestorykeep2_sameStep.L9 (k : Nat) (r : clerestorykeep2_samePaths.G.R) (n : Nat) (v : (List S26) × (List S26) × Int) (K : Ex → St T → Option (Bool)) : Option (Bool) := clerestorykeep2_sameStep.c9 k r n v.1 v.2.1 v.2.2 ( K (.exit 0) (mkSt [] (io81.enc ())))
def clerestorykeep2_sameStep.cuts (w0 : World) (k : Nat) (r : clerestorykeep2_samePaths.G.R) : Cuts T (Bool) := fun n => bif n.beq 9 then some (entK (cfg w0 (clerestorykeep2_samePaths.G.tab k r)) 0 [0, 1, 5] [] io83.pat (clerestorykeep2_sameStep.L9 k r k)) else none
def clerestorykeep2_sameStep.body : Code := bodyOf Tryz.f19
def clerestorykeep2_sameStep.b9 : Code := findD 9 clerestorykeep2_sameStep.body
theorem clerestorykeep2_sameStep.s9 (w0 : World) (k : Nat) (r : clerestorykeep2_samePaths.G.R) : ∀ n v K, clerestorykeep2_sameStep.L9 k r (n + 1) v K = runK (cfg w0 (clerestorykeep2_samePaths.G.tab k r)) Tryz.f19.ntmps (clerestorykeep2_sameStep.kr w0 k r) (annot (clerestorykeep2_sameStep.cuts w0 k r) clerestorykeep2_sameStep.b9) (mkSt [0, 1, 5] (io83.enc v)) (loopK (cfg w0 (clerestorykeep2_samePaths.G.tab k r)) 0 clerestorykeep2_sameStep.x9 (entK (cfg w0 (clerestorykeep2_samePaths.G.tab k r)) 0 [0, 1, 5] [] io83.pat (clerestorykeep2_sameStep.L9 k r n)) K) := by
  intro n v K; kernel_rfl
theorem clerestorykeep2_sameStep.e (w0 : World) (k : Nat) (r : clerestorykeep2_samePaths.G.R) : ∀ v, (fun v => clerestorykeep2_sameStep.nat k r v.1 v.2) v = runK (cfg w0 (clerestorykeep2_samePaths.G.tab k r)) Tryz.f19.ntmps (clerestorykeep2_sameStep.kr w0 k r) (annot (clerestorykeep2_sameStep.cuts w0 k r) clerestorykeep2_sameStep.body) (entry (io82.enc v).1 (io82.enc v).2) (endK (clerestorykeep2_sameStep.kr w0 k r)) := by
  intro v; kernel_rfl
theorem clerestorykeep2_sameStep.hb : Tryz.f19.body = some clerestorykeep2_sameStep.body := by kernel_rfl
def clerestorykeep2_samePaths.kr (w0 : World) (k : Nat) (r : clerestorykeep2_samePaths.G.R) : Kr T (Bool) := (kret (retK (cfg w0 (clerestorykeep2_samePaths.G.tab k r)) Tryz.f10.results.toList 0 [] io2.pat))
def clerestorykeep2_samePaths.x19 : Ex → Option (List Nat × List Sp)
  | .exit 2 => some ([0, 1, 5], [])
  | _ => none
def clerestorykeep2_samePaths.L19 (k : Nat) (r : clerestorykeep2_samePaths.G.R) (n : Nat) (v : (List S36) × (List S36) × Int × Int) (K : Ex → St T → Option (Bool)) : Option (Bool) := clerestorykeep2_samePaths.c19 k r n v.1 v.2.1 v.2.2.1 v.2.2.2 (fun y95 y96 y97 => K (.exit 2) (mkSt [0, 1, 5] (io85.enc (y95, y96, y97))))
def clerestorykeep2_samePaths.x9 : Ex → Option (List Nat × List Sp)
  | .exit 0 => some ([], [])
  | _ => none
def clerestorykeep2_samePaths.L9 (k : Nat) (r : clerestorykeep2_samePaths.G.R) (n : Nat) (v : (List S36) × (List S36) × Int) (K : Ex → St T → Option (Bool)) : Option (Bool) := clerestorykeep2_samePaths.c9 k r n v.1 v.2.1 v.2.2 ( K (.exit 0) (mkSt [] (io81.enc ())))
def clerestorykeep2_samePaths.cuts (w0 : World) (k : Nat) (r : clerestorykeep2_samePaths.G.R) : Cuts T (Bool) := fun n => bif n.beq 19 then some (entK (cfg w0 (clerestorykeep2_samePaths.G.tab k r)) 0 [0, 1, 5, 6] [] io79.pat (clerestorykeep2_samePaths.L19 k r k)) else bif n.beq 9 then some (entK (cfg w0 (clerestorykeep2_samePaths.G.tab k r)) 0 [0, 1, 5] [] io85.pat (clerestorykeep2_samePaths.L9 k r k)) else none
def clerestorykeep2_samePaths.body : Code := bodyOf Tryz.f10
def clerestorykeep2_samePaths.b19 : Code := findD 19 clerestorykeep2_samePaths.body
theorem clerestorykeep2_samePaths.s19 (w0 : World) (k : Nat) (r : clerestorykeep2_samePaths.G.R) : ∀ n v K, clerestorykeep2_samePaths.L19 k r (n + 1) v K = runK (cfg w0 (clerestorykeep2_samePaths.G.tab k r)) Tryz.f10.ntmps (clerestorykeep2_samePaths.kr w0 k r) (annot (clerestorykeep2_samePaths.cuts w0 k r) clerestorykeep2_samePaths.b19) (mkSt [0, 1, 5, 6] (io79.enc v)) (loopK (cfg w0 (clerestorykeep2_samePaths.G.tab k r)) 0 clerestorykeep2_samePaths.x19 (entK (cfg w0 (clerestorykeep2_samePaths.G.tab k r)) 0 [0, 1, 5, 6] [] io79.pat (clerestorykeep2_samePaths.L19 k r n)) K) := by
  intro n v K; kernel_rfl
def clerestorykeep2_samePaths.b9 : Code := findD 9 clerestorykeep2_samePaths.body
theorem clerestorykeep2_samePaths.s9 (w0 : World) (k : Nat) (r : clerestorykeep2_samePaths.G.R) : ∀ n v K, clerestorykeep2_samePaths.L9 k r (n + 1) v K = runK (cfg w0 (clerestorykeep2_samePaths.G.tab k r)) Tryz.f10.ntmps (clerestorykeep2_samePaths.kr w0 k r) (annot (clerestorykeep2_samePaths.cuts w0 k r) clerestorykeep2_samePaths.b9) (mkSt [0, 1, 5] (io85.enc v)) (loopK (cfg w0 (clerestorykeep2_samePaths.G.tab k r)) 0 clerestorykeep2_samePaths.x9 (entK (cfg w0 (clerestorykeep2_samePaths.G.tab k r)) 0 [0, 1, 5] [] io85.pat (clerestorykeep2_samePaths.L9 k r n)) K) := by
  intro n v K; kernel_rfl
theorem clerestorykeep2_samePaths.e (w0 : World) (k : Nat) (r : clerestorykeep2_samePaths.G.R) : ∀ v, (fun v => clerestorykeep2_samePaths.nat k r v.1 v.2) v = runK (cfg w0 (clerestorykeep2_samePaths.G.tab k r)) Tryz.f10.ntmps (clerestorykeep2_samePaths.kr w0 k r) (annot (clerestorykeep2_samePaths.cuts w0 k r) clerestorykeep2_samePaths.body) (entry (io84.enc v).1 (io84.enc v).2) (endK (clerestorykeep2_samePaths.kr w0 k r)) := by
  intro v; kernel_rfl
theorem clerestorykeep2_samePaths.hb : Tryz.f10.body = some clerestorykeep2_samePaths.body := by kernel_rfl
def tab51 (k : Nat) : Tab T := clerestorykeep2_samePaths.G.tab k (clerestorykeep2_samePaths.G.rec k k)
def strconv_Itoa (k : Nat) (a11 : Int) : Option (List UInt8) := itoaS a11
def tab52 (k : Nat) : Tab T := addTab 20 (line io4 io1 [] (fun v => strconv_Itoa k v)) (tab51 k)
def strings_TrimRight (k : Nat) (a15 : List UInt8) (a16 : List UInt8) : Option (List UInt8) := trimR a15 a16
def tab53 (k : Nat) : Tab T := addTab 21 (line io0 io1 [] (fun v => strings_TrimRight k v.1 v.2)) (tab52 k)
def dim_Text.c18 (k : Nat) (x15 : List UInt8) (x16 : Int) (x17 : List UInt8)  : Option (List UInt8) :=
cond (Nat.ble (x15.length + x17.length) 9223372036854775807) (
some (x15 ++ x17)) none
def dim_Text.c10 (k : Nat) (x5 : Int) (x6 : List UInt8) (x7 : Int) (x8 : List UInt8)  : Option (List UInt8) :=
cond ((1000 : Int) != 0) (
let v9 : Int := (IntKind.wrap .i64 (Int.tdiv x5 (1000 : Int)))
(strconv_Itoa k v9).bind fun r10 =>
cond (Nat.ble (x6.length + r10.length) 9223372036854775807) (
cond ((1000 : Int) != 0) (
let v11 : Int := (IntKind.wrap .i64 ((1000 : Int) + (Int.tmod x5 (1000 : Int))))
(strconv_Itoa k v11).bind fun r12 =>
cond (decide (0 ≤ (1 : Int) ∧ (1 : Int) ≤ (r12.length : Int))) (
(strings_TrimRight k (r12.drop (1 : Int).toNat) ([48] : List UInt8)).bind fun r13 =>
cond (!(r13 == ([] : List UInt8))) (
cond (Nat.ble (([46] : List UInt8).length + r13.length) 9223372036854775807) (
cond (Nat.ble ((x6 ++ r10).length + (([46] : List UInt8) ++ r13).length) 9223372036854775807) (
let v14 : List UInt8 := ((x6 ++ r10) ++ (([46] : List UInt8) ++ r13))
dim_Text.c18 k v14 x7 x8) none) none) (
dim_Text.c18 k (x6 ++ r10) x7 x8)) none) none) none) none
def dim_Text (k : Nat) (a1 : Int) (a2 : List UInt8) : Option (List UInt8) :=
let v3 : Int := (if (-1000000000 : Int) > a1 then (-1000000000 : Int) else a1)
let v4 : Int := (if (1000000000 : Int) < v3 then (1000000000 : Int) else v3)
cond (decide (v4 < (0 : Int))) (
dim_Text.c10 k (IntKind.wrap .i64 (0 - v4)) ([45] : List UInt8) a1 a2) (
dim_Text.c10 k v4 ([] : List UInt8) a1 a2)
def dim_Text.kr (w0 : World) (k : Nat) : Kr T (List UInt8) := (kret (retK (cfg w0 (tab53 k)) Tryz.f11.results.toList 0 [] io1.pat))
def dim_Text.x18 : Ex → Option (List Nat × List Sp)
  | _ => none
def dim_Text.L18 (k : Nat) (v : (List UInt8) × Int × (List UInt8)) (K : Ex → St T → Option (List UInt8)) : Option (List UInt8) := dim_Text.c18 k v.1 v.2.1 v.2.2
def dim_Text.x10 : Ex → Option (List Nat × List Sp)
  | _ => none
def dim_Text.L10 (k : Nat) (v : Int × (List UInt8) × Int × (List UInt8)) (K : Ex → St T → Option (List UInt8)) : Option (List UInt8) := dim_Text.c10 k v.1 v.2.1 v.2.2.1 v.2.2.2
def dim_Text.cuts (w0 : World) (k : Nat) : Cuts T (List UInt8) := fun n => bif n.beq 18 then some (entK (cfg w0 (tab53 k)) 0 [1, 5] [] io87.pat (dim_Text.L18 k)) else bif n.beq 10 then some (entK (cfg w0 (tab53 k)) 0 [1, 3, 4] [] io88.pat (dim_Text.L10 k)) else none
def dim_Text.body : Code := bodyOf Tryz.f11
def dim_Text.b18 : Code := findD 18 dim_Text.body
theorem dim_Text.s18 (w0 : World) (k : Nat) : ∀ v K, dim_Text.L18 k v K = runK (cfg w0 (tab53 k)) Tryz.f11.ntmps (dim_Text.kr w0 k) (annot (dim_Text.cuts w0 k) dim_Text.b18) (mkSt [1, 5] (io87.enc v)) (outK (cfg w0 (tab53 k)) 0 dim_Text.x18 K) := by
  intro v K; kernel_rfl
def dim_Text.b10 : Code := findD 10 dim_Text.body
theorem dim_Text.s10 (w0 : World) (k : Nat) : ∀ v K, dim_Text.L10 k v K = runK (cfg w0 (tab53 k)) Tryz.f11.ntmps (dim_Text.kr w0 k) (annot (dim_Text.cuts w0 k) dim_Text.b10) (mkSt [1, 3, 4] (io88.enc v)) (outK (cfg w0 (tab53 k)) 0 dim_Text.x10 K) := by
  intro v K; kernel_rfl
theorem dim_Text.e (w0 : World) (k : Nat) : ∀ v, (fun v => dim_Text k v.1 v.2) v = runK (cfg w0 (tab53 k)) Tryz.f11.ntmps (dim_Text.kr w0 k) (annot (dim_Text.cuts w0 k) dim_Text.body) (entry (io86.enc v).1 (io86.enc v).2) (endK (dim_Text.kr w0 k)) := by
  intro v; kernel_rfl
theorem dim_Text.hb : Tryz.f11.body = some dim_Text.body := by kernel_rfl
def tab54 (k : Nat) : Tab T := addTab 11 (line io86 io1 [] (fun v => dim_Text k v.1 v.2)) (tab53 k)
def clerestorykeep2_SelectNths (k : Nat) (a1 : Int) : Option (Bool) :=
(clerestorykeep2_listed k).bind fun r2 =>
cond ((1001 : Int) != 0) (
let v3 : List (List UInt8) := [([58, 110, 116, 104, 45, 99, 104, 105, 108, 100, 40, 111, 100, 100, 41] : List UInt8), ([58, 78, 84, 72, 45, 67, 72, 73, 76, 68, 40, 69, 86, 69, 78, 41] : List UInt8), ([58, 102, 105, 114, 115, 116, 45, 99, 104, 105, 108, 100] : List UInt8), ([58, 110, 116, 104, 45, 99, 104, 105, 108, 100, 40, 110, 41] : List UInt8), ([58, 110, 116, 104, 45, 99, 104, 105, 108, 100, 40, 45, 110, 41] : List UInt8), ([58, 110, 116, 104, 45, 108, 97, 115, 116, 45, 99, 104, 105, 108, 100, 40, 51, 110, 41] : List UInt8), ([58, 108, 97, 115, 116, 45, 99, 104, 105, 108, 100] : List UInt8), ([58, 110, 116, 104, 45, 99, 104, 105, 108, 100, 40, 43, 53, 41] : List UInt8), ([58, 110, 116, 104, 45, 99, 104, 105, 108, 100, 40, 45, 110, 43, 51, 41] : List UInt8)]
let v4 : List S26 := [(⟨(8 : Int), [], (0 : Int), [], (2 : Int), (1 : Int), []⟩ : S26), (⟨(8 : Int), [], (0 : Int), [], (2 : Int), (0 : Int), []⟩ : S26), (⟨(8 : Int), [], (0 : Int), [], (0 : Int), (1 : Int), []⟩ : S26), (⟨(8 : Int), [], (0 : Int), [], (1 : Int), (0 : Int), []⟩ : S26), (⟨(8 : Int), [], (0 : Int), [], (-1 : Int), (0 : Int), []⟩ : S26), (⟨(9 : Int), [], (0 : Int), [], (3 : Int), (0 : Int), []⟩ : S26), (⟨(9 : Int), [], (0 : Int), [], (0 : Int), (1 : Int), []⟩ : S26), (⟨(8 : Int), [], (0 : Int), [], (0 : Int), (5 : Int), []⟩ : S26), (⟨(8 : Int), [], (0 : Int), [], (-1 : Int), (3 : Int), []⟩ : S26)]
cond ((9 : Int) != 0) (
let v5 : Int := (Int.tmod (IntKind.wrap .u64 a1) (9 : Int))
cond (decide (0 ≤ (IntKind.wrap .i64 v5) ∧ (IntKind.wrap .i64 v5) < (v3.length : Int))) (
let v6 : List UInt8 := (v3.getD ((IntKind.wrap .i64 v5).toNat) [])
(selector_Read k v6).bind fun r7 =>
cond (decide (0 ≤ (IntKind.wrap .i64 v5) ∧ (IntKind.wrap .i64 v5) < (v4.length : Int))) (
let v8 : Int := (v4.getD ((IntKind.wrap .i64 v5).toNat) S26.d).Kind
let v9 : List UInt8 := (v4.getD ((IntKind.wrap .i64 v5).toNat) S26.d).Name
let v10 : Int := (v4.getD ((IntKind.wrap .i64 v5).toNat) S26.d).Op
let v11 : List UInt8 := (v4.getD ((IntKind.wrap .i64 v5).toNat) S26.d).Value
let v12 : Int := (v4.getD ((IntKind.wrap .i64 v5).toNat) S26.d).A
let v13 : Int := (v4.getD ((IntKind.wrap .i64 v5).toNat) S26.d).B
let v14 : List S36 := (v4.getD ((IntKind.wrap .i64 v5).toNat) S26.d).Subs
let v15 : List S26 := [(⟨v8, v9, v10, v11, v12, v13, v14⟩ : S26)]
(clerestorykeep2_samePaths k r7.2 ([(⟨[v15], []⟩ : S36)])).bind fun r16 =>
let v17 : Int := (IntKind.wrap .i64 ((1000 : Int) * (Int.tmod a1 (1001 : Int))))
(dim_Text k v17 ([])).bind fun r18 =>
cond (Nat.ble (([58, 110, 116, 104, 45, 99, 104, 105, 108, 100, 40] : List UInt8).length + r18.length) 9223372036854775807) (
let v19 : List UInt8 := (([58, 110, 116, 104, 45, 99, 104, 105, 108, 100, 40] : List UInt8) ++ r18)
cond (Nat.ble (v19.length + ([41] : List UInt8).length) 9223372036854775807) (
(selector_Read k (v19 ++ ([41] : List UInt8))).bind fun r20 =>
let v21 : List S26 := [(⟨(8 : Int), [], (0 : Int), [], (0 : Int), (Int.tmod a1 (1001 : Int)), []⟩ : S26)]
(clerestorykeep2_samePaths k r20.2 ([(⟨[v21], []⟩ : S36)])).bind fun r22 =>
let v23 : Bool := (cond r2 (r7.1 == (0 : Int)) false)
let v24 : Bool := (cond v23 (r20.1 == (0 : Int)) false)
let v25 : Bool := (cond (cond v24 r16 false) r22 false)
some v25) none) none) none) none) none) none
def clerestorykeep2_SelectNths.kr (w0 : World) (k : Nat) : Kr T (Bool) := (kret (retK (cfg w0 (tab54 k)) Tryz.f3.results.toList 0 [] io2.pat))
def clerestorykeep2_SelectNths.cuts (w0 : World) (k : Nat) : Cuts T (Bool) := fun n => none
def clerestorykeep2_SelectNths.body : Code := bodyOf Tryz.f3
theorem clerestorykeep2_SelectNths.e (w0 : World) (k : Nat) : ∀ v, (fun v => clerestorykeep2_SelectNths k v) v = runK (cfg w0 (tab54 k)) Tryz.f3.ntmps (clerestorykeep2_SelectNths.kr w0 k) (annot (clerestorykeep2_SelectNths.cuts w0 k) clerestorykeep2_SelectNths.body) (entry (io4.enc v).1 (io4.enc v).2) (endK (clerestorykeep2_SelectNths.kr w0 k)) := by
  intro v; kernel_rfl
theorem clerestorykeep2_SelectNths.hb : Tryz.f3.body = some clerestorykeep2_SelectNths.body := by kernel_rfl
def tab55 (k : Nat) : Tab T := addTab 3 (line io4 io2 false (fun v => clerestorykeep2_SelectNths k v)) (tab54 k)
attribute [local irreducible] runK retK annot entry
end
end Go.Ev.Se
