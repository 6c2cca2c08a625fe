/- A part of the evaluator of Go code over small heaps and of its proof: no condition beyond those that each theorem names. -/
import Derived.Test.YtdnnaneifaoooaaGreatDoorEvDfr
import Derived.Test.YtdnnaneifaoooaaGreatDoorEvShN
import Derived.Test.YtdnnaneifaoooaaGreatDoorProg
import Derived.KernelRfl
set_option linter.unusedVariables false
set_option maxRecDepth 100000
namespace Go.Ev.Cz
noncomputable section
open Go.Proofs Go.Ev

structure S29 where
  Kind : Int
  Dim_Num : Int
  Dim_Unit : List UInt8
  Subs : List S29
def S29.d : S29 := ⟨0, 0, [], []⟩
structure S33 where
  Kind : Int
  N : Int
def S33.d : S33 := ⟨0, 0⟩
structure S64 where
  Kind : Int
  Raw : List UInt8
  Value : List UInt8
  Num : Int
def S64.d : S64 := ⟨0, [], [], 0⟩
structure S53 where
  l : List S64
  n : Int
  gapped : Bool
def S53.d : S53 := ⟨[], 0, false⟩
def base : TypeId → (α : Type) × α
  | 5 => ⟨Int, (0 : Int)⟩
  | 9 => ⟨List UInt8, []⟩
  | 29 => ⟨S29, S29.d⟩
  | 33 => ⟨S33, S33.d⟩
  | 64 => ⟨S64, S64.d⟩
  | 53 => ⟨S53, S53.d⟩
  | _ => ⟨Unit, ()⟩
def T (t : TypeId) : Type := (base t).1
def dflt (t : TypeId) : T t := (base t).2
def dl (t : TypeId) : D T → Option (List (T t))
  | .l t' xs => asT t t' xs
  | .ns => some []
  | _ => none
theorem dl_le {t : TypeId} {d : D T} {l : List (T t)} (h : dl t d = some l) : leD d (.l t l) := by
  unfold dl at h
  split at h
  · rw [asT_l h]; exact .refl _
  · cases h; exact .ns _
  · cases h
def enc5 (x : Int) : List (D T) := [.i .u8 x]
def dec5 (ds : List (D T)) : Option (Int) := match ds with
  | [.i .u8 x0] => some x0
  | _ => none
theorem dec5_ok {ds : List (D T)} {x : Int} (h : dec5 ds = some x) : leDs ds (enc5 x) := by
  unfold dec5 at h
  split at h
  · cases h
    exact .cons (.refl _) <| .nil
  · cases h
def enc9 (x : List UInt8) : List (D T) := [.s x]
def dec9 (ds : List (D T)) : Option (List UInt8) := match ds with
  | [.s x0] => some x0
  | _ => none
theorem dec9_ok {ds : List (D T)} {x : List UInt8} (h : dec9 ds = some x) : leDs ds (enc9 x) := by
  unfold dec9 at h
  split at h
  · cases h
    exact .cons (.refl _) <| .nil
  · cases h
def enc29 (x : S29) : List (D T) := [.i .i64 x.Kind, .i .i64 x.Dim_Num, .s x.Dim_Unit, .l 29 x.Subs]
def dec29 (ds : List (D T)) : Option (S29) := match ds with
  | [.i .i64 x0, .i .i64 x1, .s x2, d3] => (dl 29 d3).bind fun l3 => some ⟨x0, x1, x2, l3⟩
  | _ => none
theorem dec29_ok {ds : List (D T)} {x : S29} (h : dec29 ds = some x) : leDs ds (enc29 x) := by
  unfold dec29 at h
  split at h
  · obtain ⟨l3, h3, h⟩ := Option.bind_eq_some_iff.1 h
    cases h
    exact .cons (.refl _) <| .cons (.refl _) <| .cons (.refl _) <| .cons (dl_le h3) <| .nil
  · cases h
def enc33 (x : S33) : List (D T) := [.i .i64 x.Kind, .i .i64 x.N]
def dec33 (ds : List (D T)) : Option (S33) := match ds with
  | [.i .i64 x0, .i .i64 x1] => some ⟨x0, x1⟩
  | _ => none
theorem dec33_ok {ds : List (D T)} {x : S33} (h : dec33 ds = some x) : leDs ds (enc33 x) := by
  unfold dec33 at h
  split at h
  · cases h
    exact .cons (.refl _) <| .cons (.refl _) <| .nil
  · cases h
def enc64 (x : S64) : List (D T) := [.i .i64 x.Kind, .s x.Raw, .s x.Value, .i .i64 x.Num]
def dec64 (ds : List (D T)) : Option (S64) := match ds with
  | [.i .i64 x0, .s x1, .s x2, .i .i64 x3] => some ⟨x0, x1, x2, x3⟩
  | _ => none
theorem dec64_ok {ds : List (D T)} {x : S64} (h : dec64 ds = some x) : leDs ds (enc64 x) := by
  unfold dec64 at h
  split at h
  · cases h
    exact .cons (.refl _) <| .cons (.refl _) <| .cons (.refl _) <| .cons (.refl _) <| .nil
  · cases h
def enc53 (x : S53) : List (D T) := [.l 64 x.l, .i .i64 x.n, .b x.gapped]
def dec53 (ds : List (D T)) : Option (S53) := match ds with
  | [d0, .i .i64 x1, .b x2] => (dl 64 d0).bind fun l0 => some ⟨l0, x1, x2⟩
  | _ => none
theorem dec53_ok {ds : List (D T)} {x : S53} (h : dec53 ds = some x) : leDs ds (enc53 x) := by
  unfold dec53 at h
  split at h
  · obtain ⟨l0, h0, h⟩ := Option.bind_eq_some_iff.1 h
    cases h
    exact .cons (dl_le h0) <| .cons (.refl _) <| .cons (.refl _) <| .nil
  · cases h
def enc : (t : TypeId) → T t → List (D T)
  | 5, x => enc5 x
  | 9, x => enc9 x
  | 29, x => enc29 x
  | 33, x => enc33 x
  | 64, x => enc64 x
  | 53, x => enc53 x
  | _, _ => []
def dec (t : TypeId) (ds : List (D T)) : Option (T t) := if h : t = 5 then (h ▸ (dec5 ds : Option (T 5))) else if h : t = 9 then (h ▸ (dec9 ds : Option (T 9))) else if h : t = 29 then (h ▸ (dec29 ds : Option (T 29))) else if h : t = 33 then (h ▸ (dec33 ds : Option (T 33))) else if h : t = 64 then (h ▸ (dec64 ds : Option (T 64))) else if h : t = 53 then (h ▸ (dec53 ds : Option (T 53))) else none
theorem dec_ok (t : TypeId) (ds : List (D T)) (x : T t) (h : dec t ds = some x) : leDs ds (enc t x) := by
  unfold dec at h
  by_cases h5 : t = 5
  · subst h5; exact dec5_ok (show dec5 ds = some x from h)
  rw [dif_neg h5] at h
  by_cases h9 : t = 9
  · subst h9; exact dec9_ok (show dec9 ds = some x from h)
  rw [dif_neg h9] at h
  by_cases h29 : t = 29
  · subst h29; exact dec29_ok (show dec29 ds = some x from h)
  rw [dif_neg h29] at h
  by_cases h33 : t = 33
  · subst h33; exact dec33_ok (show dec33 ds = some x from h)
  rw [dif_neg h33] at h
  by_cases h64 : t = 64
  · subst h64; exact dec64_ok (show dec64 ds = some x from h)
  rw [dif_neg h64] at h
  by_cases h53 : t = 53
  · subst h53; exact dec53_ok (show dec53 ds = some x from h)
  rw [dif_neg h53] at h
  cases h
def knl : List TypeId := [5, 9, 29, 33, 64, 53]

def ofB : (t : TypeId) → List UInt8 → List (T t)
  | 5, l => bytesI l
  | _, _ => []
def toB : (t : TypeId) → List (T t) → List UInt8
  | 5, l => bytesU l
  | _, _ => []
def cod : Cod T := ⟨fun t => knl.any (·.beq t), enc, dec, dflt, ofB, toB⟩
def g0_0 : List (List UInt8) := [[], [112, 120], [101, 109], [114, 101, 109], [118, 119], [118, 104], [37]]
def gv : Nat → Option (List (D T))
  | 0 => some [.l 9 g0_0]
  | _ => none
def eql : List TypeId := [33]
def hdl : List FuncId := []
def cfg (w0 : World) (t : Tab T) : Cfg T := ⟨Tryz.prog, cod, t, fun t => eql.any (·.beq t), w0, gv, 77, 5, fun f => hdl.any (·.beq f)⟩
def F14 (c : Cfg T) : V T → List (V T) → List (Obj T) → Option (List (Obj T)) := runF c Tryz.f14.ntmps 2 5 (seqR (bodyOf Tryz.f14))
/-- What is asked of the first world. -/
structure Wd (w0 : World) : Prop where
  gv : GvOk (cfg w0 noTab)
  mx : NumAt w0 (Sh.ren143.g 1)
  pw : Lib.TabIs Tryz.prog w0 "internal/strconv.uint64pow10" .u64 Lib.pow10Tab

theorem mem_of {l : List TypeId} {t : TypeId} (h : l.any (·.beq t) = true) : t ∈ l := by
  rw [List.any_eq_true] at h
  obtain ⟨x, hx, hb⟩ := h
  rw [← Nat.eq_of_beq_eq_true hb]; exact hx
theorem len5 : 1 = Tryz.prog.cellsOf 5 := by kernel_rfl
theorem len9 : 1 = Tryz.prog.cellsOf 9 := by kernel_rfl
theorem u8_9 : isU8 Tryz.prog 9 = false := by kernel_rfl
theorem len29 : 4 = Tryz.prog.cellsOf 29 := by kernel_rfl
theorem u8_29 : isU8 Tryz.prog 29 = false := by kernel_rfl
theorem fl29 : flatT Tryz.prog 20 29 = false := by kernel_rfl
theorem len33 : 2 = Tryz.prog.cellsOf 33 := by kernel_rfl
theorem u8_33 : isU8 Tryz.prog 33 = false := by kernel_rfl
theorem len64 : 4 = Tryz.prog.cellsOf 64 := by kernel_rfl
theorem u8_64 : isU8 Tryz.prog 64 = false := by kernel_rfl
theorem len53 : 3 = Tryz.prog.cellsOf 53 := by kernel_rfl
theorem u8_53 : isU8 Tryz.prog 53 = false := by kernel_rfl
theorem fl53 : flatT Tryz.prog 20 53 = false := by kernel_rfl
theorem eqk33 : Tryz.prog.stoodInHeld 33 = false ∧ Tryz.prog.eqGuardType Tryz.prog.depth 33 = false := ⟨by kernel_rfl, by kernel_rfl⟩
theorem zr5 : zeroShape Tryz.prog 5 = true ∧ ∃ ds, zeroCells (T := T) Tryz.prog 5 = some (ofDs ds) ∧ leDs ds (enc5 (0 : Int)) := ⟨by kernel_rfl, [.i .u8 (0 : Int)], by kernel_rfl, .cons (.refl _) <| .nil⟩
theorem zr9 : zeroShape Tryz.prog 9 = true ∧ ∃ ds, zeroCells (T := T) Tryz.prog 9 = some (ofDs ds) ∧ leDs ds (enc9 []) := ⟨by kernel_rfl, [.s ([])], by kernel_rfl, .cons (.refl _) <| .nil⟩
theorem zr29 : zeroShape Tryz.prog 29 = true ∧ ∃ ds, zeroCells (T := T) Tryz.prog 29 = some (ofDs ds) ∧ leDs ds (enc29 S29.d) := ⟨by kernel_rfl, [.i .i64 (0 : Int), .i .i64 (0 : Int), .s ([]), .ns], by kernel_rfl, .cons (.refl _) <| .cons (.refl _) <| .cons (.refl _) <| .cons (.ns _) <| .nil⟩
theorem zr33 : zeroShape Tryz.prog 33 = true ∧ ∃ ds, zeroCells (T := T) Tryz.prog 33 = some (ofDs ds) ∧ leDs ds (enc33 S33.d) := ⟨by kernel_rfl, [.i .i64 (0 : Int), .i .i64 (0 : Int)], by kernel_rfl, .cons (.refl _) <| .cons (.refl _) <| .nil⟩
theorem zr64 : zeroShape Tryz.prog 64 = true ∧ ∃ ds, zeroCells (T := T) Tryz.prog 64 = some (ofDs ds) ∧ leDs ds (enc64 S64.d) := ⟨by kernel_rfl, [.i .i64 (0 : Int), .s ([]), .s ([]), .i .i64 (0 : Int)], by kernel_rfl, .cons (.refl _) <| .cons (.refl _) <| .cons (.refl _) <| .cons (.refl _) <| .nil⟩
theorem zr53 : zeroShape Tryz.prog 53 = true ∧ ∃ ds, zeroCells (T := T) Tryz.prog 53 = some (ofDs ds) ∧ leDs ds (enc53 S53.d) := ⟨by kernel_rfl, [.ns, .i .i64 (0 : Int), .b false], by kernel_rfl, .cons (.ns _) <| .cons (.refl _) <| .cons (.refl _) <| .nil⟩
theorem fl : Tryz.prog.follows .mixedOrders = true := by kernel_rfl
theorem bytesOk (w0 : World) (t : Tab T) : BytesOk (cfg w0 t) := fun e h1 h2 => by
  have hm := mem_of (l := knl) h2
  simp only [knl, List.mem_cons, List.not_mem_nil, or_false] at hm
  rcases hm with rfl | rfl | rfl | rfl | rfl | rfl
  · exact ⟨fun l => by induction l with
      | nil => rfl
      | cons b l ih => exact congrArg (List.cons _) ih, fun xs => ⟨xs, rfl, rfl⟩⟩
  · exact absurd h1 (by rw [show isU8 (cfg w0 _).P 9 = false from u8_9]; exact Bool.false_ne_true)
  · exact absurd h1 (by rw [show isU8 (cfg w0 _).P 29 = false from u8_29]; exact Bool.false_ne_true)
  · exact absurd h1 (by rw [show isU8 (cfg w0 _).P 33 = false from u8_33]; exact Bool.false_ne_true)
  · exact absurd h1 (by rw [show isU8 (cfg w0 _).P 64 = false from u8_64]; exact Bool.false_ne_true)
  · exact absurd h1 (by rw [show isU8 (cfg w0 _).P 53 = false from u8_53]; exact Bool.false_ne_true)
theorem fine (w0 : World) (hw : Wd w0) (t : Tab T) (h : CfOk (cfg w0 t)) : Fine (cfg w0 t) where
  gv := hw.gv
  bytes := bytesOk w0 t
  cod := by
    refine ⟨fun t ht x => ?_, fun t ds x h => ?_⟩
    · have hm := mem_of (l := knl) ht
      simp only [knl, List.mem_cons, List.not_mem_nil, or_false] at hm
      rcases hm with rfl | rfl | rfl | rfl | rfl | rfl
      · exact len5
      · exact len9
      · exact len29
      · exact len33
      · exact len64
      · exact len53
    · exact dec_ok t ds x h
  zero := fun t ht => by
    have hm := mem_of (l := knl) ht
    simp only [knl, List.mem_cons, List.not_mem_nil, or_false] at hm
    rcases hm with rfl | rfl | rfl | rfl | rfl | rfl
    · exact zr5
    · exact zr9
    · exact zr29
    · exact zr33
    · exact zr64
    · exact zr53
  eqk := fun t h => by
    have hm := mem_of (l := eql) h
    simp only [eql, List.mem_cons, List.not_mem_nil, or_false] at hm
    rcases hm with rfl
    · exact eqk33
  flat := fun t hf hk x d hd => by
    have hm := mem_of (l := knl) hk
    simp only [knl, List.mem_cons, List.not_mem_nil, or_false] at hm
    rcases hm with rfl | rfl | rfl | rfl | rfl | rfl
    · have hd : d ∈ enc5 x := hd
      simp only [enc5, List.mem_cons, List.not_mem_nil, or_false] at hd
      rcases hd with rfl <;> rfl
    · have hd : d ∈ enc9 x := hd
      simp only [enc9, List.mem_cons, List.not_mem_nil, or_false] at hd
      rcases hd with rfl <;> rfl
    · exact absurd hf (by rw [show flatT (cfg w0 _).P 20 29 = false from fl29]; exact Bool.false_ne_true)
    · have hd : d ∈ enc33 x := hd
      simp only [enc33, List.mem_cons, List.not_mem_nil, or_false] at hd
      rcases hd with rfl | rfl <;> rfl
    · have hd : d ∈ enc64 x := hd
      simp only [enc64, List.mem_cons, List.not_mem_nil, or_false] at hd
      rcases hd with rfl | rfl | rfl | rfl <;> rfl
    · exact absurd hf (by rw [show flatT (cfg w0 _).P 20 53 = false from fl53]; exact Bool.false_ne_true)
  cf := h
theorem dr (w0 : World) (hw : Wd w0) (t : Tab T) (h : CfOk (cfg w0 t)) : DrawOk (cfg w0 t) := drawOk_ok (fine w0 hw t h) fl
def F14.id : Nat := 0
def F14.y1 : TypeId := 20
def F14.y2 : TypeId := 20
def F14.p1 : String := "calc.go:200"
def F14.p2 : String := "calc.go:200"
def F14.e1 : Array Edge := #[]
def F14.e2 : Array Edge := #[⟨0, .data⟩, ⟨0, .chain⟩, ⟨0, .phase⟩]
theorem idle14 (w0 : World) (hw : Wd w0) (t : Tab T) (h : CfOk (cfg w0 t)) : Idle (cfg w0 t) 14 2 :=
  idle_ok (fine w0 hw t h) (dr w0 hw t h) (id := F14.id) (ty1 := F14.y1) (ty2 := F14.y2) (p1 := F14.p1) (p2 := F14.p2) (e1 := F14.e1) (e2 := F14.e2) (rest := seqR (bodyOf Tryz.f14)) (t5 := 5) (t2 := 2) Tryz.func14 (by kernel_rfl) (by kernel_rfl) (Nat.le_of_ble_eq_true rfl) (Nat.le_of_ble_eq_true rfl) 2 (fun vs H => by kernel_rfl)
theorem cat14 (w0 : World) (hw : Wd w0) (t : Tab T) (h : CfOk (cfg w0 t)) : Catch (cfg w0 t) 14 (F14 (cfg w0 t)) :=
  catch_ok (fine w0 hw t h) (dr w0 hw t h) (id := F14.id) (ty1 := F14.y1) (ty2 := F14.y2) (p1 := F14.p1) (p2 := F14.p2) (e1 := F14.e1) (e2 := F14.e2) (rest := seqR (bodyOf Tryz.f14)) (t5 := 5) (t2 := 2) Tryz.func14 (by kernel_rfl) (by kernel_rfl) (Nat.le_of_ble_eq_true rfl) (Nat.le_of_ble_eq_true rfl) runF_ok
def io0 : Io T ((List UInt8) × (List UInt8)) where
  enc v := ([.d (.s v.1), .d (.s v.2)], [])
  pat
    | ([.d (.s p1), .d (.s p2)], []) => some (p1, p2)
    | _ => none
  ok z v h := by
    split at h
    · cases h
      all_goals rfl
    · cases h
def io1 : Io T (List UInt8) where
  enc v := ([.d (.s v)], [])
  pat
    | ([.d (.s p1)], []) => some p1
    | _ => none
  ok z v h := by
    split at h
    · cases h
      all_goals rfl
    · cases h
def io2 : Io T (Bool) where
  enc v := ([.d (.b v)], [])
  pat
    | ([.d (.b p1)], []) => some p1
    | _ => none
  ok z v h := by
    split at h
    · cases h
      all_goals rfl
    · cases h
def io3 : Io T ((List UInt8) × Bool) where
  enc v := ([.d (.s v.1), .d (.b v.2)], [])
  pat
    | ([.d (.s p1), .d (.b p2)], []) => some (p1, p2)
    | _ => none
  ok z v h := by
    split at h
    · cases h
      all_goals rfl
    · cases h
def io4 : Io T (Int) where
  enc v := ([.d (.i .i64 v)], [])
  pat
    | ([.d (.i .i64 p1)], []) => some p1
    | _ => none
  ok z v h := by
    split at h
    · cases h
      all_goals rfl
    · cases h
def io5 : Io T (List UInt8) where
  enc v := ([.bp 0], [.bl v])
  pat
    | ([.bp 0], [.bl p1]) => some p1
    | _ => none
  ok z v h := by
    split at h
    · cases h
      all_goals rfl
    · cases h
def io6 : Io T ((List UInt8) × (List UInt8)) where
  enc v := ([.d (.s v.1)], [.bl v.2])
  pat
    | ([.d (.s p1)], [.bl p2]) => some (p1, p2)
    | _ => none
  ok z v h := by
    split at h
    · cases h
      all_goals rfl
    · cases h
def io7 : Io T (Int × (List UInt8)) where
  enc v := ([.bp 0, .d (.i .u8 v.1)], [.bl v.2])
  pat
    | ([.bp 0, .d (.i .u8 p1)], [.bl p2]) => some (p1, p2)
    | _ => none
  ok z v h := by
    split at h
    · cases h
      all_goals rfl
    · cases h
def io8 : Io T (List UInt8) where
  enc v := ([.d .ni], [.bl v])
  pat
    | ([.d .ni], [.bl p1]) => some p1
    | _ => none
  ok z v h := by
    split at h
    · cases h
      all_goals rfl
    · cases h
def io9 : Io T (Int × (List UInt8) × (List UInt8) × Int) where
  enc v := ([.agg [.d (.i .i64 v.1), .d (.s v.2.1), .d (.s v.2.2.1), .d (.i .i64 v.2.2.2)]], [])
  pat
    | ([.agg [.d (.i .i64 p1), .d (.s p2), .d (.s p3), .d (.i .i64 p4)]], []) => some (p1, p2, p3, p4)
    | _ => none
  ok z v h := by
    split at h
    · cases h
      all_goals rfl
    · cases h
def io10 : Io T ((List UInt8) × Int × Int × (List UInt8) × (List UInt8) × Int × (List UInt8)) where
  enc v := ([.d (.s v.1), .ptr 0 0, .bp 1, .d (.i .i64 v.2.1)], [.box [.d (.i .i64 v.2.2.1), .d (.s v.2.2.2.1), .d (.s v.2.2.2.2.1), .d (.i .i64 v.2.2.2.2.2.1)], .bl v.2.2.2.2.2.2])
  pat
    | ([.d (.s p1), .ptr 0 0, .bp 1, .d (.i .i64 p2)], [.box [.d (.i .i64 p3), .d (.s p4), .d (.s p5), .d (.i .i64 p6)], .bl p7]) => some (p1, p2, p3, p4, p5, p6, p7)
    | _ => none
  ok z v h := by
    split at h
    · cases h
      all_goals rfl
    · cases h
def io11 : Io T ((List UInt8) × Int × (List UInt8) × (List UInt8) × Int) where
  enc v := ([.d (.s v.1), .ptr 0 0], [.box [.d (.i .i64 v.2.1), .d (.s v.2.2.1), .d (.s v.2.2.2.1), .d (.i .i64 v.2.2.2.2)]])
  pat
    | ([.d (.s p1), .ptr 0 0], [.box [.d (.i .i64 p2), .d (.s p3), .d (.s p4), .d (.i .i64 p5)]]) => some (p1, p2, p3, p4, p5)
    | _ => none
  ok z v h := by
    split at h
    · cases h
      all_goals rfl
    · cases h
def io12 : Io T (Int) where
  enc v := ([.d (.i .u8 v)], [])
  pat
    | ([.d (.i .u8 p1)], []) => some p1
    | _ => none
  ok z v h := by
    split at h
    · cases h
      all_goals rfl
    · cases h
def io13 : Io T ((List UInt8) × Int) where
  enc v := ([.d (.s v.1), .d (.i .i64 v.2)], [])
  pat
    | ([.d (.s p1), .d (.i .i64 p2)], []) => some (p1, p2)
    | _ => none
  ok z v h := by
    split at h
    · cases h
      all_goals rfl
    · cases h
def io14 : Io T ((List UInt8) × Int × (List UInt8)) where
  enc v := ([.d (.s v.1), .bp 0, .d (.i .i64 v.2.1)], [.bl v.2.2])
  pat
    | ([.d (.s p1), .bp 0, .d (.i .i64 p2)], [.bl p3]) => some (p1, p2, p3)
    | _ => none
  ok z v h := by
    split at h
    · cases h
      all_goals rfl
    · cases h
def io15 : Io T (Int × (List UInt8)) where
  enc v := ([.bp 0, .d (.i .i64 v.1)], [.bl v.2])
  pat
    | ([.bp 0, .d (.i .i64 p1)], [.bl p2]) => some (p1, p2)
    | _ => none
  ok z v h := by
    split at h
    · cases h
      all_goals rfl
    · cases h
def io16 : Io T (Int × (List UInt8) × Int) where
  enc v := ([.d (.i .i64 v.1), .d (.s v.2.1), .d (.i .i64 v.2.2)], [])
  pat
    | ([.d (.i .i64 p1), .d (.s p2), .d (.i .i64 p3)], []) => some (p1, p2, p3)
    | _ => none
  ok z v h := by
    split at h
    · cases h
      all_goals rfl
    · cases h
def io17 : Io T (Int × Int) where
  enc v := ([.d (.i .u8 v.1), .ptr 0 0], [.box [.d (.i .i64 v.2)]])
  pat
    | ([.d (.i .u8 p1), .ptr 0 0], [.box [.d (.i .i64 p2)]]) => some (p1, p2)
    | _ => none
  ok z v h := by
    split at h
    · cases h
      all_goals rfl
    · cases h
def io18 : Io T (Int) where
  enc v := ([], [.box [.d (.i .i64 v)]])
  pat
    | ([], [.box [.d (.i .i64 p1)]]) => some p1
    | _ => none
  ok z v h := by
    split at h
    · cases h
      all_goals rfl
    · cases h
def io19 : Io T (Int × Int) where
  enc v := ([.d (.i .i64 v.1), .d (.i .i64 v.2)], [])
  pat
    | ([.d (.i .i64 p1), .d (.i .i64 p2)], []) => some (p1, p2)
    | _ => none
  ok z v h := by
    split at h
    · cases h
      all_goals rfl
    · cases h
def io20 : Io T ((List UInt8) × Int × Int × Int × Int × Int × Int × (List Int)) where
  enc v := ([.d (.s v.1), .d (.i .i64 v.2.1), .d (.i .i64 v.2.2.1), .d (.i .i64 v.2.2.2.1), .ptr 0 0, .fn 77 [.ptr 0 0], .sl 1 none, .d (.i .i64 v.2.2.2.2.1), .d (.i .i64 v.2.2.2.2.2.1)], [.box [.d (.i .i64 v.2.2.2.2.2.2.1)], .arr 5 v.2.2.2.2.2.2.2])
  pat
    | ([.d (.s p1), .d (.i .i64 p2), .d (.i .i64 p3), .d (.i .i64 p4), .ptr 0 0, .fn 77 [.ptr 0 0], .sl 1 none, .d (.i .i64 p5), .d (.i .i64 p6)], [.box [.d (.i .i64 p7)], .arr tp8 p8]) => (asT 5 tp8 p8).bind fun q8 => some (p1, p2, p3, p4, p5, p6, p7, q8)
    | _ => none
  ok z v h := by
    split at h
    · obtain ⟨q8, hp8, h⟩ := Option.bind_eq_some_iff.1 h
      cases h
      rw [asT_a hp8]
      all_goals rfl
    · cases h
def io21 : Io T ((List UInt8) × Int × Int × Int × Int) where
  enc v := ([.d (.s v.1), .d (.i .i64 v.2.1), .d (.i .i64 v.2.2.1), .d (.i .i64 v.2.2.2.1), .ptr 0 0, .fn 77 [.ptr 0 0]], [.box [.d (.i .i64 v.2.2.2.2)]])
  pat
    | ([.d (.s p1), .d (.i .i64 p2), .d (.i .i64 p3), .d (.i .i64 p4), .ptr 0 0, .fn 77 [.ptr 0 0]], [.box [.d (.i .i64 p5)]]) => some (p1, p2, p3, p4, p5)
    | _ => none
  ok z v h := by
    split at h
    · cases h
      all_goals rfl
    · cases h
def io22 : Io T ((List UInt8) × Int × (List UInt8) × Int × Int) where
  enc v := ([.d (.s v.1), .ptr 0 0, .fn 77 [.ptr 0 0], .d (.i .i64 v.2.1), .d (.s v.2.2.1), .d (.i .i64 v.2.2.2.1)], [.box [.d (.i .i64 v.2.2.2.2)]])
  pat
    | ([.d (.s p1), .ptr 0 0, .fn 77 [.ptr 0 0], .d (.i .i64 p2), .d (.s p3), .d (.i .i64 p4)], [.box [.d (.i .i64 p5)]]) => some (p1, p2, p3, p4, p5)
    | _ => none
  ok z v h := by
    split at h
    · cases h
      all_goals rfl
    · cases h
def io23 : Io T ((List UInt8) × Int × Int) where
  enc v := ([.d (.s v.1), .ptr 0 0, .d (.i .i64 v.2.1)], [.box [.d (.i .i64 v.2.2)]])
  pat
    | ([.d (.s p1), .ptr 0 0, .d (.i .i64 p2)], [.box [.d (.i .i64 p3)]]) => some (p1, p2, p3)
    | _ => none
  ok z v h := by
    split at h
    · cases h
      all_goals rfl
    · cases h
def io24 : Io T (Int × Int) where
  enc v := ([.ptr 0 0, .d (.i .i64 v.1)], [.box [.d (.i .i64 v.2)]])
  pat
    | ([.ptr 0 0, .d (.i .i64 p1)], [.box [.d (.i .i64 p2)]]) => some (p1, p2)
    | _ => none
  ok z v h := by
    split at h
    · cases h
      all_goals rfl
    · cases h
def io25 : Io T ((List UInt8) × Int × (List UInt8) × Int) where
  enc v := ([.d (.s v.1), .ptr 0 0, .fn 77 [.ptr 0 0], .d (.i .i64 v.2.1), .d (.s v.2.2.1)], [.box [.d (.i .i64 v.2.2.2)]])
  pat
    | ([.d (.s p1), .ptr 0 0, .fn 77 [.ptr 0 0], .d (.i .i64 p2), .d (.s p3)], [.box [.d (.i .i64 p4)]]) => some (p1, p2, p3, p4)
    | _ => none
  ok z v h := by
    split at h
    · cases h
      all_goals rfl
    · cases h
def io26 : Io T ((List UInt8) × Int × Int × Int) where
  enc v := ([.d (.s v.1), .d (.i .i64 v.2.1), .d (.i .i64 v.2.2.1), .d (.i .i64 v.2.2.2)], [])
  pat
    | ([.d (.s p1), .d (.i .i64 p2), .d (.i .i64 p3), .d (.i .i64 p4)], []) => some (p1, p2, p3, p4)
    | _ => none
  ok z v h := by
    split at h
    · cases h
      all_goals rfl
    · cases h
def io27 : Io T (Int × Int × (List Int)) where
  enc v := ([.sl 0 none, .sl 0 none, .d (.i .i64 v.1), .d (.i .i64 v.2.1)], [.arr 5 v.2.2])
  pat
    | ([.sl 0 none, .sl 0 none, .d (.i .i64 p1), .d (.i .i64 p2)], [.arr tp3 p3]) => (asT 5 tp3 p3).bind fun q3 => some (p1, p2, q3)
    | _ => none
  ok z v h := by
    split at h
    · obtain ⟨q3, hp3, h⟩ := Option.bind_eq_some_iff.1 h
      cases h
      rw [asT_a hp3]
      all_goals rfl
    · cases h
def io28 : Io T (List Int) where
  enc v := ([.sl 0 none], [.arr 5 v])
  pat
    | ([.sl 0 none], [.arr tp1 p1]) => (asT 5 tp1 p1).bind fun q1 => some q1
    | _ => none
  ok z v h := by
    split at h
    · obtain ⟨q1, hp1, h⟩ := Option.bind_eq_some_iff.1 h
      cases h
      rw [asT_a hp1]
      all_goals rfl
    · cases h
def io29 : Io T ((List UInt8) × Int × Int) where
  enc v := ([.d (.s v.1), .d (.i .i64 v.2.1), .d (.i .i64 v.2.2)], [])
  pat
    | ([.d (.s p1), .d (.i .i64 p2), .d (.i .i64 p3)], []) => some (p1, p2, p3)
    | _ => none
  ok z v h := by
    split at h
    · cases h
      all_goals rfl
    · cases h
def io30 : Io T (Int × (List UInt8) × (List UInt8) × Int × Int × (List UInt8) × (List UInt8) × Int) where
  enc v := ([.ptr 0 0, .ptr 1 0], [.box [.d (.i .i64 v.1), .d (.s v.2.1), .d (.s v.2.2.1), .d (.i .i64 v.2.2.2.1)], .box [.d (.i .i64 v.2.2.2.2.1), .d (.s v.2.2.2.2.2.1), .d (.s v.2.2.2.2.2.2.1), .d (.i .i64 v.2.2.2.2.2.2.2)]])
  pat
    | ([.ptr 0 0, .ptr 1 0], [.box [.d (.i .i64 p1), .d (.s p2), .d (.s p3), .d (.i .i64 p4)], .box [.d (.i .i64 p5), .d (.s p6), .d (.s p7), .d (.i .i64 p8)]]) => some (p1, p2, p3, p4, p5, p6, p7, p8)
    | _ => none
  ok z v h := by
    split at h
    · cases h
      all_goals rfl
    · cases h
def io31 : Io T (Int × (List UInt8)) where
  enc v := ([.d (.i .i64 v.1), .ptr 0 0], [.box [.d (.s v.2)]])
  pat
    | ([.d (.i .i64 p1), .ptr 0 0], [.box [.d (.s p2)]]) => some (p1, p2)
    | _ => none
  ok z v h := by
    split at h
    · cases h
      all_goals rfl
    · cases h
def io32 : Io T (Int × (List UInt8) × (List UInt8) × Int × (List UInt8)) where
  enc v := ([.agg [.d (.i .i64 v.1), .d (.s v.2.1), .d (.s v.2.2.1), .d (.i .i64 v.2.2.2.1)]], [.box [.d (.s v.2.2.2.2)]])
  pat
    | ([.agg [.d (.i .i64 p1), .d (.s p2), .d (.s p3), .d (.i .i64 p4)]], [.box [.d (.s p5)]]) => some (p1, p2, p3, p4, p5)
    | _ => none
  ok z v h := by
    split at h
    · cases h
      all_goals rfl
    · cases h
def io33 : Io T ((List UInt8) × Int × (List UInt8) × (List UInt8) × Int) where
  enc v := ([.ptr 0 0, .ptr 1 0], [.box [.d (.s v.1)], .box [.d (.i .i64 v.2.1), .d (.s v.2.2.1), .d (.s v.2.2.2.1), .d (.i .i64 v.2.2.2.2)]])
  pat
    | ([.ptr 0 0, .ptr 1 0], [.box [.d (.s p1)], .box [.d (.i .i64 p2), .d (.s p3), .d (.s p4), .d (.i .i64 p5)]]) => some (p1, p2, p3, p4, p5)
    | _ => none
  ok z v h := by
    split at h
    · cases h
      all_goals rfl
    · cases h
def io34 : Io T (Int × (List UInt8) × (List UInt8) × Int × (List UInt8)) where
  enc v := ([.ptr 0 0, .fn 43 [.ptr 1 0]], [.box [.d (.i .i64 v.1), .d (.s v.2.1), .d (.s v.2.2.1), .d (.i .i64 v.2.2.2.1)], .box [.d (.s v.2.2.2.2)]])
  pat
    | ([.ptr 0 0, .fn 43 [.ptr 1 0]], [.box [.d (.i .i64 p1), .d (.s p2), .d (.s p3), .d (.i .i64 p4)], .box [.d (.s p5)]]) => some (p1, p2, p3, p4, p5)
    | _ => none
  ok z v h := by
    split at h
    · cases h
      all_goals rfl
    · cases h
def io35 : Io T (List S64) where
  enc v := ([.sl 0 none], [.arr 64 v])
  pat
    | ([.sl 0 none], [.arr tp1 p1]) => (asT 64 tp1 p1).bind fun q1 => some q1
    | _ => none
  ok z v h := by
    split at h
    · obtain ⟨q1, hp1, h⟩ := Option.bind_eq_some_iff.1 h
      cases h
      rw [asT_a hp1]
      all_goals rfl
    · cases h
def io36 : Io T ((List UInt8) × (List S64)) where
  enc v := ([.d (.s v.1), .sl 0 none], [.arr 64 v.2])
  pat
    | ([.d (.s p1), .sl 0 none], [.arr tp2 p2]) => (asT 64 tp2 p2).bind fun q2 => some (p1, q2)
    | _ => none
  ok z v h := by
    split at h
    · obtain ⟨q2, hp2, h⟩ := Option.bind_eq_some_iff.1 h
      cases h
      rw [asT_a hp2]
      all_goals rfl
    · cases h
def io37 : Io T (Int × Bool × (List S64)) where
  enc v := ([.ptr 0 0], [.box [.sl 1 none, .d (.i .i64 v.1), .d (.b v.2.1)], .arr 64 v.2.2])
  pat
    | ([.ptr 0 0], [.box [.sl 1 none, .d (.i .i64 p1), .d (.b p2)], .arr tp3 p3]) => (asT 64 tp3 p3).bind fun q3 => some (p1, p2, q3)
    | _ => none
  ok z v h := by
    split at h
    · obtain ⟨q3, hp3, h⟩ := Option.bind_eq_some_iff.1 h
      cases h
      rw [asT_a hp3]
      all_goals rfl
    · cases h
def io38 : Io T (Bool × (List S64) × Int × Bool) where
  enc v := ([.d (.b v.1)], [.box [.d (.l 64 v.2.1), .d (.i .i64 v.2.2.1), .d (.b v.2.2.2)], .dead])
  pat
    | ([.d (.b p1)], [.box [.d (.l tp2 p2), .d (.i .i64 p3), .d (.b p4)], .dead]) => (asT 64 tp2 p2).bind fun q2 => some (p1, q2, p3, p4)
    | _ => none
  ok z v h := by
    split at h
    · obtain ⟨q2, hp2, h⟩ := Option.bind_eq_some_iff.1 h
      cases h
      rw [asT_l hp2]
      all_goals rfl
    · cases h
def io39 : Io T (Int × (List S64) × Int × Bool) where
  enc v := ([.ptr 0 0, .d (.i .i64 v.1)], [.box [.d (.l 64 v.2.1), .d (.i .i64 v.2.2.1), .d (.b v.2.2.2)], .dead])
  pat
    | ([.ptr 0 0, .d (.i .i64 p1)], [.box [.d (.l tp2 p2), .d (.i .i64 p3), .d (.b p4)], .dead]) => (asT 64 tp2 p2).bind fun q2 => some (p1, q2, p3, p4)
    | _ => none
  ok z v h := by
    split at h
    · obtain ⟨q2, hp2, h⟩ := Option.bind_eq_some_iff.1 h
      cases h
      rw [asT_l hp2]
      all_goals rfl
    · cases h
def io40 : Io T (Bool × (List S64) × Int × Bool) where
  enc v := ([.ptr 0 0, .d (.b v.1)], [.box [.d (.l 64 v.2.1), .d (.i .i64 v.2.2.1), .d (.b v.2.2.2)]])
  pat
    | ([.ptr 0 0, .d (.b p1)], [.box [.d (.l tp2 p2), .d (.i .i64 p3), .d (.b p4)]]) => (asT 64 tp2 p2).bind fun q2 => some (p1, q2, p3, p4)
    | _ => none
  ok z v h := by
    split at h
    · obtain ⟨q2, hp2, h⟩ := Option.bind_eq_some_iff.1 h
      cases h
      rw [asT_l hp2]
      all_goals rfl
    · cases h
def io41 : Io T ((List S64) × Int × Bool) where
  enc v := ([], [.box [.d (.l 64 v.1), .d (.i .i64 v.2.1), .d (.b v.2.2)]])
  pat
    | ([], [.box [.d (.l tp1 p1), .d (.i .i64 p2), .d (.b p3)]]) => (asT 64 tp1 p1).bind fun q1 => some (q1, p2, p3)
    | _ => none
  ok z v h := by
    split at h
    · obtain ⟨q1, hp1, h⟩ := Option.bind_eq_some_iff.1 h
      cases h
      rw [asT_l hp1]
      all_goals rfl
    · cases h
def io42 : Io T ((List (List UInt8)) × (List UInt8)) where
  enc v := ([.d (.l 9 v.1), .d (.s v.2)], [])
  pat
    | ([.d (.l tp1 p1), .d (.s p2)], []) => (asT 9 tp1 p1).bind fun q1 => some (q1, p2)
    | _ => none
  ok z v h := by
    split at h
    · obtain ⟨q1, hp1, h⟩ := Option.bind_eq_some_iff.1 h
      cases h
      rw [asT_l hp1]
      all_goals rfl
    · cases h
def io43 : Io T ((List (List UInt8)) × (List UInt8) × Int × Int) where
  enc v := ([.d (.l 9 v.1), .d (.s v.2.1), .d (.i .i64 v.2.2.1), .d (.i .i64 v.2.2.2)], [])
  pat
    | ([.d (.l tp1 p1), .d (.s p2), .d (.i .i64 p3), .d (.i .i64 p4)], []) => (asT 9 tp1 p1).bind fun q1 => some (q1, p2, p3, p4)
    | _ => none
  ok z v h := by
    split at h
    · obtain ⟨q1, hp1, h⟩ := Option.bind_eq_some_iff.1 h
      cases h
      rw [asT_l hp1]
      all_goals rfl
    · cases h
def io44 : Io T (Unit) where
  enc v := ([], [])
  pat
    | ([], []) => some ()
    | _ => none
  ok z v h := by
    split at h <;> cases h; rfl
def io45 : Io T (Int × (List UInt8) × Int) where
  enc v := ([.agg [.d (.i .i64 v.1), .d (.s v.2.1)], .d (.i .i64 v.2.2)], [])
  pat
    | ([.agg [.d (.i .i64 p1), .d (.s p2)], .d (.i .i64 p3)], []) => some (p1, p2, p3)
    | _ => none
  ok z v h := by
    split at h
    · cases h
      all_goals rfl
    · cases h
def io46 : Io T (Int × Int × (List UInt8) × (List S64) × Int × Bool) where
  enc v := ([.ptr 0 0, .agg [.d (.i .i64 v.1), .d (.i .i64 v.2.1), .d (.s v.2.2.1), .d .ns]], [.box [.d (.l 64 v.2.2.2.1), .d (.i .i64 v.2.2.2.2.1), .d (.b v.2.2.2.2.2)]])
  pat
    | ([.ptr 0 0, .agg [.d (.i .i64 p1), .d (.i .i64 p2), .d (.s p3), .d .ns]], [.box [.d (.l tp4 p4), .d (.i .i64 p5), .d (.b p6)]]) => (asT 64 tp4 p4).bind fun q4 => some (p1, p2, p3, q4, p5, p6)
    | _ => none
  ok z v h := by
    split at h
    · obtain ⟨q4, hp4, h⟩ := Option.bind_eq_some_iff.1 h
      cases h
      rw [asT_l hp4]
      all_goals rfl
    · cases h
def io47 : Io T (Int × Int × (List UInt8) × (List S64) × Int × Bool) where
  enc v := ([.agg [.d (.i .i64 v.1), .d (.i .i64 v.2.1), .d (.s v.2.2.1), .d .ns]], [.box [.d (.l 64 v.2.2.2.1), .d (.i .i64 v.2.2.2.2.1), .d (.b v.2.2.2.2.2)]])
  pat
    | ([.agg [.d (.i .i64 p1), .d (.i .i64 p2), .d (.s p3), .d .ns]], [.box [.d (.l tp4 p4), .d (.i .i64 p5), .d (.b p6)]]) => (asT 64 tp4 p4).bind fun q4 => some (p1, p2, p3, q4, p5, p6)
    | _ => none
  ok z v h := by
    split at h
    · obtain ⟨q4, hp4, h⟩ := Option.bind_eq_some_iff.1 h
      cases h
      rw [asT_l hp4]
      all_goals rfl
    · cases h
def io48 : Io T ((List S64) × Int × Bool × Int × Int × (List UInt8) × Int × Int × (List UInt8)) where
  enc v := ([.ptr 1 0, .ptr 2 0], [.box [.d (.l 64 v.1), .d (.i .i64 v.2.1), .d (.b v.2.2.1)], .box [.d (.i .i64 v.2.2.2.1), .d (.i .i64 v.2.2.2.2.1), .d (.s v.2.2.2.2.2.1), .d .ns], .box [.d (.i .i64 v.2.2.2.2.2.2.1), .d (.i .i64 v.2.2.2.2.2.2.2.1), .d (.s v.2.2.2.2.2.2.2.2), .d .ns]])
  pat
    | ([.ptr 1 0, .ptr 2 0], [.box [.d (.l tp1 p1), .d (.i .i64 p2), .d (.b p3)], .box [.d (.i .i64 p4), .d (.i .i64 p5), .d (.s p6), .d .ns], .box [.d (.i .i64 p7), .d (.i .i64 p8), .d (.s p9), .d .ns]]) => (asT 64 tp1 p1).bind fun q1 => some (q1, p2, p3, p4, p5, p6, p7, p8, p9)
    | _ => none
  ok z v h := by
    split at h
    · obtain ⟨q1, hp1, h⟩ := Option.bind_eq_some_iff.1 h
      cases h
      rw [asT_l hp1]
      all_goals rfl
    · cases h
def io49 : Io T ((List S64) × Int × Bool) where
  enc v := ([.ptr 0 0], [.box [.d (.l 64 v.1), .d (.i .i64 v.2.1), .d (.b v.2.2)]])
  pat
    | ([.ptr 0 0], [.box [.d (.l tp1 p1), .d (.i .i64 p2), .d (.b p3)]]) => (asT 64 tp1 p1).bind fun q1 => some (q1, p2, p3)
    | _ => none
  ok z v h := by
    split at h
    · obtain ⟨q1, hp1, h⟩ := Option.bind_eq_some_iff.1 h
      cases h
      rw [asT_l hp1]
      all_goals rfl
    · cases h
def io50 : Io T (Bool × (List S64) × Int × Bool) where
  enc v := ([.d (.b v.1)], [.box [.d (.l 64 v.2.1), .d (.i .i64 v.2.2.1), .d (.b v.2.2.2)]])
  pat
    | ([.d (.b p1)], [.box [.d (.l tp2 p2), .d (.i .i64 p3), .d (.b p4)]]) => (asT 64 tp2 p2).bind fun q2 => some (p1, q2, p3, p4)
    | _ => none
  ok z v h := by
    split at h
    · obtain ⟨q2, hp2, h⟩ := Option.bind_eq_some_iff.1 h
      cases h
      rw [asT_l hp2]
      all_goals rfl
    · cases h
def io51 : Io T (Int × (List S64) × Int × Bool) where
  enc v := ([.ptr 0 0, .d (.i .i64 v.1)], [.box [.d (.l 64 v.2.1), .d (.i .i64 v.2.2.1), .d (.b v.2.2.2)]])
  pat
    | ([.ptr 0 0, .d (.i .i64 p1)], [.box [.d (.l tp2 p2), .d (.i .i64 p3), .d (.b p4)]]) => (asT 64 tp2 p2).bind fun q2 => some (p1, q2, p3, p4)
    | _ => none
  ok z v h := by
    split at h
    · obtain ⟨q2, hp2, h⟩ := Option.bind_eq_some_iff.1 h
      cases h
      rw [asT_l hp2]
      all_goals rfl
    · cases h
def io52 : Io T ((List UInt8) × (List S64) × Int × Bool) where
  enc v := ([.ptr 0 0, .d (.s v.1)], [.box [.d (.l 64 v.2.1), .d (.i .i64 v.2.2.1), .d (.b v.2.2.2)]])
  pat
    | ([.ptr 0 0, .d (.s p1)], [.box [.d (.l tp2 p2), .d (.i .i64 p3), .d (.b p4)]]) => (asT 64 tp2 p2).bind fun q2 => some (p1, q2, p3, p4)
    | _ => none
  ok z v h := by
    split at h
    · obtain ⟨q2, hp2, h⟩ := Option.bind_eq_some_iff.1 h
      cases h
      rw [asT_l hp2]
      all_goals rfl
    · cases h
def io53 : Io T (Int × Int × (List UInt8) × (List S64) × Int × Bool × (List S29)) where
  enc v := ([.ptr 0 0, .agg [.d (.i .i64 v.1), .d (.i .i64 v.2.1), .d (.s v.2.2.1), .sl 1 none]], [.box [.d (.l 64 v.2.2.2.1), .d (.i .i64 v.2.2.2.2.1), .d (.b v.2.2.2.2.2.1)], .arr 29 v.2.2.2.2.2.2])
  pat
    | ([.ptr 0 0, .agg [.d (.i .i64 p1), .d (.i .i64 p2), .d (.s p3), .sl 1 none]], [.box [.d (.l tp4 p4), .d (.i .i64 p5), .d (.b p6)], .arr tp7 p7]) => (asT 64 tp4 p4).bind fun q4 => (asT 29 tp7 p7).bind fun q7 => some (p1, p2, p3, q4, p5, p6, q7)
    | _ => none
  ok z v h := by
    split at h
    · obtain ⟨q4, hp4, h⟩ := Option.bind_eq_some_iff.1 h
      obtain ⟨q7, hp7, h⟩ := Option.bind_eq_some_iff.1 h
      cases h
      rw [asT_l hp4]
      rw [asT_a hp7]
      all_goals rfl
    · cases h
def io54 : Io T (Int × Int × (List UInt8) × (List S64) × Int × Bool × (List S29)) where
  enc v := ([.agg [.d (.i .i64 v.1), .d (.i .i64 v.2.1), .d (.s v.2.2.1), .sl 1 none]], [.box [.d (.l 64 v.2.2.2.1), .d (.i .i64 v.2.2.2.2.1), .d (.b v.2.2.2.2.2.1)], .arr 29 v.2.2.2.2.2.2])
  pat
    | ([.agg [.d (.i .i64 p1), .d (.i .i64 p2), .d (.s p3), .sl 1 none]], [.box [.d (.l tp4 p4), .d (.i .i64 p5), .d (.b p6)], .arr tp7 p7]) => (asT 64 tp4 p4).bind fun q4 => (asT 29 tp7 p7).bind fun q7 => some (p1, p2, p3, q4, p5, p6, q7)
    | _ => none
  ok z v h := by
    split at h
    · obtain ⟨q4, hp4, h⟩ := Option.bind_eq_some_iff.1 h
      obtain ⟨q7, hp7, h⟩ := Option.bind_eq_some_iff.1 h
      cases h
      rw [asT_l hp4]
      rw [asT_a hp7]
      all_goals rfl
    · cases h
def io55 : Io T ((List S64) × Int × Bool × (List S29) × Int × Int × (List UInt8) × Int × Int × (List UInt8)) where
  enc v := ([.ptr 2 0, .ptr 3 0], [.box [.d (.l 64 v.1), .d (.i .i64 v.2.1), .d (.b v.2.2.1)], .arr 29 v.2.2.2.1, .box [.d (.i .i64 v.2.2.2.2.1), .d (.i .i64 v.2.2.2.2.2.1), .d (.s v.2.2.2.2.2.2.1), .sl 1 none], .box [.d (.i .i64 v.2.2.2.2.2.2.2.1), .d (.i .i64 v.2.2.2.2.2.2.2.2.1), .d (.s v.2.2.2.2.2.2.2.2.2), .d .ns]])
  pat
    | ([.ptr 2 0, .ptr 3 0], [.box [.d (.l tp1 p1), .d (.i .i64 p2), .d (.b p3)], .arr tp4 p4, .box [.d (.i .i64 p5), .d (.i .i64 p6), .d (.s p7), .sl 1 none], .box [.d (.i .i64 p8), .d (.i .i64 p9), .d (.s p10), .d .ns]]) => (asT 64 tp1 p1).bind fun q1 => (asT 29 tp4 p4).bind fun q4 => some (q1, p2, p3, q4, p5, p6, p7, p8, p9, p10)
    | _ => none
  ok z v h := by
    split at h
    · obtain ⟨q1, hp1, h⟩ := Option.bind_eq_some_iff.1 h
      obtain ⟨q4, hp4, h⟩ := Option.bind_eq_some_iff.1 h
      cases h
      rw [asT_l hp1]
      rw [asT_a hp4]
      all_goals rfl
    · cases h
def io56 : Io T (Int × Int × (List UInt8) × (List S29)) where
  enc v := ([.agg [.d (.i .i64 v.1), .d (.i .i64 v.2.1), .d (.s v.2.2.1), .sl 0 none]], [.arr 29 v.2.2.2])
  pat
    | ([.agg [.d (.i .i64 p1), .d (.i .i64 p2), .d (.s p3), .sl 0 none]], [.arr tp4 p4]) => (asT 29 tp4 p4).bind fun q4 => some (p1, p2, p3, q4)
    | _ => none
  ok z v h := by
    split at h
    · obtain ⟨q4, hp4, h⟩ := Option.bind_eq_some_iff.1 h
      cases h
      rw [asT_a hp4]
      all_goals rfl
    · cases h
def io57 : Io T (Bool × (List S29)) where
  enc v := ([.d (.b v.1)], [.arr 29 v.2])
  pat
    | ([.d (.b p1)], [.arr tp2 p2]) => (asT 29 tp2 p2).bind fun q2 => some (p1, q2)
    | _ => none
  ok z v h := by
    split at h
    · obtain ⟨q2, hp2, h⟩ := Option.bind_eq_some_iff.1 h
      cases h
      rw [asT_a hp2]
      all_goals rfl
    · cases h
def io58 : Io T (Int × Int × (List UInt8) × (List S29) × (List S64) × Int × Bool) where
  enc v := ([.agg [.d (.i .i64 v.1), .d (.i .i64 v.2.1), .d (.s v.2.2.1), .d (.l 29 v.2.2.2.1)]], [.box [.d (.l 64 v.2.2.2.2.1), .d (.i .i64 v.2.2.2.2.2.1), .d (.b v.2.2.2.2.2.2)]])
  pat
    | ([.agg [.d (.i .i64 p1), .d (.i .i64 p2), .d (.s p3), .d (.l tp4 p4)]], [.box [.d (.l tp5 p5), .d (.i .i64 p6), .d (.b p7)]]) => (asT 29 tp4 p4).bind fun q4 => (asT 64 tp5 p5).bind fun q5 => some (p1, p2, p3, q4, q5, p6, p7)
    | _ => none
  ok z v h := by
    split at h
    · obtain ⟨q4, hp4, h⟩ := Option.bind_eq_some_iff.1 h
      obtain ⟨q5, hp5, h⟩ := Option.bind_eq_some_iff.1 h
      cases h
      rw [asT_l hp4]
      rw [asT_l hp5]
      all_goals rfl
    · cases h
def io59 : Io T (Int × (List S64) × Int × Bool × Int × Int × (List UInt8) × Int × Int × (List UInt8) × (List S29)) where
  enc v := ([.ptr 0 0, .ptr 1 0, .ptr 2 0, .d (.i .i64 v.1)], [.box [.d (.l 64 v.2.1), .d (.i .i64 v.2.2.1), .d (.b v.2.2.2.1)], .box [.d (.i .i64 v.2.2.2.2.1), .d (.i .i64 v.2.2.2.2.2.1), .d (.s v.2.2.2.2.2.2.1), .d .ns], .box [.d (.i .i64 v.2.2.2.2.2.2.2.1), .d (.i .i64 v.2.2.2.2.2.2.2.2.1), .d (.s v.2.2.2.2.2.2.2.2.2.1), .d (.l 29 v.2.2.2.2.2.2.2.2.2.2)]])
  pat
    | ([.ptr 0 0, .ptr 1 0, .ptr 2 0, .d (.i .i64 p1)], [.box [.d (.l tp2 p2), .d (.i .i64 p3), .d (.b p4)], .box [.d (.i .i64 p5), .d (.i .i64 p6), .d (.s p7), .d .ns], .box [.d (.i .i64 p8), .d (.i .i64 p9), .d (.s p10), .d (.l tp11 p11)]]) => (asT 64 tp2 p2).bind fun q2 => (asT 29 tp11 p11).bind fun q11 => some (p1, q2, p3, p4, p5, p6, p7, p8, p9, p10, q11)
    | _ => none
  ok z v h := by
    split at h
    · obtain ⟨q2, hp2, h⟩ := Option.bind_eq_some_iff.1 h
      obtain ⟨q11, hp11, h⟩ := Option.bind_eq_some_iff.1 h
      cases h
      rw [asT_l hp2]
      rw [asT_l hp11]
      all_goals rfl
    · cases h
def io60 : Io T ((List S64) × Int × Bool × Int × Int × (List UInt8) × Int × Int × (List UInt8) × (List S29)) where
  enc v := ([.ptr 0 0, .ptr 1 0, .ptr 2 0], [.box [.d (.l 64 v.1), .d (.i .i64 v.2.1), .d (.b v.2.2.1)], .box [.d (.i .i64 v.2.2.2.1), .d (.i .i64 v.2.2.2.2.1), .d (.s v.2.2.2.2.2.1), .d .ns], .box [.d (.i .i64 v.2.2.2.2.2.2.1), .d (.i .i64 v.2.2.2.2.2.2.2.1), .d (.s v.2.2.2.2.2.2.2.2.1), .sl 3 none], .arr 29 v.2.2.2.2.2.2.2.2.2])
  pat
    | ([.ptr 0 0, .ptr 1 0, .ptr 2 0], [.box [.d (.l tp1 p1), .d (.i .i64 p2), .d (.b p3)], .box [.d (.i .i64 p4), .d (.i .i64 p5), .d (.s p6), .d .ns], .box [.d (.i .i64 p7), .d (.i .i64 p8), .d (.s p9), .sl 3 none], .arr tp10 p10]) => (asT 64 tp1 p1).bind fun q1 => (asT 29 tp10 p10).bind fun q10 => some (q1, p2, p3, p4, p5, p6, p7, p8, p9, q10)
    | _ => none
  ok z v h := by
    split at h
    · obtain ⟨q1, hp1, h⟩ := Option.bind_eq_some_iff.1 h
      obtain ⟨q10, hp10, h⟩ := Option.bind_eq_some_iff.1 h
      cases h
      rw [asT_l hp1]
      rw [asT_a hp10]
      all_goals rfl
    · cases h
def io61 : Io T ((List S64) × Int × Bool × Int × Int × (List UInt8) × Int × Int × (List UInt8) × (List S29)) where
  enc v := ([.ptr 0 0, .ptr 1 0, .ptr 2 0], [.box [.d (.l 64 v.1), .d (.i .i64 v.2.1), .d (.b v.2.2.1)], .box [.d (.i .i64 v.2.2.2.1), .d (.i .i64 v.2.2.2.2.1), .d (.s v.2.2.2.2.2.1), .d .ns], .box [.d (.i .i64 v.2.2.2.2.2.2.1), .d (.i .i64 v.2.2.2.2.2.2.2.1), .d (.s v.2.2.2.2.2.2.2.2.1), .d (.l 29 v.2.2.2.2.2.2.2.2.2)]])
  pat
    | ([.ptr 0 0, .ptr 1 0, .ptr 2 0], [.box [.d (.l tp1 p1), .d (.i .i64 p2), .d (.b p3)], .box [.d (.i .i64 p4), .d (.i .i64 p5), .d (.s p6), .d .ns], .box [.d (.i .i64 p7), .d (.i .i64 p8), .d (.s p9), .d (.l tp10 p10)]]) => (asT 64 tp1 p1).bind fun q1 => (asT 29 tp10 p10).bind fun q10 => some (q1, p2, p3, p4, p5, p6, p7, p8, p9, q10)
    | _ => none
  ok z v h := by
    split at h
    · obtain ⟨q1, hp1, h⟩ := Option.bind_eq_some_iff.1 h
      obtain ⟨q10, hp10, h⟩ := Option.bind_eq_some_iff.1 h
      cases h
      rw [asT_l hp1]
      rw [asT_l hp10]
      all_goals rfl
    · cases h
def io62 : Io T (Bool × Int × (List S64) × Int × Bool × Int × Int × (List UInt8) × Int × Int × (List UInt8) × (List S29)) where
  enc v := ([.ptr 0 0, .ptr 1 0, .ptr 2 0, .d (.b v.1), .d (.i .i64 v.2.1)], [.box [.d (.l 64 v.2.2.1), .d (.i .i64 v.2.2.2.1), .d (.b v.2.2.2.2.1)], .box [.d (.i .i64 v.2.2.2.2.2.1), .d (.i .i64 v.2.2.2.2.2.2.1), .d (.s v.2.2.2.2.2.2.2.1), .d .ns], .box [.d (.i .i64 v.2.2.2.2.2.2.2.2.1), .d (.i .i64 v.2.2.2.2.2.2.2.2.2.1), .d (.s v.2.2.2.2.2.2.2.2.2.2.1), .d (.l 29 v.2.2.2.2.2.2.2.2.2.2.2)]])
  pat
    | ([.ptr 0 0, .ptr 1 0, .ptr 2 0, .d (.b p1), .d (.i .i64 p2)], [.box [.d (.l tp3 p3), .d (.i .i64 p4), .d (.b p5)], .box [.d (.i .i64 p6), .d (.i .i64 p7), .d (.s p8), .d .ns], .box [.d (.i .i64 p9), .d (.i .i64 p10), .d (.s p11), .d (.l tp12 p12)]]) => (asT 64 tp3 p3).bind fun q3 => (asT 29 tp12 p12).bind fun q12 => some (p1, p2, q3, p4, p5, p6, p7, p8, p9, p10, p11, q12)
    | _ => none
  ok z v h := by
    split at h
    · obtain ⟨q3, hp3, h⟩ := Option.bind_eq_some_iff.1 h
      obtain ⟨q12, hp12, h⟩ := Option.bind_eq_some_iff.1 h
      cases h
      rw [asT_l hp3]
      rw [asT_l hp12]
      all_goals rfl
    · cases h
def io63 : Io T (Int × Int × (List UInt8) × (List S29) × Int) where
  enc v := ([.agg [.d (.i .i64 v.1), .d (.i .i64 v.2.1), .d (.s v.2.2.1), .d (.l 29 v.2.2.2.1)], .d (.i .i64 v.2.2.2.2)], [])
  pat
    | ([.agg [.d (.i .i64 p1), .d (.i .i64 p2), .d (.s p3), .d (.l tp4 p4)], .d (.i .i64 p5)], []) => (asT 29 tp4 p4).bind fun q4 => some (p1, p2, p3, q4, p5)
    | _ => none
  ok z v h := by
    split at h
    · obtain ⟨q4, hp4, h⟩ := Option.bind_eq_some_iff.1 h
      cases h
      rw [asT_l hp4]
      all_goals rfl
    · cases h
def io64 : Io T (Int × Int × (List UInt8) × (List S29)) where
  enc v := ([.agg [.d (.i .i64 v.1), .d (.i .i64 v.2.1), .d (.s v.2.2.1), .d (.l 29 v.2.2.2)]], [])
  pat
    | ([.agg [.d (.i .i64 p1), .d (.i .i64 p2), .d (.s p3), .d (.l tp4 p4)]], []) => (asT 29 tp4 p4).bind fun q4 => some (p1, p2, p3, q4)
    | _ => none
  ok z v h := by
    split at h
    · obtain ⟨q4, hp4, h⟩ := Option.bind_eq_some_iff.1 h
      cases h
      rw [asT_l hp4]
      all_goals rfl
    · cases h
def io65 : Io T (Int × (List UInt8)) where
  enc v := ([.agg [.d (.i .i64 v.1), .d (.s v.2)]], [])
  pat
    | ([.agg [.d (.i .i64 p1), .d (.s p2)]], []) => some (p1, p2)
    | _ => none
  ok z v h := by
    split at h
    · cases h
      all_goals rfl
    · cases h
def io66 : Io T ((List UInt8) × Int × (List UInt8)) where
  enc v := ([.ptr 0 0, .d (.s v.1)], [.box [.d (.i .i64 v.2.1), .d (.s v.2.2)]])
  pat
    | ([.ptr 0 0, .d (.s p1)], [.box [.d (.i .i64 p2), .d (.s p3)]]) => some (p1, p2, p3)
    | _ => none
  ok z v h := by
    split at h
    · cases h
      all_goals rfl
    · cases h
def io67 : Io T (Int × (List UInt8) × Int × (List UInt8)) where
  enc v := ([.ptr 0 0, .d (.i .i64 v.1), .d (.s v.2.1)], [.box [.d (.i .i64 v.2.2.1), .d (.s v.2.2.2)]])
  pat
    | ([.ptr 0 0, .d (.i .i64 p1), .d (.s p2)], [.box [.d (.i .i64 p3), .d (.s p4)]]) => some (p1, p2, p3, p4)
    | _ => none
  ok z v h := by
    split at h
    · cases h
      all_goals rfl
    · cases h
def io68 : Io T (List UInt8) where
  enc v := ([], [.bl v])
  pat
    | ([], [.bl p1]) => some p1
    | _ => none
  ok z v h := by
    split at h
    · cases h
      all_goals rfl
    · cases h
def io69 : Io T (List UInt8) where
  enc v := ([.d .ns, .d (.s v)], [])
  pat
    | ([.d .ns, .d (.s p1)], []) => some p1
    | _ => none
  ok z v h := by
    split at h
    · cases h
      all_goals rfl
    · cases h
def io70 : Io T ((List UInt8) × Int) where
  enc v := ([.d .ns, .d (.s v.1), .d (.i .i64 v.2)], [])
  pat
    | ([.d .ns, .d (.s p1), .d (.i .i64 p2)], []) => some (p1, p2)
    | _ => none
  ok z v h := by
    split at h
    · cases h
      all_goals rfl
    · cases h
def io71 : Io T ((List UInt8) × Int × Int × Int) where
  enc v := ([.d .ns, .d (.s v.1), .d (.i .i64 v.2.1), .d .ns, .d (.i .i64 v.2.2.1), .d (.i .i64 v.2.2.2)], [])
  pat
    | ([.d .ns, .d (.s p1), .d (.i .i64 p2), .d .ns, .d (.i .i64 p3), .d (.i .i64 p4)], []) => some (p1, p2, p3, p4)
    | _ => none
  ok z v h := by
    split at h
    · cases h
      all_goals rfl
    · cases h
def io72 : Io T ((List UInt8) × (List UInt8)) where
  enc v := ([.bp 0, .d (.s v.1)], [.bl v.2])
  pat
    | ([.bp 0, .d (.s p1)], [.bl p2]) => some (p1, p2)
    | _ => none
  ok z v h := by
    split at h
    · cases h
      all_goals rfl
    · cases h
def io73 : Io T (Int × (List UInt8)) where
  enc v := ([.d (.i .i64 v.1), .d .ni], [.bl v.2])
  pat
    | ([.d (.i .i64 p1), .d .ni], [.bl p2]) => some (p1, p2)
    | _ => none
  ok z v h := by
    split at h
    · cases h
      all_goals rfl
    · cases h
def io74 : Io T ((List (List UInt8)) × (List UInt8) × Int) where
  enc v := ([.d (.l 9 v.1), .d (.s v.2.1), .d (.i .i64 v.2.2)], [])
  pat
    | ([.d (.l tp1 p1), .d (.s p2), .d (.i .i64 p3)], []) => (asT 9 tp1 p1).bind fun q1 => some (q1, p2, p3)
    | _ => none
  ok z v h := by
    split at h
    · obtain ⟨q1, hp1, h⟩ := Option.bind_eq_some_iff.1 h
      cases h
      rw [asT_l hp1]
      all_goals rfl
    · cases h
def io75 : Io T ((List (List UInt8)) × (List UInt8) × Int × (List UInt8) × (List (List UInt8)) × Int × Int) where
  enc v := ([.d (.l 9 v.1), .d (.s v.2.1), .d (.i .i64 v.2.2.1), .d (.s v.2.2.2.1), .d (.l 9 v.2.2.2.2.1), .d (.i .i64 v.2.2.2.2.2.1), .d (.i .i64 v.2.2.2.2.2.2)], [])
  pat
    | ([.d (.l tp1 p1), .d (.s p2), .d (.i .i64 p3), .d (.s p4), .d (.l tp5 p5), .d (.i .i64 p6), .d (.i .i64 p7)], []) => (asT 9 tp1 p1).bind fun q1 => (asT 9 tp5 p5).bind fun q5 => some (q1, p2, p3, p4, q5, p6, p7)
    | _ => none
  ok z v h := by
    split at h
    · obtain ⟨q1, hp1, h⟩ := Option.bind_eq_some_iff.1 h
      obtain ⟨q5, hp5, h⟩ := Option.bind_eq_some_iff.1 h
      cases h
      rw [asT_l hp1]
      rw [asT_l hp5]
      all_goals rfl
    · cases h
def io76 : Io T ((List (List UInt8)) × (List UInt8) × Int × (List (List UInt8)) × Int × Int) where
  enc v := ([.d (.l 9 v.1), .d (.s v.2.1), .d (.i .i64 v.2.2.1), .d (.l 9 v.2.2.2.1), .d (.i .i64 v.2.2.2.2.1), .d (.i .i64 v.2.2.2.2.2)], [])
  pat
    | ([.d (.l tp1 p1), .d (.s p2), .d (.i .i64 p3), .d (.l tp4 p4), .d (.i .i64 p5), .d (.i .i64 p6)], []) => (asT 9 tp1 p1).bind fun q1 => (asT 9 tp4 p4).bind fun q4 => some (q1, p2, p3, q4, p5, p6)
    | _ => none
  ok z v h := by
    split at h
    · obtain ⟨q1, hp1, h⟩ := Option.bind_eq_some_iff.1 h
      obtain ⟨q4, hp4, h⟩ := Option.bind_eq_some_iff.1 h
      cases h
      rw [asT_l hp1]
      rw [asT_l hp4]
      all_goals rfl
    · cases h
def io77 : Io T ((List UInt8) × (List (List UInt8)) × Int × Int × (List UInt8)) where
  enc v := ([.d (.s v.1), .bp 0, .d (.l 9 v.2.1), .d (.i .i64 v.2.2.1), .d (.i .i64 v.2.2.2.1)], [.bl v.2.2.2.2])
  pat
    | ([.d (.s p1), .bp 0, .d (.l tp2 p2), .d (.i .i64 p3), .d (.i .i64 p4)], [.bl p5]) => (asT 9 tp2 p2).bind fun q2 => some (p1, q2, p3, p4, p5)
    | _ => none
  ok z v h := by
    split at h
    · obtain ⟨q2, hp2, h⟩ := Option.bind_eq_some_iff.1 h
      cases h
      rw [asT_l hp2]
      all_goals rfl
    · cases h
def io78 : Io T ((List S29) × Int × Int × Int × Int × (List UInt8) × (List S29) × (List (List UInt8))) where
  enc v := ([.ptr 0 0, .sl 1 none, .d (.l 29 v.1), .d (.i .i64 v.2.1), .d (.i .i64 v.2.2.1)], [.box [.d (.i .i64 v.2.2.2.1), .d (.i .i64 v.2.2.2.2.1), .d (.s v.2.2.2.2.2.1), .d (.l 29 v.2.2.2.2.2.2.1)], .arr 9 v.2.2.2.2.2.2.2])
  pat
    | ([.ptr 0 0, .sl 1 none, .d (.l tp1 p1), .d (.i .i64 p2), .d (.i .i64 p3)], [.box [.d (.i .i64 p4), .d (.i .i64 p5), .d (.s p6), .d (.l tp7 p7)], .arr tp8 p8]) => (asT 29 tp1 p1).bind fun q1 => (asT 29 tp7 p7).bind fun q7 => (asT 9 tp8 p8).bind fun q8 => some (q1, p2, p3, p4, p5, p6, q7, q8)
    | _ => none
  ok z v h := by
    split at h
    · obtain ⟨q1, hp1, h⟩ := Option.bind_eq_some_iff.1 h
      obtain ⟨q7, hp7, h⟩ := Option.bind_eq_some_iff.1 h
      obtain ⟨q8, hp8, h⟩ := Option.bind_eq_some_iff.1 h
      cases h
      rw [asT_l hp1]
      rw [asT_l hp7]
      rw [asT_a hp8]
      all_goals rfl
    · cases h
def io79 : Io T (Int × Int × (List UInt8) × (List S29) × (List (List UInt8))) where
  enc v := ([.ptr 0 0, .sl 1 none], [.box [.d (.i .i64 v.1), .d (.i .i64 v.2.1), .d (.s v.2.2.1), .d (.l 29 v.2.2.2.1)], .arr 9 v.2.2.2.2])
  pat
    | ([.ptr 0 0, .sl 1 none], [.box [.d (.i .i64 p1), .d (.i .i64 p2), .d (.s p3), .d (.l tp4 p4)], .arr tp5 p5]) => (asT 29 tp4 p4).bind fun q4 => (asT 9 tp5 p5).bind fun q5 => some (p1, p2, p3, q4, q5)
    | _ => none
  ok z v h := by
    split at h
    · obtain ⟨q4, hp4, h⟩ := Option.bind_eq_some_iff.1 h
      obtain ⟨q5, hp5, h⟩ := Option.bind_eq_some_iff.1 h
      cases h
      rw [asT_l hp4]
      rw [asT_a hp5]
      all_goals rfl
    · cases h
def io80 : Io T (Int × (List UInt8)) where
  enc v := ([.d (.i .i64 v.1), .d (.s v.2)], [])
  pat
    | ([.d (.i .i64 p1), .d (.s p2)], []) => some (p1, p2)
    | _ => none
  ok z v h := by
    split at h
    · cases h
      all_goals rfl
    · cases h
def io81 : Io T (Int × Int × (List UInt8)) where
  enc v := ([.agg [.d (.i .i64 v.1), .d (.i .i64 v.2.1), .d (.s v.2.2), .d .ns]], [])
  pat
    | ([.agg [.d (.i .i64 p1), .d (.i .i64 p2), .d (.s p3), .d .ns]], []) => some (p1, p2, p3)
    | _ => none
  ok z v h := by
    split at h
    · cases h
      all_goals rfl
    · cases h
def io82 : Io T (Int × Bool) where
  enc v := ([.d (.i .i64 v.1), .d (.b v.2)], [])
  pat
    | ([.d (.i .i64 p1), .d (.b p2)], []) => some (p1, p2)
    | _ => none
  ok z v h := by
    split at h
    · cases h
      all_goals rfl
    · cases h
def io83 : Io T (Int × (List S29) × Int × Int) where
  enc v := ([.d (.i .i64 v.1), .d (.l 29 v.2.1), .d (.i .i64 v.2.2.1), .d (.i .i64 v.2.2.2)], [])
  pat
    | ([.d (.i .i64 p1), .d (.l tp2 p2), .d (.i .i64 p3), .d (.i .i64 p4)], []) => (asT 29 tp2 p2).bind fun q2 => some (p1, q2, p3, p4)
    | _ => none
  ok z v h := by
    split at h
    · obtain ⟨q2, hp2, h⟩ := Option.bind_eq_some_iff.1 h
      cases h
      rw [asT_l hp2]
      all_goals rfl
    · cases h
def io84 : Io T (Int × Bool × (List S29)) where
  enc v := ([.d (.i .i64 v.1), .d (.b v.2.1)], [.arr 29 v.2.2])
  pat
    | ([.d (.i .i64 p1), .d (.b p2)], [.arr tp3 p3]) => (asT 29 tp3 p3).bind fun q3 => some (p1, p2, q3)
    | _ => none
  ok z v h := by
    split at h
    · obtain ⟨q3, hp3, h⟩ := Option.bind_eq_some_iff.1 h
      cases h
      rw [asT_a hp3]
      all_goals rfl
    · cases h
def io85 : Io T (Int × Int × Int × (List S29)) where
  enc v := ([.d (.i .i64 v.1), .sl 0 none, .d (.i .i64 v.2.1), .d (.i .i64 v.2.2.1)], [.arr 29 v.2.2.2])
  pat
    | ([.d (.i .i64 p1), .sl 0 none, .d (.i .i64 p2), .d (.i .i64 p3)], [.arr tp4 p4]) => (asT 29 tp4 p4).bind fun q4 => some (p1, p2, p3, q4)
    | _ => none
  ok z v h := by
    split at h
    · obtain ⟨q4, hp4, h⟩ := Option.bind_eq_some_iff.1 h
      cases h
      rw [asT_a hp4]
      all_goals rfl
    · cases h
def io86 : Io T (Int × (List S29)) where
  enc v := ([.d (.i .i64 v.1)], [.arr 29 v.2])
  pat
    | ([.d (.i .i64 p1)], [.arr tp2 p2]) => (asT 29 tp2 p2).bind fun q2 => some (p1, q2)
    | _ => none
  ok z v h := by
    split at h
    · obtain ⟨q2, hp2, h⟩ := Option.bind_eq_some_iff.1 h
      cases h
      rw [asT_a hp2]
      all_goals rfl
    · cases h
def io87 : Io T (Int × Int × Int) where
  enc v := ([.d (.i .i64 v.1), .d (.i .i64 v.2.1), .d (.i .i64 v.2.2)], [])
  pat
    | ([.d (.i .i64 p1), .d (.i .i64 p2), .d (.i .i64 p3)], []) => some (p1, p2, p3)
    | _ => none
  ok z v h := by
    split at h
    · cases h
      all_goals rfl
    · cases h
def io88 : Io T (Int × (List UInt8) × Int × Int × Int × Int) where
  enc v := ([.agg [.d (.i .i64 v.1), .d (.s v.2.1)], .agg [.d (.i .i64 v.2.2.1), .d (.i .i64 v.2.2.2.1), .d (.i .i64 v.2.2.2.2.1), .d (.i .i64 v.2.2.2.2.2)]], [])
  pat
    | ([.agg [.d (.i .i64 p1), .d (.s p2)], .agg [.d (.i .i64 p3), .d (.i .i64 p4), .d (.i .i64 p5), .d (.i .i64 p6)]], []) => some (p1, p2, p3, p4, p5, p6)
    | _ => none
  ok z v h := by
    split at h
    · cases h
      all_goals rfl
    · cases h
def io89 : Io T (Int × Int × Int × (List UInt8)) where
  enc v := ([.ptr 0 0, .d (.i .i64 v.1), .d (.i .i64 v.2.1)], [.box [.d (.i .i64 v.2.2.1), .d (.s v.2.2.2)]])
  pat
    | ([.ptr 0 0, .d (.i .i64 p1), .d (.i .i64 p2)], [.box [.d (.i .i64 p3), .d (.s p4)]]) => some (p1, p2, p3, p4)
    | _ => none
  ok z v h := by
    split at h
    · cases h
      all_goals rfl
    · cases h
def io90 : Io T (Int × Int × Int) where
  enc v := ([.agg [.d (.i .i64 v.1), .d (.i .i64 v.2.1)], .d (.i .i64 v.2.2)], [])
  pat
    | ([.agg [.d (.i .i64 p1), .d (.i .i64 p2)], .d (.i .i64 p3)], []) => some (p1, p2, p3)
    | _ => none
  ok z v h := by
    split at h
    · cases h
      all_goals rfl
    · cases h
def io91 : Io T (Int × Int × Int × Int) where
  enc v := ([.agg [.d (.i .i64 v.1), .d (.i .i64 v.2.1)], .agg [.d (.i .i64 v.2.2.1), .d (.i .i64 v.2.2.2)]], [])
  pat
    | ([.agg [.d (.i .i64 p1), .d (.i .i64 p2)], .agg [.d (.i .i64 p3), .d (.i .i64 p4)]], []) => some (p1, p2, p3, p4)
    | _ => none
  ok z v h := by
    split at h
    · cases h
      all_goals rfl
    · cases h
def io92 : Io T (Int × Int × Int × Int × Int × Int) where
  enc v := ([.ptr 0 0, .ptr 1 0, .ptr 2 0], [.box [.d (.i .i64 v.1), .d (.i .i64 v.2.1)], .box [.d (.i .i64 v.2.2.1), .d (.i .i64 v.2.2.2.1)], .box [.d (.i .i64 v.2.2.2.2.1), .d (.i .i64 v.2.2.2.2.2)]])
  pat
    | ([.ptr 0 0, .ptr 1 0, .ptr 2 0], [.box [.d (.i .i64 p1), .d (.i .i64 p2)], .box [.d (.i .i64 p3), .d (.i .i64 p4)], .box [.d (.i .i64 p5), .d (.i .i64 p6)]]) => some (p1, p2, p3, p4, p5, p6)
    | _ => none
  ok z v h := by
    split at h
    · cases h
      all_goals rfl
    · cases h
def io93 : Io T (Int × (List S33)) where
  enc v := ([.d (.i .i64 v.1), .d (.l 33 v.2)], [])
  pat
    | ([.d (.i .i64 p1), .d (.l tp2 p2)], []) => (asT 33 tp2 p2).bind fun q2 => some (p1, q2)
    | _ => none
  ok z v h := by
    split at h
    · obtain ⟨q2, hp2, h⟩ := Option.bind_eq_some_iff.1 h
      cases h
      rw [asT_l hp2]
      all_goals rfl
    · cases h
def io94 : Io T (Int × (List S33) × (List S33) × Int × Int × Int × Int × Int × Int) where
  enc v := ([.d (.i .i64 v.1), .d (.l 33 v.2.1), .ptr 0 0, .ptr 1 0, .d (.l 33 v.2.2.1), .d (.i .i64 v.2.2.2.1), .d (.i .i64 v.2.2.2.2.1)], [.box [.d (.i .i64 v.2.2.2.2.2.1), .d (.i .i64 v.2.2.2.2.2.2.1)], .box [.d (.i .i64 v.2.2.2.2.2.2.2.1), .d (.i .i64 v.2.2.2.2.2.2.2.2)]])
  pat
    | ([.d (.i .i64 p1), .d (.l tp2 p2), .ptr 0 0, .ptr 1 0, .d (.l tp3 p3), .d (.i .i64 p4), .d (.i .i64 p5)], [.box [.d (.i .i64 p6), .d (.i .i64 p7)], .box [.d (.i .i64 p8), .d (.i .i64 p9)]]) => (asT 33 tp2 p2).bind fun q2 => (asT 33 tp3 p3).bind fun q3 => some (p1, q2, q3, p4, p5, p6, p7, p8, p9)
    | _ => none
  ok z v h := by
    split at h
    · obtain ⟨q2, hp2, h⟩ := Option.bind_eq_some_iff.1 h
      obtain ⟨q3, hp3, h⟩ := Option.bind_eq_some_iff.1 h
      cases h
      rw [asT_l hp2]
      rw [asT_l hp3]
      all_goals rfl
    · cases h
def io95 : Io T (Int × (List S33) × Int × Int × Int × Int) where
  enc v := ([.d (.i .i64 v.1), .d (.l 33 v.2.1), .ptr 0 0, .ptr 1 0], [.box [.d (.i .i64 v.2.2.1), .d (.i .i64 v.2.2.2.1)], .box [.d (.i .i64 v.2.2.2.2.1), .d (.i .i64 v.2.2.2.2.2)]])
  pat
    | ([.d (.i .i64 p1), .d (.l tp2 p2), .ptr 0 0, .ptr 1 0], [.box [.d (.i .i64 p3), .d (.i .i64 p4)], .box [.d (.i .i64 p5), .d (.i .i64 p6)]]) => (asT 33 tp2 p2).bind fun q2 => some (p1, q2, p3, p4, p5, p6)
    | _ => none
  ok z v h := by
    split at h
    · obtain ⟨q2, hp2, h⟩ := Option.bind_eq_some_iff.1 h
      cases h
      rw [asT_l hp2]
      all_goals rfl
    · cases h
def io96 : Io T (Int × Int × Int × Int) where
  enc v := ([.ptr 0 0, .ptr 1 0], [.box [.d (.i .i64 v.1), .d (.i .i64 v.2.1)], .box [.d (.i .i64 v.2.2.1), .d (.i .i64 v.2.2.2)]])
  pat
    | ([.ptr 0 0, .ptr 1 0], [.box [.d (.i .i64 p1), .d (.i .i64 p2)], .box [.d (.i .i64 p3), .d (.i .i64 p4)]]) => some (p1, p2, p3, p4)
    | _ => none
  ok z v h := by
    split at h
    · cases h
      all_goals rfl
    · cases h
def io97 : Io T (Int × Int × (List UInt8) × (List S29) × Int × Int × Int × Int) where
  enc v := ([.agg [.d (.i .i64 v.1), .d (.i .i64 v.2.1), .d (.s v.2.2.1), .d (.l 29 v.2.2.2.1)], .agg [.d (.i .i64 v.2.2.2.2.1), .d (.i .i64 v.2.2.2.2.2.1), .d (.i .i64 v.2.2.2.2.2.2.1), .d (.i .i64 v.2.2.2.2.2.2.2)]], [])
  pat
    | ([.agg [.d (.i .i64 p1), .d (.i .i64 p2), .d (.s p3), .d (.l tp4 p4)], .agg [.d (.i .i64 p5), .d (.i .i64 p6), .d (.i .i64 p7), .d (.i .i64 p8)]], []) => (asT 29 tp4 p4).bind fun q4 => some (p1, p2, p3, q4, p5, p6, p7, p8)
    | _ => none
  ok z v h := by
    split at h
    · obtain ⟨q4, hp4, h⟩ := Option.bind_eq_some_iff.1 h
      cases h
      rw [asT_l hp4]
      all_goals rfl
    · cases h
def io98 : Io T ((List S29) × Int × Int × Int × Int × (List UInt8) × (List S29) × Int × Int × Int × Int × Int × Int × (List S33)) where
  enc v := ([.ptr 0 0, .ptr 1 0, .ptr 2 0, .sl 3 none, .d (.l 29 v.1), .d (.i .i64 v.2.1), .d (.i .i64 v.2.2.1)], [.box [.d (.i .i64 v.2.2.2.1), .d (.i .i64 v.2.2.2.2.1), .d (.s v.2.2.2.2.2.1), .d (.l 29 v.2.2.2.2.2.2.1)], .box [.d (.i .i64 v.2.2.2.2.2.2.2.1), .d (.i .i64 v.2.2.2.2.2.2.2.2.1), .d (.i .i64 v.2.2.2.2.2.2.2.2.2.1), .d (.i .i64 v.2.2.2.2.2.2.2.2.2.2.1)], .box [.d (.i .i64 v.2.2.2.2.2.2.2.2.2.2.2.1), .d (.i .i64 v.2.2.2.2.2.2.2.2.2.2.2.2.1)], .arr 33 v.2.2.2.2.2.2.2.2.2.2.2.2.2])
  pat
    | ([.ptr 0 0, .ptr 1 0, .ptr 2 0, .sl 3 none, .d (.l tp1 p1), .d (.i .i64 p2), .d (.i .i64 p3)], [.box [.d (.i .i64 p4), .d (.i .i64 p5), .d (.s p6), .d (.l tp7 p7)], .box [.d (.i .i64 p8), .d (.i .i64 p9), .d (.i .i64 p10), .d (.i .i64 p11)], .box [.d (.i .i64 p12), .d (.i .i64 p13)], .arr tp14 p14]) => (asT 29 tp1 p1).bind fun q1 => (asT 29 tp7 p7).bind fun q7 => (asT 33 tp14 p14).bind fun q14 => some (q1, p2, p3, p4, p5, p6, q7, p8, p9, p10, p11, p12, p13, q14)
    | _ => none
  ok z v h := by
    split at h
    · obtain ⟨q1, hp1, h⟩ := Option.bind_eq_some_iff.1 h
      obtain ⟨q7, hp7, h⟩ := Option.bind_eq_some_iff.1 h
      obtain ⟨q14, hp14, h⟩ := Option.bind_eq_some_iff.1 h
      cases h
      rw [asT_l hp1]
      rw [asT_l hp7]
      rw [asT_a hp14]
      all_goals rfl
    · cases h
def io99 : Io T (Int × Int × (List UInt8) × (List S29) × Int × Int × (List S33)) where
  enc v := ([.ptr 0 0, .ptr 1 0, .sl 2 none], [.box [.d (.i .i64 v.1), .d (.i .i64 v.2.1), .d (.s v.2.2.1), .d (.l 29 v.2.2.2.1)], .box [.d (.i .i64 v.2.2.2.2.1), .d (.i .i64 v.2.2.2.2.2.1)], .arr 33 v.2.2.2.2.2.2])
  pat
    | ([.ptr 0 0, .ptr 1 0, .sl 2 none], [.box [.d (.i .i64 p1), .d (.i .i64 p2), .d (.s p3), .d (.l tp4 p4)], .box [.d (.i .i64 p5), .d (.i .i64 p6)], .arr tp7 p7]) => (asT 29 tp4 p4).bind fun q4 => (asT 33 tp7 p7).bind fun q7 => some (p1, p2, p3, q4, p5, p6, q7)
    | _ => none
  ok z v h := by
    split at h
    · obtain ⟨q4, hp4, h⟩ := Option.bind_eq_some_iff.1 h
      obtain ⟨q7, hp7, h⟩ := Option.bind_eq_some_iff.1 h
      cases h
      rw [asT_l hp4]
      rw [asT_a hp7]
      all_goals rfl
    · cases h
def io100 : Io T (Int × Int × (List UInt8) × Int × Int × Int × Int × (List S29)) where
  enc v := ([.agg [.d (.i .i64 v.1), .d (.i .i64 v.2.1), .d (.s v.2.2.1), .sl 0 none], .agg [.d (.i .i64 v.2.2.2.1), .d (.i .i64 v.2.2.2.2.1), .d (.i .i64 v.2.2.2.2.2.1), .d (.i .i64 v.2.2.2.2.2.2.1)]], [.arr 29 v.2.2.2.2.2.2.2])
  pat
    | ([.agg [.d (.i .i64 p1), .d (.i .i64 p2), .d (.s p3), .sl 0 none], .agg [.d (.i .i64 p4), .d (.i .i64 p5), .d (.i .i64 p6), .d (.i .i64 p7)]], [.arr tp8 p8]) => (asT 29 tp8 p8).bind fun q8 => some (p1, p2, p3, p4, p5, p6, p7, q8)
    | _ => none
  ok z v h := by
    split at h
    · obtain ⟨q8, hp8, h⟩ := Option.bind_eq_some_iff.1 h
      cases h
      rw [asT_a hp8]
      all_goals rfl
    · cases h
def io101 : Io T (Int × Int × Int × (List S29)) where
  enc v := ([.agg [.d (.i .i64 v.1), .d (.i .i64 v.2.1)], .d (.i .i64 v.2.2.1)], [.arr 29 v.2.2.2])
  pat
    | ([.agg [.d (.i .i64 p1), .d (.i .i64 p2)], .d (.i .i64 p3)], [.arr tp4 p4]) => (asT 29 tp4 p4).bind fun q4 => some (p1, p2, p3, q4)
    | _ => none
  ok z v h := by
    split at h
    · obtain ⟨q4, hp4, h⟩ := Option.bind_eq_some_iff.1 h
      cases h
      rw [asT_a hp4]
      all_goals rfl
    · cases h
def io102 : Io T (Int × Int × (List S29) × Int × Int × (List UInt8) × Int × Int × Int × Int × Int × Int × (List S33)) where
  enc v := ([.ptr 1 0, .ptr 2 0, .ptr 3 0, .sl 4 none, .sl 0 none, .d (.i .i64 v.1), .d (.i .i64 v.2.1)], [.arr 29 v.2.2.1, .box [.d (.i .i64 v.2.2.2.1), .d (.i .i64 v.2.2.2.2.1), .d (.s v.2.2.2.2.2.1), .sl 0 none], .box [.d (.i .i64 v.2.2.2.2.2.2.1), .d (.i .i64 v.2.2.2.2.2.2.2.1), .d (.i .i64 v.2.2.2.2.2.2.2.2.1), .d (.i .i64 v.2.2.2.2.2.2.2.2.2.1)], .box [.d (.i .i64 v.2.2.2.2.2.2.2.2.2.2.1), .d (.i .i64 v.2.2.2.2.2.2.2.2.2.2.2.1)], .arr 33 v.2.2.2.2.2.2.2.2.2.2.2.2])
  pat
    | ([.ptr 1 0, .ptr 2 0, .ptr 3 0, .sl 4 none, .sl 0 none, .d (.i .i64 p1), .d (.i .i64 p2)], [.arr tp3 p3, .box [.d (.i .i64 p4), .d (.i .i64 p5), .d (.s p6), .sl 0 none], .box [.d (.i .i64 p7), .d (.i .i64 p8), .d (.i .i64 p9), .d (.i .i64 p10)], .box [.d (.i .i64 p11), .d (.i .i64 p12)], .arr tp13 p13]) => (asT 29 tp3 p3).bind fun q3 => (asT 33 tp13 p13).bind fun q13 => some (p1, p2, q3, p4, p5, p6, p7, p8, p9, p10, p11, p12, q13)
    | _ => none
  ok z v h := by
    split at h
    · obtain ⟨q3, hp3, h⟩ := Option.bind_eq_some_iff.1 h
      obtain ⟨q13, hp13, h⟩ := Option.bind_eq_some_iff.1 h
      cases h
      rw [asT_a hp3]
      rw [asT_a hp13]
      all_goals rfl
    · cases h
def io103 : Io T ((List S29) × Int × Int × (List UInt8) × Int × Int × (List S33)) where
  enc v := ([.ptr 1 0, .ptr 2 0, .sl 3 none], [.arr 29 v.1, .box [.d (.i .i64 v.2.1), .d (.i .i64 v.2.2.1), .d (.s v.2.2.2.1), .sl 0 none], .box [.d (.i .i64 v.2.2.2.2.1), .d (.i .i64 v.2.2.2.2.2.1)], .arr 33 v.2.2.2.2.2.2])
  pat
    | ([.ptr 1 0, .ptr 2 0, .sl 3 none], [.arr tp1 p1, .box [.d (.i .i64 p2), .d (.i .i64 p3), .d (.s p4), .sl 0 none], .box [.d (.i .i64 p5), .d (.i .i64 p6)], .arr tp7 p7]) => (asT 29 tp1 p1).bind fun q1 => (asT 33 tp7 p7).bind fun q7 => some (q1, p2, p3, p4, p5, p6, q7)
    | _ => none
  ok z v h := by
    split at h
    · obtain ⟨q1, hp1, h⟩ := Option.bind_eq_some_iff.1 h
      obtain ⟨q7, hp7, h⟩ := Option.bind_eq_some_iff.1 h
      cases h
      rw [asT_a hp1]
      rw [asT_a hp7]
      all_goals rfl
    · cases h
def io104 : Io T (Int × Int × Int × Int × Int × Int × Int × Int) where
  enc v := ([.d (.i .i64 v.1), .d (.i .i64 v.2.1), .d (.i .i64 v.2.2.1), .d (.i .i64 v.2.2.2.1), .agg [.d (.i .i64 v.2.2.2.2.1), .d (.i .i64 v.2.2.2.2.2.1), .d (.i .i64 v.2.2.2.2.2.2.1), .d (.i .i64 v.2.2.2.2.2.2.2)]], [])
  pat
    | ([.d (.i .i64 p1), .d (.i .i64 p2), .d (.i .i64 p3), .d (.i .i64 p4), .agg [.d (.i .i64 p5), .d (.i .i64 p6), .d (.i .i64 p7), .d (.i .i64 p8)]], []) => some (p1, p2, p3, p4, p5, p6, p7, p8)
    | _ => none
  ok z v h := by
    split at h
    · cases h
      all_goals rfl
    · cases h
def io105 : Io T (Int × Int × Int × Int × Int × Int × Int) where
  enc v := ([.d (.i .i64 v.1), .d (.i .i64 v.2.1), .d (.i .i64 v.2.2.1), .agg [.d (.i .i64 v.2.2.2.1), .d (.i .i64 v.2.2.2.2.1), .d (.i .i64 v.2.2.2.2.2.1), .d (.i .i64 v.2.2.2.2.2.2)]], [])
  pat
    | ([.d (.i .i64 p1), .d (.i .i64 p2), .d (.i .i64 p3), .agg [.d (.i .i64 p4), .d (.i .i64 p5), .d (.i .i64 p6), .d (.i .i64 p7)]], []) => some (p1, p2, p3, p4, p5, p6, p7)
    | _ => none
  ok z v h := by
    split at h
    · cases h
      all_goals rfl
    · cases h
def io106 : Io T (Int × Int × Int) where
  enc v := ([.d (.i .i64 v.1), .d .ns, .d (.i .i64 v.2.1), .d (.i .i64 v.2.2)], [])
  pat
    | ([.d (.i .i64 p1), .d .ns, .d (.i .i64 p2), .d (.i .i64 p3)], []) => some (p1, p2, p3)
    | _ => none
  ok z v h := by
    split at h
    · cases h
      all_goals rfl
    · cases h
def io107 : Io T (Int × Int × (List UInt8) × Int × Int × Int × Int) where
  enc v := ([.agg [.d (.i .i64 v.1), .d (.i .i64 v.2.1), .d (.s v.2.2.1), .d .ns], .agg [.d (.i .i64 v.2.2.2.1), .d (.i .i64 v.2.2.2.2.1), .d (.i .i64 v.2.2.2.2.2.1), .d (.i .i64 v.2.2.2.2.2.2)]], [])
  pat
    | ([.agg [.d (.i .i64 p1), .d (.i .i64 p2), .d (.s p3), .d .ns], .agg [.d (.i .i64 p4), .d (.i .i64 p5), .d (.i .i64 p6), .d (.i .i64 p7)]], []) => some (p1, p2, p3, p4, p5, p6, p7)
    | _ => none
  ok z v h := by
    split at h
    · cases h
      all_goals rfl
    · cases h
def io108 : Io T (Int × Int × Int × Int × (List UInt8) × Int × Int × Int × Int × Int × Int) where
  enc v := ([.ptr 0 0, .ptr 1 0, .ptr 2 0, .d .ns, .d .ns, .d (.i .i64 v.1), .d (.i .i64 v.2.1)], [.box [.d (.i .i64 v.2.2.1), .d (.i .i64 v.2.2.2.1), .d (.s v.2.2.2.2.1), .d .ns], .box [.d (.i .i64 v.2.2.2.2.2.1), .d (.i .i64 v.2.2.2.2.2.2.1), .d (.i .i64 v.2.2.2.2.2.2.2.1), .d (.i .i64 v.2.2.2.2.2.2.2.2.1)], .box [.d (.i .i64 v.2.2.2.2.2.2.2.2.2.1), .d (.i .i64 v.2.2.2.2.2.2.2.2.2.2)]])
  pat
    | ([.ptr 0 0, .ptr 1 0, .ptr 2 0, .d .ns, .d .ns, .d (.i .i64 p1), .d (.i .i64 p2)], [.box [.d (.i .i64 p3), .d (.i .i64 p4), .d (.s p5), .d .ns], .box [.d (.i .i64 p6), .d (.i .i64 p7), .d (.i .i64 p8), .d (.i .i64 p9)], .box [.d (.i .i64 p10), .d (.i .i64 p11)]]) => some (p1, p2, p3, p4, p5, p6, p7, p8, p9, p10, p11)
    | _ => none
  ok z v h := by
    split at h
    · cases h
      all_goals rfl
    · cases h
def io109 : Io T (Int × Int × (List UInt8) × Int × Int) where
  enc v := ([.ptr 0 0, .ptr 1 0, .d .ns], [.box [.d (.i .i64 v.1), .d (.i .i64 v.2.1), .d (.s v.2.2.1), .d .ns], .box [.d (.i .i64 v.2.2.2.1), .d (.i .i64 v.2.2.2.2)]])
  pat
    | ([.ptr 0 0, .ptr 1 0, .d .ns], [.box [.d (.i .i64 p1), .d (.i .i64 p2), .d (.s p3), .d .ns], .box [.d (.i .i64 p4), .d (.i .i64 p5)]]) => some (p1, p2, p3, p4, p5)
    | _ => none
  ok z v h := by
    split at h
    · cases h
      all_goals rfl
    · cases h
def pe9 (p : List UInt8) : V T := .pv 9 [.s p]
def pp9 : V T → Option (List UInt8)
  | .pv t [.s x0] => bif t.beq 9 then some x0 else none
  | _ => none
theorem pp9_ok : ∀ (v : V T) (p : List UInt8), pp9 v = some p → v = pe9 p := by
  intro v p h
  unfold pp9 at h
  split at h
  · rename_i t x0
    cases hb : t.beq 9 with
    | false => rw [hb] at h; cases h
    | true => rw [hb] at h; cases h; rw [Nat.eq_of_beq_eq_true hb]; rfl
  · cases h
theorem pe9_pv : ∀ p : List UInt8, ∃ t ds, pe9 p = (.pv t ds : V T) := fun p => ⟨_, _, rfl⟩
def pe47 (p : Int) : V T := .pv 47 [.i .i64 p]
def pp47 : V T → Option (Int)
  | .pv t [.i .i64 x0] => bif t.beq 47 then some x0 else none
  | _ => none
theorem pp47_ok : ∀ (v : V T) (p : Int), pp47 v = some p → v = pe47 p := by
  intro v p h
  unfold pp47 at h
  split at h
  · rename_i t x0
    cases hb : t.beq 47 with
    | false => rw [hb] at h; cases h
    | true => rw [hb] at h; cases h; rw [Nat.eq_of_beq_eq_true hb]; rfl
  · cases h
theorem pe47_pv : ∀ p : Int, ∃ t ds, pe47 p = (.pv t ds : V T) := fun p => ⟨_, _, rfl⟩
def tab0 (k : Nat) : Tab T := noTab
def strings_TrimLeft (k : Nat) (a3 : List UInt8) (a4 : List UInt8) : Option (List UInt8) := trimL a3 a4
def tab1 (k : Nat) : Tab T := addTab 44 (line io0 io1 [] (fun v => strings_TrimLeft k v.1 v.2)) (tab0 k)
def stringslite_HasPrefix (k : Nat) (a1 : List UInt8) (a2 : List UInt8) : Option (Bool) :=
let v3 : Bool := (decide ((a1.length : Int) ≥ (a2.length : Int)))
cond ((decide (0 ≤ (a2.length : Int) ∧ (a2.length : Int) ≤ (a1.length : Int))) || !v3) (
let v4 : List UInt8 := (a1.take (a2.length : Int).toNat)
some (cond v3 (v4 == a2) false)) none
def stringslite_HasPrefix.kr (w0 : World) (k : Nat) : Kr T (Bool) := (kret (retK (cfg w0 (tab1 k)) Tryz.f79.results.toList 0 [] io2.pat))
def stringslite_HasPrefix.cuts (w0 : World) (k : Nat) : Cuts T (Bool) := fun n => none
def stringslite_HasPrefix.body : Code := bodyOf Tryz.f79
theorem stringslite_HasPrefix.e (w0 : World) (k : Nat) : ∀ v, (fun v => stringslite_HasPrefix k v.1 v.2) v = runK (cfg w0 (tab1 k)) Tryz.f79.ntmps (stringslite_HasPrefix.kr w0 k) (annot (stringslite_HasPrefix.cuts w0 k) stringslite_HasPrefix.body) (entry (io0.enc v).1 (io0.enc v).2) (endK (stringslite_HasPrefix.kr w0 k)) := by
  intro v; kernel_rfl
theorem stringslite_HasPrefix.hb : Tryz.f79.body = some stringslite_HasPrefix.body := by kernel_rfl
def tab2 (k : Nat) : Tab T := addTab 79 (line io0 io2 false (fun v => stringslite_HasPrefix k v.1 v.2)) (tab1 k)
def stringslite_CutPrefix (k : Nat) (a1 : List UInt8) (a2 : List UInt8) : Option ((List UInt8) × Bool) :=
(stringslite_HasPrefix k a1 a2).bind fun r3 =>
cond (!r3) (
some (a1, false)) (
cond (decide (0 ≤ (a2.length : Int) ∧ (a2.length : Int) ≤ (a1.length : Int))) (
let v4 : List UInt8 := (a1.drop (a2.length : Int).toNat)
some (v4, true)) none)
def stringslite_CutPrefix.kr (w0 : World) (k : Nat) : Kr T ((List UInt8) × Bool) := (kret (retK (cfg w0 (tab2 k)) Tryz.f70.results.toList 0 [] io3.pat))
def stringslite_CutPrefix.cuts (w0 : World) (k : Nat) : Cuts T ((List UInt8) × Bool) := fun n => none
def stringslite_CutPrefix.body : Code := bodyOf Tryz.f70
theorem stringslite_CutPrefix.e (w0 : World) (k : Nat) : ∀ v, (fun v => stringslite_CutPrefix k v.1 v.2) v = runK (cfg w0 (tab2 k)) Tryz.f70.ntmps (stringslite_CutPrefix.kr w0 k) (annot (stringslite_CutPrefix.cuts w0 k) stringslite_CutPrefix.body) (entry (io0.enc v).1 (io0.enc v).2) (endK (stringslite_CutPrefix.kr w0 k)) := by
  intro v; kernel_rfl
theorem stringslite_CutPrefix.hb : Tryz.f70.body = some stringslite_CutPrefix.body := by kernel_rfl
def tab3 (k : Nat) : Tab T := addTab 70 (line io0 io3 ([], false) (fun v => stringslite_CutPrefix k v.1 v.2)) (tab2 k)
def strings_CutPrefix (k : Nat) (a1 : List UInt8) (a2 : List UInt8) : Option ((List UInt8) × Bool) :=
(stringslite_CutPrefix k a1 a2).bind fun r3 =>
some (r3.1, r3.2)
def strings_CutPrefix.kr (w0 : World) (k : Nat) : Kr T ((List UInt8) × Bool) := (kret (retK (cfg w0 (tab3 k)) Tryz.f45.results.toList 0 [] io3.pat))
def strings_CutPrefix.cuts (w0 : World) (k : Nat) : Cuts T ((List UInt8) × Bool) := fun n => none
def strings_CutPrefix.body : Code := bodyOf Tryz.f45
theorem strings_CutPrefix.e (w0 : World) (k : Nat) : ∀ v, (fun v => strings_CutPrefix k v.1 v.2) v = runK (cfg w0 (tab3 k)) Tryz.f45.ntmps (strings_CutPrefix.kr w0 k) (annot (strings_CutPrefix.cuts w0 k) strings_CutPrefix.body) (entry (io0.enc v).1 (io0.enc v).2) (endK (strings_CutPrefix.kr w0 k)) := by
  intro v; kernel_rfl
theorem strings_CutPrefix.hb : Tryz.f45.body = some strings_CutPrefix.body := by kernel_rfl
def tab4 (k : Nat) : Tab T := addTab 45 (line io0 io3 ([], false) (fun v => strings_CutPrefix k v.1 v.2)) (tab3 k)
def strings_Index (k : Nat) (a5 : List UInt8) (a6 : List UInt8) : Option (Int) := findS a5 a6
def tab5 (k : Nat) : Tab T := addTab 46 (line io0 io4 (0 : Int) (fun v => strings_Index k v.1 v.2)) (tab4 k)
def f__strings_Builder__String (k : Nat) (a14 : List UInt8) : Option ((List UInt8) × (List UInt8)) := some (a14, a14)
def tab6 (k : Nat) : Tab T := addTab 39 (line io5 io6 ([], []) (fun v => f__strings_Builder__String k v)) (tab5 k)
def f__strings_Builder__WriteByte (k : Nat) (a21 : Int) (a22 : List UInt8) : Option (List UInt8) := wByte a22 a21
def tab7 (k : Nat) : Tab T := addTab 72 (line io7 io8 [] (fun v => f__strings_Builder__WriteByte k v.1 v.2)) (tab6 k)
def csstok_text.c7 (k : Nat) : Nat → (List UInt8) → Int → Int → (List UInt8) → (List UInt8) → Int → (List UInt8) → ((List UInt8) → Int → (List UInt8) → (List UInt8) → Int → Option (Int × (List UInt8) × (List UInt8) × Int)) → Option (Int × (List UInt8) × (List UInt8) × Int)
  | 0, _, _, _, _, _, _, _, _ => none
  | n + 1, x2, x3, x4, x5, x6, x7, x8, k0 =>
    let v9 : Bool := (decide (x3 < (x2.length : Int)))
    cond v9 (
    cond (decide (0 ≤ x3 ∧ x3 < (x2.length : Int))) (
    let v10 : Int := ((x2.getD x3.toNat 0).toNat : Int)
    cond (decide (0 ≤ (0 : Int) ∧ (0 : Int) < (x2.length : Int))) (
    let v11 : Int := ((x2.getD (0 : Int).toNat 0).toNat : Int)
    cond (v10 == v11) (
    let v12 : Int := (IntKind.wrap .i64 (x3 + (1 : Int)))
    cond (decide (0 ≤ v12 ∧ v12 ≤ (x2.length : Int))) (
    (f__strings_Builder__String k x8).bind fun r13 =>
    some ((5 : Int), (x2.take v12.toNat), r13.1, (0 : Int))) none) (
    cond (v10 == (10 : Int)) (
    cond (decide (0 ≤ x3 ∧ x3 ≤ (x2.length : Int))) (
    some ((6 : Int), (x2.take x3.toNat), [], (0 : Int))) none) (
    let v14 : Int := (IntKind.wrap .i64 (x3 + (1 : Int)))
    let v15 : Bool := (decide (v14 < (x2.length : Int)))
    let v16 : Bool := (cond (v10 == (92 : Int)) v15 false)
    cond v16 (
    let v17 : Int := (IntKind.wrap .i64 (x3 + (1 : Int)))
    cond (decide (0 ≤ v17 ∧ v17 < (x2.length : Int))) (
    let v18 : Int := ((x2.getD v17.toNat 0).toNat : Int)
    (f__strings_Builder__WriteByte k v18 x8).bind fun r19 =>
    let v20 : Int := (IntKind.wrap .i64 (v17 + (1 : Int)))
    csstok_text.c7 k n x2 v20 x4 x5 x6 x7 r19 k0) none) (
    (f__strings_Builder__WriteByte k v10 x8).bind fun r21 =>
    let v22 : Int := (IntKind.wrap .i64 (x3 + (1 : Int)))
    csstok_text.c7 k n x2 v22 x4 x5 x6 x7 r21 k0)))) none) none) (
    k0 x2 x4 x5 x6 x7)
def csstok_text (k : Nat) (a1 : List UInt8) : Option (Int × (List UInt8) × (List UInt8) × Int) :=
csstok_text.c7 k k a1 (1 : Int) (0 : Int) ([]) ([]) (0 : Int) ([] : List UInt8) (fun (y23 : List UInt8) (y24 : Int) (y25 : List UInt8) (y26 : List UInt8) (y27 : Int) =>
some ((6 : Int), y23, [], (0 : Int)))
def csstok_text.kr (w0 : World) (k : Nat) : Kr T (Int × (List UInt8) × (List UInt8) × Int) := (kret (retK (cfg w0 (tab7 k)) Tryz.f47.results.toList 0 [] io9.pat))
def csstok_text.x7 : Ex → Option (List Nat × List Sp)
  | .exit 0 => some ([0, 2], [])
  | _ => none
def csstok_text.L7 (k : Nat) (n : Nat) (v : (List UInt8) × Int × Int × (List UInt8) × (List UInt8) × Int × (List UInt8)) (K : Ex → St T → Option (Int × (List UInt8) × (List UInt8) × Int)) : Option (Int × (List UInt8) × (List UInt8) × Int) := csstok_text.c7 k n v.1 v.2.1 v.2.2.1 v.2.2.2.1 v.2.2.2.2.1 v.2.2.2.2.2.1 v.2.2.2.2.2.2 (fun y40 y41 y42 y43 y44 => K (.exit 0) (mkSt [0, 2] (io11.enc (y40, y41, y42, y43, y44))))
def csstok_text.cuts (w0 : World) (k : Nat) : Cuts T (Int × (List UInt8) × (List UInt8) × Int) := fun n => bif n.beq 7 then some (entK (cfg w0 (tab7 k)) 0 [0, 2, 3, 4] [] io10.pat (csstok_text.L7 k k)) else none
def csstok_text.body : Code := bodyOf Tryz.f47
def csstok_text.b7 : Code := findD 7 csstok_text.body
theorem csstok_text.s7 (w0 : World) (k : Nat) : ∀ n v K, csstok_text.L7 k (n + 1) v K = runK (cfg w0 (tab7 k)) Tryz.f47.ntmps (csstok_text.kr w0 k) (annot (csstok_text.cuts w0 k) csstok_text.b7) (mkSt [0, 2, 3, 4] (io10.enc v)) (loopK (cfg w0 (tab7 k)) 0 csstok_text.x7 (entK (cfg w0 (tab7 k)) 0 [0, 2, 3, 4] [] io10.pat (csstok_text.L7 k n)) K) := by
  intro n v K; kernel_rfl
theorem csstok_text.e (w0 : World) (k : Nat) : ∀ v, (fun v => csstok_text k v) v = runK (cfg w0 (tab7 k)) Tryz.f47.ntmps (csstok_text.kr w0 k) (annot (csstok_text.cuts w0 k) csstok_text.body) (entry (io1.enc v).1 (io1.enc v).2) (endK (csstok_text.kr w0 k)) := by
  intro v; kernel_rfl
theorem csstok_text.hb : Tryz.f47.body = some csstok_text.body := by kernel_rfl
def tab8 (k : Nat) : Tab T := addTab 47 (line io1 io9 ((0 : Int), [], [], (0 : Int)) (fun v => csstok_text k v)) (tab7 k)
def csstok_starts (k : Nat) (a1 : Int) : Option (Bool) :=
let v2 : Bool := (cond (decide (a1 ≥ (128 : Int))) true (a1 == (95 : Int)))
let v3 : Int := (IntKind.wrap .u8 (((BitVec.ofInt (IntKind.bits .u8) a1 ||| BitVec.ofInt (IntKind.bits .u8) (32 : Int)).toNat : Int)))
let v4 : Int := (IntKind.wrap .u8 (((BitVec.ofInt (IntKind.bits .u8) a1 ||| BitVec.ofInt (IntKind.bits .u8) (32 : Int)).toNat : Int)))
let v5 : Bool := (cond (decide (v3 ≥ (97 : Int))) (decide (v4 ≤ (122 : Int))) false)
some (cond v2 true v5)
def csstok_starts.kr (w0 : World) (k : Nat) : Kr T (Bool) := (kret (retK (cfg w0 (tab8 k)) Tryz.f73.results.toList 0 [] io2.pat))
def csstok_starts.cuts (w0 : World) (k : Nat) : Cuts T (Bool) := fun n => none
def csstok_starts.body : Code := bodyOf Tryz.f73
theorem csstok_starts.e (w0 : World) (k : Nat) : ∀ v, (fun v => csstok_starts k v) v = runK (cfg w0 (tab8 k)) Tryz.f73.ntmps (csstok_starts.kr w0 k) (annot (csstok_starts.cuts w0 k) csstok_starts.body) (entry (io12.enc v).1 (io12.enc v).2) (endK (csstok_starts.kr w0 k)) := by
  intro v; kernel_rfl
theorem csstok_starts.hb : Tryz.f73.body = some csstok_starts.body := by kernel_rfl
def tab9 (k : Nat) : Tab T := addTab 73 (line io12 io2 false (fun v => csstok_starts k v)) (tab8 k)
def csstok_digit (k : Nat) (a1 : Int) : Option (Bool) :=
let v2 : Bool := (cond (decide (a1 ≥ (48 : Int))) (decide (a1 ≤ (57 : Int))) false)
some v2
def csstok_digit.kr (w0 : World) (k : Nat) : Kr T (Bool) := (kret (retK (cfg w0 (tab9 k)) Tryz.f74.results.toList 0 [] io2.pat))
def csstok_digit.cuts (w0 : World) (k : Nat) : Cuts T (Bool) := fun n => none
def csstok_digit.body : Code := bodyOf Tryz.f74
theorem csstok_digit.e (w0 : World) (k : Nat) : ∀ v, (fun v => csstok_digit k v) v = runK (cfg w0 (tab9 k)) Tryz.f74.ntmps (csstok_digit.kr w0 k) (annot (csstok_digit.cuts w0 k) csstok_digit.body) (entry (io12.enc v).1 (io12.enc v).2) (endK (csstok_digit.kr w0 k)) := by
  intro v; kernel_rfl
theorem csstok_digit.hb : Tryz.f74.body = some csstok_digit.body := by kernel_rfl
def tab10 (k : Nat) : Tab T := addTab 74 (line io12 io2 false (fun v => csstok_digit k v)) (tab9 k)
def csstok_sign (k : Nat) (a1 : Int) : Option (Bool) :=
(csstok_starts k a1).bind fun r2 =>
(cond (!r2) (csstok_digit k a1) (some false)).bind fun r3 =>
let v4 : Bool := (cond (cond r2 true r3) true (a1 == (45 : Int)))
some v4
def csstok_sign.kr (w0 : World) (k : Nat) : Kr T (Bool) := (kret (retK (cfg w0 (tab10 k)) Tryz.f48.results.toList 0 [] io2.pat))
def csstok_sign.cuts (w0 : World) (k : Nat) : Cuts T (Bool) := fun n => none
def csstok_sign.body : Code := bodyOf Tryz.f48
theorem csstok_sign.e (w0 : World) (k : Nat) : ∀ v, (fun v => csstok_sign k v) v = runK (cfg w0 (tab10 k)) Tryz.f48.ntmps (csstok_sign.kr w0 k) (annot (csstok_sign.cuts w0 k) csstok_sign.body) (entry (io12.enc v).1 (io12.enc v).2) (endK (csstok_sign.kr w0 k)) := by
  intro v; kernel_rfl
theorem csstok_sign.hb : Tryz.f48.body = some csstok_sign.body := by kernel_rfl
def tab11 (k : Nat) : Tab T := addTab 48 (line io12 io2 false (fun v => csstok_sign k v)) (tab10 k)
def csstok_escape (k : Nat) (a1 : List UInt8) : Option (Bool) :=
let v2 : Bool := (decide ((a1.length : Int) > (1 : Int)))
cond ((decide (0 ≤ (0 : Int) ∧ (0 : Int) < (a1.length : Int))) || !v2) (
let v3 : Int := ((a1.getD (0 : Int).toNat 0).toNat : Int)
let v4 : Bool := (cond v2 (v3 == (92 : Int)) false)
cond ((decide (0 ≤ (1 : Int) ∧ (1 : Int) < (a1.length : Int))) || !v4) (
let v5 : Int := ((a1.getD (1 : Int).toNat 0).toNat : Int)
let v6 : Bool := (cond v4 (v5 != (10 : Int)) false)
some v6) none) none
def csstok_escape.kr (w0 : World) (k : Nat) : Kr T (Bool) := (kret (retK (cfg w0 (tab11 k)) Tryz.f49.results.toList 0 [] io2.pat))
def csstok_escape.cuts (w0 : World) (k : Nat) : Cuts T (Bool) := fun n => none
def csstok_escape.body : Code := bodyOf Tryz.f49
theorem csstok_escape.e (w0 : World) (k : Nat) : ∀ v, (fun v => csstok_escape k v) v = runK (cfg w0 (tab11 k)) Tryz.f49.ntmps (csstok_escape.kr w0 k) (annot (csstok_escape.cuts w0 k) csstok_escape.body) (entry (io1.enc v).1 (io1.enc v).2) (endK (csstok_escape.kr w0 k)) := by
  intro v; kernel_rfl
theorem csstok_escape.hb : Tryz.f49.body = some csstok_escape.body := by kernel_rfl
def tab12 (k : Nat) : Tab T := addTab 49 (line io1 io2 false (fun v => csstok_escape k v)) (tab11 k)
def csstok_name.c7 (k : Nat) : Nat → (List UInt8) → Int → (List UInt8) → (Int → (List UInt8) → Option ((List UInt8) × Int)) → Option ((List UInt8) × Int)
  | 0, _, _, _, _ => none
  | n + 1, x2, x3, x4, k0 =>
    let v5 : Bool := (decide (x3 < (x2.length : Int)))
    cond v5 (
    cond (decide (0 ≤ x3 ∧ x3 ≤ (x2.length : Int))) (
    (csstok_escape k (x2.drop x3.toNat)).bind fun r6 =>
    cond r6 (
    let v7 : Int := (IntKind.wrap .i64 (x3 + (1 : Int)))
    cond (decide (0 ≤ v7 ∧ v7 < (x2.length : Int))) (
    let v8 : Int := ((x2.getD v7.toNat 0).toNat : Int)
    (f__strings_Builder__WriteByte k v8 x4).bind fun r9 =>
    let v10 : Int := (IntKind.wrap .i64 (x3 + (2 : Int)))
    csstok_name.c7 k n x2 v10 r9 k0) none) (
    cond (decide (0 ≤ x3 ∧ x3 < (x2.length : Int))) (
    let v11 : Int := ((x2.getD x3.toNat 0).toNat : Int)
    (csstok_sign k v11).bind fun r12 =>
    cond r12 (
    cond (decide (0 ≤ x3 ∧ x3 < (x2.length : Int))) (
    let v13 : Int := ((x2.getD x3.toNat 0).toNat : Int)
    (f__strings_Builder__WriteByte k v13 x4).bind fun r14 =>
    let v15 : Int := (IntKind.wrap .i64 (x3 + (1 : Int)))
    csstok_name.c7 k n x2 v15 r14 k0) none) (
    (f__strings_Builder__String k x4).bind fun r16 =>
    some (r16.1, x3))) none)) none) (
    k0 x3 x4)
def csstok_name (k : Nat) (a1 : List UInt8) : Option ((List UInt8) × Int) :=
csstok_name.c7 k k a1 (0 : Int) ([] : List UInt8) (fun (y17 : Int) (y18 : List UInt8) =>
(f__strings_Builder__String k y18).bind fun r19 =>
some (r19.1, y17))
def csstok_name.kr (w0 : World) (k : Nat) : Kr T ((List UInt8) × Int) := (kret (retK (cfg w0 (tab12 k)) Tryz.f75.results.toList 0 [] io13.pat))
def csstok_name.x7 : Ex → Option (List Nat × List Sp)
  | .exit 0 => some ([4, 5], [])
  | _ => none
def csstok_name.L7 (k : Nat) (n : Nat) (v : (List UInt8) × Int × (List UInt8)) (K : Ex → St T → Option ((List UInt8) × Int)) : Option ((List UInt8) × Int) := csstok_name.c7 k n v.1 v.2.1 v.2.2 (fun y45 y46 => K (.exit 0) (mkSt [4, 5] (io15.enc (y45, y46))))
def csstok_name.cuts (w0 : World) (k : Nat) : Cuts T ((List UInt8) × Int) := fun n => bif n.beq 7 then some (entK (cfg w0 (tab12 k)) 0 [0, 4, 5] [] io14.pat (csstok_name.L7 k k)) else none
def csstok_name.body : Code := bodyOf Tryz.f75
def csstok_name.b7 : Code := findD 7 csstok_name.body
theorem csstok_name.s7 (w0 : World) (k : Nat) : ∀ n v K, csstok_name.L7 k (n + 1) v K = runK (cfg w0 (tab12 k)) Tryz.f75.ntmps (csstok_name.kr w0 k) (annot (csstok_name.cuts w0 k) csstok_name.b7) (mkSt [0, 4, 5] (io14.enc v)) (loopK (cfg w0 (tab12 k)) 0 csstok_name.x7 (entK (cfg w0 (tab12 k)) 0 [0, 4, 5] [] io14.pat (csstok_name.L7 k n)) K) := by
  intro n v K; kernel_rfl
theorem csstok_name.e (w0 : World) (k : Nat) : ∀ v, (fun v => csstok_name k v) v = runK (cfg w0 (tab12 k)) Tryz.f75.ntmps (csstok_name.kr w0 k) (annot (csstok_name.cuts w0 k) csstok_name.body) (entry (io1.enc v).1 (io1.enc v).2) (endK (csstok_name.kr w0 k)) := by
  intro v; kernel_rfl
theorem csstok_name.hb : Tryz.f75.body = some csstok_name.body := by kernel_rfl
def tab13 (k : Nat) : Tab T := addTab 75 (line io1 io13 ([], (0 : Int)) (fun v => csstok_name k v)) (tab12 k)
def csstok_named (k : Nat) (a1 : Int) (a2 : List UInt8) (a3 : Int) : Option (Int × (List UInt8) × (List UInt8) × Int) :=
cond (decide (0 ≤ a3 ∧ a3 ≤ (a2.length : Int))) (
(csstok_name k (a2.drop a3.toNat)).bind fun r4 =>
let v5 : Int := (IntKind.wrap .i64 (a3 + r4.2))
cond (decide (0 ≤ v5 ∧ v5 ≤ (a2.length : Int))) (
some (a1, (a2.take v5.toNat), r4.1, (0 : Int))) none) none
def csstok_named.kr (w0 : World) (k : Nat) : Kr T (Int × (List UInt8) × (List UInt8) × Int) := (kret (retK (cfg w0 (tab13 k)) Tryz.f50.results.toList 0 [] io9.pat))
def csstok_named.cuts (w0 : World) (k : Nat) : Cuts T (Int × (List UInt8) × (List UInt8) × Int) := fun n => none
def csstok_named.body : Code := bodyOf Tryz.f50
theorem csstok_named.e (w0 : World) (k : Nat) : ∀ v, (fun v => csstok_named k v.1 v.2.1 v.2.2) v = runK (cfg w0 (tab13 k)) Tryz.f50.ntmps (csstok_named.kr w0 k) (annot (csstok_named.cuts w0 k) csstok_named.body) (entry (io16.enc v).1 (io16.enc v).2) (endK (csstok_named.kr w0 k)) := by
  intro v; kernel_rfl
theorem csstok_named.hb : Tryz.f50.body = some csstok_named.body := by kernel_rfl
def tab14 (k : Nat) : Tab T := addTab 50 (line io16 io9 ((0 : Int), [], [], (0 : Int)) (fun v => csstok_named k v.1 v.2.1 v.2.2)) (tab13 k)
def csstok_begins (k : Nat) (a1 : List UInt8) : Option (Bool) :=
cond (a1 == ([] : List UInt8)) (
some false) (
cond (decide (0 ≤ (0 : Int) ∧ (0 : Int) < (a1.length : Int))) (
let v2 : Int := ((a1.getD (0 : Int).toNat 0).toNat : Int)
let v3 : Bool := (decide ((a1.length : Int) > (1 : Int)))
let v4 : Bool := (cond (v2 == (45 : Int)) v3 false)
cond v4 (
cond (decide (0 ≤ (1 : Int) ∧ (1 : Int) < (a1.length : Int))) (
let v5 : Int := ((a1.getD (1 : Int).toNat 0).toNat : Int)
cond ((decide (0 ≤ (1 : Int) ∧ (1 : Int) < (a1.length : Int))) || !(!(v5 == (45 : Int)))) (
let v6 : Int := ((a1.getD (1 : Int).toNat 0).toNat : Int)
(cond (!(v5 == (45 : Int))) (csstok_starts k v6) (some false)).bind fun r7 =>
let v8 : Bool := (cond (v5 == (45 : Int)) true r7)
cond ((decide (0 ≤ (1 : Int) ∧ (1 : Int) ≤ (a1.length : Int))) || !(!v8)) (
(cond (!v8) (csstok_escape k (a1.drop (1 : Int).toNat)) (some false)).bind fun r9 =>
some (cond v8 true r9)) none) none) none) (
cond (decide (0 ≤ (0 : Int) ∧ (0 : Int) < (a1.length : Int))) (
let v10 : Int := ((a1.getD (0 : Int).toNat 0).toNat : Int)
(csstok_starts k v10).bind fun r11 =>
(cond (!r11) (csstok_escape k a1) (some false)).bind fun r12 =>
some (cond r11 true r12)) none)) none)
def csstok_begins.kr (w0 : World) (k : Nat) : Kr T (Bool) := (kret (retK (cfg w0 (tab14 k)) Tryz.f51.results.toList 0 [] io2.pat))
def csstok_begins.cuts (w0 : World) (k : Nat) : Cuts T (Bool) := fun n => none
def csstok_begins.body : Code := bodyOf Tryz.f51
theorem csstok_begins.e (w0 : World) (k : Nat) : ∀ v, (fun v => csstok_begins k v) v = runK (cfg w0 (tab14 k)) Tryz.f51.ntmps (csstok_begins.kr w0 k) (annot (csstok_begins.cuts w0 k) csstok_begins.body) (entry (io1.enc v).1 (io1.enc v).2) (endK (csstok_begins.kr w0 k)) := by
  intro v; kernel_rfl
theorem csstok_begins.hb : Tryz.f51.body = some csstok_begins.body := by kernel_rfl
def tab15 (k : Nat) : Tab T := addTab 51 (line io1 io2 false (fun v => csstok_begins k v)) (tab14 k)
def csstok_digits (k : Nat) (a1 : List UInt8) : Option (Int) :=
(strings_TrimLeft k a1 ([48, 49, 50, 51, 52, 53, 54, 55, 56, 57] : List UInt8)).bind fun r2 =>
let v3 : Int := (IntKind.wrap .i64 ((a1.length : Int) - (r2.length : Int)))
some v3
def csstok_digits.kr (w0 : World) (k : Nat) : Kr T (Int) := (kret (retK (cfg w0 (tab15 k)) Tryz.f76.results.toList 0 [] io4.pat))
def csstok_digits.cuts (w0 : World) (k : Nat) : Cuts T (Int) := fun n => none
def csstok_digits.body : Code := bodyOf Tryz.f76
theorem csstok_digits.e (w0 : World) (k : Nat) : ∀ v, (fun v => csstok_digits k v) v = runK (cfg w0 (tab15 k)) Tryz.f76.ntmps (csstok_digits.kr w0 k) (annot (csstok_digits.cuts w0 k) csstok_digits.body) (entry (io1.enc v).1 (io1.enc v).2) (endK (csstok_digits.kr w0 k)) := by
  intro v; kernel_rfl
theorem csstok_digits.hb : Tryz.f76.body = some csstok_digits.body := by kernel_rfl
def tab16 (k : Nat) : Tab T := addTab 76 (line io1 io4 (0 : Int) (fun v => csstok_digits k v)) (tab15 k)
def strings_HasPrefix (k : Nat) (a1 : List UInt8) (a2 : List UInt8) : Option (Bool) :=
(stringslite_HasPrefix k a1 a2).bind fun r3 =>
some r3
def strings_HasPrefix.kr (w0 : World) (k : Nat) : Kr T (Bool) := (kret (retK (cfg w0 (tab16 k)) Tryz.f54.results.toList 0 [] io2.pat))
def strings_HasPrefix.cuts (w0 : World) (k : Nat) : Cuts T (Bool) := fun n => none
def strings_HasPrefix.body : Code := bodyOf Tryz.f54
theorem strings_HasPrefix.e (w0 : World) (k : Nat) : ∀ v, (fun v => strings_HasPrefix k v.1 v.2) v = runK (cfg w0 (tab16 k)) Tryz.f54.ntmps (strings_HasPrefix.kr w0 k) (annot (strings_HasPrefix.cuts w0 k) strings_HasPrefix.body) (entry (io0.enc v).1 (io0.enc v).2) (endK (strings_HasPrefix.kr w0 k)) := by
  intro v; kernel_rfl
theorem strings_HasPrefix.hb : Tryz.f54.body = some strings_HasPrefix.body := by kernel_rfl
def tab17 (k : Nat) : Tab T := addTab 54 (line io0 io2 false (fun v => strings_HasPrefix k v.1 v.2)) (tab16 k)
def csstok_Number_1 (k : Nat) (a1 : Int) (a2 : Int) : Option (Int) :=
let v3 : Int := (IntKind.wrap .i64 ((10 : Int) * a2))
let v4 : Int := (IntKind.wrap .u8 (a1 - (48 : Int)))
let v5 : Int := (IntKind.wrap .i64 (v3 + (IntKind.wrap .i64 v4)))
let v6 : Int := (if (1000000000 : Int) < v5 then (1000000000 : Int) else v5)
some v6
def csstok_Number_1.kr (w0 : World) (k : Nat) : Kr T (Int) := (kret (retK (cfg w0 (tab17 k)) Tryz.f77.results.toList 1 [] io18.pat))
def csstok_Number_1.cuts (w0 : World) (k : Nat) : Cuts T (Int) := fun n => none
def csstok_Number_1.body : Code := bodyOf Tryz.f77
theorem csstok_Number_1.e (w0 : World) (k : Nat) : ∀ v, (fun v => csstok_Number_1 k v.1 v.2) v = runK (cfg w0 (tab17 k)) Tryz.f77.ntmps (csstok_Number_1.kr w0 k) (annot (csstok_Number_1.cuts w0 k) csstok_Number_1.body) (entry (io17.enc v).1 (io17.enc v).2) (endK (csstok_Number_1.kr w0 k)) := by
  intro v; kernel_rfl
theorem csstok_Number_1.hb : Tryz.f77.body = some csstok_Number_1.body := by kernel_rfl
def tab18 (k : Nat) : Tab T := addTab 77 (line io17 io18 (0 : Int) (fun v => csstok_Number_1 k v.1 v.2)) (tab17 k)
def csstok_Number.c29 (k : Nat) : Nat → (List UInt8) → Int → Int → Int → Int → Int → Int → (List Int) → ((List UInt8) → Int → Int → Int → Int → Option (Int × Int)) → Option (Int × Int)
  | 0, _, _, _, _, _, _, _, _, _ => none
  | n + 1, x19, x20, x21, x22, x23, x24, x25, x26, k0 =>
    cond (decide (x24 < x23)) (
    cond (decide (0 ≤ x24 ∧ x24 < (x26.length : Int))) (
    (csstok_Number_1 k (x26.getD x24.toNat (0 : Int)) x25).bind fun r27 =>
    let v28 : Int := (IntKind.wrap .i64 (x24 + (1 : Int)))
    csstok_Number.c29 k n x19 x20 x21 x22 x23 v28 r27 x26 k0) none) (
    k0 x19 x20 x21 x22 x25)
def csstok_Number.c49 (k : Nat) : Nat → (List UInt8) → Int → (List UInt8) → Int → Int → ((List UInt8) → Int → Int → Option (Int × Int)) → Option (Int × Int)
  | 0, _, _, _, _, _, _ => none
  | n + 1, x45, x46, x47, x48, x49, k2 =>
    cond (decide (x48 < (3 : Int))) (
    let v50 : Bool := (decide (x48 < (x47.length : Int)))
    cond v50 (
    cond (decide (0 ≤ x48 ∧ x48 < (x47.length : Int))) (
    let v51 : Int := ((x47.getD x48.toNat 0).toNat : Int)
    (csstok_Number_1 k v51 x49).bind fun r52 =>
    let v53 : Int := (IntKind.wrap .i64 (x48 + (1 : Int)))
    csstok_Number.c49 k n x45 x46 x47 v53 r52 k2) none) (
    (csstok_Number_1 k (48 : Int) x49).bind fun r54 =>
    let v55 : Int := (IntKind.wrap .i64 (x48 + (1 : Int)))
    csstok_Number.c49 k n x45 x46 x47 v55 r54 k2)) (
    k2 x45 x46 x49)
def csstok_Number.c64 (k : Nat) (x60 : Int) (x61 : Int)  : Option (Int × Int) :=
some (x61, x60)
def csstok_Number.c46 (k : Nat) (x41 : List UInt8) (x42 : Int) (x43 : List UInt8) (x44 : Int)  : Option (Int × Int) :=
csstok_Number.c49 k k x41 x42 x43 (0 : Int) x44 (fun (y56 : List UInt8) (y57 : Int) (y58 : Int) =>
cond (decide (0 ≤ (0 : Int) ∧ (0 : Int) < (y56.length : Int))) (
let v59 : Int := ((y56.getD (0 : Int).toNat 0).toNat : Int)
cond (v59 == (45 : Int)) (
csstok_Number.c64 k y57 (IntKind.wrap .i64 (0 - y58))) (
csstok_Number.c64 k y57 y58)) none)
def csstok_Number.c18 (k : Nat) (x12 : List UInt8) (x13 : Int) (x14 : Int) (x15 : Int)  : Option (Int × Int) :=
let v16 : Int := (IntKind.wrap .i64 (x14 + x15))
cond (v16 == (0 : Int)) (
some ((0 : Int), (0 : Int))) (
let v17 : Int := (IntKind.wrap .i64 (x13 + x14))
cond (decide (0 ≤ x13 ∧ x13 ≤ v17 ∧ v17 ≤ (x12.length : Int))) (
let v18 : List UInt8 := ((x12.take v17.toNat).drop x13.toNat)
csstok_Number.c29 k k x12 x13 x14 x15 ((bytesI v18).length : Int) (0 : Int) (0 : Int) (bytesI v18) (fun (y29 : List UInt8) (y30 : Int) (y31 : Int) (y32 : Int) (y33 : Int) =>
let v34 : Int := (IntKind.wrap .i64 (y30 + y31))
cond (decide (y32 > (0 : Int))) (
let v35 : Int := (IntKind.wrap .i64 (v34 + (1 : Int)))
let v36 : Int := (IntKind.wrap .i64 (v34 + (1 : Int)))
let v37 : Int := (IntKind.wrap .i64 (v36 + y32))
cond (decide (0 ≤ v35 ∧ v35 ≤ v37 ∧ v37 ≤ (y29.length : Int))) (
let v38 : List UInt8 := ((y29.take v37.toNat).drop v35.toNat)
let v39 : Int := (IntKind.wrap .i64 ((1 : Int) + y32))
let v40 : Int := (IntKind.wrap .i64 (v34 + v39))
csstok_Number.c46 k y29 v40 v38 y33) none) (
csstok_Number.c46 k y29 v34 ([] : List UInt8) y33))) none)
def csstok_Number.c8 (k : Nat) (x6 : List UInt8) (x7 : Int)  : Option (Int × Int) :=
cond (decide (0 ≤ x7 ∧ x7 ≤ (x6.length : Int))) (
(csstok_digits k (x6.drop x7.toNat)).bind fun r8 =>
cond (decide (0 ≤ (IntKind.wrap .i64 (x7 + r8)) ∧ (IntKind.wrap .i64 (x7 + r8)) ≤ (x6.length : Int))) (
let v9 : List UInt8 := (x6.drop (IntKind.wrap .i64 (x7 + r8)).toNat)
(strings_HasPrefix k v9 ([46] : List UInt8)).bind fun r10 =>
cond r10 (
cond (decide (0 ≤ (1 : Int) ∧ (1 : Int) ≤ (v9.length : Int))) (
(csstok_digits k (v9.drop (1 : Int).toNat)).bind fun r11 =>
csstok_Number.c18 k x6 x7 r8 r11) none) (
csstok_Number.c18 k x6 x7 r8 (0 : Int))) none) none
def csstok_Number (k : Nat) (a1 : List UInt8) : Option (Int × Int) :=
cond ((decide (0 ≤ (0 : Int) ∧ (0 : Int) < (a1.length : Int))) || !(!(a1 == ([] : List UInt8)))) (
let v2 : Int := ((a1.getD (0 : Int).toNat 0).toNat : Int)
cond ((decide (0 ≤ (0 : Int) ∧ (0 : Int) < (a1.length : Int))) || !((!(a1 == ([] : List UInt8))) && (!(v2 == (43 : Int))))) (
let v3 : Int := ((a1.getD (0 : Int).toNat 0).toNat : Int)
let v4 : Bool := (cond (v2 == (43 : Int)) true (v3 == (45 : Int)))
let v5 : Bool := (cond (!(a1 == ([] : List UInt8))) v4 false)
cond v5 (
csstok_Number.c8 k a1 (1 : Int)) (
csstok_Number.c8 k a1 (0 : Int))) none) none
def csstok_Number.kr (w0 : World) (k : Nat) : Kr T (Int × Int) := (kret (retK (cfg w0 (tab18 k)) Tryz.f52.results.toList 0 [] io19.pat))
def csstok_Number.x29 : Ex → Option (List Nat × List Sp)
  | .exit 0 => some ([0, 4, 5, 6, 8, 9], [])
  | _ => none
def csstok_Number.L29 (k : Nat) (n : Nat) (v : (List UInt8) × Int × Int × Int × Int × Int × Int × (List Int)) (K : Ex → St T → Option (Int × Int)) : Option (Int × Int) := csstok_Number.c29 k n v.1 v.2.1 v.2.2.1 v.2.2.2.1 v.2.2.2.2.1 v.2.2.2.2.2.1 v.2.2.2.2.2.2.1 v.2.2.2.2.2.2.2 (fun y47 y48 y49 y50 y51 => K (.exit 0) (mkSt [0, 4, 5, 6, 8, 9] (io21.enc (y47, y48, y49, y50, y51))))
def csstok_Number.x49 : Ex → Option (List Nat × List Sp)
  | .exit 2 => some ([0, 8, 12], [])
  | _ => none
def csstok_Number.L49 (k : Nat) (n : Nat) (v : (List UInt8) × Int × (List UInt8) × Int × Int) (K : Ex → St T → Option (Int × Int)) : Option (Int × Int) := csstok_Number.c49 k n v.1 v.2.1 v.2.2.1 v.2.2.2.1 v.2.2.2.2 (fun y52 y53 y54 => K (.exit 2) (mkSt [0, 8, 12] (io23.enc (y52, y53, y54))))
def csstok_Number.x64 : Ex → Option (List Nat × List Sp)
  | _ => none
def csstok_Number.L64 (k : Nat) (v : Int × Int) (K : Ex → St T → Option (Int × Int)) : Option (Int × Int) := csstok_Number.c64 k v.1 v.2
def csstok_Number.x46 : Ex → Option (List Nat × List Sp)
  | _ => none
def csstok_Number.L46 (k : Nat) (v : (List UInt8) × Int × (List UInt8) × Int) (K : Ex → St T → Option (Int × Int)) : Option (Int × Int) := csstok_Number.c46 k v.1 v.2.1 v.2.2.1 v.2.2.2
def csstok_Number.x18 : Ex → Option (List Nat × List Sp)
  | _ => none
def csstok_Number.L18 (k : Nat) (v : (List UInt8) × Int × Int × Int) (K : Ex → St T → Option (Int × Int)) : Option (Int × Int) := csstok_Number.c18 k v.1 v.2.1 v.2.2.1 v.2.2.2
def csstok_Number.x8 : Ex → Option (List Nat × List Sp)
  | _ => none
def csstok_Number.L8 (k : Nat) (v : (List UInt8) × Int) (K : Ex → St T → Option (Int × Int)) : Option (Int × Int) := csstok_Number.c8 k v.1 v.2
def csstok_Number.cuts (w0 : World) (k : Nat) : Cuts T (Int × Int) := fun n => bif n.beq 29 then some (entK (cfg w0 (tab18 k)) 0 [0, 4, 5, 6, 8, 9, 52, 53, 54] [] io20.pat (csstok_Number.L29 k k)) else bif n.beq 49 then some (entK (cfg w0 (tab18 k)) 0 [0, 8, 9, 12, 13, 79] [] io22.pat (csstok_Number.L49 k k)) else bif n.beq 64 then some (entK (cfg w0 (tab18 k)) 0 [8, 12] [] io24.pat (csstok_Number.L64 k)) else bif n.beq 46 then some (entK (cfg w0 (tab18 k)) 0 [0, 8, 9, 12, 13] [] io25.pat (csstok_Number.L46 k)) else bif n.beq 18 then some (entK (cfg w0 (tab18 k)) 0 [0, 4, 5, 6] [] io26.pat (csstok_Number.L18 k)) else bif n.beq 8 then some (entK (cfg w0 (tab18 k)) 0 [0, 4] [] io13.pat (csstok_Number.L8 k)) else none
def csstok_Number.body : Code := bodyOf Tryz.f52
def csstok_Number.b29 : Code := findD 29 csstok_Number.body
theorem csstok_Number.s29 (w0 : World) (k : Nat) : ∀ n v K, csstok_Number.L29 k (n + 1) v K = runK (cfg w0 (tab18 k)) Tryz.f52.ntmps (csstok_Number.kr w0 k) (annot (csstok_Number.cuts w0 k) csstok_Number.b29) (mkSt [0, 4, 5, 6, 8, 9, 52, 53, 54] (io20.enc v)) (loopK (cfg w0 (tab18 k)) 0 csstok_Number.x29 (entK (cfg w0 (tab18 k)) 0 [0, 4, 5, 6, 8, 9, 52, 53, 54] [] io20.pat (csstok_Number.L29 k n)) K) := by
  intro n v K; kernel_rfl
def csstok_Number.b49 : Code := findD 49 csstok_Number.body
theorem csstok_Number.s49 (w0 : World) (k : Nat) : ∀ n v K, csstok_Number.L49 k (n + 1) v K = runK (cfg w0 (tab18 k)) Tryz.f52.ntmps (csstok_Number.kr w0 k) (annot (csstok_Number.cuts w0 k) csstok_Number.b49) (mkSt [0, 8, 9, 12, 13, 79] (io22.enc v)) (loopK (cfg w0 (tab18 k)) 0 csstok_Number.x49 (entK (cfg w0 (tab18 k)) 0 [0, 8, 9, 12, 13, 79] [] io22.pat (csstok_Number.L49 k n)) K) := by
  intro n v K; kernel_rfl
def csstok_Number.b64 : Code := findD 64 csstok_Number.body
theorem csstok_Number.s64 (w0 : World) (k : Nat) : ∀ v K, csstok_Number.L64 k v K = runK (cfg w0 (tab18 k)) Tryz.f52.ntmps (csstok_Number.kr w0 k) (annot (csstok_Number.cuts w0 k) csstok_Number.b64) (mkSt [8, 12] (io24.enc v)) (outK (cfg w0 (tab18 k)) 0 csstok_Number.x64 K) := by
  intro v K; kernel_rfl
def csstok_Number.b46 : Code := findD 46 csstok_Number.body
theorem csstok_Number.s46 (w0 : World) (k : Nat) : ∀ v K, csstok_Number.L46 k v K = runK (cfg w0 (tab18 k)) Tryz.f52.ntmps (csstok_Number.kr w0 k) (annot (csstok_Number.cuts w0 k) csstok_Number.b46) (mkSt [0, 8, 9, 12, 13] (io25.enc v)) (outK (cfg w0 (tab18 k)) 0 csstok_Number.x46 K) := by
  intro v K; kernel_rfl
def csstok_Number.b18 : Code := findD 18 csstok_Number.body
theorem csstok_Number.s18 (w0 : World) (k : Nat) : ∀ v K, csstok_Number.L18 k v K = runK (cfg w0 (tab18 k)) Tryz.f52.ntmps (csstok_Number.kr w0 k) (annot (csstok_Number.cuts w0 k) csstok_Number.b18) (mkSt [0, 4, 5, 6] (io26.enc v)) (outK (cfg w0 (tab18 k)) 0 csstok_Number.x18 K) := by
  intro v K; kernel_rfl
def csstok_Number.b8 : Code := findD 8 csstok_Number.body
theorem csstok_Number.s8 (w0 : World) (k : Nat) : ∀ v K, csstok_Number.L8 k v K = runK (cfg w0 (tab18 k)) Tryz.f52.ntmps (csstok_Number.kr w0 k) (annot (csstok_Number.cuts w0 k) csstok_Number.b8) (mkSt [0, 4] (io13.enc v)) (outK (cfg w0 (tab18 k)) 0 csstok_Number.x8 K) := by
  intro v K; kernel_rfl
theorem csstok_Number.e (w0 : World) (k : Nat) : ∀ v, (fun v => csstok_Number k v) v = runK (cfg w0 (tab18 k)) Tryz.f52.ntmps (csstok_Number.kr w0 k) (annot (csstok_Number.cuts w0 k) csstok_Number.body) (entry (io1.enc v).1 (io1.enc v).2) (endK (csstok_Number.kr w0 k)) := by
  intro v; kernel_rfl
theorem csstok_Number.hb : Tryz.f52.body = some csstok_Number.body := by kernel_rfl
def tab19 (k : Nat) : Tab T := addTab 52 (line io1 io19 ((0 : Int), (0 : Int)) (fun v => csstok_Number k v)) (tab18 k)
def csstok_lower.c7 (k : Nat) : Nat → Int → Int → (List Int) → ((List Int) → Option (List UInt8)) → Option (List UInt8)
  | 0, _, _, _, _ => none
  | n + 1, x2, x3, x4, k0 =>
    cond (decide (x3 < x2)) (
    cond (decide (0 ≤ x3 ∧ x3 < (x4.length : Int))) (
    let v5 : Bool := (decide ((x4.getD x3.toNat (0 : Int)) ≥ (65 : Int)))
    let v6 : Bool := (decide ((x4.getD x3.toNat (0 : Int)) ≤ (90 : Int)))
    cond (cond v5 v6 false) (
    let v7 : Int := (IntKind.wrap .u8 ((x4.getD x3.toNat (0 : Int)) + (32 : Int)))
    cond (decide (0 ≤ x3 ∧ x3 < (x4.length : Int))) (
    let v8 : Int := (IntKind.wrap .i64 (x3 + (1 : Int)))
    csstok_lower.c7 k n x2 v8 (x4.set x3.toNat v7) k0) none) (
    let v9 : Int := (IntKind.wrap .i64 (x3 + (1 : Int)))
    csstok_lower.c7 k n x2 v9 x4 k0)) none) (
    k0 x4)
def csstok_lower (k : Nat) (a1 : List UInt8) : Option (List UInt8) :=
csstok_lower.c7 k k ((bytesI a1).length : Int) (0 : Int) (bytesI a1) (fun (y10 : List Int) =>
some (bytesU y10))
def csstok_lower.kr (w0 : World) (k : Nat) : Kr T (List UInt8) := (kret (retK (cfg w0 (tab19 k)) Tryz.f78.results.toList 0 [] io1.pat))
def csstok_lower.x7 : Ex → Option (List Nat × List Sp)
  | .exit 0 => some ([3], [])
  | _ => none
def csstok_lower.L7 (k : Nat) (n : Nat) (v : Int × Int × (List Int)) (K : Ex → St T → Option (List UInt8)) : Option (List UInt8) := csstok_lower.c7 k n v.1 v.2.1 v.2.2 (fun y55 => K (.exit 0) (mkSt [3] (io28.enc y55)))
def csstok_lower.cuts (w0 : World) (k : Nat) : Cuts T (List UInt8) := fun n => bif n.beq 7 then some (entK (cfg w0 (tab19 k)) 0 [3, 8, 9, 10] [] io27.pat (csstok_lower.L7 k k)) else none
def csstok_lower.body : Code := bodyOf Tryz.f78
def csstok_lower.b7 : Code := findD 7 csstok_lower.body
theorem csstok_lower.s7 (w0 : World) (k : Nat) : ∀ n v K, csstok_lower.L7 k (n + 1) v K = runK (cfg w0 (tab19 k)) Tryz.f78.ntmps (csstok_lower.kr w0 k) (annot (csstok_lower.cuts w0 k) csstok_lower.b7) (mkSt [3, 8, 9, 10] (io27.enc v)) (loopK (cfg w0 (tab19 k)) 0 csstok_lower.x7 (entK (cfg w0 (tab19 k)) 0 [3, 8, 9, 10] [] io27.pat (csstok_lower.L7 k n)) K) := by
  intro n v K; kernel_rfl
theorem csstok_lower.e (w0 : World) (k : Nat) : ∀ v, (fun v => csstok_lower k v) v = runK (cfg w0 (tab19 k)) Tryz.f78.ntmps (csstok_lower.kr w0 k) (annot (csstok_lower.cuts w0 k) csstok_lower.body) (entry (io1.enc v).1 (io1.enc v).2) (endK (csstok_lower.kr w0 k)) := by
  intro v; kernel_rfl
theorem csstok_lower.hb : Tryz.f78.body = some csstok_lower.body := by kernel_rfl
def tab20 (k : Nat) : Tab T := addTab 78 (line io1 io1 [] (fun v => csstok_lower k v)) (tab19 k)
def csstok_number.c16 (k : Nat) (x6 : Int) (x7 : List UInt8) (x8 : List UInt8) (x9 : Int) (x10 : Int) (x11 : List UInt8) (x12 : List UInt8) (x13 : Int)  : Option (Int × (List UInt8) × (List UInt8) × Int) :=
some (x10, x11, x12, x13)
def csstok_number (k : Nat) (a1 : List UInt8) (a2 : Int) (a3 : Int) : Option (Int × (List UInt8) × (List UInt8) × Int) :=
cond (decide (0 ≤ a3 ∧ a3 ≤ (a1.length : Int))) (
cond (decide (0 ≤ a3 ∧ a3 ≤ (a1.length : Int))) (
(strings_HasPrefix k (a1.drop a3.toNat) ([37] : List UInt8)).bind fun r4 =>
cond r4 (
let v5 : Int := (IntKind.wrap .i64 (a3 + (1 : Int)))
cond (decide (0 ≤ v5 ∧ v5 ≤ (a1.length : Int))) (
csstok_number.c16 k (0 : Int) ([]) ([]) (0 : Int) (7 : Int) (a1.take v5.toNat) ([37] : List UInt8) a2) none) (
(csstok_begins k (a1.drop a3.toNat)).bind fun r14 =>
cond r14 (
(csstok_name k (a1.drop a3.toNat)).bind fun r15 =>
let v16 : Int := (IntKind.wrap .i64 (a3 + r15.2))
cond (decide (0 ≤ v16 ∧ v16 ≤ (a1.length : Int))) (
(csstok_lower k r15.1).bind fun r17 =>
csstok_number.c16 k (0 : Int) ([]) ([]) (0 : Int) (7 : Int) (a1.take v16.toNat) r17 a2) none) (
csstok_number.c16 k (0 : Int) ([]) ([]) (0 : Int) (7 : Int) (a1.take a3.toNat) ([]) a2))) none) none
def csstok_number.kr (w0 : World) (k : Nat) : Kr T (Int × (List UInt8) × (List UInt8) × Int) := (kret (retK (cfg w0 (tab20 k)) Tryz.f53.results.toList 0 [] io9.pat))
def csstok_number.x16 : Ex → Option (List Nat × List Sp)
  | _ => none
def csstok_number.L16 (k : Nat) (v : Int × (List UInt8) × (List UInt8) × Int × Int × (List UInt8) × (List UInt8) × Int) (K : Ex → St T → Option (Int × (List UInt8) × (List UInt8) × Int)) : Option (Int × (List UInt8) × (List UInt8) × Int) := csstok_number.c16 k v.1 v.2.1 v.2.2.1 v.2.2.2.1 v.2.2.2.2.1 v.2.2.2.2.2.1 v.2.2.2.2.2.2.1 v.2.2.2.2.2.2.2
def csstok_number.cuts (w0 : World) (k : Nat) : Cuts T (Int × (List UInt8) × (List UInt8) × Int) := fun n => bif n.beq 16 then some (entK (cfg w0 (tab20 k)) 0 [6, 7] [] io30.pat (csstok_number.L16 k)) else none
def csstok_number.body : Code := bodyOf Tryz.f53
def csstok_number.b16 : Code := findD 16 csstok_number.body
theorem csstok_number.s16 (w0 : World) (k : Nat) : ∀ v K, csstok_number.L16 k v K = runK (cfg w0 (tab20 k)) Tryz.f53.ntmps (csstok_number.kr w0 k) (annot (csstok_number.cuts w0 k) csstok_number.b16) (mkSt [6, 7] (io30.enc v)) (outK (cfg w0 (tab20 k)) 0 csstok_number.x16 K) := by
  intro v K; kernel_rfl
theorem csstok_number.e (w0 : World) (k : Nat) : ∀ v, (fun v => csstok_number k v.1 v.2.1 v.2.2) v = runK (cfg w0 (tab20 k)) Tryz.f53.ntmps (csstok_number.kr w0 k) (annot (csstok_number.cuts w0 k) csstok_number.body) (entry (io29.enc v).1 (io29.enc v).2) (endK (csstok_number.kr w0 k)) := by
  intro v; kernel_rfl
theorem csstok_number.hb : Tryz.f53.body = some csstok_number.body := by kernel_rfl
def tab21 (k : Nat) : Tab T := addTab 53 (line io29 io9 ((0 : Int), [], [], (0 : Int)) (fun v => csstok_number k v.1 v.2.1 v.2.2)) (tab20 k)
def csstok_first_1 (k : Nat) (a1 : Int) (a2 : List UInt8) : Option (Int × (List UInt8) × (List UInt8) × Int × (List UInt8)) :=
cond (decide (0 ≤ (1 : Int) ∧ (1 : Int) ≤ (a2.length : Int))) (
some (a1, (a2.take (1 : Int).toNat), [], (0 : Int), a2)) none
def csstok_first_1.kr (w0 : World) (k : Nat) : Kr T (Int × (List UInt8) × (List UInt8) × Int × (List UInt8)) := (kret (retK (cfg w0 (tab21 k)) Tryz.f43.results.toList 1 [] io32.pat))
def csstok_first_1.cuts (w0 : World) (k : Nat) : Cuts T (Int × (List UInt8) × (List UInt8) × Int × (List UInt8)) := fun n => none
def csstok_first_1.body : Code := bodyOf Tryz.f43
theorem csstok_first_1.e (w0 : World) (k : Nat) : ∀ v, (fun v => csstok_first_1 k v.1 v.2) v = runK (cfg w0 (tab21 k)) Tryz.f43.ntmps (csstok_first_1.kr w0 k) (annot (csstok_first_1.cuts w0 k) csstok_first_1.body) (entry (io31.enc v).1 (io31.enc v).2) (endK (csstok_first_1.kr w0 k)) := by
  intro v; kernel_rfl
theorem csstok_first_1.hb : Tryz.f43.body = some csstok_first_1.body := by kernel_rfl
def tab22 (k : Nat) : Tab T := addTab 43 (line io31 io32 ((0 : Int), [], [], (0 : Int), []) (fun v => csstok_first_1 k v.1 v.2)) (tab21 k)
def csstok_first.c20 (k : Nat) (x7 : List UInt8) (x8 : Int) (x9 : List UInt8) (x10 : List UInt8) (x11 : Int)  : Option (Int × (List UInt8) × (List UInt8) × Int) :=
some ((9 : Int), x7, [], (0 : Int))
def csstok_first.c52 (k : Nat) (x32 : Int) (x33 : List UInt8) (x34 : List UInt8) (x35 : Int) (x36 : Int) (x37 : List UInt8) (x38 : List UInt8) (x39 : Int)  : Option (Int × (List UInt8) × (List UInt8) × Int) :=
some (x36, x37, x38, x39)
def csstok_first.c76 (k : Nat) (x44 : Int) (x45 : List UInt8) (x46 : List UInt8) (x47 : Int) (x48 : List UInt8)  : Option (Int × (List UInt8) × (List UInt8) × Int) :=
(csstok_first_1 k (12 : Int) x48).bind fun r49 =>
some (r49.1, r49.2.1, r49.2.2.1, r49.2.2.2.1)
def csstok_first (k : Nat) (a1 : List UInt8) : Option (Int × (List UInt8) × (List UInt8) × Int) :=
(strings_TrimLeft k a1 ([32, 9, 10, 12, 13] : List UInt8)).bind fun r2 =>
let v3 : Int := (IntKind.wrap .i64 ((a1.length : Int) - (r2.length : Int)))
cond (decide (v3 > (0 : Int))) (
cond (decide (0 ≤ v3 ∧ v3 ≤ (a1.length : Int))) (
some ((8 : Int), (a1.take v3.toNat), [], (0 : Int))) none) (
(strings_CutPrefix k a1 ([47, 42] : List UInt8)).bind fun r4 =>
cond r4.2 (
(strings_Index k r4.1 ([42, 47] : List UInt8)).bind fun r5 =>
cond (decide (r5 ≥ (0 : Int))) (
let v6 : Int := (IntKind.wrap .i64 (r5 + (4 : Int)))
cond (decide (0 ≤ v6 ∧ v6 ≤ (a1.length : Int))) (
csstok_first.c20 k (a1.take v6.toNat) (0 : Int) ([]) ([]) (0 : Int)) none) (
csstok_first.c20 k a1 (0 : Int) ([]) ([]) (0 : Int))) (
cond (decide (0 ≤ (0 : Int) ∧ (0 : Int) < (a1.length : Int))) (
let v12 : Int := ((a1.getD (0 : Int).toNat 0).toNat : Int)
let v13 : Bool := (cond (v12 == (39 : Int)) true (v12 == (34 : Int)))
cond v13 (
(csstok_text k a1).bind fun r14 =>
some (r14.1, r14.2.1, r14.2.2.1, r14.2.2.2)) (
let v15 : Bool := (decide ((a1.length : Int) > (1 : Int)))
let v16 : Bool := (cond (v12 == (35 : Int)) v15 false)
cond ((decide (0 ≤ (1 : Int) ∧ (1 : Int) < (a1.length : Int))) || !v16) (
let v17 : Int := ((a1.getD (1 : Int).toNat 0).toNat : Int)
(cond v16 (csstok_sign k v17) (some false)).bind fun r18 =>
cond ((decide (0 ≤ (1 : Int) ∧ (1 : Int) ≤ (a1.length : Int))) || !(v16 && (!r18))) (
(cond (v16 && (!r18)) (csstok_escape k (a1.drop (1 : Int).toNat)) (some false)).bind fun r19 =>
let v20 : Bool := (cond v16 (cond r18 true r19) false)
cond v20 (
(csstok_named k (4 : Int) a1 (1 : Int)).bind fun r21 =>
some (r21.1, r21.2.1, r21.2.2.1, r21.2.2.2)) (
cond ((decide (0 ≤ (1 : Int) ∧ (1 : Int) ≤ (a1.length : Int))) || !(v12 == (64 : Int))) (
(cond (v12 == (64 : Int)) (csstok_begins k (a1.drop (1 : Int).toNat)) (some false)).bind fun r22 =>
let v23 : Bool := (cond (v12 == (64 : Int)) r22 false)
cond v23 (
(csstok_named k (3 : Int) a1 (1 : Int)).bind fun r24 =>
some (r24.1, r24.2.1, r24.2.2.1, r24.2.2.2)) (
(csstok_Number k a1).bind fun r25 =>
cond (decide (r25.2 > (0 : Int))) (
(csstok_number k a1 r25.1 r25.2).bind fun r26 =>
some (r26.1, r26.2.1, r26.2.2.1, r26.2.2.2)) (
(csstok_begins k a1).bind fun r27 =>
cond r27 (
(csstok_named k (1 : Int) a1 (0 : Int)).bind fun r28 =>
cond (decide (0 ≤ (r28.2.1.length : Int) ∧ (r28.2.1.length : Int) ≤ (a1.length : Int))) (
let v29 : List UInt8 := (a1.drop (r28.2.1.length : Int).toNat)
(strings_HasPrefix k v29 ([40] : List UInt8)).bind fun r30 =>
cond r30 (
let v31 : Int := (IntKind.wrap .i64 ((r28.2.1.length : Int) + (1 : Int)))
cond (decide (0 ≤ v31 ∧ v31 ≤ (a1.length : Int))) (
csstok_first.c52 k (0 : Int) ([]) ([]) (0 : Int) (2 : Int) (a1.take v31.toNat) r28.2.2.1 r28.2.2.2) none) (
csstok_first.c52 k (0 : Int) ([]) ([]) (0 : Int) r28.1 r28.2.1 r28.2.2.1 r28.2.2.2)) none) (
cond (decide (0 ≤ (0 : Int) ∧ (0 : Int) < (a1.length : Int))) (
let v40 : Int := ((a1.getD (0 : Int).toNat 0).toNat : Int)
cond (v40 == (40 : Int)) (
cond (v40 == (40 : Int)) (
(csstok_first_1 k (10 : Int) a1).bind fun r41 =>
some (r41.1, r41.2.1, r41.2.2.1, r41.2.2.2.1)) (
cond (v40 == (41 : Int)) (
cond (v40 == (41 : Int)) (
(csstok_first_1 k (11 : Int) a1).bind fun r42 =>
some (r42.1, r42.2.1, r42.2.2.1, r42.2.2.2.1)) (
cond (v40 == (92 : Int)) (
(csstok_first_1 k (6 : Int) a1).bind fun r43 =>
some (r43.1, r43.2.1, r43.2.2.1, r43.2.2.2.1)) (
csstok_first.c76 k (0 : Int) ([]) ([]) (0 : Int) a1))) (
cond (v40 == (93 : Int)) (
cond (v40 == (93 : Int)) (
(csstok_first_1 k (11 : Int) a1).bind fun r50 =>
some (r50.1, r50.2.1, r50.2.2.1, r50.2.2.2.1)) (
cond (v40 == (92 : Int)) (
(csstok_first_1 k (6 : Int) a1).bind fun r51 =>
some (r51.1, r51.2.1, r51.2.2.1, r51.2.2.2.1)) (
csstok_first.c76 k (0 : Int) ([]) ([]) (0 : Int) a1))) (
cond (v40 == (125 : Int)) (
(csstok_first_1 k (11 : Int) a1).bind fun r52 =>
some (r52.1, r52.2.1, r52.2.2.1, r52.2.2.2.1)) (
cond (v40 == (92 : Int)) (
(csstok_first_1 k (6 : Int) a1).bind fun r53 =>
some (r53.1, r53.2.1, r53.2.2.1, r53.2.2.2.1)) (
csstok_first.c76 k (0 : Int) ([]) ([]) (0 : Int) a1)))))) (
cond (v40 == (91 : Int)) (
cond (v40 == (91 : Int)) (
(csstok_first_1 k (10 : Int) a1).bind fun r54 =>
some (r54.1, r54.2.1, r54.2.2.1, r54.2.2.2.1)) (
cond (v40 == (41 : Int)) (
cond (v40 == (41 : Int)) (
(csstok_first_1 k (11 : Int) a1).bind fun r55 =>
some (r55.1, r55.2.1, r55.2.2.1, r55.2.2.2.1)) (
cond (v40 == (92 : Int)) (
(csstok_first_1 k (6 : Int) a1).bind fun r56 =>
some (r56.1, r56.2.1, r56.2.2.1, r56.2.2.2.1)) (
csstok_first.c76 k (0 : Int) ([]) ([]) (0 : Int) a1))) (
cond (v40 == (93 : Int)) (
cond (v40 == (93 : Int)) (
(csstok_first_1 k (11 : Int) a1).bind fun r57 =>
some (r57.1, r57.2.1, r57.2.2.1, r57.2.2.2.1)) (
cond (v40 == (92 : Int)) (
(csstok_first_1 k (6 : Int) a1).bind fun r58 =>
some (r58.1, r58.2.1, r58.2.2.1, r58.2.2.2.1)) (
csstok_first.c76 k (0 : Int) ([]) ([]) (0 : Int) a1))) (
cond (v40 == (125 : Int)) (
(csstok_first_1 k (11 : Int) a1).bind fun r59 =>
some (r59.1, r59.2.1, r59.2.2.1, r59.2.2.2.1)) (
cond (v40 == (92 : Int)) (
(csstok_first_1 k (6 : Int) a1).bind fun r60 =>
some (r60.1, r60.2.1, r60.2.2.1, r60.2.2.2.1)) (
csstok_first.c76 k (0 : Int) ([]) ([]) (0 : Int) a1)))))) (
cond (v40 == (123 : Int)) (
(csstok_first_1 k (10 : Int) a1).bind fun r61 =>
some (r61.1, r61.2.1, r61.2.2.1, r61.2.2.2.1)) (
cond (v40 == (41 : Int)) (
cond (v40 == (41 : Int)) (
(csstok_first_1 k (11 : Int) a1).bind fun r62 =>
some (r62.1, r62.2.1, r62.2.2.1, r62.2.2.2.1)) (
cond (v40 == (92 : Int)) (
(csstok_first_1 k (6 : Int) a1).bind fun r63 =>
some (r63.1, r63.2.1, r63.2.2.1, r63.2.2.2.1)) (
csstok_first.c76 k (0 : Int) ([]) ([]) (0 : Int) a1))) (
cond (v40 == (93 : Int)) (
cond (v40 == (93 : Int)) (
(csstok_first_1 k (11 : Int) a1).bind fun r64 =>
some (r64.1, r64.2.1, r64.2.2.1, r64.2.2.2.1)) (
cond (v40 == (92 : Int)) (
(csstok_first_1 k (6 : Int) a1).bind fun r65 =>
some (r65.1, r65.2.1, r65.2.2.1, r65.2.2.2.1)) (
csstok_first.c76 k (0 : Int) ([]) ([]) (0 : Int) a1))) (
cond (v40 == (125 : Int)) (
(csstok_first_1 k (11 : Int) a1).bind fun r66 =>
some (r66.1, r66.2.1, r66.2.2.1, r66.2.2.2.1)) (
cond (v40 == (92 : Int)) (
(csstok_first_1 k (6 : Int) a1).bind fun r67 =>
some (r67.1, r67.2.1, r67.2.2.1, r67.2.2.2.1)) (
csstok_first.c76 k (0 : Int) ([]) ([]) (0 : Int) a1)))))))) none)))) none)) none) none)) none))
def csstok_first.kr (w0 : World) (k : Nat) : Kr T (Int × (List UInt8) × (List UInt8) × Int) := (kret (retK (cfg w0 (tab22 k)) Tryz.f28.results.toList 0 [] io9.pat))
def csstok_first.x20 : Ex → Option (List Nat × List Sp)
  | _ => none
def csstok_first.L20 (k : Nat) (v : (List UInt8) × Int × (List UInt8) × (List UInt8) × Int) (K : Ex → St T → Option (Int × (List UInt8) × (List UInt8) × Int)) : Option (Int × (List UInt8) × (List UInt8) × Int) := csstok_first.c20 k v.1 v.2.1 v.2.2.1 v.2.2.2.1 v.2.2.2.2
def csstok_first.x52 : Ex → Option (List Nat × List Sp)
  | _ => none
def csstok_first.L52 (k : Nat) (v : Int × (List UInt8) × (List UInt8) × Int × Int × (List UInt8) × (List UInt8) × Int) (K : Ex → St T → Option (Int × (List UInt8) × (List UInt8) × Int)) : Option (Int × (List UInt8) × (List UInt8) × Int) := csstok_first.c52 k v.1 v.2.1 v.2.2.1 v.2.2.2.1 v.2.2.2.2.1 v.2.2.2.2.2.1 v.2.2.2.2.2.2.1 v.2.2.2.2.2.2.2
def csstok_first.x76 : Ex → Option (List Nat × List Sp)
  | _ => none
def csstok_first.L76 (k : Nat) (v : Int × (List UInt8) × (List UInt8) × Int × (List UInt8)) (K : Ex → St T → Option (Int × (List UInt8) × (List UInt8) × Int)) : Option (Int × (List UInt8) × (List UInt8) × Int) := csstok_first.c76 k v.1 v.2.1 v.2.2.1 v.2.2.2.1 v.2.2.2.2
def csstok_first.cuts (w0 : World) (k : Nat) : Cuts T (Int × (List UInt8) × (List UInt8) × Int) := fun n => bif n.beq 20 then some (entK (cfg w0 (tab22 k)) 0 [1, 2] [] io33.pat (csstok_first.L20 k)) else bif n.beq 52 then some (entK (cfg w0 (tab22 k)) 0 [2, 11] [] io30.pat (csstok_first.L52 k)) else bif n.beq 76 then some (entK (cfg w0 (tab22 k)) 0 [2, 3] [] io34.pat (csstok_first.L76 k)) else none
def csstok_first.body : Code := bodyOf Tryz.f28
def csstok_first.b20 : Code := findD 20 csstok_first.body
theorem csstok_first.s20 (w0 : World) (k : Nat) : ∀ v K, csstok_first.L20 k v K = runK (cfg w0 (tab22 k)) Tryz.f28.ntmps (csstok_first.kr w0 k) (annot (csstok_first.cuts w0 k) csstok_first.b20) (mkSt [1, 2] (io33.enc v)) (outK (cfg w0 (tab22 k)) 0 csstok_first.x20 K) := by
  intro v K; kernel_rfl
def csstok_first.b52 : Code := findD 52 csstok_first.body
theorem csstok_first.s52 (w0 : World) (k : Nat) : ∀ v K, csstok_first.L52 k v K = runK (cfg w0 (tab22 k)) Tryz.f28.ntmps (csstok_first.kr w0 k) (annot (csstok_first.cuts w0 k) csstok_first.b52) (mkSt [2, 11] (io30.enc v)) (outK (cfg w0 (tab22 k)) 0 csstok_first.x52 K) := by
  intro v K; kernel_rfl
def csstok_first.b76 : Code := findD 76 csstok_first.body
theorem csstok_first.s76 (w0 : World) (k : Nat) : ∀ v K, csstok_first.L76 k v K = runK (cfg w0 (tab22 k)) Tryz.f28.ntmps (csstok_first.kr w0 k) (annot (csstok_first.cuts w0 k) csstok_first.b76) (mkSt [2, 3] (io34.enc v)) (outK (cfg w0 (tab22 k)) 0 csstok_first.x76 K) := by
  intro v K; kernel_rfl
theorem csstok_first.e (w0 : World) (k : Nat) : ∀ v, (fun v => csstok_first k v) v = runK (cfg w0 (tab22 k)) Tryz.f28.ntmps (csstok_first.kr w0 k) (annot (csstok_first.cuts w0 k) csstok_first.body) (entry (io1.enc v).1 (io1.enc v).2) (endK (csstok_first.kr w0 k)) := by
  intro v; kernel_rfl
theorem csstok_first.hb : Tryz.f28.body = some csstok_first.body := by kernel_rfl
def tab23 (k : Nat) : Tab T := addTab 28 (line io1 io9 ((0 : Int), [], [], (0 : Int)) (fun v => csstok_first k v)) (tab22 k)
def csstok_Cut.c5 (k : Nat) : Nat → (List UInt8) → (List S64) → ((List S64) → Option (List S64)) → Option (List S64)
  | 0, _, _, _ => none
  | n + 1, x2, x3, k0 =>
    cond (!(x2 == ([] : List UInt8))) (
    (csstok_first k x2).bind fun r4 =>
    let v5 : List S64 := [(⟨r4.1, r4.2.1, r4.2.2.1, r4.2.2.2⟩ : S64)]
    cond (decide ((x3 ++ v5).length < most)) (
    cond (decide (0 ≤ (r4.2.1.length : Int) ∧ (r4.2.1.length : Int) ≤ (x2.length : Int))) (
    let v6 : List UInt8 := (x2.drop (r4.2.1.length : Int).toNat)
    csstok_Cut.c5 k n v6 (x3 ++ v5) k0) none) none) (
    k0 x3)
def csstok_Cut (k : Nat) (a1 : List UInt8) : Option (List S64) :=
csstok_Cut.c5 k k a1 ([] : List S64) (fun (y7 : List S64) =>
some y7)
def csstok_Cut.kr (w0 : World) (k : Nat) : Kr T (List S64) := (kret (retK (cfg w0 (tab23 k)) Tryz.f15.results.toList 0 [.own 0 64] io35.pat))
def csstok_Cut.x5 : Ex → Option (List Nat × List Sp)
  | .exit 0 => some ([3], [.own 3 64])
  | _ => none
def csstok_Cut.L5 (k : Nat) (n : Nat) (v : (List UInt8) × (List S64)) (K : Ex → St T → Option (List S64)) : Option (List S64) := csstok_Cut.c5 k n v.1 v.2 (fun y56 => K (.exit 0) (mkSt [3] (io35.enc y56)))
def csstok_Cut.cuts (w0 : World) (k : Nat) : Cuts T (List S64) := fun n => bif n.beq 5 then some (entK (cfg w0 (tab23 k)) 0 [0, 3] [.own 3 64] io36.pat (csstok_Cut.L5 k k)) else none
def csstok_Cut.body : Code := bodyOf Tryz.f15
def csstok_Cut.b5 : Code := findD 5 csstok_Cut.body
theorem csstok_Cut.s5 (w0 : World) (k : Nat) : ∀ n v K, csstok_Cut.L5 k (n + 1) v K = runK (cfg w0 (tab23 k)) Tryz.f15.ntmps (csstok_Cut.kr w0 k) (annot (csstok_Cut.cuts w0 k) csstok_Cut.b5) (mkSt [0, 3] (io36.enc v)) (loopK (cfg w0 (tab23 k)) 0 csstok_Cut.x5 (entK (cfg w0 (tab23 k)) 0 [0, 3] [.own 3 64] io36.pat (csstok_Cut.L5 k n)) K) := by
  intro n v K; kernel_rfl
theorem csstok_Cut.e (w0 : World) (k : Nat) : ∀ v, (fun v => csstok_Cut k v) v = runK (cfg w0 (tab23 k)) Tryz.f15.ntmps (csstok_Cut.kr w0 k) (annot (csstok_Cut.cuts w0 k) csstok_Cut.body) (entry (io1.enc v).1 (io1.enc v).2) (endK (csstok_Cut.kr w0 k)) := by
  intro v; kernel_rfl
theorem csstok_Cut.hb : Tryz.f15.body = some csstok_Cut.body := by kernel_rfl
def tab24 (k : Nat) : Tab T := addTab 15 (line io1 io35 [] (fun v => csstok_Cut k v)) (tab23 k)
def calc_reader__gap.c5 (k : Nat) : Nat → Int → (List S64) → Int → Bool → (Int → (List S64) → Int → Bool → Option (Bool × (List S64) × Int × Bool)) → Option (Bool × (List S64) × Int × Bool)
  | 0, _, _, _, _, _ => none
  | n + 1, x4, x5, x6, x7, k0 =>
    let v8 : Bool := (decide ((x5.length : Int) > (0 : Int)))
    cond ((decide (0 ≤ (0 : Int) ∧ (0 : Int) < (x5.length : Int))) || !v8) (
    let v9 : Int := (x5.getD ((0 : Int).toNat) S64.d).Kind
    cond ((decide (0 ≤ (0 : Int) ∧ (0 : Int) < (x5.length : Int))) || !(v8 && (!(v9 == (8 : Int))))) (
    let v10 : Int := (x5.getD ((0 : Int).toNat) S64.d).Kind
    let v11 : Bool := (cond (v9 == (8 : Int)) true (v10 == (9 : Int)))
    cond (cond v8 v11 false) (
    cond (decide (0 ≤ (1 : Int) ∧ (1 : Int) ≤ (x5.length : Int))) (
    calc_reader__gap.c5 k n x4 (x5.drop (1 : Int).toNat) x6 x7 k0) none) (
    k0 x4 x5 x6 x7)) none) none
def calc_reader__gap (k : Nat) (a1 : Int) (a2 : Bool) (a3 : List S64) : Option (Bool × (List S64) × Int × Bool) :=
calc_reader__gap.c5 k k (a3.length : Int) a3 a1 a2 (fun (y12 : Int) (y13 : List S64) (y14 : Int) (y15 : Bool) =>
let v16 : Bool := (decide ((y13.length : Int) < y12))
some (v16, y13, y14, y15))
def calc_reader__gap.kr (w0 : World) (k : Nat) : Kr T (Bool × (List S64) × Int × Bool) := (kret (retK (cfg w0 (tab24 k)) Tryz.f16.results.toList 2 [] io38.pat))
def calc_reader__gap.x5 : Ex → Option (List Nat × List Sp)
  | .exit 0 => some ([0, 3], [.box 0 53])
  | _ => none
def calc_reader__gap.L5 (k : Nat) (n : Nat) (v : Int × (List S64) × Int × Bool) (K : Ex → St T → Option (Bool × (List S64) × Int × Bool)) : Option (Bool × (List S64) × Int × Bool) := calc_reader__gap.c5 k n v.1 v.2.1 v.2.2.1 v.2.2.2 (fun y57 y58 y59 y60 => K (.exit 0) (mkSt [0, 3] (io39.enc (y57, y58, y59, y60))))
def calc_reader__gap.cuts (w0 : World) (k : Nat) : Cuts T (Bool × (List S64) × Int × Bool) := fun n => bif n.beq 5 then some (entK (cfg w0 (tab24 k)) 2 [0, 3] [.box 0 53] io39.pat (calc_reader__gap.L5 k k)) else none
def calc_reader__gap.body : Code := bodyOf Tryz.f16
def calc_reader__gap.b5 : Code := findD 5 calc_reader__gap.body
theorem calc_reader__gap.s5 (w0 : World) (k : Nat) : ∀ n v K, calc_reader__gap.L5 k (n + 1) v K = runK (cfg w0 (tab24 k)) Tryz.f16.ntmps (calc_reader__gap.kr w0 k) (annot (calc_reader__gap.cuts w0 k) calc_reader__gap.b5) (mkSt [0, 3] (io39.enc v)) (loopK (cfg w0 (tab24 k)) 2 calc_reader__gap.x5 (entK (cfg w0 (tab24 k)) 2 [0, 3] [.box 0 53] io39.pat (calc_reader__gap.L5 k n)) K) := by
  intro n v K; kernel_rfl
theorem calc_reader__gap.e (w0 : World) (k : Nat) : ∀ v, (fun v => calc_reader__gap k v.1 v.2.1 v.2.2) v = runK (cfg w0 (tab24 k)) Tryz.f16.ntmps (calc_reader__gap.kr w0 k) (annot (calc_reader__gap.cuts w0 k) calc_reader__gap.body) (entry (io37.enc v).1 (io37.enc v).2) (endK (calc_reader__gap.kr w0 k)) := by
  intro v; kernel_rfl
theorem calc_reader__gap.hb : Tryz.f16.body = some calc_reader__gap.body := by kernel_rfl
def tab25 (k : Nat) : Tab T := addTab 16 (line io37 io38 (false, [], (0 : Int), false) (fun v => calc_reader__gap k v.1 v.2.1 v.2.2)) (tab24 k)
def calc_reader__need (k : Nat) (a1 : Bool) (a2 : List S64) (a3 : Int) (a4 : Bool) : Option (Bool × Int × ((List S64) × Int × Bool)) :=
cond (!a1) (
some (true, (4 : Int), ([], (0 : Int), false))) (
some (false, (0 : Int), (a2, a3, a4)))
def calc_reader__need.kr (w0 : World) (k : Nat) : Kr T (Bool × Int × ((List S64) × Int × Bool)) := (kpan (retK (cfg w0 (tab25 k)) Tryz.f18.results.toList 1 [] io41.pat) pp47 (0 : Int) ([], (0 : Int), false))
def calc_reader__need.cuts (w0 : World) (k : Nat) : Cuts T (Bool × Int × ((List S64) × Int × Bool)) := fun n => none
def calc_reader__need.body : Code := bodyOf Tryz.f18
theorem calc_reader__need.e (w0 : World) (k : Nat) : ∀ v, (fun v => calc_reader__need k v.1 v.2.1 v.2.2.1 v.2.2.2) v = runK (cfg w0 (tab25 k)) Tryz.f18.ntmps (calc_reader__need.kr w0 k) (annot (calc_reader__need.cuts w0 k) calc_reader__need.body) (entry (io40.enc v).1 (io40.enc v).2) (endK (calc_reader__need.kr w0 k)) := by
  intro v; kernel_rfl
theorem calc_reader__need.hb : Tryz.f18.body = some calc_reader__need.body := by kernel_rfl
def tab26 (k : Nat) : Tab T := addTab 18 (lineP io40 io41 pe47 (0 : Int) ([], (0 : Int), false) (fun v => calc_reader__need k v.1 v.2.1 v.2.2.1 v.2.2.2)) (tab25 k)
def slices_Index___string_string_.c5 (k : Nat) : Nat → (List (List UInt8)) → (List UInt8) → Int → Int → (Option (Int)) → Option (Int)
  | 0, _, _, _, _, _ => none
  | n + 1, x3, x4, x5, x6, k0 =>
    cond (decide (x6 < x5)) (
    cond (decide (0 ≤ x6 ∧ x6 < (x3.length : Int))) (
    cond (x4 == (x3.getD x6.toNat [])) (
    some x6) (
    let v7 : Int := (IntKind.wrap .i64 (x6 + (1 : Int)))
    slices_Index___string_string_.c5 k n x3 x4 x5 v7 k0)) none) (
    k0)
def slices_Index___string_string_ (k : Nat) (a1 : List (List UInt8)) (a2 : List UInt8) : Option (Int) :=
slices_Index___string_string_.c5 k k a1 a2 (a1.length : Int) (0 : Int) (
some (-1 : Int))
def slices_Index___string_string_.kr (w0 : World) (k : Nat) : Kr T (Int) := (kret (retK (cfg w0 (tab26 k)) Tryz.f34.results.toList 0 [] io4.pat))
def slices_Index___string_string_.x5 : Ex → Option (List Nat × List Sp)
  | .exit 0 => some ([], [])
  | _ => none
def slices_Index___string_string_.L5 (k : Nat) (n : Nat) (v : (List (List UInt8)) × (List UInt8) × Int × Int) (K : Ex → St T → Option (Int)) : Option (Int) := slices_Index___string_string_.c5 k n v.1 v.2.1 v.2.2.1 v.2.2.2 ( K (.exit 0) (mkSt [] (io44.enc ())))
def slices_Index___string_string_.cuts (w0 : World) (k : Nat) : Cuts T (Int) := fun n => bif n.beq 5 then some (entK (cfg w0 (tab26 k)) 0 [0, 1, 7, 8] [] io43.pat (slices_Index___string_string_.L5 k k)) else none
def slices_Index___string_string_.body : Code := bodyOf Tryz.f34
def slices_Index___string_string_.b5 : Code := findD 5 slices_Index___string_string_.body
theorem slices_Index___string_string_.s5 (w0 : World) (k : Nat) : ∀ n v K, slices_Index___string_string_.L5 k (n + 1) v K = runK (cfg w0 (tab26 k)) Tryz.f34.ntmps (slices_Index___string_string_.kr w0 k) (annot (slices_Index___string_string_.cuts w0 k) slices_Index___string_string_.b5) (mkSt [0, 1, 7, 8] (io43.enc v)) (loopK (cfg w0 (tab26 k)) 0 slices_Index___string_string_.x5 (entK (cfg w0 (tab26 k)) 0 [0, 1, 7, 8] [] io43.pat (slices_Index___string_string_.L5 k n)) K) := by
  intro n v K; kernel_rfl
theorem slices_Index___string_string_.e (w0 : World) (k : Nat) : ∀ v, (fun v => slices_Index___string_string_ k v.1 v.2) v = runK (cfg w0 (tab26 k)) Tryz.f34.ntmps (slices_Index___string_string_.kr w0 k) (annot (slices_Index___string_string_.cuts w0 k) slices_Index___string_string_.body) (entry (io42.enc v).1 (io42.enc v).2) (endK (slices_Index___string_string_.kr w0 k)) := by
  intro v; kernel_rfl
theorem slices_Index___string_string_.hb : Tryz.f34.body = some slices_Index___string_string_.body := by kernel_rfl
def tab27 (k : Nat) : Tab T := addTab 34 (line io42 io4 (0 : Int) (fun v => slices_Index___string_string_ k v.1 v.2)) (tab26 k)
def slices_Contains___string_string_ (k : Nat) (a1 : List (List UInt8)) (a2 : List UInt8) : Option (Bool) :=
(slices_Index___string_string_ k a1 a2).bind fun r3 =>
some (decide (r3 ≥ (0 : Int)))
def slices_Contains___string_string_.kr (w0 : World) (k : Nat) : Kr T (Bool) := (kret (retK (cfg w0 (tab27 k)) Tryz.f55.results.toList 0 [] io2.pat))
def slices_Contains___string_string_.cuts (w0 : World) (k : Nat) : Cuts T (Bool) := fun n => none
def slices_Contains___string_string_.body : Code := bodyOf Tryz.f55
theorem slices_Contains___string_string_.e (w0 : World) (k : Nat) : ∀ v, (fun v => slices_Contains___string_string_ k v.1 v.2) v = runK (cfg w0 (tab27 k)) Tryz.f55.ntmps (slices_Contains___string_string_.kr w0 k) (annot (slices_Contains___string_string_.cuts w0 k) slices_Contains___string_string_.body) (entry (io42.enc v).1 (io42.enc v).2) (endK (slices_Contains___string_string_.kr w0 k)) := by
  intro v; kernel_rfl
theorem slices_Contains___string_string_.hb : Tryz.f55.body = some slices_Contains___string_string_.body := by kernel_rfl
def tab28 (k : Nat) : Tab T := addTab 55 (line io42 io2 false (fun v => slices_Contains___string_string_ k v.1 v.2)) (tab27 k)
def dim_Read (k : Nat) (a1 : List UInt8) : Option (Int × (List UInt8) × Int) :=
(csstok_Cut k a1).bind fun r2 =>
let v3 : Bool := ((r2.length : Int) != (1 : Int))
cond ((decide (0 ≤ (0 : Int) ∧ (0 : Int) < (r2.length : Int))) || !(!v3)) (
let v4 : Int := (r2.getD ((0 : Int).toNat) S64.d).Kind
let v5 : Bool := (cond v3 true (v4 != (7 : Int)))
cond ((decide (0 ≤ (0 : Int) ∧ (0 : Int) < (r2.length : Int))) || !(!v5)) (
let v6 : List UInt8 := (r2.getD ((0 : Int).toNat) S64.d).Value
(cond (!v5) (slices_Contains___string_string_ k g0_0 v6) (some false)).bind fun r7 =>
cond (cond v5 true (!r7)) (
some ((0 : Int), [], (4 : Int))) (
cond (decide (0 ≤ (0 : Int) ∧ (0 : Int) < (r2.length : Int))) (
let v8 : Int := (r2.getD ((0 : Int).toNat) S64.d).Num
cond (decide (0 ≤ (0 : Int) ∧ (0 : Int) < (r2.length : Int))) (
let v9 : List UInt8 := (r2.getD ((0 : Int).toNat) S64.d).Value
some (v8, v9, (0 : Int))) none) none)) none) none
def dim_Read.kr (w0 : World) (k : Nat) : Kr T (Int × (List UInt8) × Int) := (kret (retK (cfg w0 (tab28 k)) Tryz.f29.results.toList 0 [] io45.pat))
def dim_Read.cuts (w0 : World) (k : Nat) : Cuts T (Int × (List UInt8) × Int) := fun n => none
def dim_Read.body : Code := bodyOf Tryz.f29
theorem dim_Read.e (w0 : World) (k : Nat) : ∀ v, (fun v => dim_Read k v) v = runK (cfg w0 (tab28 k)) Tryz.f29.ntmps (dim_Read.kr w0 k) (annot (dim_Read.cuts w0 k) dim_Read.body) (entry (io1.enc v).1 (io1.enc v).2) (endK (dim_Read.kr w0 k)) := by
  intro v; kernel_rfl
theorem dim_Read.hb : Tryz.f29.body = some dim_Read.body := by kernel_rfl
def tab29 (k : Nat) : Tab T := addTab 29 (line io1 io45 ((0 : Int), [], (0 : Int)) (fun v => dim_Read k v)) (tab28 k)
def calc_reader__made.c8 (k : Nat) (x8 : List S64) (x9 : Int) (x10 : Bool) (x11 : Int) (x12 : Int) (x13 : List UInt8) (x14 : Int) (x15 : Int) (x16 : List UInt8)  : Option (Bool × Int × (Int × Int × (List UInt8) × (List S64) × Int × Bool)) :=
some (false, (0 : Int), (x11, x12, x13, x8, x9, x10))
def calc_reader__made (k : Nat) (a1 : Int) (a2 : Int) (a3 : List UInt8) (a4 : List S64) (a5 : Int) (a6 : Bool) : Option (Bool × Int × (Int × Int × (List UInt8) × (List S64) × Int × Bool)) :=
let v7 : Int := (IntKind.wrap .i64 (a5 + (1 : Int)))
cond (decide (v7 > (30 : Int))) (
some (true, (2 : Int), ((0 : Int), (0 : Int), [], [], (0 : Int), false))) (
calc_reader__made.c8 k a4 v7 a6 a1 a2 a3 (0 : Int) (0 : Int) ([]))
def calc_reader__made.kr (w0 : World) (k : Nat) : Kr T (Bool × Int × (Int × Int × (List UInt8) × (List S64) × Int × Bool)) := (kpan (retK (cfg w0 (tab29 k)) Tryz.f30.results.toList 1 [] io47.pat) pp47 (0 : Int) ((0 : Int), (0 : Int), [], [], (0 : Int), false))
def calc_reader__made.x8 : Ex → Option (List Nat × List Sp)
  | _ => none
def calc_reader__made.L8 (k : Nat) (v : (List S64) × Int × Bool × Int × Int × (List UInt8) × Int × Int × (List UInt8)) (K : Ex → St T → Option (Bool × Int × (Int × Int × (List UInt8) × (List S64) × Int × Bool))) : Option (Bool × Int × (Int × Int × (List UInt8) × (List S64) × Int × Bool)) := calc_reader__made.c8 k v.1 v.2.1 v.2.2.1 v.2.2.2.1 v.2.2.2.2.1 v.2.2.2.2.2.1 v.2.2.2.2.2.2.1 v.2.2.2.2.2.2.2.1 v.2.2.2.2.2.2.2.2
def calc_reader__made.cuts (w0 : World) (k : Nat) : Cuts T (Bool × Int × (Int × Int × (List UInt8) × (List S64) × Int × Bool)) := fun n => bif n.beq 8 then some (entK (cfg w0 (tab29 k)) 1 [3, 4] [] io48.pat (calc_reader__made.L8 k)) else none
def calc_reader__made.body : Code := bodyOf Tryz.f30
def calc_reader__made.b8 : Code := findD 8 calc_reader__made.body
theorem calc_reader__made.s8 (w0 : World) (k : Nat) : ∀ v K, calc_reader__made.L8 k v K = runK (cfg w0 (tab29 k)) Tryz.f30.ntmps (calc_reader__made.kr w0 k) (annot (calc_reader__made.cuts w0 k) calc_reader__made.b8) (mkSt [3, 4] (io48.enc v)) (outK (cfg w0 (tab29 k)) 1 calc_reader__made.x8 K) := by
  intro v K; kernel_rfl
theorem calc_reader__made.e (w0 : World) (k : Nat) : ∀ v, (fun v => calc_reader__made k v.1 v.2.1 v.2.2.1 v.2.2.2.1 v.2.2.2.2.1 v.2.2.2.2.2) v = runK (cfg w0 (tab29 k)) Tryz.f30.ntmps (calc_reader__made.kr w0 k) (annot (calc_reader__made.cuts w0 k) calc_reader__made.body) (entry (io46.enc v).1 (io46.enc v).2) (endK (calc_reader__made.kr w0 k)) := by
  intro v; kernel_rfl
theorem calc_reader__made.hb : Tryz.f30.body = some calc_reader__made.body := by kernel_rfl
def tab30 (k : Nat) : Tab T := addTab 30 (lineP io46 io47 pe47 (0 : Int) ((0 : Int), (0 : Int), [], [], (0 : Int), false) (fun v => calc_reader__made k v.1 v.2.1 v.2.2.1 v.2.2.2.1 v.2.2.2.2.1 v.2.2.2.2.2)) (tab29 k)
def calc_reader__gap_v2.c5 (k : Nat) : Nat → Int → (List S64) → Int → Bool → (Int → (List S64) → Int → Bool → Option (Bool × (List S64) × Int × Bool)) → Option (Bool × (List S64) × Int × Bool)
  | 0, _, _, _, _, _ => none
  | n + 1, x4, x5, x6, x7, k0 =>
    let v8 : Bool := (decide ((x5.length : Int) > (0 : Int)))
    cond ((decide (0 ≤ (0 : Int) ∧ (0 : Int) < (x5.length : Int))) || !v8) (
    let v9 : Int := (x5.getD ((0 : Int).toNat) S64.d).Kind
    cond ((decide (0 ≤ (0 : Int) ∧ (0 : Int) < (x5.length : Int))) || !(v8 && (!(v9 == (8 : Int))))) (
    let v10 : Int := (x5.getD ((0 : Int).toNat) S64.d).Kind
    let v11 : Bool := (cond (v9 == (8 : Int)) true (v10 == (9 : Int)))
    cond (cond v8 v11 false) (
    cond (decide (0 ≤ (1 : Int) ∧ (1 : Int) ≤ (x5.length : Int))) (
    calc_reader__gap_v2.c5 k n x4 (x5.drop (1 : Int).toNat) x6 x7 k0) none) (
    k0 x4 x5 x6 x7)) none) none
def calc_reader__gap_v2 (k : Nat) (a1 : List S64) (a2 : Int) (a3 : Bool) : Option (Bool × (List S64) × Int × Bool) :=
calc_reader__gap_v2.c5 k k (a1.length : Int) a1 a2 a3 (fun (y12 : Int) (y13 : List S64) (y14 : Int) (y15 : Bool) =>
let v16 : Bool := (decide ((y13.length : Int) < y12))
some (v16, y13, y14, y15))
def calc_reader__gap_v2.kr (w0 : World) (k : Nat) : Kr T (Bool × (List S64) × Int × Bool) := (kret (retK (cfg w0 (tab30 k)) Tryz.f16.results.toList 1 [] io50.pat))
def calc_reader__gap_v2.x5 : Ex → Option (List Nat × List Sp)
  | .exit 0 => some ([0, 3], [])
  | _ => none
def calc_reader__gap_v2.L5 (k : Nat) (n : Nat) (v : Int × (List S64) × Int × Bool) (K : Ex → St T → Option (Bool × (List S64) × Int × Bool)) : Option (Bool × (List S64) × Int × Bool) := calc_reader__gap_v2.c5 k n v.1 v.2.1 v.2.2.1 v.2.2.2 (fun y61 y62 y63 y64 => K (.exit 0) (mkSt [0, 3] (io51.enc (y61, y62, y63, y64))))
def calc_reader__gap_v2.cuts (w0 : World) (k : Nat) : Cuts T (Bool × (List S64) × Int × Bool) := fun n => bif n.beq 5 then some (entK (cfg w0 (tab30 k)) 1 [0, 3] [] io51.pat (calc_reader__gap_v2.L5 k k)) else none
def calc_reader__gap_v2.body : Code := bodyOf Tryz.f16
def calc_reader__gap_v2.b5 : Code := findD 5 calc_reader__gap_v2.body
theorem calc_reader__gap_v2.s5 (w0 : World) (k : Nat) : ∀ n v K, calc_reader__gap_v2.L5 k (n + 1) v K = runK (cfg w0 (tab30 k)) Tryz.f16.ntmps (calc_reader__gap_v2.kr w0 k) (annot (calc_reader__gap_v2.cuts w0 k) calc_reader__gap_v2.b5) (mkSt [0, 3] (io51.enc v)) (loopK (cfg w0 (tab30 k)) 1 calc_reader__gap_v2.x5 (entK (cfg w0 (tab30 k)) 1 [0, 3] [] io51.pat (calc_reader__gap_v2.L5 k n)) K) := by
  intro n v K; kernel_rfl
theorem calc_reader__gap_v2.e (w0 : World) (k : Nat) : ∀ v, (fun v => calc_reader__gap_v2 k v.1 v.2.1 v.2.2) v = runK (cfg w0 (tab30 k)) Tryz.f16.ntmps (calc_reader__gap_v2.kr w0 k) (annot (calc_reader__gap_v2.cuts w0 k) calc_reader__gap_v2.body) (entry (io49.enc v).1 (io49.enc v).2) (endK (calc_reader__gap_v2.kr w0 k)) := by
  intro v; kernel_rfl
theorem calc_reader__gap_v2.hb : Tryz.f16.body = some calc_reader__gap_v2.body := by kernel_rfl
def tab31 (k : Nat) : Tab T := addTab 16 (line io49 io50 (false, [], (0 : Int), false) (fun v => calc_reader__gap_v2 k v.1 v.2.1 v.2.2)) (tab30 k)
def calc_lower.c7 (k : Nat) : Nat → Int → Int → (List Int) → ((List Int) → Option (List UInt8)) → Option (List UInt8)
  | 0, _, _, _, _ => none
  | n + 1, x2, x3, x4, k0 =>
    cond (decide (x3 < x2)) (
    cond (decide (0 ≤ x3 ∧ x3 < (x4.length : Int))) (
    let v5 : Bool := (decide ((x4.getD x3.toNat (0 : Int)) ≥ (65 : Int)))
    let v6 : Bool := (decide ((x4.getD x3.toNat (0 : Int)) ≤ (90 : Int)))
    cond (cond v5 v6 false) (
    let v7 : Int := (IntKind.wrap .u8 ((x4.getD x3.toNat (0 : Int)) + (32 : Int)))
    cond (decide (0 ≤ x3 ∧ x3 < (x4.length : Int))) (
    let v8 : Int := (IntKind.wrap .i64 (x3 + (1 : Int)))
    calc_lower.c7 k n x2 v8 (x4.set x3.toNat v7) k0) none) (
    let v9 : Int := (IntKind.wrap .i64 (x3 + (1 : Int)))
    calc_lower.c7 k n x2 v9 x4 k0)) none) (
    k0 x4)
def calc_lower (k : Nat) (a1 : List UInt8) : Option (List UInt8) :=
calc_lower.c7 k k ((bytesI a1).length : Int) (0 : Int) (bytesI a1) (fun (y10 : List Int) =>
some (bytesU y10))
def calc_lower.kr (w0 : World) (k : Nat) : Kr T (List UInt8) := (kret (retK (cfg w0 (tab31 k)) Tryz.f33.results.toList 0 [] io1.pat))
def calc_lower.x7 : Ex → Option (List Nat × List Sp)
  | .exit 0 => some ([3], [])
  | _ => none
def calc_lower.L7 (k : Nat) (n : Nat) (v : Int × Int × (List Int)) (K : Ex → St T → Option (List UInt8)) : Option (List UInt8) := calc_lower.c7 k n v.1 v.2.1 v.2.2 (fun y65 => K (.exit 0) (mkSt [3] (io28.enc y65)))
def calc_lower.cuts (w0 : World) (k : Nat) : Cuts T (List UInt8) := fun n => bif n.beq 7 then some (entK (cfg w0 (tab31 k)) 0 [3, 8, 9, 10] [] io27.pat (calc_lower.L7 k k)) else none
def calc_lower.body : Code := bodyOf Tryz.f33
def calc_lower.b7 : Code := findD 7 calc_lower.body
theorem calc_lower.s7 (w0 : World) (k : Nat) : ∀ n v K, calc_lower.L7 k (n + 1) v K = runK (cfg w0 (tab31 k)) Tryz.f33.ntmps (calc_lower.kr w0 k) (annot (calc_lower.cuts w0 k) calc_lower.b7) (mkSt [3, 8, 9, 10] (io27.enc v)) (loopK (cfg w0 (tab31 k)) 0 calc_lower.x7 (entK (cfg w0 (tab31 k)) 0 [3, 8, 9, 10] [] io27.pat (calc_lower.L7 k n)) K) := by
  intro n v K; kernel_rfl
theorem calc_lower.e (w0 : World) (k : Nat) : ∀ v, (fun v => calc_lower k v) v = runK (cfg w0 (tab31 k)) Tryz.f33.ntmps (calc_lower.kr w0 k) (annot (calc_lower.cuts w0 k) calc_lower.body) (entry (io1.enc v).1 (io1.enc v).2) (endK (calc_lower.kr w0 k)) := by
  intro v; kernel_rfl
theorem calc_lower.hb : Tryz.f33.body = some calc_lower.body := by kernel_rfl
def tab32 (k : Nat) : Tab T := addTab 33 (line io1 io1 [] (fun v => calc_lower k v)) (tab31 k)
def calc_reader__raw (k : Nat) (a1 : List UInt8) (a2 : List S64) (a3 : Int) (a4 : Bool) : Option (Bool × (List S64) × Int × Bool) :=
let v5 : Bool := ((a2.length : Int) == (0 : Int))
cond ((decide (0 ≤ (0 : Int) ∧ (0 : Int) < (a2.length : Int))) || !(!v5)) (
let v6 : List UInt8 := (a2.getD ((0 : Int).toNat) S64.d).Raw
cond (cond v5 true (!(v6 == a1))) (
some (false, a2, a3, a4)) (
cond (decide (0 ≤ (1 : Int) ∧ (1 : Int) ≤ (a2.length : Int))) (
some (true, (a2.drop (1 : Int).toNat), a3, a4)) none)) none
def calc_reader__raw.kr (w0 : World) (k : Nat) : Kr T (Bool × (List S64) × Int × Bool) := (kret (retK (cfg w0 (tab32 k)) Tryz.f32.results.toList 1 [] io50.pat))
def calc_reader__raw.cuts (w0 : World) (k : Nat) : Cuts T (Bool × (List S64) × Int × Bool) := fun n => none
def calc_reader__raw.body : Code := bodyOf Tryz.f32
theorem calc_reader__raw.e (w0 : World) (k : Nat) : ∀ v, (fun v => calc_reader__raw k v.1 v.2.1 v.2.2.1 v.2.2.2) v = runK (cfg w0 (tab32 k)) Tryz.f32.ntmps (calc_reader__raw.kr w0 k) (annot (calc_reader__raw.cuts w0 k) calc_reader__raw.body) (entry (io52.enc v).1 (io52.enc v).2) (endK (calc_reader__raw.kr w0 k)) := by
  intro v; kernel_rfl
theorem calc_reader__raw.hb : Tryz.f32.body = some calc_reader__raw.body := by kernel_rfl
def tab33 (k : Nat) : Tab T := addTab 32 (line io52 io50 (false, [], (0 : Int), false) (fun v => calc_reader__raw k v.1 v.2.1 v.2.2.1 v.2.2.2)) (tab32 k)
def calc_reader__made_v2.c8 (k : Nat) (x9 : List S64) (x10 : Int) (x11 : Bool) (x12 : List S29) (x13 : Int) (x14 : Int) (x15 : List UInt8) (x16 : Int) (x17 : Int) (x18 : List UInt8)  : Option (Bool × Int × (Int × Int × (List UInt8) × (List S64) × Int × Bool × (List S29))) :=
some (false, (0 : Int), (x13, x14, x15, x9, x10, x11, x12))
def calc_reader__made_v2 (k : Nat) (a1 : Int) (a2 : Int) (a3 : List UInt8) (a4 : List S64) (a5 : Int) (a6 : Bool) (a7 : List S29) : Option (Bool × Int × (Int × Int × (List UInt8) × (List S64) × Int × Bool × (List S29))) :=
let v8 : Int := (IntKind.wrap .i64 (a5 + (1 : Int)))
cond (decide (v8 > (30 : Int))) (
some (true, (2 : Int), ((0 : Int), (0 : Int), [], [], (0 : Int), false, []))) (
calc_reader__made_v2.c8 k a4 v8 a6 a7 a1 a2 a3 (0 : Int) (0 : Int) ([]))
def calc_reader__made_v2.kr (w0 : World) (k : Nat) : Kr T (Bool × Int × (Int × Int × (List UInt8) × (List S64) × Int × Bool × (List S29))) := (kpan (retK (cfg w0 (tab33 k)) Tryz.f30.results.toList 2 [] io54.pat) pp47 (0 : Int) ((0 : Int), (0 : Int), [], [], (0 : Int), false, []))
def calc_reader__made_v2.x8 : Ex → Option (List Nat × List Sp)
  | _ => none
def calc_reader__made_v2.L8 (k : Nat) (v : (List S64) × Int × Bool × (List S29) × Int × Int × (List UInt8) × Int × Int × (List UInt8)) (K : Ex → St T → Option (Bool × Int × (Int × Int × (List UInt8) × (List S64) × Int × Bool × (List S29)))) : Option (Bool × Int × (Int × Int × (List UInt8) × (List S64) × Int × Bool × (List S29))) := calc_reader__made_v2.c8 k v.1 v.2.1 v.2.2.1 v.2.2.2.1 v.2.2.2.2.1 v.2.2.2.2.2.1 v.2.2.2.2.2.2.1 v.2.2.2.2.2.2.2.1 v.2.2.2.2.2.2.2.2.1 v.2.2.2.2.2.2.2.2.2
def calc_reader__made_v2.cuts (w0 : World) (k : Nat) : Cuts T (Bool × Int × (Int × Int × (List UInt8) × (List S64) × Int × Bool × (List S29))) := fun n => bif n.beq 8 then some (entK (cfg w0 (tab33 k)) 2 [3, 4] [] io55.pat (calc_reader__made_v2.L8 k)) else none
def calc_reader__made_v2.body : Code := bodyOf Tryz.f30
def calc_reader__made_v2.b8 : Code := findD 8 calc_reader__made_v2.body
theorem calc_reader__made_v2.s8 (w0 : World) (k : Nat) : ∀ v K, calc_reader__made_v2.L8 k v K = runK (cfg w0 (tab33 k)) Tryz.f30.ntmps (calc_reader__made_v2.kr w0 k) (annot (calc_reader__made_v2.cuts w0 k) calc_reader__made_v2.b8) (mkSt [3, 4] (io55.enc v)) (outK (cfg w0 (tab33 k)) 2 calc_reader__made_v2.x8 K) := by
  intro v K; kernel_rfl
theorem calc_reader__made_v2.e (w0 : World) (k : Nat) : ∀ v, (fun v => calc_reader__made_v2 k v.1 v.2.1 v.2.2.1 v.2.2.2.1 v.2.2.2.2.1 v.2.2.2.2.2.1 v.2.2.2.2.2.2) v = runK (cfg w0 (tab33 k)) Tryz.f30.ntmps (calc_reader__made_v2.kr w0 k) (annot (calc_reader__made_v2.cuts w0 k) calc_reader__made_v2.body) (entry (io53.enc v).1 (io53.enc v).2) (endK (calc_reader__made_v2.kr w0 k)) := by
  intro v; kernel_rfl
theorem calc_reader__made_v2.hb : Tryz.f30.body = some calc_reader__made_v2.body := by kernel_rfl
def tab34 (k : Nat) : Tab T := addTab 30 (lineP io53 io54 pe47 (0 : Int) ((0 : Int), (0 : Int), [], [], (0 : Int), false, []) (fun v => calc_reader__made_v2 k v.1 v.2.1 v.2.2.1 v.2.2.2.1 v.2.2.2.2.1 v.2.2.2.2.2.1 v.2.2.2.2.2.2)) (tab33 k)
def calc_shaped (k : Nat) (a1 : Int) (a2 : Int) (a3 : List UInt8) (a4 : List S29) : Option (Bool × (List S29)) :=
cond (a1 == (1 : Int)) (
let v5 : Bool := ((a4.length : Int) == (0 : Int))
some (v5, a4)) (
cond (a1 == (2 : Int)) (
cond (a1 == (2 : Int)) (
let v6 : Bool := ((a4.length : Int) == (2 : Int))
some (v6, a4)) (
cond (a1 == (6 : Int)) (
cond (a1 == (6 : Int)) (
let v7 : Bool := (decide ((a4.length : Int) > (0 : Int)))
some (v7, a4)) (
cond (a1 == (8 : Int)) (
let v8 : Bool := ((a4.length : Int) == (3 : Int))
some (v8, a4)) (
some (false, a4)))) (
cond (a1 == (7 : Int)) (
let v9 : Bool := (decide ((a4.length : Int) > (0 : Int)))
some (v9, a4)) (
cond (a1 == (8 : Int)) (
let v10 : Bool := ((a4.length : Int) == (3 : Int))
some (v10, a4)) (
some (false, a4)))))) (
cond (a1 == (3 : Int)) (
cond (a1 == (3 : Int)) (
let v11 : Bool := ((a4.length : Int) == (2 : Int))
some (v11, a4)) (
cond (a1 == (6 : Int)) (
cond (a1 == (6 : Int)) (
let v12 : Bool := (decide ((a4.length : Int) > (0 : Int)))
some (v12, a4)) (
cond (a1 == (8 : Int)) (
let v13 : Bool := ((a4.length : Int) == (3 : Int))
some (v13, a4)) (
some (false, a4)))) (
cond (a1 == (7 : Int)) (
let v14 : Bool := (decide ((a4.length : Int) > (0 : Int)))
some (v14, a4)) (
cond (a1 == (8 : Int)) (
let v15 : Bool := ((a4.length : Int) == (3 : Int))
some (v15, a4)) (
some (false, a4)))))) (
cond (a1 == (4 : Int)) (
cond (a1 == (4 : Int)) (
let v16 : Bool := ((a4.length : Int) == (2 : Int))
some (v16, a4)) (
cond (a1 == (6 : Int)) (
cond (a1 == (6 : Int)) (
let v17 : Bool := (decide ((a4.length : Int) > (0 : Int)))
some (v17, a4)) (
cond (a1 == (8 : Int)) (
let v18 : Bool := ((a4.length : Int) == (3 : Int))
some (v18, a4)) (
some (false, a4)))) (
cond (a1 == (7 : Int)) (
let v19 : Bool := (decide ((a4.length : Int) > (0 : Int)))
some (v19, a4)) (
cond (a1 == (8 : Int)) (
let v20 : Bool := ((a4.length : Int) == (3 : Int))
some (v20, a4)) (
some (false, a4)))))) (
cond (a1 == (5 : Int)) (
let v21 : Bool := ((a4.length : Int) == (2 : Int))
some (v21, a4)) (
cond (a1 == (6 : Int)) (
cond (a1 == (6 : Int)) (
let v22 : Bool := (decide ((a4.length : Int) > (0 : Int)))
some (v22, a4)) (
cond (a1 == (8 : Int)) (
let v23 : Bool := ((a4.length : Int) == (3 : Int))
some (v23, a4)) (
some (false, a4)))) (
cond (a1 == (7 : Int)) (
let v24 : Bool := (decide ((a4.length : Int) > (0 : Int)))
some (v24, a4)) (
cond (a1 == (8 : Int)) (
let v25 : Bool := ((a4.length : Int) == (3 : Int))
some (v25, a4)) (
some (false, a4)))))))))
def calc_shaped.kr (w0 : World) (k : Nat) : Kr T (Bool × (List S29)) := (kret (retK (cfg w0 (tab34 k)) Tryz.f19.results.toList 1 [] io57.pat))
def calc_shaped.cuts (w0 : World) (k : Nat) : Cuts T (Bool × (List S29)) := fun n => none
def calc_shaped.body : Code := bodyOf Tryz.f19
theorem calc_shaped.e (w0 : World) (k : Nat) : ∀ v, (fun v => calc_shaped k v.1 v.2.1 v.2.2.1 v.2.2.2) v = runK (cfg w0 (tab34 k)) Tryz.f19.ntmps (calc_shaped.kr w0 k) (annot (calc_shaped.cuts w0 k) calc_shaped.body) (entry (io56.enc v).1 (io56.enc v).2) (endK (calc_shaped.kr w0 k)) := by
  intro v; kernel_rfl
theorem calc_shaped.hb : Tryz.f19.body = some calc_shaped.body := by kernel_rfl
def tab35 (k : Nat) : Tab T := addTab 19 (line io56 io57 (false, []) (fun v => calc_shaped k v.1 v.2.1 v.2.2.1 v.2.2.2)) (tab34 k)
structure calc_reader__value.G.R where
  calc_reader__product : (List S64) → Int → Bool → Option (Bool × Int × (Int × Int × (List UInt8) × (List S29) × (List S64) × Int × Bool))
  calc_reader__sum : (List S64) → Int → Bool → Option (Bool × Int × (Int × Int × (List UInt8) × (List S29) × (List S64) × Int × Bool))
  calc_reader__value : Bool → (List S64) → Int → Bool → Option (Bool × Int × (Int × Int × (List UInt8) × (List S29) × (List S64) × Int × Bool))
def calc_reader__product.c20 (k : Nat) (r : calc_reader__value.G.R) (x18 : Int) (x19 : List S64) (x20 : Int) (x21 : Bool) (x22 : Int) (x23 : Int) (x24 : List UInt8) (x25 : Int) (x26 : Int) (x27 : List UInt8) (x28 : List S29) (kn : (List S64) → Int → Bool → Int → Int → (List UInt8) → Int → Int → (List UInt8) → (List S29) → Option (Bool × Int × (Int × Int × (List UInt8) × (List S29) × (List S64) × Int × Bool))) : Option (Bool × Int × (Int × Int × (List UInt8) × (List S29) × (List S64) × Int × Bool)) :=
(calc_reader__gap_v2 k x19 x20 x21).bind fun r29 =>
(r.calc_reader__value true r29.2.1 r29.2.2.1 r29.2.2.2).bind fun r30 =>
cond r30.1 (
none) (
let v31 : List S29 := [(⟨x25, x26, x27, x28⟩ : S29), (⟨r30.2.2.1, r30.2.2.2.1, r30.2.2.2.2.1, r30.2.2.2.2.2.1⟩ : S29)]
(calc_reader__made_v2 k x18 (0 : Int) ([]) r30.2.2.2.2.2.2.1 r30.2.2.2.2.2.2.2.1 r30.2.2.2.2.2.2.2.2 v31).bind fun r32 =>
cond r32.1 (
none) (
kn r32.2.2.2.2.2.1 r32.2.2.2.2.2.2.1 r32.2.2.2.2.2.2.2.1 x22 x23 x24 r32.2.2.1 r32.2.2.2.1 r32.2.2.2.2.1 r32.2.2.2.2.2.2.2.2))
def calc_reader__product.c7 (k : Nat) (r : calc_reader__value.G.R) : Nat → (List S64) → Int → Bool → Int → Int → (List UInt8) → Int → Int → (List UInt8) → (List S29) → Option (Bool × Int × (Int × Int × (List UInt8) × (List S29) × (List S64) × Int × Bool))
  | 0, _, _, _, _, _, _, _, _, _, _ => none
  | n + 1, x6, x7, x8, x9, x10, x11, x12, x13, x14, x15 =>
    (calc_reader__gap_v2 k x6 x7 x8).bind fun r16 =>
    (calc_reader__raw k ([42] : List UInt8) r16.2.1 r16.2.2.1 r16.1).bind fun r17 =>
    cond r17.1 (
    calc_reader__product.c20 k r (4 : Int) r17.2.1 r17.2.2.1 r17.2.2.2 x9 x10 x11 x12 x13 x14 x15 (fun (y33 : List S64) (y34 : Int) (y35 : Bool) (y36 : Int) (y37 : Int) (y38 : List UInt8) (y39 : Int) (y40 : Int) (y41 : List UInt8) (y42 : List S29) =>
    calc_reader__product.c7 k r n y33 y34 y35 y36 y37 y38 y39 y40 y41 y42)) (
    (calc_reader__raw k ([47] : List UInt8) r17.2.1 r17.2.2.1 r17.2.2.2).bind fun r43 =>
    cond r43.1 (
    calc_reader__product.c20 k r (5 : Int) r43.2.1 r43.2.2.1 r43.2.2.2 x9 x10 x11 x12 x13 x14 x15 (fun (y44 : List S64) (y45 : Int) (y46 : Bool) (y47 : Int) (y48 : Int) (y49 : List UInt8) (y50 : Int) (y51 : Int) (y52 : List UInt8) (y53 : List S29) =>
    calc_reader__product.c7 k r n y44 y45 y46 y47 y48 y49 y50 y51 y52 y53)) (
    some (false, (0 : Int), (x12, x13, x14, x15, r43.2.1, r43.2.2.1, r43.2.2.2))))
def calc_reader__product.nat (k : Nat) (r : calc_reader__value.G.R) (a1 : List S64) (a2 : Int) (a3 : Bool) : Option (Bool × Int × (Int × Int × (List UInt8) × (List S29) × (List S64) × Int × Bool)) :=
(calc_reader__gap_v2 k a1 a2 a3).bind fun r4 =>
(r.calc_reader__value true r4.2.1 r4.2.2.1 r4.2.2.2).bind fun r5 =>
cond r5.1 (
some (true, r5.2.1, ((0 : Int), (0 : Int), [], [], [], (0 : Int), false))) (
calc_reader__product.c7 k r k r5.2.2.2.2.2.2.1 r5.2.2.2.2.2.2.2.1 r5.2.2.2.2.2.2.2.2 (0 : Int) (0 : Int) ([]) r5.2.2.1 r5.2.2.2.1 r5.2.2.2.2.1 r5.2.2.2.2.2.1)
def calc_reader__sum.c18 (k : Nat) (r : calc_reader__value.G.R) (x18 : Bool) (x19 : Int) (x20 : List S64) (x21 : Int) (x22 : Bool) (x23 : Int) (x24 : Int) (x25 : List UInt8) (x26 : Int) (x27 : Int) (x28 : List UInt8) (x29 : List S29) (kn : (List S64) → Int → Bool → Int → Int → (List UInt8) → Int → Int → (List UInt8) → (List S29) → Option (Bool × Int × (Int × Int × (List UInt8) × (List S29) × (List S64) × Int × Bool))) : Option (Bool × Int × (Int × Int × (List UInt8) × (List S29) × (List S64) × Int × Bool)) :=
cond (decide (0 ≤ (1 : Int) ∧ (1 : Int) ≤ (x20.length : Int))) (
cond x18 (
(calc_reader__gap_v2 k (x20.drop (1 : Int).toNat) x21 x22).bind fun r30 =>
(calc_reader__need k (cond x18 r30.1 false) r30.2.1 r30.2.2.1 r30.2.2.2).bind fun r31 =>
cond r31.1 (
some (true, r31.2.1, ((0 : Int), (0 : Int), [], [], [], (0 : Int), false))) (
(r.calc_reader__product r31.2.2.1 r31.2.2.2.1 r31.2.2.2.2).bind fun r32 =>
cond r32.1 (
none) (
let v33 : List S29 := [(⟨x26, x27, x28, x29⟩ : S29), (⟨r32.2.2.1, r32.2.2.2.1, r32.2.2.2.2.1, r32.2.2.2.2.2.1⟩ : S29)]
(calc_reader__made_v2 k x19 (0 : Int) ([]) r32.2.2.2.2.2.2.1 r32.2.2.2.2.2.2.2.1 r32.2.2.2.2.2.2.2.2 v33).bind fun r34 =>
cond r34.1 (
none) (
kn r34.2.2.2.2.2.1 r34.2.2.2.2.2.2.1 r34.2.2.2.2.2.2.2.1 x23 x24 x25 r34.2.2.1 r34.2.2.2.1 r34.2.2.2.2.1 r34.2.2.2.2.2.2.2.2)))) (
cond (!x18) (
(calc_reader__need k false (x20.drop (1 : Int).toNat) x21 x22).bind fun r35 =>
cond r35.1 (
some (true, r35.2.1, ((0 : Int), (0 : Int), [], [], [], (0 : Int), false))) (
(r.calc_reader__product r35.2.2.1 r35.2.2.2.1 r35.2.2.2.2).bind fun r36 =>
cond r36.1 (
none) (
let v37 : List S29 := [(⟨x26, x27, x28, x29⟩ : S29), (⟨r36.2.2.1, r36.2.2.2.1, r36.2.2.2.2.1, r36.2.2.2.2.2.1⟩ : S29)]
(calc_reader__made_v2 k x19 (0 : Int) ([]) r36.2.2.2.2.2.2.1 r36.2.2.2.2.2.2.2.1 r36.2.2.2.2.2.2.2.2 v37).bind fun r38 =>
cond r38.1 (
none) (
kn r38.2.2.2.2.2.1 r38.2.2.2.2.2.2.1 r38.2.2.2.2.2.2.2.1 x23 x24 x25 r38.2.2.1 r38.2.2.2.1 r38.2.2.2.2.1 r38.2.2.2.2.2.2.2.2)))) none)) none
def calc_reader__sum.c5 (k : Nat) (r : calc_reader__value.G.R) : Nat → (List S64) → Int → Bool → Int → Int → (List UInt8) → Int → Int → (List UInt8) → (List S29) → Option (Bool × Int × (Int × Int × (List UInt8) × (List S29) × (List S64) × Int × Bool))
  | 0, _, _, _, _, _, _, _, _, _, _ => none
  | n + 1, x5, x6, x7, x8, x9, x10, x11, x12, x13, x14 =>
    let v15 : Bool := (decide ((x5.length : Int) > (0 : Int)))
    cond ((decide (0 ≤ (0 : Int) ∧ (0 : Int) < (x5.length : Int))) || !v15) (
    let v16 : List UInt8 := (x5.getD ((0 : Int).toNat) S64.d).Raw
    let v17 : Bool := (cond v15 (v16 == ([43] : List UInt8)) false)
    cond v17 (
    calc_reader__sum.c18 k r x7 (2 : Int) x5 x6 x7 x8 x9 x10 x11 x12 x13 x14 (fun (y39 : List S64) (y40 : Int) (y41 : Bool) (y42 : Int) (y43 : Int) (y44 : List UInt8) (y45 : Int) (y46 : Int) (y47 : List UInt8) (y48 : List S29) =>
    calc_reader__sum.c5 k r n y39 y40 y41 y42 y43 y44 y45 y46 y47 y48)) (
    let v49 : Bool := (decide ((x5.length : Int) > (0 : Int)))
    cond ((decide (0 ≤ (0 : Int) ∧ (0 : Int) < (x5.length : Int))) || !v49) (
    let v50 : List UInt8 := (x5.getD ((0 : Int).toNat) S64.d).Raw
    let v51 : Bool := (cond v49 (v50 == ([45] : List UInt8)) false)
    cond v51 (
    calc_reader__sum.c18 k r x7 (3 : Int) x5 x6 x7 x8 x9 x10 x11 x12 x13 x14 (fun (y52 : List S64) (y53 : Int) (y54 : Bool) (y55 : Int) (y56 : Int) (y57 : List UInt8) (y58 : Int) (y59 : Int) (y60 : List UInt8) (y61 : List S29) =>
    calc_reader__sum.c5 k r n y52 y53 y54 y55 y56 y57 y58 y59 y60 y61)) (
    some (false, (0 : Int), (x11, x12, x13, x14, x5, x6, x7)))) none)) none
def calc_reader__sum.nat (k : Nat) (r : calc_reader__value.G.R) (a1 : List S64) (a2 : Int) (a3 : Bool) : Option (Bool × Int × (Int × Int × (List UInt8) × (List S29) × (List S64) × Int × Bool)) :=
(r.calc_reader__product a1 a2 a3).bind fun r4 =>
cond r4.1 (
some (true, r4.2.1, ((0 : Int), (0 : Int), [], [], [], (0 : Int), false))) (
calc_reader__sum.c5 k r k r4.2.2.2.2.2.2.1 r4.2.2.2.2.2.2.2.1 r4.2.2.2.2.2.2.2.2 (0 : Int) (0 : Int) ([]) r4.2.2.1 r4.2.2.2.1 r4.2.2.2.2.1 r4.2.2.2.2.2.1)
def calc_reader__value.c43 (k : Nat) (r : calc_reader__value.G.R) : Nat → (List S64) → Int → Bool → Int → Int → (List UInt8) → Int → Int → (List UInt8) → (List S29) → Option (Bool × Int × (Int × Int × (List UInt8) × (List S29) × (List S64) × Int × Bool))
  | 0, _, _, _, _, _, _, _, _, _, _ => none
  | n + 1, x73, x74, x75, x76, x77, x78, x79, x80, x81, x82 =>
    (r.calc_reader__sum x73 x74 x75).bind fun r83 =>
    cond r83.1 (
    none) (
    let v84 : List S29 := [(⟨r83.2.2.1, r83.2.2.2.1, r83.2.2.2.2.1, r83.2.2.2.2.2.1⟩ : S29)]
    none)
def calc_reader__value.nat (k : Nat) (r : calc_reader__value.G.R) (a1 : Bool) (a2 : List S64) (a3 : Int) (a4 : Bool) : Option (Bool × Int × (Int × Int × (List UInt8) × (List S29) × (List S64) × Int × Bool)) :=
let v5 : Bool := (decide ((a2.length : Int) > (0 : Int)))
(calc_reader__need k v5 a2 a3 a4).bind fun r6 =>
cond r6.1 (
some (true, r6.2.1, ((0 : Int), (0 : Int), [], [], [], (0 : Int), false))) (
cond (decide (0 ≤ (0 : Int) ∧ (0 : Int) < (r6.2.2.1.length : Int))) (
let v7 : Int := (r6.2.2.1.getD ((0 : Int).toNat) S64.d).Kind
let v8 : List UInt8 := (r6.2.2.1.getD ((0 : Int).toNat) S64.d).Raw
let v9 : List UInt8 := (r6.2.2.1.getD ((0 : Int).toNat) S64.d).Value
let v10 : Int := (r6.2.2.1.getD ((0 : Int).toNat) S64.d).Num
cond (decide (0 ≤ (1 : Int) ∧ (1 : Int) ≤ (r6.2.2.1.length : Int))) (
let v11 : List S64 := (r6.2.2.1.drop (1 : Int).toNat)
cond (v7 == (7 : Int)) (
(dim_Read k v8).bind fun r12 =>
(calc_reader__need k (r12.2.2 == (0 : Int)) v11 r6.2.2.2.1 r6.2.2.2.2).bind fun r13 =>
cond r13.1 (
some (true, r13.2.1, ((0 : Int), (0 : Int), [], [], [], (0 : Int), false))) (
(calc_reader__made k (1 : Int) r12.1 r12.2.1 r13.2.2.1 r13.2.2.2.1 r13.2.2.2.2).bind fun r14 =>
cond r14.1 (
some (true, r14.2.1, ((0 : Int), (0 : Int), [], [], [], (0 : Int), false))) (
some (false, (0 : Int), (r14.2.2.1, r14.2.2.2.1, r14.2.2.2.2.1, ([] : List S29), r14.2.2.2.2.2.1, r14.2.2.2.2.2.2.1, r14.2.2.2.2.2.2.2))))) (
let v15 : Bool := (cond a1 (v8 == ([40] : List UInt8)) false)
cond v15 (
(r.calc_reader__sum v11 r6.2.2.2.1 r6.2.2.2.2).bind fun r16 =>
cond r16.1 (
some (true, r16.2.1, ((0 : Int), (0 : Int), [], [], [], (0 : Int), false))) (
(calc_reader__raw k ([41] : List UInt8) r16.2.2.2.2.2.2.1 r16.2.2.2.2.2.2.2.1 r16.2.2.2.2.2.2.2.2).bind fun r62 =>
(calc_reader__need k r62.1 r62.2.1 r62.2.2.1 r62.2.2.2).bind fun r63 =>
cond r63.1 (
some (true, r63.2.1, ((0 : Int), (0 : Int), [], [], [], (0 : Int), false))) (
some (false, (0 : Int), (r16.2.2.1, r16.2.2.2.1, r16.2.2.2.2.1, r16.2.2.2.2.2.1, r63.2.2.1, r63.2.2.2.1, r63.2.2.2.2))))) (
(calc_reader__need k (v7 == (2 : Int)) v11 r6.2.2.2.1 r6.2.2.2.2).bind fun r64 =>
cond r64.1 (
some (true, r64.2.1, ((0 : Int), (0 : Int), [], [], [], (0 : Int), false))) (
(calc_lower k v9).bind fun r65 =>
let v66 : Bool := (r65 == ([99, 97, 108, 99] : List UInt8))
cond v66 (
(r.calc_reader__sum r64.2.2.1 r64.2.2.2.1 r64.2.2.2.2).bind fun r67 =>
cond r67.1 (
some (true, r67.2.1, ((0 : Int), (0 : Int), [], [], [], (0 : Int), false))) (
(calc_reader__raw k ([41] : List UInt8) r67.2.2.2.2.2.2.1 r67.2.2.2.2.2.2.2.1 r67.2.2.2.2.2.2.2.2).bind fun r68 =>
(calc_reader__need k r68.1 r68.2.1 r68.2.2.1 r68.2.2.2).bind fun r69 =>
cond r69.1 (
some (true, r69.2.1, ((0 : Int), (0 : Int), [], [], [], (0 : Int), false))) (
some (false, (0 : Int), (r67.2.2.1, r67.2.2.2.1, r67.2.2.2.2.1, r67.2.2.2.2.2.1, r69.2.2.1, r69.2.2.2.1, r69.2.2.2.2))))) (
let v70 : List (List UInt8) := [[], [], [], [], [], [], ([109, 105, 110] : List UInt8), ([109, 97, 120] : List UInt8), ([99, 108, 97, 109, 112] : List UInt8)]
(slices_Index___string_string_ k v70 r65).bind fun r71 =>
(calc_reader__need k (decide (r71 > (0 : Int))) r64.2.2.1 r64.2.2.2.1 r64.2.2.2.2).bind fun r72 =>
cond r72.1 (
some (true, r72.2.1, ((0 : Int), (0 : Int), [], [], [], (0 : Int), false))) (
calc_reader__value.c43 k r k r72.2.2.1 r72.2.2.2.1 r72.2.2.2.2 (0 : Int) (0 : Int) ([]) r71 (0 : Int) ([]) ([] : List S29))))))) none) none)
def calc_reader__value.G.rec (k : Nat) : Nat → calc_reader__value.G.R
  | 0 => ⟨fun _ _ _ => none, fun _ _ _ => none, fun _ _ _ _ => none⟩
  | n + 1 => ⟨calc_reader__product.nat k (calc_reader__value.G.rec k n), calc_reader__sum.nat k (calc_reader__value.G.rec k n), calc_reader__value.nat k (calc_reader__value.G.rec k n)⟩
def calc_reader__product (k : Nat) : (List S64) → Int → Bool → Option (Bool × Int × (Int × Int × (List UInt8) × (List S29) × (List S64) × Int × Bool)) := (calc_reader__value.G.rec k k).calc_reader__product
def calc_reader__sum (k : Nat) : (List S64) → Int → Bool → Option (Bool × Int × (Int × Int × (List UInt8) × (List S29) × (List S64) × Int × Bool)) := (calc_reader__value.G.rec k k).calc_reader__sum
def calc_reader__value (k : Nat) : Bool → (List S64) → Int → Bool → Option (Bool × Int × (Int × Int × (List UInt8) × (List S29) × (List S64) × Int × Bool)) := (calc_reader__value.G.rec k k).calc_reader__value
def calc_reader__value.G.tab (k : Nat) (r : calc_reader__value.G.R) : Tab T := addTab 17 (lineP io40 io58 pe47 (0 : Int) ((0 : Int), (0 : Int), [], [], [], (0 : Int), false) (fun v => r.calc_reader__value v.1 v.2.1 v.2.2.1 v.2.2.2)) (addTab 31 (lineP io49 io58 pe47 (0 : Int) ((0 : Int), (0 : Int), [], [], [], (0 : Int), false) (fun v => r.calc_reader__sum v.1 v.2.1 v.2.2)) (addTab 56 (lineP io49 io58 pe47 (0 : Int) ((0 : Int), (0 : Int), [], [], [], (0 : Int), false) (fun v => r.calc_reader__product v.1 v.2.1 v.2.2)) (tab35 k)))
def calc_reader__product.kr (w0 : World) (k : Nat) (r : calc_reader__value.G.R) : Kr T (Bool × Int × (Int × Int × (List UInt8) × (List S29) × (List S64) × Int × Bool)) := (kpan (retK (cfg w0 (calc_reader__value.G.tab k r)) Tryz.f56.results.toList 1 [] io58.pat) pp47 (0 : Int) ((0 : Int), (0 : Int), [], [], [], (0 : Int), false))
def calc_reader__product.x20 : Ex → Option (List Nat × List Sp)
  | .norm => some ([0, 2, 3], [])
  | _ => none
def calc_reader__product.L20 (k : Nat) (r : calc_reader__value.G.R) (v : Int × (List S64) × Int × Bool × Int × Int × (List UInt8) × Int × Int × (List UInt8) × (List S29)) (K : Ex → St T → Option (Bool × Int × (Int × Int × (List UInt8) × (List S29) × (List S64) × Int × Bool))) : Option (Bool × Int × (Int × Int × (List UInt8) × (List S29) × (List S64) × Int × Bool)) := calc_reader__product.c20 k r v.1 v.2.1 v.2.2.1 v.2.2.2.1 v.2.2.2.2.1 v.2.2.2.2.2.1 v.2.2.2.2.2.2.1 v.2.2.2.2.2.2.2.1 v.2.2.2.2.2.2.2.2.1 v.2.2.2.2.2.2.2.2.2.1 v.2.2.2.2.2.2.2.2.2.2 (fun y66 y67 y68 y69 y70 y71 y72 y73 y74 y75 => K .norm (mkSt [0, 2, 3] (io60.enc (y66, y67, y68, y69, y70, y71, y72, y73, y74, y75))))
def calc_reader__product.x7 : Ex → Option (List Nat × List Sp)
  | _ => none
def calc_reader__product.L7 (k : Nat) (r : calc_reader__value.G.R) (n : Nat) (v : (List S64) × Int × Bool × Int × Int × (List UInt8) × Int × Int × (List UInt8) × (List S29)) (K : Ex → St T → Option (Bool × Int × (Int × Int × (List UInt8) × (List S29) × (List S64) × Int × Bool))) : Option (Bool × Int × (Int × Int × (List UInt8) × (List S29) × (List S64) × Int × Bool)) := calc_reader__product.c7 k r n v.1 v.2.1 v.2.2.1 v.2.2.2.1 v.2.2.2.2.1 v.2.2.2.2.2.1 v.2.2.2.2.2.2.1 v.2.2.2.2.2.2.2.1 v.2.2.2.2.2.2.2.2.1 v.2.2.2.2.2.2.2.2.2
def calc_reader__product.cuts (w0 : World) (k : Nat) (r : calc_reader__value.G.R) : Cuts T (Bool × Int × (Int × Int × (List UInt8) × (List S29) × (List S64) × Int × Bool)) := fun n => bif n.beq 20 then some (entK (cfg w0 (calc_reader__value.G.tab k r)) 1 [0, 2, 3, 4] [] io59.pat (calc_reader__product.L20 k r)) else bif n.beq 7 then some (entK (cfg w0 (calc_reader__value.G.tab k r)) 1 [0, 2, 3] [.box 3 29] io61.pat (calc_reader__product.L7 k r k)) else none
def calc_reader__product.body : Code := bodyOf Tryz.f56
def calc_reader__product.b20 : Code := findD 20 calc_reader__product.body
theorem calc_reader__product.s20 (w0 : World) (k : Nat) (r : calc_reader__value.G.R) : ∀ v K, calc_reader__product.L20 k r v K = runK (cfg w0 (calc_reader__value.G.tab k r)) Tryz.f56.ntmps (calc_reader__product.kr w0 k r) (annot (calc_reader__product.cuts w0 k r) calc_reader__product.b20) (mkSt [0, 2, 3, 4] (io59.enc v)) (outK (cfg w0 (calc_reader__value.G.tab k r)) 1 calc_reader__product.x20 K) := by
  intro v K; kernel_rfl
def calc_reader__product.b7 : Code := findD 7 calc_reader__product.body
theorem calc_reader__product.s7 (w0 : World) (k : Nat) (r : calc_reader__value.G.R) : ∀ n v K, calc_reader__product.L7 k r (n + 1) v K = runK (cfg w0 (calc_reader__value.G.tab k r)) Tryz.f56.ntmps (calc_reader__product.kr w0 k r) (annot (calc_reader__product.cuts w0 k r) calc_reader__product.b7) (mkSt [0, 2, 3] (io61.enc v)) (loopK (cfg w0 (calc_reader__value.G.tab k r)) 1 calc_reader__product.x7 (entK (cfg w0 (calc_reader__value.G.tab k r)) 1 [0, 2, 3] [.box 3 29] io61.pat (calc_reader__product.L7 k r n)) K) := by
  intro n v K; kernel_rfl
theorem calc_reader__product.e (w0 : World) (k : Nat) (r : calc_reader__value.G.R) : ∀ v, (fun v => calc_reader__product.nat k r v.1 v.2.1 v.2.2) v = runK (cfg w0 (calc_reader__value.G.tab k r)) Tryz.f56.ntmps (calc_reader__product.kr w0 k r) (annot (calc_reader__product.cuts w0 k r) calc_reader__product.body) (entry (io49.enc v).1 (io49.enc v).2) (endK (calc_reader__product.kr w0 k r)) := by
  intro v; kernel_rfl
theorem calc_reader__product.hb : Tryz.f56.body = some calc_reader__product.body := by kernel_rfl
def calc_reader__sum.kr (w0 : World) (k : Nat) (r : calc_reader__value.G.R) : Kr T (Bool × Int × (Int × Int × (List UInt8) × (List S29) × (List S64) × Int × Bool)) := (kpan (retK (cfg w0 (calc_reader__value.G.tab k r)) Tryz.f31.results.toList 1 [] io58.pat) pp47 (0 : Int) ((0 : Int), (0 : Int), [], [], [], (0 : Int), false))
def calc_reader__sum.x18 : Ex → Option (List Nat × List Sp)
  | .norm => some ([0, 2, 3], [])
  | _ => none
def calc_reader__sum.L18 (k : Nat) (r : calc_reader__value.G.R) (v : Bool × Int × (List S64) × Int × Bool × Int × Int × (List UInt8) × Int × Int × (List UInt8) × (List S29)) (K : Ex → St T → Option (Bool × Int × (Int × Int × (List UInt8) × (List S29) × (List S64) × Int × Bool))) : Option (Bool × Int × (Int × Int × (List UInt8) × (List S29) × (List S64) × Int × Bool)) := calc_reader__sum.c18 k r v.1 v.2.1 v.2.2.1 v.2.2.2.1 v.2.2.2.2.1 v.2.2.2.2.2.1 v.2.2.2.2.2.2.1 v.2.2.2.2.2.2.2.1 v.2.2.2.2.2.2.2.2.1 v.2.2.2.2.2.2.2.2.2.1 v.2.2.2.2.2.2.2.2.2.2.1 v.2.2.2.2.2.2.2.2.2.2.2 (fun y76 y77 y78 y79 y80 y81 y82 y83 y84 y85 => K .norm (mkSt [0, 2, 3] (io60.enc (y76, y77, y78, y79, y80, y81, y82, y83, y84, y85))))
def calc_reader__sum.x5 : Ex → Option (List Nat × List Sp)
  | _ => none
def calc_reader__sum.L5 (k : Nat) (r : calc_reader__value.G.R) (n : Nat) (v : (List S64) × Int × Bool × Int × Int × (List UInt8) × Int × Int × (List UInt8) × (List S29)) (K : Ex → St T → Option (Bool × Int × (Int × Int × (List UInt8) × (List S29) × (List S64) × Int × Bool))) : Option (Bool × Int × (Int × Int × (List UInt8) × (List S29) × (List S64) × Int × Bool)) := calc_reader__sum.c5 k r n v.1 v.2.1 v.2.2.1 v.2.2.2.1 v.2.2.2.2.1 v.2.2.2.2.2.1 v.2.2.2.2.2.2.1 v.2.2.2.2.2.2.2.1 v.2.2.2.2.2.2.2.2.1 v.2.2.2.2.2.2.2.2.2
def calc_reader__sum.cuts (w0 : World) (k : Nat) (r : calc_reader__value.G.R) : Cuts T (Bool × Int × (Int × Int × (List UInt8) × (List S29) × (List S64) × Int × Bool)) := fun n => bif n.beq 18 then some (entK (cfg w0 (calc_reader__value.G.tab k r)) 1 [0, 2, 3, 4, 5] [] io62.pat (calc_reader__sum.L18 k r)) else bif n.beq 5 then some (entK (cfg w0 (calc_reader__value.G.tab k r)) 1 [0, 2, 3] [.box 3 29] io61.pat (calc_reader__sum.L5 k r k)) else none
def calc_reader__sum.body : Code := bodyOf Tryz.f31
def calc_reader__sum.b18 : Code := findD 18 calc_reader__sum.body
theorem calc_reader__sum.s18 (w0 : World) (k : Nat) (r : calc_reader__value.G.R) : ∀ v K, calc_reader__sum.L18 k r v K = runK (cfg w0 (calc_reader__value.G.tab k r)) Tryz.f31.ntmps (calc_reader__sum.kr w0 k r) (annot (calc_reader__sum.cuts w0 k r) calc_reader__sum.b18) (mkSt [0, 2, 3, 4, 5] (io62.enc v)) (outK (cfg w0 (calc_reader__value.G.tab k r)) 1 calc_reader__sum.x18 K) := by
  intro v K; kernel_rfl
def calc_reader__sum.b5 : Code := findD 5 calc_reader__sum.body
theorem calc_reader__sum.s5 (w0 : World) (k : Nat) (r : calc_reader__value.G.R) : ∀ n v K, calc_reader__sum.L5 k r (n + 1) v K = runK (cfg w0 (calc_reader__value.G.tab k r)) Tryz.f31.ntmps (calc_reader__sum.kr w0 k r) (annot (calc_reader__sum.cuts w0 k r) calc_reader__sum.b5) (mkSt [0, 2, 3] (io61.enc v)) (loopK (cfg w0 (calc_reader__value.G.tab k r)) 1 calc_reader__sum.x5 (entK (cfg w0 (calc_reader__value.G.tab k r)) 1 [0, 2, 3] [.box 3 29] io61.pat (calc_reader__sum.L5 k r n)) K) := by
  intro n v K; kernel_rfl
theorem calc_reader__sum.e (w0 : World) (k : Nat) (r : calc_reader__value.G.R) : ∀ v, (fun v => calc_reader__sum.nat k r v.1 v.2.1 v.2.2) v = runK (cfg w0 (calc_reader__value.G.tab k r)) Tryz.f31.ntmps (calc_reader__sum.kr w0 k r) (annot (calc_reader__sum.cuts w0 k r) calc_reader__sum.body) (entry (io49.enc v).1 (io49.enc v).2) (endK (calc_reader__sum.kr w0 k r)) := by
  intro v; kernel_rfl
theorem calc_reader__sum.hb : Tryz.f31.body = some calc_reader__sum.body := by kernel_rfl
def calc_reader__value.kr (w0 : World) (k : Nat) (r : calc_reader__value.G.R) : Kr T (Bool × Int × (Int × Int × (List UInt8) × (List S29) × (List S64) × Int × Bool)) := (kpan (retK (cfg w0 (calc_reader__value.G.tab k r)) Tryz.f17.results.toList 1 [.agg 0 29] io58.pat) pp47 (0 : Int) ((0 : Int), (0 : Int), [], [], [], (0 : Int), false))
def calc_reader__value.x43 : Ex → Option (List Nat × List Sp)
  | _ => none
def calc_reader__value.L43 (k : Nat) (r : calc_reader__value.G.R) (n : Nat) (v : (List S64) × Int × Bool × Int × Int × (List UInt8) × Int × Int × (List UInt8) × (List S29)) (K : Ex → St T → Option (Bool × Int × (Int × Int × (List UInt8) × (List S29) × (List S64) × Int × Bool))) : Option (Bool × Int × (Int × Int × (List UInt8) × (List S29) × (List S64) × Int × Bool)) := calc_reader__value.c43 k r n v.1 v.2.1 v.2.2.1 v.2.2.2.1 v.2.2.2.2.1 v.2.2.2.2.2.1 v.2.2.2.2.2.2.1 v.2.2.2.2.2.2.2.1 v.2.2.2.2.2.2.2.2.1 v.2.2.2.2.2.2.2.2.2
def calc_reader__value.cuts (w0 : World) (k : Nat) (r : calc_reader__value.G.R) : Cuts T (Bool × Int × (Int × Int × (List UInt8) × (List S29) × (List S64) × Int × Bool)) := fun n => bif n.beq 43 then some (entK (cfg w0 (calc_reader__value.G.tab k r)) 1 [0, 4, 12] [.box 12 29] io61.pat (calc_reader__value.L43 k r k)) else none
def calc_reader__value.body : Code := bodyOf Tryz.f17
def calc_reader__value.b43 : Code := findD 43 calc_reader__value.body
theorem calc_reader__value.s43 (w0 : World) (k : Nat) (r : calc_reader__value.G.R) : ∀ n v K, calc_reader__value.L43 k r (n + 1) v K = runK (cfg w0 (calc_reader__value.G.tab k r)) Tryz.f17.ntmps (calc_reader__value.kr w0 k r) (annot (calc_reader__value.cuts w0 k r) calc_reader__value.b43) (mkSt [0, 4, 12] (io61.enc v)) (loopK (cfg w0 (calc_reader__value.G.tab k r)) 1 calc_reader__value.x43 (entK (cfg w0 (calc_reader__value.G.tab k r)) 1 [0, 4, 12] [.box 12 29] io61.pat (calc_reader__value.L43 k r n)) K) := by
  intro n v K; kernel_rfl
theorem calc_reader__value.e (w0 : World) (k : Nat) (r : calc_reader__value.G.R) : ∀ v, (fun v => calc_reader__value.nat k r v.1 v.2.1 v.2.2.1 v.2.2.2) v = runK (cfg w0 (calc_reader__value.G.tab k r)) Tryz.f17.ntmps (calc_reader__value.kr w0 k r) (annot (calc_reader__value.cuts w0 k r) calc_reader__value.body) (entry (io40.enc v).1 (io40.enc v).2) (endK (calc_reader__value.kr w0 k r)) := by
  intro v; kernel_rfl
theorem calc_reader__value.hb : Tryz.f17.body = some calc_reader__value.body := by kernel_rfl
def tab36 (k : Nat) : Tab T := calc_reader__value.G.tab k (calc_reader__value.G.rec k k)
def calc_Read (k : Nat) (a1 : List UInt8) : Option (Int × Int × (List UInt8) × (List S29) × Int) :=
let v2 : Bool := (decide ((a1.length : Int) > (400 : Int)))
cond v2 (
some ((0 : Int), (0 : Int), [], ([] : List S29), (2 : Int))) (
(csstok_Cut k a1).bind fun r3 =>
(calc_reader__gap k (0 : Int) false r3).bind fun r4 =>
(calc_reader__value k false r4.2.1 r4.2.2.1 r4.2.2.2).bind fun r5 =>
cond r5.1 (
some ((0 : Int), (0 : Int), [], ([] : List S29), r5.2.1)) (
(calc_reader__gap_v2 k r5.2.2.2.2.2.2.1 r5.2.2.2.2.2.2.2.1 r5.2.2.2.2.2.2.2.2).bind fun r6 =>
let v7 : Bool := ((r6.2.1.length : Int) == (0 : Int))
(calc_reader__need k v7 r6.2.1 r6.2.2.1 r6.2.2.2).bind fun r8 =>
cond r8.1 (
some ((0 : Int), (0 : Int), [], ([] : List S29), r8.2.1)) (
some (r5.2.2.1, r5.2.2.2.1, r5.2.2.2.2.1, r5.2.2.2.2.2.1, (0 : Int)))))
def calc_Read.body : Code := bodyOf Tryz.f10
theorem calc_Read.e (w0 : World) (k : Nat) : ∀ v, (fun v => calc_Read k v) v = runDf (cfg w0 (tab36 k)) Tryz.f10.ntmps (retK (cfg w0 (tab36 k)) Tryz.f10.results.toList 0 [.agg 0 29] io63.pat) (F14 (cfg w0 (tab36 k))) (seqA calc_Read.body) (seqC calc_Read.body) (seqB calc_Read.body) 9 14 #[.tmp 2, .tmp 3].toList (entry (io1.enc v).1 (io1.enc v).2) := by
  intro v; kernel_rfl
theorem calc_Read.hb : Tryz.f10.body = some (.seq (seqA calc_Read.body) (.seq (seqC calc_Read.body) (.seq (.region 3 #[⟨some 9, .makeFunc (.func 14) #[] #[.tmp 2, .tmp 3], 1, "calc.go:199", #[], none⟩, ⟨none, .defer ⟨.value (.tmp 9), #[], #[]⟩, 0, "calc.go:199", #[⟨0, .data⟩], none⟩] false) (seqB calc_Read.body)))) := by kernel_rfl
def tab37 (k : Nat) : Tab T := addTab 10 (line io1 io63 ((0 : Int), (0 : Int), [], [], (0 : Int)) (fun v => calc_Read k v)) (tab36 k)
def calc_shaped_v2 (k : Nat) (a1 : Int) (a2 : Int) (a3 : List UInt8) (a4 : List S29) : Option (Bool) :=
cond (a1 == (1 : Int)) (
let v5 : Bool := ((a4.length : Int) == (0 : Int))
some v5) (
cond (a1 == (2 : Int)) (
cond (a1 == (2 : Int)) (
let v6 : Bool := ((a4.length : Int) == (2 : Int))
some v6) (
cond (a1 == (6 : Int)) (
cond (a1 == (6 : Int)) (
let v7 : Bool := (decide ((a4.length : Int) > (0 : Int)))
some v7) (
cond (a1 == (8 : Int)) (
let v8 : Bool := ((a4.length : Int) == (3 : Int))
some v8) (
some false))) (
cond (a1 == (7 : Int)) (
let v9 : Bool := (decide ((a4.length : Int) > (0 : Int)))
some v9) (
cond (a1 == (8 : Int)) (
let v10 : Bool := ((a4.length : Int) == (3 : Int))
some v10) (
some false))))) (
cond (a1 == (3 : Int)) (
cond (a1 == (3 : Int)) (
let v11 : Bool := ((a4.length : Int) == (2 : Int))
some v11) (
cond (a1 == (6 : Int)) (
cond (a1 == (6 : Int)) (
let v12 : Bool := (decide ((a4.length : Int) > (0 : Int)))
some v12) (
cond (a1 == (8 : Int)) (
let v13 : Bool := ((a4.length : Int) == (3 : Int))
some v13) (
some false))) (
cond (a1 == (7 : Int)) (
let v14 : Bool := (decide ((a4.length : Int) > (0 : Int)))
some v14) (
cond (a1 == (8 : Int)) (
let v15 : Bool := ((a4.length : Int) == (3 : Int))
some v15) (
some false))))) (
cond (a1 == (4 : Int)) (
cond (a1 == (4 : Int)) (
let v16 : Bool := ((a4.length : Int) == (2 : Int))
some v16) (
cond (a1 == (6 : Int)) (
cond (a1 == (6 : Int)) (
let v17 : Bool := (decide ((a4.length : Int) > (0 : Int)))
some v17) (
cond (a1 == (8 : Int)) (
let v18 : Bool := ((a4.length : Int) == (3 : Int))
some v18) (
some false))) (
cond (a1 == (7 : Int)) (
let v19 : Bool := (decide ((a4.length : Int) > (0 : Int)))
some v19) (
cond (a1 == (8 : Int)) (
let v20 : Bool := ((a4.length : Int) == (3 : Int))
some v20) (
some false))))) (
cond (a1 == (5 : Int)) (
let v21 : Bool := ((a4.length : Int) == (2 : Int))
some v21) (
cond (a1 == (6 : Int)) (
cond (a1 == (6 : Int)) (
let v22 : Bool := (decide ((a4.length : Int) > (0 : Int)))
some v22) (
cond (a1 == (8 : Int)) (
let v23 : Bool := ((a4.length : Int) == (3 : Int))
some v23) (
some false))) (
cond (a1 == (7 : Int)) (
let v24 : Bool := (decide ((a4.length : Int) > (0 : Int)))
some v24) (
cond (a1 == (8 : Int)) (
let v25 : Bool := ((a4.length : Int) == (3 : Int))
some v25) (
some false))))))))
def calc_shaped_v2.kr (w0 : World) (k : Nat) : Kr T (Bool) := (kret (retK (cfg w0 (tab37 k)) Tryz.f19.results.toList 0 [] io2.pat))
def calc_shaped_v2.cuts (w0 : World) (k : Nat) : Cuts T (Bool) := fun n => none
def calc_shaped_v2.body : Code := bodyOf Tryz.f19
theorem calc_shaped_v2.e (w0 : World) (k : Nat) : ∀ v, (fun v => calc_shaped_v2 k v.1 v.2.1 v.2.2.1 v.2.2.2) v = runK (cfg w0 (tab37 k)) Tryz.f19.ntmps (calc_shaped_v2.kr w0 k) (annot (calc_shaped_v2.cuts w0 k) calc_shaped_v2.body) (entry (io64.enc v).1 (io64.enc v).2) (endK (calc_shaped_v2.kr w0 k)) := by
  intro v; kernel_rfl
theorem calc_shaped_v2.hb : Tryz.f19.body = some calc_shaped_v2.body := by kernel_rfl
def tab38 (k : Nat) : Tab T := addTab 19 (line io64 io2 false (fun v => calc_shaped_v2 k v.1 v.2.1 v.2.2.1 v.2.2.2)) (tab37 k)
def strconv_Itoa (k : Nat) (a11 : Int) : Option (List UInt8) := itoaS a11
def tab39 (k : Nat) : Tab T := addTab 35 (line io4 io1 [] (fun v => strconv_Itoa k v)) (tab38 k)
def strings_TrimRight (k : Nat) (a15 : List UInt8) (a16 : List UInt8) : Option (List UInt8) := trimR a15 a16
def tab40 (k : Nat) : Tab T := addTab 36 (line io0 io1 [] (fun v => strings_TrimRight k v.1 v.2)) (tab39 k)
def dim_Text.c18 (k : Nat) (x15 : List UInt8) (x16 : Int) (x17 : List UInt8)  : Option (List UInt8) :=
cond (Nat.ble (x15.length + x17.length) 9223372036854775807) (
some (x15 ++ x17)) none
def dim_Text.c10 (k : Nat) (x5 : Int) (x6 : List UInt8) (x7 : Int) (x8 : List UInt8)  : Option (List UInt8) :=
cond ((1000 : Int) != 0) (
let v9 : Int := (IntKind.wrap .i64 (Int.tdiv x5 (1000 : Int)))
(strconv_Itoa k v9).bind fun r10 =>
cond (Nat.ble (x6.length + r10.length) 9223372036854775807) (
cond ((1000 : Int) != 0) (
let v11 : Int := (IntKind.wrap .i64 ((1000 : Int) + (Int.tmod x5 (1000 : Int))))
(strconv_Itoa k v11).bind fun r12 =>
cond (decide (0 ≤ (1 : Int) ∧ (1 : Int) ≤ (r12.length : Int))) (
(strings_TrimRight k (r12.drop (1 : Int).toNat) ([48] : List UInt8)).bind fun r13 =>
cond (!(r13 == ([] : List UInt8))) (
cond (Nat.ble (([46] : List UInt8).length + r13.length) 9223372036854775807) (
cond (Nat.ble ((x6 ++ r10).length + (([46] : List UInt8) ++ r13).length) 9223372036854775807) (
let v14 : List UInt8 := ((x6 ++ r10) ++ (([46] : List UInt8) ++ r13))
dim_Text.c18 k v14 x7 x8) none) none) (
dim_Text.c18 k (x6 ++ r10) x7 x8)) none) none) none) none
def dim_Text (k : Nat) (a1 : Int) (a2 : List UInt8) : Option (List UInt8) :=
let v3 : Int := (if (-1000000000 : Int) > a1 then (-1000000000 : Int) else a1)
let v4 : Int := (if (1000000000 : Int) < v3 then (1000000000 : Int) else v3)
cond (decide (v4 < (0 : Int))) (
dim_Text.c10 k (IntKind.wrap .i64 (0 - v4)) ([45] : List UInt8) a1 a2) (
dim_Text.c10 k v4 ([] : List UInt8) a1 a2)
def dim_Text.kr (w0 : World) (k : Nat) : Kr T (List UInt8) := (kret (retK (cfg w0 (tab40 k)) Tryz.f20.results.toList 0 [] io1.pat))
def dim_Text.x18 : Ex → Option (List Nat × List Sp)
  | _ => none
def dim_Text.L18 (k : Nat) (v : (List UInt8) × Int × (List UInt8)) (K : Ex → St T → Option (List UInt8)) : Option (List UInt8) := dim_Text.c18 k v.1 v.2.1 v.2.2
def dim_Text.x10 : Ex → Option (List Nat × List Sp)
  | _ => none
def dim_Text.L10 (k : Nat) (v : Int × (List UInt8) × Int × (List UInt8)) (K : Ex → St T → Option (List UInt8)) : Option (List UInt8) := dim_Text.c10 k v.1 v.2.1 v.2.2.1 v.2.2.2
def dim_Text.cuts (w0 : World) (k : Nat) : Cuts T (List UInt8) := fun n => bif n.beq 18 then some (entK (cfg w0 (tab40 k)) 0 [1, 5] [] io66.pat (dim_Text.L18 k)) else bif n.beq 10 then some (entK (cfg w0 (tab40 k)) 0 [1, 3, 4] [] io67.pat (dim_Text.L10 k)) else none
def dim_Text.body : Code := bodyOf Tryz.f20
def dim_Text.b18 : Code := findD 18 dim_Text.body
theorem dim_Text.s18 (w0 : World) (k : Nat) : ∀ v K, dim_Text.L18 k v K = runK (cfg w0 (tab40 k)) Tryz.f20.ntmps (dim_Text.kr w0 k) (annot (dim_Text.cuts w0 k) dim_Text.b18) (mkSt [1, 5] (io66.enc v)) (outK (cfg w0 (tab40 k)) 0 dim_Text.x18 K) := by
  intro v K; kernel_rfl
def dim_Text.b10 : Code := findD 10 dim_Text.body
theorem dim_Text.s10 (w0 : World) (k : Nat) : ∀ v K, dim_Text.L10 k v K = runK (cfg w0 (tab40 k)) Tryz.f20.ntmps (dim_Text.kr w0 k) (annot (dim_Text.cuts w0 k) dim_Text.b10) (mkSt [1, 3, 4] (io67.enc v)) (outK (cfg w0 (tab40 k)) 0 dim_Text.x10 K) := by
  intro v K; kernel_rfl
theorem dim_Text.e (w0 : World) (k : Nat) : ∀ v, (fun v => dim_Text k v.1 v.2) v = runK (cfg w0 (tab40 k)) Tryz.f20.ntmps (dim_Text.kr w0 k) (annot (dim_Text.cuts w0 k) dim_Text.body) (entry (io65.enc v).1 (io65.enc v).2) (endK (dim_Text.kr w0 k)) := by
  intro v; kernel_rfl
theorem dim_Text.hb : Tryz.f20.body = some dim_Text.body := by kernel_rfl
def tab41 (k : Nat) : Tab T := addTab 20 (line io65 io1 [] (fun v => dim_Text k v.1 v.2)) (tab40 k)
def calc_word (k : Nat) (a1 : Int) : Option (List UInt8) :=
cond (a1 == (6 : Int)) (
some ([109, 105, 110] : List UInt8)) (
cond (a1 == (7 : Int)) (
some ([109, 97, 120] : List UInt8)) (
cond (a1 == (8 : Int)) (
let v2 : List UInt8 := ([99, 108, 97, 109, 112] : List UInt8)
some v2) (
some ([] : List UInt8))))
def calc_word.kr (w0 : World) (k : Nat) : Kr T (List UInt8) := (kret (retK (cfg w0 (tab41 k)) Tryz.f21.results.toList 0 [] io1.pat))
def calc_word.cuts (w0 : World) (k : Nat) : Cuts T (List UInt8) := fun n => none
def calc_word.body : Code := bodyOf Tryz.f21
theorem calc_word.e (w0 : World) (k : Nat) : ∀ v, (fun v => calc_word k v) v = runK (cfg w0 (tab41 k)) Tryz.f21.ntmps (calc_word.kr w0 k) (annot (calc_word.cuts w0 k) calc_word.body) (entry (io4.enc v).1 (io4.enc v).2) (endK (calc_word.kr w0 k)) := by
  intro v; kernel_rfl
theorem calc_word.hb : Tryz.f21.body = some calc_word.body := by kernel_rfl
def tab42 (k : Nat) : Tab T := addTab 21 (line io4 io1 [] (fun v => calc_word k v)) (tab41 k)
def calc_sign (k : Nat) (a1 : Int) : Option (List UInt8) :=
cond (a1 == (2 : Int)) (
some ([32, 43, 32] : List UInt8)) (
cond (a1 == (3 : Int)) (
some ([32, 45, 32] : List UInt8)) (
cond (a1 == (4 : Int)) (
some ([32, 42, 32] : List UInt8)) (
cond (a1 == (5 : Int)) (
some ([32, 47, 32] : List UInt8)) (
some ([44, 32] : List UInt8)))))
def calc_sign.kr (w0 : World) (k : Nat) : Kr T (List UInt8) := (kret (retK (cfg w0 (tab42 k)) Tryz.f23.results.toList 0 [] io1.pat))
def calc_sign.cuts (w0 : World) (k : Nat) : Cuts T (List UInt8) := fun n => none
def calc_sign.body : Code := bodyOf Tryz.f23
theorem calc_sign.e (w0 : World) (k : Nat) : ∀ v, (fun v => calc_sign k v) v = runK (cfg w0 (tab42 k)) Tryz.f23.ntmps (calc_sign.kr w0 k) (annot (calc_sign.cuts w0 k) calc_sign.body) (entry (io4.enc v).1 (io4.enc v).2) (endK (calc_sign.kr w0 k)) := by
  intro v; kernel_rfl
theorem calc_sign.hb : Tryz.f23.body = some calc_sign.body := by kernel_rfl
def tab43 (k : Nat) : Tab T := addTab 23 (line io4 io1 [] (fun v => calc_sign k v)) (tab42 k)
def f__strings_Builder__Grow (k : Nat) (a23 : Int) (a24 : List UInt8) : Option (List UInt8) := growS a24 a23
def tab44 (k : Nat) : Tab T := addTab 37 (line io15 io68 [] (fun v => f__strings_Builder__Grow k v.1 v.2)) (tab43 k)
def strings_Join.c20 (k : Nat) (x8 : List UInt8) (x9 : Int) (kn : (List UInt8) → Int → Option (Bool × (List UInt8) × (List UInt8))) : Option (Bool × (List UInt8) × (List UInt8)) :=
let v10 : Int := (IntKind.wrap .i64 (((0 : Nat) : Int) - (1 : Int)))
let v11 : Int := (IntKind.wrap .i64 ((x8.length : Int) * v10))
kn x8 (IntKind.wrap .i64 (x9 + v11))
def strings_Join.c25 (k : Nat) : Nat → (List UInt8) → Int → Int → Int → ((List UInt8) → Int → Option (Bool × (List UInt8) × (List UInt8))) → Option (Bool × (List UInt8) × (List UInt8))
  | 0, _, _, _, _, _ => none
  | n + 1, x16, x17, x18, x19, k1 =>
    cond (decide (x19 < x18)) (
    none) (
    k1 x16 x17)
def strings_Join.c22 (k : Nat) (x14 : List UInt8) (x15 : Int)  : Option (Bool × (List UInt8) × (List UInt8)) :=
strings_Join.c25 k k x14 x15 ((0 : Nat) : Int) (0 : Int) (fun (y20 : List UInt8) (y21 : Int) =>
(f__strings_Builder__Grow k y21 ([] : List UInt8)).bind fun r22 =>
none)
def strings_Join (k : Nat) (a1 : List UInt8) : Option (Bool × (List UInt8) × (List UInt8)) :=
let v2 : Bool := (((0 : Nat) : Int) == (0 : Int))
cond v2 (
some (false, [], ([] : List UInt8))) (
let v3 : Bool := (((0 : Nat) : Int) == (1 : Int))
cond v3 (
none) (
let v4 : Bool := (decide ((a1.length : Int) > (0 : Int)))
cond v4 (
let v5 : Int := (IntKind.wrap .i64 (((0 : Nat) : Int) - (1 : Int)))
cond (v5 != 0) (
let v6 : Int := (IntKind.wrap .i64 (Int.tdiv (9223372036854775807 : Int) v5))
let v7 : Bool := (decide ((a1.length : Int) ≥ v6))
cond v7 (
some (true, ([115, 116, 114, 105, 110, 103, 115, 58, 32, 74, 111, 105, 110, 32, 111, 117, 116, 112, 117, 116, 32, 108, 101, 110, 103, 116, 104, 32, 111, 118, 101, 114, 102, 108, 111, 119] : List UInt8), [])) (
strings_Join.c20 k a1 (0 : Int) (fun (y12 : List UInt8) (y13 : Int) =>
strings_Join.c22 k y12 y13))) none) (
strings_Join.c22 k a1 (0 : Int))))
def strings_Join.kr (w0 : World) (k : Nat) : Kr T (Bool × (List UInt8) × (List UInt8)) := (kpan (retK (cfg w0 (tab44 k)) Tryz.f22.results.toList 0 [] io1.pat) pp9 [] [])
def strings_Join.x20 : Ex → Option (List Nat × List Sp)
  | .norm => some ([0, 1, 5], [])
  | _ => none
def strings_Join.L20 (k : Nat) (v : (List UInt8) × Int) (K : Ex → St T → Option (Bool × (List UInt8) × (List UInt8))) : Option (Bool × (List UInt8) × (List UInt8)) := strings_Join.c20 k v.1 v.2 (fun y86 y87 => K .norm (mkSt [0, 1, 5] (io70.enc (y86, y87))))
def strings_Join.x25 : Ex → Option (List Nat × List Sp)
  | .exit 1 => some ([0, 1, 5], [])
  | _ => none
def strings_Join.L25 (k : Nat) (n : Nat) (v : (List UInt8) × Int × Int × Int) (K : Ex → St T → Option (Bool × (List UInt8) × (List UInt8))) : Option (Bool × (List UInt8) × (List UInt8)) := strings_Join.c25 k n v.1 v.2.1 v.2.2.1 v.2.2.2 (fun y88 y89 => K (.exit 1) (mkSt [0, 1, 5] (io70.enc (y88, y89))))
def strings_Join.x22 : Ex → Option (List Nat × List Sp)
  | _ => none
def strings_Join.L22 (k : Nat) (v : (List UInt8) × Int) (K : Ex → St T → Option (Bool × (List UInt8) × (List UInt8))) : Option (Bool × (List UInt8) × (List UInt8)) := strings_Join.c22 k v.1 v.2
def strings_Join.cuts (w0 : World) (k : Nat) : Cuts T (Bool × (List UInt8) × (List UInt8)) := fun n => bif n.beq 20 then some (entK (cfg w0 (tab44 k)) 0 [0, 1, 5] [] io70.pat (strings_Join.L20 k)) else bif n.beq 25 then some (entK (cfg w0 (tab44 k)) 0 [0, 1, 5, 39, 40, 41] [] io71.pat (strings_Join.L25 k k)) else bif n.beq 22 then some (entK (cfg w0 (tab44 k)) 0 [0, 1, 5] [] io70.pat (strings_Join.L22 k)) else none
def strings_Join.body : Code := bodyOf Tryz.f22
def strings_Join.b20 : Code := findD 20 strings_Join.body
theorem strings_Join.s20 (w0 : World) (k : Nat) : ∀ v K, strings_Join.L20 k v K = runK (cfg w0 (tab44 k)) Tryz.f22.ntmps (strings_Join.kr w0 k) (annot (strings_Join.cuts w0 k) strings_Join.b20) (mkSt [0, 1, 5] (io70.enc v)) (outK (cfg w0 (tab44 k)) 0 strings_Join.x20 K) := by
  intro v K; kernel_rfl
def strings_Join.b25 : Code := findD 25 strings_Join.body
theorem strings_Join.s25 (w0 : World) (k : Nat) : ∀ n v K, strings_Join.L25 k (n + 1) v K = runK (cfg w0 (tab44 k)) Tryz.f22.ntmps (strings_Join.kr w0 k) (annot (strings_Join.cuts w0 k) strings_Join.b25) (mkSt [0, 1, 5, 39, 40, 41] (io71.enc v)) (loopK (cfg w0 (tab44 k)) 0 strings_Join.x25 (entK (cfg w0 (tab44 k)) 0 [0, 1, 5, 39, 40, 41] [] io71.pat (strings_Join.L25 k n)) K) := by
  intro n v K; kernel_rfl
def strings_Join.b22 : Code := findD 22 strings_Join.body
theorem strings_Join.s22 (w0 : World) (k : Nat) : ∀ v K, strings_Join.L22 k v K = runK (cfg w0 (tab44 k)) Tryz.f22.ntmps (strings_Join.kr w0 k) (annot (strings_Join.cuts w0 k) strings_Join.b22) (mkSt [0, 1, 5] (io70.enc v)) (outK (cfg w0 (tab44 k)) 0 strings_Join.x22 K) := by
  intro v K; kernel_rfl
theorem strings_Join.e (w0 : World) (k : Nat) : ∀ v, (fun v => strings_Join k v) v = runK (cfg w0 (tab44 k)) Tryz.f22.ntmps (strings_Join.kr w0 k) (annot (strings_Join.cuts w0 k) strings_Join.body) (entry (io69.enc v).1 (io69.enc v).2) (endK (strings_Join.kr w0 k)) := by
  intro v; kernel_rfl
theorem strings_Join.hb : Tryz.f22.body = some strings_Join.body := by kernel_rfl
def tab45 (k : Nat) : Tab T := addTab 22 (lineP io69 io1 pe9 [] [] (fun v => strings_Join k v)) (tab44 k)
def f__strings_Builder__WriteString (k : Nat) (a50 : List UInt8) (a51 : List UInt8) : Option (Int × (List UInt8)) := (wStr a51 a50).map fun s => ((a50.length : Int), s)
def tab46 (k : Nat) : Tab T := addTab 38 (line io72 io73 ((0 : Int), []) (fun v => f__strings_Builder__WriteString k v.1 v.2)) (tab45 k)
def strings_Join_v2.c20 (k : Nat) (x9 : List (List UInt8)) (x10 : List UInt8) (x11 : Int) (kn : (List (List UInt8)) → (List UInt8) → Int → Option (Bool × (List UInt8) × (List UInt8))) : Option (Bool × (List UInt8) × (List UInt8)) :=
let v12 : Int := (IntKind.wrap .i64 ((x9.length : Int) - (1 : Int)))
let v13 : Int := (IntKind.wrap .i64 ((x10.length : Int) * v12))
let v14 : Int := (IntKind.wrap .i64 (x11 + v13))
kn x9 x10 v14
def strings_Join_v2.c32 (k : Nat) (x29 : List (List UInt8)) (x30 : List UInt8) (x31 : Int) (x32 : List UInt8) (x33 : List (List UInt8)) (x34 : Int) (x35 : Int) (kn : (List (List UInt8)) → (List UInt8) → Int → (List (List UInt8)) → Int → Int → Option (Bool × (List UInt8) × (List UInt8))) : Option (Bool × (List UInt8) × (List UInt8)) :=
let v36 : Int := (IntKind.wrap .i64 (x31 + (x32.length : Int)))
kn x29 x30 v36 x33 x34 x35
def strings_Join_v2.c25 (k : Nat) : Nat → (List (List UInt8)) → (List UInt8) → Int → (List (List UInt8)) → Int → Int → ((List (List UInt8)) → (List UInt8) → Int → Option (Bool × (List UInt8) × (List UInt8))) → Option (Bool × (List UInt8) × (List UInt8))
  | 0, _, _, _, _, _, _, _ => none
  | n + 1, x21, x22, x23, x24, x25, x26, k1 =>
    cond (decide (x26 < x25)) (
    cond (decide (0 ≤ x26 ∧ x26 < (x24.length : Int))) (
    let v27 : Int := ((x24.getD x26.toNat []).length : Int)
    let v28 : Int := (IntKind.wrap .i64 ((9223372036854775807 : Int) - x23))
    cond (decide (v27 > v28)) (
    some (true, ([115, 116, 114, 105, 110, 103, 115, 58, 32, 74, 111, 105, 110, 32, 111, 117, 116, 112, 117, 116, 32, 108, 101, 110, 103, 116, 104, 32, 111, 118, 101, 114, 102, 108, 111, 119] : List UInt8), [])) (
    strings_Join_v2.c32 k x21 x22 x23 (x24.getD x26.toNat []) x24 x25 x26 (fun (y37 : List (List UInt8)) (y38 : List UInt8) (y39 : Int) (y40 : List (List UInt8)) (y41 : Int) (y42 : Int) =>
    let v43 : Int := (IntKind.wrap .i64 (y42 + (1 : Int)))
    strings_Join_v2.c25 k n y37 y38 y39 y40 y41 v43 k1))) none) (
    k1 x21 x22 x23)
def strings_Join_v2.c45 (k : Nat) : Nat → (List UInt8) → (List (List UInt8)) → Int → Int → (List UInt8) → ((List UInt8) → Option (Bool × (List UInt8) × (List UInt8))) → Option (Bool × (List UInt8) × (List UInt8))
  | 0, _, _, _, _, _, _ => none
  | n + 1, x51, x52, x53, x54, x55, k3 =>
    cond (decide (x54 < x53)) (
    cond (decide (0 ≤ x54 ∧ x54 < (x52.length : Int))) (
    (f__strings_Builder__WriteString k x51 x55).bind fun r56 =>
    (f__strings_Builder__WriteString k (x52.getD x54.toNat []) r56.2).bind fun r57 =>
    let v58 : Int := (IntKind.wrap .i64 (x54 + (1 : Int)))
    strings_Join_v2.c45 k n x51 x52 x53 v58 r57.2 k3) none) (
    k3 x55)
def strings_Join_v2.c22 (k : Nat) (x18 : List (List UInt8)) (x19 : List UInt8) (x20 : Int)  : Option (Bool × (List UInt8) × (List UInt8)) :=
strings_Join_v2.c25 k k x18 x19 x20 x18 (x18.length : Int) (0 : Int) (fun (y44 : List (List UInt8)) (y45 : List UInt8) (y46 : Int) =>
(f__strings_Builder__Grow k y46 ([] : List UInt8)).bind fun r47 =>
cond (decide (0 ≤ (0 : Int) ∧ (0 : Int) < (y44.length : Int))) (
let v48 : List UInt8 := (y44.getD ((0 : Int).toNat) [])
(f__strings_Builder__WriteString k v48 r47).bind fun r49 =>
cond (decide (0 ≤ (1 : Int) ∧ (1 : Int) ≤ (y44.length : Int))) (
let v50 : Int := ((y44.drop (1 : Int).toNat).length : Int)
strings_Join_v2.c45 k k y45 (y44.drop (1 : Int).toNat) v50 (0 : Int) r49.2 (fun (y59 : List UInt8) =>
(f__strings_Builder__String k y59).bind fun r60 =>
some (false, [], r60.1))) none) none)
def strings_Join_v2 (k : Nat) (a1 : List (List UInt8)) (a2 : List UInt8) : Option (Bool × (List UInt8) × (List UInt8)) :=
let v3 : Bool := ((a1.length : Int) == (0 : Int))
cond v3 (
some (false, [], ([] : List UInt8))) (
let v4 : Bool := ((a1.length : Int) == (1 : Int))
cond v4 (
cond (decide (0 ≤ (0 : Int) ∧ (0 : Int) < (a1.length : Int))) (
some (false, [], (a1.getD ((0 : Int).toNat) []))) none) (
let v5 : Bool := (decide ((a2.length : Int) > (0 : Int)))
cond v5 (
let v6 : Int := (IntKind.wrap .i64 ((a1.length : Int) - (1 : Int)))
cond (v6 != 0) (
let v7 : Int := (IntKind.wrap .i64 (Int.tdiv (9223372036854775807 : Int) v6))
let v8 : Bool := (decide ((a2.length : Int) ≥ v7))
cond v8 (
some (true, ([115, 116, 114, 105, 110, 103, 115, 58, 32, 74, 111, 105, 110, 32, 111, 117, 116, 112, 117, 116, 32, 108, 101, 110, 103, 116, 104, 32, 111, 118, 101, 114, 102, 108, 111, 119] : List UInt8), [])) (
strings_Join_v2.c20 k a1 a2 (0 : Int) (fun (y15 : List (List UInt8)) (y16 : List UInt8) (y17 : Int) =>
strings_Join_v2.c22 k y15 y16 y17))) none) (
strings_Join_v2.c22 k a1 a2 (0 : Int))))
def strings_Join_v2.kr (w0 : World) (k : Nat) : Kr T (Bool × (List UInt8) × (List UInt8)) := (kpan (retK (cfg w0 (tab46 k)) Tryz.f22.results.toList 0 [] io1.pat) pp9 [] [])
def strings_Join_v2.x20 : Ex → Option (List Nat × List Sp)
  | .norm => some ([0, 1, 5], [])
  | _ => none
def strings_Join_v2.L20 (k : Nat) (v : (List (List UInt8)) × (List UInt8) × Int) (K : Ex → St T → Option (Bool × (List UInt8) × (List UInt8))) : Option (Bool × (List UInt8) × (List UInt8)) := strings_Join_v2.c20 k v.1 v.2.1 v.2.2 (fun y90 y91 y92 => K .norm (mkSt [0, 1, 5] (io74.enc (y90, y91, y92))))
def strings_Join_v2.x32 : Ex → Option (List Nat × List Sp)
  | .norm => some ([0, 1, 5, 39, 40, 41], [])
  | _ => none
def strings_Join_v2.L32 (k : Nat) (v : (List (List UInt8)) × (List UInt8) × Int × (List UInt8) × (List (List UInt8)) × Int × Int) (K : Ex → St T → Option (Bool × (List UInt8) × (List UInt8))) : Option (Bool × (List UInt8) × (List UInt8)) := strings_Join_v2.c32 k v.1 v.2.1 v.2.2.1 v.2.2.2.1 v.2.2.2.2.1 v.2.2.2.2.2.1 v.2.2.2.2.2.2 (fun y93 y94 y95 y96 y97 y98 => K .norm (mkSt [0, 1, 5, 39, 40, 41] (io76.enc (y93, y94, y95, y96, y97, y98))))
def strings_Join_v2.x25 : Ex → Option (List Nat × List Sp)
  | .exit 1 => some ([0, 1, 5], [])
  | _ => none
def strings_Join_v2.L25 (k : Nat) (n : Nat) (v : (List (List UInt8)) × (List UInt8) × Int × (List (List UInt8)) × Int × Int) (K : Ex → St T → Option (Bool × (List UInt8) × (List UInt8))) : Option (Bool × (List UInt8) × (List UInt8)) := strings_Join_v2.c25 k n v.1 v.2.1 v.2.2.1 v.2.2.2.1 v.2.2.2.2.1 v.2.2.2.2.2 (fun y99 y100 y101 => K (.exit 1) (mkSt [0, 1, 5] (io74.enc (y99, y100, y101))))
def strings_Join_v2.x45 : Ex → Option (List Nat × List Sp)
  | .exit 3 => some ([8], [])
  | _ => none
def strings_Join_v2.L45 (k : Nat) (n : Nat) (v : (List UInt8) × (List (List UInt8)) × Int × Int × (List UInt8)) (K : Ex → St T → Option (Bool × (List UInt8) × (List UInt8))) : Option (Bool × (List UInt8) × (List UInt8)) := strings_Join_v2.c45 k n v.1 v.2.1 v.2.2.1 v.2.2.2.1 v.2.2.2.2 (fun y102 => K (.exit 3) (mkSt [8] (io5.enc y102)))
def strings_Join_v2.x22 : Ex → Option (List Nat × List Sp)
  | _ => none
def strings_Join_v2.L22 (k : Nat) (v : (List (List UInt8)) × (List UInt8) × Int) (K : Ex → St T → Option (Bool × (List UInt8) × (List UInt8))) : Option (Bool × (List UInt8) × (List UInt8)) := strings_Join_v2.c22 k v.1 v.2.1 v.2.2
def strings_Join_v2.cuts (w0 : World) (k : Nat) : Cuts T (Bool × (List UInt8) × (List UInt8)) := fun n => bif n.beq 20 then some (entK (cfg w0 (tab46 k)) 0 [0, 1, 5] [] io74.pat (strings_Join_v2.L20 k)) else bif n.beq 32 then some (entK (cfg w0 (tab46 k)) 0 [0, 1, 5, 7, 39, 40, 41] [] io75.pat (strings_Join_v2.L32 k)) else bif n.beq 25 then some (entK (cfg w0 (tab46 k)) 0 [0, 1, 5, 39, 40, 41] [] io76.pat (strings_Join_v2.L25 k k)) else bif n.beq 45 then some (entK (cfg w0 (tab46 k)) 0 [1, 8, 63, 64, 65] [] io77.pat (strings_Join_v2.L45 k k)) else bif n.beq 22 then some (entK (cfg w0 (tab46 k)) 0 [0, 1, 5] [] io74.pat (strings_Join_v2.L22 k)) else none
def strings_Join_v2.body : Code := bodyOf Tryz.f22
def strings_Join_v2.b20 : Code := findD 20 strings_Join_v2.body
theorem strings_Join_v2.s20 (w0 : World) (k : Nat) : ∀ v K, strings_Join_v2.L20 k v K = runK (cfg w0 (tab46 k)) Tryz.f22.ntmps (strings_Join_v2.kr w0 k) (annot (strings_Join_v2.cuts w0 k) strings_Join_v2.b20) (mkSt [0, 1, 5] (io74.enc v)) (outK (cfg w0 (tab46 k)) 0 strings_Join_v2.x20 K) := by
  intro v K; kernel_rfl
def strings_Join_v2.b32 : Code := findD 32 strings_Join_v2.body
theorem strings_Join_v2.s32 (w0 : World) (k : Nat) : ∀ v K, strings_Join_v2.L32 k v K = runK (cfg w0 (tab46 k)) Tryz.f22.ntmps (strings_Join_v2.kr w0 k) (annot (strings_Join_v2.cuts w0 k) strings_Join_v2.b32) (mkSt [0, 1, 5, 7, 39, 40, 41] (io75.enc v)) (outK (cfg w0 (tab46 k)) 0 strings_Join_v2.x32 K) := by
  intro v K; kernel_rfl
def strings_Join_v2.b25 : Code := findD 25 strings_Join_v2.body
theorem strings_Join_v2.s25 (w0 : World) (k : Nat) : ∀ n v K, strings_Join_v2.L25 k (n + 1) v K = runK (cfg w0 (tab46 k)) Tryz.f22.ntmps (strings_Join_v2.kr w0 k) (annot (strings_Join_v2.cuts w0 k) strings_Join_v2.b25) (mkSt [0, 1, 5, 39, 40, 41] (io76.enc v)) (loopK (cfg w0 (tab46 k)) 0 strings_Join_v2.x25 (entK (cfg w0 (tab46 k)) 0 [0, 1, 5, 39, 40, 41] [] io76.pat (strings_Join_v2.L25 k n)) K) := by
  intro n v K; kernel_rfl
def strings_Join_v2.b45 : Code := findD 45 strings_Join_v2.body
theorem strings_Join_v2.s45 (w0 : World) (k : Nat) : ∀ n v K, strings_Join_v2.L45 k (n + 1) v K = runK (cfg w0 (tab46 k)) Tryz.f22.ntmps (strings_Join_v2.kr w0 k) (annot (strings_Join_v2.cuts w0 k) strings_Join_v2.b45) (mkSt [1, 8, 63, 64, 65] (io77.enc v)) (loopK (cfg w0 (tab46 k)) 0 strings_Join_v2.x45 (entK (cfg w0 (tab46 k)) 0 [1, 8, 63, 64, 65] [] io77.pat (strings_Join_v2.L45 k n)) K) := by
  intro n v K; kernel_rfl
def strings_Join_v2.b22 : Code := findD 22 strings_Join_v2.body
theorem strings_Join_v2.s22 (w0 : World) (k : Nat) : ∀ v K, strings_Join_v2.L22 k v K = runK (cfg w0 (tab46 k)) Tryz.f22.ntmps (strings_Join_v2.kr w0 k) (annot (strings_Join_v2.cuts w0 k) strings_Join_v2.b22) (mkSt [0, 1, 5] (io74.enc v)) (outK (cfg w0 (tab46 k)) 0 strings_Join_v2.x22 K) := by
  intro v K; kernel_rfl
theorem strings_Join_v2.e (w0 : World) (k : Nat) : ∀ v, (fun v => strings_Join_v2 k v.1 v.2) v = runK (cfg w0 (tab46 k)) Tryz.f22.ntmps (strings_Join_v2.kr w0 k) (annot (strings_Join_v2.cuts w0 k) strings_Join_v2.body) (entry (io42.enc v).1 (io42.enc v).2) (endK (strings_Join_v2.kr w0 k)) := by
  intro v; kernel_rfl
theorem strings_Join_v2.hb : Tryz.f22.body = some strings_Join_v2.body := by kernel_rfl
def tab47 (k : Nat) : Tab T := addTab 22 (lineP io42 io1 pe9 [] [] (fun v => strings_Join_v2 k v.1 v.2)) (tab46 k)
structure calc_Text.G.R where
  calc_Text : Int → Int → (List UInt8) → (List S29) → Option (List UInt8)
def calc_Text.c15 (k : Nat) (r : calc_Text.G.R) : Nat → (List S29) → Int → Int → Int → Int → (List UInt8) → (List S29) → (List (List UInt8)) → (Int → Int → (List UInt8) → (List S29) → (List (List UInt8)) → Option (List UInt8)) → Option (List UInt8)
  | 0, _, _, _, _, _, _, _, _, _ => none
  | n + 1, x7, x8, x9, x10, x11, x12, x13, x14, k0 =>
    cond (decide (x9 < x8)) (
    cond (decide (0 ≤ x9 ∧ x9 < (x7.length : Int))) (
    let v15 : Int := (x7.getD x9.toNat S29.d).Dim_Num
    let v16 : List UInt8 := (x7.getD x9.toNat S29.d).Dim_Unit
    (r.calc_Text ((x7.getD x9.toNat S29.d).Kind) v15 v16 ((x7.getD x9.toNat S29.d).Subs)).bind fun r17 =>
    cond (decide ((x14 ++ ([r17])).length < most)) (
    let v18 : Int := (IntKind.wrap .i64 (x9 + (1 : Int)))
    calc_Text.c15 k r n x7 x8 v18 x10 x11 x12 x13 (x14 ++ ([r17])) k0) none) none) (
    k0 x10 x11 x12 x13 x14)
def calc_Text.nat (k : Nat) (r : calc_Text.G.R) (a1 : Int) (a2 : Int) (a3 : List UInt8) (a4 : List S29) : Option (List UInt8) :=
(calc_shaped_v2 k a1 a2 a3 a4).bind fun r5 =>
cond (!r5) (
some ([] : List UInt8)) (
cond (a1 == (1 : Int)) (
(dim_Text k a2 a3).bind fun r6 =>
some r6) (
calc_Text.c15 k r k a4 (a4.length : Int) (0 : Int) a1 a2 a3 a4 ([] : List (List UInt8)) (fun (y19 : Int) (y20 : Int) (y21 : List UInt8) (y22 : List S29) (y23 : List (List UInt8)) =>
(calc_word k y19).bind fun r24 =>
cond (Nat.ble (r24.length + ([40] : List UInt8).length) 9223372036854775807) (
(calc_sign k y19).bind fun r25 =>
(strings_Join_v2 k y23 r25).bind fun r26 =>
cond r26.1 (
none) (
cond (Nat.ble ((r24 ++ ([40] : List UInt8)).length + r26.2.2.length) 9223372036854775807) (
let v27 : List UInt8 := ((r24 ++ ([40] : List UInt8)) ++ r26.2.2)
cond (Nat.ble (v27.length + ([41] : List UInt8).length) 9223372036854775807) (
some (v27 ++ ([41] : List UInt8))) none) none)) none)))
def calc_Text.G.rec (k : Nat) : Nat → calc_Text.G.R
  | 0 => ⟨fun _ _ _ _ => none⟩
  | n + 1 => ⟨calc_Text.nat k (calc_Text.G.rec k n)⟩
def calc_Text (k : Nat) : Int → Int → (List UInt8) → (List S29) → Option (List UInt8) := (calc_Text.G.rec k k).calc_Text
def calc_Text.G.tab (k : Nat) (r : calc_Text.G.R) : Tab T := addTab 11 (line io64 io1 [] (fun v => r.calc_Text v.1 v.2.1 v.2.2.1 v.2.2.2)) (tab47 k)
def calc_Text.kr (w0 : World) (k : Nat) (r : calc_Text.G.R) : Kr T (List UInt8) := (kret (retK (cfg w0 (calc_Text.G.tab k r)) Tryz.f11.results.toList 0 [] io1.pat))
def calc_Text.x15 : Ex → Option (List Nat × List Sp)
  | .exit 0 => some ([1, 3], [.own 3 9])
  | _ => none
def calc_Text.L15 (k : Nat) (r : calc_Text.G.R) (n : Nat) (v : (List S29) × Int × Int × Int × Int × (List UInt8) × (List S29) × (List (List UInt8))) (K : Ex → St T → Option (List UInt8)) : Option (List UInt8) := calc_Text.c15 k r n v.1 v.2.1 v.2.2.1 v.2.2.2.1 v.2.2.2.2.1 v.2.2.2.2.2.1 v.2.2.2.2.2.2.1 v.2.2.2.2.2.2.2 (fun y103 y104 y105 y106 y107 => K (.exit 0) (mkSt [1, 3] (io79.enc (y103, y104, y105, y106, y107))))
def calc_Text.cuts (w0 : World) (k : Nat) (r : calc_Text.G.R) : Cuts T (List UInt8) := fun n => bif n.beq 15 then some (entK (cfg w0 (calc_Text.G.tab k r)) 0 [1, 3, 16, 17, 18] [.own 3 9] io78.pat (calc_Text.L15 k r k)) else none
def calc_Text.body : Code := bodyOf Tryz.f11
def calc_Text.b15 : Code := findD 15 calc_Text.body
theorem calc_Text.s15 (w0 : World) (k : Nat) (r : calc_Text.G.R) : ∀ n v K, calc_Text.L15 k r (n + 1) v K = runK (cfg w0 (calc_Text.G.tab k r)) Tryz.f11.ntmps (calc_Text.kr w0 k r) (annot (calc_Text.cuts w0 k r) calc_Text.b15) (mkSt [1, 3, 16, 17, 18] (io78.enc v)) (loopK (cfg w0 (calc_Text.G.tab k r)) 0 calc_Text.x15 (entK (cfg w0 (calc_Text.G.tab k r)) 0 [1, 3, 16, 17, 18] [.own 3 9] io78.pat (calc_Text.L15 k r n)) K) := by
  intro n v K; kernel_rfl
theorem calc_Text.e (w0 : World) (k : Nat) (r : calc_Text.G.R) : ∀ v, (fun v => calc_Text.nat k r v.1 v.2.1 v.2.2.1 v.2.2.2) v = runK (cfg w0 (calc_Text.G.tab k r)) Tryz.f11.ntmps (calc_Text.kr w0 k r) (annot (calc_Text.cuts w0 k r) calc_Text.body) (entry (io64.enc v).1 (io64.enc v).2) (endK (calc_Text.kr w0 k r)) := by
  intro v; kernel_rfl
theorem calc_Text.hb : Tryz.f11.body = some calc_Text.body := by kernel_rfl
def tab48 (k : Nat) : Tab T := calc_Text.G.tab k (calc_Text.G.rec k k)
def clerestorykeep2_twice (k : Nat)  : Option (Bool) :=
(calc_Read k ([99, 97, 108, 99, 40, 49, 112, 120, 32, 42, 32, 50, 41] : List UInt8)).bind fun r1 =>
(cond (r1.2.2.2.2 == (0 : Int)) (calc_Text k r1.1 r1.2.1 r1.2.2.1 r1.2.2.2.1) (some [])).bind fun r2 =>
let v3 : Bool := (r2 == ([40, 49, 112, 120, 32, 42, 32, 50, 41] : List UInt8))
let v4 : Bool := (cond (r1.2.2.2.2 == (0 : Int)) v3 false)
some v4
def clerestorykeep2_twice.kr (w0 : World) (k : Nat) : Kr T (Bool) := (kret (retK (cfg w0 (tab48 k)) Tryz.f6.results.toList 0 [] io2.pat))
def clerestorykeep2_twice.cuts (w0 : World) (k : Nat) : Cuts T (Bool) := fun n => none
def clerestorykeep2_twice.body : Code := bodyOf Tryz.f6
theorem clerestorykeep2_twice.e (w0 : World) (k : Nat) : ∀ v, (fun v => clerestorykeep2_twice k ) v = runK (cfg w0 (tab48 k)) Tryz.f6.ntmps (clerestorykeep2_twice.kr w0 k) (annot (clerestorykeep2_twice.cuts w0 k) clerestorykeep2_twice.body) (entry (io44.enc v).1 (io44.enc v).2) (endK (clerestorykeep2_twice.kr w0 k)) := by
  intro v; kernel_rfl
theorem clerestorykeep2_twice.hb : Tryz.f6.body = some clerestorykeep2_twice.body := by kernel_rfl
def tab49 (k : Nat) : Tab T := addTab 6 (line io44 io2 false (fun v => clerestorykeep2_twice k )) (tab48 k)
def clerestorykeep2_unitOf (k : Nat) (a1 : Int) : Option (List UInt8) :=
let v2 : List (List UInt8) := [([] : List UInt8), ([112, 120] : List UInt8), ([101, 109] : List UInt8), ([114, 101, 109] : List UInt8), ([118, 119] : List UInt8), ([118, 104] : List UInt8), ([37] : List UInt8)]
cond ((7 : Int) != 0) (
let v3 : Int := (Int.tmod (IntKind.wrap .u64 a1) (7 : Int))
cond (decide (0 ≤ v3 ∧ v3 < (v2.length : Int))) (
some (v2.getD v3.toNat [])) none) none
def clerestorykeep2_unitOf.kr (w0 : World) (k : Nat) : Kr T (List UInt8) := (kret (retK (cfg w0 (tab49 k)) Tryz.f8.results.toList 0 [] io1.pat))
def clerestorykeep2_unitOf.cuts (w0 : World) (k : Nat) : Cuts T (List UInt8) := fun n => none
def clerestorykeep2_unitOf.body : Code := bodyOf Tryz.f8
theorem clerestorykeep2_unitOf.e (w0 : World) (k : Nat) : ∀ v, (fun v => clerestorykeep2_unitOf k v) v = runK (cfg w0 (tab49 k)) Tryz.f8.ntmps (clerestorykeep2_unitOf.kr w0 k) (annot (clerestorykeep2_unitOf.cuts w0 k) clerestorykeep2_unitOf.body) (entry (io4.enc v).1 (io4.enc v).2) (endK (clerestorykeep2_unitOf.kr w0 k)) := by
  intro v; kernel_rfl
theorem clerestorykeep2_unitOf.hb : Tryz.f8.body = some clerestorykeep2_unitOf.body := by kernel_rfl
def tab50 (k : Nat) : Tab T := addTab 8 (line io4 io1 [] (fun v => clerestorykeep2_unitOf k v)) (tab49 k)
def clerestorykeep2_num (k : Nat) (a1 : Int) (a2 : List UInt8) : Option (Int × Int × (List UInt8)) :=
some ((1 : Int), a1, a2)
def clerestorykeep2_num.kr (w0 : World) (k : Nat) : Kr T (Int × Int × (List UInt8)) := (kret (retK (cfg w0 (tab50 k)) Tryz.f7.results.toList 0 [] io81.pat))
def clerestorykeep2_num.cuts (w0 : World) (k : Nat) : Cuts T (Int × Int × (List UInt8)) := fun n => none
def clerestorykeep2_num.body : Code := bodyOf Tryz.f7
theorem clerestorykeep2_num.e (w0 : World) (k : Nat) : ∀ v, (fun v => clerestorykeep2_num k v.1 v.2) v = runK (cfg w0 (tab50 k)) Tryz.f7.ntmps (clerestorykeep2_num.kr w0 k) (annot (clerestorykeep2_num.cuts w0 k) clerestorykeep2_num.body) (entry (io80.enc v).1 (io80.enc v).2) (endK (clerestorykeep2_num.kr w0 k)) := by
  intro v; kernel_rfl
theorem clerestorykeep2_num.hb : Tryz.f7.body = some clerestorykeep2_num.body := by kernel_rfl
def tab51 (k : Nat) : Tab T := addTab 7 (line io80 io81 ((0 : Int), (0 : Int), []) (fun v => clerestorykeep2_num k v.1 v.2)) (tab50 k)
structure calc_count_v2.G.R where
  calc_count_v2 : Int → Int → (List UInt8) → (List S29) → Option (Int × Bool)
def calc_count_v2.c11 (k : Nat) (r : calc_count_v2.G.R) : Nat → Int → (List S29) → Int → Int → (Int → Option (Int × Bool)) → Option (Int × Bool)
  | 0, _, _, _, _, _ => none
  | n + 1, x6, x7, x8, x9, k0 =>
    cond (decide (x9 < x8)) (
    cond (decide (0 ≤ x9 ∧ x9 < (x7.length : Int))) (
    let v10 : Int := (x7.getD x9.toNat S29.d).Dim_Num
    let v11 : List UInt8 := (x7.getD x9.toNat S29.d).Dim_Unit
    (r.calc_count_v2 ((x7.getD x9.toNat S29.d).Kind) v10 v11 ((x7.getD x9.toNat S29.d).Subs)).bind fun r12 =>
    let v13 : Int := (IntKind.wrap .i64 (x6 + r12.1))
    let v14 : Bool := (cond (!r12.2) true (decide (v13 > (30 : Int))))
    cond v14 (
    some (v13, false)) (
    let v15 : Int := (IntKind.wrap .i64 (x9 + (1 : Int)))
    calc_count_v2.c11 k r n v13 x7 x8 v15 k0)) none) (
    k0 x6)
def calc_count_v2.nat (k : Nat) (r : calc_count_v2.G.R) (a1 : Int) (a2 : Int) (a3 : List UInt8) (a4 : List S29) : Option (Int × Bool) :=
(calc_shaped_v2 k a1 a2 a3 a4).bind fun r5 =>
cond (!r5) (
some ((1 : Int), false)) (
calc_count_v2.c11 k r k (1 : Int) a4 (a4.length : Int) (0 : Int) (fun (y16 : Int) =>
some (y16, true)))
def calc_count_v2.G.rec (k : Nat) : Nat → calc_count_v2.G.R
  | 0 => ⟨fun _ _ _ _ => none⟩
  | n + 1 => ⟨calc_count_v2.nat k (calc_count_v2.G.rec k n)⟩
def calc_count_v2 (k : Nat) : Int → Int → (List UInt8) → (List S29) → Option (Int × Bool) := (calc_count_v2.G.rec k k).calc_count_v2
def calc_count_v2.G.tab (k : Nat) (r : calc_count_v2.G.R) : Tab T := addTab 12 (line io64 io82 ((0 : Int), false) (fun v => r.calc_count_v2 v.1 v.2.1 v.2.2.1 v.2.2.2)) (tab51 k)
def calc_count_v2.kr (w0 : World) (k : Nat) (r : calc_count_v2.G.R) : Kr T (Int × Bool) := (kret (retK (cfg w0 (calc_count_v2.G.tab k r)) Tryz.f12.results.toList 0 [] io82.pat))
def calc_count_v2.x11 : Ex → Option (List Nat × List Sp)
  | .exit 0 => some ([4], [])
  | _ => none
def calc_count_v2.L11 (k : Nat) (r : calc_count_v2.G.R) (n : Nat) (v : Int × (List S29) × Int × Int) (K : Ex → St T → Option (Int × Bool)) : Option (Int × Bool) := calc_count_v2.c11 k r n v.1 v.2.1 v.2.2.1 v.2.2.2 (fun y108 => K (.exit 0) (mkSt [4] (io4.enc y108)))
def calc_count_v2.cuts (w0 : World) (k : Nat) (r : calc_count_v2.G.R) : Cuts T (Int × Bool) := fun n => bif n.beq 11 then some (entK (cfg w0 (calc_count_v2.G.tab k r)) 0 [4, 14, 15, 16] [] io83.pat (calc_count_v2.L11 k r k)) else none
def calc_count_v2.body : Code := bodyOf Tryz.f12
def calc_count_v2.b11 : Code := findD 11 calc_count_v2.body
theorem calc_count_v2.s11 (w0 : World) (k : Nat) (r : calc_count_v2.G.R) : ∀ n v K, calc_count_v2.L11 k r (n + 1) v K = runK (cfg w0 (calc_count_v2.G.tab k r)) Tryz.f12.ntmps (calc_count_v2.kr w0 k r) (annot (calc_count_v2.cuts w0 k r) calc_count_v2.b11) (mkSt [4, 14, 15, 16] (io83.enc v)) (loopK (cfg w0 (calc_count_v2.G.tab k r)) 0 calc_count_v2.x11 (entK (cfg w0 (calc_count_v2.G.tab k r)) 0 [4, 14, 15, 16] [] io83.pat (calc_count_v2.L11 k r n)) K) := by
  intro n v K; kernel_rfl
theorem calc_count_v2.e (w0 : World) (k : Nat) (r : calc_count_v2.G.R) : ∀ v, (fun v => calc_count_v2.nat k r v.1 v.2.1 v.2.2.1 v.2.2.2) v = runK (cfg w0 (calc_count_v2.G.tab k r)) Tryz.f12.ntmps (calc_count_v2.kr w0 k r) (annot (calc_count_v2.cuts w0 k r) calc_count_v2.body) (entry (io64.enc v).1 (io64.enc v).2) (endK (calc_count_v2.kr w0 k r)) := by
  intro v; kernel_rfl
theorem calc_count_v2.hb : Tryz.f12.body = some calc_count_v2.body := by kernel_rfl
def tab52 (k : Nat) : Tab T := calc_count_v2.G.tab k (calc_count_v2.G.rec k k)
def calc_count.c11 (k : Nat) : Nat → Int → Int → Int → (List S29) → (Int → (List S29) → Option (Int × Bool × (List S29))) → Option (Int × Bool × (List S29))
  | 0, _, _, _, _, _ => none
  | n + 1, x6, x7, x8, x9, k0 =>
    cond (decide (x8 < x7)) (
    cond (decide (0 ≤ x8 ∧ x8 < (x9.length : Int))) (
    let v10 : Int := (x9.getD x8.toNat S29.d).Dim_Num
    let v11 : List UInt8 := (x9.getD x8.toNat S29.d).Dim_Unit
    (calc_count_v2 k ((x9.getD x8.toNat S29.d).Kind) v10 v11 ((x9.getD x8.toNat S29.d).Subs)).bind fun r12 =>
    let v13 : Int := (IntKind.wrap .i64 (x6 + r12.1))
    let v14 : Bool := (cond (!r12.2) true (decide (v13 > (30 : Int))))
    cond v14 (
    some (v13, false, x9)) (
    let v15 : Int := (IntKind.wrap .i64 (x8 + (1 : Int)))
    calc_count.c11 k n v13 x7 v15 x9 k0)) none) (
    k0 x6 x9)
def calc_count (k : Nat) (a1 : Int) (a2 : Int) (a3 : List UInt8) (a4 : List S29) : Option (Int × Bool × (List S29)) :=
(calc_shaped k a1 a2 a3 a4).bind fun r5 =>
cond (!r5.1) (
some ((1 : Int), false, r5.2)) (
calc_count.c11 k k (1 : Int) (r5.2.length : Int) (0 : Int) r5.2 (fun (y16 : Int) (y17 : List S29) =>
some (y16, true, y17)))
def calc_count.kr (w0 : World) (k : Nat) : Kr T (Int × Bool × (List S29)) := (kret (retK (cfg w0 (tab52 k)) Tryz.f12.results.toList 1 [] io84.pat))
def calc_count.x11 : Ex → Option (List Nat × List Sp)
  | .exit 0 => some ([4], [])
  | _ => none
def calc_count.L11 (k : Nat) (n : Nat) (v : Int × Int × Int × (List S29)) (K : Ex → St T → Option (Int × Bool × (List S29))) : Option (Int × Bool × (List S29)) := calc_count.c11 k n v.1 v.2.1 v.2.2.1 v.2.2.2 (fun y109 y110 => K (.exit 0) (mkSt [4] (io86.enc (y109, y110))))
def calc_count.cuts (w0 : World) (k : Nat) : Cuts T (Int × Bool × (List S29)) := fun n => bif n.beq 11 then some (entK (cfg w0 (tab52 k)) 1 [4, 14, 15, 16] [] io85.pat (calc_count.L11 k k)) else none
def calc_count.body : Code := bodyOf Tryz.f12
def calc_count.b11 : Code := findD 11 calc_count.body
theorem calc_count.s11 (w0 : World) (k : Nat) : ∀ n v K, calc_count.L11 k (n + 1) v K = runK (cfg w0 (tab52 k)) Tryz.f12.ntmps (calc_count.kr w0 k) (annot (calc_count.cuts w0 k) calc_count.b11) (mkSt [4, 14, 15, 16] (io85.enc v)) (loopK (cfg w0 (tab52 k)) 1 calc_count.x11 (entK (cfg w0 (tab52 k)) 1 [4, 14, 15, 16] [] io85.pat (calc_count.L11 k n)) K) := by
  intro n v K; kernel_rfl
theorem calc_count.e (w0 : World) (k : Nat) : ∀ v, (fun v => calc_count k v.1 v.2.1 v.2.2.1 v.2.2.2) v = runK (cfg w0 (tab52 k)) Tryz.f12.ntmps (calc_count.kr w0 k) (annot (calc_count.cuts w0 k) calc_count.body) (entry (io56.enc v).1 (io56.enc v).2) (endK (calc_count.kr w0 k)) := by
  intro v; kernel_rfl
theorem calc_count.hb : Tryz.f12.body = some calc_count.body := by kernel_rfl
def tab53 (k : Nat) : Tab T := addTab 12 (line io56 io84 ((0 : Int), false, []) (fun v => calc_count k v.1 v.2.1 v.2.2.1 v.2.2.2)) (tab52 k)
def calc_cut (k : Nat) (a1 : Int) : Option (Int) :=
let v2 : Int := (if (-16777216 : Int) > a1 then (-16777216 : Int) else a1)
let v3 : Int := (if (16777216 : Int) < v2 then (16777216 : Int) else v2)
some v3
def calc_cut.kr (w0 : World) (k : Nat) : Kr T (Int) := (kret (retK (cfg w0 (tab53 k)) Tryz.f40.results.toList 0 [] io4.pat))
def calc_cut.cuts (w0 : World) (k : Nat) : Cuts T (Int) := fun n => none
def calc_cut.body : Code := bodyOf Tryz.f40
theorem calc_cut.e (w0 : World) (k : Nat) : ∀ v, (fun v => calc_cut k v) v = runK (cfg w0 (tab53 k)) Tryz.f40.ntmps (calc_cut.kr w0 k) (annot (calc_cut.cuts w0 k) calc_cut.body) (entry (io4.enc v).1 (io4.enc v).2) (endK (calc_cut.kr w0 k)) := by
  intro v; kernel_rfl
theorem calc_cut.hb : Tryz.f40.body = some calc_cut.body := by kernel_rfl
def tab54 (k : Nat) : Tab T := addTab 40 (line io4 io4 (0 : Int) (fun v => calc_cut k v)) (tab53 k)
def calc_down.c8 (k : Nat) (x7 : Int)  : Option (Int) :=
some x7
def calc_down (k : Nat) (a1 : Int) (a2 : Int) : Option (Int) :=
cond (a2 != 0) (
let v3 : Int := (IntKind.wrap .i64 (Int.tdiv a1 a2))
cond (a2 != 0) (
let v4 : Bool := ((Int.tmod a1 a2) != (0 : Int))
let v5 : Bool := (!((decide (a1 < (0 : Int))) == (decide (a2 < (0 : Int)))))
cond (cond v4 v5 false) (
let v6 : Int := (IntKind.wrap .i64 (v3 - (1 : Int)))
calc_down.c8 k v6) (
calc_down.c8 k v3)) none) none
def calc_down.kr (w0 : World) (k : Nat) : Kr T (Int) := (kret (retK (cfg w0 (tab54 k)) Tryz.f41.results.toList 0 [] io4.pat))
def calc_down.x8 : Ex → Option (List Nat × List Sp)
  | _ => none
def calc_down.L8 (k : Nat) (v : Int) (K : Ex → St T → Option (Int)) : Option (Int) := calc_down.c8 k v
def calc_down.cuts (w0 : World) (k : Nat) : Cuts T (Int) := fun n => bif n.beq 8 then some (entK (cfg w0 (tab54 k)) 0 [5] [] io4.pat (calc_down.L8 k)) else none
def calc_down.body : Code := bodyOf Tryz.f41
def calc_down.b8 : Code := findD 8 calc_down.body
theorem calc_down.s8 (w0 : World) (k : Nat) : ∀ v K, calc_down.L8 k v K = runK (cfg w0 (tab54 k)) Tryz.f41.ntmps (calc_down.kr w0 k) (annot (calc_down.cuts w0 k) calc_down.b8) (mkSt [5] (io4.enc v)) (outK (cfg w0 (tab54 k)) 0 calc_down.x8 K) := by
  intro v K; kernel_rfl
theorem calc_down.e (w0 : World) (k : Nat) : ∀ v, (fun v => calc_down k v.1 v.2) v = runK (cfg w0 (tab54 k)) Tryz.f41.ntmps (calc_down.kr w0 k) (annot (calc_down.cuts w0 k) calc_down.body) (entry (io19.enc v).1 (io19.enc v).2) (endK (calc_down.kr w0 k)) := by
  intro v; kernel_rfl
theorem calc_down.hb : Tryz.f41.body = some calc_down.body := by kernel_rfl
def tab55 (k : Nat) : Tab T := addTab 41 (line io19 io4 (0 : Int) (fun v => calc_down k v.1 v.2)) (tab54 k)
def dim_in (k : Nat) (a1 : Int) (a2 : Int) (a3 : Int) : Option (Bool) :=
let v4 : Bool := (cond (decide (a1 ≥ a2)) (decide (a1 ≤ a3)) false)
some v4
def dim_in.kr (w0 : World) (k : Nat) : Kr T (Bool) := (kret (retK (cfg w0 (tab55 k)) Tryz.f64.results.toList 0 [] io2.pat))
def dim_in.cuts (w0 : World) (k : Nat) : Cuts T (Bool) := fun n => none
def dim_in.body : Code := bodyOf Tryz.f64
theorem dim_in.e (w0 : World) (k : Nat) : ∀ v, (fun v => dim_in k v.1 v.2.1 v.2.2) v = runK (cfg w0 (tab55 k)) Tryz.f64.ntmps (dim_in.kr w0 k) (annot (dim_in.cuts w0 k) dim_in.body) (entry (io87.enc v).1 (io87.enc v).2) (endK (dim_in.kr w0 k)) := by
  intro v; kernel_rfl
theorem dim_in.hb : Tryz.f64.body = some dim_in.body := by kernel_rfl
def tab56 (k : Nat) : Tab T := addTab 64 (line io87 io2 false (fun v => dim_in k v.1 v.2.1 v.2.2)) (tab55 k)
def dim_down.c8 (k : Nat) (x6 : Int)  : Option (Int) :=
some x6
def dim_down (k : Nat) (a1 : Int) (a2 : Int) : Option (Int) :=
cond (a2 != 0) (
let v3 : Int := (IntKind.wrap .i64 (Int.tdiv a1 a2))
cond (a2 != 0) (
let v4 : Bool := (decide ((Int.tmod a1 a2) < (0 : Int)))
cond v4 (
let v5 : Int := (IntKind.wrap .i64 (v3 - (1 : Int)))
dim_down.c8 k v5) (
dim_down.c8 k v3)) none) none
def dim_down.kr (w0 : World) (k : Nat) : Kr T (Int) := (kret (retK (cfg w0 (tab56 k)) Tryz.f66.results.toList 0 [] io4.pat))
def dim_down.x8 : Ex → Option (List Nat × List Sp)
  | _ => none
def dim_down.L8 (k : Nat) (v : Int) (K : Ex → St T → Option (Int)) : Option (Int) := dim_down.c8 k v
def dim_down.cuts (w0 : World) (k : Nat) : Cuts T (Int) := fun n => bif n.beq 8 then some (entK (cfg w0 (tab56 k)) 0 [5] [] io4.pat (dim_down.L8 k)) else none
def dim_down.body : Code := bodyOf Tryz.f66
def dim_down.b8 : Code := findD 8 dim_down.body
theorem dim_down.s8 (w0 : World) (k : Nat) : ∀ v K, dim_down.L8 k v K = runK (cfg w0 (tab56 k)) Tryz.f66.ntmps (dim_down.kr w0 k) (annot (dim_down.cuts w0 k) dim_down.b8) (mkSt [5] (io4.enc v)) (outK (cfg w0 (tab56 k)) 0 dim_down.x8 K) := by
  intro v K; kernel_rfl
theorem dim_down.e (w0 : World) (k : Nat) : ∀ v, (fun v => dim_down k v.1 v.2) v = runK (cfg w0 (tab56 k)) Tryz.f66.ntmps (dim_down.kr w0 k) (annot (dim_down.cuts w0 k) dim_down.body) (entry (io19.enc v).1 (io19.enc v).2) (endK (dim_down.kr w0 k)) := by
  intro v; kernel_rfl
theorem dim_down.hb : Tryz.f66.body = some dim_down.body := by kernel_rfl
def tab57 (k : Nat) : Tab T := addTab 66 (line io19 io4 (0 : Int) (fun v => dim_down k v.1 v.2)) (tab56 k)
def dim_cut (k : Nat) (a1 : Int) : Option (Int) :=
let v2 : Int := (if (-16777216 : Int) > a1 then (-16777216 : Int) else a1)
let v3 : Int := (if (16777216 : Int) < v2 then (16777216 : Int) else v2)
some v3
def dim_cut.kr (w0 : World) (k : Nat) : Kr T (Int) := (kret (retK (cfg w0 (tab57 k)) Tryz.f65.results.toList 0 [] io4.pat))
def dim_cut.cuts (w0 : World) (k : Nat) : Cuts T (Int) := fun n => none
def dim_cut.body : Code := bodyOf Tryz.f65
theorem dim_cut.e (w0 : World) (k : Nat) : ∀ v, (fun v => dim_cut k v) v = runK (cfg w0 (tab57 k)) Tryz.f65.ntmps (dim_cut.kr w0 k) (annot (dim_cut.cuts w0 k) dim_cut.body) (entry (io4.enc v).1 (io4.enc v).2) (endK (dim_cut.kr w0 k)) := by
  intro v; kernel_rfl
theorem dim_cut.hb : Tryz.f65.body = some dim_cut.body := by kernel_rfl
def tab58 (k : Nat) : Tab T := addTab 65 (line io4 io4 (0 : Int) (fun v => dim_cut k v)) (tab57 k)
def dim_Px.c34 (k : Nat) (x15 : Int) (x16 : Int) (x17 : Int) (x18 : List UInt8)  : Option (Int × Int) :=
let v19 : Int := (IntKind.wrap .i64 (x17 * x15))
(dim_down k v19 x16).bind fun r20 =>
(dim_cut k r20).bind fun r21 =>
some (r21, (0 : Int))
def dim_Px (k : Nat) (a1 : Int) (a2 : List UInt8) (a3 : Int) (a4 : Int) (a5 : Int) (a6 : Int) : Option (Int × Int) :=
(dim_in k a1 (-1000000000 : Int) (1000000000 : Int)).bind fun r7 =>
(cond (!(!r7)) (dim_in k a3 (0 : Int) (16777216 : Int)) (some false)).bind fun r8 =>
(cond (!(cond (!r7) true (!r8))) (dim_in k a4 (0 : Int) (16777216 : Int)) (some false)).bind fun r9 =>
let v10 : Bool := (cond (cond (!r7) true (!r8)) true (!r9))
(cond (!v10) (dim_in k a5 (1 : Int) (4000 : Int)) (some false)).bind fun r11 =>
(cond (!(cond v10 true (!r11))) (dim_in k a6 (1 : Int) (4000 : Int)) (some false)).bind fun r12 =>
let v13 : Bool := (cond (cond v10 true (!r11)) true (!r12))
cond v13 (
some ((0 : Int), (1 : Int))) (
let v14 : Bool := (a2 == ([112, 120] : List UInt8))
cond v14 (
dim_Px.c34 k (64 : Int) (1000 : Int) a1 a2) (
let v22 : Bool := (a2 == ([101, 109] : List UInt8))
cond v22 (
dim_Px.c34 k a3 (1000 : Int) a1 a2) (
let v23 : Bool := (a2 == ([114, 101, 109] : List UInt8))
cond v23 (
dim_Px.c34 k a4 (1000 : Int) a1 a2) (
let v24 : Bool := (a2 == ([118, 119] : List UInt8))
cond v24 (
let v25 : Int := (IntKind.wrap .i64 ((64 : Int) * a5))
dim_Px.c34 k v25 (100000 : Int) a1 a2) (
let v26 : Bool := (a2 == ([118, 104] : List UInt8))
cond v26 (
let v27 : Int := (IntKind.wrap .i64 ((64 : Int) * a6))
dim_Px.c34 k v27 (100000 : Int) a1 a2) (
let v28 : Bool := (cond (!(a2 == ([] : List UInt8))) true (a1 != (0 : Int)))
cond v28 (
some ((0 : Int), (7 : Int))) (
dim_Px.c34 k (0 : Int) (1000 : Int) a1 a2)))))))
def dim_Px.kr (w0 : World) (k : Nat) : Kr T (Int × Int) := (kret (retK (cfg w0 (tab58 k)) Tryz.f42.results.toList 0 [] io19.pat))
def dim_Px.x34 : Ex → Option (List Nat × List Sp)
  | _ => none
def dim_Px.L34 (k : Nat) (v : Int × Int × Int × (List UInt8)) (K : Ex → St T → Option (Int × Int)) : Option (Int × Int) := dim_Px.c34 k v.1 v.2.1 v.2.2.1 v.2.2.2
def dim_Px.cuts (w0 : World) (k : Nat) : Cuts T (Int × Int) := fun n => bif n.beq 34 then some (entK (cfg w0 (tab58 k)) 0 [2, 6, 7] [] io89.pat (dim_Px.L34 k)) else none
def dim_Px.body : Code := bodyOf Tryz.f42
def dim_Px.b34 : Code := findD 34 dim_Px.body
theorem dim_Px.s34 (w0 : World) (k : Nat) : ∀ v K, dim_Px.L34 k v K = runK (cfg w0 (tab58 k)) Tryz.f42.ntmps (dim_Px.kr w0 k) (annot (dim_Px.cuts w0 k) dim_Px.b34) (mkSt [2, 6, 7] (io89.enc v)) (outK (cfg w0 (tab58 k)) 0 dim_Px.x34 K) := by
  intro v K; kernel_rfl
theorem dim_Px.e (w0 : World) (k : Nat) : ∀ v, (fun v => dim_Px k v.1 v.2.1 v.2.2.1 v.2.2.2.1 v.2.2.2.2.1 v.2.2.2.2.2) v = runK (cfg w0 (tab58 k)) Tryz.f42.ntmps (dim_Px.kr w0 k) (annot (dim_Px.cuts w0 k) dim_Px.body) (entry (io88.enc v).1 (io88.enc v).2) (endK (dim_Px.kr w0 k)) := by
  intro v; kernel_rfl
theorem dim_Px.hb : Tryz.f42.body = some dim_Px.body := by kernel_rfl
def tab59 (k : Nat) : Tab T := addTab 42 (line io88 io19 ((0 : Int), (0 : Int)) (fun v => dim_Px k v.1 v.2.1 v.2.2.1 v.2.2.2.1 v.2.2.2.2.1 v.2.2.2.2.2)) (tab58 k)
def calc_number (k : Nat) (a1 : Int) (a2 : List UInt8) (a3 : Int) (a4 : Int) (a5 : Int) (a6 : Int) : Option (Int × Int × Int) :=
cond (a2 == ([] : List UInt8)) (
(calc_cut k a1).bind fun r7 =>
some ((4 : Int), r7, (0 : Int))) (
cond (a2 == ([37] : List UInt8)) (
(calc_down k a1 (10 : Int)).bind fun r8 =>
(calc_cut k r8).bind fun r9 =>
some ((3 : Int), r9, (0 : Int))) (
(dim_Px k a1 a2 a3 a4 a5 a6).bind fun r10 =>
cond (r10.2 != (0 : Int)) (
some ((0 : Int), (0 : Int), r10.2)) (
some ((2 : Int), r10.1, (0 : Int)))))
def calc_number.kr (w0 : World) (k : Nat) : Kr T (Int × Int × Int) := (kret (retK (cfg w0 (tab59 k)) Tryz.f24.results.toList 0 [] io90.pat))
def calc_number.cuts (w0 : World) (k : Nat) : Cuts T (Int × Int × Int) := fun n => none
def calc_number.body : Code := bodyOf Tryz.f24
theorem calc_number.e (w0 : World) (k : Nat) : ∀ v, (fun v => calc_number k v.1 v.2.1 v.2.2.1 v.2.2.2.1 v.2.2.2.2.1 v.2.2.2.2.2) v = runK (cfg w0 (tab59 k)) Tryz.f24.ntmps (calc_number.kr w0 k) (annot (calc_number.cuts w0 k) calc_number.body) (entry (io88.enc v).1 (io88.enc v).2) (endK (calc_number.kr w0 k)) := by
  intro v; kernel_rfl
theorem calc_number.hb : Tryz.f24.body = some calc_number.body := by kernel_rfl
def tab60 (k : Nat) : Tab T := addTab 24 (line io88 io90 ((0 : Int), (0 : Int), (0 : Int)) (fun v => calc_number k v.1 v.2.1 v.2.2.1 v.2.2.2.1 v.2.2.2.2.1 v.2.2.2.2.2)) (tab59 k)
def calc_times.c6 (k : Nat) (x5 : Int) (x6 : Int) (x7 : Int) (x8 : Int) (x9 : Int) (x10 : Int)  : Option (Int × Int × Int) :=
cond (x7 != (4 : Int)) (
some ((0 : Int), (0 : Int), (7 : Int))) (
(calc_down k (IntKind.wrap .i64 (x6 * x8)) (1000 : Int)).bind fun r11 =>
(calc_cut k r11).bind fun r12 =>
some (x5, r12, (0 : Int)))
def calc_times (k : Nat) (a1 : Int) (a2 : Int) (a3 : Int) (a4 : Int) : Option (Int × Int × Int) :=
cond (a3 != (4 : Int)) (
calc_times.c6 k a3 a4 a1 a2 (0 : Int) (0 : Int)) (
calc_times.c6 k a1 a2 a3 a4 (0 : Int) (0 : Int))
def calc_times.kr (w0 : World) (k : Nat) : Kr T (Int × Int × Int) := (kret (retK (cfg w0 (tab60 k)) Tryz.f25.results.toList 0 [] io90.pat))
def calc_times.x6 : Ex → Option (List Nat × List Sp)
  | _ => none
def calc_times.L6 (k : Nat) (v : Int × Int × Int × Int × Int × Int) (K : Ex → St T → Option (Int × Int × Int)) : Option (Int × Int × Int) := calc_times.c6 k v.1 v.2.1 v.2.2.1 v.2.2.2.1 v.2.2.2.2.1 v.2.2.2.2.2
def calc_times.cuts (w0 : World) (k : Nat) : Cuts T (Int × Int × Int) := fun n => bif n.beq 6 then some (entK (cfg w0 (tab60 k)) 0 [2, 3, 4] [] io92.pat (calc_times.L6 k)) else none
def calc_times.body : Code := bodyOf Tryz.f25
def calc_times.b6 : Code := findD 6 calc_times.body
theorem calc_times.s6 (w0 : World) (k : Nat) : ∀ v K, calc_times.L6 k v K = runK (cfg w0 (tab60 k)) Tryz.f25.ntmps (calc_times.kr w0 k) (annot (calc_times.cuts w0 k) calc_times.b6) (mkSt [2, 3, 4] (io92.enc v)) (outK (cfg w0 (tab60 k)) 0 calc_times.x6 K) := by
  intro v K; kernel_rfl
theorem calc_times.e (w0 : World) (k : Nat) : ∀ v, (fun v => calc_times k v.1 v.2.1 v.2.2.1 v.2.2.2) v = runK (cfg w0 (tab60 k)) Tryz.f25.ntmps (calc_times.kr w0 k) (annot (calc_times.cuts w0 k) calc_times.body) (entry (io91.enc v).1 (io91.enc v).2) (endK (calc_times.kr w0 k)) := by
  intro v; kernel_rfl
theorem calc_times.hb : Tryz.f25.body = some calc_times.body := by kernel_rfl
def tab61 (k : Nat) : Tab T := addTab 25 (line io91 io90 ((0 : Int), (0 : Int), (0 : Int)) (fun v => calc_times k v.1 v.2.1 v.2.2.1 v.2.2.2)) (tab60 k)
def calc_divided (k : Nat) (a1 : Int) (a2 : Int) (a3 : Int) (a4 : Int) : Option (Int × Int × Int) :=
cond (a3 != (4 : Int)) (
some ((0 : Int), (0 : Int), (7 : Int))) (
cond (a4 == (0 : Int)) (
some ((0 : Int), (0 : Int), (1 : Int))) (
let v5 : Int := (IntKind.wrap .i64 (a2 * (1000 : Int)))
(calc_down k v5 a4).bind fun r6 =>
(calc_cut k r6).bind fun r7 =>
some (a1, r7, (0 : Int))))
def calc_divided.kr (w0 : World) (k : Nat) : Kr T (Int × Int × Int) := (kret (retK (cfg w0 (tab61 k)) Tryz.f26.results.toList 0 [] io90.pat))
def calc_divided.cuts (w0 : World) (k : Nat) : Cuts T (Int × Int × Int) := fun n => none
def calc_divided.body : Code := bodyOf Tryz.f26
theorem calc_divided.e (w0 : World) (k : Nat) : ∀ v, (fun v => calc_divided k v.1 v.2.1 v.2.2.1 v.2.2.2) v = runK (cfg w0 (tab61 k)) Tryz.f26.ntmps (calc_divided.kr w0 k) (annot (calc_divided.cuts w0 k) calc_divided.body) (entry (io91.enc v).1 (io91.enc v).2) (endK (calc_divided.kr w0 k)) := by
  intro v; kernel_rfl
theorem calc_divided.hb : Tryz.f26.body = some calc_divided.body := by kernel_rfl
def tab62 (k : Nat) : Tab T := addTab 26 (line io91 io90 ((0 : Int), (0 : Int), (0 : Int)) (fun v => calc_divided k v.1 v.2.1 v.2.2.1 v.2.2.2)) (tab61 k)
def calc_alike_v2.c7 (k : Nat) : Nat → Int → (List S33) → (List S33) → Int → Int → Int → Int → Int → Int → (Int → (List S33) → Int → Int → Int → Int → Option (Int × Int × Int)) → Option (Int × Int × Int)
  | 0, _, _, _, _, _, _, _, _, _, _ => none
  | n + 1, x6, x7, x8, x9, x10, x11, x12, x13, x14, k0 =>
    cond (decide (x10 < x9)) (
    cond (decide (0 ≤ x10 ∧ x10 < (x8.length : Int))) (
    let v15 : Bool := (((x8.getD x10.toNat S33.d).Kind) != x13)
    cond v15 (
    some ((0 : Int), (0 : Int), (7 : Int))) (
    cond (x6 == (2 : Int)) (
    let v16 : Int := (IntKind.wrap .i64 (x14 + ((x8.getD x10.toNat S33.d).N)))
    let v17 : Int := (IntKind.wrap .i64 (x10 + (1 : Int)))
    calc_alike_v2.c7 k n x6 x7 x8 x9 v17 x11 x12 x13 v16 k0) (
    cond (x6 == (3 : Int)) (
    let v18 : Int := (IntKind.wrap .i64 (x14 - ((x8.getD x10.toNat S33.d).N)))
    let v19 : Int := (IntKind.wrap .i64 (x10 + (1 : Int)))
    calc_alike_v2.c7 k n x6 x7 x8 x9 v19 x11 x12 x13 v18 k0) (
    cond (x6 == (6 : Int)) (
    let v20 : Int := (if ((x8.getD x10.toNat S33.d).N) < x14 then ((x8.getD x10.toNat S33.d).N) else x14)
    let v21 : Int := (IntKind.wrap .i64 (x10 + (1 : Int)))
    calc_alike_v2.c7 k n x6 x7 x8 x9 v21 x11 x12 x13 v20 k0) (
    cond (x6 == (7 : Int)) (
    let v22 : Int := (if ((x8.getD x10.toNat S33.d).N) > x14 then ((x8.getD x10.toNat S33.d).N) else x14)
    let v23 : Int := (IntKind.wrap .i64 (x10 + (1 : Int)))
    calc_alike_v2.c7 k n x6 x7 x8 x9 v23 x11 x12 x13 v22 k0) (
    let v24 : Int := (IntKind.wrap .i64 (x10 + (1 : Int)))
    calc_alike_v2.c7 k n x6 x7 x8 x9 v24 x11 x12 x13 x14 k0)))))) none) (
    k0 x6 x7 x11 x12 x13 x14)
def calc_alike_v2.c36 (k : Nat) (x36 : Int) (x37 : Int) (x38 : Int) (x39 : Int)  : Option (Int × Int × Int) :=
(calc_cut k x39).bind fun r40 =>
some (x38, r40, (0 : Int))
def calc_alike_v2 (k : Nat) (a1 : Int) (a2 : List S33) : Option (Int × Int × Int) :=
cond (decide (0 ≤ (0 : Int) ∧ (0 : Int) < (a2.length : Int))) (
let v3 : Int := (a2.getD ((0 : Int).toNat) S33.d).Kind
let v4 : Int := (a2.getD ((0 : Int).toNat) S33.d).N
cond (decide (0 ≤ (1 : Int) ∧ (1 : Int) ≤ (a2.length : Int))) (
let v5 : Int := ((a2.drop (1 : Int).toNat).length : Int)
calc_alike_v2.c7 k k a1 a2 (a2.drop (1 : Int).toNat) v5 (0 : Int) (0 : Int) (0 : Int) v3 v4 (fun (y25 : Int) (y26 : List S33) (y27 : Int) (y28 : Int) (y29 : Int) (y30 : Int) =>
cond (y25 == (8 : Int)) (
cond (decide (0 ≤ (0 : Int) ∧ (0 : Int) < (y26.length : Int))) (
let v31 : Int := (y26.getD ((0 : Int).toNat) S33.d).N
cond (decide (0 ≤ (1 : Int) ∧ (1 : Int) < (y26.length : Int))) (
let v32 : Int := (y26.getD ((1 : Int).toNat) S33.d).N
cond (decide (0 ≤ (2 : Int) ∧ (2 : Int) < (y26.length : Int))) (
let v33 : Int := (y26.getD ((2 : Int).toNat) S33.d).N
let v34 : Int := (if v33 < v32 then v33 else v32)
let v35 : Int := (if v34 > v31 then v34 else v31)
calc_alike_v2.c36 k y27 y28 y29 v35) none) none) none) (
calc_alike_v2.c36 k y27 y28 y29 y30))) none) none
def calc_alike_v2.kr (w0 : World) (k : Nat) : Kr T (Int × Int × Int) := (kret (retK (cfg w0 (tab62 k)) Tryz.f27.results.toList 0 [] io90.pat))
def calc_alike_v2.x7 : Ex → Option (List Nat × List Sp)
  | .exit 0 => some ([0, 1, 4, 6], [])
  | _ => none
def calc_alike_v2.L7 (k : Nat) (n : Nat) (v : Int × (List S33) × (List S33) × Int × Int × Int × Int × Int × Int) (K : Ex → St T → Option (Int × Int × Int)) : Option (Int × Int × Int) := calc_alike_v2.c7 k n v.1 v.2.1 v.2.2.1 v.2.2.2.1 v.2.2.2.2.1 v.2.2.2.2.2.1 v.2.2.2.2.2.2.1 v.2.2.2.2.2.2.2.1 v.2.2.2.2.2.2.2.2 (fun y111 y112 y113 y114 y115 y116 => K (.exit 0) (mkSt [0, 1, 4, 6] (io95.enc (y111, y112, y113, y114, y115, y116))))
def calc_alike_v2.x36 : Ex → Option (List Nat × List Sp)
  | _ => none
def calc_alike_v2.L36 (k : Nat) (v : Int × Int × Int × Int) (K : Ex → St T → Option (Int × Int × Int)) : Option (Int × Int × Int) := calc_alike_v2.c36 k v.1 v.2.1 v.2.2.1 v.2.2.2
def calc_alike_v2.cuts (w0 : World) (k : Nat) : Cuts T (Int × Int × Int) := fun n => bif n.beq 7 then some (entK (cfg w0 (tab62 k)) 0 [0, 1, 4, 6, 13, 14, 15] [] io94.pat (calc_alike_v2.L7 k k)) else bif n.beq 36 then some (entK (cfg w0 (tab62 k)) 0 [4, 6] [] io96.pat (calc_alike_v2.L36 k)) else none
def calc_alike_v2.body : Code := bodyOf Tryz.f27
def calc_alike_v2.b7 : Code := findD 7 calc_alike_v2.body
theorem calc_alike_v2.s7 (w0 : World) (k : Nat) : ∀ n v K, calc_alike_v2.L7 k (n + 1) v K = runK (cfg w0 (tab62 k)) Tryz.f27.ntmps (calc_alike_v2.kr w0 k) (annot (calc_alike_v2.cuts w0 k) calc_alike_v2.b7) (mkSt [0, 1, 4, 6, 13, 14, 15] (io94.enc v)) (loopK (cfg w0 (tab62 k)) 0 calc_alike_v2.x7 (entK (cfg w0 (tab62 k)) 0 [0, 1, 4, 6, 13, 14, 15] [] io94.pat (calc_alike_v2.L7 k n)) K) := by
  intro n v K; kernel_rfl
def calc_alike_v2.b36 : Code := findD 36 calc_alike_v2.body
theorem calc_alike_v2.s36 (w0 : World) (k : Nat) : ∀ v K, calc_alike_v2.L36 k v K = runK (cfg w0 (tab62 k)) Tryz.f27.ntmps (calc_alike_v2.kr w0 k) (annot (calc_alike_v2.cuts w0 k) calc_alike_v2.b36) (mkSt [4, 6] (io96.enc v)) (outK (cfg w0 (tab62 k)) 0 calc_alike_v2.x36 K) := by
  intro v K; kernel_rfl
theorem calc_alike_v2.e (w0 : World) (k : Nat) : ∀ v, (fun v => calc_alike_v2 k v.1 v.2) v = runK (cfg w0 (tab62 k)) Tryz.f27.ntmps (calc_alike_v2.kr w0 k) (annot (calc_alike_v2.cuts w0 k) calc_alike_v2.body) (entry (io93.enc v).1 (io93.enc v).2) (endK (calc_alike_v2.kr w0 k)) := by
  intro v; kernel_rfl
theorem calc_alike_v2.hb : Tryz.f27.body = some calc_alike_v2.body := by kernel_rfl
def tab63 (k : Nat) : Tab T := addTab 27 (line io93 io90 ((0 : Int), (0 : Int), (0 : Int)) (fun v => calc_alike_v2 k v.1 v.2)) (tab62 k)
structure calc_value_v2.G.R where
  calc_value_v2 : Int → Int → (List UInt8) → (List S29) → Int → Int → Int → Int → Option (Int × Int × Int)
def calc_value_v2.c11 (k : Nat) (r : calc_value_v2.G.R) : Nat → (List S29) → Int → Int → Int → Int → (List UInt8) → (List S29) → Int → Int → Int → Int → Int → Int → (List S33) → (Int → Int → (List UInt8) → (List S29) → Int → Int → (List S33) → Option (Int × Int × Int)) → Option (Int × Int × Int)
  | 0, _, _, _, _, _, _, _, _, _, _, _, _, _, _, _ => none
  | n + 1, x10, x11, x12, x13, x14, x15, x16, x17, x18, x19, x20, x21, x22, x23, k0 =>
    cond (decide (x12 < x11)) (
    cond (decide (0 ≤ x12 ∧ x12 < (x10.length : Int))) (
    let v24 : Int := (x10.getD x12.toNat S29.d).Kind
    let v25 : Int := (x10.getD x12.toNat S29.d).Dim_Num
    let v26 : List UInt8 := (x10.getD x12.toNat S29.d).Dim_Unit
    let v27 : List S29 := (x10.getD x12.toNat S29.d).Subs
    (r.calc_value_v2 v24 v25 v26 v27 x17 x18 x19 x20).bind fun r28 =>
    cond (r28.2.2 != (0 : Int)) (
    some ((0 : Int), (0 : Int), r28.2.2)) (
    cond (decide ((x23 ++ ([(⟨r28.1, r28.2.1⟩ : S33)])).length < most)) (
    let v29 : List S33 := (x23 ++ ([(⟨r28.1, r28.2.1⟩ : S33)]))
    let v30 : Int := (IntKind.wrap .i64 (x12 + (1 : Int)))
    calc_value_v2.c11 k r n x10 x11 v30 x13 x14 x15 x16 x17 x18 x19 x20 x21 x22 v29 k0) none)) none) (
    k0 x13 x14 x15 x16 x21 x22 x23)
def calc_value_v2.nat (k : Nat) (r : calc_value_v2.G.R) (a1 : Int) (a2 : Int) (a3 : List UInt8) (a4 : List S29) (a5 : Int) (a6 : Int) (a7 : Int) (a8 : Int) : Option (Int × Int × Int) :=
cond (a1 == (1 : Int)) (
(calc_number k a2 a3 a5 a6 a7 a8).bind fun r9 =>
some (r9.1, r9.2.1, r9.2.2)) (
calc_value_v2.c11 k r k a4 (a4.length : Int) (0 : Int) a1 a2 a3 a4 a5 a6 a7 a8 (0 : Int) (0 : Int) ([] : List S33) (fun (y31 : Int) (y32 : Int) (y33 : List UInt8) (y34 : List S29) (y35 : Int) (y36 : Int) (y37 : List S33) =>
cond (y31 == (4 : Int)) (
cond (decide (0 ≤ (0 : Int) ∧ (0 : Int) < (y37.length : Int))) (
let v38 : Int := (y37.getD ((0 : Int).toNat) S33.d).Kind
let v39 : Int := (y37.getD ((0 : Int).toNat) S33.d).N
cond (decide (0 ≤ (1 : Int) ∧ (1 : Int) < (y37.length : Int))) (
let v40 : Int := (y37.getD ((1 : Int).toNat) S33.d).Kind
let v41 : Int := (y37.getD ((1 : Int).toNat) S33.d).N
(calc_times k v38 v39 v40 v41).bind fun r42 =>
some (r42.1, r42.2.1, r42.2.2)) none) none) (
cond (y31 == (5 : Int)) (
cond (decide (0 ≤ (0 : Int) ∧ (0 : Int) < (y37.length : Int))) (
let v43 : Int := (y37.getD ((0 : Int).toNat) S33.d).Kind
let v44 : Int := (y37.getD ((0 : Int).toNat) S33.d).N
cond (decide (0 ≤ (1 : Int) ∧ (1 : Int) < (y37.length : Int))) (
let v45 : Int := (y37.getD ((1 : Int).toNat) S33.d).Kind
let v46 : Int := (y37.getD ((1 : Int).toNat) S33.d).N
(calc_divided k v43 v44 v45 v46).bind fun r47 =>
some (r47.1, r47.2.1, r47.2.2)) none) none) (
(calc_alike_v2 k y31 y37).bind fun r48 =>
some (r48.1, r48.2.1, r48.2.2)))))
def calc_value_v2.G.rec (k : Nat) : Nat → calc_value_v2.G.R
  | 0 => ⟨fun _ _ _ _ _ _ _ _ => none⟩
  | n + 1 => ⟨calc_value_v2.nat k (calc_value_v2.G.rec k n)⟩
def calc_value_v2 (k : Nat) : Int → Int → (List UInt8) → (List S29) → Int → Int → Int → Int → Option (Int × Int × Int) := (calc_value_v2.G.rec k k).calc_value_v2
def calc_value_v2.G.tab (k : Nat) (r : calc_value_v2.G.R) : Tab T := addTab 13 (line io97 io90 ((0 : Int), (0 : Int), (0 : Int)) (fun v => r.calc_value_v2 v.1 v.2.1 v.2.2.1 v.2.2.2.1 v.2.2.2.2.1 v.2.2.2.2.2.1 v.2.2.2.2.2.2.1 v.2.2.2.2.2.2.2)) (tab63 k)
def calc_value_v2.kr (w0 : World) (k : Nat) (r : calc_value_v2.G.R) : Kr T (Int × Int × Int) := (kret (retK (cfg w0 (calc_value_v2.G.tab k r)) Tryz.f13.results.toList 0 [] io90.pat))
def calc_value_v2.x11 : Ex → Option (List Nat × List Sp)
  | .exit 0 => some ([2, 4, 6], [.own 6 33])
  | _ => none
def calc_value_v2.L11 (k : Nat) (r : calc_value_v2.G.R) (n : Nat) (v : (List S29) × Int × Int × Int × Int × (List UInt8) × (List S29) × Int × Int × Int × Int × Int × Int × (List S33)) (K : Ex → St T → Option (Int × Int × Int)) : Option (Int × Int × Int) := calc_value_v2.c11 k r n v.1 v.2.1 v.2.2.1 v.2.2.2.1 v.2.2.2.2.1 v.2.2.2.2.2.1 v.2.2.2.2.2.2.1 v.2.2.2.2.2.2.2.1 v.2.2.2.2.2.2.2.2.1 v.2.2.2.2.2.2.2.2.2.1 v.2.2.2.2.2.2.2.2.2.2.1 v.2.2.2.2.2.2.2.2.2.2.2.1 v.2.2.2.2.2.2.2.2.2.2.2.2.1 v.2.2.2.2.2.2.2.2.2.2.2.2.2 (fun y117 y118 y119 y120 y121 y122 y123 => K (.exit 0) (mkSt [2, 4, 6] (io99.enc (y117, y118, y119, y120, y121, y122, y123))))
def calc_value_v2.cuts (w0 : World) (k : Nat) (r : calc_value_v2.G.R) : Cuts T (Int × Int × Int) := fun n => bif n.beq 11 then some (entK (cfg w0 (calc_value_v2.G.tab k r)) 0 [2, 3, 4, 6, 21, 22, 23] [.own 6 33] io98.pat (calc_value_v2.L11 k r k)) else none
def calc_value_v2.body : Code := bodyOf Tryz.f13
def calc_value_v2.b11 : Code := findD 11 calc_value_v2.body
theorem calc_value_v2.s11 (w0 : World) (k : Nat) (r : calc_value_v2.G.R) : ∀ n v K, calc_value_v2.L11 k r (n + 1) v K = runK (cfg w0 (calc_value_v2.G.tab k r)) Tryz.f13.ntmps (calc_value_v2.kr w0 k r) (annot (calc_value_v2.cuts w0 k r) calc_value_v2.b11) (mkSt [2, 3, 4, 6, 21, 22, 23] (io98.enc v)) (loopK (cfg w0 (calc_value_v2.G.tab k r)) 0 calc_value_v2.x11 (entK (cfg w0 (calc_value_v2.G.tab k r)) 0 [2, 3, 4, 6, 21, 22, 23] [.own 6 33] io98.pat (calc_value_v2.L11 k r n)) K) := by
  intro n v K; kernel_rfl
theorem calc_value_v2.e (w0 : World) (k : Nat) (r : calc_value_v2.G.R) : ∀ v, (fun v => calc_value_v2.nat k r v.1 v.2.1 v.2.2.1 v.2.2.2.1 v.2.2.2.2.1 v.2.2.2.2.2.1 v.2.2.2.2.2.2.1 v.2.2.2.2.2.2.2) v = runK (cfg w0 (calc_value_v2.G.tab k r)) Tryz.f13.ntmps (calc_value_v2.kr w0 k r) (annot (calc_value_v2.cuts w0 k r) calc_value_v2.body) (entry (io97.enc v).1 (io97.enc v).2) (endK (calc_value_v2.kr w0 k r)) := by
  intro v; kernel_rfl
theorem calc_value_v2.hb : Tryz.f13.body = some calc_value_v2.body := by kernel_rfl
def tab64 (k : Nat) : Tab T := calc_value_v2.G.tab k (calc_value_v2.G.rec k k)
def calc_value.c11 (k : Nat) : Nat → Int → Int → (List S29) → Int → Int → (List UInt8) → Int → Int → Int → Int → Int → Int → (List S33) → ((List S29) → Int → Int → (List UInt8) → Int → Int → (List S33) → Option (Int × Int × Int × (List S29))) → Option (Int × Int × Int × (List S29))
  | 0, _, _, _, _, _, _, _, _, _, _, _, _, _, _ => none
  | n + 1, x10, x11, x12, x13, x14, x15, x16, x17, x18, x19, x20, x21, x22, k0 =>
    cond (decide (x11 < x10)) (
    cond (decide (0 ≤ x11 ∧ x11 < (x12.length : Int))) (
    let v23 : Int := (x12.getD x11.toNat S29.d).Kind
    let v24 : Int := (x12.getD x11.toNat S29.d).Dim_Num
    let v25 : List UInt8 := (x12.getD x11.toNat S29.d).Dim_Unit
    let v26 : List S29 := (x12.getD x11.toNat S29.d).Subs
    (calc_value_v2 k v23 v24 v25 v26 x16 x17 x18 x19).bind fun r27 =>
    cond (r27.2.2 != (0 : Int)) (
    some ((0 : Int), (0 : Int), r27.2.2, x12)) (
    cond (decide ((x22 ++ ([(⟨r27.1, r27.2.1⟩ : S33)])).length < most)) (
    let v28 : List S33 := (x22 ++ ([(⟨r27.1, r27.2.1⟩ : S33)]))
    let v29 : Int := (IntKind.wrap .i64 (x11 + (1 : Int)))
    calc_value.c11 k n x10 v29 x12 x13 x14 x15 x16 x17 x18 x19 x20 x21 v28 k0) none)) none) (
    k0 x12 x13 x14 x15 x20 x21 x22)
def calc_value (k : Nat) (a1 : Int) (a2 : Int) (a3 : List UInt8) (a4 : Int) (a5 : Int) (a6 : Int) (a7 : Int) (a8 : List S29) : Option (Int × Int × Int × (List S29)) :=
cond (a1 == (1 : Int)) (
(calc_number k a2 a3 a4 a5 a6 a7).bind fun r9 =>
some (r9.1, r9.2.1, r9.2.2, a8)) (
calc_value.c11 k k (a8.length : Int) (0 : Int) a8 a1 a2 a3 a4 a5 a6 a7 (0 : Int) (0 : Int) ([] : List S33) (fun (y30 : List S29) (y31 : Int) (y32 : Int) (y33 : List UInt8) (y34 : Int) (y35 : Int) (y36 : List S33) =>
cond (y31 == (4 : Int)) (
cond (decide (0 ≤ (0 : Int) ∧ (0 : Int) < (y36.length : Int))) (
let v37 : Int := (y36.getD ((0 : Int).toNat) S33.d).Kind
let v38 : Int := (y36.getD ((0 : Int).toNat) S33.d).N
cond (decide (0 ≤ (1 : Int) ∧ (1 : Int) < (y36.length : Int))) (
let v39 : Int := (y36.getD ((1 : Int).toNat) S33.d).Kind
let v40 : Int := (y36.getD ((1 : Int).toNat) S33.d).N
(calc_times k v37 v38 v39 v40).bind fun r41 =>
some (r41.1, r41.2.1, r41.2.2, y30)) none) none) (
cond (y31 == (5 : Int)) (
cond (decide (0 ≤ (0 : Int) ∧ (0 : Int) < (y36.length : Int))) (
let v42 : Int := (y36.getD ((0 : Int).toNat) S33.d).Kind
let v43 : Int := (y36.getD ((0 : Int).toNat) S33.d).N
cond (decide (0 ≤ (1 : Int) ∧ (1 : Int) < (y36.length : Int))) (
let v44 : Int := (y36.getD ((1 : Int).toNat) S33.d).Kind
let v45 : Int := (y36.getD ((1 : Int).toNat) S33.d).N
(calc_divided k v42 v43 v44 v45).bind fun r46 =>
some (r46.1, r46.2.1, r46.2.2, y30)) none) none) (
(calc_alike_v2 k y31 y36).bind fun r47 =>
some (r47.1, r47.2.1, r47.2.2, y30)))))
def calc_value.kr (w0 : World) (k : Nat) : Kr T (Int × Int × Int × (List S29)) := (kret (retK (cfg w0 (tab64 k)) Tryz.f13.results.toList 1 [] io101.pat))
def calc_value.x11 : Ex → Option (List Nat × List Sp)
  | .exit 0 => some ([2, 4, 6], [.own 6 33])
  | _ => none
def calc_value.L11 (k : Nat) (n : Nat) (v : Int × Int × (List S29) × Int × Int × (List UInt8) × Int × Int × Int × Int × Int × Int × (List S33)) (K : Ex → St T → Option (Int × Int × Int × (List S29))) : Option (Int × Int × Int × (List S29)) := calc_value.c11 k n v.1 v.2.1 v.2.2.1 v.2.2.2.1 v.2.2.2.2.1 v.2.2.2.2.2.1 v.2.2.2.2.2.2.1 v.2.2.2.2.2.2.2.1 v.2.2.2.2.2.2.2.2.1 v.2.2.2.2.2.2.2.2.2.1 v.2.2.2.2.2.2.2.2.2.2.1 v.2.2.2.2.2.2.2.2.2.2.2.1 v.2.2.2.2.2.2.2.2.2.2.2.2 (fun y124 y125 y126 y127 y128 y129 y130 => K (.exit 0) (mkSt [2, 4, 6] (io103.enc (y124, y125, y126, y127, y128, y129, y130))))
def calc_value.cuts (w0 : World) (k : Nat) : Cuts T (Int × Int × Int × (List S29)) := fun n => bif n.beq 11 then some (entK (cfg w0 (tab64 k)) 1 [2, 3, 4, 6, 21, 22, 23] [.own 6 33] io102.pat (calc_value.L11 k k)) else none
def calc_value.body : Code := bodyOf Tryz.f13
def calc_value.b11 : Code := findD 11 calc_value.body
theorem calc_value.s11 (w0 : World) (k : Nat) : ∀ n v K, calc_value.L11 k (n + 1) v K = runK (cfg w0 (tab64 k)) Tryz.f13.ntmps (calc_value.kr w0 k) (annot (calc_value.cuts w0 k) calc_value.b11) (mkSt [2, 3, 4, 6, 21, 22, 23] (io102.enc v)) (loopK (cfg w0 (tab64 k)) 1 calc_value.x11 (entK (cfg w0 (tab64 k)) 1 [2, 3, 4, 6, 21, 22, 23] [.own 6 33] io102.pat (calc_value.L11 k n)) K) := by
  intro n v K; kernel_rfl
theorem calc_value.e (w0 : World) (k : Nat) : ∀ v, (fun v => calc_value k v.1 v.2.1 v.2.2.1 v.2.2.2.1 v.2.2.2.2.1 v.2.2.2.2.2.1 v.2.2.2.2.2.2.1 v.2.2.2.2.2.2.2) v = runK (cfg w0 (tab64 k)) Tryz.f13.ntmps (calc_value.kr w0 k) (annot (calc_value.cuts w0 k) calc_value.body) (entry (io100.enc v).1 (io100.enc v).2) (endK (calc_value.kr w0 k)) := by
  intro v; kernel_rfl
theorem calc_value.hb : Tryz.f13.body = some calc_value.body := by kernel_rfl
def tab65 (k : Nat) : Tab T := addTab 13 (line io100 io101 ((0 : Int), (0 : Int), (0 : Int), []) (fun v => calc_value k v.1 v.2.1 v.2.2.1 v.2.2.2.1 v.2.2.2.2.1 v.2.2.2.2.2.1 v.2.2.2.2.2.2.1 v.2.2.2.2.2.2.2)) (tab64 k)
def calc_Value (k : Nat) (a1 : Int) (a2 : Int) (a3 : List UInt8) (a4 : Int) (a5 : Int) (a6 : Int) (a7 : Int) (a8 : List S29) : Option (Int × Int × Int × (List S29)) :=
(calc_count k a1 a2 a3 a8).bind fun r9 =>
cond (!r9.2.1) (
some ((0 : Int), (0 : Int), (3 : Int), r9.2.2)) (
(calc_value k a1 a2 a3 a4 a5 a6 a7 r9.2.2).bind fun r10 =>
some (r10.1, r10.2.1, r10.2.2.1, r10.2.2.2))
def calc_Value.kr (w0 : World) (k : Nat) : Kr T (Int × Int × Int × (List S29)) := (kret (retK (cfg w0 (tab65 k)) Tryz.f9.results.toList 1 [] io101.pat))
def calc_Value.cuts (w0 : World) (k : Nat) : Cuts T (Int × Int × Int × (List S29)) := fun n => none
def calc_Value.body : Code := bodyOf Tryz.f9
theorem calc_Value.e (w0 : World) (k : Nat) : ∀ v, (fun v => calc_Value k v.1 v.2.1 v.2.2.1 v.2.2.2.1 v.2.2.2.2.1 v.2.2.2.2.2.1 v.2.2.2.2.2.2.1 v.2.2.2.2.2.2.2) v = runK (cfg w0 (tab65 k)) Tryz.f9.ntmps (calc_Value.kr w0 k) (annot (calc_Value.cuts w0 k) calc_Value.body) (entry (io100.enc v).1 (io100.enc v).2) (endK (calc_Value.kr w0 k)) := by
  intro v; kernel_rfl
theorem calc_Value.hb : Tryz.f9.body = some calc_Value.body := by kernel_rfl
def tab66 (k : Nat) : Tab T := addTab 9 (line io100 io101 ((0 : Int), (0 : Int), (0 : Int), []) (fun v => calc_Value k v.1 v.2.1 v.2.2.1 v.2.2.2.1 v.2.2.2.2.1 v.2.2.2.2.2.1 v.2.2.2.2.2.2.1 v.2.2.2.2.2.2.2)) (tab65 k)
def calc_Value_v2 (k : Nat) (a1 : Int) (a2 : Int) (a3 : List UInt8) (a4 : List S29) (a5 : Int) (a6 : Int) (a7 : Int) (a8 : Int) : Option (Int × Int × Int) :=
(calc_count_v2 k a1 a2 a3 a4).bind fun r9 =>
cond (!r9.2) (
some ((0 : Int), (0 : Int), (3 : Int))) (
(calc_value_v2 k a1 a2 a3 a4 a5 a6 a7 a8).bind fun r10 =>
some (r10.1, r10.2.1, r10.2.2))
def calc_Value_v2.kr (w0 : World) (k : Nat) : Kr T (Int × Int × Int) := (kret (retK (cfg w0 (tab66 k)) Tryz.f9.results.toList 0 [] io90.pat))
def calc_Value_v2.cuts (w0 : World) (k : Nat) : Cuts T (Int × Int × Int) := fun n => none
def calc_Value_v2.body : Code := bodyOf Tryz.f9
theorem calc_Value_v2.e (w0 : World) (k : Nat) : ∀ v, (fun v => calc_Value_v2 k v.1 v.2.1 v.2.2.1 v.2.2.2.1 v.2.2.2.2.1 v.2.2.2.2.2.1 v.2.2.2.2.2.2.1 v.2.2.2.2.2.2.2) v = runK (cfg w0 (tab66 k)) Tryz.f9.ntmps (calc_Value_v2.kr w0 k) (annot (calc_Value_v2.cuts w0 k) calc_Value_v2.body) (entry (io97.enc v).1 (io97.enc v).2) (endK (calc_Value_v2.kr w0 k)) := by
  intro v; kernel_rfl
theorem calc_Value_v2.hb : Tryz.f9.body = some calc_Value_v2.body := by kernel_rfl
def tab67 (k : Nat) : Tab T := addTab 9 (line io97 io90 ((0 : Int), (0 : Int), (0 : Int)) (fun v => calc_Value_v2 k v.1 v.2.1 v.2.2.1 v.2.2.2.1 v.2.2.2.2.1 v.2.2.2.2.2.1 v.2.2.2.2.2.2.1 v.2.2.2.2.2.2.2)) (tab66 k)
def clerestorykeep2_CalcBetween (k : Nat) (a1 : Int) (a2 : Int) (a3 : Int) (a4 : Int) (a5 : Int) (a6 : Int) (a7 : Int) (a8 : Int) : Option (Bool) :=
(clerestorykeep2_twice k).bind fun r9 =>
(clerestorykeep2_unitOf k a4).bind fun r10 =>
(clerestorykeep2_num k a1 r10).bind fun r11 =>
(clerestorykeep2_unitOf k a4).bind fun r12 =>
(clerestorykeep2_num k a2 r12).bind fun r13 =>
(clerestorykeep2_unitOf k a4).bind fun r14 =>
(clerestorykeep2_num k a3 r14).bind fun r15 =>
let v16 : List S29 := [(⟨r11.1, r11.2.1, r11.2.2, []⟩ : S29), (⟨r13.1, r13.2.1, r13.2.2, []⟩ : S29), (⟨r15.1, r15.2.1, r15.2.2, []⟩ : S29)]
(calc_Value k (8 : Int) (0 : Int) ([]) a5 a6 a7 a8 v16).bind fun r17 =>
cond (decide (0 ≤ (0 : Int) ∧ (0 : Int) < (r17.2.2.2.length : Int))) (
let v18 : Int := (r17.2.2.2.getD ((0 : Int).toNat) S29.d).Kind
let v19 : Int := (r17.2.2.2.getD ((0 : Int).toNat) S29.d).Dim_Num
let v20 : List UInt8 := (r17.2.2.2.getD ((0 : Int).toNat) S29.d).Dim_Unit
let v21 : List S29 := (r17.2.2.2.getD ((0 : Int).toNat) S29.d).Subs
(calc_Value_v2 k v18 v19 v20 v21 a5 a6 a7 a8).bind fun r22 =>
cond (decide (0 ≤ (1 : Int) ∧ (1 : Int) < (r17.2.2.2.length : Int))) (
let v23 : Int := (r17.2.2.2.getD ((1 : Int).toNat) S29.d).Kind
let v24 : Int := (r17.2.2.2.getD ((1 : Int).toNat) S29.d).Dim_Num
let v25 : List UInt8 := (r17.2.2.2.getD ((1 : Int).toNat) S29.d).Dim_Unit
let v26 : List S29 := (r17.2.2.2.getD ((1 : Int).toNat) S29.d).Subs
(calc_Value_v2 k v23 v24 v25 v26 a5 a6 a7 a8).bind fun r27 =>
cond (decide (0 ≤ (2 : Int) ∧ (2 : Int) < (r17.2.2.2.length : Int))) (
let v28 : Int := (r17.2.2.2.getD ((2 : Int).toNat) S29.d).Kind
let v29 : Int := (r17.2.2.2.getD ((2 : Int).toNat) S29.d).Dim_Num
let v30 : List UInt8 := (r17.2.2.2.getD ((2 : Int).toNat) S29.d).Dim_Unit
let v31 : List S29 := (r17.2.2.2.getD ((2 : Int).toNat) S29.d).Subs
(calc_Value_v2 k v28 v29 v30 v31 a5 a6 a7 a8).bind fun r32 =>
let v33 : Bool := (cond (r17.2.2.1 != (0 : Int)) true (r22.2.2 != (0 : Int)))
let v34 : Bool := (cond v33 true (r27.2.2 != (0 : Int)))
let v35 : Bool := (cond v34 true (r32.2.2 != (0 : Int)))
cond v35 (
let v36 : Bool := (cond r9 (r17.2.2.1 != (0 : Int)) false)
some v36) (
let v37 : Bool := (cond r9 (decide (r17.2.1 ≥ r22.2.1)) false)
let v38 : Bool := (cond (decide (r17.2.1 ≤ r32.2.1)) true (decide (r32.2.1 < r22.2.1)))
let v39 : Bool := ((r17.1 == r22.1) && ((r17.2.1 == r22.2.1) && true))
let v40 : Bool := ((r17.1 == r27.1) && ((r17.2.1 == r27.2.1) && true))
let v41 : Bool := ((r17.1 == r32.1) && ((r17.2.1 == r32.2.1) && true))
let v42 : Bool := (cond (cond v39 true v40) true v41)
let v43 : Bool := (cond (cond v37 v38 false) v42 false)
some v43)) none) none) none
def clerestorykeep2_CalcBetween.kr (w0 : World) (k : Nat) : Kr T (Bool) := (kret (retK (cfg w0 (tab67 k)) Tryz.f3.results.toList 0 [] io2.pat))
def clerestorykeep2_CalcBetween.cuts (w0 : World) (k : Nat) : Cuts T (Bool) := fun n => none
def clerestorykeep2_CalcBetween.body : Code := bodyOf Tryz.f3
theorem clerestorykeep2_CalcBetween.e (w0 : World) (k : Nat) : ∀ v, (fun v => clerestorykeep2_CalcBetween k v.1 v.2.1 v.2.2.1 v.2.2.2.1 v.2.2.2.2.1 v.2.2.2.2.2.1 v.2.2.2.2.2.2.1 v.2.2.2.2.2.2.2) v = runK (cfg w0 (tab67 k)) Tryz.f3.ntmps (clerestorykeep2_CalcBetween.kr w0 k) (annot (clerestorykeep2_CalcBetween.cuts w0 k) clerestorykeep2_CalcBetween.body) (entry (io104.enc v).1 (io104.enc v).2) (endK (clerestorykeep2_CalcBetween.kr w0 k)) := by
  intro v; kernel_rfl
theorem clerestorykeep2_CalcBetween.hb : Tryz.f3.body = some clerestorykeep2_CalcBetween.body := by kernel_rfl
def tab68 (k : Nat) : Tab T := addTab 3 (line io104 io2 false (fun v => clerestorykeep2_CalcBetween k v.1 v.2.1 v.2.2.1 v.2.2.2.1 v.2.2.2.2.1 v.2.2.2.2.2.1 v.2.2.2.2.2.2.1 v.2.2.2.2.2.2.2)) (tab67 k)
def clerestorykeep2_CalcOrder (k : Nat) (a1 : Int) (a2 : Int) (a3 : Int) (a4 : Int) (a5 : Int) (a6 : Int) (a7 : Int) : Option (Bool) :=
(clerestorykeep2_twice k).bind fun r8 =>
(clerestorykeep2_unitOf k a3).bind fun r9 =>
(clerestorykeep2_num k a1 r9).bind fun r10 =>
(clerestorykeep2_unitOf k a3).bind fun r11 =>
(clerestorykeep2_num k a2 r11).bind fun r12 =>
let v13 : List S29 := [(⟨r10.1, r10.2.1, r10.2.2, []⟩ : S29), (⟨r12.1, r12.2.1, r12.2.2, []⟩ : S29)]
(calc_Value k (6 : Int) (0 : Int) ([]) a4 a5 a6 a7 v13).bind fun r14 =>
(calc_Value k (7 : Int) (0 : Int) ([]) a4 a5 a6 a7 r14.2.2.2).bind fun r15 =>
cond (decide (0 ≤ (0 : Int) ∧ (0 : Int) < (r15.2.2.2.length : Int))) (
let v16 : Int := (r15.2.2.2.getD ((0 : Int).toNat) S29.d).Kind
let v17 : Int := (r15.2.2.2.getD ((0 : Int).toNat) S29.d).Dim_Num
let v18 : List UInt8 := (r15.2.2.2.getD ((0 : Int).toNat) S29.d).Dim_Unit
let v19 : List S29 := (r15.2.2.2.getD ((0 : Int).toNat) S29.d).Subs
(calc_Value_v2 k v16 v17 v18 v19 a4 a5 a6 a7).bind fun r20 =>
cond (decide (0 ≤ (1 : Int) ∧ (1 : Int) < (r15.2.2.2.length : Int))) (
let v21 : Int := (r15.2.2.2.getD ((1 : Int).toNat) S29.d).Kind
let v22 : Int := (r15.2.2.2.getD ((1 : Int).toNat) S29.d).Dim_Num
let v23 : List UInt8 := (r15.2.2.2.getD ((1 : Int).toNat) S29.d).Dim_Unit
let v24 : List S29 := (r15.2.2.2.getD ((1 : Int).toNat) S29.d).Subs
(calc_Value_v2 k v21 v22 v23 v24 a4 a5 a6 a7).bind fun r25 =>
let v26 : Bool := (cond (r14.2.2.1 != (0 : Int)) true (r15.2.2.1 != (0 : Int)))
let v27 : Bool := (cond v26 true (r20.2.2 != (0 : Int)))
let v28 : Bool := (cond v27 true (r25.2.2 != (0 : Int)))
cond v28 (
let v29 : Bool := (cond r8 (r14.2.2.1 == r15.2.2.1) false)
let v30 : Bool := (cond v29 (r14.2.2.1 != (0 : Int)) false)
some v30) (
let v31 : Int := (if r25.2.1 < r20.2.1 then r25.2.1 else r20.2.1)
let v32 : Bool := (cond r8 (r14.2.1 == v31) false)
let v33 : Int := (if r25.2.1 > r20.2.1 then r25.2.1 else r20.2.1)
let v34 : Bool := (cond v32 (r15.2.1 == v33) false)
let v35 : Int := (IntKind.wrap .i64 (r14.2.1 + r15.2.1))
let v36 : Int := (IntKind.wrap .i64 (r20.2.1 + r25.2.1))
let v37 : Bool := (cond (cond v34 (v35 == v36) false) (r14.1 == r20.1) false)
some v37)) none) none
def clerestorykeep2_CalcOrder.kr (w0 : World) (k : Nat) : Kr T (Bool) := (kret (retK (cfg w0 (tab68 k)) Tryz.f4.results.toList 0 [] io2.pat))
def clerestorykeep2_CalcOrder.cuts (w0 : World) (k : Nat) : Cuts T (Bool) := fun n => none
def clerestorykeep2_CalcOrder.body : Code := bodyOf Tryz.f4
theorem clerestorykeep2_CalcOrder.e (w0 : World) (k : Nat) : ∀ v, (fun v => clerestorykeep2_CalcOrder k v.1 v.2.1 v.2.2.1 v.2.2.2.1 v.2.2.2.2.1 v.2.2.2.2.2.1 v.2.2.2.2.2.2) v = runK (cfg w0 (tab68 k)) Tryz.f4.ntmps (clerestorykeep2_CalcOrder.kr w0 k) (annot (clerestorykeep2_CalcOrder.cuts w0 k) clerestorykeep2_CalcOrder.body) (entry (io105.enc v).1 (io105.enc v).2) (endK (clerestorykeep2_CalcOrder.kr w0 k)) := by
  intro v; kernel_rfl
theorem clerestorykeep2_CalcOrder.hb : Tryz.f4.body = some clerestorykeep2_CalcOrder.body := by kernel_rfl
def tab69 (k : Nat) : Tab T := addTab 4 (line io105 io2 false (fun v => clerestorykeep2_CalcOrder k v.1 v.2.1 v.2.2.1 v.2.2.2.1 v.2.2.2.2.1 v.2.2.2.2.2.1 v.2.2.2.2.2.2)) (tab68 k)
def calc_shaped_v3 (k : Nat) (a1 : Int) (a2 : Int) (a3 : List UInt8) : Option (Bool) :=
cond (a1 == (1 : Int)) (
let v4 : Bool := (((0 : Nat) : Int) == (0 : Int))
some v4) (
cond (a1 == (2 : Int)) (
cond (a1 == (2 : Int)) (
let v5 : Bool := (((0 : Nat) : Int) == (2 : Int))
some v5) (
cond (a1 == (6 : Int)) (
cond (a1 == (6 : Int)) (
let v6 : Bool := (decide (((0 : Nat) : Int) > (0 : Int)))
some v6) (
cond (a1 == (8 : Int)) (
let v7 : Bool := (((0 : Nat) : Int) == (3 : Int))
some v7) (
some false))) (
cond (a1 == (7 : Int)) (
let v8 : Bool := (decide (((0 : Nat) : Int) > (0 : Int)))
some v8) (
cond (a1 == (8 : Int)) (
let v9 : Bool := (((0 : Nat) : Int) == (3 : Int))
some v9) (
some false))))) (
cond (a1 == (3 : Int)) (
cond (a1 == (3 : Int)) (
let v10 : Bool := (((0 : Nat) : Int) == (2 : Int))
some v10) (
cond (a1 == (6 : Int)) (
cond (a1 == (6 : Int)) (
let v11 : Bool := (decide (((0 : Nat) : Int) > (0 : Int)))
some v11) (
cond (a1 == (8 : Int)) (
let v12 : Bool := (((0 : Nat) : Int) == (3 : Int))
some v12) (
some false))) (
cond (a1 == (7 : Int)) (
let v13 : Bool := (decide (((0 : Nat) : Int) > (0 : Int)))
some v13) (
cond (a1 == (8 : Int)) (
let v14 : Bool := (((0 : Nat) : Int) == (3 : Int))
some v14) (
some false))))) (
cond (a1 == (4 : Int)) (
cond (a1 == (4 : Int)) (
let v15 : Bool := (((0 : Nat) : Int) == (2 : Int))
some v15) (
cond (a1 == (6 : Int)) (
cond (a1 == (6 : Int)) (
let v16 : Bool := (decide (((0 : Nat) : Int) > (0 : Int)))
some v16) (
cond (a1 == (8 : Int)) (
let v17 : Bool := (((0 : Nat) : Int) == (3 : Int))
some v17) (
some false))) (
cond (a1 == (7 : Int)) (
let v18 : Bool := (decide (((0 : Nat) : Int) > (0 : Int)))
some v18) (
cond (a1 == (8 : Int)) (
let v19 : Bool := (((0 : Nat) : Int) == (3 : Int))
some v19) (
some false))))) (
cond (a1 == (5 : Int)) (
let v20 : Bool := (((0 : Nat) : Int) == (2 : Int))
some v20) (
cond (a1 == (6 : Int)) (
cond (a1 == (6 : Int)) (
let v21 : Bool := (decide (((0 : Nat) : Int) > (0 : Int)))
some v21) (
cond (a1 == (8 : Int)) (
let v22 : Bool := (((0 : Nat) : Int) == (3 : Int))
some v22) (
some false))) (
cond (a1 == (7 : Int)) (
let v23 : Bool := (decide (((0 : Nat) : Int) > (0 : Int)))
some v23) (
cond (a1 == (8 : Int)) (
let v24 : Bool := (((0 : Nat) : Int) == (3 : Int))
some v24) (
some false))))))))
def calc_shaped_v3.kr (w0 : World) (k : Nat) : Kr T (Bool) := (kret (retK (cfg w0 (tab69 k)) Tryz.f19.results.toList 0 [] io2.pat))
def calc_shaped_v3.cuts (w0 : World) (k : Nat) : Cuts T (Bool) := fun n => none
def calc_shaped_v3.body : Code := bodyOf Tryz.f19
theorem calc_shaped_v3.e (w0 : World) (k : Nat) : ∀ v, (fun v => calc_shaped_v3 k v.1 v.2.1 v.2.2) v = runK (cfg w0 (tab69 k)) Tryz.f19.ntmps (calc_shaped_v3.kr w0 k) (annot (calc_shaped_v3.cuts w0 k) calc_shaped_v3.body) (entry (io81.enc v).1 (io81.enc v).2) (endK (calc_shaped_v3.kr w0 k)) := by
  intro v; kernel_rfl
theorem calc_shaped_v3.hb : Tryz.f19.body = some calc_shaped_v3.body := by kernel_rfl
def tab70 (k : Nat) : Tab T := addTab 19 (line io81 io2 false (fun v => calc_shaped_v3 k v.1 v.2.1 v.2.2)) (tab69 k)
def calc_count_v3.c11 (k : Nat) : Nat → Int → Int → Int → (Int → Option (Int × Bool)) → Option (Int × Bool)
  | 0, _, _, _, _ => none
  | n + 1, x5, x6, x7, k0 =>
    cond (decide (x7 < x6)) (
    none) (
    k0 x5)
def calc_count_v3 (k : Nat) (a1 : Int) (a2 : Int) (a3 : List UInt8) : Option (Int × Bool) :=
(calc_shaped_v3 k a1 a2 a3).bind fun r4 =>
cond (!r4) (
some ((1 : Int), false)) (
calc_count_v3.c11 k k (1 : Int) ((0 : Nat) : Int) (0 : Int) (fun (y8 : Int) =>
some (y8, true)))
def calc_count_v3.kr (w0 : World) (k : Nat) : Kr T (Int × Bool) := (kret (retK (cfg w0 (tab70 k)) Tryz.f12.results.toList 0 [] io82.pat))
def calc_count_v3.x11 : Ex → Option (List Nat × List Sp)
  | .exit 0 => some ([4], [])
  | _ => none
def calc_count_v3.L11 (k : Nat) (n : Nat) (v : Int × Int × Int) (K : Ex → St T → Option (Int × Bool)) : Option (Int × Bool) := calc_count_v3.c11 k n v.1 v.2.1 v.2.2 (fun y131 => K (.exit 0) (mkSt [4] (io4.enc y131)))
def calc_count_v3.cuts (w0 : World) (k : Nat) : Cuts T (Int × Bool) := fun n => bif n.beq 11 then some (entK (cfg w0 (tab70 k)) 0 [4, 14, 15, 16] [] io106.pat (calc_count_v3.L11 k k)) else none
def calc_count_v3.body : Code := bodyOf Tryz.f12
def calc_count_v3.b11 : Code := findD 11 calc_count_v3.body
theorem calc_count_v3.s11 (w0 : World) (k : Nat) : ∀ n v K, calc_count_v3.L11 k (n + 1) v K = runK (cfg w0 (tab70 k)) Tryz.f12.ntmps (calc_count_v3.kr w0 k) (annot (calc_count_v3.cuts w0 k) calc_count_v3.b11) (mkSt [4, 14, 15, 16] (io106.enc v)) (loopK (cfg w0 (tab70 k)) 0 calc_count_v3.x11 (entK (cfg w0 (tab70 k)) 0 [4, 14, 15, 16] [] io106.pat (calc_count_v3.L11 k n)) K) := by
  intro n v K; kernel_rfl
theorem calc_count_v3.e (w0 : World) (k : Nat) : ∀ v, (fun v => calc_count_v3 k v.1 v.2.1 v.2.2) v = runK (cfg w0 (tab70 k)) Tryz.f12.ntmps (calc_count_v3.kr w0 k) (annot (calc_count_v3.cuts w0 k) calc_count_v3.body) (entry (io81.enc v).1 (io81.enc v).2) (endK (calc_count_v3.kr w0 k)) := by
  intro v; kernel_rfl
theorem calc_count_v3.hb : Tryz.f12.body = some calc_count_v3.body := by kernel_rfl
def tab71 (k : Nat) : Tab T := addTab 12 (line io81 io82 ((0 : Int), false) (fun v => calc_count_v3 k v.1 v.2.1 v.2.2)) (tab70 k)
def calc_value_v3.c11 (k : Nat) : Nat → Int → Int → Int → Int → (List UInt8) → Int → Int → Int → Int → Int → Int → (Int → Int → (List UInt8) → Int → Int → Option (Int × Int × Int)) → Option (Int × Int × Int)
  | 0, _, _, _, _, _, _, _, _, _, _, _, _ => none
  | n + 1, x9, x10, x11, x12, x13, x14, x15, x16, x17, x18, x19, k0 =>
    cond (decide (x10 < x9)) (
    none) (
    k0 x11 x12 x13 x18 x19)
def calc_value_v3 (k : Nat) (a1 : Int) (a2 : Int) (a3 : List UInt8) (a4 : Int) (a5 : Int) (a6 : Int) (a7 : Int) : Option (Int × Int × Int) :=
cond (a1 == (1 : Int)) (
(calc_number k a2 a3 a4 a5 a6 a7).bind fun r8 =>
some (r8.1, r8.2.1, r8.2.2)) (
calc_value_v3.c11 k k ((0 : Nat) : Int) (0 : Int) a1 a2 a3 a4 a5 a6 a7 (0 : Int) (0 : Int) (fun (y20 : Int) (y21 : Int) (y22 : List UInt8) (y23 : Int) (y24 : Int) =>
cond (y20 == (4 : Int)) (
none) (
cond (y20 == (5 : Int)) (
none) (
none))))
def calc_value_v3.kr (w0 : World) (k : Nat) : Kr T (Int × Int × Int) := (kret (retK (cfg w0 (tab71 k)) Tryz.f13.results.toList 0 [] io90.pat))
def calc_value_v3.x11 : Ex → Option (List Nat × List Sp)
  | .exit 0 => some ([2, 4, 6], [])
  | _ => none
def calc_value_v3.L11 (k : Nat) (n : Nat) (v : Int × Int × Int × Int × (List UInt8) × Int × Int × Int × Int × Int × Int) (K : Ex → St T → Option (Int × Int × Int)) : Option (Int × Int × Int) := calc_value_v3.c11 k n v.1 v.2.1 v.2.2.1 v.2.2.2.1 v.2.2.2.2.1 v.2.2.2.2.2.1 v.2.2.2.2.2.2.1 v.2.2.2.2.2.2.2.1 v.2.2.2.2.2.2.2.2.1 v.2.2.2.2.2.2.2.2.2.1 v.2.2.2.2.2.2.2.2.2.2 (fun y132 y133 y134 y135 y136 => K (.exit 0) (mkSt [2, 4, 6] (io109.enc (y132, y133, y134, y135, y136))))
def calc_value_v3.cuts (w0 : World) (k : Nat) : Cuts T (Int × Int × Int) := fun n => bif n.beq 11 then some (entK (cfg w0 (tab71 k)) 0 [2, 3, 4, 6, 21, 22, 23] [] io108.pat (calc_value_v3.L11 k k)) else none
def calc_value_v3.body : Code := bodyOf Tryz.f13
def calc_value_v3.b11 : Code := findD 11 calc_value_v3.body
theorem calc_value_v3.s11 (w0 : World) (k : Nat) : ∀ n v K, calc_value_v3.L11 k (n + 1) v K = runK (cfg w0 (tab71 k)) Tryz.f13.ntmps (calc_value_v3.kr w0 k) (annot (calc_value_v3.cuts w0 k) calc_value_v3.b11) (mkSt [2, 3, 4, 6, 21, 22, 23] (io108.enc v)) (loopK (cfg w0 (tab71 k)) 0 calc_value_v3.x11 (entK (cfg w0 (tab71 k)) 0 [2, 3, 4, 6, 21, 22, 23] [] io108.pat (calc_value_v3.L11 k n)) K) := by
  intro n v K; kernel_rfl
theorem calc_value_v3.e (w0 : World) (k : Nat) : ∀ v, (fun v => calc_value_v3 k v.1 v.2.1 v.2.2.1 v.2.2.2.1 v.2.2.2.2.1 v.2.2.2.2.2.1 v.2.2.2.2.2.2) v = runK (cfg w0 (tab71 k)) Tryz.f13.ntmps (calc_value_v3.kr w0 k) (annot (calc_value_v3.cuts w0 k) calc_value_v3.body) (entry (io107.enc v).1 (io107.enc v).2) (endK (calc_value_v3.kr w0 k)) := by
  intro v; kernel_rfl
theorem calc_value_v3.hb : Tryz.f13.body = some calc_value_v3.body := by kernel_rfl
def tab72 (k : Nat) : Tab T := addTab 13 (line io107 io90 ((0 : Int), (0 : Int), (0 : Int)) (fun v => calc_value_v3 k v.1 v.2.1 v.2.2.1 v.2.2.2.1 v.2.2.2.2.1 v.2.2.2.2.2.1 v.2.2.2.2.2.2)) (tab71 k)
def calc_Value_v3 (k : Nat) (a1 : Int) (a2 : Int) (a3 : List UInt8) (a4 : Int) (a5 : Int) (a6 : Int) (a7 : Int) : Option (Int × Int × Int) :=
(calc_count_v3 k a1 a2 a3).bind fun r8 =>
cond (!r8.2) (
some ((0 : Int), (0 : Int), (3 : Int))) (
(calc_value_v3 k a1 a2 a3 a4 a5 a6 a7).bind fun r9 =>
some (r9.1, r9.2.1, r9.2.2))
def calc_Value_v3.kr (w0 : World) (k : Nat) : Kr T (Int × Int × Int) := (kret (retK (cfg w0 (tab72 k)) Tryz.f9.results.toList 0 [] io90.pat))
def calc_Value_v3.cuts (w0 : World) (k : Nat) : Cuts T (Int × Int × Int) := fun n => none
def calc_Value_v3.body : Code := bodyOf Tryz.f9
theorem calc_Value_v3.e (w0 : World) (k : Nat) : ∀ v, (fun v => calc_Value_v3 k v.1 v.2.1 v.2.2.1 v.2.2.2.1 v.2.2.2.2.1 v.2.2.2.2.2.1 v.2.2.2.2.2.2) v = runK (cfg w0 (tab72 k)) Tryz.f9.ntmps (calc_Value_v3.kr w0 k) (annot (calc_Value_v3.cuts w0 k) calc_Value_v3.body) (entry (io107.enc v).1 (io107.enc v).2) (endK (calc_Value_v3.kr w0 k)) := by
  intro v; kernel_rfl
theorem calc_Value_v3.hb : Tryz.f9.body = some calc_Value_v3.body := by kernel_rfl
def tab73 (k : Nat) : Tab T := addTab 9 (line io107 io90 ((0 : Int), (0 : Int), (0 : Int)) (fun v => calc_Value_v3 k v.1 v.2.1 v.2.2.1 v.2.2.2.1 v.2.2.2.2.1 v.2.2.2.2.2.1 v.2.2.2.2.2.2)) (tab72 k)
def clerestorykeep2_CalcSum (k : Nat) (a1 : Int) (a2 : Int) (a3 : Int) (a4 : Int) (a5 : Int) (a6 : Int) (a7 : Int) : Option (Bool) :=
(clerestorykeep2_twice k).bind fun r8 =>
(clerestorykeep2_unitOf k a3).bind fun r9 =>
(clerestorykeep2_num k a1 r9).bind fun r10 =>
(clerestorykeep2_unitOf k a3).bind fun r11 =>
(clerestorykeep2_num k a2 r11).bind fun r12 =>
let v13 : List S29 := [(⟨r10.1, r10.2.1, r10.2.2, []⟩ : S29), (⟨r12.1, r12.2.1, r12.2.2, []⟩ : S29)]
(calc_Value k (2 : Int) (0 : Int) ([]) a4 a5 a6 a7 v13).bind fun r14 =>
let v15 : List S29 := [(⟨r12.1, r12.2.1, r12.2.2, []⟩ : S29), (⟨r10.1, r10.2.1, r10.2.2, []⟩ : S29)]
(calc_Value k (2 : Int) (0 : Int) ([]) a4 a5 a6 a7 v15).bind fun r16 =>
let v17 : List S29 := [(⟨r10.1, r10.2.1, r10.2.2, []⟩ : S29), (⟨r12.1, r12.2.1, r12.2.2, []⟩ : S29)]
let v18 : List S29 := [(⟨(2 : Int), (0 : Int), [], v17⟩ : S29), (⟨r12.1, r12.2.1, r12.2.2, []⟩ : S29)]
(calc_Value k (3 : Int) (0 : Int) ([]) a4 a5 a6 a7 v18).bind fun r19 =>
(calc_Value_v3 k r10.1 r10.2.1 r10.2.2 a4 a5 a6 a7).bind fun r20 =>
(clerestorykeep2_num k (3000 : Int) ([] : List UInt8)).bind fun r21 =>
let v22 : List S29 := [(⟨r10.1, r10.2.1, r10.2.2, []⟩ : S29), (⟨r21.1, r21.2.1, r21.2.2, []⟩ : S29)]
(calc_Value k (4 : Int) (0 : Int) ([]) a4 a5 a6 a7 v22).bind fun r23 =>
let v24 : List S29 := [(⟨r21.1, r21.2.1, r21.2.2, []⟩ : S29), (⟨r10.1, r10.2.1, r10.2.2, []⟩ : S29)]
(calc_Value k (4 : Int) (0 : Int) ([]) a4 a5 a6 a7 v24).bind fun r25 =>
let v26 : Bool := (cond (r14.2.2.1 != (0 : Int)) true (r16.2.2.1 != (0 : Int)))
let v27 : Bool := (cond v26 true (r19.2.2.1 != (0 : Int)))
let v28 : Bool := (cond v27 true (r20.2.2 != (0 : Int)))
cond v28 (
let v29 : Bool := (cond r8 (r14.2.2.1 != (0 : Int)) false)
let v30 : Bool := (cond v29 (r16.2.2.1 != (0 : Int)) false)
some v30) (
let v31 : Bool := (decide (r14.2.1 ≥ (16777216 : Int)))
let v32 : Bool := (decide (r14.2.1 ≤ (-16777216 : Int)))
let v33 : Bool := ((r14.1 == r16.1) && ((r14.2.1 == r16.2.1) && true))
let v34 : Bool := ((r19.1 == r20.1) && ((r19.2.1 == r20.2.1) && true))
let v35 : Bool := (cond (cond v31 true v32) true v34)
let v36 : Bool := (cond (cond r8 v33 false) v35 false)
let v37 : Bool := (cond v36 (r23.2.2.1 == r25.2.2.1) false)
let v38 : Bool := ((r23.1 == r25.1) && ((r23.2.1 == r25.2.1) && true))
let v39 : Bool := (cond (cond v37 v38 false) (r23.2.2.1 == (0 : Int)) false)
some v39)
def clerestorykeep2_CalcSum.kr (w0 : World) (k : Nat) : Kr T (Bool) := (kret (retK (cfg w0 (tab73 k)) Tryz.f5.results.toList 0 [] io2.pat))
def clerestorykeep2_CalcSum.cuts (w0 : World) (k : Nat) : Cuts T (Bool) := fun n => none
def clerestorykeep2_CalcSum.body : Code := bodyOf Tryz.f5
theorem clerestorykeep2_CalcSum.e (w0 : World) (k : Nat) : ∀ v, (fun v => clerestorykeep2_CalcSum k v.1 v.2.1 v.2.2.1 v.2.2.2.1 v.2.2.2.2.1 v.2.2.2.2.2.1 v.2.2.2.2.2.2) v = runK (cfg w0 (tab73 k)) Tryz.f5.ntmps (clerestorykeep2_CalcSum.kr w0 k) (annot (clerestorykeep2_CalcSum.cuts w0 k) clerestorykeep2_CalcSum.body) (entry (io105.enc v).1 (io105.enc v).2) (endK (clerestorykeep2_CalcSum.kr w0 k)) := by
  intro v; kernel_rfl
theorem clerestorykeep2_CalcSum.hb : Tryz.f5.body = some clerestorykeep2_CalcSum.body := by kernel_rfl
def tab74 (k : Nat) : Tab T := addTab 5 (line io105 io2 false (fun v => clerestorykeep2_CalcSum k v.1 v.2.1 v.2.2.1 v.2.2.2.1 v.2.2.2.2.1 v.2.2.2.2.2.1 v.2.2.2.2.2.2)) (tab73 k)
attribute [local irreducible] runK retK annot entry
end
end Go.Ev.Cz
