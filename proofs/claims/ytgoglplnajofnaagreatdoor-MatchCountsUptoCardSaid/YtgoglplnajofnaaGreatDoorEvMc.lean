/- A part of the evaluator of Go code over small heaps and of its proof: no condition beyond those that each theorem names. -/
import Derived.Test.YtgoglplnajofnaaGreatDoorEvDfr
import Derived.Test.YtgoglplnajofnaaGreatDoorEvShW
import Derived.Test.YtgoglplnajofnaaGreatDoorProg
import Derived.KernelRfl
set_option linter.unusedVariables false
set_option maxRecDepth 100000
namespace Go.Ev.Mc
noncomputable section
open Go.Proofs Go.Ev

structure S89 where
  Name : List UInt8
  Value : List UInt8
def S89.d : S89 := ⟨[], []⟩
structure S31 where
  Kind : Int
  Name : List UInt8
  Attrs : List S89
  Text : List UInt8
  Parent : Int
  Kids : List Int
def S31.d : S31 := ⟨0, [], [], [], 0, []⟩
mutual
structure S96 where
  Kind : Int
  Name : List UInt8
  Op : Int
  Value : List UInt8
  A : Int
  B : Int
  Subs : List S52
structure S52 where
  Steps : List (List S96)
  Joins : List Int
end
def S96.d : S96 := ⟨0, [], 0, [], 0, 0, []⟩
def S52.d : S52 := ⟨[], []⟩
structure S79 where
  Kind : Int
  Raw : List UInt8
  Value : List UInt8
  Num : Int
def S79.d : S79 := ⟨0, [], [], 0⟩
def base : TypeId → (α : Type) × α
  | 3 => ⟨Int, (0 : Int)⟩
  | 4 => ⟨Bool, false⟩
  | 5 => ⟨Int, (0 : Int)⟩
  | 9 => ⟨List UInt8, []⟩
  | 89 => ⟨S89, S89.d⟩
  | 31 => ⟨S31, S31.d⟩
  | 96 => ⟨S96, S96.d⟩
  | 94 => ⟨List S96, []⟩
  | 52 => ⟨S52, S52.d⟩
  | 79 => ⟨S79, S79.d⟩
  | _ => ⟨Unit, ()⟩
def T (t : TypeId) : Type := (base t).1
def dflt (t : TypeId) : T t := (base t).2
def dl (t : TypeId) : D T → Option (List (T t))
  | .l t' xs => asT t t' xs
  | .ns => some []
  | _ => none
theorem dl_le {t : TypeId} {d : D T} {l : List (T t)} (h : dl t d = some l) : leD d (.l t l) := by
  unfold dl at h
  split at h
  · rw [asT_l h]; exact .refl _
  · cases h; exact .ns _
  · cases h
def enc3 (x : Int) : List (D T) := [.i .i64 x]
def dec3 (ds : List (D T)) : Option (Int) := match ds with
  | [.i .i64 x0] => some x0
  | _ => none
theorem dec3_ok {ds : List (D T)} {x : Int} (h : dec3 ds = some x) : leDs ds (enc3 x) := by
  unfold dec3 at h
  split at h
  · cases h
    exact .cons (.refl _) <| .nil
  · cases h
def enc4 (x : Bool) : List (D T) := [.b x]
def dec4 (ds : List (D T)) : Option (Bool) := match ds with
  | [.b x0] => some x0
  | _ => none
theorem dec4_ok {ds : List (D T)} {x : Bool} (h : dec4 ds = some x) : leDs ds (enc4 x) := by
  unfold dec4 at h
  split at h
  · cases h
    exact .cons (.refl _) <| .nil
  · cases h
def enc5 (x : Int) : List (D T) := [.i .u8 x]
def dec5 (ds : List (D T)) : Option (Int) := match ds with
  | [.i .u8 x0] => some x0
  | _ => none
theorem dec5_ok {ds : List (D T)} {x : Int} (h : dec5 ds = some x) : leDs ds (enc5 x) := by
  unfold dec5 at h
  split at h
  · cases h
    exact .cons (.refl _) <| .nil
  · cases h
def enc9 (x : List UInt8) : List (D T) := [.s x]
def dec9 (ds : List (D T)) : Option (List UInt8) := match ds with
  | [.s x0] => some x0
  | _ => none
theorem dec9_ok {ds : List (D T)} {x : List UInt8} (h : dec9 ds = some x) : leDs ds (enc9 x) := by
  unfold dec9 at h
  split at h
  · cases h
    exact .cons (.refl _) <| .nil
  · cases h
def enc89 (x : S89) : List (D T) := [.s x.Name, .s x.Value]
def dec89 (ds : List (D T)) : Option (S89) := match ds with
  | [.s x0, .s x1] => some ⟨x0, x1⟩
  | _ => none
theorem dec89_ok {ds : List (D T)} {x : S89} (h : dec89 ds = some x) : leDs ds (enc89 x) := by
  unfold dec89 at h
  split at h
  · cases h
    exact .cons (.refl _) <| .cons (.refl _) <| .nil
  · cases h
def enc31 (x : S31) : List (D T) := [.i .i64 x.Kind, .s x.Name, .l 89 x.Attrs, .s x.Text, .i .i64 x.Parent, .l 3 x.Kids]
def dec31 (ds : List (D T)) : Option (S31) := match ds with
  | [.i .i64 x0, .s x1, d2, .s x3, .i .i64 x4, d5] => (dl 89 d2).bind fun l2 => (dl 3 d5).bind fun l5 => some ⟨x0, x1, l2, x3, x4, l5⟩
  | _ => none
theorem dec31_ok {ds : List (D T)} {x : S31} (h : dec31 ds = some x) : leDs ds (enc31 x) := by
  unfold dec31 at h
  split at h
  · obtain ⟨l2, h2, h⟩ := Option.bind_eq_some_iff.1 h
    obtain ⟨l5, h5, h⟩ := Option.bind_eq_some_iff.1 h
    cases h
    exact .cons (.refl _) <| .cons (.refl _) <| .cons (dl_le h2) <| .cons (.refl _) <| .cons (.refl _) <| .cons (dl_le h5) <| .nil
  · cases h
def enc96 (x : S96) : List (D T) := [.i .i64 x.Kind, .s x.Name, .i .u8 x.Op, .s x.Value, .i .i64 x.A, .i .i64 x.B, .l 52 x.Subs]
def dec96 (ds : List (D T)) : Option (S96) := match ds with
  | [.i .i64 x0, .s x1, .i .u8 x2, .s x3, .i .i64 x4, .i .i64 x5, d6] => (dl 52 d6).bind fun l6 => some ⟨x0, x1, x2, x3, x4, x5, l6⟩
  | _ => none
theorem dec96_ok {ds : List (D T)} {x : S96} (h : dec96 ds = some x) : leDs ds (enc96 x) := by
  unfold dec96 at h
  split at h
  · obtain ⟨l6, h6, h⟩ := Option.bind_eq_some_iff.1 h
    cases h
    exact .cons (.refl _) <| .cons (.refl _) <| .cons (.refl _) <| .cons (.refl _) <| .cons (.refl _) <| .cons (.refl _) <| .cons (dl_le h6) <| .nil
  · cases h
def enc94 (x : List S96) : List (D T) := [.l 96 x]
def dec94 (ds : List (D T)) : Option (List S96) := match ds with
  | [d0] => (dl 96 d0).bind fun l0 => some l0
  | _ => none
theorem dec94_ok {ds : List (D T)} {x : List S96} (h : dec94 ds = some x) : leDs ds (enc94 x) := by
  unfold dec94 at h
  split at h
  · obtain ⟨l0, h0, h⟩ := Option.bind_eq_some_iff.1 h
    cases h
    exact .cons (dl_le h0) <| .nil
  · cases h
def enc52 (x : S52) : List (D T) := [.l 94 x.Steps, .l 5 x.Joins]
def dec52 (ds : List (D T)) : Option (S52) := match ds with
  | [d0, d1] => (dl 94 d0).bind fun l0 => (dl 5 d1).bind fun l1 => some ⟨l0, l1⟩
  | _ => none
theorem dec52_ok {ds : List (D T)} {x : S52} (h : dec52 ds = some x) : leDs ds (enc52 x) := by
  unfold dec52 at h
  split at h
  · obtain ⟨l0, h0, h⟩ := Option.bind_eq_some_iff.1 h
    obtain ⟨l1, h1, h⟩ := Option.bind_eq_some_iff.1 h
    cases h
    exact .cons (dl_le h0) <| .cons (dl_le h1) <| .nil
  · cases h
def enc79 (x : S79) : List (D T) := [.i .i64 x.Kind, .s x.Raw, .s x.Value, .i .i64 x.Num]
def dec79 (ds : List (D T)) : Option (S79) := match ds with
  | [.i .i64 x0, .s x1, .s x2, .i .i64 x3] => some ⟨x0, x1, x2, x3⟩
  | _ => none
theorem dec79_ok {ds : List (D T)} {x : S79} (h : dec79 ds = some x) : leDs ds (enc79 x) := by
  unfold dec79 at h
  split at h
  · cases h
    exact .cons (.refl _) <| .cons (.refl _) <| .cons (.refl _) <| .cons (.refl _) <| .nil
  · cases h
def enc : (t : TypeId) → T t → List (D T)
  | 3, x => enc3 x
  | 4, x => enc4 x
  | 5, x => enc5 x
  | 9, x => enc9 x
  | 89, x => enc89 x
  | 31, x => enc31 x
  | 96, x => enc96 x
  | 94, x => enc94 x
  | 52, x => enc52 x
  | 79, x => enc79 x
  | _, _ => []
def dec (t : TypeId) (ds : List (D T)) : Option (T t) := if h : t = 3 then (h ▸ (dec3 ds : Option (T 3))) else if h : t = 4 then (h ▸ (dec4 ds : Option (T 4))) else if h : t = 5 then (h ▸ (dec5 ds : Option (T 5))) else if h : t = 9 then (h ▸ (dec9 ds : Option (T 9))) else if h : t = 89 then (h ▸ (dec89 ds : Option (T 89))) else if h : t = 31 then (h ▸ (dec31 ds : Option (T 31))) else if h : t = 96 then (h ▸ (dec96 ds : Option (T 96))) else if h : t = 94 then (h ▸ (dec94 ds : Option (T 94))) else if h : t = 52 then (h ▸ (dec52 ds : Option (T 52))) else if h : t = 79 then (h ▸ (dec79 ds : Option (T 79))) else none
theorem dec_ok (t : TypeId) (ds : List (D T)) (x : T t) (h : dec t ds = some x) : leDs ds (enc t x) := by
  unfold dec at h
  by_cases h3 : t = 3
  · subst h3; exact dec3_ok (show dec3 ds = some x from h)
  rw [dif_neg h3] at h
  by_cases h4 : t = 4
  · subst h4; exact dec4_ok (show dec4 ds = some x from h)
  rw [dif_neg h4] at h
  by_cases h5 : t = 5
  · subst h5; exact dec5_ok (show dec5 ds = some x from h)
  rw [dif_neg h5] at h
  by_cases h9 : t = 9
  · subst h9; exact dec9_ok (show dec9 ds = some x from h)
  rw [dif_neg h9] at h
  by_cases h89 : t = 89
  · subst h89; exact dec89_ok (show dec89 ds = some x from h)
  rw [dif_neg h89] at h
  by_cases h31 : t = 31
  · subst h31; exact dec31_ok (show dec31 ds = some x from h)
  rw [dif_neg h31] at h
  by_cases h96 : t = 96
  · subst h96; exact dec96_ok (show dec96 ds = some x from h)
  rw [dif_neg h96] at h
  by_cases h94 : t = 94
  · subst h94; exact dec94_ok (show dec94 ds = some x from h)
  rw [dif_neg h94] at h
  by_cases h52 : t = 52
  · subst h52; exact dec52_ok (show dec52 ds = some x from h)
  rw [dif_neg h52] at h
  by_cases h79 : t = 79
  · subst h79; exact dec79_ok (show dec79 ds = some x from h)
  rw [dif_neg h79] at h
  cases h
def knl : List TypeId := [3, 4, 5, 9, 89, 31, 96, 94, 52, 79]

def ofB : (t : TypeId) → List UInt8 → List (T t)
  | 5, l => bytesI l
  | _, _ => []
def toB : (t : TypeId) → List (T t) → List UInt8
  | 5, l => bytesU l
  | _, _ => []
def cod : Cod T := ⟨fun t => knl.any (·.beq t), enc, dec, dflt, ofB, toB⟩
def gv : Nat → Option (List (D T))
  | _ => none
def eql : List TypeId := []
def hdl : List FuncId := [47, 77]
def fbl : List TypeId := [65]
def cfg (w0 : World) (t : Tab T) : Cfg T := ⟨Tryz.prog, cod, t, fun t => eql.any (·.beq t), w0, gv, 138, 5, fun f => hdl.any (·.beq f), fun t => fbl.any (·.beq t)⟩
def F22 (c : Cfg T) : V T → List (V T) → List (Obj T) → Option (List (Obj T)) := runF c Tryz.f22.ntmps 2 5 (seqR (bodyOf Tryz.f22))
/-- What is asked of the first world. -/
structure Wd (w0 : World) : Prop where
  gv : GvOk (cfg w0 noTab)
  mx : NumAt w0 (Sh.ren143.g 1)
  es : IfAt w0 (Sh.ren172.g 15)
  er : IfAt w0 (Sh.ren172.g 16)

theorem mem_of {l : List TypeId} {t : TypeId} (h : l.any (·.beq t) = true) : t ∈ l := by
  rw [List.any_eq_true] at h
  obtain ⟨x, hx, hb⟩ := h
  rw [← Nat.eq_of_beq_eq_true hb]; exact hx
theorem len3 : 1 = Tryz.prog.cellsOf 3 := by kernel_rfl
theorem u8_3 : isU8 Tryz.prog 3 = false := by kernel_rfl
theorem len4 : 1 = Tryz.prog.cellsOf 4 := by kernel_rfl
theorem u8_4 : isU8 Tryz.prog 4 = false := by kernel_rfl
theorem len5 : 1 = Tryz.prog.cellsOf 5 := by kernel_rfl
theorem len9 : 1 = Tryz.prog.cellsOf 9 := by kernel_rfl
theorem u8_9 : isU8 Tryz.prog 9 = false := by kernel_rfl
theorem len89 : 2 = Tryz.prog.cellsOf 89 := by kernel_rfl
theorem u8_89 : isU8 Tryz.prog 89 = false := by kernel_rfl
theorem len31 : 6 = Tryz.prog.cellsOf 31 := by kernel_rfl
theorem u8_31 : isU8 Tryz.prog 31 = false := by kernel_rfl
theorem fl31 : flatT Tryz.prog 20 31 = false := by kernel_rfl
theorem len96 : 7 = Tryz.prog.cellsOf 96 := by kernel_rfl
theorem u8_96 : isU8 Tryz.prog 96 = false := by kernel_rfl
theorem fl96 : flatT Tryz.prog 20 96 = false := by kernel_rfl
theorem len94 : 1 = Tryz.prog.cellsOf 94 := by kernel_rfl
theorem u8_94 : isU8 Tryz.prog 94 = false := by kernel_rfl
theorem fl94 : flatT Tryz.prog 20 94 = false := by kernel_rfl
theorem len52 : 2 = Tryz.prog.cellsOf 52 := by kernel_rfl
theorem u8_52 : isU8 Tryz.prog 52 = false := by kernel_rfl
theorem fl52 : flatT Tryz.prog 20 52 = false := by kernel_rfl
theorem len79 : 4 = Tryz.prog.cellsOf 79 := by kernel_rfl
theorem u8_79 : isU8 Tryz.prog 79 = false := by kernel_rfl
theorem zr3 : zeroShape Tryz.prog 3 = true ∧ ∃ ds, zeroCells (T := T) Tryz.prog 3 = some (ofDs ds) ∧ leDs ds (enc3 (0 : Int)) := ⟨by kernel_rfl, [.i .i64 (0 : Int)], by kernel_rfl, .cons (.refl _) <| .nil⟩
theorem zr4 : zeroShape Tryz.prog 4 = true ∧ ∃ ds, zeroCells (T := T) Tryz.prog 4 = some (ofDs ds) ∧ leDs ds (enc4 false) := ⟨by kernel_rfl, [.b false], by kernel_rfl, .cons (.refl _) <| .nil⟩
theorem zr5 : zeroShape Tryz.prog 5 = true ∧ ∃ ds, zeroCells (T := T) Tryz.prog 5 = some (ofDs ds) ∧ leDs ds (enc5 (0 : Int)) := ⟨by kernel_rfl, [.i .u8 (0 : Int)], by kernel_rfl, .cons (.refl _) <| .nil⟩
theorem zr9 : zeroShape Tryz.prog 9 = true ∧ ∃ ds, zeroCells (T := T) Tryz.prog 9 = some (ofDs ds) ∧ leDs ds (enc9 []) := ⟨by kernel_rfl, [.s ([])], by kernel_rfl, .cons (.refl _) <| .nil⟩
theorem zr89 : zeroShape Tryz.prog 89 = true ∧ ∃ ds, zeroCells (T := T) Tryz.prog 89 = some (ofDs ds) ∧ leDs ds (enc89 S89.d) := ⟨by kernel_rfl, [.s ([]), .s ([])], by kernel_rfl, .cons (.refl _) <| .cons (.refl _) <| .nil⟩
theorem zr31 : zeroShape Tryz.prog 31 = true ∧ ∃ ds, zeroCells (T := T) Tryz.prog 31 = some (ofDs ds) ∧ leDs ds (enc31 S31.d) := ⟨by kernel_rfl, [.i .i64 (0 : Int), .s ([]), .ns, .s ([]), .i .i64 (0 : Int), .ns], by kernel_rfl, .cons (.refl _) <| .cons (.refl _) <| .cons (.ns _) <| .cons (.refl _) <| .cons (.refl _) <| .cons (.ns _) <| .nil⟩
theorem zr96 : zeroShape Tryz.prog 96 = true ∧ ∃ ds, zeroCells (T := T) Tryz.prog 96 = some (ofDs ds) ∧ leDs ds (enc96 S96.d) := ⟨by kernel_rfl, [.i .i64 (0 : Int), .s ([]), .i .u8 (0 : Int), .s ([]), .i .i64 (0 : Int), .i .i64 (0 : Int), .ns], by kernel_rfl, .cons (.refl _) <| .cons (.refl _) <| .cons (.refl _) <| .cons (.refl _) <| .cons (.refl _) <| .cons (.refl _) <| .cons (.ns _) <| .nil⟩
theorem zr94 : zeroShape Tryz.prog 94 = true ∧ ∃ ds, zeroCells (T := T) Tryz.prog 94 = some (ofDs ds) ∧ leDs ds (enc94 []) := ⟨by kernel_rfl, [.ns], by kernel_rfl, .cons (.ns _) <| .nil⟩
theorem zr52 : zeroShape Tryz.prog 52 = true ∧ ∃ ds, zeroCells (T := T) Tryz.prog 52 = some (ofDs ds) ∧ leDs ds (enc52 S52.d) := ⟨by kernel_rfl, [.ns, .ns], by kernel_rfl, .cons (.ns _) <| .cons (.ns _) <| .nil⟩
theorem zr79 : zeroShape Tryz.prog 79 = true ∧ ∃ ds, zeroCells (T := T) Tryz.prog 79 = some (ofDs ds) ∧ leDs ds (enc79 S79.d) := ⟨by kernel_rfl, [.i .i64 (0 : Int), .s ([]), .s ([]), .i .i64 (0 : Int)], by kernel_rfl, .cons (.refl _) <| .cons (.refl _) <| .cons (.refl _) <| .cons (.refl _) <| .nil⟩
theorem fl : Tryz.prog.follows .mixedOrders = true := by kernel_rfl
theorem bytesOk (w0 : World) (t : Tab T) : BytesOk (cfg w0 t) := fun e h1 h2 => by
  have hm := mem_of (l := knl) h2
  simp only [knl, List.mem_cons, List.not_mem_nil, or_false] at hm
  rcases hm with rfl | rfl | rfl | rfl | rfl | rfl | rfl | rfl | rfl | rfl
  · exact absurd h1 (by rw [show isU8 (cfg w0 _).P 3 = false from u8_3]; exact Bool.false_ne_true)
  · exact absurd h1 (by rw [show isU8 (cfg w0 _).P 4 = false from u8_4]; exact Bool.false_ne_true)
  · exact ⟨fun l => by induction l with
      | nil => rfl
      | cons b l ih => exact congrArg (List.cons _) ih, fun xs => ⟨xs, rfl, rfl⟩⟩
  · exact absurd h1 (by rw [show isU8 (cfg w0 _).P 9 = false from u8_9]; exact Bool.false_ne_true)
  · exact absurd h1 (by rw [show isU8 (cfg w0 _).P 89 = false from u8_89]; exact Bool.false_ne_true)
  · exact absurd h1 (by rw [show isU8 (cfg w0 _).P 31 = false from u8_31]; exact Bool.false_ne_true)
  · exact absurd h1 (by rw [show isU8 (cfg w0 _).P 96 = false from u8_96]; exact Bool.false_ne_true)
  · exact absurd h1 (by rw [show isU8 (cfg w0 _).P 94 = false from u8_94]; exact Bool.false_ne_true)
  · exact absurd h1 (by rw [show isU8 (cfg w0 _).P 52 = false from u8_52]; exact Bool.false_ne_true)
  · exact absurd h1 (by rw [show isU8 (cfg w0 _).P 79 = false from u8_79]; exact Bool.false_ne_true)
theorem fine (w0 : World) (hw : Wd w0) (t : Tab T) (h : CfOk (cfg w0 t)) : Fine (cfg w0 t) where
  gv := hw.gv
  bytes := bytesOk w0 t
  cod := by
    refine ⟨fun t ht x => ?_, fun t ds x h => ?_⟩
    · have hm := mem_of (l := knl) ht
      simp only [knl, List.mem_cons, List.not_mem_nil, or_false] at hm
      rcases hm with rfl | rfl | rfl | rfl | rfl | rfl | rfl | rfl | rfl | rfl
      · exact len3
      · exact len4
      · exact len5
      · exact len9
      · exact len89
      · exact len31
      · exact len96
      · exact len94
      · exact len52
      · exact len79
    · exact dec_ok t ds x h
  zero := fun t ht => by
    have hm := mem_of (l := knl) ht
    simp only [knl, List.mem_cons, List.not_mem_nil, or_false] at hm
    rcases hm with rfl | rfl | rfl | rfl | rfl | rfl | rfl | rfl | rfl | rfl
    · exact zr3
    · exact zr4
    · exact zr5
    · exact zr9
    · exact zr89
    · exact zr31
    · exact zr96
    · exact zr94
    · exact zr52
    · exact zr79
  eqk := fun t h => by
    cases h
  flat := fun t hf hk x d hd => by
    have hm := mem_of (l := knl) hk
    simp only [knl, List.mem_cons, List.not_mem_nil, or_false] at hm
    rcases hm with rfl | rfl | rfl | rfl | rfl | rfl | rfl | rfl | rfl | rfl
    · have hd : d ∈ enc3 x := hd
      simp only [enc3, List.mem_cons, List.not_mem_nil, or_false] at hd
      rcases hd with rfl <;> rfl
    · have hd : d ∈ enc4 x := hd
      simp only [enc4, List.mem_cons, List.not_mem_nil, or_false] at hd
      rcases hd with rfl <;> rfl
    · have hd : d ∈ enc5 x := hd
      simp only [enc5, List.mem_cons, List.not_mem_nil, or_false] at hd
      rcases hd with rfl <;> rfl
    · have hd : d ∈ enc9 x := hd
      simp only [enc9, List.mem_cons, List.not_mem_nil, or_false] at hd
      rcases hd with rfl <;> rfl
    · have hd : d ∈ enc89 x := hd
      simp only [enc89, List.mem_cons, List.not_mem_nil, or_false] at hd
      rcases hd with rfl | rfl <;> rfl
    · exact absurd hf (by rw [show flatT (cfg w0 _).P 20 31 = false from fl31]; exact Bool.false_ne_true)
    · exact absurd hf (by rw [show flatT (cfg w0 _).P 20 96 = false from fl96]; exact Bool.false_ne_true)
    · exact absurd hf (by rw [show flatT (cfg w0 _).P 20 94 = false from fl94]; exact Bool.false_ne_true)
    · exact absurd hf (by rw [show flatT (cfg w0 _).P 20 52 = false from fl52]; exact Bool.false_ne_true)
    · have hd : d ∈ enc79 x := hd
      simp only [enc79, List.mem_cons, List.not_mem_nil, or_false] at hd
      rcases hd with rfl | rfl | rfl | rfl <;> rfl
  cf := h
theorem dr (w0 : World) (hw : Wd w0) (t : Tab T) (h : CfOk (cfg w0 t)) : DrawOk (cfg w0 t) := drawOk_ok (fine w0 hw t h) fl
def F22.id : Nat := 0
def F22.y1 : TypeId := 20
def F22.y2 : TypeId := 20
def F22.p1 : String := "selector.go:405"
def F22.p2 : String := "selector.go:405"
def F22.e1 : Array Edge := #[]
def F22.e2 : Array Edge := #[⟨0, .data⟩, ⟨0, .chain⟩, ⟨0, .phase⟩]
theorem idle22 (w0 : World) (hw : Wd w0) (t : Tab T) (h : CfOk (cfg w0 t)) : Idle (cfg w0 t) 22 2 :=
  idle_ok (fine w0 hw t h) (dr w0 hw t h) (id := F22.id) (ty1 := F22.y1) (ty2 := F22.y2) (p1 := F22.p1) (p2 := F22.p2) (e1 := F22.e1) (e2 := F22.e2) (rest := seqR (bodyOf Tryz.f22)) (t5 := 5) (t2 := 2) Tryz.func22 (by kernel_rfl) (by kernel_rfl) (Nat.le_of_ble_eq_true rfl) (Nat.le_of_ble_eq_true rfl) 2 (fun vs H => by kernel_rfl)
theorem cat22 (w0 : World) (hw : Wd w0) (t : Tab T) (h : CfOk (cfg w0 t)) : Catch (cfg w0 t) 22 (F22 (cfg w0 t)) :=
  catch_ok (fine w0 hw t h) (dr w0 hw t h) (id := F22.id) (ty1 := F22.y1) (ty2 := F22.y2) (p1 := F22.p1) (p2 := F22.p2) (e1 := F22.e1) (e2 := F22.e2) (rest := seqR (bodyOf Tryz.f22)) (t5 := 5) (t2 := 2) Tryz.func22 (by kernel_rfl) (by kernel_rfl) (Nat.le_of_ble_eq_true rfl) (Nat.le_of_ble_eq_true rfl) runF_ok
def io0 : Io T ((List UInt8) × (List UInt8)) where
  enc v := ([.d (.s v.1), .d (.s v.2)], [])
  pat
    | ([.d (.s p1), .d (.s p2)], []) => some (p1, p2)
    | _ => none
  ok z v h := by
    split at h
    · cases h
      all_goals rfl
    · cases h
def io1 : Io T (List UInt8) where
  enc v := ([.d (.s v)], [])
  pat
    | ([.d (.s p1)], []) => some p1
    | _ => none
  ok z v h := by
    split at h
    · cases h
      all_goals rfl
    · cases h
def io2 : Io T (Bool) where
  enc v := ([.d (.b v)], [])
  pat
    | ([.d (.b p1)], []) => some p1
    | _ => none
  ok z v h := by
    split at h
    · cases h
      all_goals rfl
    · cases h
def io3 : Io T ((List UInt8) × Bool) where
  enc v := ([.d (.s v.1), .d (.b v.2)], [])
  pat
    | ([.d (.s p1), .d (.b p2)], []) => some (p1, p2)
    | _ => none
  ok z v h := by
    split at h
    · cases h
      all_goals rfl
    · cases h
def io4 : Io T (Int) where
  enc v := ([.d (.i .i64 v)], [])
  pat
    | ([.d (.i .i64 p1)], []) => some p1
    | _ => none
  ok z v h := by
    split at h
    · cases h
      all_goals rfl
    · cases h
def io5 : Io T (List UInt8) where
  enc v := ([.bp 0], [.bl v])
  pat
    | ([.bp 0], [.bl p1]) => some p1
    | _ => none
  ok z v h := by
    split at h
    · cases h
      all_goals rfl
    · cases h
def io6 : Io T ((List UInt8) × (List UInt8)) where
  enc v := ([.d (.s v.1)], [.bl v.2])
  pat
    | ([.d (.s p1)], [.bl p2]) => some (p1, p2)
    | _ => none
  ok z v h := by
    split at h
    · cases h
      all_goals rfl
    · cases h
def io7 : Io T (Int × (List UInt8)) where
  enc v := ([.bp 0, .d (.i .u8 v.1)], [.bl v.2])
  pat
    | ([.bp 0, .d (.i .u8 p1)], [.bl p2]) => some (p1, p2)
    | _ => none
  ok z v h := by
    split at h
    · cases h
      all_goals rfl
    · cases h
def io8 : Io T (List UInt8) where
  enc v := ([.d .ni], [.bl v])
  pat
    | ([.d .ni], [.bl p1]) => some p1
    | _ => none
  ok z v h := by
    split at h
    · cases h
      all_goals rfl
    · cases h
def io9 : Io T (Int × (List UInt8) × (List UInt8) × Int) where
  enc v := ([.agg [.d (.i .i64 v.1), .d (.s v.2.1), .d (.s v.2.2.1), .d (.i .i64 v.2.2.2)]], [])
  pat
    | ([.agg [.d (.i .i64 p1), .d (.s p2), .d (.s p3), .d (.i .i64 p4)]], []) => some (p1, p2, p3, p4)
    | _ => none
  ok z v h := by
    split at h
    · cases h
      all_goals rfl
    · cases h
def io10 : Io T ((List UInt8) × Int × Int × (List UInt8) × (List UInt8) × Int × (List UInt8)) where
  enc v := ([.d (.s v.1), .ptr 0 0, .bp 1, .d (.i .i64 v.2.1)], [.box [.d (.i .i64 v.2.2.1), .d (.s v.2.2.2.1), .d (.s v.2.2.2.2.1), .d (.i .i64 v.2.2.2.2.2.1)], .bl v.2.2.2.2.2.2])
  pat
    | ([.d (.s p1), .ptr 0 0, .bp 1, .d (.i .i64 p2)], [.box [.d (.i .i64 p3), .d (.s p4), .d (.s p5), .d (.i .i64 p6)], .bl p7]) => some (p1, p2, p3, p4, p5, p6, p7)
    | _ => none
  ok z v h := by
    split at h
    · cases h
      all_goals rfl
    · cases h
def io11 : Io T ((List UInt8) × Int × (List UInt8) × (List UInt8) × Int) where
  enc v := ([.d (.s v.1), .ptr 0 0], [.box [.d (.i .i64 v.2.1), .d (.s v.2.2.1), .d (.s v.2.2.2.1), .d (.i .i64 v.2.2.2.2)]])
  pat
    | ([.d (.s p1), .ptr 0 0], [.box [.d (.i .i64 p2), .d (.s p3), .d (.s p4), .d (.i .i64 p5)]]) => some (p1, p2, p3, p4, p5)
    | _ => none
  ok z v h := by
    split at h
    · cases h
      all_goals rfl
    · cases h
def io12 : Io T (Int) where
  enc v := ([.d (.i .u8 v)], [])
  pat
    | ([.d (.i .u8 p1)], []) => some p1
    | _ => none
  ok z v h := by
    split at h
    · cases h
      all_goals rfl
    · cases h
def io13 : Io T ((List UInt8) × Int) where
  enc v := ([.d (.s v.1), .d (.i .i64 v.2)], [])
  pat
    | ([.d (.s p1), .d (.i .i64 p2)], []) => some (p1, p2)
    | _ => none
  ok z v h := by
    split at h
    · cases h
      all_goals rfl
    · cases h
def io14 : Io T ((List UInt8) × Int × (List UInt8)) where
  enc v := ([.d (.s v.1), .bp 0, .d (.i .i64 v.2.1)], [.bl v.2.2])
  pat
    | ([.d (.s p1), .bp 0, .d (.i .i64 p2)], [.bl p3]) => some (p1, p2, p3)
    | _ => none
  ok z v h := by
    split at h
    · cases h
      all_goals rfl
    · cases h
def io15 : Io T (Int × (List UInt8)) where
  enc v := ([.bp 0, .d (.i .i64 v.1)], [.bl v.2])
  pat
    | ([.bp 0, .d (.i .i64 p1)], [.bl p2]) => some (p1, p2)
    | _ => none
  ok z v h := by
    split at h
    · cases h
      all_goals rfl
    · cases h
def io16 : Io T (Int × (List UInt8) × Int) where
  enc v := ([.d (.i .i64 v.1), .d (.s v.2.1), .d (.i .i64 v.2.2)], [])
  pat
    | ([.d (.i .i64 p1), .d (.s p2), .d (.i .i64 p3)], []) => some (p1, p2, p3)
    | _ => none
  ok z v h := by
    split at h
    · cases h
      all_goals rfl
    · cases h
def io17 : Io T (Int × Int) where
  enc v := ([.d (.i .u8 v.1), .ptr 0 0], [.box [.d (.i .i64 v.2)]])
  pat
    | ([.d (.i .u8 p1), .ptr 0 0], [.box [.d (.i .i64 p2)]]) => some (p1, p2)
    | _ => none
  ok z v h := by
    split at h
    · cases h
      all_goals rfl
    · cases h
def io18 : Io T (Int) where
  enc v := ([], [.box [.d (.i .i64 v)]])
  pat
    | ([], [.box [.d (.i .i64 p1)]]) => some p1
    | _ => none
  ok z v h := by
    split at h
    · cases h
      all_goals rfl
    · cases h
def io19 : Io T (Int × Int) where
  enc v := ([.d (.i .i64 v.1), .d (.i .i64 v.2)], [])
  pat
    | ([.d (.i .i64 p1), .d (.i .i64 p2)], []) => some (p1, p2)
    | _ => none
  ok z v h := by
    split at h
    · cases h
      all_goals rfl
    · cases h
def io20 : Io T ((List UInt8) × Int × Int × Int × Int × Int × Int × (List Int)) where
  enc v := ([.d (.s v.1), .d (.i .i64 v.2.1), .d (.i .i64 v.2.2.1), .d (.i .i64 v.2.2.2.1), .ptr 0 0, .fn 100 [.ptr 0 0], .sl 1 none, .d (.i .i64 v.2.2.2.2.1), .d (.i .i64 v.2.2.2.2.2.1)], [.box [.d (.i .i64 v.2.2.2.2.2.2.1)], .arr 5 v.2.2.2.2.2.2.2])
  pat
    | ([.d (.s p1), .d (.i .i64 p2), .d (.i .i64 p3), .d (.i .i64 p4), .ptr 0 0, .fn 100 [.ptr 0 0], .sl 1 none, .d (.i .i64 p5), .d (.i .i64 p6)], [.box [.d (.i .i64 p7)], .arr tp8 p8]) => (asT 5 tp8 p8).bind fun q8 => some (p1, p2, p3, p4, p5, p6, p7, q8)
    | _ => none
  ok z v h := by
    split at h
    · obtain ⟨q8, hp8, h⟩ := Option.bind_eq_some_iff.1 h
      cases h
      rw [asT_a hp8]
      all_goals rfl
    · cases h
def io21 : Io T ((List UInt8) × Int × Int × Int × Int) where
  enc v := ([.d (.s v.1), .d (.i .i64 v.2.1), .d (.i .i64 v.2.2.1), .d (.i .i64 v.2.2.2.1), .ptr 0 0, .fn 100 [.ptr 0 0]], [.box [.d (.i .i64 v.2.2.2.2)]])
  pat
    | ([.d (.s p1), .d (.i .i64 p2), .d (.i .i64 p3), .d (.i .i64 p4), .ptr 0 0, .fn 100 [.ptr 0 0]], [.box [.d (.i .i64 p5)]]) => some (p1, p2, p3, p4, p5)
    | _ => none
  ok z v h := by
    split at h
    · cases h
      all_goals rfl
    · cases h
def io22 : Io T ((List UInt8) × Int × (List UInt8) × Int × Int) where
  enc v := ([.d (.s v.1), .ptr 0 0, .fn 100 [.ptr 0 0], .d (.i .i64 v.2.1), .d (.s v.2.2.1), .d (.i .i64 v.2.2.2.1)], [.box [.d (.i .i64 v.2.2.2.2)]])
  pat
    | ([.d (.s p1), .ptr 0 0, .fn 100 [.ptr 0 0], .d (.i .i64 p2), .d (.s p3), .d (.i .i64 p4)], [.box [.d (.i .i64 p5)]]) => some (p1, p2, p3, p4, p5)
    | _ => none
  ok z v h := by
    split at h
    · cases h
      all_goals rfl
    · cases h
def io23 : Io T ((List UInt8) × Int × Int) where
  enc v := ([.d (.s v.1), .ptr 0 0, .d (.i .i64 v.2.1)], [.box [.d (.i .i64 v.2.2)]])
  pat
    | ([.d (.s p1), .ptr 0 0, .d (.i .i64 p2)], [.box [.d (.i .i64 p3)]]) => some (p1, p2, p3)
    | _ => none
  ok z v h := by
    split at h
    · cases h
      all_goals rfl
    · cases h
def io24 : Io T (Int × Int) where
  enc v := ([.ptr 0 0, .d (.i .i64 v.1)], [.box [.d (.i .i64 v.2)]])
  pat
    | ([.ptr 0 0, .d (.i .i64 p1)], [.box [.d (.i .i64 p2)]]) => some (p1, p2)
    | _ => none
  ok z v h := by
    split at h
    · cases h
      all_goals rfl
    · cases h
def io25 : Io T ((List UInt8) × Int × (List UInt8) × Int) where
  enc v := ([.d (.s v.1), .ptr 0 0, .fn 100 [.ptr 0 0], .d (.i .i64 v.2.1), .d (.s v.2.2.1)], [.box [.d (.i .i64 v.2.2.2)]])
  pat
    | ([.d (.s p1), .ptr 0 0, .fn 100 [.ptr 0 0], .d (.i .i64 p2), .d (.s p3)], [.box [.d (.i .i64 p4)]]) => some (p1, p2, p3, p4)
    | _ => none
  ok z v h := by
    split at h
    · cases h
      all_goals rfl
    · cases h
def io26 : Io T ((List UInt8) × Int × Int × Int) where
  enc v := ([.d (.s v.1), .d (.i .i64 v.2.1), .d (.i .i64 v.2.2.1), .d (.i .i64 v.2.2.2)], [])
  pat
    | ([.d (.s p1), .d (.i .i64 p2), .d (.i .i64 p3), .d (.i .i64 p4)], []) => some (p1, p2, p3, p4)
    | _ => none
  ok z v h := by
    split at h
    · cases h
      all_goals rfl
    · cases h
def io27 : Io T (Int × Int × (List Int)) where
  enc v := ([.sl 0 none, .sl 0 none, .d (.i .i64 v.1), .d (.i .i64 v.2.1)], [.arr 5 v.2.2])
  pat
    | ([.sl 0 none, .sl 0 none, .d (.i .i64 p1), .d (.i .i64 p2)], [.arr tp3 p3]) => (asT 5 tp3 p3).bind fun q3 => some (p1, p2, q3)
    | _ => none
  ok z v h := by
    split at h
    · obtain ⟨q3, hp3, h⟩ := Option.bind_eq_some_iff.1 h
      cases h
      rw [asT_a hp3]
      all_goals rfl
    · cases h
def io28 : Io T (List Int) where
  enc v := ([.sl 0 none], [.arr 5 v])
  pat
    | ([.sl 0 none], [.arr tp1 p1]) => (asT 5 tp1 p1).bind fun q1 => some q1
    | _ => none
  ok z v h := by
    split at h
    · obtain ⟨q1, hp1, h⟩ := Option.bind_eq_some_iff.1 h
      cases h
      rw [asT_a hp1]
      all_goals rfl
    · cases h
def io29 : Io T ((List UInt8) × Int × Int) where
  enc v := ([.d (.s v.1), .d (.i .i64 v.2.1), .d (.i .i64 v.2.2)], [])
  pat
    | ([.d (.s p1), .d (.i .i64 p2), .d (.i .i64 p3)], []) => some (p1, p2, p3)
    | _ => none
  ok z v h := by
    split at h
    · cases h
      all_goals rfl
    · cases h
def io30 : Io T (Int × (List UInt8) × (List UInt8) × Int × Int × (List UInt8) × (List UInt8) × Int) where
  enc v := ([.ptr 0 0, .ptr 1 0], [.box [.d (.i .i64 v.1), .d (.s v.2.1), .d (.s v.2.2.1), .d (.i .i64 v.2.2.2.1)], .box [.d (.i .i64 v.2.2.2.2.1), .d (.s v.2.2.2.2.2.1), .d (.s v.2.2.2.2.2.2.1), .d (.i .i64 v.2.2.2.2.2.2.2)]])
  pat
    | ([.ptr 0 0, .ptr 1 0], [.box [.d (.i .i64 p1), .d (.s p2), .d (.s p3), .d (.i .i64 p4)], .box [.d (.i .i64 p5), .d (.s p6), .d (.s p7), .d (.i .i64 p8)]]) => some (p1, p2, p3, p4, p5, p6, p7, p8)
    | _ => none
  ok z v h := by
    split at h
    · cases h
      all_goals rfl
    · cases h
def io31 : Io T (Int × (List UInt8)) where
  enc v := ([.d (.i .i64 v.1), .ptr 0 0], [.box [.d (.s v.2)]])
  pat
    | ([.d (.i .i64 p1), .ptr 0 0], [.box [.d (.s p2)]]) => some (p1, p2)
    | _ => none
  ok z v h := by
    split at h
    · cases h
      all_goals rfl
    · cases h
def io32 : Io T (Int × (List UInt8) × (List UInt8) × Int × (List UInt8)) where
  enc v := ([.agg [.d (.i .i64 v.1), .d (.s v.2.1), .d (.s v.2.2.1), .d (.i .i64 v.2.2.2.1)]], [.box [.d (.s v.2.2.2.2)]])
  pat
    | ([.agg [.d (.i .i64 p1), .d (.s p2), .d (.s p3), .d (.i .i64 p4)]], [.box [.d (.s p5)]]) => some (p1, p2, p3, p4, p5)
    | _ => none
  ok z v h := by
    split at h
    · cases h
      all_goals rfl
    · cases h
def io33 : Io T ((List UInt8) × Int × (List UInt8) × (List UInt8) × Int) where
  enc v := ([.ptr 0 0, .ptr 1 0], [.box [.d (.s v.1)], .box [.d (.i .i64 v.2.1), .d (.s v.2.2.1), .d (.s v.2.2.2.1), .d (.i .i64 v.2.2.2.2)]])
  pat
    | ([.ptr 0 0, .ptr 1 0], [.box [.d (.s p1)], .box [.d (.i .i64 p2), .d (.s p3), .d (.s p4), .d (.i .i64 p5)]]) => some (p1, p2, p3, p4, p5)
    | _ => none
  ok z v h := by
    split at h
    · cases h
      all_goals rfl
    · cases h
def io34 : Io T (Int × (List UInt8) × (List UInt8) × Int × (List UInt8)) where
  enc v := ([.ptr 0 0, .fn 56 [.ptr 1 0]], [.box [.d (.i .i64 v.1), .d (.s v.2.1), .d (.s v.2.2.1), .d (.i .i64 v.2.2.2.1)], .box [.d (.s v.2.2.2.2)]])
  pat
    | ([.ptr 0 0, .fn 56 [.ptr 1 0]], [.box [.d (.i .i64 p1), .d (.s p2), .d (.s p3), .d (.i .i64 p4)], .box [.d (.s p5)]]) => some (p1, p2, p3, p4, p5)
    | _ => none
  ok z v h := by
    split at h
    · cases h
      all_goals rfl
    · cases h
def io35 : Io T (List S79) where
  enc v := ([.d (.l 79 v)], [])
  pat
    | ([.d (.l tp1 p1)], []) => (asT 79 tp1 p1).bind fun q1 => some q1
    | _ => none
  ok z v h := by
    split at h
    · obtain ⟨q1, hp1, h⟩ := Option.bind_eq_some_iff.1 h
      cases h
      rw [asT_l hp1]
      all_goals rfl
    · cases h
def io36 : Io T ((List UInt8) × (List S79)) where
  enc v := ([.d (.s v.1), .sl 0 none], [.arr 79 v.2])
  pat
    | ([.d (.s p1), .sl 0 none], [.arr tp2 p2]) => (asT 79 tp2 p2).bind fun q2 => some (p1, q2)
    | _ => none
  ok z v h := by
    split at h
    · obtain ⟨q2, hp2, h⟩ := Option.bind_eq_some_iff.1 h
      cases h
      rw [asT_a hp2]
      all_goals rfl
    · cases h
def io37 : Io T (List S79) where
  enc v := ([.sl 0 none], [.arr 79 v])
  pat
    | ([.sl 0 none], [.arr tp1 p1]) => (asT 79 tp1 p1).bind fun q1 => some q1
    | _ => none
  ok z v h := by
    split at h
    · obtain ⟨q1, hp1, h⟩ := Option.bind_eq_some_iff.1 h
      cases h
      rw [asT_a hp1]
      all_goals rfl
    · cases h
def io38 : Io T (List S79) where
  enc v := ([.ptr 0 0], [.box [.d (.l 79 v)]])
  pat
    | ([.ptr 0 0], [.box [.d (.l tp1 p1)]]) => (asT 79 tp1 p1).bind fun q1 => some q1
    | _ => none
  ok z v h := by
    split at h
    · obtain ⟨q1, hp1, h⟩ := Option.bind_eq_some_iff.1 h
      cases h
      rw [asT_l hp1]
      all_goals rfl
    · cases h
def io39 : Io T (Int × (List UInt8) × (List UInt8) × Int × (List S79)) where
  enc v := ([.agg [.d (.i .i64 v.1), .d (.s v.2.1), .d (.s v.2.2.1), .d (.i .i64 v.2.2.2.1)]], [.box [.d (.l 79 v.2.2.2.2)]])
  pat
    | ([.agg [.d (.i .i64 p1), .d (.s p2), .d (.s p3), .d (.i .i64 p4)]], [.box [.d (.l tp5 p5)]]) => (asT 79 tp5 p5).bind fun q5 => some (p1, p2, p3, p4, q5)
    | _ => none
  ok z v h := by
    split at h
    · obtain ⟨q5, hp5, h⟩ := Option.bind_eq_some_iff.1 h
      cases h
      rw [asT_l hp5]
      all_goals rfl
    · cases h
def io40 : Io T (Bool × (List S79)) where
  enc v := ([.d (.b v.1)], [.box [.d (.l 79 v.2)]])
  pat
    | ([.d (.b p1)], [.box [.d (.l tp2 p2)]]) => (asT 79 tp2 p2).bind fun q2 => some (p1, q2)
    | _ => none
  ok z v h := by
    split at h
    · obtain ⟨q2, hp2, h⟩ := Option.bind_eq_some_iff.1 h
      cases h
      rw [asT_l hp2]
      all_goals rfl
    · cases h
def io41 : Io T (Int × (List S79) × Int × (List UInt8) × (List UInt8) × Int) where
  enc v := ([.ptr 0 0, .d (.i .i64 v.1), .ptr 1 0], [.box [.d (.l 79 v.2.1)], .box [.d (.i .i64 v.2.2.1), .d (.s v.2.2.2.1), .d (.s v.2.2.2.2.1), .d (.i .i64 v.2.2.2.2.2)]])
  pat
    | ([.ptr 0 0, .d (.i .i64 p1), .ptr 1 0], [.box [.d (.l tp2 p2)], .box [.d (.i .i64 p3), .d (.s p4), .d (.s p5), .d (.i .i64 p6)]]) => (asT 79 tp2 p2).bind fun q2 => some (p1, q2, p3, p4, p5, p6)
    | _ => none
  ok z v h := by
    split at h
    · obtain ⟨q2, hp2, h⟩ := Option.bind_eq_some_iff.1 h
      cases h
      rw [asT_l hp2]
      all_goals rfl
    · cases h
def io42 : Io T (Int × (List S79)) where
  enc v := ([.ptr 0 0, .d (.i .i64 v.1)], [.box [.d (.l 79 v.2)]])
  pat
    | ([.ptr 0 0, .d (.i .i64 p1)], [.box [.d (.l tp2 p2)]]) => (asT 79 tp2 p2).bind fun q2 => some (p1, q2)
    | _ => none
  ok z v h := by
    split at h
    · obtain ⟨q2, hp2, h⟩ := Option.bind_eq_some_iff.1 h
      cases h
      rw [asT_l hp2]
      all_goals rfl
    · cases h
def io43 : Io T ((List S79) × Int × (List UInt8) × (List UInt8) × Int × Int × (List UInt8) × (List UInt8) × Int) where
  enc v := ([.ptr 0 0, .ptr 1 0, .ptr 2 0], [.box [.d (.l 79 v.1)], .box [.d (.i .i64 v.2.1), .d (.s v.2.2.1), .d (.s v.2.2.2.1), .d (.i .i64 v.2.2.2.2.1)], .box [.d (.i .i64 v.2.2.2.2.2.1), .d (.s v.2.2.2.2.2.2.1), .d (.s v.2.2.2.2.2.2.2.1), .d (.i .i64 v.2.2.2.2.2.2.2.2)]])
  pat
    | ([.ptr 0 0, .ptr 1 0, .ptr 2 0], [.box [.d (.l tp1 p1)], .box [.d (.i .i64 p2), .d (.s p3), .d (.s p4), .d (.i .i64 p5)], .box [.d (.i .i64 p6), .d (.s p7), .d (.s p8), .d (.i .i64 p9)]]) => (asT 79 tp1 p1).bind fun q1 => some (q1, p2, p3, p4, p5, p6, p7, p8, p9)
    | _ => none
  ok z v h := by
    split at h
    · obtain ⟨q1, hp1, h⟩ := Option.bind_eq_some_iff.1 h
      cases h
      rw [asT_l hp1]
      all_goals rfl
    · cases h
def io44 : Io T (Bool × (List S79)) where
  enc v := ([.ptr 0 0, .d (.b v.1)], [.box [.d (.l 79 v.2)]])
  pat
    | ([.ptr 0 0, .d (.b p1)], [.box [.d (.l tp2 p2)]]) => (asT 79 tp2 p2).bind fun q2 => some (p1, q2)
    | _ => none
  ok z v h := by
    split at h
    · obtain ⟨q2, hp2, h⟩ := Option.bind_eq_some_iff.1 h
      cases h
      rw [asT_l hp2]
      all_goals rfl
    · cases h
def io45 : Io T (List S79) where
  enc v := ([], [.box [.d (.l 79 v)]])
  pat
    | ([], [.box [.d (.l tp1 p1)]]) => (asT 79 tp1 p1).bind fun q1 => some q1
    | _ => none
  ok z v h := by
    split at h
    · obtain ⟨q1, hp1, h⟩ := Option.bind_eq_some_iff.1 h
      cases h
      rw [asT_l hp1]
      all_goals rfl
    · cases h
def io46 : Io T (Int × (List UInt8) × (List UInt8) × Int × Int × (List UInt8) × (List S79)) where
  enc v := ([.ptr 0 0, .agg [.d (.i .i64 v.1), .d (.s v.2.1), .d (.s v.2.2.1), .d (.i .i64 v.2.2.2.1)], .d (.i .i64 v.2.2.2.2.1), .d (.s v.2.2.2.2.2.1)], [.box [.d (.l 79 v.2.2.2.2.2.2)]])
  pat
    | ([.ptr 0 0, .agg [.d (.i .i64 p1), .d (.s p2), .d (.s p3), .d (.i .i64 p4)], .d (.i .i64 p5), .d (.s p6)], [.box [.d (.l tp7 p7)]]) => (asT 79 tp7 p7).bind fun q7 => some (p1, p2, p3, p4, p5, p6, q7)
    | _ => none
  ok z v h := by
    split at h
    · obtain ⟨q7, hp7, h⟩ := Option.bind_eq_some_iff.1 h
      cases h
      rw [asT_l hp7]
      all_goals rfl
    · cases h
def io47 : Io T ((List UInt8) × (List S79)) where
  enc v := ([.d (.s v.1)], [.box [.d (.l 79 v.2)]])
  pat
    | ([.d (.s p1)], [.box [.d (.l tp2 p2)]]) => (asT 79 tp2 p2).bind fun q2 => some (p1, q2)
    | _ => none
  ok z v h := by
    split at h
    · obtain ⟨q2, hp2, h⟩ := Option.bind_eq_some_iff.1 h
      cases h
      rw [asT_l hp2]
      all_goals rfl
    · cases h
def io48 : Io T ((List UInt8) × (List S79)) where
  enc v := ([.ptr 0 0, .d (.s v.1)], [.box [.d (.l 79 v.2)]])
  pat
    | ([.ptr 0 0, .d (.s p1)], [.box [.d (.l tp2 p2)]]) => (asT 79 tp2 p2).bind fun q2 => some (p1, q2)
    | _ => none
  ok z v h := by
    split at h
    · obtain ⟨q2, hp2, h⟩ := Option.bind_eq_some_iff.1 h
      cases h
      rw [asT_l hp2]
      all_goals rfl
    · cases h
def io49 : Io T (Int × (List UInt8) × Int × (List UInt8) × Int × Int × (List S79)) where
  enc v := ([.agg [.d (.i .i64 v.1), .d (.s v.2.1), .d (.i .u8 v.2.2.1), .d (.s v.2.2.2.1), .d (.i .i64 v.2.2.2.2.1), .d (.i .i64 v.2.2.2.2.2.1), .d .ns]], [.box [.d (.l 79 v.2.2.2.2.2.2)]])
  pat
    | ([.agg [.d (.i .i64 p1), .d (.s p2), .d (.i .u8 p3), .d (.s p4), .d (.i .i64 p5), .d (.i .i64 p6), .d .ns]], [.box [.d (.l tp7 p7)]]) => (asT 79 tp7 p7).bind fun q7 => some (p1, p2, p3, p4, p5, p6, q7)
    | _ => none
  ok z v h := by
    split at h
    · obtain ⟨q7, hp7, h⟩ := Option.bind_eq_some_iff.1 h
      cases h
      rw [asT_l hp7]
      all_goals rfl
    · cases h
def io50 : Io T ((List S79) × Int × (List UInt8) × Int × (List UInt8) × Int × Int × Int × (List UInt8) × Int × (List UInt8) × Int × Int) where
  enc v := ([.ptr 0 0, .ptr 1 0, .ptr 2 0], [.box [.d (.l 79 v.1)], .box [.d (.i .i64 v.2.1), .d (.s v.2.2.1), .d (.i .u8 v.2.2.2.1), .d (.s v.2.2.2.2.1), .d (.i .i64 v.2.2.2.2.2.1), .d (.i .i64 v.2.2.2.2.2.2.1), .d .ns], .box [.d (.i .i64 v.2.2.2.2.2.2.2.1), .d (.s v.2.2.2.2.2.2.2.2.1), .d (.i .u8 v.2.2.2.2.2.2.2.2.2.1), .d (.s v.2.2.2.2.2.2.2.2.2.2.1), .d (.i .i64 v.2.2.2.2.2.2.2.2.2.2.2.1), .d (.i .i64 v.2.2.2.2.2.2.2.2.2.2.2.2), .d .ns]])
  pat
    | ([.ptr 0 0, .ptr 1 0, .ptr 2 0], [.box [.d (.l tp1 p1)], .box [.d (.i .i64 p2), .d (.s p3), .d (.i .u8 p4), .d (.s p5), .d (.i .i64 p6), .d (.i .i64 p7), .d .ns], .box [.d (.i .i64 p8), .d (.s p9), .d (.i .u8 p10), .d (.s p11), .d (.i .i64 p12), .d (.i .i64 p13), .d .ns]]) => (asT 79 tp1 p1).bind fun q1 => some (q1, p2, p3, p4, p5, p6, p7, p8, p9, p10, p11, p12, p13)
    | _ => none
  ok z v h := by
    split at h
    · obtain ⟨q1, hp1, h⟩ := Option.bind_eq_some_iff.1 h
      cases h
      rw [asT_l hp1]
      all_goals rfl
    · cases h
def io51 : Io T ((List UInt8) × (List UInt8) × Bool) where
  enc v := ([.d (.s v.1), .d (.s v.2.1), .d (.b v.2.2)], [])
  pat
    | ([.d (.s p1), .d (.s p2), .d (.b p3)], []) => some (p1, p2, p3)
    | _ => none
  ok z v h := by
    split at h
    · cases h
      all_goals rfl
    · cases h
def io52 : Io T (Int × Bool) where
  enc v := ([.d (.i .i64 v.1), .d (.ie v.2)], [])
  pat
    | ([.d (.i .i64 p1), .d (.ie p2)], []) => some (p1, p2)
    | _ => none
  ok z v h := by
    split at h
    · cases h
      all_goals rfl
    · cases h
def io53 : Io T (Int × Bool) where
  enc v := ([.d (.i .i64 v.1), .d (.b v.2)], [])
  pat
    | ([.d (.i .i64 p1), .d (.b p2)], []) => some (p1, p2)
    | _ => none
  ok z v h := by
    split at h
    · cases h
      all_goals rfl
    · cases h
def io54 : Io T (Int × Int × Bool) where
  enc v := ([.d (.i .i64 v.1), .d (.i .i64 v.2.1), .d (.b v.2.2)], [])
  pat
    | ([.d (.i .i64 p1), .d (.i .i64 p2), .d (.b p3)], []) => some (p1, p2, p3)
    | _ => none
  ok z v h := by
    split at h
    · cases h
      all_goals rfl
    · cases h
def io55 : Io T (Int × Bool × Int) where
  enc v := ([.d (.i .i64 v.1), .d (.b v.2.1), .d (.i .i64 v.2.2)], [])
  pat
    | ([.d (.i .i64 p1), .d (.b p2), .d (.i .i64 p3)], []) => some (p1, p2, p3)
    | _ => none
  ok z v h := by
    split at h
    · cases h
      all_goals rfl
    · cases h
def io56 : Io T ((List UInt8) × Int × Bool) where
  enc v := ([.d (.s v.1), .d (.i .i64 v.2.1), .d (.b v.2.2)], [])
  pat
    | ([.d (.s p1), .d (.i .i64 p2), .d (.b p3)], []) => some (p1, p2, p3)
    | _ => none
  ok z v h := by
    split at h
    · cases h
      all_goals rfl
    · cases h
def io57 : Io T (Int × (List UInt8) × (List S79) × Int × (List UInt8) × Int × (List UInt8) × Int × Int) where
  enc v := ([.ptr 0 0, .d (.i .i64 v.1), .ptr 1 0, .d (.s v.2.1)], [.box [.d (.l 79 v.2.2.1)], .box [.d (.i .i64 v.2.2.2.1), .d (.s v.2.2.2.2.1), .d (.i .u8 v.2.2.2.2.2.1), .d (.s v.2.2.2.2.2.2.1), .d (.i .i64 v.2.2.2.2.2.2.2.1), .d (.i .i64 v.2.2.2.2.2.2.2.2), .d .ns]])
  pat
    | ([.ptr 0 0, .d (.i .i64 p1), .ptr 1 0, .d (.s p2)], [.box [.d (.l tp3 p3)], .box [.d (.i .i64 p4), .d (.s p5), .d (.i .u8 p6), .d (.s p7), .d (.i .i64 p8), .d (.i .i64 p9), .d .ns]]) => (asT 79 tp3 p3).bind fun q3 => some (p1, p2, q3, p4, p5, p6, p7, p8, p9)
    | _ => none
  ok z v h := by
    split at h
    · obtain ⟨q3, hp3, h⟩ := Option.bind_eq_some_iff.1 h
      cases h
      rw [asT_l hp3]
      all_goals rfl
    · cases h
def io58 : Io T (Int × (List UInt8) × Int × (List UInt8) × Int × Int × (List S52) × (List S79)) where
  enc v := ([.agg [.d (.i .i64 v.1), .d (.s v.2.1), .d (.i .u8 v.2.2.1), .d (.s v.2.2.2.1), .d (.i .i64 v.2.2.2.2.1), .d (.i .i64 v.2.2.2.2.2.1), .d (.l 52 v.2.2.2.2.2.2.1)]], [.box [.d (.l 79 v.2.2.2.2.2.2.2)]])
  pat
    | ([.agg [.d (.i .i64 p1), .d (.s p2), .d (.i .u8 p3), .d (.s p4), .d (.i .i64 p5), .d (.i .i64 p6), .d (.l tp7 p7)]], [.box [.d (.l tp8 p8)]]) => (asT 52 tp7 p7).bind fun q7 => (asT 79 tp8 p8).bind fun q8 => some (p1, p2, p3, p4, p5, p6, q7, q8)
    | _ => none
  ok z v h := by
    split at h
    · obtain ⟨q7, hp7, h⟩ := Option.bind_eq_some_iff.1 h
      obtain ⟨q8, hp8, h⟩ := Option.bind_eq_some_iff.1 h
      cases h
      rw [asT_l hp7]
      rw [asT_l hp8]
      all_goals rfl
    · cases h
def io59 : Io T (Int × (List UInt8) × Int × (List UInt8) × Int × Int × (List S52) × Bool × (List S79)) where
  enc v := ([.agg [.d (.i .i64 v.1), .d (.s v.2.1), .d (.i .u8 v.2.2.1), .d (.s v.2.2.2.1), .d (.i .i64 v.2.2.2.2.1), .d (.i .i64 v.2.2.2.2.2.1), .d (.l 52 v.2.2.2.2.2.2.1)], .d (.b v.2.2.2.2.2.2.2.1)], [.box [.d (.l 79 v.2.2.2.2.2.2.2.2)]])
  pat
    | ([.agg [.d (.i .i64 p1), .d (.s p2), .d (.i .u8 p3), .d (.s p4), .d (.i .i64 p5), .d (.i .i64 p6), .d (.l tp7 p7)], .d (.b p8)], [.box [.d (.l tp9 p9)]]) => (asT 52 tp7 p7).bind fun q7 => (asT 79 tp9 p9).bind fun q9 => some (p1, p2, p3, p4, p5, p6, q7, p8, q9)
    | _ => none
  ok z v h := by
    split at h
    · obtain ⟨q7, hp7, h⟩ := Option.bind_eq_some_iff.1 h
      obtain ⟨q9, hp9, h⟩ := Option.bind_eq_some_iff.1 h
      cases h
      rw [asT_l hp7]
      rw [asT_l hp9]
      all_goals rfl
    · cases h
def io60 : Io T ((List S79) × (List S96)) where
  enc v := ([.sl 1 none], [.box [.d (.l 79 v.1)], .arr 96 v.2])
  pat
    | ([.sl 1 none], [.box [.d (.l tp1 p1)], .arr tp2 p2]) => (asT 79 tp1 p1).bind fun q1 => (asT 96 tp2 p2).bind fun q2 => some (q1, q2)
    | _ => none
  ok z v h := by
    split at h
    · obtain ⟨q1, hp1, h⟩ := Option.bind_eq_some_iff.1 h
      obtain ⟨q2, hp2, h⟩ := Option.bind_eq_some_iff.1 h
      cases h
      rw [asT_l hp1]
      rw [asT_a hp2]
      all_goals rfl
    · cases h
def io61 : Io T (Bool × (List S79) × (List S96) × Int × (List UInt8) × Int × (List UInt8) × Int × Int × (List S52)) where
  enc v := ([.ptr 0 0, .sl 1 none, .ptr 2 0, .d (.b v.1)], [.box [.d (.l 79 v.2.1)], .arr 96 v.2.2.1, .box [.d (.i .i64 v.2.2.2.1), .d (.s v.2.2.2.2.1), .d (.i .u8 v.2.2.2.2.2.1), .d (.s v.2.2.2.2.2.2.1), .d (.i .i64 v.2.2.2.2.2.2.2.1), .d (.i .i64 v.2.2.2.2.2.2.2.2.1), .d (.l 52 v.2.2.2.2.2.2.2.2.2)]])
  pat
    | ([.ptr 0 0, .sl 1 none, .ptr 2 0, .d (.b p1)], [.box [.d (.l tp2 p2)], .arr tp3 p3, .box [.d (.i .i64 p4), .d (.s p5), .d (.i .u8 p6), .d (.s p7), .d (.i .i64 p8), .d (.i .i64 p9), .d (.l tp10 p10)]]) => (asT 79 tp2 p2).bind fun q2 => (asT 96 tp3 p3).bind fun q3 => (asT 52 tp10 p10).bind fun q10 => some (p1, q2, q3, p4, p5, p6, p7, p8, p9, q10)
    | _ => none
  ok z v h := by
    split at h
    · obtain ⟨q2, hp2, h⟩ := Option.bind_eq_some_iff.1 h
      obtain ⟨q3, hp3, h⟩ := Option.bind_eq_some_iff.1 h
      obtain ⟨q10, hp10, h⟩ := Option.bind_eq_some_iff.1 h
      cases h
      rw [asT_l hp2]
      rw [asT_l hp10]
      rw [asT_a hp3]
      all_goals rfl
    · cases h
def io62 : Io T ((List S79) × (List S96)) where
  enc v := ([.ptr 0 0, .sl 1 none], [.box [.d (.l 79 v.1)], .arr 96 v.2])
  pat
    | ([.ptr 0 0, .sl 1 none], [.box [.d (.l tp1 p1)], .arr tp2 p2]) => (asT 79 tp1 p1).bind fun q1 => (asT 96 tp2 p2).bind fun q2 => some (q1, q2)
    | _ => none
  ok z v h := by
    split at h
    · obtain ⟨q1, hp1, h⟩ := Option.bind_eq_some_iff.1 h
      obtain ⟨q2, hp2, h⟩ := Option.bind_eq_some_iff.1 h
      cases h
      rw [asT_l hp1]
      rw [asT_a hp2]
      all_goals rfl
    · cases h
def io63 : Io T ((List (List S96)) × (List Int) × (List S79)) where
  enc v := ([.agg [.d (.l 94 v.1), .d (.l 5 v.2.1)]], [.box [.d (.l 79 v.2.2)]])
  pat
    | ([.agg [.d (.l tp1 p1), .d (.l tp2 p2)]], [.box [.d (.l tp3 p3)]]) => (asT 94 tp1 p1).bind fun q1 => (asT 5 tp2 p2).bind fun q2 => (asT 79 tp3 p3).bind fun q3 => some (q1, q2, q3)
    | _ => none
  ok z v h := by
    split at h
    · obtain ⟨q1, hp1, h⟩ := Option.bind_eq_some_iff.1 h
      obtain ⟨q2, hp2, h⟩ := Option.bind_eq_some_iff.1 h
      obtain ⟨q3, hp3, h⟩ := Option.bind_eq_some_iff.1 h
      cases h
      rw [asT_l hp1]
      rw [asT_l hp2]
      rw [asT_l hp3]
      all_goals rfl
    · cases h
def io64 : Io T ((List S79) × (List (List S96)) × (List Int)) where
  enc v := ([.ptr 0 0, .ptr 1 0, .ptr 2 0], [.box [.d (.l 79 v.1)], .box [.d .ns, .d .ns], .box [.sl 3 none, .sl 4 none], .arr 94 v.2.1, .arr 5 v.2.2])
  pat
    | ([.ptr 0 0, .ptr 1 0, .ptr 2 0], [.box [.d (.l tp1 p1)], .box [.d .ns, .d .ns], .box [.sl 3 none, .sl 4 none], .arr tp2 p2, .arr tp3 p3]) => (asT 79 tp1 p1).bind fun q1 => (asT 94 tp2 p2).bind fun q2 => (asT 5 tp3 p3).bind fun q3 => some (q1, q2, q3)
    | _ => none
  ok z v h := by
    split at h
    · obtain ⟨q1, hp1, h⟩ := Option.bind_eq_some_iff.1 h
      obtain ⟨q2, hp2, h⟩ := Option.bind_eq_some_iff.1 h
      obtain ⟨q3, hp3, h⟩ := Option.bind_eq_some_iff.1 h
      cases h
      rw [asT_l hp1]
      rw [asT_a hp2]
      rw [asT_a hp3]
      all_goals rfl
    · cases h
def io65 : Io T ((List S79) × (List S52)) where
  enc v := ([.sl 1 none], [.box [.d (.l 79 v.1)], .arr 52 v.2])
  pat
    | ([.sl 1 none], [.box [.d (.l tp1 p1)], .arr tp2 p2]) => (asT 79 tp1 p1).bind fun q1 => (asT 52 tp2 p2).bind fun q2 => some (q1, q2)
    | _ => none
  ok z v h := by
    split at h
    · obtain ⟨q1, hp1, h⟩ := Option.bind_eq_some_iff.1 h
      obtain ⟨q2, hp2, h⟩ := Option.bind_eq_some_iff.1 h
      cases h
      rw [asT_l hp1]
      rw [asT_a hp2]
      all_goals rfl
    · cases h
def io66 : Io T ((List UInt8) × (List S79) × (List S52)) where
  enc v := ([.ptr 0 0, .d (.s v.1), .sl 1 none], [.box [.d (.l 79 v.2.1)], .arr 52 v.2.2])
  pat
    | ([.ptr 0 0, .d (.s p1), .sl 1 none], [.box [.d (.l tp2 p2)], .arr tp3 p3]) => (asT 79 tp2 p2).bind fun q2 => (asT 52 tp3 p3).bind fun q3 => some (p1, q2, q3)
    | _ => none
  ok z v h := by
    split at h
    · obtain ⟨q2, hp2, h⟩ := Option.bind_eq_some_iff.1 h
      obtain ⟨q3, hp3, h⟩ := Option.bind_eq_some_iff.1 h
      cases h
      rw [asT_l hp2]
      rw [asT_a hp3]
      all_goals rfl
    · cases h
def io67 : Io T ((List S52) × Int) where
  enc v := ([.d (.l 52 v.1), .d (.i .i64 v.2)], [])
  pat
    | ([.d (.l tp1 p1), .d (.i .i64 p2)], []) => (asT 52 tp1 p1).bind fun q1 => some (q1, p2)
    | _ => none
  ok z v h := by
    split at h
    · obtain ⟨q1, hp1, h⟩ := Option.bind_eq_some_iff.1 h
      cases h
      rw [asT_l hp1]
      all_goals rfl
    · cases h
def io68 : Io T (Int × Int × (List S52) × Int × Int × (List (List S96)) × Int × Int × (List S96) × Int × Int) where
  enc v := ([.d (.i .i64 v.1), .d (.i .i64 v.2.1), .d (.l 52 v.2.2.1), .d (.i .i64 v.2.2.2.1), .d (.i .i64 v.2.2.2.2.1), .d (.l 94 v.2.2.2.2.2.1), .d (.i .i64 v.2.2.2.2.2.2.1), .d (.i .i64 v.2.2.2.2.2.2.2.1), .d (.l 96 v.2.2.2.2.2.2.2.2.1), .d (.i .i64 v.2.2.2.2.2.2.2.2.2.1), .d (.i .i64 v.2.2.2.2.2.2.2.2.2.2)], [])
  pat
    | ([.d (.i .i64 p1), .d (.i .i64 p2), .d (.l tp3 p3), .d (.i .i64 p4), .d (.i .i64 p5), .d (.l tp6 p6), .d (.i .i64 p7), .d (.i .i64 p8), .d (.l tp9 p9), .d (.i .i64 p10), .d (.i .i64 p11)], []) => (asT 52 tp3 p3).bind fun q3 => (asT 94 tp6 p6).bind fun q6 => (asT 96 tp9 p9).bind fun q9 => some (p1, p2, q3, p4, p5, q6, p7, p8, q9, p10, p11)
    | _ => none
  ok z v h := by
    split at h
    · obtain ⟨q3, hp3, h⟩ := Option.bind_eq_some_iff.1 h
      obtain ⟨q6, hp6, h⟩ := Option.bind_eq_some_iff.1 h
      obtain ⟨q9, hp9, h⟩ := Option.bind_eq_some_iff.1 h
      cases h
      rw [asT_l hp3]
      rw [asT_l hp6]
      rw [asT_l hp9]
      all_goals rfl
    · cases h
def io69 : Io T (Int × Int × (List S52) × Int × Int × (List (List S96)) × Int × Int) where
  enc v := ([.d (.i .i64 v.1), .d (.i .i64 v.2.1), .d (.l 52 v.2.2.1), .d (.i .i64 v.2.2.2.1), .d (.i .i64 v.2.2.2.2.1), .d (.l 94 v.2.2.2.2.2.1), .d (.i .i64 v.2.2.2.2.2.2.1), .d (.i .i64 v.2.2.2.2.2.2.2)], [])
  pat
    | ([.d (.i .i64 p1), .d (.i .i64 p2), .d (.l tp3 p3), .d (.i .i64 p4), .d (.i .i64 p5), .d (.l tp6 p6), .d (.i .i64 p7), .d (.i .i64 p8)], []) => (asT 52 tp3 p3).bind fun q3 => (asT 94 tp6 p6).bind fun q6 => some (p1, p2, q3, p4, p5, q6, p7, p8)
    | _ => none
  ok z v h := by
    split at h
    · obtain ⟨q3, hp3, h⟩ := Option.bind_eq_some_iff.1 h
      obtain ⟨q6, hp6, h⟩ := Option.bind_eq_some_iff.1 h
      cases h
      rw [asT_l hp3]
      rw [asT_l hp6]
      all_goals rfl
    · cases h
def io70 : Io T (Int × Int × (List S52) × Int × Int) where
  enc v := ([.d (.i .i64 v.1), .d (.i .i64 v.2.1), .d (.l 52 v.2.2.1), .d (.i .i64 v.2.2.2.1), .d (.i .i64 v.2.2.2.2)], [])
  pat
    | ([.d (.i .i64 p1), .d (.i .i64 p2), .d (.l tp3 p3), .d (.i .i64 p4), .d (.i .i64 p5)], []) => (asT 52 tp3 p3).bind fun q3 => some (p1, p2, q3, p4, p5)
    | _ => none
  ok z v h := by
    split at h
    · obtain ⟨q3, hp3, h⟩ := Option.bind_eq_some_iff.1 h
      cases h
      rw [asT_l hp3]
      all_goals rfl
    · cases h
def io71 : Io T ((List UInt8) × Int) where
  enc v := ([.d (.s v.1), .d (.i .u8 v.2)], [])
  pat
    | ([.d (.s p1), .d (.i .u8 p2)], []) => some (p1, p2)
    | _ => none
  ok z v h := by
    split at h
    · cases h
      all_goals rfl
    · cases h
def io72 : Io T (Int × (List UInt8) × Int × (List UInt8) × Int × Int × (List S52)) where
  enc v := ([.agg [.d (.i .i64 v.1), .d (.s v.2.1), .d (.i .u8 v.2.2.1), .d (.s v.2.2.2.1), .d (.i .i64 v.2.2.2.2.1), .d (.i .i64 v.2.2.2.2.2.1), .d (.l 52 v.2.2.2.2.2.2)]], [])
  pat
    | ([.agg [.d (.i .i64 p1), .d (.s p2), .d (.i .u8 p3), .d (.s p4), .d (.i .i64 p5), .d (.i .i64 p6), .d (.l tp7 p7)]], []) => (asT 52 tp7 p7).bind fun q7 => some (p1, p2, p3, p4, p5, p6, q7)
    | _ => none
  ok z v h := by
    split at h
    · obtain ⟨q7, hp7, h⟩ := Option.bind_eq_some_iff.1 h
      cases h
      rw [asT_l hp7]
      all_goals rfl
    · cases h
def io73 : Io T (Int × (List UInt8) × Int × (List UInt8) × Int × Int × (List S52) × Int) where
  enc v := ([.agg [.d (.i .i64 v.1), .d (.s v.2.1), .d (.i .u8 v.2.2.1), .d (.s v.2.2.2.1), .d (.i .i64 v.2.2.2.2.1), .d (.i .i64 v.2.2.2.2.2.1), .d (.l 52 v.2.2.2.2.2.2.1)], .d (.i .i64 v.2.2.2.2.2.2.2)], [])
  pat
    | ([.agg [.d (.i .i64 p1), .d (.s p2), .d (.i .u8 p3), .d (.s p4), .d (.i .i64 p5), .d (.i .i64 p6), .d (.l tp7 p7)], .d (.i .i64 p8)], []) => (asT 52 tp7 p7).bind fun q7 => some (p1, p2, p3, p4, p5, p6, q7, p8)
    | _ => none
  ok z v h := by
    split at h
    · obtain ⟨q7, hp7, h⟩ := Option.bind_eq_some_iff.1 h
      cases h
      rw [asT_l hp7]
      all_goals rfl
    · cases h
def io74 : Io T (List S52) where
  enc v := ([.d (.l 52 v)], [])
  pat
    | ([.d (.l tp1 p1)], []) => (asT 52 tp1 p1).bind fun q1 => some q1
    | _ => none
  ok z v h := by
    split at h
    · obtain ⟨q1, hp1, h⟩ := Option.bind_eq_some_iff.1 h
      cases h
      rw [asT_l hp1]
      all_goals rfl
    · cases h
def io75 : Io T ((List S52) × (List S96) × (List S52) × Int × Int × (List (List S96)) × Int × Int × (List S96) × Int × Int × (List (List S96)) × (List Int)) where
  enc v := ([.d (.l 52 v.1), .ptr 0 0, .d (.l 96 v.2.1), .d (.l 52 v.2.2.1), .d (.i .i64 v.2.2.2.1), .d (.i .i64 v.2.2.2.2.1), .d (.l 94 v.2.2.2.2.2.1), .d (.i .i64 v.2.2.2.2.2.2.1), .d (.i .i64 v.2.2.2.2.2.2.2.1), .d (.l 96 v.2.2.2.2.2.2.2.2.1), .d (.i .i64 v.2.2.2.2.2.2.2.2.2.1), .d (.i .i64 v.2.2.2.2.2.2.2.2.2.2.1)], [.box [.d (.l 94 v.2.2.2.2.2.2.2.2.2.2.2.1), .d (.l 5 v.2.2.2.2.2.2.2.2.2.2.2.2)]])
  pat
    | ([.d (.l tp1 p1), .ptr 0 0, .d (.l tp2 p2), .d (.l tp3 p3), .d (.i .i64 p4), .d (.i .i64 p5), .d (.l tp6 p6), .d (.i .i64 p7), .d (.i .i64 p8), .d (.l tp9 p9), .d (.i .i64 p10), .d (.i .i64 p11)], [.box [.d (.l tp12 p12), .d (.l tp13 p13)]]) => (asT 52 tp1 p1).bind fun q1 => (asT 96 tp2 p2).bind fun q2 => (asT 52 tp3 p3).bind fun q3 => (asT 94 tp6 p6).bind fun q6 => (asT 96 tp9 p9).bind fun q9 => (asT 94 tp12 p12).bind fun q12 => (asT 5 tp13 p13).bind fun q13 => some (q1, q2, q3, p4, p5, q6, p7, p8, q9, p10, p11, q12, q13)
    | _ => none
  ok z v h := by
    split at h
    · obtain ⟨q1, hp1, h⟩ := Option.bind_eq_some_iff.1 h
      obtain ⟨q2, hp2, h⟩ := Option.bind_eq_some_iff.1 h
      obtain ⟨q3, hp3, h⟩ := Option.bind_eq_some_iff.1 h
      obtain ⟨q6, hp6, h⟩ := Option.bind_eq_some_iff.1 h
      obtain ⟨q9, hp9, h⟩ := Option.bind_eq_some_iff.1 h
      obtain ⟨q12, hp12, h⟩ := Option.bind_eq_some_iff.1 h
      obtain ⟨q13, hp13, h⟩ := Option.bind_eq_some_iff.1 h
      cases h
      rw [asT_l hp1]
      rw [asT_l hp2]
      rw [asT_l hp3]
      rw [asT_l hp6]
      rw [asT_l hp9]
      rw [asT_l hp12]
      rw [asT_l hp13]
      all_goals rfl
    · cases h
def io76 : Io T ((List S52) × (List S96) × (List S52) × Int × Int × (List (List S96)) × Int × Int × (List (List S96)) × (List Int)) where
  enc v := ([.d (.l 52 v.1), .ptr 0 0, .d (.l 96 v.2.1), .d (.l 52 v.2.2.1), .d (.i .i64 v.2.2.2.1), .d (.i .i64 v.2.2.2.2.1), .d (.l 94 v.2.2.2.2.2.1), .d (.i .i64 v.2.2.2.2.2.2.1), .d (.i .i64 v.2.2.2.2.2.2.2.1)], [.box [.d (.l 94 v.2.2.2.2.2.2.2.2.1), .d (.l 5 v.2.2.2.2.2.2.2.2.2)]])
  pat
    | ([.d (.l tp1 p1), .ptr 0 0, .d (.l tp2 p2), .d (.l tp3 p3), .d (.i .i64 p4), .d (.i .i64 p5), .d (.l tp6 p6), .d (.i .i64 p7), .d (.i .i64 p8)], [.box [.d (.l tp9 p9), .d (.l tp10 p10)]]) => (asT 52 tp1 p1).bind fun q1 => (asT 96 tp2 p2).bind fun q2 => (asT 52 tp3 p3).bind fun q3 => (asT 94 tp6 p6).bind fun q6 => (asT 94 tp9 p9).bind fun q9 => (asT 5 tp10 p10).bind fun q10 => some (q1, q2, q3, p4, p5, q6, p7, p8, q9, q10)
    | _ => none
  ok z v h := by
    split at h
    · obtain ⟨q1, hp1, h⟩ := Option.bind_eq_some_iff.1 h
      obtain ⟨q2, hp2, h⟩ := Option.bind_eq_some_iff.1 h
      obtain ⟨q3, hp3, h⟩ := Option.bind_eq_some_iff.1 h
      obtain ⟨q6, hp6, h⟩ := Option.bind_eq_some_iff.1 h
      obtain ⟨q9, hp9, h⟩ := Option.bind_eq_some_iff.1 h
      obtain ⟨q10, hp10, h⟩ := Option.bind_eq_some_iff.1 h
      cases h
      rw [asT_l hp1]
      rw [asT_l hp2]
      rw [asT_l hp3]
      rw [asT_l hp6]
      rw [asT_l hp9]
      rw [asT_l hp10]
      all_goals rfl
    · cases h
def io77 : Io T ((List S52) × (List S52) × Int × Int × (List (List S96)) × Int × Int × (List (List S96)) × (List Int)) where
  enc v := ([.d (.l 52 v.1), .ptr 0 0, .d (.l 52 v.2.1), .d (.i .i64 v.2.2.1), .d (.i .i64 v.2.2.2.1), .d (.l 94 v.2.2.2.2.1), .d (.i .i64 v.2.2.2.2.2.1), .d (.i .i64 v.2.2.2.2.2.2.1)], [.box [.d (.l 94 v.2.2.2.2.2.2.2.1), .d (.l 5 v.2.2.2.2.2.2.2.2)]])
  pat
    | ([.d (.l tp1 p1), .ptr 0 0, .d (.l tp2 p2), .d (.i .i64 p3), .d (.i .i64 p4), .d (.l tp5 p5), .d (.i .i64 p6), .d (.i .i64 p7)], [.box [.d (.l tp8 p8), .d (.l tp9 p9)]]) => (asT 52 tp1 p1).bind fun q1 => (asT 52 tp2 p2).bind fun q2 => (asT 94 tp5 p5).bind fun q5 => (asT 94 tp8 p8).bind fun q8 => (asT 5 tp9 p9).bind fun q9 => some (q1, q2, p3, p4, q5, p6, p7, q8, q9)
    | _ => none
  ok z v h := by
    split at h
    · obtain ⟨q1, hp1, h⟩ := Option.bind_eq_some_iff.1 h
      obtain ⟨q2, hp2, h⟩ := Option.bind_eq_some_iff.1 h
      obtain ⟨q5, hp5, h⟩ := Option.bind_eq_some_iff.1 h
      obtain ⟨q8, hp8, h⟩ := Option.bind_eq_some_iff.1 h
      obtain ⟨q9, hp9, h⟩ := Option.bind_eq_some_iff.1 h
      cases h
      rw [asT_l hp1]
      rw [asT_l hp2]
      rw [asT_l hp5]
      rw [asT_l hp8]
      rw [asT_l hp9]
      all_goals rfl
    · cases h
def io78 : Io T ((List S52) × (List S52) × Int × Int × (List (List S96)) × (List Int)) where
  enc v := ([.d (.l 52 v.1), .ptr 0 0, .d (.l 52 v.2.1), .d (.i .i64 v.2.2.1), .d (.i .i64 v.2.2.2.1)], [.box [.d (.l 94 v.2.2.2.2.1), .d (.l 5 v.2.2.2.2.2)]])
  pat
    | ([.d (.l tp1 p1), .ptr 0 0, .d (.l tp2 p2), .d (.i .i64 p3), .d (.i .i64 p4)], [.box [.d (.l tp5 p5), .d (.l tp6 p6)]]) => (asT 52 tp1 p1).bind fun q1 => (asT 52 tp2 p2).bind fun q2 => (asT 94 tp5 p5).bind fun q5 => (asT 5 tp6 p6).bind fun q6 => some (q1, q2, p3, p4, q5, q6)
    | _ => none
  ok z v h := by
    split at h
    · obtain ⟨q1, hp1, h⟩ := Option.bind_eq_some_iff.1 h
      obtain ⟨q2, hp2, h⟩ := Option.bind_eq_some_iff.1 h
      obtain ⟨q5, hp5, h⟩ := Option.bind_eq_some_iff.1 h
      obtain ⟨q6, hp6, h⟩ := Option.bind_eq_some_iff.1 h
      cases h
      rw [asT_l hp1]
      rw [asT_l hp2]
      rw [asT_l hp5]
      rw [asT_l hp6]
      all_goals rfl
    · cases h
def io79 : Io T ((List S52) × (List S52) × Int × Int × (List Int) × Int × Int) where
  enc v := ([.d (.l 52 v.1), .d (.l 52 v.2.1), .d (.i .i64 v.2.2.1), .d (.i .i64 v.2.2.2.1), .d (.l 5 v.2.2.2.2.1), .d (.i .i64 v.2.2.2.2.2.1), .d (.i .i64 v.2.2.2.2.2.2)], [])
  pat
    | ([.d (.l tp1 p1), .d (.l tp2 p2), .d (.i .i64 p3), .d (.i .i64 p4), .d (.l tp5 p5), .d (.i .i64 p6), .d (.i .i64 p7)], []) => (asT 52 tp1 p1).bind fun q1 => (asT 52 tp2 p2).bind fun q2 => (asT 5 tp5 p5).bind fun q5 => some (q1, q2, p3, p4, q5, p6, p7)
    | _ => none
  ok z v h := by
    split at h
    · obtain ⟨q1, hp1, h⟩ := Option.bind_eq_some_iff.1 h
      obtain ⟨q2, hp2, h⟩ := Option.bind_eq_some_iff.1 h
      obtain ⟨q5, hp5, h⟩ := Option.bind_eq_some_iff.1 h
      cases h
      rw [asT_l hp1]
      rw [asT_l hp2]
      rw [asT_l hp5]
      all_goals rfl
    · cases h
def io80 : Io T ((List S52) × (List S52) × Int × Int) where
  enc v := ([.d (.l 52 v.1), .d (.l 52 v.2.1), .d (.i .i64 v.2.2.1), .d (.i .i64 v.2.2.2)], [])
  pat
    | ([.d (.l tp1 p1), .d (.l tp2 p2), .d (.i .i64 p3), .d (.i .i64 p4)], []) => (asT 52 tp1 p1).bind fun q1 => (asT 52 tp2 p2).bind fun q2 => some (q1, q2, p3, p4)
    | _ => none
  ok z v h := by
    split at h
    · obtain ⟨q1, hp1, h⟩ := Option.bind_eq_some_iff.1 h
      obtain ⟨q2, hp2, h⟩ := Option.bind_eq_some_iff.1 h
      cases h
      rw [asT_l hp1]
      rw [asT_l hp2]
      all_goals rfl
    · cases h
def io81 : Io T (Int × (List S52)) where
  enc v := ([.sl 0 none, .d (.i .i64 v.1)], [.arr 52 v.2])
  pat
    | ([.sl 0 none, .d (.i .i64 p1)], [.arr tp2 p2]) => (asT 52 tp2 p2).bind fun q2 => some (p1, q2)
    | _ => none
  ok z v h := by
    split at h
    · obtain ⟨q2, hp2, h⟩ := Option.bind_eq_some_iff.1 h
      cases h
      rw [asT_a hp2]
      all_goals rfl
    · cases h
def io82 : Io T (Unit) where
  enc v := ([], [])
  pat
    | ([], []) => some ()
    | _ => none
  ok z v h := by
    split at h <;> cases h; rfl
def io83 : Io T (Int × (List UInt8) × (List S89) × (List UInt8) × Int × (List Int)) where
  enc v := ([.agg [.d (.i .i64 v.1), .d (.s v.2.1), .d (.l 89 v.2.2.1), .d (.s v.2.2.2.1), .d (.i .i64 v.2.2.2.2.1), .d (.l 3 v.2.2.2.2.2)]], [])
  pat
    | ([.agg [.d (.i .i64 p1), .d (.s p2), .d (.l tp3 p3), .d (.s p4), .d (.i .i64 p5), .d (.l tp6 p6)]], []) => (asT 89 tp3 p3).bind fun q3 => (asT 3 tp6 p6).bind fun q6 => some (p1, p2, q3, p4, p5, q6)
    | _ => none
  ok z v h := by
    split at h
    · obtain ⟨q3, hp3, h⟩ := Option.bind_eq_some_iff.1 h
      obtain ⟨q6, hp6, h⟩ := Option.bind_eq_some_iff.1 h
      cases h
      rw [asT_l hp3]
      rw [asT_l hp6]
      all_goals rfl
    · cases h
def io84 : Io T ((List UInt8) × (List UInt8) × (List UInt8)) where
  enc v := ([.agg [.d (.s v.1), .d (.s v.2.1)], .ptr 0 0], [.box [.d (.s v.2.2)]])
  pat
    | ([.agg [.d (.s p1), .d (.s p2)], .ptr 0 0], [.box [.d (.s p3)]]) => some (p1, p2, p3)
    | _ => none
  ok z v h := by
    split at h
    · cases h
      all_goals rfl
    · cases h
def io85 : Io T (Bool × (List UInt8)) where
  enc v := ([.d (.b v.1)], [.box [.d (.s v.2)]])
  pat
    | ([.d (.b p1)], [.box [.d (.s p2)]]) => some (p1, p2)
    | _ => none
  ok z v h := by
    split at h
    · cases h
      all_goals rfl
    · cases h
def io86 : Io T ((List S89) × (List UInt8)) where
  enc v := ([.d (.l 89 v.1), .fn 76 [.ptr 0 0]], [.box [.d (.s v.2)]])
  pat
    | ([.d (.l tp1 p1), .fn 76 [.ptr 0 0]], [.box [.d (.s p2)]]) => (asT 89 tp1 p1).bind fun q1 => some (q1, p2)
    | _ => none
  ok z v h := by
    split at h
    · obtain ⟨q1, hp1, h⟩ := Option.bind_eq_some_iff.1 h
      cases h
      rw [asT_l hp1]
      all_goals rfl
    · cases h
def io87 : Io T (Int × (List UInt8)) where
  enc v := ([.d (.i .i64 v.1)], [.box [.d (.s v.2)]])
  pat
    | ([.d (.i .i64 p1)], [.box [.d (.s p2)]]) => some (p1, p2)
    | _ => none
  ok z v h := by
    split at h
    · cases h
      all_goals rfl
    · cases h
def io88 : Io T ((List S89) × Int × Int × (List UInt8)) where
  enc v := ([.d (.l 89 v.1), .fn 76 [.ptr 0 0], .d (.i .i64 v.2.1), .d (.i .i64 v.2.2.1)], [.box [.d (.s v.2.2.2)]])
  pat
    | ([.d (.l tp1 p1), .fn 76 [.ptr 0 0], .d (.i .i64 p2), .d (.i .i64 p3)], [.box [.d (.s p4)]]) => (asT 89 tp1 p1).bind fun q1 => some (q1, p2, p3, p4)
    | _ => none
  ok z v h := by
    split at h
    · obtain ⟨q1, hp1, h⟩ := Option.bind_eq_some_iff.1 h
      cases h
      rw [asT_l hp1]
      all_goals rfl
    · cases h
def io89 : Io T (List UInt8) where
  enc v := ([], [.box [.d (.s v)]])
  pat
    | ([], [.box [.d (.s p1)]]) => some p1
    | _ => none
  ok z v h := by
    split at h
    · cases h
      all_goals rfl
    · cases h
def io90 : Io T ((List S89) × (List UInt8)) where
  enc v := ([.d (.l 89 v.1), .d (.s v.2)], [])
  pat
    | ([.d (.l tp1 p1), .d (.s p2)], []) => (asT 89 tp1 p1).bind fun q1 => some (q1, p2)
    | _ => none
  ok z v h := by
    split at h
    · obtain ⟨q1, hp1, h⟩ := Option.bind_eq_some_iff.1 h
      cases h
      rw [asT_l hp1]
      all_goals rfl
    · cases h
def io91 : Io T (List S89) where
  enc v := ([.d (.l 89 v)], [])
  pat
    | ([.d (.l tp1 p1)], []) => (asT 89 tp1 p1).bind fun q1 => some q1
    | _ => none
  ok z v h := by
    split at h
    · obtain ⟨q1, hp1, h⟩ := Option.bind_eq_some_iff.1 h
      cases h
      rw [asT_l hp1]
      all_goals rfl
    · cases h
def io92 : Io T ((List S89) × (List S89) × Int × Int) where
  enc v := ([.d (.l 89 v.1), .d (.l 89 v.2.1), .d (.i .i64 v.2.2.1), .d (.i .i64 v.2.2.2)], [])
  pat
    | ([.d (.l tp1 p1), .d (.l tp2 p2), .d (.i .i64 p3), .d (.i .i64 p4)], []) => (asT 89 tp1 p1).bind fun q1 => (asT 89 tp2 p2).bind fun q2 => some (q1, q2, p3, p4)
    | _ => none
  ok z v h := by
    split at h
    · obtain ⟨q1, hp1, h⟩ := Option.bind_eq_some_iff.1 h
      obtain ⟨q2, hp2, h⟩ := Option.bind_eq_some_iff.1 h
      cases h
      rw [asT_l hp1]
      rw [asT_l hp2]
      all_goals rfl
    · cases h
def io93 : Io T ((List S31) × Bool) where
  enc v := ([.agg [.d (.l 31 v.1), .d (.b v.2)]], [])
  pat
    | ([.agg [.d (.l tp1 p1), .d (.b p2)]], []) => (asT 31 tp1 p1).bind fun q1 => some (q1, p2)
    | _ => none
  ok z v h := by
    split at h
    · obtain ⟨q1, hp1, h⟩ := Option.bind_eq_some_iff.1 h
      cases h
      rw [asT_l hp1]
      all_goals rfl
    · cases h
def io94 : Io T (Int × (List S31) × Int × Int × (List Int) × Int × Int × (List S31) × Bool × (List Bool)) where
  enc v := ([.ptr 0 0, .sl 1 none, .d (.i .i64 v.1), .d (.l 31 v.2.1), .d (.i .i64 v.2.2.1), .d (.i .i64 v.2.2.2.1), .d (.l 3 v.2.2.2.2.1), .d (.i .i64 v.2.2.2.2.2.1), .d (.i .i64 v.2.2.2.2.2.2.1)], [.box [.d (.l 31 v.2.2.2.2.2.2.2.1), .d (.b v.2.2.2.2.2.2.2.2.1)], .arr 4 v.2.2.2.2.2.2.2.2.2])
  pat
    | ([.ptr 0 0, .sl 1 none, .d (.i .i64 p1), .d (.l tp2 p2), .d (.i .i64 p3), .d (.i .i64 p4), .d (.l tp5 p5), .d (.i .i64 p6), .d (.i .i64 p7)], [.box [.d (.l tp8 p8), .d (.b p9)], .arr tp10 p10]) => (asT 31 tp2 p2).bind fun q2 => (asT 3 tp5 p5).bind fun q5 => (asT 31 tp8 p8).bind fun q8 => (asT 4 tp10 p10).bind fun q10 => some (p1, q2, p3, p4, q5, p6, p7, q8, p9, q10)
    | _ => none
  ok z v h := by
    split at h
    · obtain ⟨q2, hp2, h⟩ := Option.bind_eq_some_iff.1 h
      obtain ⟨q5, hp5, h⟩ := Option.bind_eq_some_iff.1 h
      obtain ⟨q8, hp8, h⟩ := Option.bind_eq_some_iff.1 h
      obtain ⟨q10, hp10, h⟩ := Option.bind_eq_some_iff.1 h
      cases h
      rw [asT_l hp2]
      rw [asT_l hp5]
      rw [asT_l hp8]
      rw [asT_a hp10]
      all_goals rfl
    · cases h
def io95 : Io T ((List S31) × Int × Int × (List S31) × Bool × (List Bool)) where
  enc v := ([.ptr 0 0, .sl 1 none, .d (.l 31 v.1), .d (.i .i64 v.2.1), .d (.i .i64 v.2.2.1)], [.box [.d (.l 31 v.2.2.2.1), .d (.b v.2.2.2.2.1)], .arr 4 v.2.2.2.2.2])
  pat
    | ([.ptr 0 0, .sl 1 none, .d (.l tp1 p1), .d (.i .i64 p2), .d (.i .i64 p3)], [.box [.d (.l tp4 p4), .d (.b p5)], .arr tp6 p6]) => (asT 31 tp1 p1).bind fun q1 => (asT 31 tp4 p4).bind fun q4 => (asT 4 tp6 p6).bind fun q6 => some (q1, p2, p3, q4, p5, q6)
    | _ => none
  ok z v h := by
    split at h
    · obtain ⟨q1, hp1, h⟩ := Option.bind_eq_some_iff.1 h
      obtain ⟨q4, hp4, h⟩ := Option.bind_eq_some_iff.1 h
      obtain ⟨q6, hp6, h⟩ := Option.bind_eq_some_iff.1 h
      cases h
      rw [asT_l hp1]
      rw [asT_l hp4]
      rw [asT_a hp6]
      all_goals rfl
    · cases h
def io96 : Io T ((List S31) × Bool × (List Bool)) where
  enc v := ([.ptr 0 0, .sl 1 none], [.box [.d (.l 31 v.1), .d (.b v.2.1)], .arr 4 v.2.2])
  pat
    | ([.ptr 0 0, .sl 1 none], [.box [.d (.l tp1 p1), .d (.b p2)], .arr tp3 p3]) => (asT 31 tp1 p1).bind fun q1 => (asT 4 tp3 p3).bind fun q3 => some (q1, p2, q3)
    | _ => none
  ok z v h := by
    split at h
    · obtain ⟨q1, hp1, h⟩ := Option.bind_eq_some_iff.1 h
      obtain ⟨q3, hp3, h⟩ := Option.bind_eq_some_iff.1 h
      cases h
      rw [asT_l hp1]
      rw [asT_a hp3]
      all_goals rfl
    · cases h
def io97 : Io T ((List S31) × Bool) where
  enc v := ([.ptr 0 0], [.box [.d (.l 31 v.1), .d (.b v.2)]])
  pat
    | ([.ptr 0 0], [.box [.d (.l tp1 p1), .d (.b p2)]]) => (asT 31 tp1 p1).bind fun q1 => some (q1, p2)
    | _ => none
  ok z v h := by
    split at h
    · obtain ⟨q1, hp1, h⟩ := Option.bind_eq_some_iff.1 h
      cases h
      rw [asT_l hp1]
      all_goals rfl
    · cases h
def io98 : Io T ((List S31) × Bool × Int) where
  enc v := ([.agg [.d (.l 31 v.1), .d (.b v.2.1)], .d (.i .i64 v.2.2)], [])
  pat
    | ([.agg [.d (.l tp1 p1), .d (.b p2)], .d (.i .i64 p3)], []) => (asT 31 tp1 p1).bind fun q1 => some (q1, p2, p3)
    | _ => none
  ok z v h := by
    split at h
    · obtain ⟨q1, hp1, h⟩ := Option.bind_eq_some_iff.1 h
      cases h
      rw [asT_l hp1]
      all_goals rfl
    · cases h
def io99 : Io T (Int × Int × (List S31) × Bool) where
  enc v := ([.d (.i .i64 v.1), .ptr 0 0, .d (.i .i64 v.2.1)], [.box [.d (.l 31 v.2.2.1), .d (.b v.2.2.2)]])
  pat
    | ([.d (.i .i64 p1), .ptr 0 0, .d (.i .i64 p2)], [.box [.d (.l tp3 p3), .d (.b p4)]]) => (asT 31 tp3 p3).bind fun q3 => some (p1, p2, q3, p4)
    | _ => none
  ok z v h := by
    split at h
    · obtain ⟨q3, hp3, h⟩ := Option.bind_eq_some_iff.1 h
      cases h
      rw [asT_l hp3]
      all_goals rfl
    · cases h
def io100 : Io T ((List S31) × Int × Int × (List S31) × Bool) where
  enc v := ([.ptr 0 0, .d (.l 31 v.1), .d (.i .i64 v.2.1), .d (.i .i64 v.2.2.1)], [.box [.d (.l 31 v.2.2.2.1), .d (.b v.2.2.2.2)]])
  pat
    | ([.ptr 0 0, .d (.l tp1 p1), .d (.i .i64 p2), .d (.i .i64 p3)], [.box [.d (.l tp4 p4), .d (.b p5)]]) => (asT 31 tp1 p1).bind fun q1 => (asT 31 tp4 p4).bind fun q4 => some (q1, p2, p3, q4, p5)
    | _ => none
  ok z v h := by
    split at h
    · obtain ⟨q1, hp1, h⟩ := Option.bind_eq_some_iff.1 h
      obtain ⟨q4, hp4, h⟩ := Option.bind_eq_some_iff.1 h
      cases h
      rw [asT_l hp1]
      rw [asT_l hp4]
      all_goals rfl
    · cases h
def io101 : Io T (Int × Int × (List S31) × Bool) where
  enc v := ([.ptr 0 0, .d (.i .i64 v.1), .d (.i .i64 v.2.1)], [.box [.d (.l 31 v.2.2.1), .d (.b v.2.2.2)]])
  pat
    | ([.ptr 0 0, .d (.i .i64 p1), .d (.i .i64 p2)], [.box [.d (.l tp3 p3), .d (.b p4)]]) => (asT 31 tp3 p3).bind fun q3 => some (p1, p2, q3, p4)
    | _ => none
  ok z v h := by
    split at h
    · obtain ⟨q3, hp3, h⟩ := Option.bind_eq_some_iff.1 h
      cases h
      rw [asT_l hp3]
      all_goals rfl
    · cases h
def io102 : Io T ((List S31) × Bool × Int × (List UInt8)) where
  enc v := ([.agg [.d (.l 31 v.1), .d (.b v.2.1)], .d (.i .i64 v.2.2.1), .d (.s v.2.2.2)], [])
  pat
    | ([.agg [.d (.l tp1 p1), .d (.b p2)], .d (.i .i64 p3), .d (.s p4)], []) => (asT 31 tp1 p1).bind fun q1 => some (q1, p2, p3, p4)
    | _ => none
  ok z v h := by
    split at h
    · obtain ⟨q1, hp1, h⟩ := Option.bind_eq_some_iff.1 h
      cases h
      rw [asT_l hp1]
      all_goals rfl
    · cases h
def io103 : Io T ((List S89) × (List UInt8)) where
  enc v := ([.d (.l 89 v.1), .fn 112 [.ptr 0 0]], [.box [.d (.s v.2)]])
  pat
    | ([.d (.l tp1 p1), .fn 112 [.ptr 0 0]], [.box [.d (.s p2)]]) => (asT 89 tp1 p1).bind fun q1 => some (q1, p2)
    | _ => none
  ok z v h := by
    split at h
    · obtain ⟨q1, hp1, h⟩ := Option.bind_eq_some_iff.1 h
      cases h
      rw [asT_l hp1]
      all_goals rfl
    · cases h
def io104 : Io T ((List S89) × Int × Int × (List UInt8)) where
  enc v := ([.d (.l 89 v.1), .fn 112 [.ptr 0 0], .d (.i .i64 v.2.1), .d (.i .i64 v.2.2.1)], [.box [.d (.s v.2.2.2)]])
  pat
    | ([.d (.l tp1 p1), .fn 112 [.ptr 0 0], .d (.i .i64 p2), .d (.i .i64 p3)], [.box [.d (.s p4)]]) => (asT 89 tp1 p1).bind fun q1 => some (q1, p2, p3, p4)
    | _ => none
  ok z v h := by
    split at h
    · obtain ⟨q1, hp1, h⟩ := Option.bind_eq_some_iff.1 h
      cases h
      rw [asT_l hp1]
      all_goals rfl
    · cases h
def io105 : Io T (Int × (List UInt8) × (List S89) × (List UInt8) × Int × (List Int) × (List UInt8)) where
  enc v := ([.agg [.d (.i .i64 v.1), .d (.s v.2.1), .d (.l 89 v.2.2.1), .d (.s v.2.2.2.1), .d (.i .i64 v.2.2.2.2.1), .d (.l 3 v.2.2.2.2.2.1)], .d (.s v.2.2.2.2.2.2)], [])
  pat
    | ([.agg [.d (.i .i64 p1), .d (.s p2), .d (.l tp3 p3), .d (.s p4), .d (.i .i64 p5), .d (.l tp6 p6)], .d (.s p7)], []) => (asT 89 tp3 p3).bind fun q3 => (asT 3 tp6 p6).bind fun q6 => some (p1, p2, q3, p4, p5, q6, p7)
    | _ => none
  ok z v h := by
    split at h
    · obtain ⟨q3, hp3, h⟩ := Option.bind_eq_some_iff.1 h
      obtain ⟨q6, hp6, h⟩ := Option.bind_eq_some_iff.1 h
      cases h
      rw [asT_l hp3]
      rw [asT_l hp6]
      all_goals rfl
    · cases h
def io106 : Io T (Int × (List UInt8) × (List S89) × (List UInt8) × Int × (List Int) × Int × (List UInt8) × Int × (List UInt8) × Int × Int × (List S52)) where
  enc v := ([.agg [.d (.i .i64 v.1), .d (.s v.2.1), .d (.l 89 v.2.2.1), .d (.s v.2.2.2.1), .d (.i .i64 v.2.2.2.2.1), .d (.l 3 v.2.2.2.2.2.1)], .agg [.d (.i .i64 v.2.2.2.2.2.2.1), .d (.s v.2.2.2.2.2.2.2.1), .d (.i .u8 v.2.2.2.2.2.2.2.2.1), .d (.s v.2.2.2.2.2.2.2.2.2.1), .d (.i .i64 v.2.2.2.2.2.2.2.2.2.2.1), .d (.i .i64 v.2.2.2.2.2.2.2.2.2.2.2.1), .d (.l 52 v.2.2.2.2.2.2.2.2.2.2.2.2)]], [])
  pat
    | ([.agg [.d (.i .i64 p1), .d (.s p2), .d (.l tp3 p3), .d (.s p4), .d (.i .i64 p5), .d (.l tp6 p6)], .agg [.d (.i .i64 p7), .d (.s p8), .d (.i .u8 p9), .d (.s p10), .d (.i .i64 p11), .d (.i .i64 p12), .d (.l tp13 p13)]], []) => (asT 89 tp3 p3).bind fun q3 => (asT 3 tp6 p6).bind fun q6 => (asT 52 tp13 p13).bind fun q13 => some (p1, p2, q3, p4, p5, q6, p7, p8, p9, p10, p11, p12, q13)
    | _ => none
  ok z v h := by
    split at h
    · obtain ⟨q3, hp3, h⟩ := Option.bind_eq_some_iff.1 h
      obtain ⟨q6, hp6, h⟩ := Option.bind_eq_some_iff.1 h
      obtain ⟨q13, hp13, h⟩ := Option.bind_eq_some_iff.1 h
      cases h
      rw [asT_l hp3]
      rw [asT_l hp6]
      rw [asT_l hp13]
      all_goals rfl
    · cases h
def io107 : Io T (Int × (List S31) × Bool) where
  enc v := ([.d (.i .i64 v.1), .ptr 0 0], [.box [.d (.l 31 v.2.1), .d (.b v.2.2)]])
  pat
    | ([.d (.i .i64 p1), .ptr 0 0], [.box [.d (.l tp2 p2), .d (.b p3)]]) => (asT 31 tp2 p2).bind fun q2 => some (p1, q2, p3)
    | _ => none
  ok z v h := by
    split at h
    · obtain ⟨q2, hp2, h⟩ := Option.bind_eq_some_iff.1 h
      cases h
      rw [asT_l hp2]
      all_goals rfl
    · cases h
def io108 : Io T (Bool × (List S31) × Bool) where
  enc v := ([.d (.b v.1)], [.box [.d (.l 31 v.2.1), .d (.b v.2.2)]])
  pat
    | ([.d (.b p1)], [.box [.d (.l tp2 p2), .d (.b p3)]]) => (asT 31 tp2 p2).bind fun q2 => some (p1, q2, p3)
    | _ => none
  ok z v h := by
    split at h
    · obtain ⟨q2, hp2, h⟩ := Option.bind_eq_some_iff.1 h
      cases h
      rw [asT_l hp2]
      all_goals rfl
    · cases h
def io109 : Io T ((List Int) × (List S31) × Bool) where
  enc v := ([.d (.l 3 v.1), .fn 120 [.ptr 0 0]], [.box [.d (.l 31 v.2.1), .d (.b v.2.2)]])
  pat
    | ([.d (.l tp1 p1), .fn 120 [.ptr 0 0]], [.box [.d (.l tp2 p2), .d (.b p3)]]) => (asT 3 tp1 p1).bind fun q1 => (asT 31 tp2 p2).bind fun q2 => some (q1, q2, p3)
    | _ => none
  ok z v h := by
    split at h
    · obtain ⟨q1, hp1, h⟩ := Option.bind_eq_some_iff.1 h
      obtain ⟨q2, hp2, h⟩ := Option.bind_eq_some_iff.1 h
      cases h
      rw [asT_l hp1]
      rw [asT_l hp2]
      all_goals rfl
    · cases h
def io110 : Io T (Int × (List S31) × Bool) where
  enc v := ([.d (.i .i64 v.1)], [.box [.d (.l 31 v.2.1), .d (.b v.2.2)]])
  pat
    | ([.d (.i .i64 p1)], [.box [.d (.l tp2 p2), .d (.b p3)]]) => (asT 31 tp2 p2).bind fun q2 => some (p1, q2, p3)
    | _ => none
  ok z v h := by
    split at h
    · obtain ⟨q2, hp2, h⟩ := Option.bind_eq_some_iff.1 h
      cases h
      rw [asT_l hp2]
      all_goals rfl
    · cases h
def io111 : Io T ((List Int) × Int × Int × (List S31) × Bool) where
  enc v := ([.d (.l 3 v.1), .fn 120 [.ptr 0 0], .d (.i .i64 v.2.1), .d (.i .i64 v.2.2.1)], [.box [.d (.l 31 v.2.2.2.1), .d (.b v.2.2.2.2)]])
  pat
    | ([.d (.l tp1 p1), .fn 120 [.ptr 0 0], .d (.i .i64 p2), .d (.i .i64 p3)], [.box [.d (.l tp4 p4), .d (.b p5)]]) => (asT 3 tp1 p1).bind fun q1 => (asT 31 tp4 p4).bind fun q4 => some (q1, p2, p3, q4, p5)
    | _ => none
  ok z v h := by
    split at h
    · obtain ⟨q1, hp1, h⟩ := Option.bind_eq_some_iff.1 h
      obtain ⟨q4, hp4, h⟩ := Option.bind_eq_some_iff.1 h
      cases h
      rw [asT_l hp1]
      rw [asT_l hp4]
      all_goals rfl
    · cases h
def io112 : Io T ((List S31) × Bool) where
  enc v := ([], [.box [.d (.l 31 v.1), .d (.b v.2)]])
  pat
    | ([], [.box [.d (.l tp1 p1), .d (.b p2)]]) => (asT 31 tp1 p1).bind fun q1 => some (q1, p2)
    | _ => none
  ok z v h := by
    split at h
    · obtain ⟨q1, hp1, h⟩ := Option.bind_eq_some_iff.1 h
      cases h
      rw [asT_l hp1]
      all_goals rfl
    · cases h
def io113 : Io T (List Int) where
  enc v := ([.d (.l 3 v)], [])
  pat
    | ([.d (.l tp1 p1)], []) => (asT 3 tp1 p1).bind fun q1 => some q1
    | _ => none
  ok z v h := by
    split at h
    · obtain ⟨q1, hp1, h⟩ := Option.bind_eq_some_iff.1 h
      cases h
      rw [asT_l hp1]
      all_goals rfl
    · cases h
def io114 : Io T (List Int) where
  enc v := ([.sl 0 none], [.arr 3 v])
  pat
    | ([.sl 0 none], [.arr tp1 p1]) => (asT 3 tp1 p1).bind fun q1 => some q1
    | _ => none
  ok z v h := by
    split at h
    · obtain ⟨q1, hp1, h⟩ := Option.bind_eq_some_iff.1 h
      cases h
      rw [asT_a hp1]
      all_goals rfl
    · cases h
def io115 : Io T ((List Int) × (List S31) × Bool) where
  enc v := ([.sl 0 none, .fn 122 [.ptr 1 0]], [.arr 3 v.1, .box [.d (.l 31 v.2.1), .d (.b v.2.2)]])
  pat
    | ([.sl 0 none, .fn 122 [.ptr 1 0]], [.arr tp1 p1, .box [.d (.l tp2 p2), .d (.b p3)]]) => (asT 3 tp1 p1).bind fun q1 => (asT 31 tp2 p2).bind fun q2 => some (q1, q2, p3)
    | _ => none
  ok z v h := by
    split at h
    · obtain ⟨q1, hp1, h⟩ := Option.bind_eq_some_iff.1 h
      obtain ⟨q2, hp2, h⟩ := Option.bind_eq_some_iff.1 h
      cases h
      rw [asT_l hp2]
      rw [asT_a hp1]
      all_goals rfl
    · cases h
def io116 : Io T (Int × (List Int) × (List S31) × Bool) where
  enc v := ([.d (.i .i64 v.1)], [.arr 3 v.2.1, .box [.d (.l 31 v.2.2.1), .d (.b v.2.2.2)]])
  pat
    | ([.d (.i .i64 p1)], [.arr tp2 p2, .box [.d (.l tp3 p3), .d (.b p4)]]) => (asT 3 tp2 p2).bind fun q2 => (asT 31 tp3 p3).bind fun q3 => some (p1, q2, q3, p4)
    | _ => none
  ok z v h := by
    split at h
    · obtain ⟨q2, hp2, h⟩ := Option.bind_eq_some_iff.1 h
      obtain ⟨q3, hp3, h⟩ := Option.bind_eq_some_iff.1 h
      cases h
      rw [asT_l hp3]
      rw [asT_a hp2]
      all_goals rfl
    · cases h
def io117 : Io T (Int × Int × (List Int) × (List S31) × Bool) where
  enc v := ([.sl 0 none, .fn 122 [.ptr 1 0], .d (.i .i64 v.1), .d (.i .i64 v.2.1)], [.arr 3 v.2.2.1, .box [.d (.l 31 v.2.2.2.1), .d (.b v.2.2.2.2)]])
  pat
    | ([.sl 0 none, .fn 122 [.ptr 1 0], .d (.i .i64 p1), .d (.i .i64 p2)], [.arr tp3 p3, .box [.d (.l tp4 p4), .d (.b p5)]]) => (asT 3 tp3 p3).bind fun q3 => (asT 31 tp4 p4).bind fun q4 => some (p1, p2, q3, q4, p5)
    | _ => none
  ok z v h := by
    split at h
    · obtain ⟨q3, hp3, h⟩ := Option.bind_eq_some_iff.1 h
      obtain ⟨q4, hp4, h⟩ := Option.bind_eq_some_iff.1 h
      cases h
      rw [asT_l hp4]
      rw [asT_a hp3]
      all_goals rfl
    · cases h
def io118 : Io T ((List Int) × (List S31) × Bool) where
  enc v := ([], [.arr 3 v.1, .box [.d (.l 31 v.2.1), .d (.b v.2.2)]])
  pat
    | ([], [.arr tp1 p1, .box [.d (.l tp2 p2), .d (.b p3)]]) => (asT 3 tp1 p1).bind fun q1 => (asT 31 tp2 p2).bind fun q2 => some (q1, q2, p3)
    | _ => none
  ok z v h := by
    split at h
    · obtain ⟨q1, hp1, h⟩ := Option.bind_eq_some_iff.1 h
      obtain ⟨q2, hp2, h⟩ := Option.bind_eq_some_iff.1 h
      cases h
      rw [asT_l hp2]
      rw [asT_a hp1]
      all_goals rfl
    · cases h
def io119 : Io T ((List S31) × Bool × (List Int)) where
  enc v := ([.sl 2 none], [.dead, .box [.d (.l 31 v.1), .d (.b v.2.1)], .arr 3 v.2.2])
  pat
    | ([.sl 2 none], [.dead, .box [.d (.l tp1 p1), .d (.b p2)], .arr tp3 p3]) => (asT 31 tp1 p1).bind fun q1 => (asT 3 tp3 p3).bind fun q3 => some (q1, p2, q3)
    | _ => none
  ok z v h := by
    split at h
    · obtain ⟨q1, hp1, h⟩ := Option.bind_eq_some_iff.1 h
      obtain ⟨q3, hp3, h⟩ := Option.bind_eq_some_iff.1 h
      cases h
      rw [asT_l hp1]
      rw [asT_a hp3]
      all_goals rfl
    · cases h
def io120 : Io T (Int × (List Int) × (List S31) × Bool) where
  enc v := ([.sl 0 none, .d (.i .i64 v.1)], [.arr 3 v.2.1, .box [.d (.l 31 v.2.2.1), .d (.b v.2.2.2)]])
  pat
    | ([.sl 0 none, .d (.i .i64 p1)], [.arr tp2 p2, .box [.d (.l tp3 p3), .d (.b p4)]]) => (asT 3 tp2 p2).bind fun q2 => (asT 31 tp3 p3).bind fun q3 => some (p1, q2, q3, p4)
    | _ => none
  ok z v h := by
    split at h
    · obtain ⟨q2, hp2, h⟩ := Option.bind_eq_some_iff.1 h
      obtain ⟨q3, hp3, h⟩ := Option.bind_eq_some_iff.1 h
      cases h
      rw [asT_l hp3]
      rw [asT_a hp2]
      all_goals rfl
    · cases h
def io121 : Io T ((List Int) × Int) where
  enc v := ([.d (.l 3 v.1), .d (.i .i64 v.2)], [])
  pat
    | ([.d (.l tp1 p1), .d (.i .i64 p2)], []) => (asT 3 tp1 p1).bind fun q1 => some (q1, p2)
    | _ => none
  ok z v h := by
    split at h
    · obtain ⟨q1, hp1, h⟩ := Option.bind_eq_some_iff.1 h
      cases h
      rw [asT_l hp1]
      all_goals rfl
    · cases h
def io122 : Io T ((List Int) × Int × Int × Int) where
  enc v := ([.d (.l 3 v.1), .d (.i .i64 v.2.1), .d (.i .i64 v.2.2.1), .d (.i .i64 v.2.2.2)], [])
  pat
    | ([.d (.l tp1 p1), .d (.i .i64 p2), .d (.i .i64 p3), .d (.i .i64 p4)], []) => (asT 3 tp1 p1).bind fun q1 => some (q1, p2, p3, p4)
    | _ => none
  ok z v h := by
    split at h
    · obtain ⟨q1, hp1, h⟩ := Option.bind_eq_some_iff.1 h
      cases h
      rw [asT_l hp1]
      all_goals rfl
    · cases h
def io123 : Io T (Int × (List Int)) where
  enc v := ([.sl 0 none, .d (.i .i64 v.1)], [.arr 3 v.2])
  pat
    | ([.sl 0 none, .d (.i .i64 p1)], [.arr tp2 p2]) => (asT 3 tp2 p2).bind fun q2 => some (p1, q2)
    | _ => none
  ok z v h := by
    split at h
    · obtain ⟨q2, hp2, h⟩ := Option.bind_eq_some_iff.1 h
      cases h
      rw [asT_a hp2]
      all_goals rfl
    · cases h
def io124 : Io T (Int × Int × Int) where
  enc v := ([.d (.i .i64 v.1), .d (.i .i64 v.2.1), .d (.i .i64 v.2.2)], [])
  pat
    | ([.d (.i .i64 p1), .d (.i .i64 p2), .d (.i .i64 p3)], []) => some (p1, p2, p3)
    | _ => none
  ok z v h := by
    split at h
    · cases h
      all_goals rfl
    · cases h
def io125 : Io T ((List S31) × Bool × Int × Int × (List UInt8) × Int × (List UInt8) × Int × Int × (List S52)) where
  enc v := ([.agg [.d (.l 31 v.1), .d (.b v.2.1)], .d (.i .i64 v.2.2.1), .agg [.d (.i .i64 v.2.2.2.1), .d (.s v.2.2.2.2.1), .d (.i .u8 v.2.2.2.2.2.1), .d (.s v.2.2.2.2.2.2.1), .d (.i .i64 v.2.2.2.2.2.2.2.1), .d (.i .i64 v.2.2.2.2.2.2.2.2.1), .d (.l 52 v.2.2.2.2.2.2.2.2.2)]], [])
  pat
    | ([.agg [.d (.l tp1 p1), .d (.b p2)], .d (.i .i64 p3), .agg [.d (.i .i64 p4), .d (.s p5), .d (.i .u8 p6), .d (.s p7), .d (.i .i64 p8), .d (.i .i64 p9), .d (.l tp10 p10)]], []) => (asT 31 tp1 p1).bind fun q1 => (asT 52 tp10 p10).bind fun q10 => some (q1, p2, p3, p4, p5, p6, p7, p8, p9, q10)
    | _ => none
  ok z v h := by
    split at h
    · obtain ⟨q1, hp1, h⟩ := Option.bind_eq_some_iff.1 h
      obtain ⟨q10, hp10, h⟩ := Option.bind_eq_some_iff.1 h
      cases h
      rw [asT_l hp1]
      rw [asT_l hp10]
      all_goals rfl
    · cases h
def io126 : Io T (Int × Int × (List UInt8) × Int × (List UInt8) × Int × Int × (List S52)) where
  enc v := ([.ptr 0 0, .d (.i .i64 v.1)], [.box [.d (.i .i64 v.2.1), .d (.s v.2.2.1), .d (.i .u8 v.2.2.2.1), .d (.s v.2.2.2.2.1), .d (.i .i64 v.2.2.2.2.2.1), .d (.i .i64 v.2.2.2.2.2.2.1), .d (.l 52 v.2.2.2.2.2.2.2)]])
  pat
    | ([.ptr 0 0, .d (.i .i64 p1)], [.box [.d (.i .i64 p2), .d (.s p3), .d (.i .u8 p4), .d (.s p5), .d (.i .i64 p6), .d (.i .i64 p7), .d (.l tp8 p8)]]) => (asT 52 tp8 p8).bind fun q8 => some (p1, p2, p3, p4, p5, p6, p7, q8)
    | _ => none
  ok z v h := by
    split at h
    · obtain ⟨q8, hp8, h⟩ := Option.bind_eq_some_iff.1 h
      cases h
      rw [asT_l hp8]
      all_goals rfl
    · cases h
def io127 : Io T (Int × (List UInt8) × Int × (List UInt8) × Int × Int × (List S52) × (List S31) × Bool × Int) where
  enc v := ([.agg [.d (.i .i64 v.1), .d (.s v.2.1), .d (.i .u8 v.2.2.1), .d (.s v.2.2.2.1), .d (.i .i64 v.2.2.2.2.1), .d (.i .i64 v.2.2.2.2.2.1), .d (.l 52 v.2.2.2.2.2.2.1)], .ptr 0 0, .ptr 1 0], [.box [.d (.l 31 v.2.2.2.2.2.2.2.1), .d (.b v.2.2.2.2.2.2.2.2.1)], .box [.d (.i .i64 v.2.2.2.2.2.2.2.2.2)]])
  pat
    | ([.agg [.d (.i .i64 p1), .d (.s p2), .d (.i .u8 p3), .d (.s p4), .d (.i .i64 p5), .d (.i .i64 p6), .d (.l tp7 p7)], .ptr 0 0, .ptr 1 0], [.box [.d (.l tp8 p8), .d (.b p9)], .box [.d (.i .i64 p10)]]) => (asT 52 tp7 p7).bind fun q7 => (asT 31 tp8 p8).bind fun q8 => some (p1, p2, p3, p4, p5, p6, q7, q8, p9, p10)
    | _ => none
  ok z v h := by
    split at h
    · obtain ⟨q7, hp7, h⟩ := Option.bind_eq_some_iff.1 h
      obtain ⟨q8, hp8, h⟩ := Option.bind_eq_some_iff.1 h
      cases h
      rw [asT_l hp7]
      rw [asT_l hp8]
      all_goals rfl
    · cases h
def io128 : Io T (Bool × (List S31) × Bool × Int) where
  enc v := ([.d (.b v.1)], [.box [.d (.l 31 v.2.1), .d (.b v.2.2.1)], .box [.d (.i .i64 v.2.2.2)]])
  pat
    | ([.d (.b p1)], [.box [.d (.l tp2 p2), .d (.b p3)], .box [.d (.i .i64 p4)]]) => (asT 31 tp2 p2).bind fun q2 => some (p1, q2, p3, p4)
    | _ => none
  ok z v h := by
    split at h
    · obtain ⟨q2, hp2, h⟩ := Option.bind_eq_some_iff.1 h
      cases h
      rw [asT_l hp2]
      all_goals rfl
    · cases h
def io129 : Io T ((List S96) × (List S31) × Bool × Int) where
  enc v := ([.d (.l 96 v.1), .fn 51 [.ptr 0 0, .ptr 1 0]], [.box [.d (.l 31 v.2.1), .d (.b v.2.2.1)], .box [.d (.i .i64 v.2.2.2)]])
  pat
    | ([.d (.l tp1 p1), .fn 51 [.ptr 0 0, .ptr 1 0]], [.box [.d (.l tp2 p2), .d (.b p3)], .box [.d (.i .i64 p4)]]) => (asT 96 tp1 p1).bind fun q1 => (asT 31 tp2 p2).bind fun q2 => some (q1, q2, p3, p4)
    | _ => none
  ok z v h := by
    split at h
    · obtain ⟨q1, hp1, h⟩ := Option.bind_eq_some_iff.1 h
      obtain ⟨q2, hp2, h⟩ := Option.bind_eq_some_iff.1 h
      cases h
      rw [asT_l hp1]
      rw [asT_l hp2]
      all_goals rfl
    · cases h
def io130 : Io T (Int × (List S31) × Bool × Int) where
  enc v := ([.d (.i .i64 v.1)], [.box [.d (.l 31 v.2.1), .d (.b v.2.2.1)], .box [.d (.i .i64 v.2.2.2)]])
  pat
    | ([.d (.i .i64 p1)], [.box [.d (.l tp2 p2), .d (.b p3)], .box [.d (.i .i64 p4)]]) => (asT 31 tp2 p2).bind fun q2 => some (p1, q2, p3, p4)
    | _ => none
  ok z v h := by
    split at h
    · obtain ⟨q2, hp2, h⟩ := Option.bind_eq_some_iff.1 h
      cases h
      rw [asT_l hp2]
      all_goals rfl
    · cases h
def io131 : Io T ((List S96) × Int × Int × (List S31) × Bool × Int) where
  enc v := ([.d (.l 96 v.1), .fn 51 [.ptr 0 0, .ptr 1 0], .d (.i .i64 v.2.1), .d (.i .i64 v.2.2.1)], [.box [.d (.l 31 v.2.2.2.1), .d (.b v.2.2.2.2.1)], .box [.d (.i .i64 v.2.2.2.2.2)]])
  pat
    | ([.d (.l tp1 p1), .fn 51 [.ptr 0 0, .ptr 1 0], .d (.i .i64 p2), .d (.i .i64 p3)], [.box [.d (.l tp4 p4), .d (.b p5)], .box [.d (.i .i64 p6)]]) => (asT 96 tp1 p1).bind fun q1 => (asT 31 tp4 p4).bind fun q4 => some (q1, p2, p3, q4, p5, p6)
    | _ => none
  ok z v h := by
    split at h
    · obtain ⟨q1, hp1, h⟩ := Option.bind_eq_some_iff.1 h
      obtain ⟨q4, hp4, h⟩ := Option.bind_eq_some_iff.1 h
      cases h
      rw [asT_l hp1]
      rw [asT_l hp4]
      all_goals rfl
    · cases h
def io132 : Io T ((List S31) × Bool × Int) where
  enc v := ([], [.box [.d (.l 31 v.1), .d (.b v.2.1)], .box [.d (.i .i64 v.2.2)]])
  pat
    | ([], [.box [.d (.l tp1 p1), .d (.b p2)], .box [.d (.i .i64 p3)]]) => (asT 31 tp1 p1).bind fun q1 => some (q1, p2, p3)
    | _ => none
  ok z v h := by
    split at h
    · obtain ⟨q1, hp1, h⟩ := Option.bind_eq_some_iff.1 h
      cases h
      rw [asT_l hp1]
      all_goals rfl
    · cases h
def io133 : Io T (Int × (List S31) × Bool × (List (List S96)) × (List Int) × Int) where
  enc v := ([.d (.i .i64 v.1), .ptr 0 0, .ptr 1 0, .ptr 2 0], [.box [.d (.l 31 v.2.1), .d (.b v.2.2.1)], .box [.d (.l 94 v.2.2.2.1), .d (.l 5 v.2.2.2.2.1)], .box [.d (.i .i64 v.2.2.2.2.2)]])
  pat
    | ([.d (.i .i64 p1), .ptr 0 0, .ptr 1 0, .ptr 2 0], [.box [.d (.l tp2 p2), .d (.b p3)], .box [.d (.l tp4 p4), .d (.l tp5 p5)], .box [.d (.i .i64 p6)]]) => (asT 31 tp2 p2).bind fun q2 => (asT 94 tp4 p4).bind fun q4 => (asT 5 tp5 p5).bind fun q5 => some (p1, q2, p3, q4, q5, p6)
    | _ => none
  ok z v h := by
    split at h
    · obtain ⟨q2, hp2, h⟩ := Option.bind_eq_some_iff.1 h
      obtain ⟨q4, hp4, h⟩ := Option.bind_eq_some_iff.1 h
      obtain ⟨q5, hp5, h⟩ := Option.bind_eq_some_iff.1 h
      cases h
      rw [asT_l hp2]
      rw [asT_l hp4]
      rw [asT_l hp5]
      all_goals rfl
    · cases h
def io134 : Io T (Bool × (List S31) × Bool × (List (List S96)) × (List Int) × Int) where
  enc v := ([.d (.b v.1)], [.box [.d (.l 31 v.2.1), .d (.b v.2.2.1)], .box [.d (.l 94 v.2.2.2.1), .d (.l 5 v.2.2.2.2.1)], .box [.d (.i .i64 v.2.2.2.2.2)]])
  pat
    | ([.d (.b p1)], [.box [.d (.l tp2 p2), .d (.b p3)], .box [.d (.l tp4 p4), .d (.l tp5 p5)], .box [.d (.i .i64 p6)]]) => (asT 31 tp2 p2).bind fun q2 => (asT 94 tp4 p4).bind fun q4 => (asT 5 tp5 p5).bind fun q5 => some (p1, q2, p3, q4, q5, p6)
    | _ => none
  ok z v h := by
    split at h
    · obtain ⟨q2, hp2, h⟩ := Option.bind_eq_some_iff.1 h
      obtain ⟨q4, hp4, h⟩ := Option.bind_eq_some_iff.1 h
      obtain ⟨q5, hp5, h⟩ := Option.bind_eq_some_iff.1 h
      cases h
      rw [asT_l hp2]
      rw [asT_l hp4]
      rw [asT_l hp5]
      all_goals rfl
    · cases h
def io135 : Io T ((List Int) × (List S31) × Bool × (List (List S96)) × (List Int) × Int) where
  enc v := ([.sl 0 none, .fn 48 [.ptr 1 0, .ptr 2 0, .ptr 3 0]], [.arr 3 v.1, .box [.d (.l 31 v.2.1), .d (.b v.2.2.1)], .box [.d (.l 94 v.2.2.2.1), .d (.l 5 v.2.2.2.2.1)], .box [.d (.i .i64 v.2.2.2.2.2)]])
  pat
    | ([.sl 0 none, .fn 48 [.ptr 1 0, .ptr 2 0, .ptr 3 0]], [.arr tp1 p1, .box [.d (.l tp2 p2), .d (.b p3)], .box [.d (.l tp4 p4), .d (.l tp5 p5)], .box [.d (.i .i64 p6)]]) => (asT 3 tp1 p1).bind fun q1 => (asT 31 tp2 p2).bind fun q2 => (asT 94 tp4 p4).bind fun q4 => (asT 5 tp5 p5).bind fun q5 => some (q1, q2, p3, q4, q5, p6)
    | _ => none
  ok z v h := by
    split at h
    · obtain ⟨q1, hp1, h⟩ := Option.bind_eq_some_iff.1 h
      obtain ⟨q2, hp2, h⟩ := Option.bind_eq_some_iff.1 h
      obtain ⟨q4, hp4, h⟩ := Option.bind_eq_some_iff.1 h
      obtain ⟨q5, hp5, h⟩ := Option.bind_eq_some_iff.1 h
      cases h
      rw [asT_l hp2]
      rw [asT_l hp4]
      rw [asT_l hp5]
      rw [asT_a hp1]
      all_goals rfl
    · cases h
def io136 : Io T (Int × (List Int) × (List S31) × Bool × (List (List S96)) × (List Int) × Int) where
  enc v := ([.d (.i .i64 v.1)], [.arr 3 v.2.1, .box [.d (.l 31 v.2.2.1), .d (.b v.2.2.2.1)], .box [.d (.l 94 v.2.2.2.2.1), .d (.l 5 v.2.2.2.2.2.1)], .box [.d (.i .i64 v.2.2.2.2.2.2)]])
  pat
    | ([.d (.i .i64 p1)], [.arr tp2 p2, .box [.d (.l tp3 p3), .d (.b p4)], .box [.d (.l tp5 p5), .d (.l tp6 p6)], .box [.d (.i .i64 p7)]]) => (asT 3 tp2 p2).bind fun q2 => (asT 31 tp3 p3).bind fun q3 => (asT 94 tp5 p5).bind fun q5 => (asT 5 tp6 p6).bind fun q6 => some (p1, q2, q3, p4, q5, q6, p7)
    | _ => none
  ok z v h := by
    split at h
    · obtain ⟨q2, hp2, h⟩ := Option.bind_eq_some_iff.1 h
      obtain ⟨q3, hp3, h⟩ := Option.bind_eq_some_iff.1 h
      obtain ⟨q5, hp5, h⟩ := Option.bind_eq_some_iff.1 h
      obtain ⟨q6, hp6, h⟩ := Option.bind_eq_some_iff.1 h
      cases h
      rw [asT_l hp3]
      rw [asT_l hp5]
      rw [asT_l hp6]
      rw [asT_a hp2]
      all_goals rfl
    · cases h
def io137 : Io T (Int × Int × (List Int) × (List S31) × Bool × (List (List S96)) × (List Int) × Int) where
  enc v := ([.sl 0 none, .fn 48 [.ptr 1 0, .ptr 2 0, .ptr 3 0], .d (.i .i64 v.1), .d (.i .i64 v.2.1)], [.arr 3 v.2.2.1, .box [.d (.l 31 v.2.2.2.1), .d (.b v.2.2.2.2.1)], .box [.d (.l 94 v.2.2.2.2.2.1), .d (.l 5 v.2.2.2.2.2.2.1)], .box [.d (.i .i64 v.2.2.2.2.2.2.2)]])
  pat
    | ([.sl 0 none, .fn 48 [.ptr 1 0, .ptr 2 0, .ptr 3 0], .d (.i .i64 p1), .d (.i .i64 p2)], [.arr tp3 p3, .box [.d (.l tp4 p4), .d (.b p5)], .box [.d (.l tp6 p6), .d (.l tp7 p7)], .box [.d (.i .i64 p8)]]) => (asT 3 tp3 p3).bind fun q3 => (asT 31 tp4 p4).bind fun q4 => (asT 94 tp6 p6).bind fun q6 => (asT 5 tp7 p7).bind fun q7 => some (p1, p2, q3, q4, p5, q6, q7, p8)
    | _ => none
  ok z v h := by
    split at h
    · obtain ⟨q3, hp3, h⟩ := Option.bind_eq_some_iff.1 h
      obtain ⟨q4, hp4, h⟩ := Option.bind_eq_some_iff.1 h
      obtain ⟨q6, hp6, h⟩ := Option.bind_eq_some_iff.1 h
      obtain ⟨q7, hp7, h⟩ := Option.bind_eq_some_iff.1 h
      cases h
      rw [asT_l hp4]
      rw [asT_l hp6]
      rw [asT_l hp7]
      rw [asT_a hp3]
      all_goals rfl
    · cases h
def io138 : Io T ((List Int) × (List S31) × Bool × (List (List S96)) × (List Int) × Int) where
  enc v := ([], [.arr 3 v.1, .box [.d (.l 31 v.2.1), .d (.b v.2.2.1)], .box [.d (.l 94 v.2.2.2.1), .d (.l 5 v.2.2.2.2.1)], .box [.d (.i .i64 v.2.2.2.2.2)]])
  pat
    | ([], [.arr tp1 p1, .box [.d (.l tp2 p2), .d (.b p3)], .box [.d (.l tp4 p4), .d (.l tp5 p5)], .box [.d (.i .i64 p6)]]) => (asT 3 tp1 p1).bind fun q1 => (asT 31 tp2 p2).bind fun q2 => (asT 94 tp4 p4).bind fun q4 => (asT 5 tp5 p5).bind fun q5 => some (q1, q2, p3, q4, q5, p6)
    | _ => none
  ok z v h := by
    split at h
    · obtain ⟨q1, hp1, h⟩ := Option.bind_eq_some_iff.1 h
      obtain ⟨q2, hp2, h⟩ := Option.bind_eq_some_iff.1 h
      obtain ⟨q4, hp4, h⟩ := Option.bind_eq_some_iff.1 h
      obtain ⟨q5, hp5, h⟩ := Option.bind_eq_some_iff.1 h
      cases h
      rw [asT_l hp2]
      rw [asT_l hp4]
      rw [asT_l hp5]
      rw [asT_a hp1]
      all_goals rfl
    · cases h
def io139 : Io T ((List S31) × Bool × (List (List S96)) × (List Int) × Int × (List Int)) where
  enc v := ([.sl 4 none], [.dead, .box [.d (.l 31 v.1), .d (.b v.2.1)], .box [.d (.l 94 v.2.2.1), .d (.l 5 v.2.2.2.1)], .box [.d (.i .i64 v.2.2.2.2.1)], .arr 3 v.2.2.2.2.2])
  pat
    | ([.sl 4 none], [.dead, .box [.d (.l tp1 p1), .d (.b p2)], .box [.d (.l tp3 p3), .d (.l tp4 p4)], .box [.d (.i .i64 p5)], .arr tp6 p6]) => (asT 31 tp1 p1).bind fun q1 => (asT 94 tp3 p3).bind fun q3 => (asT 5 tp4 p4).bind fun q4 => (asT 3 tp6 p6).bind fun q6 => some (q1, p2, q3, q4, p5, q6)
    | _ => none
  ok z v h := by
    split at h
    · obtain ⟨q1, hp1, h⟩ := Option.bind_eq_some_iff.1 h
      obtain ⟨q3, hp3, h⟩ := Option.bind_eq_some_iff.1 h
      obtain ⟨q4, hp4, h⟩ := Option.bind_eq_some_iff.1 h
      obtain ⟨q6, hp6, h⟩ := Option.bind_eq_some_iff.1 h
      cases h
      rw [asT_l hp1]
      rw [asT_l hp3]
      rw [asT_l hp4]
      rw [asT_a hp6]
      all_goals rfl
    · cases h
def io140 : Io T (Int × (List Int) × (List S31) × Bool × (List (List S96)) × (List Int) × Int) where
  enc v := ([.sl 0 none, .d (.i .i64 v.1)], [.arr 3 v.2.1, .box [.d (.l 31 v.2.2.1), .d (.b v.2.2.2.1)], .box [.d (.l 94 v.2.2.2.2.1), .d (.l 5 v.2.2.2.2.2.1)], .box [.d (.i .i64 v.2.2.2.2.2.2)]])
  pat
    | ([.sl 0 none, .d (.i .i64 p1)], [.arr tp2 p2, .box [.d (.l tp3 p3), .d (.b p4)], .box [.d (.l tp5 p5), .d (.l tp6 p6)], .box [.d (.i .i64 p7)]]) => (asT 3 tp2 p2).bind fun q2 => (asT 31 tp3 p3).bind fun q3 => (asT 94 tp5 p5).bind fun q5 => (asT 5 tp6 p6).bind fun q6 => some (p1, q2, q3, p4, q5, q6, p7)
    | _ => none
  ok z v h := by
    split at h
    · obtain ⟨q2, hp2, h⟩ := Option.bind_eq_some_iff.1 h
      obtain ⟨q3, hp3, h⟩ := Option.bind_eq_some_iff.1 h
      obtain ⟨q5, hp5, h⟩ := Option.bind_eq_some_iff.1 h
      obtain ⟨q6, hp6, h⟩ := Option.bind_eq_some_iff.1 h
      cases h
      rw [asT_l hp3]
      rw [asT_l hp5]
      rw [asT_l hp6]
      rw [asT_a hp2]
      all_goals rfl
    · cases h
def io141 : Io T ((List S31) × Bool × Int × (List (List S96)) × (List Int)) where
  enc v := ([.agg [.d (.l 31 v.1), .d (.b v.2.1)], .d (.i .i64 v.2.2.1), .agg [.d (.l 94 v.2.2.2.1), .d (.l 5 v.2.2.2.2)]], [])
  pat
    | ([.agg [.d (.l tp1 p1), .d (.b p2)], .d (.i .i64 p3), .agg [.d (.l tp4 p4), .d (.l tp5 p5)]], []) => (asT 31 tp1 p1).bind fun q1 => (asT 94 tp4 p4).bind fun q4 => (asT 5 tp5 p5).bind fun q5 => some (q1, p2, p3, q4, q5)
    | _ => none
  ok z v h := by
    split at h
    · obtain ⟨q1, hp1, h⟩ := Option.bind_eq_some_iff.1 h
      obtain ⟨q4, hp4, h⟩ := Option.bind_eq_some_iff.1 h
      obtain ⟨q5, hp5, h⟩ := Option.bind_eq_some_iff.1 h
      cases h
      rw [asT_l hp1]
      rw [asT_l hp4]
      rw [asT_l hp5]
      all_goals rfl
    · cases h
def io142 : Io T (Int × Int × (List S31) × Bool × (List (List S96)) × (List Int) × Int × (List Int)) where
  enc v := ([.ptr 0 0, .ptr 1 0, .ptr 2 0, .d .ns, .sl 3 none, .d (.i .i64 v.1), .d (.i .i64 v.2.1)], [.box [.d (.l 31 v.2.2.1), .d (.b v.2.2.2.1)], .box [.d (.l 94 v.2.2.2.2.1), .d (.l 5 v.2.2.2.2.2.1)], .box [.d (.i .i64 v.2.2.2.2.2.2.1)], .arr 3 v.2.2.2.2.2.2.2])
  pat
    | ([.ptr 0 0, .ptr 1 0, .ptr 2 0, .d .ns, .sl 3 none, .d (.i .i64 p1), .d (.i .i64 p2)], [.box [.d (.l tp3 p3), .d (.b p4)], .box [.d (.l tp5 p5), .d (.l tp6 p6)], .box [.d (.i .i64 p7)], .arr tp8 p8]) => (asT 31 tp3 p3).bind fun q3 => (asT 94 tp5 p5).bind fun q5 => (asT 5 tp6 p6).bind fun q6 => (asT 3 tp8 p8).bind fun q8 => some (p1, p2, q3, p4, q5, q6, p7, q8)
    | _ => none
  ok z v h := by
    split at h
    · obtain ⟨q3, hp3, h⟩ := Option.bind_eq_some_iff.1 h
      obtain ⟨q5, hp5, h⟩ := Option.bind_eq_some_iff.1 h
      obtain ⟨q6, hp6, h⟩ := Option.bind_eq_some_iff.1 h
      obtain ⟨q8, hp8, h⟩ := Option.bind_eq_some_iff.1 h
      cases h
      rw [asT_l hp3]
      rw [asT_l hp5]
      rw [asT_l hp6]
      rw [asT_a hp8]
      all_goals rfl
    · cases h
def io143 : Io T ((List S31) × Bool × (List (List S96)) × (List Int) × Int) where
  enc v := ([.ptr 0 0, .ptr 1 0, .ptr 2 0, .d .ns], [.box [.d (.l 31 v.1), .d (.b v.2.1)], .box [.d (.l 94 v.2.2.1), .d (.l 5 v.2.2.2.1)], .box [.d (.i .i64 v.2.2.2.2)]])
  pat
    | ([.ptr 0 0, .ptr 1 0, .ptr 2 0, .d .ns], [.box [.d (.l tp1 p1), .d (.b p2)], .box [.d (.l tp3 p3), .d (.l tp4 p4)], .box [.d (.i .i64 p5)]]) => (asT 31 tp1 p1).bind fun q1 => (asT 94 tp3 p3).bind fun q3 => (asT 5 tp4 p4).bind fun q4 => some (q1, p2, q3, q4, p5)
    | _ => none
  ok z v h := by
    split at h
    · obtain ⟨q1, hp1, h⟩ := Option.bind_eq_some_iff.1 h
      obtain ⟨q3, hp3, h⟩ := Option.bind_eq_some_iff.1 h
      obtain ⟨q4, hp4, h⟩ := Option.bind_eq_some_iff.1 h
      cases h
      rw [asT_l hp1]
      rw [asT_l hp3]
      rw [asT_l hp4]
      all_goals rfl
    · cases h
def io144 : Io T ((List S31) × Bool × (List (List S96)) × (List Int) × (List Int) × Int) where
  enc v := ([.ptr 0 0, .ptr 1 0, .sl 2 none, .ptr 3 0], [.box [.d (.l 31 v.1), .d (.b v.2.1)], .box [.d (.l 94 v.2.2.1), .d (.l 5 v.2.2.2.1)], .arr 3 v.2.2.2.2.1, .box [.d (.i .i64 v.2.2.2.2.2)]])
  pat
    | ([.ptr 0 0, .ptr 1 0, .sl 2 none, .ptr 3 0], [.box [.d (.l tp1 p1), .d (.b p2)], .box [.d (.l tp3 p3), .d (.l tp4 p4)], .arr tp5 p5, .box [.d (.i .i64 p6)]]) => (asT 31 tp1 p1).bind fun q1 => (asT 94 tp3 p3).bind fun q3 => (asT 5 tp4 p4).bind fun q4 => (asT 3 tp5 p5).bind fun q5 => some (q1, p2, q3, q4, q5, p6)
    | _ => none
  ok z v h := by
    split at h
    · obtain ⟨q1, hp1, h⟩ := Option.bind_eq_some_iff.1 h
      obtain ⟨q3, hp3, h⟩ := Option.bind_eq_some_iff.1 h
      obtain ⟨q4, hp4, h⟩ := Option.bind_eq_some_iff.1 h
      obtain ⟨q5, hp5, h⟩ := Option.bind_eq_some_iff.1 h
      cases h
      rw [asT_l hp1]
      rw [asT_l hp3]
      rw [asT_l hp4]
      rw [asT_a hp5]
      all_goals rfl
    · cases h
def io145 : Io T ((List (List S96)) × (List Int) × (List S31) × Bool × Int) where
  enc v := ([.agg [.d (.l 94 v.1), .d (.l 5 v.2.1)], .ptr 0 0, .ptr 1 0], [.box [.d (.l 31 v.2.2.1), .d (.b v.2.2.2.1)], .box [.d (.i .i64 v.2.2.2.2)]])
  pat
    | ([.agg [.d (.l tp1 p1), .d (.l tp2 p2)], .ptr 0 0, .ptr 1 0], [.box [.d (.l tp3 p3), .d (.b p4)], .box [.d (.i .i64 p5)]]) => (asT 94 tp1 p1).bind fun q1 => (asT 5 tp2 p2).bind fun q2 => (asT 31 tp3 p3).bind fun q3 => some (q1, q2, q3, p4, p5)
    | _ => none
  ok z v h := by
    split at h
    · obtain ⟨q1, hp1, h⟩ := Option.bind_eq_some_iff.1 h
      obtain ⟨q2, hp2, h⟩ := Option.bind_eq_some_iff.1 h
      obtain ⟨q3, hp3, h⟩ := Option.bind_eq_some_iff.1 h
      cases h
      rw [asT_l hp1]
      rw [asT_l hp2]
      rw [asT_l hp3]
      all_goals rfl
    · cases h
def io146 : Io T ((List S52) × (List S31) × Bool × Int) where
  enc v := ([.d (.l 52 v.1), .fn 32 [.ptr 0 0, .ptr 1 0]], [.box [.d (.l 31 v.2.1), .d (.b v.2.2.1)], .box [.d (.i .i64 v.2.2.2)]])
  pat
    | ([.d (.l tp1 p1), .fn 32 [.ptr 0 0, .ptr 1 0]], [.box [.d (.l tp2 p2), .d (.b p3)], .box [.d (.i .i64 p4)]]) => (asT 52 tp1 p1).bind fun q1 => (asT 31 tp2 p2).bind fun q2 => some (q1, q2, p3, p4)
    | _ => none
  ok z v h := by
    split at h
    · obtain ⟨q1, hp1, h⟩ := Option.bind_eq_some_iff.1 h
      obtain ⟨q2, hp2, h⟩ := Option.bind_eq_some_iff.1 h
      cases h
      rw [asT_l hp1]
      rw [asT_l hp2]
      all_goals rfl
    · cases h
def io147 : Io T ((List S52) × Int × Int × (List S31) × Bool × Int) where
  enc v := ([.d (.l 52 v.1), .fn 32 [.ptr 0 0, .ptr 1 0], .d (.i .i64 v.2.1), .d (.i .i64 v.2.2.1)], [.box [.d (.l 31 v.2.2.2.1), .d (.b v.2.2.2.2.1)], .box [.d (.i .i64 v.2.2.2.2.2)]])
  pat
    | ([.d (.l tp1 p1), .fn 32 [.ptr 0 0, .ptr 1 0], .d (.i .i64 p2), .d (.i .i64 p3)], [.box [.d (.l tp4 p4), .d (.b p5)], .box [.d (.i .i64 p6)]]) => (asT 52 tp1 p1).bind fun q1 => (asT 31 tp4 p4).bind fun q4 => some (q1, p2, p3, q4, p5, p6)
    | _ => none
  ok z v h := by
    split at h
    · obtain ⟨q1, hp1, h⟩ := Option.bind_eq_some_iff.1 h
      obtain ⟨q4, hp4, h⟩ := Option.bind_eq_some_iff.1 h
      cases h
      rw [asT_l hp1]
      rw [asT_l hp4]
      all_goals rfl
    · cases h
def io148 : Io T ((List S31) × Bool × Int × (List S52)) where
  enc v := ([.agg [.d (.l 31 v.1), .d (.b v.2.1)], .d (.i .i64 v.2.2.1), .d (.l 52 v.2.2.2)], [])
  pat
    | ([.agg [.d (.l tp1 p1), .d (.b p2)], .d (.i .i64 p3), .d (.l tp4 p4)], []) => (asT 31 tp1 p1).bind fun q1 => (asT 52 tp4 p4).bind fun q4 => some (q1, p2, p3, q4)
    | _ => none
  ok z v h := by
    split at h
    · obtain ⟨q1, hp1, h⟩ := Option.bind_eq_some_iff.1 h
      obtain ⟨q4, hp4, h⟩ := Option.bind_eq_some_iff.1 h
      cases h
      rw [asT_l hp1]
      rw [asT_l hp4]
      all_goals rfl
    · cases h
def io149 : Io T (Bool × Int) where
  enc v := ([.d (.b v.1), .d (.i .i64 v.2)], [])
  pat
    | ([.d (.b p1), .d (.i .i64 p2)], []) => some (p1, p2)
    | _ => none
  ok z v h := by
    split at h
    · cases h
      all_goals rfl
    · cases h
def io150 : Io T (Int × Bool × Int × Int × Int × Int × Int × Int × Int × Int × Bool × (List S31) × Bool × (List (List UInt8))) where
  enc v := ([.d (.i .i64 v.1), .ptr 0 0, .d (.b v.2.1), .d (.i .i64 v.2.2.1), .d (.i .i64 v.2.2.2.1), .d (.i .i64 v.2.2.2.2.1), .d (.i .i64 v.2.2.2.2.2.1), .d (.i .i64 v.2.2.2.2.2.2.1), .d (.i .i64 v.2.2.2.2.2.2.2.1), .d (.i .i64 v.2.2.2.2.2.2.2.2.1), .sl 1 none, .d (.i .i64 v.2.2.2.2.2.2.2.2.2.1), .d (.b v.2.2.2.2.2.2.2.2.2.2.1)], [.box [.d (.l 31 v.2.2.2.2.2.2.2.2.2.2.2.1), .d (.b v.2.2.2.2.2.2.2.2.2.2.2.2.1)], .arr 9 v.2.2.2.2.2.2.2.2.2.2.2.2.2])
  pat
    | ([.d (.i .i64 p1), .ptr 0 0, .d (.b p2), .d (.i .i64 p3), .d (.i .i64 p4), .d (.i .i64 p5), .d (.i .i64 p6), .d (.i .i64 p7), .d (.i .i64 p8), .d (.i .i64 p9), .sl 1 none, .d (.i .i64 p10), .d (.b p11)], [.box [.d (.l tp12 p12), .d (.b p13)], .arr tp14 p14]) => (asT 31 tp12 p12).bind fun q12 => (asT 9 tp14 p14).bind fun q14 => some (p1, p2, p3, p4, p5, p6, p7, p8, p9, p10, p11, q12, p13, q14)
    | _ => none
  ok z v h := by
    split at h
    · obtain ⟨q12, hp12, h⟩ := Option.bind_eq_some_iff.1 h
      obtain ⟨q14, hp14, h⟩ := Option.bind_eq_some_iff.1 h
      cases h
      rw [asT_l hp12]
      rw [asT_a hp14]
      all_goals rfl
    · cases h
def io151 : Io T (Int × Bool × Int × Int × Int × Int × Int × Int × Int × Int × (List S31) × Bool × (List (List UInt8))) where
  enc v := ([.d (.i .i64 v.1), .ptr 0 0, .d (.b v.2.1), .d (.i .i64 v.2.2.1), .d (.i .i64 v.2.2.2.1), .d (.i .i64 v.2.2.2.2.1), .d (.i .i64 v.2.2.2.2.2.1), .d (.i .i64 v.2.2.2.2.2.2.1), .d (.i .i64 v.2.2.2.2.2.2.2.1), .d (.i .i64 v.2.2.2.2.2.2.2.2.1), .sl 1 none, .d (.i .i64 v.2.2.2.2.2.2.2.2.2.1)], [.box [.d (.l 31 v.2.2.2.2.2.2.2.2.2.2.1), .d (.b v.2.2.2.2.2.2.2.2.2.2.2.1)], .arr 9 v.2.2.2.2.2.2.2.2.2.2.2.2])
  pat
    | ([.d (.i .i64 p1), .ptr 0 0, .d (.b p2), .d (.i .i64 p3), .d (.i .i64 p4), .d (.i .i64 p5), .d (.i .i64 p6), .d (.i .i64 p7), .d (.i .i64 p8), .d (.i .i64 p9), .sl 1 none, .d (.i .i64 p10)], [.box [.d (.l tp11 p11), .d (.b p12)], .arr tp13 p13]) => (asT 31 tp11 p11).bind fun q11 => (asT 9 tp13 p13).bind fun q13 => some (p1, p2, p3, p4, p5, p6, p7, p8, p9, p10, q11, p12, q13)
    | _ => none
  ok z v h := by
    split at h
    · obtain ⟨q11, hp11, h⟩ := Option.bind_eq_some_iff.1 h
      obtain ⟨q13, hp13, h⟩ := Option.bind_eq_some_iff.1 h
      cases h
      rw [asT_l hp11]
      rw [asT_a hp13]
      all_goals rfl
    · cases h
def io152 : Io T (Int × Bool × Int × Int × Int × Int × Int × Int × (List S31) × Bool) where
  enc v := ([.d (.i .i64 v.1), .ptr 0 0, .d (.b v.2.1), .d (.i .i64 v.2.2.1), .d (.i .i64 v.2.2.2.1), .d (.i .i64 v.2.2.2.2.1), .d (.i .i64 v.2.2.2.2.2.1), .d (.i .i64 v.2.2.2.2.2.2.1), .d (.i .i64 v.2.2.2.2.2.2.2.1)], [.box [.d (.l 31 v.2.2.2.2.2.2.2.2.1), .d (.b v.2.2.2.2.2.2.2.2.2)]])
  pat
    | ([.d (.i .i64 p1), .ptr 0 0, .d (.b p2), .d (.i .i64 p3), .d (.i .i64 p4), .d (.i .i64 p5), .d (.i .i64 p6), .d (.i .i64 p7), .d (.i .i64 p8)], [.box [.d (.l tp9 p9), .d (.b p10)]]) => (asT 31 tp9 p9).bind fun q9 => some (p1, p2, p3, p4, p5, p6, p7, p8, q9, p10)
    | _ => none
  ok z v h := by
    split at h
    · obtain ⟨q9, hp9, h⟩ := Option.bind_eq_some_iff.1 h
      cases h
      rw [asT_l hp9]
      all_goals rfl
    · cases h
def io153 : Io T (Bool × Int × Int × Int × Int × Int) where
  enc v := ([.d (.b v.1), .d (.i .i64 v.2.1), .d (.i .i64 v.2.2.1), .d (.i .i64 v.2.2.2.1), .d (.i .i64 v.2.2.2.2.1), .d (.i .i64 v.2.2.2.2.2)], [])
  pat
    | ([.d (.b p1), .d (.i .i64 p2), .d (.i .i64 p3), .d (.i .i64 p4), .d (.i .i64 p5), .d (.i .i64 p6)], []) => some (p1, p2, p3, p4, p5, p6)
    | _ => none
  ok z v h := by
    split at h
    · cases h
      all_goals rfl
    · cases h
def pe59 (p : Unit) : V T := .pv 59 []
def pp59 : V T → Option (Unit)
  | .pv t [] => bif t.beq 59 then some () else none
  | _ => none
theorem pp59_ok : ∀ (v : V T) (p : Unit), pp59 v = some p → v = pe59 p := by
  intro v p h
  unfold pp59 at h
  split at h
  · rename_i t 
    cases hb : t.beq 59 with
    | false => rw [hb] at h; cases h
    | true => rw [hb] at h; cases h; rw [Nat.eq_of_beq_eq_true hb]; rfl
  · cases h
theorem pe59_pv : ∀ p : Unit, ∃ t ds, pe59 p = (.pv t ds : V T) := fun p => ⟨_, _, rfl⟩
def tab0 (k : Nat) : Tab T := noTab
def strings_TrimLeft (k : Nat) (a3 : List UInt8) (a4 : List UInt8) : Option (List UInt8) := trimL a3 a4
def tab1 (k : Nat) : Tab T := addTab 57 (line io0 io1 [] (fun v => strings_TrimLeft k v.1 v.2)) (tab0 k)
def stringslite_HasPrefix (k : Nat) (a1 : List UInt8) (a2 : List UInt8) : Option (Bool) :=
let v3 : Bool := (decide ((a1.length : Int) ≥ (a2.length : Int)))
cond ((decide (0 ≤ (a2.length : Int) ∧ (a2.length : Int) ≤ (a1.length : Int))) || !v3) (
let v4 : List UInt8 := (a1.take (a2.length : Int).toNat)
some (cond v3 (v4 == a2) false)) none
def stringslite_HasPrefix.kr (w0 : World) (k : Nat) : Kr T (Bool) := (kret (retK (cfg w0 (tab1 k)) Tryz.f102.results.toList 0 [] io2.pat))
def stringslite_HasPrefix.cuts (w0 : World) (k : Nat) : Cuts T (Bool) := fun n => none
def stringslite_HasPrefix.body : Code := bodyOf Tryz.f102
theorem stringslite_HasPrefix.e (w0 : World) (k : Nat) : ∀ v, (fun v => stringslite_HasPrefix k v.1 v.2) v = runK (cfg w0 (tab1 k)) Tryz.f102.ntmps (stringslite_HasPrefix.kr w0 k) (annot (stringslite_HasPrefix.cuts w0 k) stringslite_HasPrefix.body) (entry (io0.enc v).1 (io0.enc v).2) (endK (stringslite_HasPrefix.kr w0 k)) := by
  intro v; kernel_rfl
theorem stringslite_HasPrefix.hb : Tryz.f102.body = some stringslite_HasPrefix.body := by kernel_rfl
def tab2 (k : Nat) : Tab T := addTab 102 (line io0 io2 false (fun v => stringslite_HasPrefix k v.1 v.2)) (tab1 k)
def stringslite_CutPrefix (k : Nat) (a1 : List UInt8) (a2 : List UInt8) : Option ((List UInt8) × Bool) :=
(stringslite_HasPrefix k a1 a2).bind fun r3 =>
cond (!r3) (
some (a1, false)) (
cond (decide (0 ≤ (a2.length : Int) ∧ (a2.length : Int) ≤ (a1.length : Int))) (
let v4 : List UInt8 := (a1.drop (a2.length : Int).toNat)
some (v4, true)) none)
def stringslite_CutPrefix.kr (w0 : World) (k : Nat) : Kr T ((List UInt8) × Bool) := (kret (retK (cfg w0 (tab2 k)) Tryz.f92.results.toList 0 [] io3.pat))
def stringslite_CutPrefix.cuts (w0 : World) (k : Nat) : Cuts T ((List UInt8) × Bool) := fun n => none
def stringslite_CutPrefix.body : Code := bodyOf Tryz.f92
theorem stringslite_CutPrefix.e (w0 : World) (k : Nat) : ∀ v, (fun v => stringslite_CutPrefix k v.1 v.2) v = runK (cfg w0 (tab2 k)) Tryz.f92.ntmps (stringslite_CutPrefix.kr w0 k) (annot (stringslite_CutPrefix.cuts w0 k) stringslite_CutPrefix.body) (entry (io0.enc v).1 (io0.enc v).2) (endK (stringslite_CutPrefix.kr w0 k)) := by
  intro v; kernel_rfl
theorem stringslite_CutPrefix.hb : Tryz.f92.body = some stringslite_CutPrefix.body := by kernel_rfl
def tab3 (k : Nat) : Tab T := addTab 92 (line io0 io3 ([], false) (fun v => stringslite_CutPrefix k v.1 v.2)) (tab2 k)
def strings_CutPrefix (k : Nat) (a1 : List UInt8) (a2 : List UInt8) : Option ((List UInt8) × Bool) :=
(stringslite_CutPrefix k a1 a2).bind fun r3 =>
some (r3.1, r3.2)
def strings_CutPrefix.kr (w0 : World) (k : Nat) : Kr T ((List UInt8) × Bool) := (kret (retK (cfg w0 (tab3 k)) Tryz.f58.results.toList 0 [] io3.pat))
def strings_CutPrefix.cuts (w0 : World) (k : Nat) : Cuts T ((List UInt8) × Bool) := fun n => none
def strings_CutPrefix.body : Code := bodyOf Tryz.f58
theorem strings_CutPrefix.e (w0 : World) (k : Nat) : ∀ v, (fun v => strings_CutPrefix k v.1 v.2) v = runK (cfg w0 (tab3 k)) Tryz.f58.ntmps (strings_CutPrefix.kr w0 k) (annot (strings_CutPrefix.cuts w0 k) strings_CutPrefix.body) (entry (io0.enc v).1 (io0.enc v).2) (endK (strings_CutPrefix.kr w0 k)) := by
  intro v; kernel_rfl
theorem strings_CutPrefix.hb : Tryz.f58.body = some strings_CutPrefix.body := by kernel_rfl
def tab4 (k : Nat) : Tab T := addTab 58 (line io0 io3 ([], false) (fun v => strings_CutPrefix k v.1 v.2)) (tab3 k)
def strings_Index (k : Nat) (a5 : List UInt8) (a6 : List UInt8) : Option (Int) := findS a5 a6
def tab5 (k : Nat) : Tab T := addTab 59 (line io0 io4 (0 : Int) (fun v => strings_Index k v.1 v.2)) (tab4 k)
def f__strings_Builder__String (k : Nat) (a14 : List UInt8) : Option ((List UInt8) × (List UInt8)) := some (a14, a14)
def tab6 (k : Nat) : Tab T := addTab 94 (line io5 io6 ([], []) (fun v => f__strings_Builder__String k v)) (tab5 k)
def f__strings_Builder__WriteByte (k : Nat) (a21 : Int) (a22 : List UInt8) : Option (List UInt8) := wByte a22 a21
def tab7 (k : Nat) : Tab T := addTab 95 (line io7 io8 [] (fun v => f__strings_Builder__WriteByte k v.1 v.2)) (tab6 k)
def csstok_text.c7 (k : Nat) : Nat → (List UInt8) → Int → Int → (List UInt8) → (List UInt8) → Int → (List UInt8) → ((List UInt8) → Int → (List UInt8) → (List UInt8) → Int → Option (Int × (List UInt8) × (List UInt8) × Int)) → Option (Int × (List UInt8) × (List UInt8) × Int)
  | 0, _, _, _, _, _, _, _, _ => none
  | n + 1, x2, x3, x4, x5, x6, x7, x8, k0 =>
    let v9 : Bool := (decide (x3 < (x2.length : Int)))
    cond v9 (
    cond (decide (0 ≤ x3 ∧ x3 < (x2.length : Int))) (
    let v10 : Int := ((x2.getD x3.toNat 0).toNat : Int)
    cond (decide (0 ≤ (0 : Int) ∧ (0 : Int) < (x2.length : Int))) (
    let v11 : Int := ((x2.getD (0 : Int).toNat 0).toNat : Int)
    cond (v10 == v11) (
    let v12 : Int := (IntKind.wrap .i64 (x3 + (1 : Int)))
    cond (decide (0 ≤ v12 ∧ v12 ≤ (x2.length : Int))) (
    (f__strings_Builder__String k x8).bind fun r13 =>
    some ((5 : Int), (x2.take v12.toNat), r13.1, (0 : Int))) none) (
    cond (v10 == (10 : Int)) (
    cond (decide (0 ≤ x3 ∧ x3 ≤ (x2.length : Int))) (
    some ((6 : Int), (x2.take x3.toNat), [], (0 : Int))) none) (
    let v14 : Int := (IntKind.wrap .i64 (x3 + (1 : Int)))
    let v15 : Bool := (decide (v14 < (x2.length : Int)))
    let v16 : Bool := (cond (v10 == (92 : Int)) v15 false)
    cond v16 (
    let v17 : Int := (IntKind.wrap .i64 (x3 + (1 : Int)))
    cond (decide (0 ≤ v17 ∧ v17 < (x2.length : Int))) (
    let v18 : Int := ((x2.getD v17.toNat 0).toNat : Int)
    (f__strings_Builder__WriteByte k v18 x8).bind fun r19 =>
    let v20 : Int := (IntKind.wrap .i64 (v17 + (1 : Int)))
    csstok_text.c7 k n x2 v20 x4 x5 x6 x7 r19 k0) none) (
    (f__strings_Builder__WriteByte k v10 x8).bind fun r21 =>
    let v22 : Int := (IntKind.wrap .i64 (x3 + (1 : Int)))
    csstok_text.c7 k n x2 v22 x4 x5 x6 x7 r21 k0)))) none) none) (
    k0 x2 x4 x5 x6 x7)
def csstok_text (k : Nat) (a1 : List UInt8) : Option (Int × (List UInt8) × (List UInt8) × Int) :=
csstok_text.c7 k k a1 (1 : Int) (0 : Int) ([]) ([]) (0 : Int) ([] : List UInt8) (fun (y23 : List UInt8) (y24 : Int) (y25 : List UInt8) (y26 : List UInt8) (y27 : Int) =>
some ((6 : Int), y23, [], (0 : Int)))
def csstok_text.kr (w0 : World) (k : Nat) : Kr T (Int × (List UInt8) × (List UInt8) × Int) := (kret (retK (cfg w0 (tab7 k)) Tryz.f60.results.toList 0 [] io9.pat))
def csstok_text.x7 : Ex → Option (List Nat × List Sp)
  | .exit 0 => some ([0, 2], [])
  | _ => none
def csstok_text.L7 (k : Nat) (n : Nat) (v : (List UInt8) × Int × Int × (List UInt8) × (List UInt8) × Int × (List UInt8)) (K : Ex → St T → Option (Int × (List UInt8) × (List UInt8) × Int)) : Option (Int × (List UInt8) × (List UInt8) × Int) := csstok_text.c7 k n v.1 v.2.1 v.2.2.1 v.2.2.2.1 v.2.2.2.2.1 v.2.2.2.2.2.1 v.2.2.2.2.2.2 (fun y196 y197 y198 y199 y200 => K (.exit 0) (mkSt [0, 2] (io11.enc (y196, y197, y198, y199, y200))))
def csstok_text.cuts (w0 : World) (k : Nat) : Cuts T (Int × (List UInt8) × (List UInt8) × Int) := fun n => bif n.beq 7 then some (entK (cfg w0 (tab7 k)) 0 [0, 2, 3, 4] [] io10.pat (csstok_text.L7 k k)) else none
def csstok_text.body : Code := bodyOf Tryz.f60
def csstok_text.b7 : Code := findD 7 csstok_text.body
theorem csstok_text.s7 (w0 : World) (k : Nat) : ∀ n v K, csstok_text.L7 k (n + 1) v K = runK (cfg w0 (tab7 k)) Tryz.f60.ntmps (csstok_text.kr w0 k) (annot (csstok_text.cuts w0 k) csstok_text.b7) (mkSt [0, 2, 3, 4] (io10.enc v)) (loopK (cfg w0 (tab7 k)) 0 csstok_text.x7 (entK (cfg w0 (tab7 k)) 0 [0, 2, 3, 4] [] io10.pat (csstok_text.L7 k n)) K) := by
  intro n v K; kernel_rfl
theorem csstok_text.e (w0 : World) (k : Nat) : ∀ v, (fun v => csstok_text k v) v = runK (cfg w0 (tab7 k)) Tryz.f60.ntmps (csstok_text.kr w0 k) (annot (csstok_text.cuts w0 k) csstok_text.body) (entry (io1.enc v).1 (io1.enc v).2) (endK (csstok_text.kr w0 k)) := by
  intro v; kernel_rfl
theorem csstok_text.hb : Tryz.f60.body = some csstok_text.body := by kernel_rfl
def tab8 (k : Nat) : Tab T := addTab 60 (line io1 io9 ((0 : Int), [], [], (0 : Int)) (fun v => csstok_text k v)) (tab7 k)
def csstok_starts (k : Nat) (a1 : Int) : Option (Bool) :=
let v2 : Bool := (cond (decide (a1 ≥ (128 : Int))) true (a1 == (95 : Int)))
let v3 : Int := (IntKind.wrap .u8 (((BitVec.ofInt (IntKind.bits .u8) a1 ||| BitVec.ofInt (IntKind.bits .u8) (32 : Int)).toNat : Int)))
let v4 : Int := (IntKind.wrap .u8 (((BitVec.ofInt (IntKind.bits .u8) a1 ||| BitVec.ofInt (IntKind.bits .u8) (32 : Int)).toNat : Int)))
let v5 : Bool := (cond (decide (v3 ≥ (97 : Int))) (decide (v4 ≤ (122 : Int))) false)
some (cond v2 true v5)
def csstok_starts.kr (w0 : World) (k : Nat) : Kr T (Bool) := (kret (retK (cfg w0 (tab8 k)) Tryz.f96.results.toList 0 [] io2.pat))
def csstok_starts.cuts (w0 : World) (k : Nat) : Cuts T (Bool) := fun n => none
def csstok_starts.body : Code := bodyOf Tryz.f96
theorem csstok_starts.e (w0 : World) (k : Nat) : ∀ v, (fun v => csstok_starts k v) v = runK (cfg w0 (tab8 k)) Tryz.f96.ntmps (csstok_starts.kr w0 k) (annot (csstok_starts.cuts w0 k) csstok_starts.body) (entry (io12.enc v).1 (io12.enc v).2) (endK (csstok_starts.kr w0 k)) := by
  intro v; kernel_rfl
theorem csstok_starts.hb : Tryz.f96.body = some csstok_starts.body := by kernel_rfl
def tab9 (k : Nat) : Tab T := addTab 96 (line io12 io2 false (fun v => csstok_starts k v)) (tab8 k)
def csstok_digit (k : Nat) (a1 : Int) : Option (Bool) :=
let v2 : Bool := (cond (decide (a1 ≥ (48 : Int))) (decide (a1 ≤ (57 : Int))) false)
some v2
def csstok_digit.kr (w0 : World) (k : Nat) : Kr T (Bool) := (kret (retK (cfg w0 (tab9 k)) Tryz.f97.results.toList 0 [] io2.pat))
def csstok_digit.cuts (w0 : World) (k : Nat) : Cuts T (Bool) := fun n => none
def csstok_digit.body : Code := bodyOf Tryz.f97
theorem csstok_digit.e (w0 : World) (k : Nat) : ∀ v, (fun v => csstok_digit k v) v = runK (cfg w0 (tab9 k)) Tryz.f97.ntmps (csstok_digit.kr w0 k) (annot (csstok_digit.cuts w0 k) csstok_digit.body) (entry (io12.enc v).1 (io12.enc v).2) (endK (csstok_digit.kr w0 k)) := by
  intro v; kernel_rfl
theorem csstok_digit.hb : Tryz.f97.body = some csstok_digit.body := by kernel_rfl
def tab10 (k : Nat) : Tab T := addTab 97 (line io12 io2 false (fun v => csstok_digit k v)) (tab9 k)
def csstok_sign (k : Nat) (a1 : Int) : Option (Bool) :=
(csstok_starts k a1).bind fun r2 =>
(cond (!r2) (csstok_digit k a1) (some false)).bind fun r3 =>
let v4 : Bool := (cond (cond r2 true r3) true (a1 == (45 : Int)))
some v4
def csstok_sign.kr (w0 : World) (k : Nat) : Kr T (Bool) := (kret (retK (cfg w0 (tab10 k)) Tryz.f61.results.toList 0 [] io2.pat))
def csstok_sign.cuts (w0 : World) (k : Nat) : Cuts T (Bool) := fun n => none
def csstok_sign.body : Code := bodyOf Tryz.f61
theorem csstok_sign.e (w0 : World) (k : Nat) : ∀ v, (fun v => csstok_sign k v) v = runK (cfg w0 (tab10 k)) Tryz.f61.ntmps (csstok_sign.kr w0 k) (annot (csstok_sign.cuts w0 k) csstok_sign.body) (entry (io12.enc v).1 (io12.enc v).2) (endK (csstok_sign.kr w0 k)) := by
  intro v; kernel_rfl
theorem csstok_sign.hb : Tryz.f61.body = some csstok_sign.body := by kernel_rfl
def tab11 (k : Nat) : Tab T := addTab 61 (line io12 io2 false (fun v => csstok_sign k v)) (tab10 k)
def csstok_escape (k : Nat) (a1 : List UInt8) : Option (Bool) :=
let v2 : Bool := (decide ((a1.length : Int) > (1 : Int)))
cond ((decide (0 ≤ (0 : Int) ∧ (0 : Int) < (a1.length : Int))) || !v2) (
let v3 : Int := ((a1.getD (0 : Int).toNat 0).toNat : Int)
let v4 : Bool := (cond v2 (v3 == (92 : Int)) false)
cond ((decide (0 ≤ (1 : Int) ∧ (1 : Int) < (a1.length : Int))) || !v4) (
let v5 : Int := ((a1.getD (1 : Int).toNat 0).toNat : Int)
let v6 : Bool := (cond v4 (v5 != (10 : Int)) false)
some v6) none) none
def csstok_escape.kr (w0 : World) (k : Nat) : Kr T (Bool) := (kret (retK (cfg w0 (tab11 k)) Tryz.f62.results.toList 0 [] io2.pat))
def csstok_escape.cuts (w0 : World) (k : Nat) : Cuts T (Bool) := fun n => none
def csstok_escape.body : Code := bodyOf Tryz.f62
theorem csstok_escape.e (w0 : World) (k : Nat) : ∀ v, (fun v => csstok_escape k v) v = runK (cfg w0 (tab11 k)) Tryz.f62.ntmps (csstok_escape.kr w0 k) (annot (csstok_escape.cuts w0 k) csstok_escape.body) (entry (io1.enc v).1 (io1.enc v).2) (endK (csstok_escape.kr w0 k)) := by
  intro v; kernel_rfl
theorem csstok_escape.hb : Tryz.f62.body = some csstok_escape.body := by kernel_rfl
def tab12 (k : Nat) : Tab T := addTab 62 (line io1 io2 false (fun v => csstok_escape k v)) (tab11 k)
def csstok_name.c7 (k : Nat) : Nat → (List UInt8) → Int → (List UInt8) → (Int → (List UInt8) → Option ((List UInt8) × Int)) → Option ((List UInt8) × Int)
  | 0, _, _, _, _ => none
  | n + 1, x2, x3, x4, k0 =>
    let v5 : Bool := (decide (x3 < (x2.length : Int)))
    cond v5 (
    cond (decide (0 ≤ x3 ∧ x3 ≤ (x2.length : Int))) (
    (csstok_escape k (x2.drop x3.toNat)).bind fun r6 =>
    cond r6 (
    let v7 : Int := (IntKind.wrap .i64 (x3 + (1 : Int)))
    cond (decide (0 ≤ v7 ∧ v7 < (x2.length : Int))) (
    let v8 : Int := ((x2.getD v7.toNat 0).toNat : Int)
    (f__strings_Builder__WriteByte k v8 x4).bind fun r9 =>
    let v10 : Int := (IntKind.wrap .i64 (x3 + (2 : Int)))
    csstok_name.c7 k n x2 v10 r9 k0) none) (
    cond (decide (0 ≤ x3 ∧ x3 < (x2.length : Int))) (
    let v11 : Int := ((x2.getD x3.toNat 0).toNat : Int)
    (csstok_sign k v11).bind fun r12 =>
    cond r12 (
    cond (decide (0 ≤ x3 ∧ x3 < (x2.length : Int))) (
    let v13 : Int := ((x2.getD x3.toNat 0).toNat : Int)
    (f__strings_Builder__WriteByte k v13 x4).bind fun r14 =>
    let v15 : Int := (IntKind.wrap .i64 (x3 + (1 : Int)))
    csstok_name.c7 k n x2 v15 r14 k0) none) (
    (f__strings_Builder__String k x4).bind fun r16 =>
    some (r16.1, x3))) none)) none) (
    k0 x3 x4)
def csstok_name (k : Nat) (a1 : List UInt8) : Option ((List UInt8) × Int) :=
csstok_name.c7 k k a1 (0 : Int) ([] : List UInt8) (fun (y17 : Int) (y18 : List UInt8) =>
(f__strings_Builder__String k y18).bind fun r19 =>
some (r19.1, y17))
def csstok_name.kr (w0 : World) (k : Nat) : Kr T ((List UInt8) × Int) := (kret (retK (cfg w0 (tab12 k)) Tryz.f98.results.toList 0 [] io13.pat))
def csstok_name.x7 : Ex → Option (List Nat × List Sp)
  | .exit 0 => some ([4, 5], [])
  | _ => none
def csstok_name.L7 (k : Nat) (n : Nat) (v : (List UInt8) × Int × (List UInt8)) (K : Ex → St T → Option ((List UInt8) × Int)) : Option ((List UInt8) × Int) := csstok_name.c7 k n v.1 v.2.1 v.2.2 (fun y201 y202 => K (.exit 0) (mkSt [4, 5] (io15.enc (y201, y202))))
def csstok_name.cuts (w0 : World) (k : Nat) : Cuts T ((List UInt8) × Int) := fun n => bif n.beq 7 then some (entK (cfg w0 (tab12 k)) 0 [0, 4, 5] [] io14.pat (csstok_name.L7 k k)) else none
def csstok_name.body : Code := bodyOf Tryz.f98
def csstok_name.b7 : Code := findD 7 csstok_name.body
theorem csstok_name.s7 (w0 : World) (k : Nat) : ∀ n v K, csstok_name.L7 k (n + 1) v K = runK (cfg w0 (tab12 k)) Tryz.f98.ntmps (csstok_name.kr w0 k) (annot (csstok_name.cuts w0 k) csstok_name.b7) (mkSt [0, 4, 5] (io14.enc v)) (loopK (cfg w0 (tab12 k)) 0 csstok_name.x7 (entK (cfg w0 (tab12 k)) 0 [0, 4, 5] [] io14.pat (csstok_name.L7 k n)) K) := by
  intro n v K; kernel_rfl
theorem csstok_name.e (w0 : World) (k : Nat) : ∀ v, (fun v => csstok_name k v) v = runK (cfg w0 (tab12 k)) Tryz.f98.ntmps (csstok_name.kr w0 k) (annot (csstok_name.cuts w0 k) csstok_name.body) (entry (io1.enc v).1 (io1.enc v).2) (endK (csstok_name.kr w0 k)) := by
  intro v; kernel_rfl
theorem csstok_name.hb : Tryz.f98.body = some csstok_name.body := by kernel_rfl
def tab13 (k : Nat) : Tab T := addTab 98 (line io1 io13 ([], (0 : Int)) (fun v => csstok_name k v)) (tab12 k)
def csstok_named (k : Nat) (a1 : Int) (a2 : List UInt8) (a3 : Int) : Option (Int × (List UInt8) × (List UInt8) × Int) :=
cond (decide (0 ≤ a3 ∧ a3 ≤ (a2.length : Int))) (
(csstok_name k (a2.drop a3.toNat)).bind fun r4 =>
let v5 : Int := (IntKind.wrap .i64 (a3 + r4.2))
cond (decide (0 ≤ v5 ∧ v5 ≤ (a2.length : Int))) (
some (a1, (a2.take v5.toNat), r4.1, (0 : Int))) none) none
def csstok_named.kr (w0 : World) (k : Nat) : Kr T (Int × (List UInt8) × (List UInt8) × Int) := (kret (retK (cfg w0 (tab13 k)) Tryz.f63.results.toList 0 [] io9.pat))
def csstok_named.cuts (w0 : World) (k : Nat) : Cuts T (Int × (List UInt8) × (List UInt8) × Int) := fun n => none
def csstok_named.body : Code := bodyOf Tryz.f63
theorem csstok_named.e (w0 : World) (k : Nat) : ∀ v, (fun v => csstok_named k v.1 v.2.1 v.2.2) v = runK (cfg w0 (tab13 k)) Tryz.f63.ntmps (csstok_named.kr w0 k) (annot (csstok_named.cuts w0 k) csstok_named.body) (entry (io16.enc v).1 (io16.enc v).2) (endK (csstok_named.kr w0 k)) := by
  intro v; kernel_rfl
theorem csstok_named.hb : Tryz.f63.body = some csstok_named.body := by kernel_rfl
def tab14 (k : Nat) : Tab T := addTab 63 (line io16 io9 ((0 : Int), [], [], (0 : Int)) (fun v => csstok_named k v.1 v.2.1 v.2.2)) (tab13 k)
def csstok_begins (k : Nat) (a1 : List UInt8) : Option (Bool) :=
cond (a1 == ([] : List UInt8)) (
some false) (
cond (decide (0 ≤ (0 : Int) ∧ (0 : Int) < (a1.length : Int))) (
let v2 : Int := ((a1.getD (0 : Int).toNat 0).toNat : Int)
let v3 : Bool := (decide ((a1.length : Int) > (1 : Int)))
let v4 : Bool := (cond (v2 == (45 : Int)) v3 false)
cond v4 (
cond (decide (0 ≤ (1 : Int) ∧ (1 : Int) < (a1.length : Int))) (
let v5 : Int := ((a1.getD (1 : Int).toNat 0).toNat : Int)
cond ((decide (0 ≤ (1 : Int) ∧ (1 : Int) < (a1.length : Int))) || !(!(v5 == (45 : Int)))) (
let v6 : Int := ((a1.getD (1 : Int).toNat 0).toNat : Int)
(cond (!(v5 == (45 : Int))) (csstok_starts k v6) (some false)).bind fun r7 =>
let v8 : Bool := (cond (v5 == (45 : Int)) true r7)
cond ((decide (0 ≤ (1 : Int) ∧ (1 : Int) ≤ (a1.length : Int))) || !(!v8)) (
(cond (!v8) (csstok_escape k (a1.drop (1 : Int).toNat)) (some false)).bind fun r9 =>
some (cond v8 true r9)) none) none) none) (
cond (decide (0 ≤ (0 : Int) ∧ (0 : Int) < (a1.length : Int))) (
let v10 : Int := ((a1.getD (0 : Int).toNat 0).toNat : Int)
(csstok_starts k v10).bind fun r11 =>
(cond (!r11) (csstok_escape k a1) (some false)).bind fun r12 =>
some (cond r11 true r12)) none)) none)
def csstok_begins.kr (w0 : World) (k : Nat) : Kr T (Bool) := (kret (retK (cfg w0 (tab14 k)) Tryz.f64.results.toList 0 [] io2.pat))
def csstok_begins.cuts (w0 : World) (k : Nat) : Cuts T (Bool) := fun n => none
def csstok_begins.body : Code := bodyOf Tryz.f64
theorem csstok_begins.e (w0 : World) (k : Nat) : ∀ v, (fun v => csstok_begins k v) v = runK (cfg w0 (tab14 k)) Tryz.f64.ntmps (csstok_begins.kr w0 k) (annot (csstok_begins.cuts w0 k) csstok_begins.body) (entry (io1.enc v).1 (io1.enc v).2) (endK (csstok_begins.kr w0 k)) := by
  intro v; kernel_rfl
theorem csstok_begins.hb : Tryz.f64.body = some csstok_begins.body := by kernel_rfl
def tab15 (k : Nat) : Tab T := addTab 64 (line io1 io2 false (fun v => csstok_begins k v)) (tab14 k)
def csstok_digits (k : Nat) (a1 : List UInt8) : Option (Int) :=
(strings_TrimLeft k a1 ([48, 49, 50, 51, 52, 53, 54, 55, 56, 57] : List UInt8)).bind fun r2 =>
let v3 : Int := (IntKind.wrap .i64 ((a1.length : Int) - (r2.length : Int)))
some v3
def csstok_digits.kr (w0 : World) (k : Nat) : Kr T (Int) := (kret (retK (cfg w0 (tab15 k)) Tryz.f99.results.toList 0 [] io4.pat))
def csstok_digits.cuts (w0 : World) (k : Nat) : Cuts T (Int) := fun n => none
def csstok_digits.body : Code := bodyOf Tryz.f99
theorem csstok_digits.e (w0 : World) (k : Nat) : ∀ v, (fun v => csstok_digits k v) v = runK (cfg w0 (tab15 k)) Tryz.f99.ntmps (csstok_digits.kr w0 k) (annot (csstok_digits.cuts w0 k) csstok_digits.body) (entry (io1.enc v).1 (io1.enc v).2) (endK (csstok_digits.kr w0 k)) := by
  intro v; kernel_rfl
theorem csstok_digits.hb : Tryz.f99.body = some csstok_digits.body := by kernel_rfl
def tab16 (k : Nat) : Tab T := addTab 99 (line io1 io4 (0 : Int) (fun v => csstok_digits k v)) (tab15 k)
def strings_HasPrefix (k : Nat) (a1 : List UInt8) (a2 : List UInt8) : Option (Bool) :=
(stringslite_HasPrefix k a1 a2).bind fun r3 =>
some r3
def strings_HasPrefix.kr (w0 : World) (k : Nat) : Kr T (Bool) := (kret (retK (cfg w0 (tab16 k)) Tryz.f67.results.toList 0 [] io2.pat))
def strings_HasPrefix.cuts (w0 : World) (k : Nat) : Cuts T (Bool) := fun n => none
def strings_HasPrefix.body : Code := bodyOf Tryz.f67
theorem strings_HasPrefix.e (w0 : World) (k : Nat) : ∀ v, (fun v => strings_HasPrefix k v.1 v.2) v = runK (cfg w0 (tab16 k)) Tryz.f67.ntmps (strings_HasPrefix.kr w0 k) (annot (strings_HasPrefix.cuts w0 k) strings_HasPrefix.body) (entry (io0.enc v).1 (io0.enc v).2) (endK (strings_HasPrefix.kr w0 k)) := by
  intro v; kernel_rfl
theorem strings_HasPrefix.hb : Tryz.f67.body = some strings_HasPrefix.body := by kernel_rfl
def tab17 (k : Nat) : Tab T := addTab 67 (line io0 io2 false (fun v => strings_HasPrefix k v.1 v.2)) (tab16 k)
def csstok_Number_1 (k : Nat) (a1 : Int) (a2 : Int) : Option (Int) :=
let v3 : Int := (IntKind.wrap .i64 ((10 : Int) * a2))
let v4 : Int := (IntKind.wrap .u8 (a1 - (48 : Int)))
let v5 : Int := (IntKind.wrap .i64 (v3 + (IntKind.wrap .i64 v4)))
let v6 : Int := (if (1000000000 : Int) < v5 then (1000000000 : Int) else v5)
some v6
def csstok_Number_1.kr (w0 : World) (k : Nat) : Kr T (Int) := (kret (retK (cfg w0 (tab17 k)) Tryz.f100.results.toList 1 [] io18.pat))
def csstok_Number_1.cuts (w0 : World) (k : Nat) : Cuts T (Int) := fun n => none
def csstok_Number_1.body : Code := bodyOf Tryz.f100
theorem csstok_Number_1.e (w0 : World) (k : Nat) : ∀ v, (fun v => csstok_Number_1 k v.1 v.2) v = runK (cfg w0 (tab17 k)) Tryz.f100.ntmps (csstok_Number_1.kr w0 k) (annot (csstok_Number_1.cuts w0 k) csstok_Number_1.body) (entry (io17.enc v).1 (io17.enc v).2) (endK (csstok_Number_1.kr w0 k)) := by
  intro v; kernel_rfl
theorem csstok_Number_1.hb : Tryz.f100.body = some csstok_Number_1.body := by kernel_rfl
def tab18 (k : Nat) : Tab T := addTab 100 (line io17 io18 (0 : Int) (fun v => csstok_Number_1 k v.1 v.2)) (tab17 k)
def csstok_Number.c29 (k : Nat) : Nat → (List UInt8) → Int → Int → Int → Int → Int → Int → (List Int) → ((List UInt8) → Int → Int → Int → Int → Option (Int × Int)) → Option (Int × Int)
  | 0, _, _, _, _, _, _, _, _, _ => none
  | n + 1, x19, x20, x21, x22, x23, x24, x25, x26, k0 =>
    cond (decide (x24 < x23)) (
    cond (decide (0 ≤ x24 ∧ x24 < (x26.length : Int))) (
    (csstok_Number_1 k (x26.getD x24.toNat (0 : Int)) x25).bind fun r27 =>
    let v28 : Int := (IntKind.wrap .i64 (x24 + (1 : Int)))
    csstok_Number.c29 k n x19 x20 x21 x22 x23 v28 r27 x26 k0) none) (
    k0 x19 x20 x21 x22 x25)
def csstok_Number.c49 (k : Nat) : Nat → (List UInt8) → Int → (List UInt8) → Int → Int → ((List UInt8) → Int → Int → Option (Int × Int)) → Option (Int × Int)
  | 0, _, _, _, _, _, _ => none
  | n + 1, x45, x46, x47, x48, x49, k2 =>
    cond (decide (x48 < (3 : Int))) (
    let v50 : Bool := (decide (x48 < (x47.length : Int)))
    cond v50 (
    cond (decide (0 ≤ x48 ∧ x48 < (x47.length : Int))) (
    let v51 : Int := ((x47.getD x48.toNat 0).toNat : Int)
    (csstok_Number_1 k v51 x49).bind fun r52 =>
    let v53 : Int := (IntKind.wrap .i64 (x48 + (1 : Int)))
    csstok_Number.c49 k n x45 x46 x47 v53 r52 k2) none) (
    (csstok_Number_1 k (48 : Int) x49).bind fun r54 =>
    let v55 : Int := (IntKind.wrap .i64 (x48 + (1 : Int)))
    csstok_Number.c49 k n x45 x46 x47 v55 r54 k2)) (
    k2 x45 x46 x49)
def csstok_Number.c64 (k : Nat) (x60 : Int) (x61 : Int)  : Option (Int × Int) :=
some (x61, x60)
def csstok_Number.c46 (k : Nat) (x41 : List UInt8) (x42 : Int) (x43 : List UInt8) (x44 : Int)  : Option (Int × Int) :=
csstok_Number.c49 k k x41 x42 x43 (0 : Int) x44 (fun (y56 : List UInt8) (y57 : Int) (y58 : Int) =>
cond (decide (0 ≤ (0 : Int) ∧ (0 : Int) < (y56.length : Int))) (
let v59 : Int := ((y56.getD (0 : Int).toNat 0).toNat : Int)
cond (v59 == (45 : Int)) (
csstok_Number.c64 k y57 (IntKind.wrap .i64 (0 - y58))) (
csstok_Number.c64 k y57 y58)) none)
def csstok_Number.c18 (k : Nat) (x12 : List UInt8) (x13 : Int) (x14 : Int) (x15 : Int)  : Option (Int × Int) :=
let v16 : Int := (IntKind.wrap .i64 (x14 + x15))
cond (v16 == (0 : Int)) (
some ((0 : Int), (0 : Int))) (
let v17 : Int := (IntKind.wrap .i64 (x13 + x14))
cond (decide (0 ≤ x13 ∧ x13 ≤ v17 ∧ v17 ≤ (x12.length : Int))) (
let v18 : List UInt8 := ((x12.take v17.toNat).drop x13.toNat)
csstok_Number.c29 k k x12 x13 x14 x15 ((bytesI v18).length : Int) (0 : Int) (0 : Int) (bytesI v18) (fun (y29 : List UInt8) (y30 : Int) (y31 : Int) (y32 : Int) (y33 : Int) =>
let v34 : Int := (IntKind.wrap .i64 (y30 + y31))
cond (decide (y32 > (0 : Int))) (
let v35 : Int := (IntKind.wrap .i64 (v34 + (1 : Int)))
let v36 : Int := (IntKind.wrap .i64 (v34 + (1 : Int)))
let v37 : Int := (IntKind.wrap .i64 (v36 + y32))
cond (decide (0 ≤ v35 ∧ v35 ≤ v37 ∧ v37 ≤ (y29.length : Int))) (
let v38 : List UInt8 := ((y29.take v37.toNat).drop v35.toNat)
let v39 : Int := (IntKind.wrap .i64 ((1 : Int) + y32))
let v40 : Int := (IntKind.wrap .i64 (v34 + v39))
csstok_Number.c46 k y29 v40 v38 y33) none) (
csstok_Number.c46 k y29 v34 ([] : List UInt8) y33))) none)
def csstok_Number.c8 (k : Nat) (x6 : List UInt8) (x7 : Int)  : Option (Int × Int) :=
cond (decide (0 ≤ x7 ∧ x7 ≤ (x6.length : Int))) (
(csstok_digits k (x6.drop x7.toNat)).bind fun r8 =>
cond (decide (0 ≤ (IntKind.wrap .i64 (x7 + r8)) ∧ (IntKind.wrap .i64 (x7 + r8)) ≤ (x6.length : Int))) (
let v9 : List UInt8 := (x6.drop (IntKind.wrap .i64 (x7 + r8)).toNat)
(strings_HasPrefix k v9 ([46] : List UInt8)).bind fun r10 =>
cond r10 (
cond (decide (0 ≤ (1 : Int) ∧ (1 : Int) ≤ (v9.length : Int))) (
(csstok_digits k (v9.drop (1 : Int).toNat)).bind fun r11 =>
csstok_Number.c18 k x6 x7 r8 r11) none) (
csstok_Number.c18 k x6 x7 r8 (0 : Int))) none) none
def csstok_Number (k : Nat) (a1 : List UInt8) : Option (Int × Int) :=
cond ((decide (0 ≤ (0 : Int) ∧ (0 : Int) < (a1.length : Int))) || !(!(a1 == ([] : List UInt8)))) (
let v2 : Int := ((a1.getD (0 : Int).toNat 0).toNat : Int)
cond ((decide (0 ≤ (0 : Int) ∧ (0 : Int) < (a1.length : Int))) || !((!(a1 == ([] : List UInt8))) && (!(v2 == (43 : Int))))) (
let v3 : Int := ((a1.getD (0 : Int).toNat 0).toNat : Int)
let v4 : Bool := (cond (v2 == (43 : Int)) true (v3 == (45 : Int)))
let v5 : Bool := (cond (!(a1 == ([] : List UInt8))) v4 false)
cond v5 (
csstok_Number.c8 k a1 (1 : Int)) (
csstok_Number.c8 k a1 (0 : Int))) none) none
def csstok_Number.kr (w0 : World) (k : Nat) : Kr T (Int × Int) := (kret (retK (cfg w0 (tab18 k)) Tryz.f65.results.toList 0 [] io19.pat))
def csstok_Number.x29 : Ex → Option (List Nat × List Sp)
  | .exit 0 => some ([0, 4, 5, 6, 8, 9], [])
  | _ => none
def csstok_Number.L29 (k : Nat) (n : Nat) (v : (List UInt8) × Int × Int × Int × Int × Int × Int × (List Int)) (K : Ex → St T → Option (Int × Int)) : Option (Int × Int) := csstok_Number.c29 k n v.1 v.2.1 v.2.2.1 v.2.2.2.1 v.2.2.2.2.1 v.2.2.2.2.2.1 v.2.2.2.2.2.2.1 v.2.2.2.2.2.2.2 (fun y203 y204 y205 y206 y207 => K (.exit 0) (mkSt [0, 4, 5, 6, 8, 9] (io21.enc (y203, y204, y205, y206, y207))))
def csstok_Number.x49 : Ex → Option (List Nat × List Sp)
  | .exit 2 => some ([0, 8, 12], [])
  | _ => none
def csstok_Number.L49 (k : Nat) (n : Nat) (v : (List UInt8) × Int × (List UInt8) × Int × Int) (K : Ex → St T → Option (Int × Int)) : Option (Int × Int) := csstok_Number.c49 k n v.1 v.2.1 v.2.2.1 v.2.2.2.1 v.2.2.2.2 (fun y208 y209 y210 => K (.exit 2) (mkSt [0, 8, 12] (io23.enc (y208, y209, y210))))
def csstok_Number.x64 : Ex → Option (List Nat × List Sp)
  | _ => none
def csstok_Number.L64 (k : Nat) (v : Int × Int) (K : Ex → St T → Option (Int × Int)) : Option (Int × Int) := csstok_Number.c64 k v.1 v.2
def csstok_Number.x46 : Ex → Option (List Nat × List Sp)
  | _ => none
def csstok_Number.L46 (k : Nat) (v : (List UInt8) × Int × (List UInt8) × Int) (K : Ex → St T → Option (Int × Int)) : Option (Int × Int) := csstok_Number.c46 k v.1 v.2.1 v.2.2.1 v.2.2.2
def csstok_Number.x18 : Ex → Option (List Nat × List Sp)
  | _ => none
def csstok_Number.L18 (k : Nat) (v : (List UInt8) × Int × Int × Int) (K : Ex → St T → Option (Int × Int)) : Option (Int × Int) := csstok_Number.c18 k v.1 v.2.1 v.2.2.1 v.2.2.2
def csstok_Number.x8 : Ex → Option (List Nat × List Sp)
  | _ => none
def csstok_Number.L8 (k : Nat) (v : (List UInt8) × Int) (K : Ex → St T → Option (Int × Int)) : Option (Int × Int) := csstok_Number.c8 k v.1 v.2
def csstok_Number.cuts (w0 : World) (k : Nat) : Cuts T (Int × Int) := fun n => bif n.beq 29 then some (entK (cfg w0 (tab18 k)) 0 [0, 4, 5, 6, 8, 9, 52, 53, 54] [] io20.pat (csstok_Number.L29 k k)) else bif n.beq 49 then some (entK (cfg w0 (tab18 k)) 0 [0, 8, 9, 12, 13, 79] [] io22.pat (csstok_Number.L49 k k)) else bif n.beq 64 then some (entK (cfg w0 (tab18 k)) 0 [8, 12] [] io24.pat (csstok_Number.L64 k)) else bif n.beq 46 then some (entK (cfg w0 (tab18 k)) 0 [0, 8, 9, 12, 13] [] io25.pat (csstok_Number.L46 k)) else bif n.beq 18 then some (entK (cfg w0 (tab18 k)) 0 [0, 4, 5, 6] [] io26.pat (csstok_Number.L18 k)) else bif n.beq 8 then some (entK (cfg w0 (tab18 k)) 0 [0, 4] [] io13.pat (csstok_Number.L8 k)) else none
def csstok_Number.body : Code := bodyOf Tryz.f65
def csstok_Number.b29 : Code := findD 29 csstok_Number.body
theorem csstok_Number.s29 (w0 : World) (k : Nat) : ∀ n v K, csstok_Number.L29 k (n + 1) v K = runK (cfg w0 (tab18 k)) Tryz.f65.ntmps (csstok_Number.kr w0 k) (annot (csstok_Number.cuts w0 k) csstok_Number.b29) (mkSt [0, 4, 5, 6, 8, 9, 52, 53, 54] (io20.enc v)) (loopK (cfg w0 (tab18 k)) 0 csstok_Number.x29 (entK (cfg w0 (tab18 k)) 0 [0, 4, 5, 6, 8, 9, 52, 53, 54] [] io20.pat (csstok_Number.L29 k n)) K) := by
  intro n v K; kernel_rfl
def csstok_Number.b49 : Code := findD 49 csstok_Number.body
theorem csstok_Number.s49 (w0 : World) (k : Nat) : ∀ n v K, csstok_Number.L49 k (n + 1) v K = runK (cfg w0 (tab18 k)) Tryz.f65.ntmps (csstok_Number.kr w0 k) (annot (csstok_Number.cuts w0 k) csstok_Number.b49) (mkSt [0, 8, 9, 12, 13, 79] (io22.enc v)) (loopK (cfg w0 (tab18 k)) 0 csstok_Number.x49 (entK (cfg w0 (tab18 k)) 0 [0, 8, 9, 12, 13, 79] [] io22.pat (csstok_Number.L49 k n)) K) := by
  intro n v K; kernel_rfl
def csstok_Number.b64 : Code := findD 64 csstok_Number.body
theorem csstok_Number.s64 (w0 : World) (k : Nat) : ∀ v K, csstok_Number.L64 k v K = runK (cfg w0 (tab18 k)) Tryz.f65.ntmps (csstok_Number.kr w0 k) (annot (csstok_Number.cuts w0 k) csstok_Number.b64) (mkSt [8, 12] (io24.enc v)) (outK (cfg w0 (tab18 k)) 0 csstok_Number.x64 K) := by
  intro v K; kernel_rfl
def csstok_Number.b46 : Code := findD 46 csstok_Number.body
theorem csstok_Number.s46 (w0 : World) (k : Nat) : ∀ v K, csstok_Number.L46 k v K = runK (cfg w0 (tab18 k)) Tryz.f65.ntmps (csstok_Number.kr w0 k) (annot (csstok_Number.cuts w0 k) csstok_Number.b46) (mkSt [0, 8, 9, 12, 13] (io25.enc v)) (outK (cfg w0 (tab18 k)) 0 csstok_Number.x46 K) := by
  intro v K; kernel_rfl
def csstok_Number.b18 : Code := findD 18 csstok_Number.body
theorem csstok_Number.s18 (w0 : World) (k : Nat) : ∀ v K, csstok_Number.L18 k v K = runK (cfg w0 (tab18 k)) Tryz.f65.ntmps (csstok_Number.kr w0 k) (annot (csstok_Number.cuts w0 k) csstok_Number.b18) (mkSt [0, 4, 5, 6] (io26.enc v)) (outK (cfg w0 (tab18 k)) 0 csstok_Number.x18 K) := by
  intro v K; kernel_rfl
def csstok_Number.b8 : Code := findD 8 csstok_Number.body
theorem csstok_Number.s8 (w0 : World) (k : Nat) : ∀ v K, csstok_Number.L8 k v K = runK (cfg w0 (tab18 k)) Tryz.f65.ntmps (csstok_Number.kr w0 k) (annot (csstok_Number.cuts w0 k) csstok_Number.b8) (mkSt [0, 4] (io13.enc v)) (outK (cfg w0 (tab18 k)) 0 csstok_Number.x8 K) := by
  intro v K; kernel_rfl
theorem csstok_Number.e (w0 : World) (k : Nat) : ∀ v, (fun v => csstok_Number k v) v = runK (cfg w0 (tab18 k)) Tryz.f65.ntmps (csstok_Number.kr w0 k) (annot (csstok_Number.cuts w0 k) csstok_Number.body) (entry (io1.enc v).1 (io1.enc v).2) (endK (csstok_Number.kr w0 k)) := by
  intro v; kernel_rfl
theorem csstok_Number.hb : Tryz.f65.body = some csstok_Number.body := by kernel_rfl
def tab19 (k : Nat) : Tab T := addTab 65 (line io1 io19 ((0 : Int), (0 : Int)) (fun v => csstok_Number k v)) (tab18 k)
def csstok_lower.c7 (k : Nat) : Nat → Int → Int → (List Int) → ((List Int) → Option (List UInt8)) → Option (List UInt8)
  | 0, _, _, _, _ => none
  | n + 1, x2, x3, x4, k0 =>
    cond (decide (x3 < x2)) (
    cond (decide (0 ≤ x3 ∧ x3 < (x4.length : Int))) (
    let v5 : Bool := (decide ((x4.getD x3.toNat (0 : Int)) ≥ (65 : Int)))
    let v6 : Bool := (decide ((x4.getD x3.toNat (0 : Int)) ≤ (90 : Int)))
    cond (cond v5 v6 false) (
    let v7 : Int := (IntKind.wrap .u8 ((x4.getD x3.toNat (0 : Int)) + (32 : Int)))
    cond (decide (0 ≤ x3 ∧ x3 < (x4.length : Int))) (
    let v8 : Int := (IntKind.wrap .i64 (x3 + (1 : Int)))
    csstok_lower.c7 k n x2 v8 (x4.set x3.toNat v7) k0) none) (
    let v9 : Int := (IntKind.wrap .i64 (x3 + (1 : Int)))
    csstok_lower.c7 k n x2 v9 x4 k0)) none) (
    k0 x4)
def csstok_lower (k : Nat) (a1 : List UInt8) : Option (List UInt8) :=
csstok_lower.c7 k k ((bytesI a1).length : Int) (0 : Int) (bytesI a1) (fun (y10 : List Int) =>
some (bytesU y10))
def csstok_lower.kr (w0 : World) (k : Nat) : Kr T (List UInt8) := (kret (retK (cfg w0 (tab19 k)) Tryz.f101.results.toList 0 [] io1.pat))
def csstok_lower.x7 : Ex → Option (List Nat × List Sp)
  | .exit 0 => some ([3], [])
  | _ => none
def csstok_lower.L7 (k : Nat) (n : Nat) (v : Int × Int × (List Int)) (K : Ex → St T → Option (List UInt8)) : Option (List UInt8) := csstok_lower.c7 k n v.1 v.2.1 v.2.2 (fun y211 => K (.exit 0) (mkSt [3] (io28.enc y211)))
def csstok_lower.cuts (w0 : World) (k : Nat) : Cuts T (List UInt8) := fun n => bif n.beq 7 then some (entK (cfg w0 (tab19 k)) 0 [3, 8, 9, 10] [] io27.pat (csstok_lower.L7 k k)) else none
def csstok_lower.body : Code := bodyOf Tryz.f101
def csstok_lower.b7 : Code := findD 7 csstok_lower.body
theorem csstok_lower.s7 (w0 : World) (k : Nat) : ∀ n v K, csstok_lower.L7 k (n + 1) v K = runK (cfg w0 (tab19 k)) Tryz.f101.ntmps (csstok_lower.kr w0 k) (annot (csstok_lower.cuts w0 k) csstok_lower.b7) (mkSt [3, 8, 9, 10] (io27.enc v)) (loopK (cfg w0 (tab19 k)) 0 csstok_lower.x7 (entK (cfg w0 (tab19 k)) 0 [3, 8, 9, 10] [] io27.pat (csstok_lower.L7 k n)) K) := by
  intro n v K; kernel_rfl
theorem csstok_lower.e (w0 : World) (k : Nat) : ∀ v, (fun v => csstok_lower k v) v = runK (cfg w0 (tab19 k)) Tryz.f101.ntmps (csstok_lower.kr w0 k) (annot (csstok_lower.cuts w0 k) csstok_lower.body) (entry (io1.enc v).1 (io1.enc v).2) (endK (csstok_lower.kr w0 k)) := by
  intro v; kernel_rfl
theorem csstok_lower.hb : Tryz.f101.body = some csstok_lower.body := by kernel_rfl
def tab20 (k : Nat) : Tab T := addTab 101 (line io1 io1 [] (fun v => csstok_lower k v)) (tab19 k)
def csstok_number.c16 (k : Nat) (x6 : Int) (x7 : List UInt8) (x8 : List UInt8) (x9 : Int) (x10 : Int) (x11 : List UInt8) (x12 : List UInt8) (x13 : Int)  : Option (Int × (List UInt8) × (List UInt8) × Int) :=
some (x10, x11, x12, x13)
def csstok_number (k : Nat) (a1 : List UInt8) (a2 : Int) (a3 : Int) : Option (Int × (List UInt8) × (List UInt8) × Int) :=
cond (decide (0 ≤ a3 ∧ a3 ≤ (a1.length : Int))) (
cond (decide (0 ≤ a3 ∧ a3 ≤ (a1.length : Int))) (
(strings_HasPrefix k (a1.drop a3.toNat) ([37] : List UInt8)).bind fun r4 =>
cond r4 (
let v5 : Int := (IntKind.wrap .i64 (a3 + (1 : Int)))
cond (decide (0 ≤ v5 ∧ v5 ≤ (a1.length : Int))) (
csstok_number.c16 k (0 : Int) ([]) ([]) (0 : Int) (7 : Int) (a1.take v5.toNat) ([37] : List UInt8) a2) none) (
(csstok_begins k (a1.drop a3.toNat)).bind fun r14 =>
cond r14 (
(csstok_name k (a1.drop a3.toNat)).bind fun r15 =>
let v16 : Int := (IntKind.wrap .i64 (a3 + r15.2))
cond (decide (0 ≤ v16 ∧ v16 ≤ (a1.length : Int))) (
(csstok_lower k r15.1).bind fun r17 =>
csstok_number.c16 k (0 : Int) ([]) ([]) (0 : Int) (7 : Int) (a1.take v16.toNat) r17 a2) none) (
csstok_number.c16 k (0 : Int) ([]) ([]) (0 : Int) (7 : Int) (a1.take a3.toNat) ([]) a2))) none) none
def csstok_number.kr (w0 : World) (k : Nat) : Kr T (Int × (List UInt8) × (List UInt8) × Int) := (kret (retK (cfg w0 (tab20 k)) Tryz.f66.results.toList 0 [] io9.pat))
def csstok_number.x16 : Ex → Option (List Nat × List Sp)
  | _ => none
def csstok_number.L16 (k : Nat) (v : Int × (List UInt8) × (List UInt8) × Int × Int × (List UInt8) × (List UInt8) × Int) (K : Ex → St T → Option (Int × (List UInt8) × (List UInt8) × Int)) : Option (Int × (List UInt8) × (List UInt8) × Int) := csstok_number.c16 k v.1 v.2.1 v.2.2.1 v.2.2.2.1 v.2.2.2.2.1 v.2.2.2.2.2.1 v.2.2.2.2.2.2.1 v.2.2.2.2.2.2.2
def csstok_number.cuts (w0 : World) (k : Nat) : Cuts T (Int × (List UInt8) × (List UInt8) × Int) := fun n => bif n.beq 16 then some (entK (cfg w0 (tab20 k)) 0 [6, 7] [] io30.pat (csstok_number.L16 k)) else none
def csstok_number.body : Code := bodyOf Tryz.f66
def csstok_number.b16 : Code := findD 16 csstok_number.body
theorem csstok_number.s16 (w0 : World) (k : Nat) : ∀ v K, csstok_number.L16 k v K = runK (cfg w0 (tab20 k)) Tryz.f66.ntmps (csstok_number.kr w0 k) (annot (csstok_number.cuts w0 k) csstok_number.b16) (mkSt [6, 7] (io30.enc v)) (outK (cfg w0 (tab20 k)) 0 csstok_number.x16 K) := by
  intro v K; kernel_rfl
theorem csstok_number.e (w0 : World) (k : Nat) : ∀ v, (fun v => csstok_number k v.1 v.2.1 v.2.2) v = runK (cfg w0 (tab20 k)) Tryz.f66.ntmps (csstok_number.kr w0 k) (annot (csstok_number.cuts w0 k) csstok_number.body) (entry (io29.enc v).1 (io29.enc v).2) (endK (csstok_number.kr w0 k)) := by
  intro v; kernel_rfl
theorem csstok_number.hb : Tryz.f66.body = some csstok_number.body := by kernel_rfl
def tab21 (k : Nat) : Tab T := addTab 66 (line io29 io9 ((0 : Int), [], [], (0 : Int)) (fun v => csstok_number k v.1 v.2.1 v.2.2)) (tab20 k)
def csstok_first_1 (k : Nat) (a1 : Int) (a2 : List UInt8) : Option (Int × (List UInt8) × (List UInt8) × Int × (List UInt8)) :=
cond (decide (0 ≤ (1 : Int) ∧ (1 : Int) ≤ (a2.length : Int))) (
some (a1, (a2.take (1 : Int).toNat), [], (0 : Int), a2)) none
def csstok_first_1.kr (w0 : World) (k : Nat) : Kr T (Int × (List UInt8) × (List UInt8) × Int × (List UInt8)) := (kret (retK (cfg w0 (tab21 k)) Tryz.f56.results.toList 1 [] io32.pat))
def csstok_first_1.cuts (w0 : World) (k : Nat) : Cuts T (Int × (List UInt8) × (List UInt8) × Int × (List UInt8)) := fun n => none
def csstok_first_1.body : Code := bodyOf Tryz.f56
theorem csstok_first_1.e (w0 : World) (k : Nat) : ∀ v, (fun v => csstok_first_1 k v.1 v.2) v = runK (cfg w0 (tab21 k)) Tryz.f56.ntmps (csstok_first_1.kr w0 k) (annot (csstok_first_1.cuts w0 k) csstok_first_1.body) (entry (io31.enc v).1 (io31.enc v).2) (endK (csstok_first_1.kr w0 k)) := by
  intro v; kernel_rfl
theorem csstok_first_1.hb : Tryz.f56.body = some csstok_first_1.body := by kernel_rfl
def tab22 (k : Nat) : Tab T := addTab 56 (line io31 io32 ((0 : Int), [], [], (0 : Int), []) (fun v => csstok_first_1 k v.1 v.2)) (tab21 k)
def csstok_first.c20 (k : Nat) (x7 : List UInt8) (x8 : Int) (x9 : List UInt8) (x10 : List UInt8) (x11 : Int)  : Option (Int × (List UInt8) × (List UInt8) × Int) :=
some ((9 : Int), x7, [], (0 : Int))
def csstok_first.c52 (k : Nat) (x32 : Int) (x33 : List UInt8) (x34 : List UInt8) (x35 : Int) (x36 : Int) (x37 : List UInt8) (x38 : List UInt8) (x39 : Int)  : Option (Int × (List UInt8) × (List UInt8) × Int) :=
some (x36, x37, x38, x39)
def csstok_first.c76 (k : Nat) (x44 : Int) (x45 : List UInt8) (x46 : List UInt8) (x47 : Int) (x48 : List UInt8)  : Option (Int × (List UInt8) × (List UInt8) × Int) :=
(csstok_first_1 k (12 : Int) x48).bind fun r49 =>
some (r49.1, r49.2.1, r49.2.2.1, r49.2.2.2.1)
def csstok_first (k : Nat) (a1 : List UInt8) : Option (Int × (List UInt8) × (List UInt8) × Int) :=
(strings_TrimLeft k a1 ([32, 9, 10, 12, 13] : List UInt8)).bind fun r2 =>
let v3 : Int := (IntKind.wrap .i64 ((a1.length : Int) - (r2.length : Int)))
cond (decide (v3 > (0 : Int))) (
cond (decide (0 ≤ v3 ∧ v3 ≤ (a1.length : Int))) (
some ((8 : Int), (a1.take v3.toNat), [], (0 : Int))) none) (
(strings_CutPrefix k a1 ([47, 42] : List UInt8)).bind fun r4 =>
cond r4.2 (
(strings_Index k r4.1 ([42, 47] : List UInt8)).bind fun r5 =>
cond (decide (r5 ≥ (0 : Int))) (
let v6 : Int := (IntKind.wrap .i64 (r5 + (4 : Int)))
cond (decide (0 ≤ v6 ∧ v6 ≤ (a1.length : Int))) (
csstok_first.c20 k (a1.take v6.toNat) (0 : Int) ([]) ([]) (0 : Int)) none) (
csstok_first.c20 k a1 (0 : Int) ([]) ([]) (0 : Int))) (
cond (decide (0 ≤ (0 : Int) ∧ (0 : Int) < (a1.length : Int))) (
let v12 : Int := ((a1.getD (0 : Int).toNat 0).toNat : Int)
let v13 : Bool := (cond (v12 == (39 : Int)) true (v12 == (34 : Int)))
cond v13 (
(csstok_text k a1).bind fun r14 =>
some (r14.1, r14.2.1, r14.2.2.1, r14.2.2.2)) (
let v15 : Bool := (decide ((a1.length : Int) > (1 : Int)))
let v16 : Bool := (cond (v12 == (35 : Int)) v15 false)
cond ((decide (0 ≤ (1 : Int) ∧ (1 : Int) < (a1.length : Int))) || !v16) (
let v17 : Int := ((a1.getD (1 : Int).toNat 0).toNat : Int)
(cond v16 (csstok_sign k v17) (some false)).bind fun r18 =>
cond ((decide (0 ≤ (1 : Int) ∧ (1 : Int) ≤ (a1.length : Int))) || !(v16 && (!r18))) (
(cond (v16 && (!r18)) (csstok_escape k (a1.drop (1 : Int).toNat)) (some false)).bind fun r19 =>
let v20 : Bool := (cond v16 (cond r18 true r19) false)
cond v20 (
(csstok_named k (4 : Int) a1 (1 : Int)).bind fun r21 =>
some (r21.1, r21.2.1, r21.2.2.1, r21.2.2.2)) (
cond ((decide (0 ≤ (1 : Int) ∧ (1 : Int) ≤ (a1.length : Int))) || !(v12 == (64 : Int))) (
(cond (v12 == (64 : Int)) (csstok_begins k (a1.drop (1 : Int).toNat)) (some false)).bind fun r22 =>
let v23 : Bool := (cond (v12 == (64 : Int)) r22 false)
cond v23 (
(csstok_named k (3 : Int) a1 (1 : Int)).bind fun r24 =>
some (r24.1, r24.2.1, r24.2.2.1, r24.2.2.2)) (
(csstok_Number k a1).bind fun r25 =>
cond (decide (r25.2 > (0 : Int))) (
(csstok_number k a1 r25.1 r25.2).bind fun r26 =>
some (r26.1, r26.2.1, r26.2.2.1, r26.2.2.2)) (
(csstok_begins k a1).bind fun r27 =>
cond r27 (
(csstok_named k (1 : Int) a1 (0 : Int)).bind fun r28 =>
cond (decide (0 ≤ (r28.2.1.length : Int) ∧ (r28.2.1.length : Int) ≤ (a1.length : Int))) (
let v29 : List UInt8 := (a1.drop (r28.2.1.length : Int).toNat)
(strings_HasPrefix k v29 ([40] : List UInt8)).bind fun r30 =>
cond r30 (
let v31 : Int := (IntKind.wrap .i64 ((r28.2.1.length : Int) + (1 : Int)))
cond (decide (0 ≤ v31 ∧ v31 ≤ (a1.length : Int))) (
csstok_first.c52 k (0 : Int) ([]) ([]) (0 : Int) (2 : Int) (a1.take v31.toNat) r28.2.2.1 r28.2.2.2) none) (
csstok_first.c52 k (0 : Int) ([]) ([]) (0 : Int) r28.1 r28.2.1 r28.2.2.1 r28.2.2.2)) none) (
cond (decide (0 ≤ (0 : Int) ∧ (0 : Int) < (a1.length : Int))) (
let v40 : Int := ((a1.getD (0 : Int).toNat 0).toNat : Int)
cond (v40 == (40 : Int)) (
cond (v40 == (40 : Int)) (
(csstok_first_1 k (10 : Int) a1).bind fun r41 =>
some (r41.1, r41.2.1, r41.2.2.1, r41.2.2.2.1)) (
cond (v40 == (41 : Int)) (
cond (v40 == (41 : Int)) (
(csstok_first_1 k (11 : Int) a1).bind fun r42 =>
some (r42.1, r42.2.1, r42.2.2.1, r42.2.2.2.1)) (
cond (v40 == (92 : Int)) (
(csstok_first_1 k (6 : Int) a1).bind fun r43 =>
some (r43.1, r43.2.1, r43.2.2.1, r43.2.2.2.1)) (
csstok_first.c76 k (0 : Int) ([]) ([]) (0 : Int) a1))) (
cond (v40 == (93 : Int)) (
cond (v40 == (93 : Int)) (
(csstok_first_1 k (11 : Int) a1).bind fun r50 =>
some (r50.1, r50.2.1, r50.2.2.1, r50.2.2.2.1)) (
cond (v40 == (92 : Int)) (
(csstok_first_1 k (6 : Int) a1).bind fun r51 =>
some (r51.1, r51.2.1, r51.2.2.1, r51.2.2.2.1)) (
csstok_first.c76 k (0 : Int) ([]) ([]) (0 : Int) a1))) (
cond (v40 == (125 : Int)) (
(csstok_first_1 k (11 : Int) a1).bind fun r52 =>
some (r52.1, r52.2.1, r52.2.2.1, r52.2.2.2.1)) (
cond (v40 == (92 : Int)) (
(csstok_first_1 k (6 : Int) a1).bind fun r53 =>
some (r53.1, r53.2.1, r53.2.2.1, r53.2.2.2.1)) (
csstok_first.c76 k (0 : Int) ([]) ([]) (0 : Int) a1)))))) (
cond (v40 == (91 : Int)) (
cond (v40 == (91 : Int)) (
(csstok_first_1 k (10 : Int) a1).bind fun r54 =>
some (r54.1, r54.2.1, r54.2.2.1, r54.2.2.2.1)) (
cond (v40 == (41 : Int)) (
cond (v40 == (41 : Int)) (
(csstok_first_1 k (11 : Int) a1).bind fun r55 =>
some (r55.1, r55.2.1, r55.2.2.1, r55.2.2.2.1)) (
cond (v40 == (92 : Int)) (
(csstok_first_1 k (6 : Int) a1).bind fun r56 =>
some (r56.1, r56.2.1, r56.2.2.1, r56.2.2.2.1)) (
csstok_first.c76 k (0 : Int) ([]) ([]) (0 : Int) a1))) (
cond (v40 == (93 : Int)) (
cond (v40 == (93 : Int)) (
(csstok_first_1 k (11 : Int) a1).bind fun r57 =>
some (r57.1, r57.2.1, r57.2.2.1, r57.2.2.2.1)) (
cond (v40 == (92 : Int)) (
(csstok_first_1 k (6 : Int) a1).bind fun r58 =>
some (r58.1, r58.2.1, r58.2.2.1, r58.2.2.2.1)) (
csstok_first.c76 k (0 : Int) ([]) ([]) (0 : Int) a1))) (
cond (v40 == (125 : Int)) (
(csstok_first_1 k (11 : Int) a1).bind fun r59 =>
some (r59.1, r59.2.1, r59.2.2.1, r59.2.2.2.1)) (
cond (v40 == (92 : Int)) (
(csstok_first_1 k (6 : Int) a1).bind fun r60 =>
some (r60.1, r60.2.1, r60.2.2.1, r60.2.2.2.1)) (
csstok_first.c76 k (0 : Int) ([]) ([]) (0 : Int) a1)))))) (
cond (v40 == (123 : Int)) (
(csstok_first_1 k (10 : Int) a1).bind fun r61 =>
some (r61.1, r61.2.1, r61.2.2.1, r61.2.2.2.1)) (
cond (v40 == (41 : Int)) (
cond (v40 == (41 : Int)) (
(csstok_first_1 k (11 : Int) a1).bind fun r62 =>
some (r62.1, r62.2.1, r62.2.2.1, r62.2.2.2.1)) (
cond (v40 == (92 : Int)) (
(csstok_first_1 k (6 : Int) a1).bind fun r63 =>
some (r63.1, r63.2.1, r63.2.2.1, r63.2.2.2.1)) (
csstok_first.c76 k (0 : Int) ([]) ([]) (0 : Int) a1))) (
cond (v40 == (93 : Int)) (
cond (v40 == (93 : Int)) (
(csstok_first_1 k (11 : Int) a1).bind fun r64 =>
some (r64.1, r64.2.1, r64.2.2.1, r64.2.2.2.1)) (
cond (v40 == (92 : Int)) (
(csstok_first_1 k (6 : Int) a1).bind fun r65 =>
some (r65.1, r65.2.1, r65.2.2.1, r65.2.2.2.1)) (
csstok_first.c76 k (0 : Int) ([]) ([]) (0 : Int) a1))) (
cond (v40 == (125 : Int)) (
(csstok_first_1 k (11 : Int) a1).bind fun r66 =>
some (r66.1, r66.2.1, r66.2.2.1, r66.2.2.2.1)) (
cond (v40 == (92 : Int)) (
(csstok_first_1 k (6 : Int) a1).bind fun r67 =>
some (r67.1, r67.2.1, r67.2.2.1, r67.2.2.2.1)) (
csstok_first.c76 k (0 : Int) ([]) ([]) (0 : Int) a1)))))))) none)))) none)) none) none)) none))
def csstok_first.kr (w0 : World) (k : Nat) : Kr T (Int × (List UInt8) × (List UInt8) × Int) := (kret (retK (cfg w0 (tab22 k)) Tryz.f34.results.toList 0 [] io9.pat))
def csstok_first.x20 : Ex → Option (List Nat × List Sp)
  | _ => none
def csstok_first.L20 (k : Nat) (v : (List UInt8) × Int × (List UInt8) × (List UInt8) × Int) (K : Ex → St T → Option (Int × (List UInt8) × (List UInt8) × Int)) : Option (Int × (List UInt8) × (List UInt8) × Int) := csstok_first.c20 k v.1 v.2.1 v.2.2.1 v.2.2.2.1 v.2.2.2.2
def csstok_first.x52 : Ex → Option (List Nat × List Sp)
  | _ => none
def csstok_first.L52 (k : Nat) (v : Int × (List UInt8) × (List UInt8) × Int × Int × (List UInt8) × (List UInt8) × Int) (K : Ex → St T → Option (Int × (List UInt8) × (List UInt8) × Int)) : Option (Int × (List UInt8) × (List UInt8) × Int) := csstok_first.c52 k v.1 v.2.1 v.2.2.1 v.2.2.2.1 v.2.2.2.2.1 v.2.2.2.2.2.1 v.2.2.2.2.2.2.1 v.2.2.2.2.2.2.2
def csstok_first.x76 : Ex → Option (List Nat × List Sp)
  | _ => none
def csstok_first.L76 (k : Nat) (v : Int × (List UInt8) × (List UInt8) × Int × (List UInt8)) (K : Ex → St T → Option (Int × (List UInt8) × (List UInt8) × Int)) : Option (Int × (List UInt8) × (List UInt8) × Int) := csstok_first.c76 k v.1 v.2.1 v.2.2.1 v.2.2.2.1 v.2.2.2.2
def csstok_first.cuts (w0 : World) (k : Nat) : Cuts T (Int × (List UInt8) × (List UInt8) × Int) := fun n => bif n.beq 20 then some (entK (cfg w0 (tab22 k)) 0 [1, 2] [] io33.pat (csstok_first.L20 k)) else bif n.beq 52 then some (entK (cfg w0 (tab22 k)) 0 [2, 11] [] io30.pat (csstok_first.L52 k)) else bif n.beq 76 then some (entK (cfg w0 (tab22 k)) 0 [2, 3] [] io34.pat (csstok_first.L76 k)) else none
def csstok_first.body : Code := bodyOf Tryz.f34
def csstok_first.b20 : Code := findD 20 csstok_first.body
theorem csstok_first.s20 (w0 : World) (k : Nat) : ∀ v K, csstok_first.L20 k v K = runK (cfg w0 (tab22 k)) Tryz.f34.ntmps (csstok_first.kr w0 k) (annot (csstok_first.cuts w0 k) csstok_first.b20) (mkSt [1, 2] (io33.enc v)) (outK (cfg w0 (tab22 k)) 0 csstok_first.x20 K) := by
  intro v K; kernel_rfl
def csstok_first.b52 : Code := findD 52 csstok_first.body
theorem csstok_first.s52 (w0 : World) (k : Nat) : ∀ v K, csstok_first.L52 k v K = runK (cfg w0 (tab22 k)) Tryz.f34.ntmps (csstok_first.kr w0 k) (annot (csstok_first.cuts w0 k) csstok_first.b52) (mkSt [2, 11] (io30.enc v)) (outK (cfg w0 (tab22 k)) 0 csstok_first.x52 K) := by
  intro v K; kernel_rfl
def csstok_first.b76 : Code := findD 76 csstok_first.body
theorem csstok_first.s76 (w0 : World) (k : Nat) : ∀ v K, csstok_first.L76 k v K = runK (cfg w0 (tab22 k)) Tryz.f34.ntmps (csstok_first.kr w0 k) (annot (csstok_first.cuts w0 k) csstok_first.b76) (mkSt [2, 3] (io34.enc v)) (outK (cfg w0 (tab22 k)) 0 csstok_first.x76 K) := by
  intro v K; kernel_rfl
theorem csstok_first.e (w0 : World) (k : Nat) : ∀ v, (fun v => csstok_first k v) v = runK (cfg w0 (tab22 k)) Tryz.f34.ntmps (csstok_first.kr w0 k) (annot (csstok_first.cuts w0 k) csstok_first.body) (entry (io1.enc v).1 (io1.enc v).2) (endK (csstok_first.kr w0 k)) := by
  intro v; kernel_rfl
theorem csstok_first.hb : Tryz.f34.body = some csstok_first.body := by kernel_rfl
def tab23 (k : Nat) : Tab T := addTab 34 (line io1 io9 ((0 : Int), [], [], (0 : Int)) (fun v => csstok_first k v)) (tab22 k)
def csstok_Cut.c5 (k : Nat) : Nat → (List UInt8) → (List S79) → ((List S79) → Option (List S79)) → Option (List S79)
  | 0, _, _, _ => none
  | n + 1, x2, x3, k0 =>
    cond (!(x2 == ([] : List UInt8))) (
    (csstok_first k x2).bind fun r4 =>
    let v5 : List S79 := [(⟨r4.1, r4.2.1, r4.2.2.1, r4.2.2.2⟩ : S79)]
    cond (decide ((x3 ++ v5).length < most)) (
    cond (decide (0 ≤ (r4.2.1.length : Int) ∧ (r4.2.1.length : Int) ≤ (x2.length : Int))) (
    let v6 : List UInt8 := (x2.drop (r4.2.1.length : Int).toNat)
    csstok_Cut.c5 k n v6 (x3 ++ v5) k0) none) none) (
    k0 x3)
def csstok_Cut (k : Nat) (a1 : List UInt8) : Option (List S79) :=
csstok_Cut.c5 k k a1 ([] : List S79) (fun (y7 : List S79) =>
some y7)
def csstok_Cut.kr (w0 : World) (k : Nat) : Kr T (List S79) := (kret (retK (cfg w0 (tab23 k)) Tryz.f23.results.toList 0 [.frz 0 79] io35.pat))
def csstok_Cut.x5 : Ex → Option (List Nat × List Sp)
  | .exit 0 => some ([3], [.own 3 79])
  | _ => none
def csstok_Cut.L5 (k : Nat) (n : Nat) (v : (List UInt8) × (List S79)) (K : Ex → St T → Option (List S79)) : Option (List S79) := csstok_Cut.c5 k n v.1 v.2 (fun y212 => K (.exit 0) (mkSt [3] (io37.enc y212)))
def csstok_Cut.cuts (w0 : World) (k : Nat) : Cuts T (List S79) := fun n => bif n.beq 5 then some (entK (cfg w0 (tab23 k)) 0 [0, 3] [.own 3 79] io36.pat (csstok_Cut.L5 k k)) else none
def csstok_Cut.body : Code := bodyOf Tryz.f23
def csstok_Cut.b5 : Code := findD 5 csstok_Cut.body
theorem csstok_Cut.s5 (w0 : World) (k : Nat) : ∀ n v K, csstok_Cut.L5 k (n + 1) v K = runK (cfg w0 (tab23 k)) Tryz.f23.ntmps (csstok_Cut.kr w0 k) (annot (csstok_Cut.cuts w0 k) csstok_Cut.b5) (mkSt [0, 3] (io36.enc v)) (loopK (cfg w0 (tab23 k)) 0 csstok_Cut.x5 (entK (cfg w0 (tab23 k)) 0 [0, 3] [.own 3 79] io36.pat (csstok_Cut.L5 k n)) K) := by
  intro n v K; kernel_rfl
theorem csstok_Cut.e (w0 : World) (k : Nat) : ∀ v, (fun v => csstok_Cut k v) v = runK (cfg w0 (tab23 k)) Tryz.f23.ntmps (csstok_Cut.kr w0 k) (annot (csstok_Cut.cuts w0 k) csstok_Cut.body) (entry (io1.enc v).1 (io1.enc v).2) (endK (csstok_Cut.kr w0 k)) := by
  intro v; kernel_rfl
theorem csstok_Cut.hb : Tryz.f23.body = some csstok_Cut.body := by kernel_rfl
def tab24 (k : Nat) : Tab T := addTab 23 (line io1 io35 [] (fun v => csstok_Cut k v)) (tab23 k)
def selector_reader__peek (k : Nat) (a1 : List S79) : Option (Int × (List UInt8) × (List UInt8) × Int × (List S79)) :=
let v2 : Bool := ((a1.length : Int) == (0 : Int))
cond v2 (
some ((0 : Int), [], [], (0 : Int), a1)) (
cond (decide (0 ≤ (0 : Int) ∧ (0 : Int) < (a1.length : Int))) (
let v3 : Int := (a1.getD ((0 : Int).toNat) S79.d).Kind
let v4 : List UInt8 := (a1.getD ((0 : Int).toNat) S79.d).Raw
let v5 : List UInt8 := (a1.getD ((0 : Int).toNat) S79.d).Value
let v6 : Int := (a1.getD ((0 : Int).toNat) S79.d).Num
some (v3, v4, v5, v6, a1)) none)
def selector_reader__peek.kr (w0 : World) (k : Nat) : Kr T (Int × (List UInt8) × (List UInt8) × Int × (List S79)) := (kret (retK (cfg w0 (tab24 k)) Tryz.f68.results.toList 1 [] io39.pat))
def selector_reader__peek.cuts (w0 : World) (k : Nat) : Cuts T (Int × (List UInt8) × (List UInt8) × Int × (List S79)) := fun n => none
def selector_reader__peek.body : Code := bodyOf Tryz.f68
theorem selector_reader__peek.e (w0 : World) (k : Nat) : ∀ v, (fun v => selector_reader__peek k v) v = runK (cfg w0 (tab24 k)) Tryz.f68.ntmps (selector_reader__peek.kr w0 k) (annot (selector_reader__peek.cuts w0 k) selector_reader__peek.body) (entry (io38.enc v).1 (io38.enc v).2) (endK (selector_reader__peek.kr w0 k)) := by
  intro v; kernel_rfl
theorem selector_reader__peek.hb : Tryz.f68.body = some selector_reader__peek.body := by kernel_rfl
def tab25 (k : Nat) : Tab T := addTab 68 (line io38 io39 ((0 : Int), [], [], (0 : Int), []) (fun v => selector_reader__peek k v)) (tab24 k)
def selector_reader__gap.c7 (k : Nat) : Nat → Int → (List S79) → Int → (List UInt8) → (List UInt8) → Int → (Int → (List S79) → Option (Bool × (List S79))) → Option (Bool × (List S79))
  | 0, _, _, _, _, _, _, _ => none
  | n + 1, x3, x4, x5, x6, x7, x8, k0 =>
    let v9 : Bool := (cond (x5 == (8 : Int)) true (x5 == (9 : Int)))
    cond v9 (
    cond (decide (0 ≤ (1 : Int) ∧ (1 : Int) ≤ (x4.length : Int))) (
    (selector_reader__peek k (x4.drop (1 : Int).toNat)).bind fun r10 =>
    selector_reader__gap.c7 k n x3 r10.2.2.2.2 r10.1 r10.2.1 r10.2.2.1 r10.2.2.2.1 k0) none) (
    k0 x3 x4)
def selector_reader__gap (k : Nat) (a1 : List S79) : Option (Bool × (List S79)) :=
(selector_reader__peek k a1).bind fun r2 =>
selector_reader__gap.c7 k k (a1.length : Int) r2.2.2.2.2 r2.1 r2.2.1 r2.2.2.1 r2.2.2.2.1 (fun (y11 : Int) (y12 : List S79) =>
let v13 : Bool := (decide ((y12.length : Int) < y11))
some (v13, y12))
def selector_reader__gap.kr (w0 : World) (k : Nat) : Kr T (Bool × (List S79)) := (kret (retK (cfg w0 (tab25 k)) Tryz.f35.results.toList 1 [] io40.pat))
def selector_reader__gap.x7 : Ex → Option (List Nat × List Sp)
  | .exit 0 => some ([0, 3], [])
  | _ => none
def selector_reader__gap.L7 (k : Nat) (n : Nat) (v : Int × (List S79) × Int × (List UInt8) × (List UInt8) × Int) (K : Ex → St T → Option (Bool × (List S79))) : Option (Bool × (List S79)) := selector_reader__gap.c7 k n v.1 v.2.1 v.2.2.1 v.2.2.2.1 v.2.2.2.2.1 v.2.2.2.2.2 (fun y213 y214 => K (.exit 0) (mkSt [0, 3] (io42.enc (y213, y214))))
def selector_reader__gap.cuts (w0 : World) (k : Nat) : Cuts T (Bool × (List S79)) := fun n => bif n.beq 7 then some (entK (cfg w0 (tab25 k)) 1 [0, 3, 4] [] io41.pat (selector_reader__gap.L7 k k)) else none
def selector_reader__gap.body : Code := bodyOf Tryz.f35
def selector_reader__gap.b7 : Code := findD 7 selector_reader__gap.body
theorem selector_reader__gap.s7 (w0 : World) (k : Nat) : ∀ n v K, selector_reader__gap.L7 k (n + 1) v K = runK (cfg w0 (tab25 k)) Tryz.f35.ntmps (selector_reader__gap.kr w0 k) (annot (selector_reader__gap.cuts w0 k) selector_reader__gap.b7) (mkSt [0, 3, 4] (io41.enc v)) (loopK (cfg w0 (tab25 k)) 1 selector_reader__gap.x7 (entK (cfg w0 (tab25 k)) 1 [0, 3, 4] [] io41.pat (selector_reader__gap.L7 k n)) K) := by
  intro n v K; kernel_rfl
theorem selector_reader__gap.e (w0 : World) (k : Nat) : ∀ v, (fun v => selector_reader__gap k v) v = runK (cfg w0 (tab25 k)) Tryz.f35.ntmps (selector_reader__gap.kr w0 k) (annot (selector_reader__gap.cuts w0 k) selector_reader__gap.body) (entry (io38.enc v).1 (io38.enc v).2) (endK (selector_reader__gap.kr w0 k)) := by
  intro v; kernel_rfl
theorem selector_reader__gap.hb : Tryz.f35.body = some selector_reader__gap.body := by kernel_rfl
def tab26 (k : Nat) : Tab T := addTab 35 (line io38 io40 (false, []) (fun v => selector_reader__gap k v)) (tab25 k)
def selector_reader__next.c8 (k : Nat) (x3 : List S79) (x4 : Int) (x5 : List UInt8) (x6 : List UInt8) (x7 : Int) (x8 : Int) (x9 : List UInt8) (x10 : List UInt8) (x11 : Int)  : Option (Bool × Unit × (Int × (List UInt8) × (List UInt8) × Int × (List S79))) :=
cond (decide (0 ≤ (1 : Int) ∧ (1 : Int) ≤ (x3.length : Int))) (
some (false, (), (x8, x9, x10, x11, (x3.drop (1 : Int).toNat)))) none
def selector_reader__next (k : Nat) (a1 : List S79) : Option (Bool × Unit × (Int × (List UInt8) × (List UInt8) × Int × (List S79))) :=
(selector_reader__peek k a1).bind fun r2 =>
cond (r2.1 == (0 : Int)) (
some (true, (), ((0 : Int), [], [], (0 : Int), []))) (
selector_reader__next.c8 k r2.2.2.2.2 (0 : Int) ([]) ([]) (0 : Int) r2.1 r2.2.1 r2.2.2.1 r2.2.2.2.1)
def selector_reader__next.kr (w0 : World) (k : Nat) : Kr T (Bool × Unit × (Int × (List UInt8) × (List UInt8) × Int × (List S79))) := (kpan (retK (cfg w0 (tab26 k)) Tryz.f70.results.toList 1 [] io39.pat) pp59 () ((0 : Int), [], [], (0 : Int), []))
def selector_reader__next.x8 : Ex → Option (List Nat × List Sp)
  | _ => none
def selector_reader__next.L8 (k : Nat) (v : (List S79) × Int × (List UInt8) × (List UInt8) × Int × Int × (List UInt8) × (List UInt8) × Int) (K : Ex → St T → Option (Bool × Unit × (Int × (List UInt8) × (List UInt8) × Int × (List S79)))) : Option (Bool × Unit × (Int × (List UInt8) × (List UInt8) × Int × (List S79))) := selector_reader__next.c8 k v.1 v.2.1 v.2.2.1 v.2.2.2.1 v.2.2.2.2.1 v.2.2.2.2.2.1 v.2.2.2.2.2.2.1 v.2.2.2.2.2.2.2.1 v.2.2.2.2.2.2.2.2
def selector_reader__next.cuts (w0 : World) (k : Nat) : Cuts T (Bool × Unit × (Int × (List UInt8) × (List UInt8) × Int × (List S79))) := fun n => bif n.beq 8 then some (entK (cfg w0 (tab26 k)) 1 [0, 2, 3] [] io43.pat (selector_reader__next.L8 k)) else none
def selector_reader__next.body : Code := bodyOf Tryz.f70
def selector_reader__next.b8 : Code := findD 8 selector_reader__next.body
theorem selector_reader__next.s8 (w0 : World) (k : Nat) : ∀ v K, selector_reader__next.L8 k v K = runK (cfg w0 (tab26 k)) Tryz.f70.ntmps (selector_reader__next.kr w0 k) (annot (selector_reader__next.cuts w0 k) selector_reader__next.b8) (mkSt [0, 2, 3] (io43.enc v)) (outK (cfg w0 (tab26 k)) 1 selector_reader__next.x8 K) := by
  intro v K; kernel_rfl
theorem selector_reader__next.e (w0 : World) (k : Nat) : ∀ v, (fun v => selector_reader__next k v) v = runK (cfg w0 (tab26 k)) Tryz.f70.ntmps (selector_reader__next.kr w0 k) (annot (selector_reader__next.cuts w0 k) selector_reader__next.body) (entry (io38.enc v).1 (io38.enc v).2) (endK (selector_reader__next.kr w0 k)) := by
  intro v; kernel_rfl
theorem selector_reader__next.hb : Tryz.f70.body = some selector_reader__next.body := by kernel_rfl
def tab27 (k : Nat) : Tab T := addTab 70 (lineP io38 io39 pe59 () ((0 : Int), [], [], (0 : Int), []) (fun v => selector_reader__next k v)) (tab26 k)
def selector_name (k : Nat) (a1 : List UInt8) : Option (Bool) :=
(csstok_Cut k a1).bind fun r2 =>
let v3 : Bool := ((r2.length : Int) == (1 : Int))
cond ((decide (0 ≤ (0 : Int) ∧ (0 : Int) < (r2.length : Int))) || !v3) (
let v4 : Int := (r2.getD ((0 : Int).toNat) S79.d).Kind
let v5 : Bool := (cond v3 (v4 == (1 : Int)) false)
cond ((decide (0 ≤ (0 : Int) ∧ (0 : Int) < (r2.length : Int))) || !v5) (
let v6 : List UInt8 := (r2.getD ((0 : Int).toNat) S79.d).Raw
cond ((decide (0 ≤ (0 : Int) ∧ (0 : Int) < (r2.length : Int))) || !(cond v5 (v6 == a1) false)) (
let v7 : List UInt8 := (r2.getD ((0 : Int).toNat) S79.d).Value
let v8 : Bool := (cond (cond v5 (v6 == a1) false) (v7 == a1) false)
some v8) none) none) none
def selector_name.kr (w0 : World) (k : Nat) : Kr T (Bool) := (kret (retK (cfg w0 (tab27 k)) Tryz.f104.results.toList 0 [] io2.pat))
def selector_name.cuts (w0 : World) (k : Nat) : Cuts T (Bool) := fun n => none
def selector_name.body : Code := bodyOf Tryz.f104
theorem selector_name.e (w0 : World) (k : Nat) : ∀ v, (fun v => selector_name k v) v = runK (cfg w0 (tab27 k)) Tryz.f104.ntmps (selector_name.kr w0 k) (annot (selector_name.cuts w0 k) selector_name.body) (entry (io1.enc v).1 (io1.enc v).2) (endK (selector_name.kr w0 k)) := by
  intro v; kernel_rfl
theorem selector_name.hb : Tryz.f104.body = some selector_name.body := by kernel_rfl
def tab28 (k : Nat) : Tab T := addTab 104 (line io1 io2 false (fun v => selector_name k v)) (tab27 k)
def selector_reader__need (k : Nat) (a1 : Bool) (a2 : List S79) : Option (Bool × Unit × (List S79)) :=
cond (!a1) (
some (true, (), [])) (
some (false, (), a2))
def selector_reader__need.kr (w0 : World) (k : Nat) : Kr T (Bool × Unit × (List S79)) := (kpan (retK (cfg w0 (tab28 k)) Tryz.f38.results.toList 1 [] io45.pat) pp59 () [])
def selector_reader__need.cuts (w0 : World) (k : Nat) : Cuts T (Bool × Unit × (List S79)) := fun n => none
def selector_reader__need.body : Code := bodyOf Tryz.f38
theorem selector_reader__need.e (w0 : World) (k : Nat) : ∀ v, (fun v => selector_reader__need k v.1 v.2) v = runK (cfg w0 (tab28 k)) Tryz.f38.ntmps (selector_reader__need.kr w0 k) (annot (selector_reader__need.cuts w0 k) selector_reader__need.body) (entry (io44.enc v).1 (io44.enc v).2) (endK (selector_reader__need.kr w0 k)) := by
  intro v; kernel_rfl
theorem selector_reader__need.hb : Tryz.f38.body = some selector_reader__need.body := by kernel_rfl
def tab29 (k : Nat) : Tab T := addTab 38 (lineP io44 io45 pe59 () [] (fun v => selector_reader__need k v.1 v.2)) (tab28 k)
def selector_reader__word (k : Nat) (a1 : Int) (a2 : List UInt8) (a3 : List UInt8) (a4 : Int) (a5 : Int) (a6 : List UInt8) (a7 : List S79) : Option (Bool × Unit × ((List UInt8) × (List S79))) :=
cond ((Nat.ble (a6.length + a3.length) 9223372036854775807) || !(a1 == a5)) (
let v8 : Bool := (cond (a1 == a5) (a2 == (a6 ++ a3)) false)
(cond v8 (selector_name k a3) (some false)).bind fun r9 =>
(selector_reader__need k (cond v8 r9 false) a7).bind fun r10 =>
cond r10.1 (
some (true, (), ([], []))) (
some (false, (), (a3, r10.2.2)))) none
def selector_reader__word.kr (w0 : World) (k : Nat) : Kr T (Bool × Unit × ((List UInt8) × (List S79))) := (kpan (retK (cfg w0 (tab29 k)) Tryz.f141.results.toList 1 [] io47.pat) pp59 () ([], []))
def selector_reader__word.cuts (w0 : World) (k : Nat) : Cuts T (Bool × Unit × ((List UInt8) × (List S79))) := fun n => none
def selector_reader__word.body : Code := bodyOf Tryz.f141
theorem selector_reader__word.e (w0 : World) (k : Nat) : ∀ v, (fun v => selector_reader__word k v.1 v.2.1 v.2.2.1 v.2.2.2.1 v.2.2.2.2.1 v.2.2.2.2.2.1 v.2.2.2.2.2.2) v = runK (cfg w0 (tab29 k)) Tryz.f141.ntmps (selector_reader__word.kr w0 k) (annot (selector_reader__word.cuts w0 k) selector_reader__word.body) (entry (io46.enc v).1 (io46.enc v).2) (endK (selector_reader__word.kr w0 k)) := by
  intro v; kernel_rfl
theorem selector_reader__word.hb : Tryz.f141.body = some selector_reader__word.body := by kernel_rfl
def tab30 (k : Nat) : Tab T := addTab 141 (lineP io46 io47 pe59 () ([], []) (fun v => selector_reader__word k v.1 v.2.1 v.2.2.1 v.2.2.2.1 v.2.2.2.2.1 v.2.2.2.2.2.1 v.2.2.2.2.2.2)) (tab29 k)
def selector_lower.c7 (k : Nat) : Nat → Int → Int → (List Int) → ((List Int) → Option (List UInt8)) → Option (List UInt8)
  | 0, _, _, _, _ => none
  | n + 1, x2, x3, x4, k0 =>
    cond (decide (x3 < x2)) (
    cond (decide (0 ≤ x3 ∧ x3 < (x4.length : Int))) (
    let v5 : Bool := (decide ((x4.getD x3.toNat (0 : Int)) ≥ (65 : Int)))
    let v6 : Bool := (decide ((x4.getD x3.toNat (0 : Int)) ≤ (90 : Int)))
    cond (cond v5 v6 false) (
    let v7 : Int := (IntKind.wrap .u8 ((x4.getD x3.toNat (0 : Int)) + (32 : Int)))
    cond (decide (0 ≤ x3 ∧ x3 < (x4.length : Int))) (
    let v8 : Int := (IntKind.wrap .i64 (x3 + (1 : Int)))
    selector_lower.c7 k n x2 v8 (x4.set x3.toNat v7) k0) none) (
    let v9 : Int := (IntKind.wrap .i64 (x3 + (1 : Int)))
    selector_lower.c7 k n x2 v9 x4 k0)) none) (
    k0 x4)
def selector_lower (k : Nat) (a1 : List UInt8) : Option (List UInt8) :=
selector_lower.c7 k k ((bytesI a1).length : Int) (0 : Int) (bytesI a1) (fun (y10 : List Int) =>
some (bytesU y10))
def selector_lower.kr (w0 : World) (k : Nat) : Kr T (List UInt8) := (kret (retK (cfg w0 (tab30 k)) Tryz.f105.results.toList 0 [] io1.pat))
def selector_lower.x7 : Ex → Option (List Nat × List Sp)
  | .exit 0 => some ([3], [])
  | _ => none
def selector_lower.L7 (k : Nat) (n : Nat) (v : Int × Int × (List Int)) (K : Ex → St T → Option (List UInt8)) : Option (List UInt8) := selector_lower.c7 k n v.1 v.2.1 v.2.2 (fun y215 => K (.exit 0) (mkSt [3] (io28.enc y215)))
def selector_lower.cuts (w0 : World) (k : Nat) : Cuts T (List UInt8) := fun n => bif n.beq 7 then some (entK (cfg w0 (tab30 k)) 0 [3, 8, 9, 10] [] io27.pat (selector_lower.L7 k k)) else none
def selector_lower.body : Code := bodyOf Tryz.f105
def selector_lower.b7 : Code := findD 7 selector_lower.body
theorem selector_lower.s7 (w0 : World) (k : Nat) : ∀ n v K, selector_lower.L7 k (n + 1) v K = runK (cfg w0 (tab30 k)) Tryz.f105.ntmps (selector_lower.kr w0 k) (annot (selector_lower.cuts w0 k) selector_lower.b7) (mkSt [3, 8, 9, 10] (io27.enc v)) (loopK (cfg w0 (tab30 k)) 0 selector_lower.x7 (entK (cfg w0 (tab30 k)) 0 [3, 8, 9, 10] [] io27.pat (selector_lower.L7 k n)) K) := by
  intro n v K; kernel_rfl
theorem selector_lower.e (w0 : World) (k : Nat) : ∀ v, (fun v => selector_lower k v) v = runK (cfg w0 (tab30 k)) Tryz.f105.ntmps (selector_lower.kr w0 k) (annot (selector_lower.cuts w0 k) selector_lower.body) (entry (io1.enc v).1 (io1.enc v).2) (endK (selector_lower.kr w0 k)) := by
  intro v; kernel_rfl
theorem selector_lower.hb : Tryz.f105.body = some selector_lower.body := by kernel_rfl
def tab31 (k : Nat) : Tab T := addTab 105 (line io1 io1 [] (fun v => selector_lower k v)) (tab30 k)
def selector_reader__raw (k : Nat) (a1 : List UInt8) (a2 : List S79) : Option (Bool × (List S79)) :=
(selector_reader__peek k a2).bind fun r3 =>
cond (!(r3.2.1 == a1)) (
some (false, r3.2.2.2.2)) (
cond (decide (0 ≤ (1 : Int) ∧ (1 : Int) ≤ (r3.2.2.2.2.length : Int))) (
let v4 : List S79 := (r3.2.2.2.2.drop (1 : Int).toNat)
some (true, v4)) none)
def selector_reader__raw.kr (w0 : World) (k : Nat) : Kr T (Bool × (List S79)) := (kret (retK (cfg w0 (tab31 k)) Tryz.f37.results.toList 1 [] io40.pat))
def selector_reader__raw.cuts (w0 : World) (k : Nat) : Cuts T (Bool × (List S79)) := fun n => none
def selector_reader__raw.body : Code := bodyOf Tryz.f37
theorem selector_reader__raw.e (w0 : World) (k : Nat) : ∀ v, (fun v => selector_reader__raw k v.1 v.2) v = runK (cfg w0 (tab31 k)) Tryz.f37.ntmps (selector_reader__raw.kr w0 k) (annot (selector_reader__raw.cuts w0 k) selector_reader__raw.body) (entry (io48.enc v).1 (io48.enc v).2) (endK (selector_reader__raw.kr w0 k)) := by
  intro v; kernel_rfl
theorem selector_reader__raw.hb : Tryz.f37.body = some selector_reader__raw.body := by kernel_rfl
def tab32 (k : Nat) : Tab T := addTab 37 (line io48 io40 (false, []) (fun v => selector_reader__raw k v.1 v.2)) (tab31 k)
def selector_reader__attr.c28 (k : Nat) (x26 : List S79) (x27 : Int) (x28 : List UInt8) (x29 : Int) (x30 : List UInt8) (x31 : Int) (x32 : Int) (x33 : Int) (x34 : List UInt8) (x35 : Int) (x36 : List UInt8) (x37 : Int) (x38 : Int)  : Option (Bool × Unit × (Int × (List UInt8) × Int × (List UInt8) × Int × Int × (List S79))) :=
(selector_reader__raw k ([93] : List UInt8) x26).bind fun r39 =>
(selector_reader__need k r39.1 r39.2).bind fun r40 =>
cond r40.1 (
some (true, (), ((0 : Int), [], (0 : Int), [], (0 : Int), (0 : Int), []))) (
some (false, (), (x33, x34, x35, x36, x37, x38, r40.2.2)))
def selector_reader__attr.c20 (k : Nat) (x11 : List S79) (x12 : Int) (x13 : List UInt8) (x14 : Int) (x15 : List UInt8) (x16 : Int) (x17 : Int) (x18 : Int) (x19 : List UInt8) (x20 : Int) (x21 : List UInt8) (x22 : Int) (x23 : Int)  : Option (Bool × Unit × (Int × (List UInt8) × Int × (List UInt8) × Int × Int × (List S79))) :=
(selector_reader__next k x11).bind fun r24 =>
cond r24.1 (
some (true, (), ((0 : Int), [], (0 : Int), [], (0 : Int), (0 : Int), []))) (
cond (r24.2.2.1 != (5 : Int)) (
(selector_reader__word k r24.2.2.1 r24.2.2.2.1 r24.2.2.2.2.1 r24.2.2.2.2.2.1 (1 : Int) ([] : List UInt8) r24.2.2.2.2.2.2).bind fun r25 =>
cond r25.1 (
some (true, (), ((0 : Int), [], (0 : Int), [], (0 : Int), (0 : Int), []))) (
selector_reader__attr.c28 k r25.2.2.2 x12 x13 x14 x15 x16 x17 x18 x19 x20 r25.2.2.1 x22 x23)) (
selector_reader__attr.c28 k r24.2.2.2.2.2.2 x12 x13 x14 x15 x16 x17 x18 x19 x20 r24.2.2.2.2.1 x22 x23))
def selector_reader__attr (k : Nat) (a1 : List S79) : Option (Bool × Unit × (Int × (List UInt8) × Int × (List UInt8) × Int × Int × (List S79))) :=
(selector_reader__next k a1).bind fun r2 =>
cond r2.1 (
some (true, (), ((0 : Int), [], (0 : Int), [], (0 : Int), (0 : Int), []))) (
(selector_reader__word k r2.2.2.1 r2.2.2.2.1 r2.2.2.2.2.1 r2.2.2.2.2.2.1 (1 : Int) ([] : List UInt8) r2.2.2.2.2.2.2).bind fun r3 =>
cond r3.1 (
some (true, (), ((0 : Int), [], (0 : Int), [], (0 : Int), (0 : Int), []))) (
(selector_lower k r3.2.2.1).bind fun r4 =>
(selector_reader__raw k ([93] : List UInt8) r3.2.2.2).bind fun r5 =>
cond r5.1 (
some (false, (), ((5 : Int), r4, (0 : Int), [], (0 : Int), (0 : Int), r5.2))) (
(selector_reader__next k r5.2).bind fun r6 =>
cond r6.1 (
some (true, (), ((0 : Int), [], (0 : Int), [], (0 : Int), (0 : Int), []))) (
(selector_reader__need k (r6.2.2.1 == (12 : Int)) r6.2.2.2.2.2.2).bind fun r7 =>
cond r7.1 (
some (true, (), ((0 : Int), [], (0 : Int), [], (0 : Int), (0 : Int), []))) (
cond (decide (0 ≤ (0 : Int) ∧ (0 : Int) < (r6.2.2.2.1.length : Int))) (
let v8 : Int := ((r6.2.2.2.1.getD (0 : Int).toNat 0).toNat : Int)
cond (v8 != (61 : Int)) (
(selector_reader__raw k ([61] : List UInt8) r7.2.2).bind fun r9 =>
(selector_reader__need k r9.1 r9.2).bind fun r10 =>
cond r10.1 (
some (true, (), ((0 : Int), [], (0 : Int), [], (0 : Int), (0 : Int), []))) (
selector_reader__attr.c20 k r10.2.2 (0 : Int) ([]) (0 : Int) ([]) (0 : Int) (0 : Int) (5 : Int) r4 v8 ([]) (0 : Int) (0 : Int))) (
selector_reader__attr.c20 k r7.2.2 (0 : Int) ([]) (0 : Int) ([]) (0 : Int) (0 : Int) (5 : Int) r4 v8 ([]) (0 : Int) (0 : Int))) none)))))
def selector_reader__attr.kr (w0 : World) (k : Nat) : Kr T (Bool × Unit × (Int × (List UInt8) × Int × (List UInt8) × Int × Int × (List S79))) := (kpan (retK (cfg w0 (tab32 k)) Tryz.f142.results.toList 1 [] io49.pat) pp59 () ((0 : Int), [], (0 : Int), [], (0 : Int), (0 : Int), []))
def selector_reader__attr.x28 : Ex → Option (List Nat × List Sp)
  | _ => none
def selector_reader__attr.L28 (k : Nat) (v : (List S79) × Int × (List UInt8) × Int × (List UInt8) × Int × Int × Int × (List UInt8) × Int × (List UInt8) × Int × Int) (K : Ex → St T → Option (Bool × Unit × (Int × (List UInt8) × Int × (List UInt8) × Int × Int × (List S79)))) : Option (Bool × Unit × (Int × (List UInt8) × Int × (List UInt8) × Int × Int × (List S79))) := selector_reader__attr.c28 k v.1 v.2.1 v.2.2.1 v.2.2.2.1 v.2.2.2.2.1 v.2.2.2.2.2.1 v.2.2.2.2.2.2.1 v.2.2.2.2.2.2.2.1 v.2.2.2.2.2.2.2.2.1 v.2.2.2.2.2.2.2.2.2.1 v.2.2.2.2.2.2.2.2.2.2.1 v.2.2.2.2.2.2.2.2.2.2.2.1 v.2.2.2.2.2.2.2.2.2.2.2.2
def selector_reader__attr.x20 : Ex → Option (List Nat × List Sp)
  | _ => none
def selector_reader__attr.L20 (k : Nat) (v : (List S79) × Int × (List UInt8) × Int × (List UInt8) × Int × Int × Int × (List UInt8) × Int × (List UInt8) × Int × Int) (K : Ex → St T → Option (Bool × Unit × (Int × (List UInt8) × Int × (List UInt8) × Int × Int × (List S79)))) : Option (Bool × Unit × (Int × (List UInt8) × Int × (List UInt8) × Int × Int × (List S79))) := selector_reader__attr.c20 k v.1 v.2.1 v.2.2.1 v.2.2.2.1 v.2.2.2.2.1 v.2.2.2.2.2.1 v.2.2.2.2.2.2.1 v.2.2.2.2.2.2.2.1 v.2.2.2.2.2.2.2.2.1 v.2.2.2.2.2.2.2.2.2.1 v.2.2.2.2.2.2.2.2.2.2.1 v.2.2.2.2.2.2.2.2.2.2.2.1 v.2.2.2.2.2.2.2.2.2.2.2.2
def selector_reader__attr.cuts (w0 : World) (k : Nat) : Cuts T (Bool × Unit × (Int × (List UInt8) × Int × (List UInt8) × Int × Int × (List S79))) := fun n => bif n.beq 28 then some (entK (cfg w0 (tab32 k)) 1 [0, 2, 4] [] io50.pat (selector_reader__attr.L28 k)) else bif n.beq 20 then some (entK (cfg w0 (tab32 k)) 1 [0, 2, 4] [] io50.pat (selector_reader__attr.L20 k)) else none
def selector_reader__attr.body : Code := bodyOf Tryz.f142
def selector_reader__attr.b28 : Code := findD 28 selector_reader__attr.body
theorem selector_reader__attr.s28 (w0 : World) (k : Nat) : ∀ v K, selector_reader__attr.L28 k v K = runK (cfg w0 (tab32 k)) Tryz.f142.ntmps (selector_reader__attr.kr w0 k) (annot (selector_reader__attr.cuts w0 k) selector_reader__attr.b28) (mkSt [0, 2, 4] (io50.enc v)) (outK (cfg w0 (tab32 k)) 1 selector_reader__attr.x28 K) := by
  intro v K; kernel_rfl
def selector_reader__attr.b20 : Code := findD 20 selector_reader__attr.body
theorem selector_reader__attr.s20 (w0 : World) (k : Nat) : ∀ v K, selector_reader__attr.L20 k v K = runK (cfg w0 (tab32 k)) Tryz.f142.ntmps (selector_reader__attr.kr w0 k) (annot (selector_reader__attr.cuts w0 k) selector_reader__attr.b20) (mkSt [0, 2, 4] (io50.enc v)) (outK (cfg w0 (tab32 k)) 1 selector_reader__attr.x20 K) := by
  intro v K; kernel_rfl
theorem selector_reader__attr.e (w0 : World) (k : Nat) : ∀ v, (fun v => selector_reader__attr k v) v = runK (cfg w0 (tab32 k)) Tryz.f142.ntmps (selector_reader__attr.kr w0 k) (annot (selector_reader__attr.cuts w0 k) selector_reader__attr.body) (entry (io38.enc v).1 (io38.enc v).2) (endK (selector_reader__attr.kr w0 k)) := by
  intro v; kernel_rfl
theorem selector_reader__attr.hb : Tryz.f142.body = some selector_reader__attr.body := by kernel_rfl
def tab33 (k : Nat) : Tab T := addTab 142 (lineP io38 io49 pe59 () ((0 : Int), [], (0 : Int), [], (0 : Int), (0 : Int), []) (fun v => selector_reader__attr k v)) (tab32 k)
def stringslite_Index (k : Nat) (a4 : List UInt8) (a5 : List UInt8) : Option (Int) := findS a4 a5
def tab34 (k : Nat) : Tab T := addTab 93 (line io0 io4 (0 : Int) (fun v => stringslite_Index k v.1 v.2)) (tab33 k)
def stringslite_Cut (k : Nat) (a1 : List UInt8) (a2 : List UInt8) : Option ((List UInt8) × (List UInt8) × Bool) :=
(stringslite_Index k a1 a2).bind fun r3 =>
cond (decide (r3 ≥ (0 : Int))) (
cond (decide (0 ≤ r3 ∧ r3 ≤ (a1.length : Int))) (
let v4 : Int := (IntKind.wrap .i64 (r3 + (a2.length : Int)))
cond (decide (0 ≤ v4 ∧ v4 ≤ (a1.length : Int))) (
some ((a1.take r3.toNat), (a1.drop v4.toNat), true)) none) none) (
some (a1, ([] : List UInt8), false))
def stringslite_Cut.kr (w0 : World) (k : Nat) : Kr T ((List UInt8) × (List UInt8) × Bool) := (kret (retK (cfg w0 (tab34 k)) Tryz.f165.results.toList 0 [] io51.pat))
def stringslite_Cut.cuts (w0 : World) (k : Nat) : Cuts T ((List UInt8) × (List UInt8) × Bool) := fun n => none
def stringslite_Cut.body : Code := bodyOf Tryz.f165
theorem stringslite_Cut.e (w0 : World) (k : Nat) : ∀ v, (fun v => stringslite_Cut k v.1 v.2) v = runK (cfg w0 (tab34 k)) Tryz.f165.ntmps (stringslite_Cut.kr w0 k) (annot (stringslite_Cut.cuts w0 k) stringslite_Cut.body) (entry (io0.enc v).1 (io0.enc v).2) (endK (stringslite_Cut.kr w0 k)) := by
  intro v; kernel_rfl
theorem stringslite_Cut.hb : Tryz.f165.body = some stringslite_Cut.body := by kernel_rfl
def tab35 (k : Nat) : Tab T := addTab 165 (line io0 io51 ([], [], false) (fun v => stringslite_Cut k v.1 v.2)) (tab34 k)
def strings_Cut (k : Nat) (a1 : List UInt8) (a2 : List UInt8) : Option ((List UInt8) × (List UInt8) × Bool) :=
(stringslite_Cut k a1 a2).bind fun r3 =>
some (r3.1, r3.2.1, r3.2.2)
def strings_Cut.kr (w0 : World) (k : Nat) : Kr T ((List UInt8) × (List UInt8) × Bool) := (kret (retK (cfg w0 (tab35 k)) Tryz.f163.results.toList 0 [] io51.pat))
def strings_Cut.cuts (w0 : World) (k : Nat) : Cuts T ((List UInt8) × (List UInt8) × Bool) := fun n => none
def strings_Cut.body : Code := bodyOf Tryz.f163
theorem strings_Cut.e (w0 : World) (k : Nat) : ∀ v, (fun v => strings_Cut k v.1 v.2) v = runK (cfg w0 (tab35 k)) Tryz.f163.ntmps (strings_Cut.kr w0 k) (annot (strings_Cut.cuts w0 k) strings_Cut.body) (entry (io0.enc v).1 (io0.enc v).2) (endK (strings_Cut.kr w0 k)) := by
  intro v; kernel_rfl
theorem strings_Cut.hb : Tryz.f163.body = some strings_Cut.body := by kernel_rfl
def tab36 (k : Nat) : Tab T := addTab 163 (line io0 io51 ([], [], false) (fun v => strings_Cut k v.1 v.2)) (tab35 k)
def strconv_Atoi (k : Nat) (a3 : List UInt8) : Option (Int × Bool) := atoiS a3
def tab37 (k : Nat) : Tab T := addTab 166 (line io1 io52 ((0 : Int), false) (fun v => strconv_Atoi k v)) (tab36 k)
def strings_Trim (k : Nat) (a7 : List UInt8) (a8 : List UInt8) : Option (List UInt8) := trimB a7 a8
def tab38 (k : Nat) : Tab T := addTab 74 (line io0 io1 [] (fun v => strings_Trim k v.1 v.2)) (tab37 k)
def selector_whole (k : Nat) (a1 : List UInt8) : Option (Int × Bool) :=
(strconv_Atoi k a1).bind fun r2 =>
cond ((decide (0 ≤ (1 : Int) ∧ (1 : Int) ≤ (a1.length : Int))) || !(!r2.2)) (
(cond (!r2.2) (strings_TrimLeft k (a1.take (1 : Int).toNat) ([43, 45] : List UInt8)) (some [])).bind fun r3 =>
cond ((decide (0 ≤ (1 : Int) ∧ (1 : Int) ≤ (a1.length : Int))) || !(!r2.2)) (
cond ((Nat.ble (r3.length + (a1.drop (1 : Int).toNat).length) 9223372036854775807) || !(!r2.2)) (
let v4 : List UInt8 := (r3 ++ (a1.drop (1 : Int).toNat))
(cond (!r2.2) (strings_Trim k v4 ([48, 49, 50, 51, 52, 53, 54, 55, 56, 57] : List UInt8)) (some [])).bind fun r5 =>
let v6 : Bool := (cond (!r2.2) (r5 == ([] : List UInt8)) false)
some (r2.1, v6)) none) none) none
def selector_whole.kr (w0 : World) (k : Nat) : Kr T (Int × Bool) := (kret (retK (cfg w0 (tab38 k)) Tryz.f164.results.toList 0 [] io53.pat))
def selector_whole.cuts (w0 : World) (k : Nat) : Cuts T (Int × Bool) := fun n => none
def selector_whole.body : Code := bodyOf Tryz.f164
theorem selector_whole.e (w0 : World) (k : Nat) : ∀ v, (fun v => selector_whole k v) v = runK (cfg w0 (tab38 k)) Tryz.f164.ntmps (selector_whole.kr w0 k) (annot (selector_whole.cuts w0 k) selector_whole.body) (entry (io1.enc v).1 (io1.enc v).2) (endK (selector_whole.kr w0 k)) := by
  intro v; kernel_rfl
theorem selector_whole.hb : Tryz.f164.body = some selector_whole.body := by kernel_rfl
def tab39 (k : Nat) : Tab T := addTab 164 (line io1 io53 ((0 : Int), false) (fun v => selector_whole k v)) (tab38 k)
def selector_nth.c48 (k : Nat) (x15 : Int) (x16 : Bool) (x17 : Int)  : Option (Int × Int × Bool) :=
some (x15, x17, x16)
def selector_nth.c38 (k : Nat) (x7 : List UInt8) (x8 : Int) (x9 : Bool)  : Option (Int × Int × Bool) :=
cond (!(x7 == ([] : List UInt8))) (
(selector_whole k x7).bind fun r10 =>
cond ((decide (0 ≤ (0 : Int) ∧ (0 : Int) < (x7.length : Int))) || !(cond x9 r10.2 false)) (
let v11 : Int := ((x7.getD (0 : Int).toNat 0).toNat : Int)
cond ((decide (0 ≤ (0 : Int) ∧ (0 : Int) < (x7.length : Int))) || !((cond x9 r10.2 false) && (!(v11 == (43 : Int))))) (
let v12 : Int := ((x7.getD (0 : Int).toNat 0).toNat : Int)
let v13 : Bool := (cond (v11 == (43 : Int)) true (v12 == (45 : Int)))
let v14 : Bool := (cond (cond x9 r10.2 false) v13 false)
selector_nth.c48 k x8 v14 r10.1) none) none) (
selector_nth.c48 k x8 x9 (0 : Int))
def selector_nth (k : Nat) (a1 : List UInt8) : Option (Int × Int × Bool) :=
(selector_lower k a1).bind fun r2 =>
let v3 : Bool := (r2 == ([111, 100, 100] : List UInt8))
cond v3 (
some ((2 : Int), (1 : Int), true)) (
let v4 : Bool := (r2 == ([101, 118, 101, 110] : List UInt8))
cond v4 (
some ((2 : Int), (0 : Int), true)) (
(strings_Cut k r2 ([110] : List UInt8)).bind fun r5 =>
cond (!r5.2.2) (
cond (r2 == ([] : List UInt8)) (
some ((0 : Int), (0 : Int), false)) (
(selector_whole k r2).bind fun r6 =>
some ((0 : Int), r6.1, r6.2))) (
cond (r5.1 == ([] : List UInt8)) (
selector_nth.c38 k r5.2.1 (1 : Int) true) (
cond (r5.1 == ([45] : List UInt8)) (
selector_nth.c38 k r5.2.1 (-1 : Int) true) (
(selector_whole k r5.1).bind fun r18 =>
selector_nth.c38 k r5.2.1 r18.1 r18.2)))))
def selector_nth.kr (w0 : World) (k : Nat) : Kr T (Int × Int × Bool) := (kret (retK (cfg w0 (tab39 k)) Tryz.f162.results.toList 0 [] io54.pat))
def selector_nth.x48 : Ex → Option (List Nat × List Sp)
  | _ => none
def selector_nth.L48 (k : Nat) (v : Int × Bool × Int) (K : Ex → St T → Option (Int × Int × Bool)) : Option (Int × Int × Bool) := selector_nth.c48 k v.1 v.2.1 v.2.2
def selector_nth.x38 : Ex → Option (List Nat × List Sp)
  | _ => none
def selector_nth.L38 (k : Nat) (v : (List UInt8) × Int × Bool) (K : Ex → St T → Option (Int × Int × Bool)) : Option (Int × Int × Bool) := selector_nth.c38 k v.1 v.2.1 v.2.2
def selector_nth.cuts (w0 : World) (k : Nat) : Cuts T (Int × Int × Bool) := fun n => bif n.beq 48 then some (entK (cfg w0 (tab39 k)) 0 [10, 11, 12] [] io55.pat (selector_nth.L48 k)) else bif n.beq 38 then some (entK (cfg w0 (tab39 k)) 0 [6, 10, 11] [] io56.pat (selector_nth.L38 k)) else none
def selector_nth.body : Code := bodyOf Tryz.f162
def selector_nth.b48 : Code := findD 48 selector_nth.body
theorem selector_nth.s48 (w0 : World) (k : Nat) : ∀ v K, selector_nth.L48 k v K = runK (cfg w0 (tab39 k)) Tryz.f162.ntmps (selector_nth.kr w0 k) (annot (selector_nth.cuts w0 k) selector_nth.b48) (mkSt [10, 11, 12] (io55.enc v)) (outK (cfg w0 (tab39 k)) 0 selector_nth.x48 K) := by
  intro v K; kernel_rfl
def selector_nth.b38 : Code := findD 38 selector_nth.body
theorem selector_nth.s38 (w0 : World) (k : Nat) : ∀ v K, selector_nth.L38 k v K = runK (cfg w0 (tab39 k)) Tryz.f162.ntmps (selector_nth.kr w0 k) (annot (selector_nth.cuts w0 k) selector_nth.b38) (mkSt [6, 10, 11] (io56.enc v)) (outK (cfg w0 (tab39 k)) 0 selector_nth.x38 K) := by
  intro v K; kernel_rfl
theorem selector_nth.e (w0 : World) (k : Nat) : ∀ v, (fun v => selector_nth k v) v = runK (cfg w0 (tab39 k)) Tryz.f162.ntmps (selector_nth.kr w0 k) (annot (selector_nth.cuts w0 k) selector_nth.body) (entry (io1.enc v).1 (io1.enc v).2) (endK (selector_nth.kr w0 k)) := by
  intro v; kernel_rfl
theorem selector_nth.hb : Tryz.f162.body = some selector_nth.body := by kernel_rfl
def tab40 (k : Nat) : Tab T := addTab 162 (line io1 io54 ((0 : Int), (0 : Int), false) (fun v => selector_nth k v)) (tab39 k)
def selector_reader__counted.c5 (k : Nat) : Nat → Int → (List UInt8) → (List S79) → Int → (List UInt8) → Int → (List UInt8) → Int → Int → (Int → (List UInt8) → (List S79) → Int → (List UInt8) → Int → (List UInt8) → Int → Int → Option (Bool × Unit × (Int × (List UInt8) × Int × (List UInt8) × Int × Int × (List S79)))) → Option (Bool × Unit × (Int × (List UInt8) × Int × (List UInt8) × Int × Int × (List S79)))
  | 0, _, _, _, _, _, _, _, _, _, _ => none
  | n + 1, x3, x4, x5, x6, x7, x8, x9, x10, x11, k0 =>
    (selector_reader__raw k ([41] : List UInt8) x5).bind fun r12 =>
    cond (!r12.1) (
    (selector_reader__next k r12.2).bind fun r13 =>
    cond r13.1 (
    some (true, (), ((0 : Int), [], (0 : Int), [], (0 : Int), (0 : Int), []))) (
    cond (Nat.ble (x4.length + r13.2.2.2.1.length) 9223372036854775807) (
    selector_reader__counted.c5 k n x3 (x4 ++ r13.2.2.2.1) r13.2.2.2.2.2.2 x6 x7 x8 x9 x10 x11 k0) none)) (
    k0 x3 x4 r12.2 x6 x7 x8 x9 x10 x11)
def selector_reader__counted (k : Nat) (a1 : Int) (a2 : List S79) : Option (Bool × Unit × (Int × (List UInt8) × Int × (List UInt8) × Int × Int × (List S79))) :=
selector_reader__counted.c5 k k a1 ([] : List UInt8) a2 (0 : Int) ([]) (0 : Int) ([]) (0 : Int) (0 : Int) (fun (y14 : Int) (y15 : List UInt8) (y16 : List S79) (y17 : Int) (y18 : List UInt8) (y19 : Int) (y20 : List UInt8) (y21 : Int) (y22 : Int) =>
(selector_nth k y15).bind fun r23 =>
(selector_reader__need k r23.2.2 y16).bind fun r24 =>
cond r24.1 (
some (true, (), ((0 : Int), [], (0 : Int), [], (0 : Int), (0 : Int), []))) (
some (false, (), (y14, [], (0 : Int), [], r23.1, r23.2.1, r24.2.2))))
def selector_reader__counted.kr (w0 : World) (k : Nat) : Kr T (Bool × Unit × (Int × (List UInt8) × Int × (List UInt8) × Int × Int × (List S79))) := (kpan (retK (cfg w0 (tab40 k)) Tryz.f158.results.toList 1 [] io49.pat) pp59 () ((0 : Int), [], (0 : Int), [], (0 : Int), (0 : Int), []))
def selector_reader__counted.x5 : Ex → Option (List Nat × List Sp)
  | .exit 0 => some ([0, 1, 4, 5], [])
  | _ => none
def selector_reader__counted.L5 (k : Nat) (n : Nat) (v : Int × (List UInt8) × (List S79) × Int × (List UInt8) × Int × (List UInt8) × Int × Int) (K : Ex → St T → Option (Bool × Unit × (Int × (List UInt8) × Int × (List UInt8) × Int × Int × (List S79)))) : Option (Bool × Unit × (Int × (List UInt8) × Int × (List UInt8) × Int × Int × (List S79))) := selector_reader__counted.c5 k n v.1 v.2.1 v.2.2.1 v.2.2.2.1 v.2.2.2.2.1 v.2.2.2.2.2.1 v.2.2.2.2.2.2.1 v.2.2.2.2.2.2.2.1 v.2.2.2.2.2.2.2.2 (fun y216 y217 y218 y219 y220 y221 y222 y223 y224 => K (.exit 0) (mkSt [0, 1, 4, 5] (io57.enc (y216, y217, y218, y219, y220, y221, y222, y223, y224))))
def selector_reader__counted.cuts (w0 : World) (k : Nat) : Cuts T (Bool × Unit × (Int × (List UInt8) × Int × (List UInt8) × Int × Int × (List S79))) := fun n => bif n.beq 5 then some (entK (cfg w0 (tab40 k)) 1 [0, 1, 4, 5] [] io57.pat (selector_reader__counted.L5 k k)) else none
def selector_reader__counted.body : Code := bodyOf Tryz.f158
def selector_reader__counted.b5 : Code := findD 5 selector_reader__counted.body
theorem selector_reader__counted.s5 (w0 : World) (k : Nat) : ∀ n v K, selector_reader__counted.L5 k (n + 1) v K = runK (cfg w0 (tab40 k)) Tryz.f158.ntmps (selector_reader__counted.kr w0 k) (annot (selector_reader__counted.cuts w0 k) selector_reader__counted.b5) (mkSt [0, 1, 4, 5] (io57.enc v)) (loopK (cfg w0 (tab40 k)) 1 selector_reader__counted.x5 (entK (cfg w0 (tab40 k)) 1 [0, 1, 4, 5] [] io57.pat (selector_reader__counted.L5 k n)) K) := by
  intro n v K; kernel_rfl
theorem selector_reader__counted.e (w0 : World) (k : Nat) : ∀ v, (fun v => selector_reader__counted k v.1 v.2) v = runK (cfg w0 (tab40 k)) Tryz.f158.ntmps (selector_reader__counted.kr w0 k) (annot (selector_reader__counted.cuts w0 k) selector_reader__counted.body) (entry (io42.enc v).1 (io42.enc v).2) (endK (selector_reader__counted.kr w0 k)) := by
  intro v; kernel_rfl
theorem selector_reader__counted.hb : Tryz.f158.body = some selector_reader__counted.body := by kernel_rfl
def tab41 (k : Nat) : Tab T := addTab 158 (lineP io42 io49 pe59 () ((0 : Int), [], (0 : Int), [], (0 : Int), (0 : Int), []) (fun v => selector_reader__counted k v.1 v.2)) (tab40 k)
structure selector_reader__list.G.R where
  selector_reader__pseudo : (List S79) → Option (Bool × Unit × (Int × (List UInt8) × Int × (List UInt8) × Int × Int × (List S52) × (List S79)))
  selector_reader__one : (List S79) → Option (Bool × Unit × (Int × (List UInt8) × Int × (List UInt8) × Int × Int × (List S52) × Bool × (List S79)))
  selector_reader__step : (List S79) → Option (Bool × Unit × ((List S79) × (List S96)))
  selector_reader__path : (List S79) → Option (Bool × Unit × ((List (List S96)) × (List Int) × (List S79)))
  selector_reader__list : (List UInt8) → (List S79) → Option (Bool × Unit × ((List S79) × (List S52)))
def selector_reader__pseudo.nat (k : Nat) (r : selector_reader__list.G.R) (a1 : List S79) : Option (Bool × Unit × (Int × (List UInt8) × Int × (List UInt8) × Int × Int × (List S52) × (List S79))) :=
(selector_reader__next k a1).bind fun r2 =>
cond r2.1 (
some (true, (), ((0 : Int), [], (0 : Int), [], (0 : Int), (0 : Int), [], []))) (
(selector_lower k r2.2.2.2.2.1).bind fun r3 =>
let v4 : Bool := (cond (r2.2.2.1 == (1 : Int)) (r2.2.2.2.1 == r2.2.2.2.2.1) false)
cond v4 (
let v5 : Bool := (r3 == ([114, 111, 111, 116] : List UInt8))
cond v5 (
some (false, (), ((6 : Int), [], (0 : Int), [], (0 : Int), (0 : Int), ([] : List S52), r2.2.2.2.2.2.2))) (
let v6 : Bool := (r3 == ([101, 109, 112, 116, 121] : List UInt8))
cond v6 (
some (false, (), ((7 : Int), [], (0 : Int), [], (0 : Int), (0 : Int), ([] : List S52), r2.2.2.2.2.2.2))) (
let v7 : Bool := (r3 == ([102, 105, 114, 115, 116, 45, 99, 104, 105, 108, 100] : List UInt8))
cond v7 (
some (false, (), ((8 : Int), [], (0 : Int), [], (0 : Int), (1 : Int), ([] : List S52), r2.2.2.2.2.2.2))) (
let v8 : Bool := (r3 == ([108, 97, 115, 116, 45, 99, 104, 105, 108, 100] : List UInt8))
cond v8 (
some (false, (), ((9 : Int), [], (0 : Int), [], (0 : Int), (1 : Int), ([] : List S52), r2.2.2.2.2.2.2))) (
some (true, (), ((0 : Int), [], (0 : Int), [], (0 : Int), (0 : Int), [], []))))))) (
cond ((Nat.ble (r2.2.2.2.2.1.length + ([40] : List UInt8).length) 9223372036854775807) || !(r2.2.2.1 == (2 : Int))) (
let v9 : List UInt8 := (r2.2.2.2.2.1 ++ ([40] : List UInt8))
let v10 : Bool := (cond (r2.2.2.1 == (2 : Int)) (r2.2.2.2.1 == v9) false)
cond v10 (
let v11 : Bool := (r3 == ([110, 116, 104, 45, 99, 104, 105, 108, 100] : List UInt8))
cond v11 (
(selector_reader__counted k (8 : Int) r2.2.2.2.2.2.2).bind fun r12 =>
cond r12.1 (
some (true, (), ((0 : Int), [], (0 : Int), [], (0 : Int), (0 : Int), [], []))) (
some (false, (), (r12.2.2.1, r12.2.2.2.1, r12.2.2.2.2.1, r12.2.2.2.2.2.1, r12.2.2.2.2.2.2.1, r12.2.2.2.2.2.2.2.1, ([] : List S52), r12.2.2.2.2.2.2.2.2)))) (
let v13 : Bool := (r3 == ([110, 116, 104, 45, 108, 97, 115, 116, 45, 99, 104, 105, 108, 100] : List UInt8))
cond v13 (
(selector_reader__counted k (9 : Int) r2.2.2.2.2.2.2).bind fun r14 =>
cond r14.1 (
some (true, (), ((0 : Int), [], (0 : Int), [], (0 : Int), (0 : Int), [], []))) (
some (false, (), (r14.2.2.1, r14.2.2.2.1, r14.2.2.2.2.1, r14.2.2.2.2.2.1, r14.2.2.2.2.2.2.1, r14.2.2.2.2.2.2.2.1, ([] : List S52), r14.2.2.2.2.2.2.2.2)))) (
let v15 : Bool := (r3 == ([110, 111, 116] : List UInt8))
cond v15 (
(r.selector_reader__list ([41] : List UInt8) r2.2.2.2.2.2.2).bind fun r16 =>
cond r16.1 (
some (true, (), ((0 : Int), [], (0 : Int), [], (0 : Int), (0 : Int), [], []))) (
some (false, (), ((10 : Int), [], (0 : Int), [], (0 : Int), (0 : Int), r16.2.2.2, r16.2.2.1)))) (
let v17 : Bool := (r3 == ([105, 115] : List UInt8))
cond v17 (
(r.selector_reader__list ([41] : List UInt8) r2.2.2.2.2.2.2).bind fun r18 =>
cond r18.1 (
some (true, (), ((0 : Int), [], (0 : Int), [], (0 : Int), (0 : Int), [], []))) (
some (false, (), ((11 : Int), [], (0 : Int), [], (0 : Int), (0 : Int), r18.2.2.2, r18.2.2.1)))) (
some (true, (), ((0 : Int), [], (0 : Int), [], (0 : Int), (0 : Int), [], []))))))) (
some (true, (), ((0 : Int), [], (0 : Int), [], (0 : Int), (0 : Int), [], [])))) none))
def selector_reader__one.nat (k : Nat) (r : selector_reader__list.G.R) (a1 : List S79) : Option (Bool × Unit × (Int × (List UInt8) × Int × (List UInt8) × Int × Int × (List S52) × Bool × (List S79))) :=
(selector_reader__peek k a1).bind fun r2 =>
let v3 : Bool := (r2.2.1 == ([42] : List UInt8))
cond v3 (
(selector_reader__next k r2.2.2.2.2).bind fun r4 =>
cond r4.1 (
some (true, (), ((0 : Int), [], (0 : Int), [], (0 : Int), (0 : Int), [], false, []))) (
some (false, (), ((1 : Int), [], (0 : Int), [], (0 : Int), (0 : Int), ([] : List S52), true, r4.2.2.2.2.2.2)))) (
cond (r2.1 == (1 : Int)) (
(selector_reader__next k r2.2.2.2.2).bind fun r5 =>
cond r5.1 (
some (true, (), ((0 : Int), [], (0 : Int), [], (0 : Int), (0 : Int), [], false, []))) (
(selector_reader__word k r5.2.2.1 r5.2.2.2.1 r5.2.2.2.2.1 r5.2.2.2.2.2.1 (1 : Int) ([] : List UInt8) r5.2.2.2.2.2.2).bind fun r6 =>
cond r6.1 (
some (true, (), ((0 : Int), [], (0 : Int), [], (0 : Int), (0 : Int), [], false, []))) (
(selector_lower k r6.2.2.1).bind fun r7 =>
some (false, (), ((2 : Int), r7, (0 : Int), [], (0 : Int), (0 : Int), ([] : List S52), true, r6.2.2.2))))) (
cond (r2.1 == (4 : Int)) (
(selector_reader__next k r2.2.2.2.2).bind fun r8 =>
cond r8.1 (
some (true, (), ((0 : Int), [], (0 : Int), [], (0 : Int), (0 : Int), [], false, []))) (
(selector_reader__word k r8.2.2.1 r8.2.2.2.1 r8.2.2.2.2.1 r8.2.2.2.2.2.1 (4 : Int) ([35] : List UInt8) r8.2.2.2.2.2.2).bind fun r9 =>
cond r9.1 (
some (true, (), ((0 : Int), [], (0 : Int), [], (0 : Int), (0 : Int), [], false, []))) (
some (false, (), ((3 : Int), r9.2.2.1, (0 : Int), [], (0 : Int), (0 : Int), ([] : List S52), true, r9.2.2.2))))) (
let v10 : Bool := (r2.2.1 == ([46] : List UInt8))
cond v10 (
(selector_reader__next k r2.2.2.2.2).bind fun r11 =>
cond r11.1 (
some (true, (), ((0 : Int), [], (0 : Int), [], (0 : Int), (0 : Int), [], false, []))) (
(selector_reader__next k r11.2.2.2.2.2.2).bind fun r12 =>
cond r12.1 (
some (true, (), ((0 : Int), [], (0 : Int), [], (0 : Int), (0 : Int), [], false, []))) (
(selector_reader__word k r12.2.2.1 r12.2.2.2.1 r12.2.2.2.2.1 r12.2.2.2.2.2.1 (1 : Int) ([] : List UInt8) r12.2.2.2.2.2.2).bind fun r13 =>
cond r13.1 (
some (true, (), ((0 : Int), [], (0 : Int), [], (0 : Int), (0 : Int), [], false, []))) (
some (false, (), ((4 : Int), r13.2.2.1, (0 : Int), [], (0 : Int), (0 : Int), ([] : List S52), true, r13.2.2.2)))))) (
let v14 : Bool := (r2.2.1 == ([91] : List UInt8))
cond v14 (
(selector_reader__next k r2.2.2.2.2).bind fun r15 =>
cond r15.1 (
some (true, (), ((0 : Int), [], (0 : Int), [], (0 : Int), (0 : Int), [], false, []))) (
(selector_reader__attr k r15.2.2.2.2.2.2).bind fun r16 =>
cond r16.1 (
some (true, (), ((0 : Int), [], (0 : Int), [], (0 : Int), (0 : Int), [], false, []))) (
some (false, (), (r16.2.2.1, r16.2.2.2.1, r16.2.2.2.2.1, r16.2.2.2.2.2.1, r16.2.2.2.2.2.2.1, r16.2.2.2.2.2.2.2.1, ([] : List S52), true, r16.2.2.2.2.2.2.2.2))))) (
let v17 : Bool := (r2.2.1 == ([58] : List UInt8))
cond v17 (
(selector_reader__next k r2.2.2.2.2).bind fun r18 =>
cond r18.1 (
some (true, (), ((0 : Int), [], (0 : Int), [], (0 : Int), (0 : Int), [], false, []))) (
(r.selector_reader__pseudo r18.2.2.2.2.2.2).bind fun r19 =>
cond r19.1 (
some (true, (), ((0 : Int), [], (0 : Int), [], (0 : Int), (0 : Int), [], false, []))) (
some (false, (), (r19.2.2.1, r19.2.2.2.1, r19.2.2.2.2.1, r19.2.2.2.2.2.1, r19.2.2.2.2.2.2.1, r19.2.2.2.2.2.2.2.1, r19.2.2.2.2.2.2.2.2.1, true, r19.2.2.2.2.2.2.2.2.2))))) (
some (false, (), ((0 : Int), [], (0 : Int), [], (0 : Int), (0 : Int), ([] : List S52), false, r2.2.2.2.2))))))))
def selector_reader__step.c7 (k : Nat) (r : selector_reader__list.G.R) : Nat → Bool → (List S79) → (List S96) → Int → (List UInt8) → Int → (List UInt8) → Int → Int → (List S52) → ((List S79) → (List S96) → Option (Bool × Unit × ((List S79) × (List S96)))) → Option (Bool × Unit × ((List S79) × (List S96)))
  | 0, _, _, _, _, _, _, _, _, _, _, _ => none
  | n + 1, x3, x4, x5, x6, x7, x8, x9, x10, x11, x12, k0 =>
    cond x3 (
    let v13 : List S96 := [(⟨x6, x7, x8, x9, x10, x11, x12⟩ : S96)]
    cond (decide ((x5 ++ v13).length < most)) (
    (r.selector_reader__one x4).bind fun r14 =>
    cond r14.1 (
    some (true, (), ([], []))) (
    selector_reader__step.c7 k r n r14.2.2.2.2.2.2.2.2.2.1 r14.2.2.2.2.2.2.2.2.2.2 (x5 ++ v13) r14.2.2.1 r14.2.2.2.1 r14.2.2.2.2.1 r14.2.2.2.2.2.1 r14.2.2.2.2.2.2.1 r14.2.2.2.2.2.2.2.1 r14.2.2.2.2.2.2.2.2.1 k0)) none) (
    k0 x4 x5)
def selector_reader__step.nat (k : Nat) (r : selector_reader__list.G.R) (a1 : List S79) : Option (Bool × Unit × ((List S79) × (List S96))) :=
(r.selector_reader__one a1).bind fun r2 =>
cond r2.1 (
some (true, (), ([], []))) (
selector_reader__step.c7 k r k r2.2.2.2.2.2.2.2.2.2.1 r2.2.2.2.2.2.2.2.2.2.2 ([] : List S96) r2.2.2.1 r2.2.2.2.1 r2.2.2.2.2.1 r2.2.2.2.2.2.1 r2.2.2.2.2.2.2.1 r2.2.2.2.2.2.2.2.1 r2.2.2.2.2.2.2.2.2.1 (fun (y15 : List S79) (y16 : List S96) =>
let v17 : Bool := (decide ((y16.length : Int) > (0 : Int)))
(selector_reader__need k v17 y15).bind fun r18 =>
cond r18.1 (
some (true, (), ([], []))) (
some (false, (), (r18.2.2, y16)))))
def selector_reader__path.c22 (k : Nat) (r : selector_reader__list.G.R) (x15 : List S79) (x16 : List (List S96)) (x17 : List Int) (kn : (List S79) → (List (List S96)) → (List Int) → Option (Bool × Unit × ((List (List S96)) × (List Int) × (List S79)))) : Option (Bool × Unit × ((List (List S96)) × (List Int) × (List S79))) :=
(r.selector_reader__step x15).bind fun r18 =>
cond r18.1 (
some (true, (), ([], [], []))) (
cond (decide ((x16 ++ ([r18.2.2.2])).length < most)) (
kn r18.2.2.1 (x16 ++ ([r18.2.2.2])) x17) none)
def selector_reader__path.c5 (k : Nat) (r : selector_reader__list.G.R) : Nat → (List S79) → (List (List S96)) → (List Int) → Option (Bool × Unit × ((List (List S96)) × (List Int) × (List S79)))
  | 0, _, _, _ => none
  | n + 1, x3, x4, x5 =>
    (selector_reader__gap k x3).bind fun r6 =>
    (selector_reader__peek k r6.2).bind fun r7 =>
    let v8 : Bool := (r7.2.1 == ([62] : List UInt8))
    let v9 : Bool := (r7.2.1 == ([43] : List UInt8))
    let v10 : Bool := (r7.2.1 == ([126] : List UInt8))
    let v11 : Bool := (cond (cond v8 true v9) true v10)
    cond v11 (
    (selector_reader__next k r7.2.2.2.2).bind fun r12 =>
    cond r12.1 (
    some (true, (), ([], [], []))) (
    (selector_reader__gap k r12.2.2.2.2.2.2).bind fun r13 =>
    cond (decide (0 ≤ (0 : Int) ∧ (0 : Int) < (r7.2.1.length : Int))) (
    let v14 : Int := ((r7.2.1.getD (0 : Int).toNat 0).toNat : Int)
    cond (decide ((x5 ++ ([v14])).length < most)) (
    selector_reader__path.c22 k r r13.2 x4 (x5 ++ ([v14])) (fun (y19 : List S79) (y20 : List (List S96)) (y21 : List Int) =>
    selector_reader__path.c5 k r n y19 y20 y21)) none) none)) (
    let v22 : Bool := (cond r6.1 (r7.1 != (0 : Int)) false)
    let v23 : Bool := (!(r7.2.1 == ([44] : List UInt8)))
    let v24 : Bool := (!(r7.2.1 == ([41] : List UInt8)))
    let v25 : Bool := (cond (cond v22 v23 false) v24 false)
    cond v25 (
    cond (decide ((x5 ++ ([(32 : Int)])).length < most)) (
    selector_reader__path.c22 k r r7.2.2.2.2 x4 (x5 ++ ([(32 : Int)])) (fun (y26 : List S79) (y27 : List (List S96)) (y28 : List Int) =>
    selector_reader__path.c5 k r n y26 y27 y28)) none) (
    some (false, (), (x4, x5, r7.2.2.2.2))))
def selector_reader__path.nat (k : Nat) (r : selector_reader__list.G.R) (a1 : List S79) : Option (Bool × Unit × ((List (List S96)) × (List Int) × (List S79))) :=
(r.selector_reader__step a1).bind fun r2 =>
cond r2.1 (
some (true, (), ([], [], []))) (
selector_reader__path.c5 k r k r2.2.2.1 ([r2.2.2.2]) ([] : List Int))
def selector_reader__list.c18 (k : Nat) (r : selector_reader__list.G.R) (x34 : List S79) (x35 : List S52)  : Option (Bool × Unit × ((List S79) × (List S52))) :=
some (false, (), (x34, x35))
def selector_reader__list.c5 (k : Nat) (r : selector_reader__list.G.R) : Nat → (List UInt8) → (List S79) → (List S52) → Option (Bool × Unit × ((List S79) × (List S52)))
  | 0, _, _, _ => none
  | n + 1, x3, x4, x5 =>
    (selector_reader__gap k x4).bind fun r6 =>
    (r.selector_reader__path r6.2).bind fun r7 =>
    cond r7.1 (
    some (true, (), ([], []))) (
    let v29 : List S52 := [(⟨r7.2.2.1, r7.2.2.2.1⟩ : S52)]
    cond (decide ((x5 ++ v29).length < most)) (
    (selector_reader__gap k r7.2.2.2.2).bind fun r30 =>
    (selector_reader__raw k ([44] : List UInt8) r30.2).bind fun r31 =>
    cond r31.1 (
    selector_reader__list.c5 k r n x3 r31.2 (x5 ++ v29)) (
    cond (x3 == ([] : List UInt8)) (
    let v32 : Bool := ((r31.2.length : Int) == (0 : Int))
    (selector_reader__need k v32 r31.2).bind fun r33 =>
    cond r33.1 (
    some (true, (), ([], []))) (
    selector_reader__list.c18 k r r33.2.2 (x5 ++ v29))) (
    (selector_reader__raw k x3 r31.2).bind fun r36 =>
    (selector_reader__need k r36.1 r36.2).bind fun r37 =>
    cond r37.1 (
    some (true, (), ([], []))) (
    selector_reader__list.c18 k r r37.2.2 (x5 ++ v29))))) none)
def selector_reader__list.nat (k : Nat) (r : selector_reader__list.G.R) (a1 : List UInt8) (a2 : List S79) : Option (Bool × Unit × ((List S79) × (List S52))) :=
selector_reader__list.c5 k r k a1 a2 ([] : List S52)
def selector_reader__list.G.rec (k : Nat) : Nat → selector_reader__list.G.R
  | 0 => ⟨fun _ => none, fun _ => none, fun _ => none, fun _ => none, fun _ _ => none⟩
  | n + 1 => ⟨selector_reader__pseudo.nat k (selector_reader__list.G.rec k n), selector_reader__one.nat k (selector_reader__list.G.rec k n), selector_reader__step.nat k (selector_reader__list.G.rec k n), selector_reader__path.nat k (selector_reader__list.G.rec k n), selector_reader__list.nat k (selector_reader__list.G.rec k n)⟩
def selector_reader__pseudo (k : Nat) : (List S79) → Option (Bool × Unit × (Int × (List UInt8) × Int × (List UInt8) × Int × Int × (List S52) × (List S79))) := (selector_reader__list.G.rec k k).selector_reader__pseudo
def selector_reader__one (k : Nat) : (List S79) → Option (Bool × Unit × (Int × (List UInt8) × Int × (List UInt8) × Int × Int × (List S52) × Bool × (List S79))) := (selector_reader__list.G.rec k k).selector_reader__one
def selector_reader__step (k : Nat) : (List S79) → Option (Bool × Unit × ((List S79) × (List S96))) := (selector_reader__list.G.rec k k).selector_reader__step
def selector_reader__path (k : Nat) : (List S79) → Option (Bool × Unit × ((List (List S96)) × (List Int) × (List S79))) := (selector_reader__list.G.rec k k).selector_reader__path
def selector_reader__list (k : Nat) : (List UInt8) → (List S79) → Option (Bool × Unit × ((List S79) × (List S52))) := (selector_reader__list.G.rec k k).selector_reader__list
def selector_reader__list.G.tab (k : Nat) (r : selector_reader__list.G.R) : Tab T := addTab 24 (lineP io48 io65 pe59 () ([], []) (fun v => r.selector_reader__list v.1 v.2)) (addTab 36 (lineP io38 io63 pe59 () ([], [], []) (fun v => r.selector_reader__path v)) (addTab 69 (lineP io38 io60 pe59 () ([], []) (fun v => r.selector_reader__step v)) (addTab 103 (lineP io38 io59 pe59 () ((0 : Int), [], (0 : Int), [], (0 : Int), (0 : Int), [], false, []) (fun v => r.selector_reader__one v)) (addTab 143 (lineP io38 io58 pe59 () ((0 : Int), [], (0 : Int), [], (0 : Int), (0 : Int), [], []) (fun v => r.selector_reader__pseudo v)) (tab41 k)))))
def selector_reader__pseudo.kr (w0 : World) (k : Nat) (r : selector_reader__list.G.R) : Kr T (Bool × Unit × (Int × (List UInt8) × Int × (List UInt8) × Int × Int × (List S52) × (List S79))) := (kpan (retK (cfg w0 (selector_reader__list.G.tab k r)) Tryz.f143.results.toList 1 [.agg 0 96] io58.pat) pp59 () ((0 : Int), [], (0 : Int), [], (0 : Int), (0 : Int), [], []))
def selector_reader__pseudo.cuts (w0 : World) (k : Nat) (r : selector_reader__list.G.R) : Cuts T (Bool × Unit × (Int × (List UInt8) × Int × (List UInt8) × Int × Int × (List S52) × (List S79))) := fun n => none
def selector_reader__pseudo.body : Code := bodyOf Tryz.f143
theorem selector_reader__pseudo.e (w0 : World) (k : Nat) (r : selector_reader__list.G.R) : ∀ v, (fun v => selector_reader__pseudo.nat k r v) v = runK (cfg w0 (selector_reader__list.G.tab k r)) Tryz.f143.ntmps (selector_reader__pseudo.kr w0 k r) (annot (selector_reader__pseudo.cuts w0 k r) selector_reader__pseudo.body) (entry (io38.enc v).1 (io38.enc v).2) (endK (selector_reader__pseudo.kr w0 k r)) := by
  intro v; kernel_rfl
theorem selector_reader__pseudo.hb : Tryz.f143.body = some selector_reader__pseudo.body := by kernel_rfl
def selector_reader__one.kr (w0 : World) (k : Nat) (r : selector_reader__list.G.R) : Kr T (Bool × Unit × (Int × (List UInt8) × Int × (List UInt8) × Int × Int × (List S52) × Bool × (List S79))) := (kpan (retK (cfg w0 (selector_reader__list.G.tab k r)) Tryz.f103.results.toList 1 [.agg 0 96] io59.pat) pp59 () ((0 : Int), [], (0 : Int), [], (0 : Int), (0 : Int), [], false, []))
def selector_reader__one.cuts (w0 : World) (k : Nat) (r : selector_reader__list.G.R) : Cuts T (Bool × Unit × (Int × (List UInt8) × Int × (List UInt8) × Int × Int × (List S52) × Bool × (List S79))) := fun n => none
def selector_reader__one.body : Code := bodyOf Tryz.f103
theorem selector_reader__one.e (w0 : World) (k : Nat) (r : selector_reader__list.G.R) : ∀ v, (fun v => selector_reader__one.nat k r v) v = runK (cfg w0 (selector_reader__list.G.tab k r)) Tryz.f103.ntmps (selector_reader__one.kr w0 k r) (annot (selector_reader__one.cuts w0 k r) selector_reader__one.body) (entry (io38.enc v).1 (io38.enc v).2) (endK (selector_reader__one.kr w0 k r)) := by
  intro v; kernel_rfl
theorem selector_reader__one.hb : Tryz.f103.body = some selector_reader__one.body := by kernel_rfl
def selector_reader__step.kr (w0 : World) (k : Nat) (r : selector_reader__list.G.R) : Kr T (Bool × Unit × ((List S79) × (List S96))) := (kpan (retK (cfg w0 (selector_reader__list.G.tab k r)) Tryz.f69.results.toList 1 [.own 0 96] io60.pat) pp59 () ([], []))
def selector_reader__step.x7 : Ex → Option (List Nat × List Sp)
  | .exit 0 => some ([0, 3], [.own 3 96])
  | _ => none
def selector_reader__step.L7 (k : Nat) (r : selector_reader__list.G.R) (n : Nat) (v : Bool × (List S79) × (List S96) × Int × (List UInt8) × Int × (List UInt8) × Int × Int × (List S52)) (K : Ex → St T → Option (Bool × Unit × ((List S79) × (List S96)))) : Option (Bool × Unit × ((List S79) × (List S96))) := selector_reader__step.c7 k r n v.1 v.2.1 v.2.2.1 v.2.2.2.1 v.2.2.2.2.1 v.2.2.2.2.2.1 v.2.2.2.2.2.2.1 v.2.2.2.2.2.2.2.1 v.2.2.2.2.2.2.2.2.1 v.2.2.2.2.2.2.2.2.2 (fun y225 y226 => K (.exit 0) (mkSt [0, 3] (io62.enc (y225, y226))))
def selector_reader__step.cuts (w0 : World) (k : Nat) (r : selector_reader__list.G.R) : Cuts T (Bool × Unit × ((List S79) × (List S96))) := fun n => bif n.beq 7 then some (entK (cfg w0 (selector_reader__list.G.tab k r)) 1 [0, 3, 4, 5] [.own 3 96] io61.pat (selector_reader__step.L7 k r k)) else none
def selector_reader__step.body : Code := bodyOf Tryz.f69
def selector_reader__step.b7 : Code := findD 7 selector_reader__step.body
theorem selector_reader__step.s7 (w0 : World) (k : Nat) (r : selector_reader__list.G.R) : ∀ n v K, selector_reader__step.L7 k r (n + 1) v K = runK (cfg w0 (selector_reader__list.G.tab k r)) Tryz.f69.ntmps (selector_reader__step.kr w0 k r) (annot (selector_reader__step.cuts w0 k r) selector_reader__step.b7) (mkSt [0, 3, 4, 5] (io61.enc v)) (loopK (cfg w0 (selector_reader__list.G.tab k r)) 1 selector_reader__step.x7 (entK (cfg w0 (selector_reader__list.G.tab k r)) 1 [0, 3, 4, 5] [.own 3 96] io61.pat (selector_reader__step.L7 k r n)) K) := by
  intro n v K; kernel_rfl
theorem selector_reader__step.e (w0 : World) (k : Nat) (r : selector_reader__list.G.R) : ∀ v, (fun v => selector_reader__step.nat k r v) v = runK (cfg w0 (selector_reader__list.G.tab k r)) Tryz.f69.ntmps (selector_reader__step.kr w0 k r) (annot (selector_reader__step.cuts w0 k r) selector_reader__step.body) (entry (io38.enc v).1 (io38.enc v).2) (endK (selector_reader__step.kr w0 k r)) := by
  intro v; kernel_rfl
theorem selector_reader__step.hb : Tryz.f69.body = some selector_reader__step.body := by kernel_rfl
def selector_reader__path.kr (w0 : World) (k : Nat) (r : selector_reader__list.G.R) : Kr T (Bool × Unit × ((List (List S96)) × (List Int) × (List S79))) := (kpan (retK (cfg w0 (selector_reader__list.G.tab k r)) Tryz.f36.results.toList 1 [.agg 0 52] io63.pat) pp59 () ([], [], []))
def selector_reader__path.x22 : Ex → Option (List Nat × List Sp)
  | .norm => some ([0, 2, 3], [])
  | _ => none
def selector_reader__path.L22 (k : Nat) (r : selector_reader__list.G.R) (v : (List S79) × (List (List S96)) × (List Int)) (K : Ex → St T → Option (Bool × Unit × ((List (List S96)) × (List Int) × (List S79)))) : Option (Bool × Unit × ((List (List S96)) × (List Int) × (List S79))) := selector_reader__path.c22 k r v.1 v.2.1 v.2.2 (fun y227 y228 y229 => K .norm (mkSt [0, 2, 3] (io64.enc (y227, y228, y229))))
def selector_reader__path.x5 : Ex → Option (List Nat × List Sp)
  | _ => none
def selector_reader__path.L5 (k : Nat) (r : selector_reader__list.G.R) (n : Nat) (v : (List S79) × (List (List S96)) × (List Int)) (K : Ex → St T → Option (Bool × Unit × ((List (List S96)) × (List Int) × (List S79)))) : Option (Bool × Unit × ((List (List S96)) × (List Int) × (List S79))) := selector_reader__path.c5 k r n v.1 v.2.1 v.2.2
def selector_reader__path.cuts (w0 : World) (k : Nat) (r : selector_reader__list.G.R) : Cuts T (Bool × Unit × ((List (List S96)) × (List Int) × (List S79))) := fun n => bif n.beq 22 then some (entK (cfg w0 (selector_reader__list.G.tab k r)) 1 [0, 2, 3] [] io64.pat (selector_reader__path.L22 k r)) else bif n.beq 5 then some (entK (cfg w0 (selector_reader__list.G.tab k r)) 1 [0, 2, 3] [.cell 3 1 5] io64.pat (selector_reader__path.L5 k r k)) else none
def selector_reader__path.body : Code := bodyOf Tryz.f36
def selector_reader__path.b22 : Code := findD 22 selector_reader__path.body
theorem selector_reader__path.s22 (w0 : World) (k : Nat) (r : selector_reader__list.G.R) : ∀ v K, selector_reader__path.L22 k r v K = runK (cfg w0 (selector_reader__list.G.tab k r)) Tryz.f36.ntmps (selector_reader__path.kr w0 k r) (annot (selector_reader__path.cuts w0 k r) selector_reader__path.b22) (mkSt [0, 2, 3] (io64.enc v)) (outK (cfg w0 (selector_reader__list.G.tab k r)) 1 selector_reader__path.x22 K) := by
  intro v K; kernel_rfl
def selector_reader__path.b5 : Code := findD 5 selector_reader__path.body
theorem selector_reader__path.s5 (w0 : World) (k : Nat) (r : selector_reader__list.G.R) : ∀ n v K, selector_reader__path.L5 k r (n + 1) v K = runK (cfg w0 (selector_reader__list.G.tab k r)) Tryz.f36.ntmps (selector_reader__path.kr w0 k r) (annot (selector_reader__path.cuts w0 k r) selector_reader__path.b5) (mkSt [0, 2, 3] (io64.enc v)) (loopK (cfg w0 (selector_reader__list.G.tab k r)) 1 selector_reader__path.x5 (entK (cfg w0 (selector_reader__list.G.tab k r)) 1 [0, 2, 3] [.cell 3 1 5] io64.pat (selector_reader__path.L5 k r n)) K) := by
  intro n v K; kernel_rfl
theorem selector_reader__path.e (w0 : World) (k : Nat) (r : selector_reader__list.G.R) : ∀ v, (fun v => selector_reader__path.nat k r v) v = runK (cfg w0 (selector_reader__list.G.tab k r)) Tryz.f36.ntmps (selector_reader__path.kr w0 k r) (annot (selector_reader__path.cuts w0 k r) selector_reader__path.body) (entry (io38.enc v).1 (io38.enc v).2) (endK (selector_reader__path.kr w0 k r)) := by
  intro v; kernel_rfl
theorem selector_reader__path.hb : Tryz.f36.body = some selector_reader__path.body := by kernel_rfl
def selector_reader__list.kr (w0 : World) (k : Nat) (r : selector_reader__list.G.R) : Kr T (Bool × Unit × ((List S79) × (List S52))) := (kpan (retK (cfg w0 (selector_reader__list.G.tab k r)) Tryz.f24.results.toList 1 [] io65.pat) pp59 () ([], []))
def selector_reader__list.x18 : Ex → Option (List Nat × List Sp)
  | _ => none
def selector_reader__list.L18 (k : Nat) (r : selector_reader__list.G.R) (v : (List S79) × (List S52)) (K : Ex → St T → Option (Bool × Unit × ((List S79) × (List S52)))) : Option (Bool × Unit × ((List S79) × (List S52))) := selector_reader__list.c18 k r v.1 v.2
def selector_reader__list.x5 : Ex → Option (List Nat × List Sp)
  | _ => none
def selector_reader__list.L5 (k : Nat) (r : selector_reader__list.G.R) (n : Nat) (v : (List UInt8) × (List S79) × (List S52)) (K : Ex → St T → Option (Bool × Unit × ((List S79) × (List S52)))) : Option (Bool × Unit × ((List S79) × (List S52))) := selector_reader__list.c5 k r n v.1 v.2.1 v.2.2
def selector_reader__list.cuts (w0 : World) (k : Nat) (r : selector_reader__list.G.R) : Cuts T (Bool × Unit × ((List S79) × (List S52))) := fun n => bif n.beq 18 then some (entK (cfg w0 (selector_reader__list.G.tab k r)) 1 [5] [] io65.pat (selector_reader__list.L18 k r)) else bif n.beq 5 then some (entK (cfg w0 (selector_reader__list.G.tab k r)) 1 [0, 1, 5] [.own 5 52] io66.pat (selector_reader__list.L5 k r k)) else none
def selector_reader__list.body : Code := bodyOf Tryz.f24
def selector_reader__list.b18 : Code := findD 18 selector_reader__list.body
theorem selector_reader__list.s18 (w0 : World) (k : Nat) (r : selector_reader__list.G.R) : ∀ v K, selector_reader__list.L18 k r v K = runK (cfg w0 (selector_reader__list.G.tab k r)) Tryz.f24.ntmps (selector_reader__list.kr w0 k r) (annot (selector_reader__list.cuts w0 k r) selector_reader__list.b18) (mkSt [5] (io65.enc v)) (outK (cfg w0 (selector_reader__list.G.tab k r)) 1 selector_reader__list.x18 K) := by
  intro v K; kernel_rfl
def selector_reader__list.b5 : Code := findD 5 selector_reader__list.body
theorem selector_reader__list.s5 (w0 : World) (k : Nat) (r : selector_reader__list.G.R) : ∀ n v K, selector_reader__list.L5 k r (n + 1) v K = runK (cfg w0 (selector_reader__list.G.tab k r)) Tryz.f24.ntmps (selector_reader__list.kr w0 k r) (annot (selector_reader__list.cuts w0 k r) selector_reader__list.b5) (mkSt [0, 1, 5] (io66.enc v)) (loopK (cfg w0 (selector_reader__list.G.tab k r)) 1 selector_reader__list.x5 (entK (cfg w0 (selector_reader__list.G.tab k r)) 1 [0, 1, 5] [.own 5 52] io66.pat (selector_reader__list.L5 k r n)) K) := by
  intro n v K; kernel_rfl
theorem selector_reader__list.e (w0 : World) (k : Nat) (r : selector_reader__list.G.R) : ∀ v, (fun v => selector_reader__list.nat k r v.1 v.2) v = runK (cfg w0 (selector_reader__list.G.tab k r)) Tryz.f24.ntmps (selector_reader__list.kr w0 k r) (annot (selector_reader__list.cuts w0 k r) selector_reader__list.body) (entry (io48.enc v).1 (io48.enc v).2) (endK (selector_reader__list.kr w0 k r)) := by
  intro v; kernel_rfl
theorem selector_reader__list.hb : Tryz.f24.body = some selector_reader__list.body := by kernel_rfl
def tab42 (k : Nat) : Tab T := selector_reader__list.G.tab k (selector_reader__list.G.rec k k)
structure selector_tests.G.R where
  selector_tests : (List S52) → Int → Option (Int × Bool)
def selector_tests.c21 (k : Nat) (r : selector_tests.G.R) : Nat → Int → Int → (List S52) → Int → Int → (List (List S96)) → Int → Int → (List S96) → Int → Int → (Int → Int → (List S52) → Int → Int → (List (List S96)) → Int → Int → Option (Int × Bool)) → Option (Int × Bool)
  | 0, _, _, _, _, _, _, _, _, _, _, _, _ => none
  | n + 1, x20, x21, x22, x23, x24, x25, x26, x27, x28, x29, x30, k4 =>
    cond (decide (x30 < x29)) (
    cond (decide (0 ≤ x30 ∧ x30 < (x28.length : Int))) (
    let v31 : Int := (x28.getD x30.toNat S96.d).Kind
    let v32 : List UInt8 := (x28.getD x30.toNat S96.d).Name
    let v33 : List UInt8 := (x28.getD x30.toNat S96.d).Value
    let v34 : List S52 := (x28.getD x30.toNat S96.d).Subs
    let v35 : Bool := ((v34.length : Int) == (0 : Int))
    cond v35 (
    let v36 : Int := (IntKind.wrap .i64 (x30 + (1 : Int)))
    selector_tests.c21 k r n x20 x21 x22 x23 x24 x25 x26 x27 x28 x29 v36 k4) (
    let v37 : Int := (IntKind.wrap .i64 (x20 + (1 : Int)))
    (r.selector_tests v34 v37).bind fun r38 =>
    let v39 : Int := (IntKind.wrap .i64 (x21 + r38.1))
    let v40 : Bool := (cond (!r38.2) true (decide (x20 ≥ (3 : Int))))
    let v41 : Bool := (cond v40 true (decide (v39 > (40 : Int))))
    cond v41 (
    some (v39, false)) (
    let v42 : Int := (IntKind.wrap .i64 (x30 + (1 : Int)))
    selector_tests.c21 k r n x20 v39 x22 x23 x24 x25 x26 x27 x28 x29 v42 k4))) none) (
    k4 x20 x21 x22 x23 x24 x25 x26 x27)
def selector_tests.c13 (k : Nat) (r : selector_tests.G.R) : Nat → Int → Int → (List S52) → Int → Int → (List (List S96)) → Int → Int → (Int → Int → (List S52) → Int → Int → Option (Int × Bool)) → Option (Int × Bool)
  | 0, _, _, _, _, _, _, _, _, _ => none
  | n + 1, x9, x10, x11, x12, x13, x14, x15, x16, k2 =>
    cond (decide (x16 < x15)) (
    cond (decide (0 ≤ x16 ∧ x16 < (x14.length : Int))) (
    let v17 : Int := ((x14.getD x16.toNat []).length : Int)
    let v18 : Int := (IntKind.wrap .i64 (x10 + v17))
    let v19 : Int := ((x14.getD x16.toNat []).length : Int)
    selector_tests.c21 k r k x9 v18 x11 x12 x13 x14 x15 x16 (x14.getD x16.toNat []) v19 (0 : Int) (fun (y43 : Int) (y44 : Int) (y45 : List S52) (y46 : Int) (y47 : Int) (y48 : List (List S96)) (y49 : Int) (y50 : Int) =>
    let v51 : Int := (IntKind.wrap .i64 (y50 + (1 : Int)))
    selector_tests.c13 k r n y43 y44 y45 y46 y47 y48 y49 v51 k2)) none) (
    k2 x9 x10 x11 x12 x13)
def selector_tests.c7 (k : Nat) (r : selector_tests.G.R) : Nat → Int → Int → (List S52) → Int → Int → (Int → Option (Int × Bool)) → Option (Int × Bool)
  | 0, _, _, _, _, _, _ => none
  | n + 1, x3, x4, x5, x6, x7, k0 =>
    cond (decide (x7 < x6)) (
    cond (decide (0 ≤ x7 ∧ x7 < (x5.length : Int))) (
    let v8 : Int := (((x5.getD x7.toNat S52.d).Steps).length : Int)
    selector_tests.c13 k r k x3 x4 x5 x6 x7 ((x5.getD x7.toNat S52.d).Steps) v8 (0 : Int) (fun (y52 : Int) (y53 : Int) (y54 : List S52) (y55 : Int) (y56 : Int) =>
    let v57 : Int := (IntKind.wrap .i64 (y56 + (1 : Int)))
    selector_tests.c7 k r n y52 y53 y54 y55 v57 k0)) none) (
    k0 x4)
def selector_tests.nat (k : Nat) (r : selector_tests.G.R) (a1 : List S52) (a2 : Int) : Option (Int × Bool) :=
selector_tests.c7 k r k a2 (0 : Int) a1 (a1.length : Int) (0 : Int) (fun (y58 : Int) =>
some (y58, (decide (y58 ≤ (40 : Int)))))
def selector_tests.G.rec (k : Nat) : Nat → selector_tests.G.R
  | 0 => ⟨fun _ _ => none⟩
  | n + 1 => ⟨selector_tests.nat k (selector_tests.G.rec k n)⟩
def selector_tests (k : Nat) : (List S52) → Int → Option (Int × Bool) := (selector_tests.G.rec k k).selector_tests
def selector_tests.G.tab (k : Nat) (r : selector_tests.G.R) : Tab T := addTab 39 (line io67 io53 ((0 : Int), false) (fun v => r.selector_tests v.1 v.2)) (tab42 k)
def selector_tests.kr (w0 : World) (k : Nat) (r : selector_tests.G.R) : Kr T (Int × Bool) := (kret (retK (cfg w0 (selector_tests.G.tab k r)) Tryz.f39.results.toList 0 [] io53.pat))
def selector_tests.x21 : Ex → Option (List Nat × List Sp)
  | .exit 4 => some ([1, 6, 15, 16, 17, 22, 23, 24], [])
  | _ => none
def selector_tests.L21 (k : Nat) (r : selector_tests.G.R) (n : Nat) (v : Int × Int × (List S52) × Int × Int × (List (List S96)) × Int × Int × (List S96) × Int × Int) (K : Ex → St T → Option (Int × Bool)) : Option (Int × Bool) := selector_tests.c21 k r n v.1 v.2.1 v.2.2.1 v.2.2.2.1 v.2.2.2.2.1 v.2.2.2.2.2.1 v.2.2.2.2.2.2.1 v.2.2.2.2.2.2.2.1 v.2.2.2.2.2.2.2.2.1 v.2.2.2.2.2.2.2.2.2.1 v.2.2.2.2.2.2.2.2.2.2 (fun y230 y231 y232 y233 y234 y235 y236 y237 => K (.exit 4) (mkSt [1, 6, 15, 16, 17, 22, 23, 24] (io69.enc (y230, y231, y232, y233, y234, y235, y236, y237))))
def selector_tests.x13 : Ex → Option (List Nat × List Sp)
  | .exit 2 => some ([1, 6, 15, 16, 17], [])
  | _ => none
def selector_tests.L13 (k : Nat) (r : selector_tests.G.R) (n : Nat) (v : Int × Int × (List S52) × Int × Int × (List (List S96)) × Int × Int) (K : Ex → St T → Option (Int × Bool)) : Option (Int × Bool) := selector_tests.c13 k r n v.1 v.2.1 v.2.2.1 v.2.2.2.1 v.2.2.2.2.1 v.2.2.2.2.2.1 v.2.2.2.2.2.2.1 v.2.2.2.2.2.2.2 (fun y238 y239 y240 y241 y242 => K (.exit 2) (mkSt [1, 6, 15, 16, 17] (io70.enc (y238, y239, y240, y241, y242))))
def selector_tests.x7 : Ex → Option (List Nat × List Sp)
  | .exit 0 => some ([6], [])
  | _ => none
def selector_tests.L7 (k : Nat) (r : selector_tests.G.R) (n : Nat) (v : Int × Int × (List S52) × Int × Int) (K : Ex → St T → Option (Int × Bool)) : Option (Int × Bool) := selector_tests.c7 k r n v.1 v.2.1 v.2.2.1 v.2.2.2.1 v.2.2.2.2 (fun y243 => K (.exit 0) (mkSt [6] (io4.enc y243)))
def selector_tests.cuts (w0 : World) (k : Nat) (r : selector_tests.G.R) : Cuts T (Int × Bool) := fun n => bif n.beq 21 then some (entK (cfg w0 (selector_tests.G.tab k r)) 0 [1, 6, 15, 16, 17, 22, 23, 24, 32, 33, 34] [] io68.pat (selector_tests.L21 k r k)) else bif n.beq 13 then some (entK (cfg w0 (selector_tests.G.tab k r)) 0 [1, 6, 15, 16, 17, 22, 23, 24] [] io69.pat (selector_tests.L13 k r k)) else bif n.beq 7 then some (entK (cfg w0 (selector_tests.G.tab k r)) 0 [1, 6, 15, 16, 17] [] io70.pat (selector_tests.L7 k r k)) else none
def selector_tests.body : Code := bodyOf Tryz.f39
def selector_tests.b21 : Code := findD 21 selector_tests.body
theorem selector_tests.s21 (w0 : World) (k : Nat) (r : selector_tests.G.R) : ∀ n v K, selector_tests.L21 k r (n + 1) v K = runK (cfg w0 (selector_tests.G.tab k r)) Tryz.f39.ntmps (selector_tests.kr w0 k r) (annot (selector_tests.cuts w0 k r) selector_tests.b21) (mkSt [1, 6, 15, 16, 17, 22, 23, 24, 32, 33, 34] (io68.enc v)) (loopK (cfg w0 (selector_tests.G.tab k r)) 0 selector_tests.x21 (entK (cfg w0 (selector_tests.G.tab k r)) 0 [1, 6, 15, 16, 17, 22, 23, 24, 32, 33, 34] [] io68.pat (selector_tests.L21 k r n)) K) := by
  intro n v K; kernel_rfl
def selector_tests.b13 : Code := findD 13 selector_tests.body
theorem selector_tests.s13 (w0 : World) (k : Nat) (r : selector_tests.G.R) : ∀ n v K, selector_tests.L13 k r (n + 1) v K = runK (cfg w0 (selector_tests.G.tab k r)) Tryz.f39.ntmps (selector_tests.kr w0 k r) (annot (selector_tests.cuts w0 k r) selector_tests.b13) (mkSt [1, 6, 15, 16, 17, 22, 23, 24] (io69.enc v)) (loopK (cfg w0 (selector_tests.G.tab k r)) 0 selector_tests.x13 (entK (cfg w0 (selector_tests.G.tab k r)) 0 [1, 6, 15, 16, 17, 22, 23, 24] [] io69.pat (selector_tests.L13 k r n)) K) := by
  intro n v K; kernel_rfl
def selector_tests.b7 : Code := findD 7 selector_tests.body
theorem selector_tests.s7 (w0 : World) (k : Nat) (r : selector_tests.G.R) : ∀ n v K, selector_tests.L7 k r (n + 1) v K = runK (cfg w0 (selector_tests.G.tab k r)) Tryz.f39.ntmps (selector_tests.kr w0 k r) (annot (selector_tests.cuts w0 k r) selector_tests.b7) (mkSt [1, 6, 15, 16, 17] (io70.enc v)) (loopK (cfg w0 (selector_tests.G.tab k r)) 0 selector_tests.x7 (entK (cfg w0 (selector_tests.G.tab k r)) 0 [1, 6, 15, 16, 17] [] io70.pat (selector_tests.L7 k r n)) K) := by
  intro n v K; kernel_rfl
theorem selector_tests.e (w0 : World) (k : Nat) (r : selector_tests.G.R) : ∀ v, (fun v => selector_tests.nat k r v.1 v.2) v = runK (cfg w0 (selector_tests.G.tab k r)) Tryz.f39.ntmps (selector_tests.kr w0 k r) (annot (selector_tests.cuts w0 k r) selector_tests.body) (entry (io67.enc v).1 (io67.enc v).2) (endK (selector_tests.kr w0 k r)) := by
  intro v; kernel_rfl
theorem selector_tests.hb : Tryz.f39.body = some selector_tests.body := by kernel_rfl
def tab43 (k : Nat) : Tab T := selector_tests.G.tab k (selector_tests.G.rec k k)
def strings_IndexByte (k : Nat) (a20 : List UInt8) (a21 : Int) : Option (Int) := some (ixbS a20 a21)
def tab44 (k : Nat) : Tab T := addTab 72 (line io71 io4 (0 : Int) (fun v => strings_IndexByte k v.1 v.2)) (tab43 k)
def selector_counts (k : Nat) (a1 : Int) (a2 : List UInt8) (a3 : Int) (a4 : List UInt8) (a5 : Int) (a6 : Int) (a7 : List S52) : Option (Bool) :=
let v8 : Bool := (cond (a1 == (8 : Int)) true (a1 == (9 : Int)))
some v8
def selector_counts.kr (w0 : World) (k : Nat) : Kr T (Bool) := (kret (retK (cfg w0 (tab44 k)) Tryz.f106.results.toList 0 [] io2.pat))
def selector_counts.cuts (w0 : World) (k : Nat) : Cuts T (Bool) := fun n => none
def selector_counts.body : Code := bodyOf Tryz.f106
theorem selector_counts.e (w0 : World) (k : Nat) : ∀ v, (fun v => selector_counts k v.1 v.2.1 v.2.2.1 v.2.2.2.1 v.2.2.2.2.1 v.2.2.2.2.2.1 v.2.2.2.2.2.2) v = runK (cfg w0 (tab44 k)) Tryz.f106.ntmps (selector_counts.kr w0 k) (annot (selector_counts.cuts w0 k) selector_counts.body) (entry (io72.enc v).1 (io72.enc v).2) (endK (selector_counts.kr w0 k)) := by
  intro v; kernel_rfl
theorem selector_counts.hb : Tryz.f106.body = some selector_counts.body := by kernel_rfl
def tab45 (k : Nat) : Tab T := addTab 106 (line io72 io2 false (fun v => selector_counts k v.1 v.2.1 v.2.2.1 v.2.2.2.1 v.2.2.2.2.1 v.2.2.2.2.2.1 v.2.2.2.2.2.2)) (tab44 k)
def selector_nested (k : Nat) (a1 : Int) (a2 : List UInt8) (a3 : Int) (a4 : List UInt8) (a5 : Int) (a6 : Int) (a7 : List S52) : Option (Bool) :=
let v8 : Bool := (cond (a1 == (10 : Int)) true (a1 == (11 : Int)))
some v8
def selector_nested.kr (w0 : World) (k : Nat) : Kr T (Bool) := (kret (retK (cfg w0 (tab45 k)) Tryz.f107.results.toList 0 [] io2.pat))
def selector_nested.cuts (w0 : World) (k : Nat) : Cuts T (Bool) := fun n => none
def selector_nested.body : Code := bodyOf Tryz.f107
theorem selector_nested.e (w0 : World) (k : Nat) : ∀ v, (fun v => selector_nested k v.1 v.2.1 v.2.2.1 v.2.2.2.1 v.2.2.2.2.1 v.2.2.2.2.2.1 v.2.2.2.2.2.2) v = runK (cfg w0 (tab45 k)) Tryz.f107.ntmps (selector_nested.kr w0 k) (annot (selector_nested.cuts w0 k) selector_nested.body) (entry (io72.enc v).1 (io72.enc v).2) (endK (selector_nested.kr w0 k)) := by
  intro v; kernel_rfl
theorem selector_nested.hb : Tryz.f107.body = some selector_nested.body := by kernel_rfl
def tab46 (k : Nat) : Tab T := addTab 107 (line io72 io2 false (fun v => selector_nested k v.1 v.2.1 v.2.2.1 v.2.2.2.1 v.2.2.2.2.1 v.2.2.2.2.2.1 v.2.2.2.2.2.2)) (tab45 k)
end
end Go.Ev.Mc
