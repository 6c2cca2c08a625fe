/- A part of the evaluator of Go code over small heaps and of its proof: no condition beyond those that each theorem names. -/
import Derived.Test.YtafbhggbkhckaaaEvLib
import Derived.Test.YtafbhggbkhckaaaProg
import Derived.KernelRfl
set_option linter.unusedVariables false
set_option maxRecDepth 100000
namespace Go.Ev.An
noncomputable section
open Go.Proofs Go.Ev

structure S53 where
  At : Int
  Val_Kind : Int
  Val_N : Int
def S53.d : S53 := ⟨0, 0, 0⟩
structure S50 where
  From : Int
  Length : Int
  Times : Int
  Turn : Bool
  Stays : Bool
  Ease_Kind : Int
  Ease_Curve_0 : Int
  Ease_Curve_1 : Int
  Ease_Curve_2 : Int
  Ease_Curve_3 : Int
  Ease_N : Int
  Frames : List S53
def S50.d : S50 := ⟨0, 0, 0, false, false, 0, 0, 0, 0, 0, 0, []⟩
def base : TypeId → (α : Type) × α
  | 3 => ⟨Int, (0 : Int)⟩
  | 53 => ⟨S53, S53.d⟩
  | 50 => ⟨S50, S50.d⟩
  | _ => ⟨Unit, ()⟩
def T (t : TypeId) : Type := (base t).1
def dflt (t : TypeId) : T t := (base t).2
def dl (t : TypeId) : D T → Option (List (T t))
  | .l t' xs => asT t t' xs
  | .ns => some []
  | _ => none
theorem dl_le {t : TypeId} {d : D T} {l : List (T t)} (h : dl t d = some l) : leD d (.l t l) := by
  unfold dl at h
  split at h
  · rw [asT_l h]; exact .refl _
  · cases h; exact .ns _
  · cases h
def enc3 (x : Int) : List (D T) := [.i .i64 x]
def dec3 (ds : List (D T)) : Option (Int) := match ds with
  | [.i .i64 x0] => some x0
  | _ => none
theorem dec3_ok {ds : List (D T)} {x : Int} (h : dec3 ds = some x) : leDs ds (enc3 x) := by
  unfold dec3 at h
  split at h
  · cases h
    exact .cons (.refl _) <| .nil
  · cases h
def enc53 (x : S53) : List (D T) := [.i .i64 x.At, .i .i64 x.Val_Kind, .i .i64 x.Val_N]
def dec53 (ds : List (D T)) : Option (S53) := match ds with
  | [.i .i64 x0, .i .i64 x1, .i .i64 x2] => some ⟨x0, x1, x2⟩
  | _ => none
theorem dec53_ok {ds : List (D T)} {x : S53} (h : dec53 ds = some x) : leDs ds (enc53 x) := by
  unfold dec53 at h
  split at h
  · cases h
    exact .cons (.refl _) <| .cons (.refl _) <| .cons (.refl _) <| .nil
  · cases h
def enc50 (x : S50) : List (D T) := [.i .i64 x.From, .i .i64 x.Length, .i .i64 x.Times, .b x.Turn, .b x.Stays, .i .i64 x.Ease_Kind, .i .i64 x.Ease_Curve_0, .i .i64 x.Ease_Curve_1, .i .i64 x.Ease_Curve_2, .i .i64 x.Ease_Curve_3, .i .i64 x.Ease_N, .l 53 x.Frames]
def dec50 (ds : List (D T)) : Option (S50) := match ds with
  | [.i .i64 x0, .i .i64 x1, .i .i64 x2, .b x3, .b x4, .i .i64 x5, .i .i64 x6, .i .i64 x7, .i .i64 x8, .i .i64 x9, .i .i64 x10, d11] => (dl 53 d11).bind fun l11 => some ⟨x0, x1, x2, x3, x4, x5, x6, x7, x8, x9, x10, l11⟩
  | _ => none
theorem dec50_ok {ds : List (D T)} {x : S50} (h : dec50 ds = some x) : leDs ds (enc50 x) := by
  unfold dec50 at h
  split at h
  · obtain ⟨l11, h11, h⟩ := Option.bind_eq_some_iff.1 h
    cases h
    exact .cons (.refl _) <| .cons (.refl _) <| .cons (.refl _) <| .cons (.refl _) <| .cons (.refl _) <| .cons (.refl _) <| .cons (.refl _) <| .cons (.refl _) <| .cons (.refl _) <| .cons (.refl _) <| .cons (.refl _) <| .cons (dl_le h11) <| .nil
  · cases h
def enc : (t : TypeId) → T t → List (D T)
  | 3, x => enc3 x
  | 53, x => enc53 x
  | 50, x => enc50 x
  | _, _ => []
def dec (t : TypeId) (ds : List (D T)) : Option (T t) := if h : t = 3 then (h ▸ (dec3 ds : Option (T 3))) else if h : t = 53 then (h ▸ (dec53 ds : Option (T 53))) else if h : t = 50 then (h ▸ (dec50 ds : Option (T 50))) else none
theorem dec_ok (t : TypeId) (ds : List (D T)) (x : T t) (h : dec t ds = some x) : leDs ds (enc t x) := by
  unfold dec at h
  by_cases h3 : t = 3
  · subst h3; exact dec3_ok (show dec3 ds = some x from h)
  rw [dif_neg h3] at h
  by_cases h53 : t = 53
  · subst h53; exact dec53_ok (show dec53 ds = some x from h)
  rw [dif_neg h53] at h
  by_cases h50 : t = 50
  · subst h50; exact dec50_ok (show dec50 ds = some x from h)
  rw [dif_neg h50] at h
  cases h
def knl : List TypeId := [3, 53, 50]
def cod : Cod T := ⟨fun t => knl.any (·.beq t), enc, dec, dflt⟩
def eql : List TypeId := [27, 29, 39]
def cfg (t : Tab T) : Cfg T := ⟨Try.prog, cod, t, fun t => eql.any (·.beq t)⟩
theorem mem_of {l : List TypeId} {t : TypeId} (h : l.any (·.beq t) = true) : t ∈ l := by
  rw [List.any_eq_true] at h
  obtain ⟨x, hx, hb⟩ := h
  rw [← Nat.eq_of_beq_eq_true hb]; exact hx
theorem len3 : 1 = Try.prog.cellsOf 3 := by kernel_rfl
theorem len53 : 3 = Try.prog.cellsOf 53 := by kernel_rfl
theorem len50 : 12 = Try.prog.cellsOf 50 := by kernel_rfl
theorem fl50 : flatT Try.prog 20 50 = false := by kernel_rfl
theorem eqk27 : Try.prog.stoodInHeld 27 = false ∧ Try.prog.eqGuardType Try.prog.depth 27 = false := ⟨by kernel_rfl, by kernel_rfl⟩
theorem eqk29 : Try.prog.stoodInHeld 29 = false ∧ Try.prog.eqGuardType Try.prog.depth 29 = false := ⟨by kernel_rfl, by kernel_rfl⟩
theorem eqk39 : Try.prog.stoodInHeld 39 = false ∧ Try.prog.eqGuardType Try.prog.depth 39 = false := ⟨by kernel_rfl, by kernel_rfl⟩
theorem fl : Try.prog.follows .mixedOrders = true := by kernel_rfl
theorem fine (t : Tab T) (h : CfOk (cfg t)) : Fine (cfg t) where
  cod := by
    refine ⟨fun t ht x => ?_, fun t ds x h => ?_⟩
    · have hm := mem_of (l := knl) ht
      simp only [knl, List.mem_cons, List.not_mem_nil, or_false] at hm
      rcases hm with rfl | rfl | rfl
      · exact len3
      · exact len53
      · exact len50
    · exact dec_ok t ds x h
  eqk := fun t h => by
    have hm := mem_of (l := eql) h
    simp only [eql, List.mem_cons, List.not_mem_nil, or_false] at hm
    rcases hm with rfl | rfl | rfl
    · exact eqk27
    · exact eqk29
    · exact eqk39
  flat := fun t hf hk x d hd => by
    have hm := mem_of (l := knl) hk
    simp only [knl, List.mem_cons, List.not_mem_nil, or_false] at hm
    rcases hm with rfl | rfl | rfl
    · have hd : d ∈ enc3 x := hd
      simp only [enc3, List.mem_cons, List.not_mem_nil, or_false] at hd
      rcases hd with rfl <;> rfl
    · have hd : d ∈ enc53 x := hd
      simp only [enc53, List.mem_cons, List.not_mem_nil, or_false] at hd
      rcases hd with rfl | rfl | rfl <;> rfl
    · exact absurd hf (by rw [show flatT (cfg _).P 20 50 = false from fl50]; exact Bool.false_ne_true)
  cf := h
theorem dr (t : Tab T) (h : CfOk (cfg t)) : DrawOk (cfg t) := drawOk_ok (fine t h) fl
def io0 : Io T ((List UInt8) × (List UInt8) × Int × Bool × Int × Int) where
  enc v := ([.agg [.d (.s v.1), .d (.s v.2.1), .d (.i .i64 v.2.2.1), .d (.b v.2.2.2.1), .d (.i .i64 v.2.2.2.2.1), .d (.i .i64 v.2.2.2.2.2)]], [])
  pat
    | ([.agg [.d (.s p1), .d (.s p2), .d (.i .i64 p3), .d (.b p4), .d (.i .i64 p5), .d (.i .i64 p6)]], []) => some (p1, p2, p3, p4, p5, p6)
    | _ => none
  ok z v h := by
    split at h
    · cases h
      all_goals rfl
    · cases h
def io1 : Io T (Int) where
  enc v := ([.d (.i .i64 v)], [])
  pat
    | ([.d (.i .i64 p1)], []) => some p1
    | _ => none
  ok z v h := by
    split at h
    · cases h
      all_goals rfl
    · cases h
def io2 : Io T (Bool) where
  enc v := ([.d (.b v)], [])
  pat
    | ([.d (.b p1)], []) => some p1
    | _ => none
  ok z v h := by
    split at h
    · cases h
      all_goals rfl
    · cases h
def io3 : Io T (Int × Int) where
  enc v := ([.d (.i .i64 v.1), .d (.i .i64 v.2)], [])
  pat
    | ([.d (.i .i64 p1), .d (.i .i64 p2)], []) => some (p1, p2)
    | _ => none
  ok z v h := by
    split at h
    · cases h
      all_goals rfl
    · cases h
def io4 : Io T (List Int) where
  enc v := ([.d (.l 3 v)], [])
  pat
    | ([.d (.l tp1 p1)], []) => (asT 3 tp1 p1).bind fun q1 => some q1
    | _ => none
  ok z v h := by
    split at h
    · obtain ⟨q1, hp1, h⟩ := Option.bind_eq_some_iff.1 h
      cases h
      rw [asT_l hp1]
      all_goals rfl
    · cases h
def io5 : Io T (Int × (List Int) × Int × Int) where
  enc v := ([.d (.i .i64 v.1), .d (.l 3 v.2.1), .d (.i .i64 v.2.2.1), .d (.i .i64 v.2.2.2)], [])
  pat
    | ([.d (.i .i64 p1), .d (.l tp2 p2), .d (.i .i64 p3), .d (.i .i64 p4)], []) => (asT 3 tp2 p2).bind fun q2 => some (p1, q2, p3, p4)
    | _ => none
  ok z v h := by
    split at h
    · obtain ⟨q2, hp2, h⟩ := Option.bind_eq_some_iff.1 h
      cases h
      rw [asT_l hp2]
      all_goals rfl
    · cases h
def io6 : Io T ((List UInt8) × (List UInt8) × Int × Bool × Int × Int × (List UInt8) × (List UInt8) × Int × Bool × Int × Int) where
  enc v := ([.agg [.d (.s v.1), .d (.s v.2.1), .d (.i .i64 v.2.2.1), .d (.b v.2.2.2.1), .d (.i .i64 v.2.2.2.2.1), .d (.i .i64 v.2.2.2.2.2.1)], .agg [.d (.s v.2.2.2.2.2.2.1), .d (.s v.2.2.2.2.2.2.2.1), .d (.i .i64 v.2.2.2.2.2.2.2.2.1), .d (.b v.2.2.2.2.2.2.2.2.2.1), .d (.i .i64 v.2.2.2.2.2.2.2.2.2.2.1), .d (.i .i64 v.2.2.2.2.2.2.2.2.2.2.2)]], [])
  pat
    | ([.agg [.d (.s p1), .d (.s p2), .d (.i .i64 p3), .d (.b p4), .d (.i .i64 p5), .d (.i .i64 p6)], .agg [.d (.s p7), .d (.s p8), .d (.i .i64 p9), .d (.b p10), .d (.i .i64 p11), .d (.i .i64 p12)]], []) => some (p1, p2, p3, p4, p5, p6, p7, p8, p9, p10, p11, p12)
    | _ => none
  ok z v h := by
    split at h
    · cases h
      all_goals rfl
    · cases h
def io7 : Io T (Unit) where
  enc v := ([], [])
  pat
    | ([], []) => some ()
    | _ => none
  ok z v h := by
    split at h <;> cases h; rfl
def io8 : Io T ((List UInt8) × (List UInt8) × Int × Bool × Int × Int × (List UInt8) × (List UInt8) × Int × Bool × Int × Int × (List UInt8) × (List UInt8) × Int × Bool × Int × Int) where
  enc v := ([.agg [.d (.s v.1), .d (.s v.2.1), .d (.i .i64 v.2.2.1), .d (.b v.2.2.2.1), .d (.i .i64 v.2.2.2.2.1), .d (.i .i64 v.2.2.2.2.2.1)], .agg [.d (.s v.2.2.2.2.2.2.1), .d (.s v.2.2.2.2.2.2.2.1), .d (.i .i64 v.2.2.2.2.2.2.2.2.1), .d (.b v.2.2.2.2.2.2.2.2.2.1), .d (.i .i64 v.2.2.2.2.2.2.2.2.2.2.1), .d (.i .i64 v.2.2.2.2.2.2.2.2.2.2.2.1)], .agg [.d (.s v.2.2.2.2.2.2.2.2.2.2.2.2.1), .d (.s v.2.2.2.2.2.2.2.2.2.2.2.2.2.1), .d (.i .i64 v.2.2.2.2.2.2.2.2.2.2.2.2.2.2.1), .d (.b v.2.2.2.2.2.2.2.2.2.2.2.2.2.2.2.1), .d (.i .i64 v.2.2.2.2.2.2.2.2.2.2.2.2.2.2.2.2.1), .d (.i .i64 v.2.2.2.2.2.2.2.2.2.2.2.2.2.2.2.2.2)]], [])
  pat
    | ([.agg [.d (.s p1), .d (.s p2), .d (.i .i64 p3), .d (.b p4), .d (.i .i64 p5), .d (.i .i64 p6)], .agg [.d (.s p7), .d (.s p8), .d (.i .i64 p9), .d (.b p10), .d (.i .i64 p11), .d (.i .i64 p12)], .agg [.d (.s p13), .d (.s p14), .d (.i .i64 p15), .d (.b p16), .d (.i .i64 p17), .d (.i .i64 p18)]], []) => some (p1, p2, p3, p4, p5, p6, p7, p8, p9, p10, p11, p12, p13, p14, p15, p16, p17, p18)
    | _ => none
  ok z v h := by
    split at h
    · cases h
      all_goals rfl
    · cases h
def io9 : Io T (Int × Int × Int) where
  enc v := ([.d (.i .i64 v.1), .d (.i .i64 v.2.1), .d (.i .i64 v.2.2)], [])
  pat
    | ([.d (.i .i64 p1), .d (.i .i64 p2), .d (.i .i64 p3)], []) => some (p1, p2, p3)
    | _ => none
  ok z v h := by
    split at h
    · cases h
      all_goals rfl
    · cases h
def io10 : Io T (Int × Int × Int × Int × Int × Int) where
  enc v := ([.agg [.d (.i .i64 v.1), .d (.i .i64 v.2.1), .d (.i .i64 v.2.2.1), .d (.i .i64 v.2.2.2.1), .d (.i .i64 v.2.2.2.2.1), .d (.i .i64 v.2.2.2.2.2)]], [])
  pat
    | ([.agg [.d (.i .i64 p1), .d (.i .i64 p2), .d (.i .i64 p3), .d (.i .i64 p4), .d (.i .i64 p5), .d (.i .i64 p6)]], []) => some (p1, p2, p3, p4, p5, p6)
    | _ => none
  ok z v h := by
    split at h
    · cases h
      all_goals rfl
    · cases h
def io11 : Io T (Int × Int × Int × Int × Int × Int × Int × Int × Int × Int × Int) where
  enc v := ([.ptr 0 0, .agg [.d (.i .i64 v.1), .d (.i .i64 v.2.1), .d (.i .i64 v.2.2.1), .d (.i .i64 v.2.2.2.1)], .d (.i .i64 v.2.2.2.2.1)], [.box [.d (.i .i64 v.2.2.2.2.2.1), .d (.i .i64 v.2.2.2.2.2.2.1), .d (.i .i64 v.2.2.2.2.2.2.2.1), .d (.i .i64 v.2.2.2.2.2.2.2.2.1), .d (.i .i64 v.2.2.2.2.2.2.2.2.2.1), .d (.i .i64 v.2.2.2.2.2.2.2.2.2.2)]])
  pat
    | ([.ptr 0 0, .agg [.d (.i .i64 p1), .d (.i .i64 p2), .d (.i .i64 p3), .d (.i .i64 p4)], .d (.i .i64 p5)], [.box [.d (.i .i64 p6), .d (.i .i64 p7), .d (.i .i64 p8), .d (.i .i64 p9), .d (.i .i64 p10), .d (.i .i64 p11)]]) => some (p1, p2, p3, p4, p5, p6, p7, p8, p9, p10, p11)
    | _ => none
  ok z v h := by
    split at h
    · cases h
      all_goals rfl
    · cases h
def io12 : Io T (Int × Int × Int × Int × Int × Int) where
  enc v := ([.ptr 0 0], [.box [.d (.i .i64 v.1), .d (.i .i64 v.2.1), .d (.i .i64 v.2.2.1), .d (.i .i64 v.2.2.2.1), .d (.i .i64 v.2.2.2.2.1), .d (.i .i64 v.2.2.2.2.2)]])
  pat
    | ([.ptr 0 0], [.box [.d (.i .i64 p1), .d (.i .i64 p2), .d (.i .i64 p3), .d (.i .i64 p4), .d (.i .i64 p5), .d (.i .i64 p6)]]) => some (p1, p2, p3, p4, p5, p6)
    | _ => none
  ok z v h := by
    split at h
    · cases h
      all_goals rfl
    · cases h
def io13 : Io T (Int × Int × Int × Int × Int × Int × Int) where
  enc v := ([.agg [.d (.i .i64 v.1), .d (.i .i64 v.2.1), .d (.i .i64 v.2.2.1), .d (.i .i64 v.2.2.2.1), .d (.i .i64 v.2.2.2.2.1), .d (.i .i64 v.2.2.2.2.2.1)], .d (.i .i64 v.2.2.2.2.2.2)], [])
  pat
    | ([.agg [.d (.i .i64 p1), .d (.i .i64 p2), .d (.i .i64 p3), .d (.i .i64 p4), .d (.i .i64 p5), .d (.i .i64 p6)], .d (.i .i64 p7)], []) => some (p1, p2, p3, p4, p5, p6, p7)
    | _ => none
  ok z v h := by
    split at h
    · cases h
      all_goals rfl
    · cases h
def io14 : Io T (Int × Int × Int × Int × Int × Int × Int × Int × Int) where
  enc v := ([.d (.i .i64 v.1), .ptr 0 0, .d (.i .i64 v.2.1), .d (.i .i64 v.2.2.1)], [.box [.d (.i .i64 v.2.2.2.1), .d (.i .i64 v.2.2.2.2.1), .d (.i .i64 v.2.2.2.2.2.1), .d (.i .i64 v.2.2.2.2.2.2.1), .d (.i .i64 v.2.2.2.2.2.2.2.1), .d (.i .i64 v.2.2.2.2.2.2.2.2)]])
  pat
    | ([.d (.i .i64 p1), .ptr 0 0, .d (.i .i64 p2), .d (.i .i64 p3)], [.box [.d (.i .i64 p4), .d (.i .i64 p5), .d (.i .i64 p6), .d (.i .i64 p7), .d (.i .i64 p8), .d (.i .i64 p9)]]) => some (p1, p2, p3, p4, p5, p6, p7, p8, p9)
    | _ => none
  ok z v h := by
    split at h
    · cases h
      all_goals rfl
    · cases h
def io15 : Io T (Int × Int × Int × Int × Int × Int × Int) where
  enc v := ([.ptr 0 0, .d (.i .i64 v.1)], [.box [.d (.i .i64 v.2.1), .d (.i .i64 v.2.2.1), .d (.i .i64 v.2.2.2.1), .d (.i .i64 v.2.2.2.2.1), .d (.i .i64 v.2.2.2.2.2.1), .d (.i .i64 v.2.2.2.2.2.2)]])
  pat
    | ([.ptr 0 0, .d (.i .i64 p1)], [.box [.d (.i .i64 p2), .d (.i .i64 p3), .d (.i .i64 p4), .d (.i .i64 p5), .d (.i .i64 p6), .d (.i .i64 p7)]]) => some (p1, p2, p3, p4, p5, p6, p7)
    | _ => none
  ok z v h := by
    split at h
    · cases h
      all_goals rfl
    · cases h
def io16 : Io T (Int × Int × Int × Int × Int × Int × Int × Int) where
  enc v := ([.agg [.d (.i .i64 v.1), .d (.i .i64 v.2.1), .d (.i .i64 v.2.2.1), .d (.i .i64 v.2.2.2.1), .d (.i .i64 v.2.2.2.2.1), .d (.i .i64 v.2.2.2.2.2.1)], .d (.i .i64 v.2.2.2.2.2.2.1), .d (.i .i64 v.2.2.2.2.2.2.2)], [])
  pat
    | ([.agg [.d (.i .i64 p1), .d (.i .i64 p2), .d (.i .i64 p3), .d (.i .i64 p4), .d (.i .i64 p5), .d (.i .i64 p6)], .d (.i .i64 p7), .d (.i .i64 p8)], []) => some (p1, p2, p3, p4, p5, p6, p7, p8)
    | _ => none
  ok z v h := by
    split at h
    · cases h
      all_goals rfl
    · cases h
def io17 : Io T (Int × Int × Int × Int × Int) where
  enc v := ([.agg [.d (.i .i64 v.1), .d (.i .i64 v.2.1)], .agg [.d (.i .i64 v.2.2.1), .d (.i .i64 v.2.2.2.1)], .d (.i .i64 v.2.2.2.2)], [])
  pat
    | ([.agg [.d (.i .i64 p1), .d (.i .i64 p2)], .agg [.d (.i .i64 p3), .d (.i .i64 p4)], .d (.i .i64 p5)], []) => some (p1, p2, p3, p4, p5)
    | _ => none
  ok z v h := by
    split at h
    · cases h
      all_goals rfl
    · cases h
def io18 : Io T (Int × Int) where
  enc v := ([.agg [.d (.i .i64 v.1), .d (.i .i64 v.2)]], [])
  pat
    | ([.agg [.d (.i .i64 p1), .d (.i .i64 p2)]], []) => some (p1, p2)
    | _ => none
  ok z v h := by
    split at h
    · cases h
      all_goals rfl
    · cases h
def io19 : Io T (Int × Int × Int × Int × Int × Int × Int × Int × Int) where
  enc v := ([.d (.i .i64 v.1), .ptr 0 0, .ptr 1 0, .ptr 2 0, .d (.i .i64 v.2.1), .d (.i .i64 v.2.2.1)], [.box [.d (.i .i64 v.2.2.2.1), .d (.i .i64 v.2.2.2.2.1)], .box [.d (.i .i64 v.2.2.2.2.2.1), .d (.i .i64 v.2.2.2.2.2.2.1)], .box [.d (.i .i64 v.2.2.2.2.2.2.2.1), .d (.i .i64 v.2.2.2.2.2.2.2.2)]])
  pat
    | ([.d (.i .i64 p1), .ptr 0 0, .ptr 1 0, .ptr 2 0, .d (.i .i64 p2), .d (.i .i64 p3)], [.box [.d (.i .i64 p4), .d (.i .i64 p5)], .box [.d (.i .i64 p6), .d (.i .i64 p7)], .box [.d (.i .i64 p8), .d (.i .i64 p9)]]) => some (p1, p2, p3, p4, p5, p6, p7, p8, p9)
    | _ => none
  ok z v h := by
    split at h
    · cases h
      all_goals rfl
    · cases h
def io20 : Io T (Int × Int × Int) where
  enc v := ([.ptr 0 0, .d (.i .i64 v.1)], [.box [.d (.i .i64 v.2.1), .d (.i .i64 v.2.2)]])
  pat
    | ([.ptr 0 0, .d (.i .i64 p1)], [.box [.d (.i .i64 p2), .d (.i .i64 p3)]]) => some (p1, p2, p3)
    | _ => none
  ok z v h := by
    split at h
    · cases h
      all_goals rfl
    · cases h
def io21 : Io T (Int × Int × Int × Int) where
  enc v := ([.d (.i .i64 v.1), .d (.i .i64 v.2.1), .d (.i .i64 v.2.2.1), .d (.i .i64 v.2.2.2)], [])
  pat
    | ([.d (.i .i64 p1), .d (.i .i64 p2), .d (.i .i64 p3), .d (.i .i64 p4)], []) => some (p1, p2, p3, p4)
    | _ => none
  ok z v h := by
    split at h
    · cases h
      all_goals rfl
    · cases h
def io22 : Io T (Int × Int × Int × Bool × Bool × Int × Int × Int × Int × Int × Int × (List S53)) where
  enc v := ([.agg [.d (.i .i64 v.1), .d (.i .i64 v.2.1), .d (.i .i64 v.2.2.1), .d (.b v.2.2.2.1), .d (.b v.2.2.2.2.1), .d (.i .i64 v.2.2.2.2.2.1), .d (.i .i64 v.2.2.2.2.2.2.1), .d (.i .i64 v.2.2.2.2.2.2.2.1), .d (.i .i64 v.2.2.2.2.2.2.2.2.1), .d (.i .i64 v.2.2.2.2.2.2.2.2.2.1), .d (.i .i64 v.2.2.2.2.2.2.2.2.2.2.1), .d (.l 53 v.2.2.2.2.2.2.2.2.2.2.2)]], [])
  pat
    | ([.agg [.d (.i .i64 p1), .d (.i .i64 p2), .d (.i .i64 p3), .d (.b p4), .d (.b p5), .d (.i .i64 p6), .d (.i .i64 p7), .d (.i .i64 p8), .d (.i .i64 p9), .d (.i .i64 p10), .d (.i .i64 p11), .d (.l tp12 p12)]], []) => (asT 53 tp12 p12).bind fun q12 => some (p1, p2, p3, p4, p5, p6, p7, p8, p9, p10, p11, q12)
    | _ => none
  ok z v h := by
    split at h
    · obtain ⟨q12, hp12, h⟩ := Option.bind_eq_some_iff.1 h
      cases h
      rw [asT_l hp12]
      all_goals rfl
    · cases h
def io23 : Io T ((List S53) × Int × Int × Int × Int × Int × Bool × Bool × Int × Int × Int × Int × Int × Int × (List S53)) where
  enc v := ([.ptr 0 0, .d (.l 53 v.1), .d (.i .i64 v.2.1), .d (.i .i64 v.2.2.1)], [.box [.d (.i .i64 v.2.2.2.1), .d (.i .i64 v.2.2.2.2.1), .d (.i .i64 v.2.2.2.2.2.1), .d (.b v.2.2.2.2.2.2.1), .d (.b v.2.2.2.2.2.2.2.1), .d (.i .i64 v.2.2.2.2.2.2.2.2.1), .d (.i .i64 v.2.2.2.2.2.2.2.2.2.1), .d (.i .i64 v.2.2.2.2.2.2.2.2.2.2.1), .d (.i .i64 v.2.2.2.2.2.2.2.2.2.2.2.1), .d (.i .i64 v.2.2.2.2.2.2.2.2.2.2.2.2.1), .d (.i .i64 v.2.2.2.2.2.2.2.2.2.2.2.2.2.1), .d (.l 53 v.2.2.2.2.2.2.2.2.2.2.2.2.2.2)]])
  pat
    | ([.ptr 0 0, .d (.l tp1 p1), .d (.i .i64 p2), .d (.i .i64 p3)], [.box [.d (.i .i64 p4), .d (.i .i64 p5), .d (.i .i64 p6), .d (.b p7), .d (.b p8), .d (.i .i64 p9), .d (.i .i64 p10), .d (.i .i64 p11), .d (.i .i64 p12), .d (.i .i64 p13), .d (.i .i64 p14), .d (.l tp15 p15)]]) => (asT 53 tp1 p1).bind fun q1 => (asT 53 tp15 p15).bind fun q15 => some (q1, p2, p3, p4, p5, p6, p7, p8, p9, p10, p11, p12, p13, p14, q15)
    | _ => none
  ok z v h := by
    split at h
    · obtain ⟨q1, hp1, h⟩ := Option.bind_eq_some_iff.1 h
      obtain ⟨q15, hp15, h⟩ := Option.bind_eq_some_iff.1 h
      cases h
      rw [asT_l hp1]
      rw [asT_l hp15]
      all_goals rfl
    · cases h
def io24 : Io T ((List S50) × Int) where
  enc v := ([.d (.l 50 v.1), .d (.i .i64 v.2)], [])
  pat
    | ([.d (.l tp1 p1), .d (.i .i64 p2)], []) => (asT 50 tp1 p1).bind fun q1 => some (q1, p2)
    | _ => none
  ok z v h := by
    split at h
    · obtain ⟨q1, hp1, h⟩ := Option.bind_eq_some_iff.1 h
      cases h
      rw [asT_l hp1]
      all_goals rfl
    · cases h
def io25 : Io T (Int × (List S50) × Int × Int) where
  enc v := ([.d (.i .i64 v.1), .d (.l 50 v.2.1), .d (.i .i64 v.2.2.1), .d (.i .i64 v.2.2.2)], [])
  pat
    | ([.d (.i .i64 p1), .d (.l tp2 p2), .d (.i .i64 p3), .d (.i .i64 p4)], []) => (asT 50 tp2 p2).bind fun q2 => some (p1, q2, p3, p4)
    | _ => none
  ok z v h := by
    split at h
    · obtain ⟨q2, hp2, h⟩ := Option.bind_eq_some_iff.1 h
      cases h
      rw [asT_l hp2]
      all_goals rfl
    · cases h
def io26 : Io T (Int × Int × Int × Bool × Bool × Int × Int × Int × Int × Int × Int × (List S53) × Int) where
  enc v := ([.agg [.d (.i .i64 v.1), .d (.i .i64 v.2.1), .d (.i .i64 v.2.2.1), .d (.b v.2.2.2.1), .d (.b v.2.2.2.2.1), .d (.i .i64 v.2.2.2.2.2.1), .d (.i .i64 v.2.2.2.2.2.2.1), .d (.i .i64 v.2.2.2.2.2.2.2.1), .d (.i .i64 v.2.2.2.2.2.2.2.2.1), .d (.i .i64 v.2.2.2.2.2.2.2.2.2.1), .d (.i .i64 v.2.2.2.2.2.2.2.2.2.2.1), .d (.l 53 v.2.2.2.2.2.2.2.2.2.2.2.1)], .d (.i .i64 v.2.2.2.2.2.2.2.2.2.2.2.2)], [])
  pat
    | ([.agg [.d (.i .i64 p1), .d (.i .i64 p2), .d (.i .i64 p3), .d (.b p4), .d (.b p5), .d (.i .i64 p6), .d (.i .i64 p7), .d (.i .i64 p8), .d (.i .i64 p9), .d (.i .i64 p10), .d (.i .i64 p11), .d (.l tp12 p12)], .d (.i .i64 p13)], []) => (asT 53 tp12 p12).bind fun q12 => some (p1, p2, p3, p4, p5, p6, p7, p8, p9, p10, p11, q12, p13)
    | _ => none
  ok z v h := by
    split at h
    · obtain ⟨q12, hp12, h⟩ := Option.bind_eq_some_iff.1 h
      cases h
      rw [asT_l hp12]
      all_goals rfl
    · cases h
def io27 : Io T (Int × Int × Int × Int × Int × Bool × Bool × Int × Int × Int × Int × Int × Int × (List S53) × Int × Int) where
  enc v := ([.d (.i .i64 v.1), .ptr 0 0, .ptr 1 0, .d (.i .i64 v.2.1)], [.box [.d (.i .i64 v.2.2.1), .d (.i .i64 v.2.2.2.1), .d (.i .i64 v.2.2.2.2.1), .d (.b v.2.2.2.2.2.1), .d (.b v.2.2.2.2.2.2.1), .d (.i .i64 v.2.2.2.2.2.2.2.1), .d (.i .i64 v.2.2.2.2.2.2.2.2.1), .d (.i .i64 v.2.2.2.2.2.2.2.2.2.1), .d (.i .i64 v.2.2.2.2.2.2.2.2.2.2.1), .d (.i .i64 v.2.2.2.2.2.2.2.2.2.2.2.1), .d (.i .i64 v.2.2.2.2.2.2.2.2.2.2.2.2.1), .d (.l 53 v.2.2.2.2.2.2.2.2.2.2.2.2.2.1)], .box [.d (.i .i64 v.2.2.2.2.2.2.2.2.2.2.2.2.2.2.1), .d (.i .i64 v.2.2.2.2.2.2.2.2.2.2.2.2.2.2.2)]])
  pat
    | ([.d (.i .i64 p1), .ptr 0 0, .ptr 1 0, .d (.i .i64 p2)], [.box [.d (.i .i64 p3), .d (.i .i64 p4), .d (.i .i64 p5), .d (.b p6), .d (.b p7), .d (.i .i64 p8), .d (.i .i64 p9), .d (.i .i64 p10), .d (.i .i64 p11), .d (.i .i64 p12), .d (.i .i64 p13), .d (.l tp14 p14)], .box [.d (.i .i64 p15), .d (.i .i64 p16)]]) => (asT 53 tp14 p14).bind fun q14 => some (p1, p2, p3, p4, p5, p6, p7, p8, p9, p10, p11, p12, p13, q14, p15, p16)
    | _ => none
  ok z v h := by
    split at h
    · obtain ⟨q14, hp14, h⟩ := Option.bind_eq_some_iff.1 h
      cases h
      rw [asT_l hp14]
      all_goals rfl
    · cases h
def io28 : Io T (Int × Int × Bool) where
  enc v := ([.agg [.d (.i .i64 v.1), .d (.i .i64 v.2.1)], .d (.b v.2.2)], [])
  pat
    | ([.agg [.d (.i .i64 p1), .d (.i .i64 p2)], .d (.b p3)], []) => some (p1, p2, p3)
    | _ => none
  ok z v h := by
    split at h
    · cases h
      all_goals rfl
    · cases h
def io29 : Io T (Int × Int × Int × Bool × Bool × Int × Int × Int × Int × Int × Int × (List S53) × Int × Int × Int × Int × Int) where
  enc v := ([.ptr 0 0, .ptr 1 0, .ptr 2 0], [.box [.d (.i .i64 v.1), .d (.i .i64 v.2.1), .d (.i .i64 v.2.2.1), .d (.b v.2.2.2.1), .d (.b v.2.2.2.2.1), .d (.i .i64 v.2.2.2.2.2.1), .d (.i .i64 v.2.2.2.2.2.2.1), .d (.i .i64 v.2.2.2.2.2.2.2.1), .d (.i .i64 v.2.2.2.2.2.2.2.2.1), .d (.i .i64 v.2.2.2.2.2.2.2.2.2.1), .d (.i .i64 v.2.2.2.2.2.2.2.2.2.2.1), .d (.l 53 v.2.2.2.2.2.2.2.2.2.2.2.1)], .box [.d (.i .i64 v.2.2.2.2.2.2.2.2.2.2.2.2.1), .d (.i .i64 v.2.2.2.2.2.2.2.2.2.2.2.2.2.1)], .box [.d (.i .i64 v.2.2.2.2.2.2.2.2.2.2.2.2.2.2.1), .d (.i .i64 v.2.2.2.2.2.2.2.2.2.2.2.2.2.2.2.1), .d (.i .i64 v.2.2.2.2.2.2.2.2.2.2.2.2.2.2.2.2)]])
  pat
    | ([.ptr 0 0, .ptr 1 0, .ptr 2 0], [.box [.d (.i .i64 p1), .d (.i .i64 p2), .d (.i .i64 p3), .d (.b p4), .d (.b p5), .d (.i .i64 p6), .d (.i .i64 p7), .d (.i .i64 p8), .d (.i .i64 p9), .d (.i .i64 p10), .d (.i .i64 p11), .d (.l tp12 p12)], .box [.d (.i .i64 p13), .d (.i .i64 p14)], .box [.d (.i .i64 p15), .d (.i .i64 p16), .d (.i .i64 p17)]]) => (asT 53 tp12 p12).bind fun q12 => some (p1, p2, p3, p4, p5, p6, p7, p8, p9, p10, p11, q12, p13, p14, p15, p16, p17)
    | _ => none
  ok z v h := by
    split at h
    · obtain ⟨q12, hp12, h⟩ := Option.bind_eq_some_iff.1 h
      cases h
      rw [asT_l hp12]
      all_goals rfl
    · cases h
def io30 : Io T (Int × Int × Int × Int × Bool × Bool × Int × Int × Int × Int × Int × Int × (List S53) × Int × Int) where
  enc v := ([.ptr 0 0, .ptr 1 0, .d (.i .i64 v.1)], [.box [.d (.i .i64 v.2.1), .d (.i .i64 v.2.2.1), .d (.i .i64 v.2.2.2.1), .d (.b v.2.2.2.2.1), .d (.b v.2.2.2.2.2.1), .d (.i .i64 v.2.2.2.2.2.2.1), .d (.i .i64 v.2.2.2.2.2.2.2.1), .d (.i .i64 v.2.2.2.2.2.2.2.2.1), .d (.i .i64 v.2.2.2.2.2.2.2.2.2.1), .d (.i .i64 v.2.2.2.2.2.2.2.2.2.2.1), .d (.i .i64 v.2.2.2.2.2.2.2.2.2.2.2.1), .d (.l 53 v.2.2.2.2.2.2.2.2.2.2.2.2.1)], .box [.d (.i .i64 v.2.2.2.2.2.2.2.2.2.2.2.2.2.1), .d (.i .i64 v.2.2.2.2.2.2.2.2.2.2.2.2.2.2)]])
  pat
    | ([.ptr 0 0, .ptr 1 0, .d (.i .i64 p1)], [.box [.d (.i .i64 p2), .d (.i .i64 p3), .d (.i .i64 p4), .d (.b p5), .d (.b p6), .d (.i .i64 p7), .d (.i .i64 p8), .d (.i .i64 p9), .d (.i .i64 p10), .d (.i .i64 p11), .d (.i .i64 p12), .d (.l tp13 p13)], .box [.d (.i .i64 p14), .d (.i .i64 p15)]]) => (asT 53 tp13 p13).bind fun q13 => some (p1, p2, p3, p4, p5, p6, p7, p8, p9, p10, p11, p12, q13, p14, p15)
    | _ => none
  ok z v h := by
    split at h
    · obtain ⟨q13, hp13, h⟩ := Option.bind_eq_some_iff.1 h
      cases h
      rw [asT_l hp13]
      all_goals rfl
    · cases h
def io31 : Io T ((List S50) × Int × Int × Int) where
  enc v := ([.d (.l 50 v.1), .agg [.d (.i .i64 v.2.1), .d (.i .i64 v.2.2.1)], .d (.i .i64 v.2.2.2)], [])
  pat
    | ([.d (.l tp1 p1), .agg [.d (.i .i64 p2), .d (.i .i64 p3)], .d (.i .i64 p4)], []) => (asT 50 tp1 p1).bind fun q1 => some (q1, p2, p3, p4)
    | _ => none
  ok z v h := by
    split at h
    · obtain ⟨q1, hp1, h⟩ := Option.bind_eq_some_iff.1 h
      cases h
      rw [asT_l hp1]
      all_goals rfl
    · cases h
def io32 : Io T (Int × Int × Int) where
  enc v := ([.agg [.d (.i .i64 v.1), .d (.i .i64 v.2.1)], .d (.i .i64 v.2.2)], [])
  pat
    | ([.agg [.d (.i .i64 p1), .d (.i .i64 p2)], .d (.i .i64 p3)], []) => some (p1, p2, p3)
    | _ => none
  ok z v h := by
    split at h
    · cases h
      all_goals rfl
    · cases h
def io33 : Io T (Int × (List S50) × Int × Int × Int × Int × Int × Int) where
  enc v := ([.d (.i .i64 v.1), .ptr 0 0, .ptr 1 0, .d (.l 50 v.2.1), .d (.i .i64 v.2.2.1), .d (.i .i64 v.2.2.2.1)], [.box [.d (.i .i64 v.2.2.2.2.1), .d (.i .i64 v.2.2.2.2.2.1)], .box [.d (.i .i64 v.2.2.2.2.2.2.1), .d (.i .i64 v.2.2.2.2.2.2.2)]])
  pat
    | ([.d (.i .i64 p1), .ptr 0 0, .ptr 1 0, .d (.l tp2 p2), .d (.i .i64 p3), .d (.i .i64 p4)], [.box [.d (.i .i64 p5), .d (.i .i64 p6)], .box [.d (.i .i64 p7), .d (.i .i64 p8)]]) => (asT 50 tp2 p2).bind fun q2 => some (p1, q2, p3, p4, p5, p6, p7, p8)
    | _ => none
  ok z v h := by
    split at h
    · obtain ⟨q2, hp2, h⟩ := Option.bind_eq_some_iff.1 h
      cases h
      rw [asT_l hp2]
      all_goals rfl
    · cases h
def io34 : Io T (Int × Int × Int × Int) where
  enc v := ([.ptr 0 0, .ptr 1 0], [.box [.d (.i .i64 v.1), .d (.i .i64 v.2.1)], .box [.d (.i .i64 v.2.2.1), .d (.i .i64 v.2.2.2)]])
  pat
    | ([.ptr 0 0, .ptr 1 0], [.box [.d (.i .i64 p1), .d (.i .i64 p2)], .box [.d (.i .i64 p3), .d (.i .i64 p4)]]) => some (p1, p2, p3, p4)
    | _ => none
  ok z v h := by
    split at h
    · cases h
      all_goals rfl
    · cases h
def io35 : Io T (List S50) where
  enc v := ([.sl 0 none], [.arr 50 v])
  pat
    | ([.sl 0 none], [.arr tp1 p1]) => (asT 50 tp1 p1).bind fun q1 => some q1
    | _ => none
  ok z v h := by
    split at h
    · obtain ⟨q1, hp1, h⟩ := Option.bind_eq_some_iff.1 h
      cases h
      rw [asT_a hp1]
      all_goals rfl
    · cases h
def io36 : Io T ((List S50) × Int × Int × (List S50)) where
  enc v := ([.d (.l 50 v.1), .d (.i .i64 v.2.1), .sl 0 none, .d (.i .i64 v.2.2.1)], [.arr 50 v.2.2.2])
  pat
    | ([.d (.l tp1 p1), .d (.i .i64 p2), .sl 0 none, .d (.i .i64 p3)], [.arr tp4 p4]) => (asT 50 tp1 p1).bind fun q1 => (asT 50 tp4 p4).bind fun q4 => some (q1, p2, p3, q4)
    | _ => none
  ok z v h := by
    split at h
    · obtain ⟨q1, hp1, h⟩ := Option.bind_eq_some_iff.1 h
      obtain ⟨q4, hp4, h⟩ := Option.bind_eq_some_iff.1 h
      cases h
      rw [asT_l hp1]
      rw [asT_a hp4]
      all_goals rfl
    · cases h
def io37 : Io T ((List S50) × Int × Int × Int × Int) where
  enc v := ([.d (.l 50 v.1), .agg [.d (.i .i64 v.2.1), .d (.i .i64 v.2.2.1)], .d (.i .i64 v.2.2.2.1), .d (.i .i64 v.2.2.2.2)], [])
  pat
    | ([.d (.l tp1 p1), .agg [.d (.i .i64 p2), .d (.i .i64 p3)], .d (.i .i64 p4), .d (.i .i64 p5)], []) => (asT 50 tp1 p1).bind fun q1 => some (q1, p2, p3, p4, p5)
    | _ => none
  ok z v h := by
    split at h
    · obtain ⟨q1, hp1, h⟩ := Option.bind_eq_some_iff.1 h
      cases h
      rw [asT_l hp1]
      all_goals rfl
    · cases h
def io38 : Io T (Int × Int × Int × Bool × Bool × Int × Int × Int × Int × Int × Int × (List S53) × Int × Int) where
  enc v := ([.agg [.d (.i .i64 v.1), .d (.i .i64 v.2.1), .d (.i .i64 v.2.2.1), .d (.b v.2.2.2.1), .d (.b v.2.2.2.2.1), .d (.i .i64 v.2.2.2.2.2.1), .d (.i .i64 v.2.2.2.2.2.2.1), .d (.i .i64 v.2.2.2.2.2.2.2.1), .d (.i .i64 v.2.2.2.2.2.2.2.2.1), .d (.i .i64 v.2.2.2.2.2.2.2.2.2.1), .d (.i .i64 v.2.2.2.2.2.2.2.2.2.2.1), .d (.l 53 v.2.2.2.2.2.2.2.2.2.2.2.1)], .d (.i .i64 v.2.2.2.2.2.2.2.2.2.2.2.2.1), .d (.i .i64 v.2.2.2.2.2.2.2.2.2.2.2.2.2)], [])
  pat
    | ([.agg [.d (.i .i64 p1), .d (.i .i64 p2), .d (.i .i64 p3), .d (.b p4), .d (.b p5), .d (.i .i64 p6), .d (.i .i64 p7), .d (.i .i64 p8), .d (.i .i64 p9), .d (.i .i64 p10), .d (.i .i64 p11), .d (.l tp12 p12)], .d (.i .i64 p13), .d (.i .i64 p14)], []) => (asT 53 tp12 p12).bind fun q12 => some (p1, p2, p3, p4, p5, p6, p7, p8, p9, p10, p11, q12, p13, p14)
    | _ => none
  ok z v h := by
    split at h
    · obtain ⟨q12, hp12, h⟩ := Option.bind_eq_some_iff.1 h
      cases h
      rw [asT_l hp12]
      all_goals rfl
    · cases h
def io39 : Io T (Int × Bool × Int) where
  enc v := ([.d (.i .i64 v.1), .d (.b v.2.1), .d (.i .i64 v.2.2)], [])
  pat
    | ([.d (.i .i64 p1), .d (.b p2), .d (.i .i64 p3)], []) => some (p1, p2, p3)
    | _ => none
  ok z v h := by
    split at h
    · cases h
      all_goals rfl
    · cases h
def io40 : Io T (Int × Int × Bool × (List S50) × Int × Int × Int × Int × Int × Int × Int × Int × Int × Bool × Bool × Int × Int × Int × Int × Int × Int × (List S53)) where
  enc v := ([.d (.i .i64 v.1), .d (.i .i64 v.2.1), .d (.b v.2.2.1), .ptr 0 0, .d (.l 50 v.2.2.2.1), .d (.i .i64 v.2.2.2.2.1), .d (.i .i64 v.2.2.2.2.2.1), .agg [.d (.i .i64 v.2.2.2.2.2.2.1), .d (.i .i64 v.2.2.2.2.2.2.2.1), .d (.i .i64 v.2.2.2.2.2.2.2.2.1)], .d (.i .i64 v.2.2.2.2.2.2.2.2.2.1)], [.box [.d (.i .i64 v.2.2.2.2.2.2.2.2.2.2.1), .d (.i .i64 v.2.2.2.2.2.2.2.2.2.2.2.1), .d (.i .i64 v.2.2.2.2.2.2.2.2.2.2.2.2.1), .d (.b v.2.2.2.2.2.2.2.2.2.2.2.2.2.1), .d (.b v.2.2.2.2.2.2.2.2.2.2.2.2.2.2.1), .d (.i .i64 v.2.2.2.2.2.2.2.2.2.2.2.2.2.2.2.1), .d (.i .i64 v.2.2.2.2.2.2.2.2.2.2.2.2.2.2.2.2.1), .d (.i .i64 v.2.2.2.2.2.2.2.2.2.2.2.2.2.2.2.2.2.1), .d (.i .i64 v.2.2.2.2.2.2.2.2.2.2.2.2.2.2.2.2.2.2.1), .d (.i .i64 v.2.2.2.2.2.2.2.2.2.2.2.2.2.2.2.2.2.2.2.1), .d (.i .i64 v.2.2.2.2.2.2.2.2.2.2.2.2.2.2.2.2.2.2.2.2.1), .d (.l 53 v.2.2.2.2.2.2.2.2.2.2.2.2.2.2.2.2.2.2.2.2.2)]])
  pat
    | ([.d (.i .i64 p1), .d (.i .i64 p2), .d (.b p3), .ptr 0 0, .d (.l tp4 p4), .d (.i .i64 p5), .d (.i .i64 p6), .agg [.d (.i .i64 p7), .d (.i .i64 p8), .d (.i .i64 p9)], .d (.i .i64 p10)], [.box [.d (.i .i64 p11), .d (.i .i64 p12), .d (.i .i64 p13), .d (.b p14), .d (.b p15), .d (.i .i64 p16), .d (.i .i64 p17), .d (.i .i64 p18), .d (.i .i64 p19), .d (.i .i64 p20), .d (.i .i64 p21), .d (.l tp22 p22)]]) => (asT 50 tp4 p4).bind fun q4 => (asT 53 tp22 p22).bind fun q22 => some (p1, p2, p3, q4, p5, p6, p7, p8, p9, p10, p11, p12, p13, p14, p15, p16, p17, p18, p19, p20, p21, q22)
    | _ => none
  ok z v h := by
    split at h
    · obtain ⟨q4, hp4, h⟩ := Option.bind_eq_some_iff.1 h
      obtain ⟨q22, hp22, h⟩ := Option.bind_eq_some_iff.1 h
      cases h
      rw [asT_l hp4]
      rw [asT_l hp22]
      all_goals rfl
    · cases h
def io41 : Io T (Int × Int × Bool × (List S50) × Int × Int) where
  enc v := ([.d (.i .i64 v.1), .d (.i .i64 v.2.1), .d (.b v.2.2.1), .d (.l 50 v.2.2.2.1), .d (.i .i64 v.2.2.2.2.1), .d (.i .i64 v.2.2.2.2.2)], [])
  pat
    | ([.d (.i .i64 p1), .d (.i .i64 p2), .d (.b p3), .d (.l tp4 p4), .d (.i .i64 p5), .d (.i .i64 p6)], []) => (asT 50 tp4 p4).bind fun q4 => some (p1, p2, p3, q4, p5, p6)
    | _ => none
  ok z v h := by
    split at h
    · obtain ⟨q4, hp4, h⟩ := Option.bind_eq_some_iff.1 h
      cases h
      rw [asT_l hp4]
      all_goals rfl
    · cases h
def io42 : Io T (Int × Bool) where
  enc v := ([.d (.i .i64 v.1), .d (.b v.2)], [])
  pat
    | ([.d (.i .i64 p1), .d (.b p2)], []) => some (p1, p2)
    | _ => none
  ok z v h := by
    split at h
    · cases h
      all_goals rfl
    · cases h
def io43 : Io T ((List S50) × Int × Int × Int × Int) where
  enc v := ([.d (.l 50 v.1), .d (.i .i64 v.2.1), .d (.i .i64 v.2.2.1), .d (.i .i64 v.2.2.2.1), .d (.i .i64 v.2.2.2.2)], [])
  pat
    | ([.d (.l tp1 p1), .d (.i .i64 p2), .d (.i .i64 p3), .d (.i .i64 p4), .d (.i .i64 p5)], []) => (asT 50 tp1 p1).bind fun q1 => some (q1, p2, p3, p4, p5)
    | _ => none
  ok z v h := by
    split at h
    · obtain ⟨q1, hp1, h⟩ := Option.bind_eq_some_iff.1 h
      cases h
      rw [asT_l hp1]
      all_goals rfl
    · cases h
def io44 : Io T ((List S50) × Int × Int × Int) where
  enc v := ([.d (.l 50 v.1), .d (.i .i64 v.2.1), .d (.i .i64 v.2.2.1), .d (.i .i64 v.2.2.2)], [])
  pat
    | ([.d (.l tp1 p1), .d (.i .i64 p2), .d (.i .i64 p3), .d (.i .i64 p4)], []) => (asT 50 tp1 p1).bind fun q1 => some (q1, p2, p3, p4)
    | _ => none
  ok z v h := by
    split at h
    · obtain ⟨q1, hp1, h⟩ := Option.bind_eq_some_iff.1 h
      cases h
      rw [asT_l hp1]
      all_goals rfl
    · cases h
def io45 : Io T ((List S50) × Int × Int × Bool × Int × Int × Int × Int × Int) where
  enc v := ([.d (.l 50 v.1), .d (.i .i64 v.2.1), .d (.i .i64 v.2.2.1), .ptr 0 0, .d (.b v.2.2.2.1), .ptr 1 0, .d (.i .i64 v.2.2.2.2.1)], [.box [.d (.i .i64 v.2.2.2.2.2.1), .d (.i .i64 v.2.2.2.2.2.2.1)], .box [.d (.i .i64 v.2.2.2.2.2.2.2.1), .d (.i .i64 v.2.2.2.2.2.2.2.2)]])
  pat
    | ([.d (.l tp1 p1), .d (.i .i64 p2), .d (.i .i64 p3), .ptr 0 0, .d (.b p4), .ptr 1 0, .d (.i .i64 p5)], [.box [.d (.i .i64 p6), .d (.i .i64 p7)], .box [.d (.i .i64 p8), .d (.i .i64 p9)]]) => (asT 50 tp1 p1).bind fun q1 => some (q1, p2, p3, p4, p5, p6, p7, p8, p9)
    | _ => none
  ok z v h := by
    split at h
    · obtain ⟨q1, hp1, h⟩ := Option.bind_eq_some_iff.1 h
      cases h
      rw [asT_l hp1]
      all_goals rfl
    · cases h
def tab0 (k : Nat) : Tab T := noTab
def cascade_rank (k : Nat) (a1 : List UInt8) (a2 : List UInt8) (a3 : Int) (a4 : Bool) (a5 : Int) (a6 : Int) : Option (Int) :=
cond (!a4) (
some a3) (
cond (a3 == (1 : Int)) (
some (3 : Int)) (
cond (a3 == (2 : Int)) (
some (4 : Int)) (
some (5 : Int))))
def cascade_rank.kr (k : Nat) : St T → Option (Int) := (retK (cfg (tab0 k)) Try.f34.results.toList 0 [] io1.pat)
def cascade_rank.cuts (k : Nat) : Cuts T (Int) := fun n => none
def cascade_rank.body : Code := bodyOf Try.f34
theorem cascade_rank.e (k : Nat) : ∀ v, (fun v => cascade_rank k v.1 v.2.1 v.2.2.1 v.2.2.2.1 v.2.2.2.2.1 v.2.2.2.2.2) v = runK (cfg (tab0 k)) Try.f34.ntmps (cascade_rank.kr k) (annot (cascade_rank.cuts k) cascade_rank.body) (entry (io0.enc v).1 (io0.enc v).2) (endK (cascade_rank.kr k)) := by
  intro v; kernel_rfl
theorem cascade_rank.hb : Try.f34.body = some cascade_rank.body := by kernel_rfl
def tab1 (k : Nat) : Tab T := addTab 34 (line io0 io1 (0 : Int) (fun v => cascade_rank k v.1 v.2.1 v.2.2.1 v.2.2.2.1 v.2.2.2.2.1 v.2.2.2.2.2)) (tab0 k)
def cmp_isNaN_int_ (k : Nat) (a1 : Int) : Option (Bool) :=
some (a1 != a1)
def cmp_isNaN_int_.kr (k : Nat) : St T → Option (Bool) := (retK (cfg (tab1 k)) Try.f37.results.toList 0 [] io2.pat)
def cmp_isNaN_int_.cuts (k : Nat) : Cuts T (Bool) := fun n => none
def cmp_isNaN_int_.body : Code := bodyOf Try.f37
theorem cmp_isNaN_int_.e (k : Nat) : ∀ v, (fun v => cmp_isNaN_int_ k v) v = runK (cfg (tab1 k)) Try.f37.ntmps (cmp_isNaN_int_.kr k) (annot (cmp_isNaN_int_.cuts k) cmp_isNaN_int_.body) (entry (io1.enc v).1 (io1.enc v).2) (endK (cmp_isNaN_int_.kr k)) := by
  intro v; kernel_rfl
theorem cmp_isNaN_int_.hb : Try.f37.body = some cmp_isNaN_int_.body := by kernel_rfl
def tab2 (k : Nat) : Tab T := addTab 37 (line io1 io2 false (fun v => cmp_isNaN_int_ k v)) (tab1 k)
def cmp_Compare_int_ (k : Nat) (a1 : Int) (a2 : Int) : Option (Int) :=
(cmp_isNaN_int_ k a1).bind fun r3 =>
(cmp_isNaN_int_ k a2).bind fun r4 =>
cond r3 (
cond r4 (
some (0 : Int)) (
some (-1 : Int))) (
cond r4 (
some (1 : Int)) (
cond (decide (a1 < a2)) (
some (-1 : Int)) (
cond (decide (a1 > a2)) (
some (1 : Int)) (
some (0 : Int)))))
def cmp_Compare_int_.kr (k : Nat) : St T → Option (Int) := (retK (cfg (tab2 k)) Try.f33.results.toList 0 [] io1.pat)
def cmp_Compare_int_.cuts (k : Nat) : Cuts T (Int) := fun n => none
def cmp_Compare_int_.body : Code := bodyOf Try.f33
theorem cmp_Compare_int_.e (k : Nat) : ∀ v, (fun v => cmp_Compare_int_ k v.1 v.2) v = runK (cfg (tab2 k)) Try.f33.ntmps (cmp_Compare_int_.kr k) (annot (cmp_Compare_int_.cuts k) cmp_Compare_int_.body) (entry (io3.enc v).1 (io3.enc v).2) (endK (cmp_Compare_int_.kr k)) := by
  intro v; kernel_rfl
theorem cmp_Compare_int_.hb : Try.f33.body = some cmp_Compare_int_.body := by kernel_rfl
def tab3 (k : Nat) : Tab T := addTab 33 (line io3 io1 (0 : Int) (fun v => cmp_Compare_int_ k v.1 v.2)) (tab2 k)
def cmp_Or_int_.c7 (k : Nat) : Nat → Int → (List Int) → Int → Int → (Int → Option (Int)) → Option (Int)
  | 0, _, _, _, _, _ => none
  | n + 1, x2, x3, x4, x5, k0 =>
    cond (decide (x5 < x4)) (
    cond (decide (0 ≤ x5 ∧ x5 < (x3.length : Int))) (
    let v6 : Bool := ((x3.getD x5.toNat (0 : Int)) != x2)
    cond v6 (
    some (x3.getD x5.toNat (0 : Int))) (
    let v7 : Int := (IntKind.wrap .i64 (x5 + (1 : Int)))
    cmp_Or_int_.c7 k n x2 x3 x4 v7 k0)) none) (
    k0 x2)
def cmp_Or_int_ (k : Nat) (a1 : List Int) : Option (Int) :=
cmp_Or_int_.c7 k k (0 : Int) a1 (a1.length : Int) (0 : Int) (fun (y8 : Int) =>
some y8)
def cmp_Or_int_.kr (k : Nat) : St T → Option (Int) := (retK (cfg (tab3 k)) Try.f32.results.toList 0 [] io1.pat)
def cmp_Or_int_.x7 : Ex → Option (List Nat × List Sp)
  | .exit 0 => some ([3], [])
  | _ => none
def cmp_Or_int_.L7 (k : Nat) (n : Nat) (v : Int × (List Int) × Int × Int) (K : Ex → St T → Option (Int)) : Option (Int) := cmp_Or_int_.c7 k n v.1 v.2.1 v.2.2.1 v.2.2.2 (fun y31 => K (.exit 0) (mkSt [3] (io1.enc y31)))
def cmp_Or_int_.cuts (k : Nat) : Cuts T (Int) := fun n => bif n.beq 7 then some (entK (cfg (tab3 k)) 0 [3, 6, 7, 8] [] io5.pat (cmp_Or_int_.L7 k k)) else none
def cmp_Or_int_.body : Code := bodyOf Try.f32
def cmp_Or_int_.b7 : Code := findD 7 cmp_Or_int_.body
theorem cmp_Or_int_.s7 (k : Nat) : ∀ n v K, cmp_Or_int_.L7 k (n + 1) v K = runK (cfg (tab3 k)) Try.f32.ntmps (cmp_Or_int_.kr k) (annot (cmp_Or_int_.cuts k) cmp_Or_int_.b7) (mkSt [3, 6, 7, 8] (io5.enc v)) (loopK (cfg (tab3 k)) 0 cmp_Or_int_.x7 (entK (cfg (tab3 k)) 0 [3, 6, 7, 8] [] io5.pat (cmp_Or_int_.L7 k n)) K) := by
  intro n v K; kernel_rfl
theorem cmp_Or_int_.e (k : Nat) : ∀ v, (fun v => cmp_Or_int_ k v) v = runK (cfg (tab3 k)) Try.f32.ntmps (cmp_Or_int_.kr k) (annot (cmp_Or_int_.cuts k) cmp_Or_int_.body) (entry (io4.enc v).1 (io4.enc v).2) (endK (cmp_Or_int_.kr k)) := by
  intro v; kernel_rfl
theorem cmp_Or_int_.hb : Try.f32.body = some cmp_Or_int_.body := by kernel_rfl
def tab4 (k : Nat) : Tab T := addTab 32 (line io4 io1 (0 : Int) (fun v => cmp_Or_int_ k v)) (tab3 k)
def cascade_compare (k : Nat) (a1 : List UInt8) (a2 : List UInt8) (a3 : Int) (a4 : Bool) (a5 : Int) (a6 : Int) (a7 : List UInt8) (a8 : List UInt8) (a9 : Int) (a10 : Bool) (a11 : Int) (a12 : Int) : Option (Int) :=
(cascade_rank k a1 a2 a3 a4 a5 a6).bind fun r13 =>
(cascade_rank k a7 a8 a9 a10 a11 a12).bind fun r14 =>
(cmp_Compare_int_ k r13 r14).bind fun r15 =>
(cmp_Compare_int_ k a5 a11).bind fun r16 =>
(cmp_Compare_int_ k a6 a12).bind fun r17 =>
(cmp_Or_int_ k ([r15, r16, r17])).bind fun r18 =>
some r18
def cascade_compare.kr (k : Nat) : St T → Option (Int) := (retK (cfg (tab4 k)) Try.f23.results.toList 0 [] io1.pat)
def cascade_compare.cuts (k : Nat) : Cuts T (Int) := fun n => none
def cascade_compare.body : Code := bodyOf Try.f23
theorem cascade_compare.e (k : Nat) : ∀ v, (fun v => cascade_compare k v.1 v.2.1 v.2.2.1 v.2.2.2.1 v.2.2.2.2.1 v.2.2.2.2.2.1 v.2.2.2.2.2.2.1 v.2.2.2.2.2.2.2.1 v.2.2.2.2.2.2.2.2.1 v.2.2.2.2.2.2.2.2.2.1 v.2.2.2.2.2.2.2.2.2.2.1 v.2.2.2.2.2.2.2.2.2.2.2) v = runK (cfg (tab4 k)) Try.f23.ntmps (cascade_compare.kr k) (annot (cascade_compare.cuts k) cascade_compare.body) (entry (io6.enc v).1 (io6.enc v).2) (endK (cascade_compare.kr k)) := by
  intro v; kernel_rfl
theorem cascade_compare.hb : Try.f23.body = some cascade_compare.body := by kernel_rfl
def tab5 (k : Nat) : Tab T := addTab 23 (line io6 io1 (0 : Int) (fun v => cascade_compare k v.1 v.2.1 v.2.2.1 v.2.2.2.1 v.2.2.2.2.1 v.2.2.2.2.2.1 v.2.2.2.2.2.2.1 v.2.2.2.2.2.2.2.1 v.2.2.2.2.2.2.2.2.1 v.2.2.2.2.2.2.2.2.2.1 v.2.2.2.2.2.2.2.2.2.2.1 v.2.2.2.2.2.2.2.2.2.2.2)) (tab4 k)
def cascade_Less (k : Nat) (a1 : List UInt8) (a2 : List UInt8) (a3 : Int) (a4 : Bool) (a5 : Int) (a6 : Int) (a7 : List UInt8) (a8 : List UInt8) (a9 : Int) (a10 : Bool) (a11 : Int) (a12 : Int) : Option (Bool) :=
(cascade_compare k a1 a2 a3 a4 a5 a6 a7 a8 a9 a10 a11 a12).bind fun r13 =>
some (decide (r13 < (0 : Int)))
def cascade_Less.kr (k : Nat) : St T → Option (Bool) := (retK (cfg (tab5 k)) Try.f13.results.toList 0 [] io2.pat)
def cascade_Less.cuts (k : Nat) : Cuts T (Bool) := fun n => none
def cascade_Less.body : Code := bodyOf Try.f13
theorem cascade_Less.e (k : Nat) : ∀ v, (fun v => cascade_Less k v.1 v.2.1 v.2.2.1 v.2.2.2.1 v.2.2.2.2.1 v.2.2.2.2.2.1 v.2.2.2.2.2.2.1 v.2.2.2.2.2.2.2.1 v.2.2.2.2.2.2.2.2.1 v.2.2.2.2.2.2.2.2.2.1 v.2.2.2.2.2.2.2.2.2.2.1 v.2.2.2.2.2.2.2.2.2.2.2) v = runK (cfg (tab5 k)) Try.f13.ntmps (cascade_Less.kr k) (annot (cascade_Less.cuts k) cascade_Less.body) (entry (io6.enc v).1 (io6.enc v).2) (endK (cascade_Less.kr k)) := by
  intro v; kernel_rfl
theorem cascade_Less.hb : Try.f13.body = some cascade_Less.body := by kernel_rfl
def tab6 (k : Nat) : Tab T := addTab 13 (line io6 io2 false (fun v => cascade_Less k v.1 v.2.1 v.2.2.1 v.2.2.2.1 v.2.2.2.2.1 v.2.2.2.2.2.1 v.2.2.2.2.2.2.1 v.2.2.2.2.2.2.2.1 v.2.2.2.2.2.2.2.2.1 v.2.2.2.2.2.2.2.2.2.1 v.2.2.2.2.2.2.2.2.2.2.1 v.2.2.2.2.2.2.2.2.2.2.2)) (tab5 k)
def clerestorykeep2_own (k : Nat)  : Option (Bool) :=
(cascade_Less k ([]) ([]) (1 : Int) false (0 : Int) (0 : Int) ([]) ([]) (2 : Int) false (0 : Int) (0 : Int)).bind fun r1 =>
(cond r1 (cascade_Less k ([]) ([]) (1 : Int) true (0 : Int) (0 : Int) ([]) ([]) (2 : Int) false (0 : Int) (0 : Int)) (some false)).bind fun r2 =>
some (cond r1 (!r2) false)
def clerestorykeep2_own.kr (k : Nat) : St T → Option (Bool) := (retK (cfg (tab6 k)) Try.f12.results.toList 0 [] io2.pat)
def clerestorykeep2_own.cuts (k : Nat) : Cuts T (Bool) := fun n => none
def clerestorykeep2_own.body : Code := bodyOf Try.f12
theorem clerestorykeep2_own.e (k : Nat) : ∀ v, (fun v => clerestorykeep2_own k ) v = runK (cfg (tab6 k)) Try.f12.ntmps (clerestorykeep2_own.kr k) (annot (clerestorykeep2_own.cuts k) clerestorykeep2_own.body) (entry (io7.enc v).1 (io7.enc v).2) (endK (clerestorykeep2_own.kr k)) := by
  intro v; kernel_rfl
theorem clerestorykeep2_own.hb : Try.f12.body = some clerestorykeep2_own.body := by kernel_rfl
def tab7 (k : Nat) : Tab T := addTab 12 (line io7 io2 false (fun v => clerestorykeep2_own k )) (tab6 k)
def clerestorykeep2_CascadeTotal (k : Nat) (a1 : List UInt8) (a2 : List UInt8) (a3 : Int) (a4 : Bool) (a5 : Int) (a6 : Int) (a7 : List UInt8) (a8 : List UInt8) (a9 : Int) (a10 : Bool) (a11 : Int) (a12 : Int) (a13 : List UInt8) (a14 : List UInt8) (a15 : Int) (a16 : Bool) (a17 : Int) (a18 : Int) : Option (Bool) :=
(clerestorykeep2_own k).bind fun r19 =>
(cascade_Less k a1 a2 a3 a4 a5 a6 a7 a8 a9 a10 a11 a12).bind fun r20 =>
(cascade_Less k a7 a8 a9 a10 a11 a12 a1 a2 a3 a4 a5 a6).bind fun r21 =>
(cascade_Less k a7 a8 a9 a10 a11 a12 a13 a14 a15 a16 a17 a18).bind fun r22 =>
(cascade_Less k a1 a2 a3 a4 a5 a6 a13 a14 a15 a16 a17 a18).bind fun r23 =>
(cascade_Less k a13 a14 a15 a16 a17 a18 a1 a2 a3 a4 a5 a6).bind fun r24 =>
(cascade_Less k a13 a14 a15 a16 a17 a18 a7 a8 a9 a10 a11 a12).bind fun r25 =>
(cascade_Less k a1 a2 a3 a4 a5 a6 a1 a2 a3 a4 a5 a6).bind fun r26 =>
let v27 : Bool := (cond r26 true (cond r20 r21 false))
let v28 : Bool := (cond (cond r20 r22 false) (!r23) false)
cond (cond v27 true v28) (
some false) (
let v29 : Bool := (cond (r23 == r22) (r24 == r25) false)
let v30 : Bool := (cond (cond r20 true r21) true v29)
some (cond r19 v30 false))
def clerestorykeep2_CascadeTotal.kr (k : Nat) : St T → Option (Bool) := (retK (cfg (tab7 k)) Try.f3.results.toList 0 [] io2.pat)
def clerestorykeep2_CascadeTotal.cuts (k : Nat) : Cuts T (Bool) := fun n => none
def clerestorykeep2_CascadeTotal.body : Code := bodyOf Try.f3
theorem clerestorykeep2_CascadeTotal.e (k : Nat) : ∀ v, (fun v => clerestorykeep2_CascadeTotal k v.1 v.2.1 v.2.2.1 v.2.2.2.1 v.2.2.2.2.1 v.2.2.2.2.2.1 v.2.2.2.2.2.2.1 v.2.2.2.2.2.2.2.1 v.2.2.2.2.2.2.2.2.1 v.2.2.2.2.2.2.2.2.2.1 v.2.2.2.2.2.2.2.2.2.2.1 v.2.2.2.2.2.2.2.2.2.2.2.1 v.2.2.2.2.2.2.2.2.2.2.2.2.1 v.2.2.2.2.2.2.2.2.2.2.2.2.2.1 v.2.2.2.2.2.2.2.2.2.2.2.2.2.2.1 v.2.2.2.2.2.2.2.2.2.2.2.2.2.2.2.1 v.2.2.2.2.2.2.2.2.2.2.2.2.2.2.2.2.1 v.2.2.2.2.2.2.2.2.2.2.2.2.2.2.2.2.2) v = runK (cfg (tab7 k)) Try.f3.ntmps (clerestorykeep2_CascadeTotal.kr k) (annot (clerestorykeep2_CascadeTotal.cuts k) clerestorykeep2_CascadeTotal.body) (entry (io8.enc v).1 (io8.enc v).2) (endK (clerestorykeep2_CascadeTotal.kr k)) := by
  intro v; kernel_rfl
theorem clerestorykeep2_CascadeTotal.hb : Try.f3.body = some clerestorykeep2_CascadeTotal.body := by kernel_rfl
def tab8 (k : Nat) : Tab T := addTab 3 (line io8 io2 false (fun v => clerestorykeep2_CascadeTotal k v.1 v.2.1 v.2.2.1 v.2.2.2.1 v.2.2.2.2.1 v.2.2.2.2.2.1 v.2.2.2.2.2.2.1 v.2.2.2.2.2.2.2.1 v.2.2.2.2.2.2.2.2.1 v.2.2.2.2.2.2.2.2.2.1 v.2.2.2.2.2.2.2.2.2.2.1 v.2.2.2.2.2.2.2.2.2.2.2.1 v.2.2.2.2.2.2.2.2.2.2.2.2.1 v.2.2.2.2.2.2.2.2.2.2.2.2.2.1 v.2.2.2.2.2.2.2.2.2.2.2.2.2.2.1 v.2.2.2.2.2.2.2.2.2.2.2.2.2.2.2.1 v.2.2.2.2.2.2.2.2.2.2.2.2.2.2.2.2.1 v.2.2.2.2.2.2.2.2.2.2.2.2.2.2.2.2.2)) (tab7 k)
def anim_in (k : Nat) (a1 : Int) (a2 : Int) (a3 : Int) : Option (Bool) :=
let v4 : Bool := (cond (decide (a1 ≥ a2)) (decide (a1 ≤ a3)) false)
some v4
def anim_in.kr (k : Nat) : St T → Option (Bool) := (retK (cfg (tab8 k)) Try.f25.results.toList 0 [] io2.pat)
def anim_in.cuts (k : Nat) : Cuts T (Bool) := fun n => none
def anim_in.body : Code := bodyOf Try.f25
theorem anim_in.e (k : Nat) : ∀ v, (fun v => anim_in k v.1 v.2.1 v.2.2) v = runK (cfg (tab8 k)) Try.f25.ntmps (anim_in.kr k) (annot (anim_in.cuts k) anim_in.body) (entry (io9.enc v).1 (io9.enc v).2) (endK (anim_in.kr k)) := by
  intro v; kernel_rfl
theorem anim_in.hb : Try.f25.body = some anim_in.body := by kernel_rfl
def tab9 (k : Nat) : Tab T := addTab 25 (line io9 io2 false (fun v => anim_in k v.1 v.2.1 v.2.2)) (tab8 k)
def anim_easing.c17 (k : Nat) : Nat → Int → Int → Int → Int → Int → Int → Int → Int → Int → Int → Int → (Int → Int → Int → Int → Int → Int → Option (Bool)) → Option (Bool)
  | 0, _, _, _, _, _, _, _, _, _, _, _, _ => none
  | n + 1, x10, x11, x12, x13, x14, x15, x16, x17, x18, x19, x20, k1 =>
    cond (decide (x14 < (4 : Int))) (
    cond (decide (0 ≤ x14 ∧ x14 < ((4 : Nat) : Int))) (
    let v21 : Int := (([x10, x11, x12, x13]).getD x14.toNat (0 : Int))
    (anim_in k v21 (0 : Int) (1000 : Int)).bind fun r22 =>
    cond (!r22) (
    some false) (
    let v23 : Int := (IntKind.wrap .i64 (x14 + (1 : Int)))
    anim_easing.c17 k n x10 x11 x12 x13 v23 x15 x16 x17 x18 x19 x20 k1)) none) (
    k1 x15 x16 x17 x18 x19 x20)
def anim_easing (k : Nat) (a1 : Int) (a2 : Int) (a3 : Int) (a4 : Int) (a5 : Int) (a6 : Int) : Option (Bool) :=
cond (a1 == (1 : Int)) (
let v7 : Bool := ((a1 == (1 : Int)) && (((a2 == (0 : Int)) && ((a3 == (0 : Int)) && ((a4 == (0 : Int)) && ((a5 == (0 : Int)) && true)))) && ((a6 == (0 : Int)) && true)))
some v7) (
cond (a1 == (3 : Int)) (
(anim_in k a6 (1 : Int) (1000 : Int)).bind fun r8 =>
let v9 : Bool := ((a2 == (0 : Int)) && ((a3 == (0 : Int)) && ((a4 == (0 : Int)) && ((a5 == (0 : Int)) && true))))
some (cond r8 v9 false)) (
cond (a1 == (2 : Int)) (
anim_easing.c17 k k a2 a3 a4 a5 (0 : Int) a1 a2 a3 a4 a5 a6 (fun (y24 : Int) (y25 : Int) (y26 : Int) (y27 : Int) (y28 : Int) (y29 : Int) =>
some (y29 == (0 : Int)))) (
some false)))
def anim_easing.kr (k : Nat) : St T → Option (Bool) := (retK (cfg (tab9 k)) Try.f24.results.toList 0 [] io2.pat)
def anim_easing.x17 : Ex → Option (List Nat × List Sp)
  | .exit 1 => some ([1], [])
  | _ => none
def anim_easing.L17 (k : Nat) (n : Nat) (v : Int × Int × Int × Int × Int × Int × Int × Int × Int × Int × Int) (K : Ex → St T → Option (Bool)) : Option (Bool) := anim_easing.c17 k n v.1 v.2.1 v.2.2.1 v.2.2.2.1 v.2.2.2.2.1 v.2.2.2.2.2.1 v.2.2.2.2.2.2.1 v.2.2.2.2.2.2.2.1 v.2.2.2.2.2.2.2.2.1 v.2.2.2.2.2.2.2.2.2.1 v.2.2.2.2.2.2.2.2.2.2 (fun y32 y33 y34 y35 y36 y37 => K (.exit 1) (mkSt [1] (io12.enc (y32, y33, y34, y35, y36, y37))))
def anim_easing.cuts (k : Nat) : Cuts T (Bool) := fun n => bif n.beq 17 then some (entK (cfg (tab9 k)) 0 [1, 26, 27] [] io11.pat (anim_easing.L17 k k)) else none
def anim_easing.body : Code := bodyOf Try.f24
def anim_easing.b17 : Code := findD 17 anim_easing.body
theorem anim_easing.s17 (k : Nat) : ∀ n v K, anim_easing.L17 k (n + 1) v K = runK (cfg (tab9 k)) Try.f24.ntmps (anim_easing.kr k) (annot (anim_easing.cuts k) anim_easing.b17) (mkSt [1, 26, 27] (io11.enc v)) (loopK (cfg (tab9 k)) 0 anim_easing.x17 (entK (cfg (tab9 k)) 0 [1, 26, 27] [] io11.pat (anim_easing.L17 k n)) K) := by
  intro n v K; kernel_rfl
theorem anim_easing.e (k : Nat) : ∀ v, (fun v => anim_easing k v.1 v.2.1 v.2.2.1 v.2.2.2.1 v.2.2.2.2.1 v.2.2.2.2.2) v = runK (cfg (tab9 k)) Try.f24.ntmps (anim_easing.kr k) (annot (anim_easing.cuts k) anim_easing.body) (entry (io10.enc v).1 (io10.enc v).2) (endK (anim_easing.kr k)) := by
  intro v; kernel_rfl
theorem anim_easing.hb : Try.f24.body = some anim_easing.body := by kernel_rfl
def tab10 (k : Nat) : Tab T := addTab 24 (line io10 io2 false (fun v => anim_easing k v.1 v.2.1 v.2.2.1 v.2.2.2.1 v.2.2.2.2.1 v.2.2.2.2.2)) (tab9 k)
def anim_bend (k : Nat) (a1 : Int) (a2 : Int) (a3 : Int) : Option (Int) :=
let v4 : Int := (IntKind.wrap .i64 ((4096 : Int) - a3))
let v5 : Int := (IntKind.wrap .i64 ((3 : Int) * v4))
let v6 : Int := (IntKind.wrap .i64 ((IntKind.wrap .i64 (v5 * v4)) * a3))
let v7 : Int := (IntKind.wrap .i64 ((3 : Int) * v4))
let v8 : Int := (IntKind.wrap .i64 ((IntKind.wrap .i64 (v7 * a3)) * a3))
let v9 : Int := (IntKind.wrap .i64 ((IntKind.wrap .i64 (v6 * a1)) + (IntKind.wrap .i64 (v8 * a2))))
let v10 : Int := (IntKind.wrap .i64 ((IntKind.wrap .i64 (a3 * a3)) * a3))
let v11 : Int := (IntKind.wrap .i64 (v10 * (1000 : Int)))
cond ((68719476736 : Int) != 0) (
let v12 : Int := (IntKind.wrap .i64 (Int.tdiv (IntKind.wrap .i64 (v9 + v11)) (68719476736 : Int)))
some v12) none
def anim_bend.kr (k : Nat) : St T → Option (Int) := (retK (cfg (tab10 k)) Try.f35.results.toList 0 [] io1.pat)
def anim_bend.cuts (k : Nat) : Cuts T (Int) := fun n => none
def anim_bend.body : Code := bodyOf Try.f35
theorem anim_bend.e (k : Nat) : ∀ v, (fun v => anim_bend k v.1 v.2.1 v.2.2) v = runK (cfg (tab10 k)) Try.f35.ntmps (anim_bend.kr k) (annot (anim_bend.cuts k) anim_bend.body) (entry (io9.enc v).1 (io9.enc v).2) (endK (anim_bend.kr k)) := by
  intro v; kernel_rfl
theorem anim_bend.hb : Try.f35.body = some anim_bend.body := by kernel_rfl
def tab11 (k : Nat) : Tab T := addTab 35 (line io9 io1 (0 : Int) (fun v => anim_bend k v.1 v.2.1 v.2.2)) (tab10 k)
def anim_eased.c13 (k : Nat) : Nat → Int → Int → Int → Int → Int → Int → Int → Int → Int → (Int → Int → Int → Int → Int → Int → Int → Option (Int)) → Option (Int)
  | 0, _, _, _, _, _, _, _, _, _, _ => none
  | n + 1, x11, x12, x13, x14, x15, x16, x17, x18, x19, k1 =>
    cond (decide (x12 < x13)) (
    let v20 : Int := (IntKind.wrap .i64 (x12 + x13))
    cond ((2 : Int) != 0) (
    let v21 : Int := (IntKind.wrap .i64 (Int.tdiv v20 (2 : Int)))
    cond (decide (0 ≤ (0 : Int) ∧ (0 : Int) < ((4 : Nat) : Int))) (
    let v22 : Int := (([x15, x16, x17, x18]).getD ((0 : Int).toNat) (0 : Int))
    cond (decide (0 ≤ (2 : Int) ∧ (2 : Int) < ((4 : Nat) : Int))) (
    let v23 : Int := (([x15, x16, x17, x18]).getD ((2 : Int).toNat) (0 : Int))
    (anim_bend k v22 v23 v21).bind fun r24 =>
    cond (decide (r24 ≥ x11)) (
    anim_eased.c13 k n x11 x12 v21 x14 x15 x16 x17 x18 x19 k1) (
    let v25 : Int := (IntKind.wrap .i64 (v21 + (1 : Int)))
    anim_eased.c13 k n x11 v25 x13 x14 x15 x16 x17 x18 x19 k1)) none) none) none) (
    k1 x12 x14 x15 x16 x17 x18 x19)
def anim_eased (k : Nat) (a1 : Int) (a2 : Int) (a3 : Int) (a4 : Int) (a5 : Int) (a6 : Int) (a7 : Int) : Option (Int) :=
cond (a1 == (3 : Int)) (
cond ((1000 : Int) != 0) (
let v8 : Int := (IntKind.wrap .i64 (Int.tdiv (IntKind.wrap .i64 (a7 * a6)) (1000 : Int)))
let v9 : Int := (IntKind.wrap .i64 (v8 * (1000 : Int)))
cond (a6 != 0) (
let v10 : Int := (IntKind.wrap .i64 (Int.tdiv v9 a6))
some v10) none) none) (
cond (a1 == (2 : Int)) (
anim_eased.c13 k k a7 (0 : Int) (4096 : Int) a1 a2 a3 a4 a5 a6 (fun (y26 : Int) (y27 : Int) (y28 : Int) (y29 : Int) (y30 : Int) (y31 : Int) (y32 : Int) =>
cond (decide (0 ≤ (1 : Int) ∧ (1 : Int) < ((4 : Nat) : Int))) (
let v33 : Int := (([y28, y29, y30, y31]).getD ((1 : Int).toNat) (0 : Int))
cond (decide (0 ≤ (3 : Int) ∧ (3 : Int) < ((4 : Nat) : Int))) (
let v34 : Int := (([y28, y29, y30, y31]).getD ((3 : Int).toNat) (0 : Int))
(anim_bend k v33 v34 y26).bind fun r35 =>
some r35) none) none)) (
some a7))
def anim_eased.kr (k : Nat) : St T → Option (Int) := (retK (cfg (tab11 k)) Try.f26.results.toList 0 [] io1.pat)
def anim_eased.x13 : Ex → Option (List Nat × List Sp)
  | .exit 1 => some ([2, 5], [])
  | _ => none
def anim_eased.L13 (k : Nat) (n : Nat) (v : Int × Int × Int × Int × Int × Int × Int × Int × Int) (K : Ex → St T → Option (Int)) : Option (Int) := anim_eased.c13 k n v.1 v.2.1 v.2.2.1 v.2.2.2.1 v.2.2.2.2.1 v.2.2.2.2.2.1 v.2.2.2.2.2.2.1 v.2.2.2.2.2.2.2.1 v.2.2.2.2.2.2.2.2 (fun y38 y39 y40 y41 y42 y43 y44 => K (.exit 1) (mkSt [2, 5] (io15.enc (y38, y39, y40, y41, y42, y43, y44))))
def anim_eased.cuts (k : Nat) : Cuts T (Int) := fun n => bif n.beq 13 then some (entK (cfg (tab11 k)) 0 [1, 2, 5, 6] [] io14.pat (anim_eased.L13 k k)) else none
def anim_eased.body : Code := bodyOf Try.f26
def anim_eased.b13 : Code := findD 13 anim_eased.body
theorem anim_eased.s13 (k : Nat) : ∀ n v K, anim_eased.L13 k (n + 1) v K = runK (cfg (tab11 k)) Try.f26.ntmps (anim_eased.kr k) (annot (anim_eased.cuts k) anim_eased.b13) (mkSt [1, 2, 5, 6] (io14.enc v)) (loopK (cfg (tab11 k)) 0 anim_eased.x13 (entK (cfg (tab11 k)) 0 [1, 2, 5, 6] [] io14.pat (anim_eased.L13 k n)) K) := by
  intro n v K; kernel_rfl
theorem anim_eased.e (k : Nat) : ∀ v, (fun v => anim_eased k v.1 v.2.1 v.2.2.1 v.2.2.2.1 v.2.2.2.2.1 v.2.2.2.2.2.1 v.2.2.2.2.2.2) v = runK (cfg (tab11 k)) Try.f26.ntmps (anim_eased.kr k) (annot (anim_eased.cuts k) anim_eased.body) (entry (io13.enc v).1 (io13.enc v).2) (endK (anim_eased.kr k)) := by
  intro v; kernel_rfl
theorem anim_eased.hb : Try.f26.body = some anim_eased.body := by kernel_rfl
def tab12 (k : Nat) : Tab T := addTab 26 (line io13 io1 (0 : Int) (fun v => anim_eased k v.1 v.2.1 v.2.2.1 v.2.2.2.1 v.2.2.2.2.1 v.2.2.2.2.2.1 v.2.2.2.2.2.2)) (tab11 k)
def anim_Ease (k : Nat) (a1 : Int) (a2 : Int) (a3 : Int) (a4 : Int) (a5 : Int) (a6 : Int) (a7 : Int) : Option (Int × Int) :=
(anim_easing k a1 a2 a3 a4 a5 a6).bind fun r8 =>
cond (!r8) (
some ((0 : Int), (3 : Int))) (
(anim_in k a7 (0 : Int) (1000 : Int)).bind fun r9 =>
cond (!r9) (
some ((0 : Int), (1 : Int))) (
(anim_eased k a1 a2 a3 a4 a5 a6 a7).bind fun r10 =>
some (r10, (0 : Int))))
def anim_Ease.kr (k : Nat) : St T → Option (Int × Int) := (retK (cfg (tab12 k)) Try.f15.results.toList 0 [] io3.pat)
def anim_Ease.cuts (k : Nat) : Cuts T (Int × Int) := fun n => none
def anim_Ease.body : Code := bodyOf Try.f15
theorem anim_Ease.e (k : Nat) : ∀ v, (fun v => anim_Ease k v.1 v.2.1 v.2.2.1 v.2.2.2.1 v.2.2.2.2.1 v.2.2.2.2.2.1 v.2.2.2.2.2.2) v = runK (cfg (tab12 k)) Try.f15.ntmps (anim_Ease.kr k) (annot (anim_Ease.cuts k) anim_Ease.body) (entry (io13.enc v).1 (io13.enc v).2) (endK (anim_Ease.kr k)) := by
  intro v; kernel_rfl
theorem anim_Ease.hb : Try.f15.body = some anim_Ease.body := by kernel_rfl
def tab13 (k : Nat) : Tab T := addTab 15 (line io13 io3 ((0 : Int), (0 : Int)) (fun v => anim_Ease k v.1 v.2.1 v.2.2.1 v.2.2.2.1 v.2.2.2.2.1 v.2.2.2.2.2.1 v.2.2.2.2.2.2)) (tab12 k)
def clerestorykeep2_stepped (k : Nat)  : Option (Bool) :=
(anim_Ease k (3 : Int) (0 : Int) (0 : Int) (0 : Int) (0 : Int) (4 : Int) (600 : Int)).bind fun r1 =>
let v2 : Bool := (cond (r1.2 == (0 : Int)) (r1.1 == (500 : Int)) false)
some v2
def clerestorykeep2_stepped.kr (k : Nat) : St T → Option (Bool) := (retK (cfg (tab13 k)) Try.f14.results.toList 0 [] io2.pat)
def clerestorykeep2_stepped.cuts (k : Nat) : Cuts T (Bool) := fun n => none
def clerestorykeep2_stepped.body : Code := bodyOf Try.f14
theorem clerestorykeep2_stepped.e (k : Nat) : ∀ v, (fun v => clerestorykeep2_stepped k ) v = runK (cfg (tab13 k)) Try.f14.ntmps (clerestorykeep2_stepped.kr k) (annot (clerestorykeep2_stepped.cuts k) clerestorykeep2_stepped.body) (entry (io7.enc v).1 (io7.enc v).2) (endK (clerestorykeep2_stepped.kr k)) := by
  intro v; kernel_rfl
theorem clerestorykeep2_stepped.hb : Try.f14.body = some clerestorykeep2_stepped.body := by kernel_rfl
def tab14 (k : Nat) : Tab T := addTab 14 (line io7 io2 false (fun v => clerestorykeep2_stepped k )) (tab13 k)
def clerestorykeep2_AnimRises (k : Nat) (a1 : Int) (a2 : Int) (a3 : Int) (a4 : Int) (a5 : Int) (a6 : Int) (a7 : Int) (a8 : Int) : Option (Bool) :=
(clerestorykeep2_stepped k).bind fun r9 =>
(anim_Ease k a1 a2 a3 a4 a5 a6 (if a8 < a7 then a8 else a7)).bind fun r10 =>
(anim_Ease k a1 a2 a3 a4 a5 a6 (if a8 > a7 then a8 else a7)).bind fun r11 =>
(anim_Ease k a1 a2 a3 a4 a5 a6 (0 : Int)).bind fun r12 =>
(anim_Ease k a1 a2 a3 a4 a5 a6 (1000 : Int)).bind fun r13 =>
let v14 : Bool := (cond (r10.2 != (0 : Int)) true (r11.2 != (0 : Int)))
cond v14 (
some r9) (
let v15 : Bool := (cond r9 (decide (r10.1 ≤ r11.1)) false)
let v16 : Bool := (cond v15 (decide (r10.1 ≥ (0 : Int))) false)
let v17 : Bool := (decide (r11.1 ≤ (1000 : Int)))
let v18 : Bool := (cond (cond v16 v17 false) (r12.2 == (0 : Int)) false)
let v19 : Bool := (cond v18 (r13.2 == (0 : Int)) false)
let v20 : Bool := (cond v19 (r12.1 == (0 : Int)) false)
let v21 : Bool := (cond v20 (r13.1 == (1000 : Int)) false)
some v21)
def clerestorykeep2_AnimRises.kr (k : Nat) : St T → Option (Bool) := (retK (cfg (tab14 k)) Try.f4.results.toList 0 [] io2.pat)
def clerestorykeep2_AnimRises.cuts (k : Nat) : Cuts T (Bool) := fun n => none
def clerestorykeep2_AnimRises.body : Code := bodyOf Try.f4
theorem clerestorykeep2_AnimRises.e (k : Nat) : ∀ v, (fun v => clerestorykeep2_AnimRises k v.1 v.2.1 v.2.2.1 v.2.2.2.1 v.2.2.2.2.1 v.2.2.2.2.2.1 v.2.2.2.2.2.2.1 v.2.2.2.2.2.2.2) v = runK (cfg (tab14 k)) Try.f4.ntmps (clerestorykeep2_AnimRises.kr k) (annot (clerestorykeep2_AnimRises.cuts k) clerestorykeep2_AnimRises.body) (entry (io16.enc v).1 (io16.enc v).2) (endK (clerestorykeep2_AnimRises.kr k)) := by
  intro v; kernel_rfl
theorem clerestorykeep2_AnimRises.hb : Try.f4.body = some clerestorykeep2_AnimRises.body := by kernel_rfl
def tab15 (k : Nat) : Tab T := addTab 4 (line io16 io2 false (fun v => clerestorykeep2_AnimRises k v.1 v.2.1 v.2.2.1 v.2.2.2.1 v.2.2.2.2.1 v.2.2.2.2.2.1 v.2.2.2.2.2.2.1 v.2.2.2.2.2.2.2)) (tab14 k)
def anim_cut (k : Nat) (a1 : Int) : Option (Int) :=
let v2 : Int := (if (-16777216 : Int) > a1 then (-16777216 : Int) else a1)
let v3 : Int := (if (16777216 : Int) < v2 then (16777216 : Int) else v2)
some v3
def anim_cut.kr (k : Nat) : St T → Option (Int) := (retK (cfg (tab15 k)) Try.f28.results.toList 0 [] io1.pat)
def anim_cut.cuts (k : Nat) : Cuts T (Int) := fun n => none
def anim_cut.body : Code := bodyOf Try.f28
theorem anim_cut.e (k : Nat) : ∀ v, (fun v => anim_cut k v) v = runK (cfg (tab15 k)) Try.f28.ntmps (anim_cut.kr k) (annot (anim_cut.cuts k) anim_cut.body) (entry (io1.enc v).1 (io1.enc v).2) (endK (anim_cut.kr k)) := by
  intro v; kernel_rfl
theorem anim_cut.hb : Try.f28.body = some anim_cut.body := by kernel_rfl
def tab16 (k : Nat) : Tab T := addTab 28 (line io1 io1 (0 : Int) (fun v => anim_cut k v)) (tab15 k)
def anim_part.c10 (k : Nat) (x8 : Int) (x9 : Int)  : Option (Int) :=
some (IntKind.wrap .i64 (x8 + x9))
def anim_part (k : Nat) (a1 : Int) (a2 : Int) (a3 : Int) : Option (Int) :=
let v4 : Int := (IntKind.wrap .i64 ((IntKind.wrap .i64 (a2 - a1)) * a3))
cond ((1000 : Int) != 0) (
let v5 : Int := (IntKind.wrap .i64 (Int.tdiv v4 (1000 : Int)))
cond ((1000 : Int) != 0) (
let v6 : Bool := (decide ((Int.tmod v4 (1000 : Int)) < (0 : Int)))
cond v6 (
let v7 : Int := (IntKind.wrap .i64 (v5 - (1 : Int)))
anim_part.c10 k a1 v7) (
anim_part.c10 k a1 v5)) none) none
def anim_part.kr (k : Nat) : St T → Option (Int) := (retK (cfg (tab16 k)) Try.f27.results.toList 0 [] io1.pat)
def anim_part.x10 : Ex → Option (List Nat × List Sp)
  | _ => none
def anim_part.L10 (k : Nat) (v : Int × Int) (K : Ex → St T → Option (Int)) : Option (Int) := anim_part.c10 k v.1 v.2
def anim_part.cuts (k : Nat) : Cuts T (Int) := fun n => bif n.beq 10 then some (entK (cfg (tab16 k)) 0 [0, 8] [] io3.pat (anim_part.L10 k)) else none
def anim_part.body : Code := bodyOf Try.f27
def anim_part.b10 : Code := findD 10 anim_part.body
theorem anim_part.s10 (k : Nat) : ∀ v K, anim_part.L10 k v K = runK (cfg (tab16 k)) Try.f27.ntmps (anim_part.kr k) (annot (anim_part.cuts k) anim_part.b10) (mkSt [0, 8] (io3.enc v)) (outK (cfg (tab16 k)) 0 anim_part.x10 K) := by
  intro v K; kernel_rfl
theorem anim_part.e (k : Nat) : ∀ v, (fun v => anim_part k v.1 v.2.1 v.2.2) v = runK (cfg (tab16 k)) Try.f27.ntmps (anim_part.kr k) (annot (anim_part.cuts k) anim_part.body) (entry (io9.enc v).1 (io9.enc v).2) (endK (anim_part.kr k)) := by
  intro v; kernel_rfl
theorem anim_part.hb : Try.f27.body = some anim_part.body := by kernel_rfl
def tab17 (k : Nat) : Tab T := addTab 27 (line io9 io1 (0 : Int) (fun v => anim_part k v.1 v.2.1 v.2.2)) (tab16 k)
def anim_Mix.c15 (k : Nat) : Nat → Int → Int → Int → Int → Int → Int → Int → Int → Int → (Int → Int → Int → Option (Int × Int)) → Option (Int × Int)
  | 0, _, _, _, _, _, _, _, _, _, _ => none
  | n + 1, x13, x14, x15, x16, x17, x18, x19, x20, x21, k1 =>
    cond (decide (x15 ≥ (0 : Int))) (
    cond (decide (0 ≤ (8 : Int))) (
    let v22 : Int := (IntKind.wrap .i64 (x14 * 2 ^ (min (8 : Int).toNat (IntKind.bits .i64))))
    cond (decide (0 ≤ x15)) (
    let v23 : Int := (Int.fdiv (IntKind.wrap .u32 x17) (2 ^ (min x15.toNat (IntKind.bits .u32))))
    let v24 : Int := (IntKind.wrap .u32 (((BitVec.ofInt (IntKind.bits .u32) v23 &&& BitVec.ofInt (IntKind.bits .u32) (255 : Int)).toNat : Int)))
    cond (decide (0 ≤ x15)) (
    let v25 : Int := (Int.fdiv (IntKind.wrap .u32 x19) (2 ^ (min x15.toNat (IntKind.bits .u32))))
    let v26 : Int := (IntKind.wrap .u32 (((BitVec.ofInt (IntKind.bits .u32) v25 &&& BitVec.ofInt (IntKind.bits .u32) (255 : Int)).toNat : Int)))
    (anim_part k (IntKind.wrap .i64 v24) (IntKind.wrap .i64 v26) x13).bind fun r27 =>
    let v28 : Int := (IntKind.wrap .i64 (((BitVec.ofInt (IntKind.bits .i64) v22 ||| BitVec.ofInt (IntKind.bits .i64) r27).toNat : Int)))
    let v29 : Int := (IntKind.wrap .i64 (x15 - (8 : Int)))
    anim_Mix.c15 k n x13 v28 v29 x16 x17 x18 x19 x20 x21 k1) none) none) none) (
    k1 x14 x20 x21)
def anim_Mix (k : Nat) (a1 : Int) (a2 : Int) (a3 : Int) (a4 : Int) (a5 : Int) : Option (Int × Int) :=
let v6 : Int := (if (0 : Int) > a5 then (0 : Int) else a5)
let v7 : Int := (if (1000 : Int) < v6 then (1000 : Int) else v6)
(cond (a1 == a3) (anim_in k a1 (2 : Int) (4 : Int)) (some false)).bind fun r8 =>
cond (cond (a1 == a3) r8 false) (
(anim_cut k a2).bind fun r9 =>
(anim_cut k a4).bind fun r10 =>
(anim_part k r9 r10 v7).bind fun r11 =>
some (a1, r11)) (
let v12 : Bool := (cond (a1 == (5 : Int)) (a3 == (5 : Int)) false)
cond v12 (
anim_Mix.c15 k k v7 (0 : Int) (24 : Int) a1 a2 a3 a4 (0 : Int) (0 : Int) (fun (y30 : Int) (y31 : Int) (y32 : Int) =>
some ((5 : Int), y30))) (
cond (decide (v7 < (500 : Int))) (
some (a1, a2)) (
some (a3, a4))))
def anim_Mix.kr (k : Nat) : St T → Option (Int × Int) := (retK (cfg (tab17 k)) Try.f17.results.toList 0 [] io18.pat)
def anim_Mix.x15 : Ex → Option (List Nat × List Sp)
  | .exit 1 => some ([6, 7], [])
  | _ => none
def anim_Mix.L15 (k : Nat) (n : Nat) (v : Int × Int × Int × Int × Int × Int × Int × Int × Int) (K : Ex → St T → Option (Int × Int)) : Option (Int × Int) := anim_Mix.c15 k n v.1 v.2.1 v.2.2.1 v.2.2.2.1 v.2.2.2.2.1 v.2.2.2.2.2.1 v.2.2.2.2.2.2.1 v.2.2.2.2.2.2.2.1 v.2.2.2.2.2.2.2.2 (fun y45 y46 y47 => K (.exit 1) (mkSt [6, 7] (io20.enc (y45, y46, y47))))
def anim_Mix.cuts (k : Nat) : Cuts T (Int × Int) := fun n => bif n.beq 15 then some (entK (cfg (tab17 k)) 0 [2, 3, 4, 6, 7, 8] [] io19.pat (anim_Mix.L15 k k)) else none
def anim_Mix.body : Code := bodyOf Try.f17
def anim_Mix.b15 : Code := findD 15 anim_Mix.body
theorem anim_Mix.s15 (k : Nat) : ∀ n v K, anim_Mix.L15 k (n + 1) v K = runK (cfg (tab17 k)) Try.f17.ntmps (anim_Mix.kr k) (annot (anim_Mix.cuts k) anim_Mix.b15) (mkSt [2, 3, 4, 6, 7, 8] (io19.enc v)) (loopK (cfg (tab17 k)) 0 anim_Mix.x15 (entK (cfg (tab17 k)) 0 [2, 3, 4, 6, 7, 8] [] io19.pat (anim_Mix.L15 k n)) K) := by
  intro n v K; kernel_rfl
theorem anim_Mix.e (k : Nat) : ∀ v, (fun v => anim_Mix k v.1 v.2.1 v.2.2.1 v.2.2.2.1 v.2.2.2.2) v = runK (cfg (tab17 k)) Try.f17.ntmps (anim_Mix.kr k) (annot (anim_Mix.cuts k) anim_Mix.body) (entry (io17.enc v).1 (io17.enc v).2) (endK (anim_Mix.kr k)) := by
  intro v; kernel_rfl
theorem anim_Mix.hb : Try.f17.body = some anim_Mix.body := by kernel_rfl
def tab18 (k : Nat) : Tab T := addTab 17 (line io17 io18 ((0 : Int), (0 : Int)) (fun v => anim_Mix k v.1 v.2.1 v.2.2.1 v.2.2.2.1 v.2.2.2.2)) (tab17 k)
def clerestorykeep2_AnimBetween (k : Nat) (a1 : Int) (a2 : Int) (a3 : Int) (a4 : Int) : Option (Bool) :=
(clerestorykeep2_stepped k).bind fun r5 =>
cond ((3 : Int) != 0) (
let v6 : Int := (Int.tmod (IntKind.wrap .u64 a3) (3 : Int))
let v7 : Int := (IntKind.wrap .i64 ((2 : Int) + (IntKind.wrap .i64 v6)))
cond ((16777217 : Int) != 0) (
cond ((16777217 : Int) != 0) (
(anim_Mix k v7 (Int.tmod a1 (16777217 : Int)) v7 (Int.tmod a2 (16777217 : Int)) a4).bind fun r8 =>
let v9 : Int := (if (Int.tmod a2 (16777217 : Int)) < (Int.tmod a1 (16777217 : Int)) then (Int.tmod a2 (16777217 : Int)) else (Int.tmod a1 (16777217 : Int)))
let v10 : Bool := (cond (r8.1 != v7) true (decide (r8.2 < v9)))
let v11 : Int := (if (Int.tmod a2 (16777217 : Int)) > (Int.tmod a1 (16777217 : Int)) then (Int.tmod a2 (16777217 : Int)) else (Int.tmod a1 (16777217 : Int)))
let v12 : Bool := (cond v10 true (decide (r8.2 > v11)))
cond v12 (
some false) (
let v13 : Int := (IntKind.wrap .i64 (IntKind.wrap .u32 a1))
let v14 : Int := (IntKind.wrap .i64 (IntKind.wrap .u32 a2))
(cond r5 (anim_Mix k v7 (Int.tmod a1 (16777217 : Int)) v7 (Int.tmod a2 (16777217 : Int)) (0 : Int)) (some ((0 : Int), (0 : Int)))).bind fun r15 =>
let v16 : Bool := ((r15.1 == v7) && ((r15.2 == (Int.tmod a1 (16777217 : Int))) && true))
(cond (cond r5 v16 false) (anim_Mix k v7 (Int.tmod a1 (16777217 : Int)) v7 (Int.tmod a2 (16777217 : Int)) (1000 : Int)) (some ((0 : Int), (0 : Int)))).bind fun r17 =>
let v18 : Bool := ((r17.1 == v7) && ((r17.2 == (Int.tmod a2 (16777217 : Int))) && true))
let v19 : Bool := (cond (cond r5 v16 false) v18 false)
(cond v19 (anim_Mix k (5 : Int) v13 (5 : Int) v14 (0 : Int)) (some ((0 : Int), (0 : Int)))).bind fun r20 =>
let v21 : Bool := ((r20.1 == (5 : Int)) && ((r20.2 == v13) && true))
(cond (cond v19 v21 false) (anim_Mix k (5 : Int) v13 (5 : Int) v14 (1000 : Int)) (some ((0 : Int), (0 : Int)))).bind fun r22 =>
let v23 : Bool := ((r22.1 == (5 : Int)) && ((r22.2 == v14) && true))
let v24 : Bool := (cond (cond v19 v21 false) v23 false)
(cond v24 (anim_Mix k v7 (Int.tmod a1 (16777217 : Int)) v7 (Int.tmod a1 (16777217 : Int)) a4) (some ((0 : Int), (0 : Int)))).bind fun r25 =>
let v26 : Bool := ((r25.1 == v7) && ((r25.2 == (Int.tmod a1 (16777217 : Int))) && true))
some (cond v24 v26 false))) none) none) none
def clerestorykeep2_AnimBetween.kr (k : Nat) : St T → Option (Bool) := (retK (cfg (tab18 k)) Try.f7.results.toList 0 [] io2.pat)
def clerestorykeep2_AnimBetween.cuts (k : Nat) : Cuts T (Bool) := fun n => none
def clerestorykeep2_AnimBetween.body : Code := bodyOf Try.f7
theorem clerestorykeep2_AnimBetween.e (k : Nat) : ∀ v, (fun v => clerestorykeep2_AnimBetween k v.1 v.2.1 v.2.2.1 v.2.2.2) v = runK (cfg (tab18 k)) Try.f7.ntmps (clerestorykeep2_AnimBetween.kr k) (annot (clerestorykeep2_AnimBetween.cuts k) clerestorykeep2_AnimBetween.body) (entry (io21.enc v).1 (io21.enc v).2) (endK (clerestorykeep2_AnimBetween.kr k)) := by
  intro v; kernel_rfl
theorem clerestorykeep2_AnimBetween.hb : Try.f7.body = some clerestorykeep2_AnimBetween.body := by kernel_rfl
def tab19 (k : Nat) : Tab T := addTab 7 (line io21 io2 false (fun v => clerestorykeep2_AnimBetween k v.1 v.2.1 v.2.2.1 v.2.2.2)) (tab18 k)
def anim_Check.c23 (k : Nat) : Nat → (List S53) → Int → Int → Int → Int → Int → Bool → Bool → Int → Int → Int → Int → Int → Int → (List S53) → (Option (Int)) → Option (Int)
  | 0, _, _, _, _, _, _, _, _, _, _, _, _, _, _, _, _ => none
  | n + 1, x25, x26, x27, x28, x29, x30, x31, x32, x33, x34, x35, x36, x37, x38, x39, k0 =>
    cond (decide (x27 < x26)) (
    cond (decide (0 ≤ x27 ∧ x27 < (x25.length : Int))) (
    let v40 : Int := (x25.getD x27.toNat S53.d).Val_Kind
    let v41 : Int := (x25.getD x27.toNat S53.d).Val_N
    cond (decide (0 ≤ x27 ∧ x27 < (x39.length : Int))) (
    let v42 : Bool := (decide (((x25.getD x27.toNat S53.d).At) ≤ ((x39.getD x27.toNat S53.d).At)))
    cond v42 (
    some (3 : Int)) (
    let v43 : Int := (IntKind.wrap .i64 (x27 + (1 : Int)))
    anim_Check.c23 k n x25 x26 v43 x28 x29 x30 x31 x32 x33 x34 x35 x36 x37 x38 x39 k0)) none) none) (
    k0)
def anim_Check (k : Nat) (a1 : Int) (a2 : Int) (a3 : Int) (a4 : Bool) (a5 : Bool) (a6 : Int) (a7 : Int) (a8 : Int) (a9 : Int) (a10 : Int) (a11 : Int) (a12 : List S53) : Option (Int) :=
(anim_in k a1 (0 : Int) (100000000 : Int)).bind fun r13 =>
(cond (!(!r13)) (anim_in k a2 (1 : Int) (100000000 : Int)) (some false)).bind fun r14 =>
(cond (!(cond (!r13) true (!r14))) (anim_in k a3 (1 : Int) (1000 : Int)) (some false)).bind fun r15 =>
let v16 : Bool := (cond (cond (!r13) true (!r14)) true (!r15))
cond v16 (
some (1 : Int)) (
(anim_easing k a6 a7 a8 a9 a10 a11).bind fun r17 =>
cond (!r17) (
some (3 : Int)) (
let v18 : Bool := (decide ((a12.length : Int) > (10 : Int)))
cond v18 (
some (2 : Int)) (
let v19 : Bool := (decide ((a12.length : Int) < (2 : Int)))
cond ((decide (0 ≤ (0 : Int) ∧ (0 : Int) < (a12.length : Int))) || !(!v19)) (
let v20 : Int := (a12.getD ((0 : Int).toNat) S53.d).At
let v21 : Bool := (cond v19 true (v20 != (0 : Int)))
let v22 : Int := (IntKind.wrap .i64 ((a12.length : Int) - (1 : Int)))
cond ((decide (0 ≤ v22 ∧ v22 < (a12.length : Int))) || !(!v21)) (
let v23 : Bool := (((a12.getD v22.toNat S53.d).At) != (1000 : Int))
cond (cond v21 true v23) (
some (3 : Int)) (
cond (decide (0 ≤ (1 : Int) ∧ (1 : Int) ≤ (a12.length : Int))) (
let v24 : Int := ((a12.drop (1 : Int).toNat).length : Int)
anim_Check.c23 k k (a12.drop (1 : Int).toNat) v24 (0 : Int) a1 a2 a3 a4 a5 a6 a7 a8 a9 a10 a11 a12 (
some (0 : Int))) none)) none) none)))
def anim_Check.kr (k : Nat) : St T → Option (Int) := (retK (cfg (tab19 k)) Try.f20.results.toList 0 [] io1.pat)
def anim_Check.x23 : Ex → Option (List Nat × List Sp)
  | .exit 0 => some ([], [])
  | _ => none
def anim_Check.L23 (k : Nat) (n : Nat) (v : (List S53) × Int × Int × Int × Int × Int × Bool × Bool × Int × Int × Int × Int × Int × Int × (List S53)) (K : Ex → St T → Option (Int)) : Option (Int) := anim_Check.c23 k n v.1 v.2.1 v.2.2.1 v.2.2.2.1 v.2.2.2.2.1 v.2.2.2.2.2.1 v.2.2.2.2.2.2.1 v.2.2.2.2.2.2.2.1 v.2.2.2.2.2.2.2.2.1 v.2.2.2.2.2.2.2.2.2.1 v.2.2.2.2.2.2.2.2.2.2.1 v.2.2.2.2.2.2.2.2.2.2.2.1 v.2.2.2.2.2.2.2.2.2.2.2.2.1 v.2.2.2.2.2.2.2.2.2.2.2.2.2.1 v.2.2.2.2.2.2.2.2.2.2.2.2.2.2 ( K (.exit 0) (mkSt [] (io7.enc ())))
def anim_Check.cuts (k : Nat) : Cuts T (Int) := fun n => bif n.beq 23 then some (entK (cfg (tab19 k)) 0 [1, 53, 54, 55] [] io23.pat (anim_Check.L23 k k)) else none
def anim_Check.body : Code := bodyOf Try.f20
def anim_Check.b23 : Code := findD 23 anim_Check.body
theorem anim_Check.s23 (k : Nat) : ∀ n v K, anim_Check.L23 k (n + 1) v K = runK (cfg (tab19 k)) Try.f20.ntmps (anim_Check.kr k) (annot (anim_Check.cuts k) anim_Check.b23) (mkSt [1, 53, 54, 55] (io23.enc v)) (loopK (cfg (tab19 k)) 0 anim_Check.x23 (entK (cfg (tab19 k)) 0 [1, 53, 54, 55] [] io23.pat (anim_Check.L23 k n)) K) := by
  intro n v K; kernel_rfl
theorem anim_Check.e (k : Nat) : ∀ v, (fun v => anim_Check k v.1 v.2.1 v.2.2.1 v.2.2.2.1 v.2.2.2.2.1 v.2.2.2.2.2.1 v.2.2.2.2.2.2.1 v.2.2.2.2.2.2.2.1 v.2.2.2.2.2.2.2.2.1 v.2.2.2.2.2.2.2.2.2.1 v.2.2.2.2.2.2.2.2.2.2.1 v.2.2.2.2.2.2.2.2.2.2.2) v = runK (cfg (tab19 k)) Try.f20.ntmps (anim_Check.kr k) (annot (anim_Check.cuts k) anim_Check.body) (entry (io22.enc v).1 (io22.enc v).2) (endK (anim_Check.kr k)) := by
  intro v; kernel_rfl
theorem anim_Check.hb : Try.f20.body = some anim_Check.body := by kernel_rfl
def tab20 (k : Nat) : Tab T := addTab 20 (line io22 io1 (0 : Int) (fun v => anim_Check k v.1 v.2.1 v.2.2.1 v.2.2.2.1 v.2.2.2.2.1 v.2.2.2.2.2.1 v.2.2.2.2.2.2.1 v.2.2.2.2.2.2.2.1 v.2.2.2.2.2.2.2.2.1 v.2.2.2.2.2.2.2.2.2.1 v.2.2.2.2.2.2.2.2.2.2.1 v.2.2.2.2.2.2.2.2.2.2.2)) (tab19 k)
def anim_right.c9 (k : Nat) : Nat → Int → (List S50) → Int → Int → (Int → Option (Int)) → Option (Int)
  | 0, _, _, _, _, _ => none
  | n + 1, x4, x5, x6, x7, k0 =>
    cond (decide (x7 < x6)) (
    cond (decide (0 ≤ x7 ∧ x7 < (x5.length : Int))) (
    let v8 : Int := (x5.getD x7.toNat S50.d).Length
    let v9 : Int := (x5.getD x7.toNat S50.d).Ease_Kind
    let v10 : Int := (x5.getD x7.toNat S50.d).Ease_Curve_0
    let v11 : Int := (x5.getD x7.toNat S50.d).Ease_Curve_1
    let v12 : Int := (x5.getD x7.toNat S50.d).Ease_Curve_2
    let v13 : Int := (x5.getD x7.toNat S50.d).Ease_Curve_3
    let v14 : Int := (x5.getD x7.toNat S50.d).Ease_N
    let v15 : List S53 := (x5.getD x7.toNat S50.d).Frames
    (anim_Check k ((x5.getD x7.toNat S50.d).From) v8 ((x5.getD x7.toNat S50.d).Times) ((x5.getD x7.toNat S50.d).Turn) ((x5.getD x7.toNat S50.d).Stays) v9 v10 v11 v12 v13 v14 v15).bind fun r16 =>
    cond (r16 != (0 : Int)) (
    some r16) (
    let v17 : Int := (IntKind.wrap .i64 (x7 + (1 : Int)))
    anim_right.c9 k n x4 x5 x6 v17 k0)) none) (
    k0 x4)
def anim_right (k : Nat) (a1 : List S50) (a2 : Int) : Option (Int) :=
let v3 : Bool := (decide ((a1.length : Int) > (10 : Int)))
cond v3 (
some (2 : Int)) (
anim_right.c9 k k a2 a1 (a1.length : Int) (0 : Int) (fun (y18 : Int) =>
(anim_in k y18 (0 : Int) (200000000000 : Int)).bind fun r19 =>
cond (!r19) (
some (1 : Int)) (
some (0 : Int))))
def anim_right.kr (k : Nat) : St T → Option (Int) := (retK (cfg (tab20 k)) Try.f29.results.toList 0 [] io1.pat)
def anim_right.x9 : Ex → Option (List Nat × List Sp)
  | .exit 0 => some ([1], [])
  | _ => none
def anim_right.L9 (k : Nat) (n : Nat) (v : Int × (List S50) × Int × Int) (K : Ex → St T → Option (Int)) : Option (Int) := anim_right.c9 k n v.1 v.2.1 v.2.2.1 v.2.2.2 (fun y48 => K (.exit 0) (mkSt [1] (io1.enc y48)))
def anim_right.cuts (k : Nat) : Cuts T (Int) := fun n => bif n.beq 9 then some (entK (cfg (tab20 k)) 0 [1, 11, 12, 13] [] io25.pat (anim_right.L9 k k)) else none
def anim_right.body : Code := bodyOf Try.f29
def anim_right.b9 : Code := findD 9 anim_right.body
theorem anim_right.s9 (k : Nat) : ∀ n v K, anim_right.L9 k (n + 1) v K = runK (cfg (tab20 k)) Try.f29.ntmps (anim_right.kr k) (annot (anim_right.cuts k) anim_right.b9) (mkSt [1, 11, 12, 13] (io25.enc v)) (loopK (cfg (tab20 k)) 0 anim_right.x9 (entK (cfg (tab20 k)) 0 [1, 11, 12, 13] [] io25.pat (anim_right.L9 k n)) K) := by
  intro n v K; kernel_rfl
theorem anim_right.e (k : Nat) : ∀ v, (fun v => anim_right k v.1 v.2) v = runK (cfg (tab20 k)) Try.f29.ntmps (anim_right.kr k) (annot (anim_right.cuts k) anim_right.body) (entry (io24.enc v).1 (io24.enc v).2) (endK (anim_right.kr k)) := by
  intro v; kernel_rfl
theorem anim_right.hb : Try.f29.body = some anim_right.body := by kernel_rfl
def tab21 (k : Nat) : Tab T := addTab 29 (line io24 io1 (0 : Int) (fun v => anim_right k v.1 v.2)) (tab20 k)
def anim_end (k : Nat) (a1 : Int) (a2 : Int) (a3 : Int) (a4 : Bool) (a5 : Bool) (a6 : Int) (a7 : Int) (a8 : Int) (a9 : Int) (a10 : Int) (a11 : Int) (a12 : List S53) : Option (Int) :=
let v13 : Int := (IntKind.wrap .i64 (a1 + (IntKind.wrap .i64 (a3 * a2))))
some v13
def anim_end.kr (k : Nat) : St T → Option (Int) := (retK (cfg (tab21 k)) Try.f31.results.toList 0 [] io1.pat)
def anim_end.cuts (k : Nat) : Cuts T (Int) := fun n => none
def anim_end.body : Code := bodyOf Try.f31
theorem anim_end.e (k : Nat) : ∀ v, (fun v => anim_end k v.1 v.2.1 v.2.2.1 v.2.2.2.1 v.2.2.2.2.1 v.2.2.2.2.2.1 v.2.2.2.2.2.2.1 v.2.2.2.2.2.2.2.1 v.2.2.2.2.2.2.2.2.1 v.2.2.2.2.2.2.2.2.2.1 v.2.2.2.2.2.2.2.2.2.2.1 v.2.2.2.2.2.2.2.2.2.2.2) v = runK (cfg (tab21 k)) Try.f31.ntmps (anim_end.kr k) (annot (anim_end.cuts k) anim_end.body) (entry (io22.enc v).1 (io22.enc v).2) (endK (anim_end.kr k)) := by
  intro v; kernel_rfl
theorem anim_end.hb : Try.f31.body = some anim_end.body := by kernel_rfl
def tab22 (k : Nat) : Tab T := addTab 31 (line io22 io1 (0 : Int) (fun v => anim_end k v.1 v.2.1 v.2.2.1 v.2.2.2.1 v.2.2.2.2.1 v.2.2.2.2.2.1 v.2.2.2.2.2.2.1 v.2.2.2.2.2.2.2.1 v.2.2.2.2.2.2.2.2.1 v.2.2.2.2.2.2.2.2.2.1 v.2.2.2.2.2.2.2.2.2.2.1 v.2.2.2.2.2.2.2.2.2.2.2)) (tab21 k)
def anim_frames.c5 (k : Nat) : Nat → Int → Int → Int → Int → Int → Bool → Bool → Int → Int → Int → Int → Int → Int → (List S53) → Int → Int → (Int → Int → Int → Int → Int → Bool → Bool → Int → Int → Int → Int → Int → Int → (List S53) → Int → Int → Option (Int × Int)) → Option (Int × Int)
  | 0, _, _, _, _, _, _, _, _, _, _, _, _, _, _, _, _, _ => none
  | n + 1, x14, x15, x16, x17, x18, x19, x20, x21, x22, x23, x24, x25, x26, x27, x28, x29, k0 =>
    let v30 : Int := (IntKind.wrap .i64 (x15 + (1 : Int)))
    let v31 : Bool := (decide (v30 < (x27.length : Int)))
    let v32 : Int := (IntKind.wrap .i64 (x15 + (1 : Int)))
    cond ((decide (0 ≤ v32 ∧ v32 < (x27.length : Int))) || !v31) (
    let v33 : Bool := (decide (((x27.getD v32.toNat S53.d).At) ≤ x14))
    cond (cond v31 v33 false) (
    let v34 : Int := (IntKind.wrap .i64 (x15 + (1 : Int)))
    anim_frames.c5 k n x14 v34 x16 x17 x18 x19 x20 x21 x22 x23 x24 x25 x26 x27 x28 x29 k0) (
    k0 x14 x15 x16 x17 x18 x19 x20 x21 x22 x23 x24 x25 x26 x27 x28 x29)) none
def anim_frames (k : Nat) (a1 : Int) (a2 : Int) (a3 : Int) (a4 : Bool) (a5 : Bool) (a6 : Int) (a7 : Int) (a8 : Int) (a9 : Int) (a10 : Int) (a11 : Int) (a12 : List S53) (a13 : Int) : Option (Int × Int) :=
anim_frames.c5 k k a13 (0 : Int) a1 a2 a3 a4 a5 a6 a7 a8 a9 a10 a11 a12 (0 : Int) (0 : Int) (fun (y35 : Int) (y36 : Int) (y37 : Int) (y38 : Int) (y39 : Int) (y40 : Bool) (y41 : Bool) (y42 : Int) (y43 : Int) (y44 : Int) (y45 : Int) (y46 : Int) (y47 : Int) (y48 : List S53) (y49 : Int) (y50 : Int) =>
cond (decide (0 ≤ y36 ∧ y36 < (y48.length : Int))) (
let v51 : Int := (y48.getD y36.toNat S53.d).Val_Kind
let v52 : Int := (y48.getD y36.toNat S53.d).Val_N
let v53 : Int := (IntKind.wrap .i64 (y36 + (1 : Int)))
cond (v53 == (y48.length : Int)) (
some (v51, v52)) (
let v54 : Int := (IntKind.wrap .i64 (y36 + (1 : Int)))
cond (decide (0 ≤ v54 ∧ v54 < (y48.length : Int))) (
let v55 : Int := (y48.getD v54.toNat S53.d).Val_Kind
let v56 : Int := (y48.getD v54.toNat S53.d).Val_N
let v57 : Int := (IntKind.wrap .i64 (y35 - ((y48.getD y36.toNat S53.d).At)))
let v58 : Int := (IntKind.wrap .i64 (v57 * (1000 : Int)))
let v59 : Int := (IntKind.wrap .i64 (((y48.getD v54.toNat S53.d).At) - ((y48.getD y36.toNat S53.d).At)))
cond (v59 != 0) (
let v60 : Int := (IntKind.wrap .i64 (Int.tdiv v58 v59))
(anim_eased k y42 y43 y44 y45 y46 y47 v60).bind fun r61 =>
(anim_Mix k v51 v52 v55 v56 r61).bind fun r62 =>
some (r62.1, r62.2)) none) none)) none)
def anim_frames.kr (k : Nat) : St T → Option (Int × Int) := (retK (cfg (tab22 k)) Try.f36.results.toList 0 [] io18.pat)
def anim_frames.x5 : Ex → Option (List Nat × List Sp)
  | .exit 0 => some ([1, 2, 4, 5], [])
  | _ => none
def anim_frames.L5 (k : Nat) (n : Nat) (v : Int × Int × Int × Int × Int × Bool × Bool × Int × Int × Int × Int × Int × Int × (List S53) × Int × Int) (K : Ex → St T → Option (Int × Int)) : Option (Int × Int) := anim_frames.c5 k n v.1 v.2.1 v.2.2.1 v.2.2.2.1 v.2.2.2.2.1 v.2.2.2.2.2.1 v.2.2.2.2.2.2.1 v.2.2.2.2.2.2.2.1 v.2.2.2.2.2.2.2.2.1 v.2.2.2.2.2.2.2.2.2.1 v.2.2.2.2.2.2.2.2.2.2.1 v.2.2.2.2.2.2.2.2.2.2.2.1 v.2.2.2.2.2.2.2.2.2.2.2.2.1 v.2.2.2.2.2.2.2.2.2.2.2.2.2.1 v.2.2.2.2.2.2.2.2.2.2.2.2.2.2.1 v.2.2.2.2.2.2.2.2.2.2.2.2.2.2.2 (fun y49 y50 y51 y52 y53 y54 y55 y56 y57 y58 y59 y60 y61 y62 y63 y64 => K (.exit 0) (mkSt [1, 2, 4, 5] (io27.enc (y49, y50, y51, y52, y53, y54, y55, y56, y57, y58, y59, y60, y61, y62, y63, y64))))
def anim_frames.cuts (k : Nat) : Cuts T (Int × Int) := fun n => bif n.beq 5 then some (entK (cfg (tab22 k)) 0 [1, 2, 4, 5] [] io27.pat (anim_frames.L5 k k)) else none
def anim_frames.body : Code := bodyOf Try.f36
def anim_frames.b5 : Code := findD 5 anim_frames.body
theorem anim_frames.s5 (k : Nat) : ∀ n v K, anim_frames.L5 k (n + 1) v K = runK (cfg (tab22 k)) Try.f36.ntmps (anim_frames.kr k) (annot (anim_frames.cuts k) anim_frames.b5) (mkSt [1, 2, 4, 5] (io27.enc v)) (loopK (cfg (tab22 k)) 0 anim_frames.x5 (entK (cfg (tab22 k)) 0 [1, 2, 4, 5] [] io27.pat (anim_frames.L5 k n)) K) := by
  intro n v K; kernel_rfl
theorem anim_frames.e (k : Nat) : ∀ v, (fun v => anim_frames k v.1 v.2.1 v.2.2.1 v.2.2.2.1 v.2.2.2.2.1 v.2.2.2.2.2.1 v.2.2.2.2.2.2.1 v.2.2.2.2.2.2.2.1 v.2.2.2.2.2.2.2.2.1 v.2.2.2.2.2.2.2.2.2.1 v.2.2.2.2.2.2.2.2.2.2.1 v.2.2.2.2.2.2.2.2.2.2.2.1 v.2.2.2.2.2.2.2.2.2.2.2.2) v = runK (cfg (tab22 k)) Try.f36.ntmps (anim_frames.kr k) (annot (anim_frames.cuts k) anim_frames.body) (entry (io26.enc v).1 (io26.enc v).2) (endK (anim_frames.kr k)) := by
  intro v; kernel_rfl
theorem anim_frames.hb : Try.f36.body = some anim_frames.body := by kernel_rfl
def tab23 (k : Nat) : Tab T := addTab 36 (line io26 io18 ((0 : Int), (0 : Int)) (fun v => anim_frames k v.1 v.2.1 v.2.2.1 v.2.2.2.1 v.2.2.2.2.1 v.2.2.2.2.2.1 v.2.2.2.2.2.2.1 v.2.2.2.2.2.2.2.1 v.2.2.2.2.2.2.2.2.1 v.2.2.2.2.2.2.2.2.2.1 v.2.2.2.2.2.2.2.2.2.2.1 v.2.2.2.2.2.2.2.2.2.2.2.1 v.2.2.2.2.2.2.2.2.2.2.2.2)) (tab22 k)
def anim_tells.c14 (k : Nat) (x22 : Int) (x23 : Int) (x24 : Int) (x25 : Bool) (x26 : Bool) (x27 : Int) (x28 : Int) (x29 : Int) (x30 : Int) (x31 : Int) (x32 : Int) (x33 : List S53) (x34 : Int) (x35 : Int) (x36 : Int) (x37 : Int) (x38 : Int)  : Option (Int × Int × Bool) :=
some (x37, x38, x26)
def anim_tells.c24 (k : Nat) (x45 : Int) (x46 : Int) (x47 : Int) (x48 : Int) (x49 : Bool) (x50 : Bool) (x51 : Int) (x52 : Int) (x53 : Int) (x54 : Int) (x55 : Int) (x56 : Int) (x57 : List S53) (x58 : Int) (x59 : Int)  : Option (Int × Int × Bool) :=
(anim_frames k x46 x47 x48 x49 x50 x51 x52 x53 x54 x55 x56 x57 x45).bind fun r60 =>
some (r60.1, r60.2, true)
def anim_tells (k : Nat) (a1 : Int) (a2 : Int) (a3 : Int) (a4 : Bool) (a5 : Bool) (a6 : Int) (a7 : Int) (a8 : Int) (a9 : Int) (a10 : Int) (a11 : Int) (a12 : List S53) (a13 : Int) : Option (Int × Int × Bool) :=
cond (decide (a13 < a1)) (
some ((0 : Int), (0 : Int), false)) (
(anim_end k a1 a2 a3 a4 a5 a6 a7 a8 a9 a10 a11 a12).bind fun r14 =>
cond (decide (a13 ≥ r14)) (
let v15 : Int := (IntKind.wrap .i64 ((a12.length : Int) - (1 : Int)))
cond (decide (0 ≤ v15 ∧ v15 < (a12.length : Int))) (
let v16 : Int := (a12.getD v15.toNat S53.d).Val_Kind
let v17 : Int := (a12.getD v15.toNat S53.d).Val_N
cond (((2 : Int) != 0) || !a4) (
let v18 : Bool := ((Int.tmod a3 (2 : Int)) == (0 : Int))
cond (cond a4 v18 false) (
cond (decide (0 ≤ (0 : Int) ∧ (0 : Int) < (a12.length : Int))) (
let v19 : Int := (a12.getD ((0 : Int).toNat) S53.d).At
let v20 : Int := (a12.getD ((0 : Int).toNat) S53.d).Val_Kind
let v21 : Int := (a12.getD ((0 : Int).toNat) S53.d).Val_N
anim_tells.c14 k a1 a2 a3 a4 a5 a6 a7 a8 a9 a10 a11 a12 (0 : Int) (0 : Int) v19 v20 v21) none) (
anim_tells.c14 k a1 a2 a3 a4 a5 a6 a7 a8 a9 a10 a11 a12 (0 : Int) (0 : Int) ((a12.getD v15.toNat S53.d).At) v16 v17)) none) none) (
cond (a2 != 0) (
let v39 : Int := (Int.tmod (IntKind.wrap .i64 (a13 - a1)) a2)
let v40 : Int := (IntKind.wrap .i64 (v39 * (1000 : Int)))
cond (a2 != 0) (
let v41 : Int := (IntKind.wrap .i64 (Int.tdiv v40 a2))
cond ((a2 != 0) || !a4) (
let v42 : Int := (IntKind.wrap .i64 (Int.tdiv (IntKind.wrap .i64 (a13 - a1)) a2))
cond (((2 : Int) != 0) || !a4) (
let v43 : Bool := ((Int.tmod v42 (2 : Int)) == (1 : Int))
cond (cond a4 v43 false) (
let v44 : Int := (IntKind.wrap .i64 ((1000 : Int) - v41))
anim_tells.c24 k v44 a1 a2 a3 a4 a5 a6 a7 a8 a9 a10 a11 a12 (0 : Int) (0 : Int)) (
anim_tells.c24 k v41 a1 a2 a3 a4 a5 a6 a7 a8 a9 a10 a11 a12 (0 : Int) (0 : Int))) none) none) none) none))
def anim_tells.kr (k : Nat) : St T → Option (Int × Int × Bool) := (retK (cfg (tab23 k)) Try.f30.results.toList 0 [] io28.pat)
def anim_tells.x14 : Ex → Option (List Nat × List Sp)
  | _ => none
def anim_tells.L14 (k : Nat) (v : Int × Int × Int × Bool × Bool × Int × Int × Int × Int × Int × Int × (List S53) × Int × Int × Int × Int × Int) (K : Ex → St T → Option (Int × Int × Bool)) : Option (Int × Int × Bool) := anim_tells.c14 k v.1 v.2.1 v.2.2.1 v.2.2.2.1 v.2.2.2.2.1 v.2.2.2.2.2.1 v.2.2.2.2.2.2.1 v.2.2.2.2.2.2.2.1 v.2.2.2.2.2.2.2.2.1 v.2.2.2.2.2.2.2.2.2.1 v.2.2.2.2.2.2.2.2.2.2.1 v.2.2.2.2.2.2.2.2.2.2.2.1 v.2.2.2.2.2.2.2.2.2.2.2.2.1 v.2.2.2.2.2.2.2.2.2.2.2.2.2.1 v.2.2.2.2.2.2.2.2.2.2.2.2.2.2.1 v.2.2.2.2.2.2.2.2.2.2.2.2.2.2.2.1 v.2.2.2.2.2.2.2.2.2.2.2.2.2.2.2.2
def anim_tells.x24 : Ex → Option (List Nat × List Sp)
  | _ => none
def anim_tells.L24 (k : Nat) (v : Int × Int × Int × Int × Bool × Bool × Int × Int × Int × Int × Int × Int × (List S53) × Int × Int) (K : Ex → St T → Option (Int × Int × Bool)) : Option (Int × Int × Bool) := anim_tells.c24 k v.1 v.2.1 v.2.2.1 v.2.2.2.1 v.2.2.2.2.1 v.2.2.2.2.2.1 v.2.2.2.2.2.2.1 v.2.2.2.2.2.2.2.1 v.2.2.2.2.2.2.2.2.1 v.2.2.2.2.2.2.2.2.2.1 v.2.2.2.2.2.2.2.2.2.2.1 v.2.2.2.2.2.2.2.2.2.2.2.1 v.2.2.2.2.2.2.2.2.2.2.2.2.1 v.2.2.2.2.2.2.2.2.2.2.2.2.2.1 v.2.2.2.2.2.2.2.2.2.2.2.2.2.2
def anim_tells.cuts (k : Nat) : Cuts T (Int × Int × Bool) := fun n => bif n.beq 14 then some (entK (cfg (tab23 k)) 0 [2, 4, 6] [] io29.pat (anim_tells.L14 k)) else bif n.beq 24 then some (entK (cfg (tab23 k)) 0 [2, 4, 8] [] io30.pat (anim_tells.L24 k)) else none
def anim_tells.body : Code := bodyOf Try.f30
def anim_tells.b14 : Code := findD 14 anim_tells.body
theorem anim_tells.s14 (k : Nat) : ∀ v K, anim_tells.L14 k v K = runK (cfg (tab23 k)) Try.f30.ntmps (anim_tells.kr k) (annot (anim_tells.cuts k) anim_tells.b14) (mkSt [2, 4, 6] (io29.enc v)) (outK (cfg (tab23 k)) 0 anim_tells.x14 K) := by
  intro v K; kernel_rfl
def anim_tells.b24 : Code := findD 24 anim_tells.body
theorem anim_tells.s24 (k : Nat) : ∀ v K, anim_tells.L24 k v K = runK (cfg (tab23 k)) Try.f30.ntmps (anim_tells.kr k) (annot (anim_tells.cuts k) anim_tells.b24) (mkSt [2, 4, 8] (io30.enc v)) (outK (cfg (tab23 k)) 0 anim_tells.x24 K) := by
  intro v K; kernel_rfl
theorem anim_tells.e (k : Nat) : ∀ v, (fun v => anim_tells k v.1 v.2.1 v.2.2.1 v.2.2.2.1 v.2.2.2.2.1 v.2.2.2.2.2.1 v.2.2.2.2.2.2.1 v.2.2.2.2.2.2.2.1 v.2.2.2.2.2.2.2.2.1 v.2.2.2.2.2.2.2.2.2.1 v.2.2.2.2.2.2.2.2.2.2.1 v.2.2.2.2.2.2.2.2.2.2.2.1 v.2.2.2.2.2.2.2.2.2.2.2.2) v = runK (cfg (tab23 k)) Try.f30.ntmps (anim_tells.kr k) (annot (anim_tells.cuts k) anim_tells.body) (entry (io26.enc v).1 (io26.enc v).2) (endK (anim_tells.kr k)) := by
  intro v; kernel_rfl
theorem anim_tells.hb : Try.f30.body = some anim_tells.body := by kernel_rfl
def tab24 (k : Nat) : Tab T := addTab 30 (line io26 io28 ((0 : Int), (0 : Int), false) (fun v => anim_tells k v.1 v.2.1 v.2.2.1 v.2.2.2.1 v.2.2.2.2.1 v.2.2.2.2.2.1 v.2.2.2.2.2.2.1 v.2.2.2.2.2.2.2.1 v.2.2.2.2.2.2.2.2.1 v.2.2.2.2.2.2.2.2.2.1 v.2.2.2.2.2.2.2.2.2.2.1 v.2.2.2.2.2.2.2.2.2.2.2.1 v.2.2.2.2.2.2.2.2.2.2.2.2)) (tab23 k)
def anim_At.c11 (k : Nat) : Nat → Int → (List S50) → Int → Int → Int → Int → Int → Int → (Int → Int → Int → Int → Option (Int × Int × Int)) → Option (Int × Int × Int)
  | 0, _, _, _, _, _, _, _, _, _ => none
  | n + 1, x6, x7, x8, x9, x10, x11, x12, x13, k0 =>
    cond (decide (x9 < x8)) (
    cond (decide (0 ≤ x9 ∧ x9 < (x7.length : Int))) (
    let v14 : Int := (x7.getD x9.toNat S50.d).Length
    let v15 : Int := (x7.getD x9.toNat S50.d).Ease_Kind
    let v16 : Int := (x7.getD x9.toNat S50.d).Ease_Curve_0
    let v17 : Int := (x7.getD x9.toNat S50.d).Ease_Curve_1
    let v18 : Int := (x7.getD x9.toNat S50.d).Ease_Curve_2
    let v19 : Int := (x7.getD x9.toNat S50.d).Ease_Curve_3
    let v20 : Int := (x7.getD x9.toNat S50.d).Ease_N
    let v21 : List S53 := (x7.getD x9.toNat S50.d).Frames
    (anim_tells k ((x7.getD x9.toNat S50.d).From) v14 ((x7.getD x9.toNat S50.d).Times) ((x7.getD x9.toNat S50.d).Turn) ((x7.getD x9.toNat S50.d).Stays) v15 v16 v17 v18 v19 v20 v21 x6).bind fun r22 =>
    cond r22.2.2 (
    let v23 : Int := (IntKind.wrap .i64 (x9 + (1 : Int)))
    anim_At.c11 k n x6 x7 x8 v23 r22.1 r22.2.1 x12 x13 k0) (
    let v24 : Int := (IntKind.wrap .i64 (x9 + (1 : Int)))
    anim_At.c11 k n x6 x7 x8 v24 x10 x11 x12 x13 k0)) none) (
    k0 x10 x11 x12 x13)
def anim_At (k : Nat) (a1 : List S50) (a2 : Int) (a3 : Int) (a4 : Int) : Option (Int × Int × Int) :=
(anim_right k a1 a4).bind fun r5 =>
cond (r5 != (0 : Int)) (
some ((0 : Int), (0 : Int), r5)) (
anim_At.c11 k k a4 a1 (a1.length : Int) (0 : Int) a2 a3 (0 : Int) (0 : Int) (fun (y25 : Int) (y26 : Int) (y27 : Int) (y28 : Int) =>
some (y25, y26, (0 : Int))))
def anim_At.kr (k : Nat) : St T → Option (Int × Int × Int) := (retK (cfg (tab24 k)) Try.f18.results.toList 0 [] io32.pat)
def anim_At.x11 : Ex → Option (List Nat × List Sp)
  | .exit 0 => some ([4, 6], [])
  | _ => none
def anim_At.L11 (k : Nat) (n : Nat) (v : Int × (List S50) × Int × Int × Int × Int × Int × Int) (K : Ex → St T → Option (Int × Int × Int)) : Option (Int × Int × Int) := anim_At.c11 k n v.1 v.2.1 v.2.2.1 v.2.2.2.1 v.2.2.2.2.1 v.2.2.2.2.2.1 v.2.2.2.2.2.2.1 v.2.2.2.2.2.2.2 (fun y65 y66 y67 y68 => K (.exit 0) (mkSt [4, 6] (io34.enc (y65, y66, y67, y68))))
def anim_At.cuts (k : Nat) : Cuts T (Int × Int × Int) := fun n => bif n.beq 11 then some (entK (cfg (tab24 k)) 0 [2, 4, 6, 20, 21, 22] [] io33.pat (anim_At.L11 k k)) else none
def anim_At.body : Code := bodyOf Try.f18
def anim_At.b11 : Code := findD 11 anim_At.body
theorem anim_At.s11 (k : Nat) : ∀ n v K, anim_At.L11 k (n + 1) v K = runK (cfg (tab24 k)) Try.f18.ntmps (anim_At.kr k) (annot (anim_At.cuts k) anim_At.b11) (mkSt [2, 4, 6, 20, 21, 22] (io33.enc v)) (loopK (cfg (tab24 k)) 0 anim_At.x11 (entK (cfg (tab24 k)) 0 [2, 4, 6, 20, 21, 22] [] io33.pat (anim_At.L11 k n)) K) := by
  intro n v K; kernel_rfl
theorem anim_At.e (k : Nat) : ∀ v, (fun v => anim_At k v.1 v.2.1 v.2.2.1 v.2.2.2) v = runK (cfg (tab24 k)) Try.f18.ntmps (anim_At.kr k) (annot (anim_At.cuts k) anim_At.body) (entry (io31.enc v).1 (io31.enc v).2) (endK (anim_At.kr k)) := by
  intro v; kernel_rfl
theorem anim_At.hb : Try.f18.body = some anim_At.body := by kernel_rfl
def tab25 (k : Nat) : Tab T := addTab 18 (line io31 io32 ((0 : Int), (0 : Int), (0 : Int)) (fun v => anim_At k v.1 v.2.1 v.2.2.1 v.2.2.2)) (tab24 k)
def clerestorykeep2_moved.c7 (k : Nat) : Nat → (List S50) → Int → Int → (List S50) → ((List S50) → Option (List S50)) → Option (List S50)
  | 0, _, _, _, _, _ => none
  | n + 1, x3, x4, x5, x6, k0 =>
    let v7 : Bool := (decide (x5 < (x3.length : Int)))
    cond v7 (
    cond (decide (0 ≤ x5 ∧ x5 < (x3.length : Int))) (
    let v8 : Int := (x3.getD x5.toNat S50.d).Length
    let v9 : Int := (x3.getD x5.toNat S50.d).Ease_Kind
    let v10 : Int := (x3.getD x5.toNat S50.d).Ease_Curve_0
    let v11 : Int := (x3.getD x5.toNat S50.d).Ease_Curve_1
    let v12 : Int := (x3.getD x5.toNat S50.d).Ease_Curve_2
    let v13 : Int := (x3.getD x5.toNat S50.d).Ease_Curve_3
    let v14 : Int := (x3.getD x5.toNat S50.d).Ease_N
    let v15 : List S53 := (x3.getD x5.toNat S50.d).Frames
    let v16 : Int := (IntKind.wrap .i64 (((x3.getD x5.toNat S50.d).From) + x4))
    let v17 : List S50 := [(⟨v16, v8, (x3.getD x5.toNat S50.d).Times, (x3.getD x5.toNat S50.d).Turn, (x3.getD x5.toNat S50.d).Stays, v9, v10, v11, v12, v13, v14, v15⟩ : S50)]
    cond (decide ((x6 ++ v17).length < most)) (
    let v18 : Int := (IntKind.wrap .i64 (x5 + (1 : Int)))
    clerestorykeep2_moved.c7 k n x3 x4 v18 (x6 ++ v17) k0) none) none) (
    k0 x6)
def clerestorykeep2_moved (k : Nat) (a1 : List S50) (a2 : Int) : Option (List S50) :=
clerestorykeep2_moved.c7 k k a1 a2 (0 : Int) ([] : List S50) (fun (y19 : List S50) =>
some y19)
def clerestorykeep2_moved.kr (k : Nat) : St T → Option (List S50) := (retK (cfg (tab25 k)) Try.f19.results.toList 0 [.own 0 50] io35.pat)
def clerestorykeep2_moved.x7 : Ex → Option (List Nat × List Sp)
  | .exit 0 => some ([5], [.own 5 50])
  | _ => none
def clerestorykeep2_moved.L7 (k : Nat) (n : Nat) (v : (List S50) × Int × Int × (List S50)) (K : Ex → St T → Option (List S50)) : Option (List S50) := clerestorykeep2_moved.c7 k n v.1 v.2.1 v.2.2.1 v.2.2.2 (fun y69 => K (.exit 0) (mkSt [5] (io35.enc y69)))
def clerestorykeep2_moved.cuts (k : Nat) : Cuts T (List S50) := fun n => bif n.beq 7 then some (entK (cfg (tab25 k)) 0 [0, 1, 5, 6] [.own 5 50] io36.pat (clerestorykeep2_moved.L7 k k)) else none
def clerestorykeep2_moved.body : Code := bodyOf Try.f19
def clerestorykeep2_moved.b7 : Code := findD 7 clerestorykeep2_moved.body
theorem clerestorykeep2_moved.s7 (k : Nat) : ∀ n v K, clerestorykeep2_moved.L7 k (n + 1) v K = runK (cfg (tab25 k)) Try.f19.ntmps (clerestorykeep2_moved.kr k) (annot (clerestorykeep2_moved.cuts k) clerestorykeep2_moved.b7) (mkSt [0, 1, 5, 6] (io36.enc v)) (loopK (cfg (tab25 k)) 0 clerestorykeep2_moved.x7 (entK (cfg (tab25 k)) 0 [0, 1, 5, 6] [.own 5 50] io36.pat (clerestorykeep2_moved.L7 k n)) K) := by
  intro n v K; kernel_rfl
theorem clerestorykeep2_moved.e (k : Nat) : ∀ v, (fun v => clerestorykeep2_moved k v.1 v.2) v = runK (cfg (tab25 k)) Try.f19.ntmps (clerestorykeep2_moved.kr k) (annot (clerestorykeep2_moved.cuts k) clerestorykeep2_moved.body) (entry (io24.enc v).1 (io24.enc v).2) (endK (clerestorykeep2_moved.kr k)) := by
  intro v; kernel_rfl
theorem clerestorykeep2_moved.hb : Try.f19.body = some clerestorykeep2_moved.body := by kernel_rfl
def tab26 (k : Nat) : Tab T := addTab 19 (line io24 io35 [] (fun v => clerestorykeep2_moved k v.1 v.2)) (tab25 k)
def clerestorykeep2_AnimMoved (k : Nat) (a1 : List S50) (a2 : Int) (a3 : Int) (a4 : Int) (a5 : Int) : Option (Bool) :=
(clerestorykeep2_stepped k).bind fun r6 =>
cond ((100000 : Int) != 0) (
let v7 : Int := (Int.tmod (IntKind.wrap .u64 a5) (100000 : Int))
(anim_At k a1 a2 a3 a4).bind fun r8 =>
cond (r8.2.2 != (0 : Int)) (
let v9 : Bool := ((r8.1 == (0 : Int)) && ((r8.2.1 == (0 : Int)) && true))
some (cond r6 v9 false)) (
(clerestorykeep2_moved k a1 (IntKind.wrap .i64 v7)).bind fun r10 =>
let v11 : Int := (IntKind.wrap .i64 (a4 + (IntKind.wrap .i64 v7)))
(anim_At k r10 a2 a3 v11).bind fun r12 =>
let v13 : Bool := ((r8.1 == r12.1) && ((r8.2.1 == r12.2.1) && true))
let v14 : Bool := (cond (r12.2.2 != (0 : Int)) true v13)
some (cond r6 v14 false))) none
def clerestorykeep2_AnimMoved.kr (k : Nat) : St T → Option (Bool) := (retK (cfg (tab26 k)) Try.f8.results.toList 0 [] io2.pat)
def clerestorykeep2_AnimMoved.cuts (k : Nat) : Cuts T (Bool) := fun n => none
def clerestorykeep2_AnimMoved.body : Code := bodyOf Try.f8
theorem clerestorykeep2_AnimMoved.e (k : Nat) : ∀ v, (fun v => clerestorykeep2_AnimMoved k v.1 v.2.1 v.2.2.1 v.2.2.2.1 v.2.2.2.2) v = runK (cfg (tab26 k)) Try.f8.ntmps (clerestorykeep2_AnimMoved.kr k) (annot (clerestorykeep2_AnimMoved.cuts k) clerestorykeep2_AnimMoved.body) (entry (io37.enc v).1 (io37.enc v).2) (endK (clerestorykeep2_AnimMoved.kr k)) := by
  intro v; kernel_rfl
theorem clerestorykeep2_AnimMoved.hb : Try.f8.body = some clerestorykeep2_AnimMoved.body := by kernel_rfl
def tab27 (k : Nat) : Tab T := addTab 8 (line io37 io2 false (fun v => clerestorykeep2_AnimMoved k v.1 v.2.1 v.2.2.1 v.2.2.2.1 v.2.2.2.2)) (tab26 k)
def clerestorykeep2_AnimFrames (k : Nat) (a1 : Int) (a2 : Int) (a3 : Int) (a4 : Bool) (a5 : Bool) (a6 : Int) (a7 : Int) (a8 : Int) (a9 : Int) (a10 : Int) (a11 : Int) (a12 : List S53) (a13 : Int) (a14 : Int) : Option (Bool) :=
(clerestorykeep2_stepped k).bind fun r15 =>
cond ((1000 : Int) != 0) (
let v16 : Int := (Int.tmod (IntKind.wrap .u64 a13) (1000 : Int))
let v17 : Int := (IntKind.wrap .i64 ((1 : Int) + (IntKind.wrap .i64 v16)))
let v18 : Int := (IntKind.wrap .i64 ((1000 : Int) * v17))
(anim_Check k a1 v18 a3 a4 a5 a6 a7 a8 a9 a10 a11 a12).bind fun r19 =>
let v20 : Bool := ((a12.length : Int) == (0 : Int))
let v21 : Bool := (cond (r19 != (0 : Int)) true v20)
cond v21 (
some r15) (
let v22 : Int := (IntKind.wrap .u64 (a12.length : Int))
cond (v22 != 0) (
let v23 : Int := (Int.tmod (IntKind.wrap .u64 a14) v22)
cond (decide (0 ≤ (IntKind.wrap .i64 v23) ∧ (IntKind.wrap .i64 v23) < (a12.length : Int))) (
let v24 : Int := (a12.getD ((IntKind.wrap .i64 v23).toNat) S53.d).At
let v25 : Int := (a12.getD ((IntKind.wrap .i64 v23).toNat) S53.d).Val_Kind
let v26 : Int := (a12.getD ((IntKind.wrap .i64 v23).toNat) S53.d).Val_N
let v27 : Bool := (cond (decide (v25 ≥ (2 : Int))) (decide (v25 ≤ (4 : Int))) false)
let v28 : Bool := (decide (v26 > (16777216 : Int)))
let v29 : Bool := (decide (v26 < (-16777216 : Int)))
let v30 : Bool := (cond v27 (cond v28 true v29) false)
let v31 : Bool := (decide (v26 > (4294967295 : Int)))
let v32 : Bool := (cond (decide (v26 < (0 : Int))) true v31)
let v33 : Bool := (cond (v25 == (5 : Int)) v32 false)
cond (cond v30 true v33) (
some r15) (
let v34 : Int := (IntKind.wrap .i64 ((a12.length : Int) - (1 : Int)))
let v35 : Bool := ((IntKind.wrap .i64 v23) == v34)
let v36 : Int := (IntKind.wrap .i64 (v24 * v18))
cond (((1000 : Int) != 0) || !v35) (
let v37 : Int := (IntKind.wrap .i64 (Int.tdiv v36 (1000 : Int)))
let v38 : Bool := (decide ((IntKind.wrap .i64 (a3 * v18)) > v37))
let v39 : Bool := (cond (cond v35 v38 false) (!a4) false)
cond v39 (
some r15) (
let v40 : List S50 := [(⟨a1, v18, a3, a4, a5, a6, a7, a8, a9, a10, a11, a12⟩ : S50)]
let v41 : Int := (IntKind.wrap .i64 (v24 * v18))
cond ((1000 : Int) != 0) (
let v42 : Int := (IntKind.wrap .i64 (Int.tdiv v41 (1000 : Int)))
(anim_At k v40 (0 : Int) (0 : Int) (IntKind.wrap .i64 (a1 + v42))).bind fun r43 =>
let v44 : Int := (IntKind.wrap .i64 ((a12.length : Int) - (1 : Int)))
let v45 : Bool := ((IntKind.wrap .i64 v23) == v44)
let v46 : Bool := (cond v45 (a3 == (1 : Int)) false)
cond (cond v46 (!a5) false) (
let v47 : Bool := (cond r15 (r43.2.2 == (0 : Int)) false)
let v48 : Bool := ((r43.1 == (0 : Int)) && ((r43.2.1 == (0 : Int)) && true))
some (cond v47 v48 false)) (
let v49 : Bool := (cond r15 (r43.2.2 == (0 : Int)) false)
let v50 : Bool := ((r43.1 == v25) && ((r43.2.1 == v26) && true))
some (cond v49 v50 false))) none)) none)) none) none)) none
def clerestorykeep2_AnimFrames.kr (k : Nat) : St T → Option (Bool) := (retK (cfg (tab27 k)) Try.f9.results.toList 0 [] io2.pat)
def clerestorykeep2_AnimFrames.cuts (k : Nat) : Cuts T (Bool) := fun n => none
def clerestorykeep2_AnimFrames.body : Code := bodyOf Try.f9
theorem clerestorykeep2_AnimFrames.e (k : Nat) : ∀ v, (fun v => clerestorykeep2_AnimFrames k v.1 v.2.1 v.2.2.1 v.2.2.2.1 v.2.2.2.2.1 v.2.2.2.2.2.1 v.2.2.2.2.2.2.1 v.2.2.2.2.2.2.2.1 v.2.2.2.2.2.2.2.2.1 v.2.2.2.2.2.2.2.2.2.1 v.2.2.2.2.2.2.2.2.2.2.1 v.2.2.2.2.2.2.2.2.2.2.2.1 v.2.2.2.2.2.2.2.2.2.2.2.2.1 v.2.2.2.2.2.2.2.2.2.2.2.2.2) v = runK (cfg (tab27 k)) Try.f9.ntmps (clerestorykeep2_AnimFrames.kr k) (annot (clerestorykeep2_AnimFrames.cuts k) clerestorykeep2_AnimFrames.body) (entry (io38.enc v).1 (io38.enc v).2) (endK (clerestorykeep2_AnimFrames.kr k)) := by
  intro v; kernel_rfl
theorem clerestorykeep2_AnimFrames.hb : Try.f9.body = some clerestorykeep2_AnimFrames.body := by kernel_rfl
def tab28 (k : Nat) : Tab T := addTab 9 (line io38 io2 false (fun v => clerestorykeep2_AnimFrames k v.1 v.2.1 v.2.2.1 v.2.2.2.1 v.2.2.2.2.1 v.2.2.2.2.2.1 v.2.2.2.2.2.2.1 v.2.2.2.2.2.2.2.1 v.2.2.2.2.2.2.2.2.1 v.2.2.2.2.2.2.2.2.2.1 v.2.2.2.2.2.2.2.2.2.2.1 v.2.2.2.2.2.2.2.2.2.2.2.1 v.2.2.2.2.2.2.2.2.2.2.2.2.1 v.2.2.2.2.2.2.2.2.2.2.2.2.2)) (tab27 k)
def clerestorykeep2_AnimTurned (k : Nat) (a1 : Int) (a2 : Int) (a3 : Int) (a4 : Bool) (a5 : Bool) (a6 : Int) (a7 : Int) (a8 : Int) (a9 : Int) (a10 : Int) (a11 : Int) (a12 : List S53) (a13 : Int) (a14 : Int) : Option (Bool) :=
(clerestorykeep2_stepped k).bind fun r15 =>
cond ((1000 : Int) != 0) (
let v16 : Int := (Int.tmod (IntKind.wrap .u64 a13) (1000 : Int))
let v17 : Int := (IntKind.wrap .i64 ((1 : Int) + (IntKind.wrap .i64 v16)))
let v18 : Int := (IntKind.wrap .i64 ((1000 : Int) * v17))
cond ((999 : Int) != 0) (
let v19 : Int := (Int.tmod (IntKind.wrap .u64 a14) (999 : Int))
let v20 : Int := (IntKind.wrap .i64 ((1 : Int) + (IntKind.wrap .i64 v19)))
let v21 : Int := (IntKind.wrap .i64 (v17 * v20))
let v22 : List S50 := [(⟨a1, v18, (2 : Int), true, a5, a6, a7, a8, a9, a10, a11, a12⟩ : S50)]
(anim_At k v22 (0 : Int) (0 : Int) (IntKind.wrap .i64 (a1 + v21))).bind fun r23 =>
let v24 : List S50 := [(⟨a1, v18, (2 : Int), true, a5, a6, a7, a8, a9, a10, a11, a12⟩ : S50)]
let v25 : Int := (IntKind.wrap .i64 ((2 : Int) * v18))
let v26 : Int := (IntKind.wrap .i64 ((IntKind.wrap .i64 (a1 + v25)) - v21))
(anim_At k v24 (0 : Int) (0 : Int) v26).bind fun r27 =>
let v28 : Bool := (cond (r23.2.2 != (0 : Int)) true (r27.2.2 != (0 : Int)))
cond v28 (
let v29 : Bool := (cond r15 (r23.2.2 == r27.2.2) false)
some v29) (
let v30 : Bool := ((r23.1 == r27.1) && ((r23.2.1 == r27.2.1) && true))
some (cond r15 v30 false))) none) none
def clerestorykeep2_AnimTurned.kr (k : Nat) : St T → Option (Bool) := (retK (cfg (tab28 k)) Try.f10.results.toList 0 [] io2.pat)
def clerestorykeep2_AnimTurned.cuts (k : Nat) : Cuts T (Bool) := fun n => none
def clerestorykeep2_AnimTurned.body : Code := bodyOf Try.f10
theorem clerestorykeep2_AnimTurned.e (k : Nat) : ∀ v, (fun v => clerestorykeep2_AnimTurned k v.1 v.2.1 v.2.2.1 v.2.2.2.1 v.2.2.2.2.1 v.2.2.2.2.2.1 v.2.2.2.2.2.2.1 v.2.2.2.2.2.2.2.1 v.2.2.2.2.2.2.2.2.1 v.2.2.2.2.2.2.2.2.2.1 v.2.2.2.2.2.2.2.2.2.2.1 v.2.2.2.2.2.2.2.2.2.2.2.1 v.2.2.2.2.2.2.2.2.2.2.2.2.1 v.2.2.2.2.2.2.2.2.2.2.2.2.2) v = runK (cfg (tab28 k)) Try.f10.ntmps (clerestorykeep2_AnimTurned.kr k) (annot (clerestorykeep2_AnimTurned.cuts k) clerestorykeep2_AnimTurned.body) (entry (io38.enc v).1 (io38.enc v).2) (endK (clerestorykeep2_AnimTurned.kr k)) := by
  intro v; kernel_rfl
theorem clerestorykeep2_AnimTurned.hb : Try.f10.body = some clerestorykeep2_AnimTurned.body := by kernel_rfl
def tab29 (k : Nat) : Tab T := addTab 10 (line io38 io2 false (fun v => clerestorykeep2_AnimTurned k v.1 v.2.1 v.2.2.1 v.2.2.2.1 v.2.2.2.2.1 v.2.2.2.2.2.1 v.2.2.2.2.2.2.1 v.2.2.2.2.2.2.2.1 v.2.2.2.2.2.2.2.2.1 v.2.2.2.2.2.2.2.2.2.1 v.2.2.2.2.2.2.2.2.2.2.1 v.2.2.2.2.2.2.2.2.2.2.2.1 v.2.2.2.2.2.2.2.2.2.2.2.2.1 v.2.2.2.2.2.2.2.2.2.2.2.2.2)) (tab28 k)
def anim_Wake.c19 (k : Nat) : Nat → Int → Int → Bool → (List S50) → Int → Int → Int → Int → Int → Int → Int → Int → Int → Bool → Bool → Int → Int → Int → Int → Int → Int → (List S53) → (Int → Int → Bool → (List S50) → Int → Int → Option (Int × Bool × Int)) → Option (Int × Bool × Int)
  | 0, _, _, _, _, _, _, _, _, _, _, _, _, _, _, _, _, _, _, _, _, _, _, _ => none
  | n + 1, x20, x21, x22, x23, x24, x25, x26, x27, x28, x29, x30, x31, x32, x33, x34, x35, x36, x37, x38, x39, x40, x41, k2 =>
    cond (decide (x29 < (3 : Int))) (
    cond (decide (0 ≤ x29 ∧ x29 < ((3 : Nat) : Int))) (
    let v42 : Int := (([x26, x27, x28]).getD x29.toNat (0 : Int))
    let v43 : Bool := (cond (!x22) true (decide (v42 < x21)))
    let v44 : Bool := (cond (decide (v42 > x20)) v43 false)
    let v45 : Int := (IntKind.wrap .i64 (x20 + (1 : Int)))
    let v46 : Int := (IntKind.wrap .i64 (x30 - (1 : Int)))
    (cond ((v44 && (!(v42 != v45))) && (decide (x20 ≥ v46))) (anim_end k x30 x31 x32 x33 x34 x35 x36 x37 x38 x39 x40 x41) (some (0 : Int))).bind fun r47 =>
    let v48 : Bool := (cond (decide (x20 ≥ v46)) (decide (x20 < r47)) false)
    let v49 : Bool := (cond v44 (cond (v42 != v45) true v48) false)
    cond v49 (
    let v50 : Int := (IntKind.wrap .i64 (x29 + (1 : Int)))
    anim_Wake.c19 k n x20 v42 true x23 x24 x25 x26 x27 x28 v50 x30 x31 x32 x33 x34 x35 x36 x37 x38 x39 x40 x41 k2) (
    let v51 : Int := (IntKind.wrap .i64 (x29 + (1 : Int)))
    anim_Wake.c19 k n x20 x21 x22 x23 x24 x25 x26 x27 x28 v51 x30 x31 x32 x33 x34 x35 x36 x37 x38 x39 x40 x41 k2)) none) (
    k2 x20 x21 x22 x23 x24 x25)
def anim_Wake.c13 (k : Nat) : Nat → Int → Int → Bool → (List S50) → Int → Int → (Int → Bool → Option (Int × Bool × Int)) → Option (Int × Bool × Int)
  | 0, _, _, _, _, _, _, _ => none
  | n + 1, x4, x5, x6, x7, x8, x9, k0 =>
    cond (decide (x9 < x8)) (
    cond (decide (0 ≤ x9 ∧ x9 < (x7.length : Int))) (
    let v10 : Int := (x7.getD x9.toNat S50.d).Length
    let v11 : Int := (x7.getD x9.toNat S50.d).Ease_Kind
    let v12 : Int := (x7.getD x9.toNat S50.d).Ease_Curve_0
    let v13 : Int := (x7.getD x9.toNat S50.d).Ease_Curve_1
    let v14 : Int := (x7.getD x9.toNat S50.d).Ease_Curve_2
    let v15 : Int := (x7.getD x9.toNat S50.d).Ease_Curve_3
    let v16 : Int := (x7.getD x9.toNat S50.d).Ease_N
    let v17 : List S53 := (x7.getD x9.toNat S50.d).Frames
    (anim_end k ((x7.getD x9.toNat S50.d).From) v10 ((x7.getD x9.toNat S50.d).Times) ((x7.getD x9.toNat S50.d).Turn) ((x7.getD x9.toNat S50.d).Stays) v11 v12 v13 v14 v15 v16 v17).bind fun r18 =>
    let v19 : Int := (IntKind.wrap .i64 (x4 + (1 : Int)))
    anim_Wake.c19 k k x4 x5 x6 x7 x8 x9 ((x7.getD x9.toNat S50.d).From) r18 v19 (0 : Int) ((x7.getD x9.toNat S50.d).From) v10 ((x7.getD x9.toNat S50.d).Times) ((x7.getD x9.toNat S50.d).Turn) ((x7.getD x9.toNat S50.d).Stays) v11 v12 v13 v14 v15 v16 v17 (fun (y52 : Int) (y53 : Int) (y54 : Bool) (y55 : List S50) (y56 : Int) (y57 : Int) =>
    let v58 : Int := (IntKind.wrap .i64 (y57 + (1 : Int)))
    anim_Wake.c13 k n y52 y53 y54 y55 y56 v58 k0)) none) (
    k0 x5 x6)
def anim_Wake (k : Nat) (a1 : List S50) (a2 : Int) : Option (Int × Bool × Int) :=
(anim_right k a1 a2).bind fun r3 =>
cond (r3 != (0 : Int)) (
some ((0 : Int), false, r3)) (
anim_Wake.c13 k k a2 (0 : Int) false a1 (a1.length : Int) (0 : Int) (fun (y59 : Int) (y60 : Bool) =>
some (y59, y60, (0 : Int))))
def anim_Wake.kr (k : Nat) : St T → Option (Int × Bool × Int) := (retK (cfg (tab29 k)) Try.f21.results.toList 0 [] io39.pat)
def anim_Wake.x19 : Ex → Option (List Nat × List Sp)
  | .exit 2 => some ([1, 8, 9, 20, 21, 22], [])
  | _ => none
def anim_Wake.L19 (k : Nat) (n : Nat) (v : Int × Int × Bool × (List S50) × Int × Int × Int × Int × Int × Int × Int × Int × Int × Bool × Bool × Int × Int × Int × Int × Int × Int × (List S53)) (K : Ex → St T → Option (Int × Bool × Int)) : Option (Int × Bool × Int) := anim_Wake.c19 k n v.1 v.2.1 v.2.2.1 v.2.2.2.1 v.2.2.2.2.1 v.2.2.2.2.2.1 v.2.2.2.2.2.2.1 v.2.2.2.2.2.2.2.1 v.2.2.2.2.2.2.2.2.1 v.2.2.2.2.2.2.2.2.2.1 v.2.2.2.2.2.2.2.2.2.2.1 v.2.2.2.2.2.2.2.2.2.2.2.1 v.2.2.2.2.2.2.2.2.2.2.2.2.1 v.2.2.2.2.2.2.2.2.2.2.2.2.2.1 v.2.2.2.2.2.2.2.2.2.2.2.2.2.2.1 v.2.2.2.2.2.2.2.2.2.2.2.2.2.2.2.1 v.2.2.2.2.2.2.2.2.2.2.2.2.2.2.2.2.1 v.2.2.2.2.2.2.2.2.2.2.2.2.2.2.2.2.2.1 v.2.2.2.2.2.2.2.2.2.2.2.2.2.2.2.2.2.2.1 v.2.2.2.2.2.2.2.2.2.2.2.2.2.2.2.2.2.2.2.1 v.2.2.2.2.2.2.2.2.2.2.2.2.2.2.2.2.2.2.2.2.1 v.2.2.2.2.2.2.2.2.2.2.2.2.2.2.2.2.2.2.2.2.2 (fun y70 y71 y72 y73 y74 y75 => K (.exit 2) (mkSt [1, 8, 9, 20, 21, 22] (io41.enc (y70, y71, y72, y73, y74, y75))))
def anim_Wake.x13 : Ex → Option (List Nat × List Sp)
  | .exit 0 => some ([8, 9], [])
  | _ => none
def anim_Wake.L13 (k : Nat) (n : Nat) (v : Int × Int × Bool × (List S50) × Int × Int) (K : Ex → St T → Option (Int × Bool × Int)) : Option (Int × Bool × Int) := anim_Wake.c13 k n v.1 v.2.1 v.2.2.1 v.2.2.2.1 v.2.2.2.2.1 v.2.2.2.2.2 (fun y76 y77 => K (.exit 0) (mkSt [8, 9] (io42.enc (y76, y77))))
def anim_Wake.cuts (k : Nat) : Cuts T (Int × Bool × Int) := fun n => bif n.beq 19 then some (entK (cfg (tab29 k)) 0 [1, 8, 9, 11, 20, 21, 22, 32, 33] [] io40.pat (anim_Wake.L19 k k)) else bif n.beq 13 then some (entK (cfg (tab29 k)) 0 [1, 8, 9, 20, 21, 22] [] io41.pat (anim_Wake.L13 k k)) else none
def anim_Wake.body : Code := bodyOf Try.f21
def anim_Wake.b19 : Code := findD 19 anim_Wake.body
theorem anim_Wake.s19 (k : Nat) : ∀ n v K, anim_Wake.L19 k (n + 1) v K = runK (cfg (tab29 k)) Try.f21.ntmps (anim_Wake.kr k) (annot (anim_Wake.cuts k) anim_Wake.b19) (mkSt [1, 8, 9, 11, 20, 21, 22, 32, 33] (io40.enc v)) (loopK (cfg (tab29 k)) 0 anim_Wake.x19 (entK (cfg (tab29 k)) 0 [1, 8, 9, 11, 20, 21, 22, 32, 33] [] io40.pat (anim_Wake.L19 k n)) K) := by
  intro n v K; kernel_rfl
def anim_Wake.b13 : Code := findD 13 anim_Wake.body
theorem anim_Wake.s13 (k : Nat) : ∀ n v K, anim_Wake.L13 k (n + 1) v K = runK (cfg (tab29 k)) Try.f21.ntmps (anim_Wake.kr k) (annot (anim_Wake.cuts k) anim_Wake.b13) (mkSt [1, 8, 9, 20, 21, 22] (io41.enc v)) (loopK (cfg (tab29 k)) 0 anim_Wake.x13 (entK (cfg (tab29 k)) 0 [1, 8, 9, 20, 21, 22] [] io41.pat (anim_Wake.L13 k n)) K) := by
  intro n v K; kernel_rfl
theorem anim_Wake.e (k : Nat) : ∀ v, (fun v => anim_Wake k v.1 v.2) v = runK (cfg (tab29 k)) Try.f21.ntmps (anim_Wake.kr k) (annot (anim_Wake.cuts k) anim_Wake.body) (entry (io24.enc v).1 (io24.enc v).2) (endK (anim_Wake.kr k)) := by
  intro v; kernel_rfl
theorem anim_Wake.hb : Try.f21.body = some anim_Wake.body := by kernel_rfl
def tab30 (k : Nat) : Tab T := addTab 21 (line io24 io39 ((0 : Int), false, (0 : Int)) (fun v => anim_Wake k v.1 v.2)) (tab29 k)
def clerestorykeep2_waking.c22 (k : Nat) (x12 : List S50) (x13 : Int) (x14 : Int) (x15 : Int) (x16 : Int) (kn : (List S50) → Int → Int → Int → Option (Int)) : Option (Int) :=
let v17 : Bool := (cond (x14 == (0 : Int)) true (decide (x16 < x14)))
let v18 : Bool := (cond (decide (x16 > (0 : Int))) v17 false)
cond v18 (
kn x12 x13 x16 x15) (
kn x12 x13 x14 x15)
def clerestorykeep2_waking.c7 (k : Nat) : Nat → (List S50) → Int → Int → Int → (Int → Option (Int)) → Option (Int)
  | 0, _, _, _, _, _ => none
  | n + 1, x3, x4, x5, x6, k0 =>
    let v7 : Bool := (decide (x6 < (x3.length : Int)))
    cond v7 (
    cond (decide (0 ≤ x6 ∧ x6 < (x3.length : Int))) (
    cond (decide (0 ≤ x6 ∧ x6 < (x3.length : Int))) (
    cond (decide (0 ≤ x6 ∧ x6 < (x3.length : Int))) (
    let v8 : Int := (x3.getD x6.toNat S50.d).Length
    let v9 : Int := (IntKind.wrap .i64 (((x3.getD x6.toNat S50.d).Times) * v8))
    let v10 : Int := (IntKind.wrap .i64 (((x3.getD x6.toNat S50.d).From) + v9))
    cond (decide (0 ≤ x6 ∧ x6 < (x3.length : Int))) (
    let v11 : Bool := (decide (x4 < ((x3.getD x6.toNat S50.d).From)))
    cond v11 (
    cond (decide (0 ≤ x6 ∧ x6 < (x3.length : Int))) (
    clerestorykeep2_waking.c22 k x3 x4 x5 x6 ((x3.getD x6.toNat S50.d).From) (fun (y19 : List S50) (y20 : Int) (y21 : Int) (y22 : Int) =>
    let v23 : Int := (IntKind.wrap .i64 (y22 + (1 : Int)))
    clerestorykeep2_waking.c7 k n y19 y20 y21 v23 k0)) none) (
    cond (decide (x4 < v10)) (
    let v24 : Int := (IntKind.wrap .i64 (x4 + (1 : Int)))
    clerestorykeep2_waking.c22 k x3 x4 x5 x6 v24 (fun (y25 : List S50) (y26 : Int) (y27 : Int) (y28 : Int) =>
    let v29 : Int := (IntKind.wrap .i64 (y28 + (1 : Int)))
    clerestorykeep2_waking.c7 k n y25 y26 y27 v29 k0)) (
    clerestorykeep2_waking.c22 k x3 x4 x5 x6 (0 : Int) (fun (y30 : List S50) (y31 : Int) (y32 : Int) (y33 : Int) =>
    let v34 : Int := (IntKind.wrap .i64 (y33 + (1 : Int)))
    clerestorykeep2_waking.c7 k n y30 y31 y32 v34 k0)))) none) none) none) none) (
    k0 x5)
def clerestorykeep2_waking (k : Nat) (a1 : List S50) (a2 : Int) : Option (Int) :=
clerestorykeep2_waking.c7 k k a1 a2 (0 : Int) (0 : Int) (fun (y35 : Int) =>
some y35)
def clerestorykeep2_waking.kr (k : Nat) : St T → Option (Int) := (retK (cfg (tab30 k)) Try.f22.results.toList 0 [] io1.pat)
def clerestorykeep2_waking.x22 : Ex → Option (List Nat × List Sp)
  | .norm => some ([0, 1, 5, 6], [])
  | _ => none
def clerestorykeep2_waking.L22 (k : Nat) (v : (List S50) × Int × Int × Int × Int) (K : Ex → St T → Option (Int)) : Option (Int) := clerestorykeep2_waking.c22 k v.1 v.2.1 v.2.2.1 v.2.2.2.1 v.2.2.2.2 (fun y78 y79 y80 y81 => K .norm (mkSt [0, 1, 5, 6] (io44.enc (y78, y79, y80, y81))))
def clerestorykeep2_waking.x7 : Ex → Option (List Nat × List Sp)
  | .exit 0 => some ([5], [])
  | _ => none
def clerestorykeep2_waking.L7 (k : Nat) (n : Nat) (v : (List S50) × Int × Int × Int) (K : Ex → St T → Option (Int)) : Option (Int) := clerestorykeep2_waking.c7 k n v.1 v.2.1 v.2.2.1 v.2.2.2 (fun y82 => K (.exit 0) (mkSt [5] (io1.enc y82)))
def clerestorykeep2_waking.cuts (k : Nat) : Cuts T (Int) := fun n => bif n.beq 22 then some (entK (cfg (tab30 k)) 0 [0, 1, 5, 6, 8] [] io43.pat (clerestorykeep2_waking.L22 k)) else bif n.beq 7 then some (entK (cfg (tab30 k)) 0 [0, 1, 5, 6] [] io44.pat (clerestorykeep2_waking.L7 k k)) else none
def clerestorykeep2_waking.body : Code := bodyOf Try.f22
def clerestorykeep2_waking.b22 : Code := findD 22 clerestorykeep2_waking.body
theorem clerestorykeep2_waking.s22 (k : Nat) : ∀ v K, clerestorykeep2_waking.L22 k v K = runK (cfg (tab30 k)) Try.f22.ntmps (clerestorykeep2_waking.kr k) (annot (clerestorykeep2_waking.cuts k) clerestorykeep2_waking.b22) (mkSt [0, 1, 5, 6, 8] (io43.enc v)) (outK (cfg (tab30 k)) 0 clerestorykeep2_waking.x22 K) := by
  intro v K; kernel_rfl
def clerestorykeep2_waking.b7 : Code := findD 7 clerestorykeep2_waking.body
theorem clerestorykeep2_waking.s7 (k : Nat) : ∀ n v K, clerestorykeep2_waking.L7 k (n + 1) v K = runK (cfg (tab30 k)) Try.f22.ntmps (clerestorykeep2_waking.kr k) (annot (clerestorykeep2_waking.cuts k) clerestorykeep2_waking.b7) (mkSt [0, 1, 5, 6] (io44.enc v)) (loopK (cfg (tab30 k)) 0 clerestorykeep2_waking.x7 (entK (cfg (tab30 k)) 0 [0, 1, 5, 6] [] io44.pat (clerestorykeep2_waking.L7 k n)) K) := by
  intro n v K; kernel_rfl
theorem clerestorykeep2_waking.e (k : Nat) : ∀ v, (fun v => clerestorykeep2_waking k v.1 v.2) v = runK (cfg (tab30 k)) Try.f22.ntmps (clerestorykeep2_waking.kr k) (annot (clerestorykeep2_waking.cuts k) clerestorykeep2_waking.body) (entry (io24.enc v).1 (io24.enc v).2) (endK (clerestorykeep2_waking.kr k)) := by
  intro v; kernel_rfl
theorem clerestorykeep2_waking.hb : Try.f22.body = some clerestorykeep2_waking.body := by kernel_rfl
def tab31 (k : Nat) : Tab T := addTab 22 (line io24 io1 (0 : Int) (fun v => clerestorykeep2_waking k v.1 v.2)) (tab30 k)
def clerestorykeep2_AnimWakes.c22 (k : Nat) (x17 : List S50) (x18 : Int) (x19 : Int) (x20 : Bool) (x21 : Int) (x22 : Int) (x23 : Int) (x24 : Int) (x25 : Int)  : Option (Bool) :=
cond ((IntKind.wrap .u64 x21) != 0) (
let v26 : Int := (Int.tmod (IntKind.wrap .u64 x19) (IntKind.wrap .u64 x21))
let v27 : Int := (IntKind.wrap .i64 (x18 + (IntKind.wrap .i64 v26)))
(anim_At k x17 x22 x23 v27).bind fun r28 =>
let v29 : Bool := ((x24 == r28.1) && ((x25 == r28.2.1) && true))
let v30 : Bool := (cond (r28.2.2 != (0 : Int)) true v29)
some (cond x20 v30 false)) none
def clerestorykeep2_AnimWakes (k : Nat) (a1 : List S50) (a2 : Int) (a3 : Int) (a4 : Int) (a5 : Int) : Option (Bool) :=
(clerestorykeep2_stepped k).bind fun r6 =>
(anim_At k a1 a2 a3 a4).bind fun r7 =>
(anim_Wake k a1 a4).bind fun r8 =>
let v9 : Bool := (cond (r7.2.2 != (0 : Int)) true (r8.2.2 != (0 : Int)))
cond v9 (
let v10 : Bool := (cond r6 (r7.2.2 == r8.2.2) false)
let v11 : Bool := (cond (cond v10 (!r8.2.1) false) (r8.1 == (0 : Int)) false)
some v11) (
let v12 : Bool := (!(r8.2.1 == (decide (r8.1 > (0 : Int)))))
let v13 : Bool := (cond r8.2.1 (decide (r8.1 ≤ a4)) false)
(cond (!(cond v12 true v13)) (clerestorykeep2_waking k a1 a4) (some (0 : Int))).bind fun r14 =>
let v15 : Bool := (cond (cond v12 true v13) true (r8.1 != r14))
cond v15 (
some false) (
cond r8.2.1 (
let v16 : Int := (IntKind.wrap .i64 (r8.1 - a4))
clerestorykeep2_AnimWakes.c22 k a1 a4 a5 r6 v16 a2 a3 r7.1 r7.2.1) (
clerestorykeep2_AnimWakes.c22 k a1 a4 a5 r6 (1000000 : Int) a2 a3 r7.1 r7.2.1)))
def clerestorykeep2_AnimWakes.kr (k : Nat) : St T → Option (Bool) := (retK (cfg (tab31 k)) Try.f11.results.toList 0 [] io2.pat)
def clerestorykeep2_AnimWakes.x22 : Ex → Option (List Nat × List Sp)
  | _ => none
def clerestorykeep2_AnimWakes.L22 (k : Nat) (v : (List S50) × Int × Int × Bool × Int × Int × Int × Int × Int) (K : Ex → St T → Option (Bool)) : Option (Bool) := clerestorykeep2_AnimWakes.c22 k v.1 v.2.1 v.2.2.1 v.2.2.2.1 v.2.2.2.2.1 v.2.2.2.2.2.1 v.2.2.2.2.2.2.1 v.2.2.2.2.2.2.2.1 v.2.2.2.2.2.2.2.2
def clerestorykeep2_AnimWakes.cuts (k : Nat) : Cuts T (Bool) := fun n => bif n.beq 22 then some (entK (cfg (tab31 k)) 0 [0, 2, 3, 5, 9, 10, 15] [] io45.pat (clerestorykeep2_AnimWakes.L22 k)) else none
def clerestorykeep2_AnimWakes.body : Code := bodyOf Try.f11
def clerestorykeep2_AnimWakes.b22 : Code := findD 22 clerestorykeep2_AnimWakes.body
theorem clerestorykeep2_AnimWakes.s22 (k : Nat) : ∀ v K, clerestorykeep2_AnimWakes.L22 k v K = runK (cfg (tab31 k)) Try.f11.ntmps (clerestorykeep2_AnimWakes.kr k) (annot (clerestorykeep2_AnimWakes.cuts k) clerestorykeep2_AnimWakes.b22) (mkSt [0, 2, 3, 5, 9, 10, 15] (io45.enc v)) (outK (cfg (tab31 k)) 0 clerestorykeep2_AnimWakes.x22 K) := by
  intro v K; kernel_rfl
theorem clerestorykeep2_AnimWakes.e (k : Nat) : ∀ v, (fun v => clerestorykeep2_AnimWakes k v.1 v.2.1 v.2.2.1 v.2.2.2.1 v.2.2.2.2) v = runK (cfg (tab31 k)) Try.f11.ntmps (clerestorykeep2_AnimWakes.kr k) (annot (clerestorykeep2_AnimWakes.cuts k) clerestorykeep2_AnimWakes.body) (entry (io37.enc v).1 (io37.enc v).2) (endK (clerestorykeep2_AnimWakes.kr k)) := by
  intro v; kernel_rfl
theorem clerestorykeep2_AnimWakes.hb : Try.f11.body = some clerestorykeep2_AnimWakes.body := by kernel_rfl
def tab32 (k : Nat) : Tab T := addTab 11 (line io37 io2 false (fun v => clerestorykeep2_AnimWakes k v.1 v.2.1 v.2.2.1 v.2.2.2.1 v.2.2.2.2)) (tab31 k)
attribute [local irreducible] runK retK annot entry
theorem ok0 (k : Nat) : CfOk (cfg (tab0 k)) := noTab_ok fun _ _ _ => rfl
theorem cascade_rank.a (k : Nat) : cutsAt (fun n => (cascade_rank.cuts k n).isSome) cascade_rank.body = [] := by kernel_rfl
theorem cascade_rank.sim (k : Nat) : ∀ v x, (fun v => cascade_rank k v.1 v.2.1 v.2.2.1 v.2.2.2.1 v.2.2.2.2.1 v.2.2.2.2.2) v = some x → Sim (cfg (tab0 k)) 34 (io0.enc v).1 (io0.enc v).2 (io1.enc x).1 (io1.enc x).2 :=
  sim_of (c := (cfg (tab0 k))) (fine _ (ok0 k)) (dr _ (ok0 k)) (i := io0) (o := io1) (ps := []) (cuts := fun _ => cascade_rank.cuts k) (m := 0) (g := fun v => cascade_rank k v.1 v.2.1 v.2.2.1 v.2.2.2.1 v.2.2.2.2.1 v.2.2.2.2.2) Try.func34 (by kernel_rfl) cascade_rank.hb (fun _ => rfl) (fun _ => Nat.le_of_ble_eq_true rfl) (good_cuts (cascade_rank.a k) trivial) (cascade_rank.e k)
theorem ok1 (k : Nat) : CfOk (cfg (tab1 k)) := addTab_ok (ok0 k) (cascade_rank.sim k)
theorem cmp_isNaN_int_.a (k : Nat) : cutsAt (fun n => (cmp_isNaN_int_.cuts k n).isSome) cmp_isNaN_int_.body = [] := by kernel_rfl
theorem cmp_isNaN_int_.sim (k : Nat) : ∀ v x, (fun v => cmp_isNaN_int_ k v) v = some x → Sim (cfg (tab1 k)) 37 (io1.enc v).1 (io1.enc v).2 (io2.enc x).1 (io2.enc x).2 :=
  sim_of (c := (cfg (tab1 k))) (fine _ (ok1 k)) (dr _ (ok1 k)) (i := io1) (o := io2) (ps := []) (cuts := fun _ => cmp_isNaN_int_.cuts k) (m := 0) (g := fun v => cmp_isNaN_int_ k v) Try.func37 (by kernel_rfl) cmp_isNaN_int_.hb (fun _ => rfl) (fun _ => Nat.le_of_ble_eq_true rfl) (good_cuts (cmp_isNaN_int_.a k) trivial) (cmp_isNaN_int_.e k)
theorem ok2 (k : Nat) : CfOk (cfg (tab2 k)) := addTab_ok (ok1 k) (cmp_isNaN_int_.sim k)
theorem cmp_Compare_int_.a (k : Nat) : cutsAt (fun n => (cmp_Compare_int_.cuts k n).isSome) cmp_Compare_int_.body = [] := by kernel_rfl
theorem cmp_Compare_int_.sim (k : Nat) : ∀ v x, (fun v => cmp_Compare_int_ k v.1 v.2) v = some x → Sim (cfg (tab2 k)) 33 (io3.enc v).1 (io3.enc v).2 (io1.enc x).1 (io1.enc x).2 :=
  sim_of (c := (cfg (tab2 k))) (fine _ (ok2 k)) (dr _ (ok2 k)) (i := io3) (o := io1) (ps := []) (cuts := fun _ => cmp_Compare_int_.cuts k) (m := 0) (g := fun v => cmp_Compare_int_ k v.1 v.2) Try.func33 (by kernel_rfl) cmp_Compare_int_.hb (fun _ => rfl) (fun _ => Nat.le_of_ble_eq_true rfl) (good_cuts (cmp_Compare_int_.a k) trivial) (cmp_Compare_int_.e k)
theorem ok3 (k : Nat) : CfOk (cfg (tab3 k)) := addTab_ok (ok2 k) (cmp_Compare_int_.sim k)
theorem cmp_Or_int_.a7 (k : Nat) : cutsAt (fun n => (cmp_Or_int_.cuts k n).isSome) cmp_Or_int_.b7 = [] := by kernel_rfl
theorem cmp_Or_int_.a (k : Nat) : cutsAt (fun n => (cmp_Or_int_.cuts k n).isSome) cmp_Or_int_.body = [(7, Code.loop cmp_Or_int_.b7)] := by kernel_rfl
theorem cmp_Or_int_.so7 (k : Nat) : Sound (cfg (tab3 k)) Try.f32.ntmps 0 (cmp_Or_int_.kr k) (.loop cmp_Or_int_.b7) (entK (cfg (tab3 k)) 0 [3, 6, 7, 8] [] io5.pat (cmp_Or_int_.L7 k k)) :=
  loop_ok (fine _ (ok3 k)) (dr _ (ok3 k)) (good_cuts (cmp_Or_int_.a7 k) trivial) io5.ok (xn := cmp_Or_int_.x7) (L := cmp_Or_int_.L7 k) (fun v K => rfl) (cmp_Or_int_.s7 k) k
theorem cmp_Or_int_.sim (k : Nat) : ∀ v x, (fun v => cmp_Or_int_ k v) v = some x → Sim (cfg (tab3 k)) 32 (io4.enc v).1 (io4.enc v).2 (io1.enc x).1 (io1.enc x).2 :=
  sim_of (c := (cfg (tab3 k))) (fine _ (ok3 k)) (dr _ (ok3 k)) (i := io4) (o := io1) (ps := []) (cuts := fun _ => cmp_Or_int_.cuts k) (m := 0) (g := fun v => cmp_Or_int_ k v) Try.func32 (by kernel_rfl) cmp_Or_int_.hb (fun _ => rfl) (fun _ => Nat.le_of_ble_eq_true rfl) (good_cuts (cmp_Or_int_.a k) ⟨fun f hf => by cases hf; exact cmp_Or_int_.so7 k, trivial⟩) (cmp_Or_int_.e k)
theorem ok4 (k : Nat) : CfOk (cfg (tab4 k)) := addTab_ok (ok3 k) (cmp_Or_int_.sim k)
theorem cascade_compare.a (k : Nat) : cutsAt (fun n => (cascade_compare.cuts k n).isSome) cascade_compare.body = [] := by kernel_rfl
theorem cascade_compare.sim (k : Nat) : ∀ v x, (fun v => cascade_compare k v.1 v.2.1 v.2.2.1 v.2.2.2.1 v.2.2.2.2.1 v.2.2.2.2.2.1 v.2.2.2.2.2.2.1 v.2.2.2.2.2.2.2.1 v.2.2.2.2.2.2.2.2.1 v.2.2.2.2.2.2.2.2.2.1 v.2.2.2.2.2.2.2.2.2.2.1 v.2.2.2.2.2.2.2.2.2.2.2) v = some x → Sim (cfg (tab4 k)) 23 (io6.enc v).1 (io6.enc v).2 (io1.enc x).1 (io1.enc x).2 :=
  sim_of (c := (cfg (tab4 k))) (fine _ (ok4 k)) (dr _ (ok4 k)) (i := io6) (o := io1) (ps := []) (cuts := fun _ => cascade_compare.cuts k) (m := 0) (g := fun v => cascade_compare k v.1 v.2.1 v.2.2.1 v.2.2.2.1 v.2.2.2.2.1 v.2.2.2.2.2.1 v.2.2.2.2.2.2.1 v.2.2.2.2.2.2.2.1 v.2.2.2.2.2.2.2.2.1 v.2.2.2.2.2.2.2.2.2.1 v.2.2.2.2.2.2.2.2.2.2.1 v.2.2.2.2.2.2.2.2.2.2.2) Try.func23 (by kernel_rfl) cascade_compare.hb (fun _ => rfl) (fun _ => Nat.le_of_ble_eq_true rfl) (good_cuts (cascade_compare.a k) trivial) (cascade_compare.e k)
theorem ok5 (k : Nat) : CfOk (cfg (tab5 k)) := addTab_ok (ok4 k) (cascade_compare.sim k)
theorem cascade_Less.a (k : Nat) : cutsAt (fun n => (cascade_Less.cuts k n).isSome) cascade_Less.body = [] := by kernel_rfl
theorem cascade_Less.sim (k : Nat) : ∀ v x, (fun v => cascade_Less k v.1 v.2.1 v.2.2.1 v.2.2.2.1 v.2.2.2.2.1 v.2.2.2.2.2.1 v.2.2.2.2.2.2.1 v.2.2.2.2.2.2.2.1 v.2.2.2.2.2.2.2.2.1 v.2.2.2.2.2.2.2.2.2.1 v.2.2.2.2.2.2.2.2.2.2.1 v.2.2.2.2.2.2.2.2.2.2.2) v = some x → Sim (cfg (tab5 k)) 13 (io6.enc v).1 (io6.enc v).2 (io2.enc x).1 (io2.enc x).2 :=
  sim_of (c := (cfg (tab5 k))) (fine _ (ok5 k)) (dr _ (ok5 k)) (i := io6) (o := io2) (ps := []) (cuts := fun _ => cascade_Less.cuts k) (m := 0) (g := fun v => cascade_Less k v.1 v.2.1 v.2.2.1 v.2.2.2.1 v.2.2.2.2.1 v.2.2.2.2.2.1 v.2.2.2.2.2.2.1 v.2.2.2.2.2.2.2.1 v.2.2.2.2.2.2.2.2.1 v.2.2.2.2.2.2.2.2.2.1 v.2.2.2.2.2.2.2.2.2.2.1 v.2.2.2.2.2.2.2.2.2.2.2) Try.func13 (by kernel_rfl) cascade_Less.hb (fun _ => rfl) (fun _ => Nat.le_of_ble_eq_true rfl) (good_cuts (cascade_Less.a k) trivial) (cascade_Less.e k)
theorem ok6 (k : Nat) : CfOk (cfg (tab6 k)) := addTab_ok (ok5 k) (cascade_Less.sim k)
theorem clerestorykeep2_own.a (k : Nat) : cutsAt (fun n => (clerestorykeep2_own.cuts k n).isSome) clerestorykeep2_own.body = [] := by kernel_rfl
theorem clerestorykeep2_own.sim (k : Nat) : ∀ v x, (fun v => clerestorykeep2_own k ) v = some x → Sim (cfg (tab6 k)) 12 (io7.enc v).1 (io7.enc v).2 (io2.enc x).1 (io2.enc x).2 :=
  sim_of (c := (cfg (tab6 k))) (fine _ (ok6 k)) (dr _ (ok6 k)) (i := io7) (o := io2) (ps := []) (cuts := fun _ => clerestorykeep2_own.cuts k) (m := 0) (g := fun v => clerestorykeep2_own k ) Try.func12 (by kernel_rfl) clerestorykeep2_own.hb (fun _ => rfl) (fun _ => Nat.le_of_ble_eq_true rfl) (good_cuts (clerestorykeep2_own.a k) trivial) (clerestorykeep2_own.e k)
theorem ok7 (k : Nat) : CfOk (cfg (tab7 k)) := addTab_ok (ok6 k) (clerestorykeep2_own.sim k)
theorem clerestorykeep2_CascadeTotal.a (k : Nat) : cutsAt (fun n => (clerestorykeep2_CascadeTotal.cuts k n).isSome) clerestorykeep2_CascadeTotal.body = [] := by kernel_rfl
theorem clerestorykeep2_CascadeTotal.sim (k : Nat) : ∀ v x, (fun v => clerestorykeep2_CascadeTotal k v.1 v.2.1 v.2.2.1 v.2.2.2.1 v.2.2.2.2.1 v.2.2.2.2.2.1 v.2.2.2.2.2.2.1 v.2.2.2.2.2.2.2.1 v.2.2.2.2.2.2.2.2.1 v.2.2.2.2.2.2.2.2.2.1 v.2.2.2.2.2.2.2.2.2.2.1 v.2.2.2.2.2.2.2.2.2.2.2.1 v.2.2.2.2.2.2.2.2.2.2.2.2.1 v.2.2.2.2.2.2.2.2.2.2.2.2.2.1 v.2.2.2.2.2.2.2.2.2.2.2.2.2.2.1 v.2.2.2.2.2.2.2.2.2.2.2.2.2.2.2.1 v.2.2.2.2.2.2.2.2.2.2.2.2.2.2.2.2.1 v.2.2.2.2.2.2.2.2.2.2.2.2.2.2.2.2.2) v = some x → Sim (cfg (tab7 k)) 3 (io8.enc v).1 (io8.enc v).2 (io2.enc x).1 (io2.enc x).2 :=
  sim_of (c := (cfg (tab7 k))) (fine _ (ok7 k)) (dr _ (ok7 k)) (i := io8) (o := io2) (ps := []) (cuts := fun _ => clerestorykeep2_CascadeTotal.cuts k) (m := 0) (g := fun v => clerestorykeep2_CascadeTotal k v.1 v.2.1 v.2.2.1 v.2.2.2.1 v.2.2.2.2.1 v.2.2.2.2.2.1 v.2.2.2.2.2.2.1 v.2.2.2.2.2.2.2.1 v.2.2.2.2.2.2.2.2.1 v.2.2.2.2.2.2.2.2.2.1 v.2.2.2.2.2.2.2.2.2.2.1 v.2.2.2.2.2.2.2.2.2.2.2.1 v.2.2.2.2.2.2.2.2.2.2.2.2.1 v.2.2.2.2.2.2.2.2.2.2.2.2.2.1 v.2.2.2.2.2.2.2.2.2.2.2.2.2.2.1 v.2.2.2.2.2.2.2.2.2.2.2.2.2.2.2.1 v.2.2.2.2.2.2.2.2.2.2.2.2.2.2.2.2.1 v.2.2.2.2.2.2.2.2.2.2.2.2.2.2.2.2.2) Try.func3 (by kernel_rfl) clerestorykeep2_CascadeTotal.hb (fun _ => rfl) (fun _ => Nat.le_of_ble_eq_true rfl) (good_cuts (clerestorykeep2_CascadeTotal.a k) trivial) (clerestorykeep2_CascadeTotal.e k)
theorem ok8 (k : Nat) : CfOk (cfg (tab8 k)) := addTab_ok (ok7 k) (clerestorykeep2_CascadeTotal.sim k)
theorem anim_in.a (k : Nat) : cutsAt (fun n => (anim_in.cuts k n).isSome) anim_in.body = [] := by kernel_rfl
theorem anim_in.sim (k : Nat) : ∀ v x, (fun v => anim_in k v.1 v.2.1 v.2.2) v = some x → Sim (cfg (tab8 k)) 25 (io9.enc v).1 (io9.enc v).2 (io2.enc x).1 (io2.enc x).2 :=
  sim_of (c := (cfg (tab8 k))) (fine _ (ok8 k)) (dr _ (ok8 k)) (i := io9) (o := io2) (ps := []) (cuts := fun _ => anim_in.cuts k) (m := 0) (g := fun v => anim_in k v.1 v.2.1 v.2.2) Try.func25 (by kernel_rfl) anim_in.hb (fun _ => rfl) (fun _ => Nat.le_of_ble_eq_true rfl) (good_cuts (anim_in.a k) trivial) (anim_in.e k)
theorem ok9 (k : Nat) : CfOk (cfg (tab9 k)) := addTab_ok (ok8 k) (anim_in.sim k)
theorem anim_easing.a17 (k : Nat) : cutsAt (fun n => (anim_easing.cuts k n).isSome) anim_easing.b17 = [] := by kernel_rfl
theorem anim_easing.a (k : Nat) : cutsAt (fun n => (anim_easing.cuts k n).isSome) anim_easing.body = [(17, Code.loop anim_easing.b17)] := by kernel_rfl
theorem anim_easing.so17 (k : Nat) : Sound (cfg (tab9 k)) Try.f24.ntmps 0 (anim_easing.kr k) (.loop anim_easing.b17) (entK (cfg (tab9 k)) 0 [1, 26, 27] [] io11.pat (anim_easing.L17 k k)) :=
  loop_ok (fine _ (ok9 k)) (dr _ (ok9 k)) (good_cuts (anim_easing.a17 k) trivial) io11.ok (xn := anim_easing.x17) (L := anim_easing.L17 k) (fun v K => rfl) (anim_easing.s17 k) k
theorem anim_easing.sim (k : Nat) : ∀ v x, (fun v => anim_easing k v.1 v.2.1 v.2.2.1 v.2.2.2.1 v.2.2.2.2.1 v.2.2.2.2.2) v = some x → Sim (cfg (tab9 k)) 24 (io10.enc v).1 (io10.enc v).2 (io2.enc x).1 (io2.enc x).2 :=
  sim_of (c := (cfg (tab9 k))) (fine _ (ok9 k)) (dr _ (ok9 k)) (i := io10) (o := io2) (ps := []) (cuts := fun _ => anim_easing.cuts k) (m := 0) (g := fun v => anim_easing k v.1 v.2.1 v.2.2.1 v.2.2.2.1 v.2.2.2.2.1 v.2.2.2.2.2) Try.func24 (by kernel_rfl) anim_easing.hb (fun _ => rfl) (fun _ => Nat.le_of_ble_eq_true rfl) (good_cuts (anim_easing.a k) ⟨fun f hf => by cases hf; exact anim_easing.so17 k, trivial⟩) (anim_easing.e k)
theorem ok10 (k : Nat) : CfOk (cfg (tab10 k)) := addTab_ok (ok9 k) (anim_easing.sim k)
theorem anim_bend.a (k : Nat) : cutsAt (fun n => (anim_bend.cuts k n).isSome) anim_bend.body = [] := by kernel_rfl
theorem anim_bend.sim (k : Nat) : ∀ v x, (fun v => anim_bend k v.1 v.2.1 v.2.2) v = some x → Sim (cfg (tab10 k)) 35 (io9.enc v).1 (io9.enc v).2 (io1.enc x).1 (io1.enc x).2 :=
  sim_of (c := (cfg (tab10 k))) (fine _ (ok10 k)) (dr _ (ok10 k)) (i := io9) (o := io1) (ps := []) (cuts := fun _ => anim_bend.cuts k) (m := 0) (g := fun v => anim_bend k v.1 v.2.1 v.2.2) Try.func35 (by kernel_rfl) anim_bend.hb (fun _ => rfl) (fun _ => Nat.le_of_ble_eq_true rfl) (good_cuts (anim_bend.a k) trivial) (anim_bend.e k)
theorem ok11 (k : Nat) : CfOk (cfg (tab11 k)) := addTab_ok (ok10 k) (anim_bend.sim k)
theorem anim_eased.a13 (k : Nat) : cutsAt (fun n => (anim_eased.cuts k n).isSome) anim_eased.b13 = [] := by kernel_rfl
theorem anim_eased.a (k : Nat) : cutsAt (fun n => (anim_eased.cuts k n).isSome) anim_eased.body = [(13, Code.loop anim_eased.b13)] := by kernel_rfl
theorem anim_eased.so13 (k : Nat) : Sound (cfg (tab11 k)) Try.f26.ntmps 0 (anim_eased.kr k) (.loop anim_eased.b13) (entK (cfg (tab11 k)) 0 [1, 2, 5, 6] [] io14.pat (anim_eased.L13 k k)) :=
  loop_ok (fine _ (ok11 k)) (dr _ (ok11 k)) (good_cuts (anim_eased.a13 k) trivial) io14.ok (xn := anim_eased.x13) (L := anim_eased.L13 k) (fun v K => rfl) (anim_eased.s13 k) k
theorem anim_eased.sim (k : Nat) : ∀ v x, (fun v => anim_eased k v.1 v.2.1 v.2.2.1 v.2.2.2.1 v.2.2.2.2.1 v.2.2.2.2.2.1 v.2.2.2.2.2.2) v = some x → Sim (cfg (tab11 k)) 26 (io13.enc v).1 (io13.enc v).2 (io1.enc x).1 (io1.enc x).2 :=
  sim_of (c := (cfg (tab11 k))) (fine _ (ok11 k)) (dr _ (ok11 k)) (i := io13) (o := io1) (ps := []) (cuts := fun _ => anim_eased.cuts k) (m := 0) (g := fun v => anim_eased k v.1 v.2.1 v.2.2.1 v.2.2.2.1 v.2.2.2.2.1 v.2.2.2.2.2.1 v.2.2.2.2.2.2) Try.func26 (by kernel_rfl) anim_eased.hb (fun _ => rfl) (fun _ => Nat.le_of_ble_eq_true rfl) (good_cuts (anim_eased.a k) ⟨fun f hf => by cases hf; exact anim_eased.so13 k, trivial⟩) (anim_eased.e k)
theorem ok12 (k : Nat) : CfOk (cfg (tab12 k)) := addTab_ok (ok11 k) (anim_eased.sim k)
theorem anim_Ease.a (k : Nat) : cutsAt (fun n => (anim_Ease.cuts k n).isSome) anim_Ease.body = [] := by kernel_rfl
theorem anim_Ease.sim (k : Nat) : ∀ v x, (fun v => anim_Ease k v.1 v.2.1 v.2.2.1 v.2.2.2.1 v.2.2.2.2.1 v.2.2.2.2.2.1 v.2.2.2.2.2.2) v = some x → Sim (cfg (tab12 k)) 15 (io13.enc v).1 (io13.enc v).2 (io3.enc x).1 (io3.enc x).2 :=
  sim_of (c := (cfg (tab12 k))) (fine _ (ok12 k)) (dr _ (ok12 k)) (i := io13) (o := io3) (ps := []) (cuts := fun _ => anim_Ease.cuts k) (m := 0) (g := fun v => anim_Ease k v.1 v.2.1 v.2.2.1 v.2.2.2.1 v.2.2.2.2.1 v.2.2.2.2.2.1 v.2.2.2.2.2.2) Try.func15 (by kernel_rfl) anim_Ease.hb (fun _ => rfl) (fun _ => Nat.le_of_ble_eq_true rfl) (good_cuts (anim_Ease.a k) trivial) (anim_Ease.e k)
theorem ok13 (k : Nat) : CfOk (cfg (tab13 k)) := addTab_ok (ok12 k) (anim_Ease.sim k)
theorem clerestorykeep2_stepped.a (k : Nat) : cutsAt (fun n => (clerestorykeep2_stepped.cuts k n).isSome) clerestorykeep2_stepped.body = [] := by kernel_rfl
theorem clerestorykeep2_stepped.sim (k : Nat) : ∀ v x, (fun v => clerestorykeep2_stepped k ) v = some x → Sim (cfg (tab13 k)) 14 (io7.enc v).1 (io7.enc v).2 (io2.enc x).1 (io2.enc x).2 :=
  sim_of (c := (cfg (tab13 k))) (fine _ (ok13 k)) (dr _ (ok13 k)) (i := io7) (o := io2) (ps := []) (cuts := fun _ => clerestorykeep2_stepped.cuts k) (m := 0) (g := fun v => clerestorykeep2_stepped k ) Try.func14 (by kernel_rfl) clerestorykeep2_stepped.hb (fun _ => rfl) (fun _ => Nat.le_of_ble_eq_true rfl) (good_cuts (clerestorykeep2_stepped.a k) trivial) (clerestorykeep2_stepped.e k)
theorem ok14 (k : Nat) : CfOk (cfg (tab14 k)) := addTab_ok (ok13 k) (clerestorykeep2_stepped.sim k)
theorem clerestorykeep2_AnimRises.a (k : Nat) : cutsAt (fun n => (clerestorykeep2_AnimRises.cuts k n).isSome) clerestorykeep2_AnimRises.body = [] := by kernel_rfl
theorem clerestorykeep2_AnimRises.sim (k : Nat) : ∀ v x, (fun v => clerestorykeep2_AnimRises k v.1 v.2.1 v.2.2.1 v.2.2.2.1 v.2.2.2.2.1 v.2.2.2.2.2.1 v.2.2.2.2.2.2.1 v.2.2.2.2.2.2.2) v = some x → Sim (cfg (tab14 k)) 4 (io16.enc v).1 (io16.enc v).2 (io2.enc x).1 (io2.enc x).2 :=
  sim_of (c := (cfg (tab14 k))) (fine _ (ok14 k)) (dr _ (ok14 k)) (i := io16) (o := io2) (ps := []) (cuts := fun _ => clerestorykeep2_AnimRises.cuts k) (m := 0) (g := fun v => clerestorykeep2_AnimRises k v.1 v.2.1 v.2.2.1 v.2.2.2.1 v.2.2.2.2.1 v.2.2.2.2.2.1 v.2.2.2.2.2.2.1 v.2.2.2.2.2.2.2) Try.func4 (by kernel_rfl) clerestorykeep2_AnimRises.hb (fun _ => rfl) (fun _ => Nat.le_of_ble_eq_true rfl) (good_cuts (clerestorykeep2_AnimRises.a k) trivial) (clerestorykeep2_AnimRises.e k)
theorem ok15 (k : Nat) : CfOk (cfg (tab15 k)) := addTab_ok (ok14 k) (clerestorykeep2_AnimRises.sim k)
theorem anim_cut.a (k : Nat) : cutsAt (fun n => (anim_cut.cuts k n).isSome) anim_cut.body = [] := by kernel_rfl
theorem anim_cut.sim (k : Nat) : ∀ v x, (fun v => anim_cut k v) v = some x → Sim (cfg (tab15 k)) 28 (io1.enc v).1 (io1.enc v).2 (io1.enc x).1 (io1.enc x).2 :=
  sim_of (c := (cfg (tab15 k))) (fine _ (ok15 k)) (dr _ (ok15 k)) (i := io1) (o := io1) (ps := []) (cuts := fun _ => anim_cut.cuts k) (m := 0) (g := fun v => anim_cut k v) Try.func28 (by kernel_rfl) anim_cut.hb (fun _ => rfl) (fun _ => Nat.le_of_ble_eq_true rfl) (good_cuts (anim_cut.a k) trivial) (anim_cut.e k)
theorem ok16 (k : Nat) : CfOk (cfg (tab16 k)) := addTab_ok (ok15 k) (anim_cut.sim k)
theorem anim_part.a10 (k : Nat) : cutsAt (fun n => (anim_part.cuts k n).isSome) anim_part.b10 = [] := by kernel_rfl
theorem anim_part.a (k : Nat) : cutsAt (fun n => (anim_part.cuts k n).isSome) anim_part.body = [(10, anim_part.b10)] := by kernel_rfl
theorem anim_part.so10 (k : Nat) : Sound (cfg (tab16 k)) Try.f27.ntmps 0 (anim_part.kr k) anim_part.b10 (entK (cfg (tab16 k)) 0 [0, 8] [] io3.pat (anim_part.L10 k)) :=
  join_ok (fine _ (ok16 k)) (dr _ (ok16 k)) (good_cuts (anim_part.a10 k) trivial) io3.ok (xn := anim_part.x10) (L := anim_part.L10 k) (anim_part.s10 k)
theorem anim_part.sim (k : Nat) : ∀ v x, (fun v => anim_part k v.1 v.2.1 v.2.2) v = some x → Sim (cfg (tab16 k)) 27 (io9.enc v).1 (io9.enc v).2 (io1.enc x).1 (io1.enc x).2 :=
  sim_of (c := (cfg (tab16 k))) (fine _ (ok16 k)) (dr _ (ok16 k)) (i := io9) (o := io1) (ps := []) (cuts := fun _ => anim_part.cuts k) (m := 0) (g := fun v => anim_part k v.1 v.2.1 v.2.2) Try.func27 (by kernel_rfl) anim_part.hb (fun _ => rfl) (fun _ => Nat.le_of_ble_eq_true rfl) (good_cuts (anim_part.a k) ⟨fun f hf => by cases hf; exact anim_part.so10 k, trivial⟩) (anim_part.e k)
theorem ok17 (k : Nat) : CfOk (cfg (tab17 k)) := addTab_ok (ok16 k) (anim_part.sim k)
theorem anim_Mix.a15 (k : Nat) : cutsAt (fun n => (anim_Mix.cuts k n).isSome) anim_Mix.b15 = [] := by kernel_rfl
theorem anim_Mix.a (k : Nat) : cutsAt (fun n => (anim_Mix.cuts k n).isSome) anim_Mix.body = [(15, Code.loop anim_Mix.b15)] := by kernel_rfl
theorem anim_Mix.so15 (k : Nat) : Sound (cfg (tab17 k)) Try.f17.ntmps 0 (anim_Mix.kr k) (.loop anim_Mix.b15) (entK (cfg (tab17 k)) 0 [2, 3, 4, 6, 7, 8] [] io19.pat (anim_Mix.L15 k k)) :=
  loop_ok (fine _ (ok17 k)) (dr _ (ok17 k)) (good_cuts (anim_Mix.a15 k) trivial) io19.ok (xn := anim_Mix.x15) (L := anim_Mix.L15 k) (fun v K => rfl) (anim_Mix.s15 k) k
theorem anim_Mix.sim (k : Nat) : ∀ v x, (fun v => anim_Mix k v.1 v.2.1 v.2.2.1 v.2.2.2.1 v.2.2.2.2) v = some x → Sim (cfg (tab17 k)) 17 (io17.enc v).1 (io17.enc v).2 (io18.enc x).1 (io18.enc x).2 :=
  sim_of (c := (cfg (tab17 k))) (fine _ (ok17 k)) (dr _ (ok17 k)) (i := io17) (o := io18) (ps := []) (cuts := fun _ => anim_Mix.cuts k) (m := 0) (g := fun v => anim_Mix k v.1 v.2.1 v.2.2.1 v.2.2.2.1 v.2.2.2.2) Try.func17 (by kernel_rfl) anim_Mix.hb (fun _ => rfl) (fun _ => Nat.le_of_ble_eq_true rfl) (good_cuts (anim_Mix.a k) ⟨fun f hf => by cases hf; exact anim_Mix.so15 k, trivial⟩) (anim_Mix.e k)
theorem ok18 (k : Nat) : CfOk (cfg (tab18 k)) := addTab_ok (ok17 k) (anim_Mix.sim k)
theorem clerestorykeep2_AnimBetween.a (k : Nat) : cutsAt (fun n => (clerestorykeep2_AnimBetween.cuts k n).isSome) clerestorykeep2_AnimBetween.body = [] := by kernel_rfl
theorem clerestorykeep2_AnimBetween.sim (k : Nat) : ∀ v x, (fun v => clerestorykeep2_AnimBetween k v.1 v.2.1 v.2.2.1 v.2.2.2) v = some x → Sim (cfg (tab18 k)) 7 (io21.enc v).1 (io21.enc v).2 (io2.enc x).1 (io2.enc x).2 :=
  sim_of (c := (cfg (tab18 k))) (fine _ (ok18 k)) (dr _ (ok18 k)) (i := io21) (o := io2) (ps := []) (cuts := fun _ => clerestorykeep2_AnimBetween.cuts k) (m := 0) (g := fun v => clerestorykeep2_AnimBetween k v.1 v.2.1 v.2.2.1 v.2.2.2) Try.func7 (by kernel_rfl) clerestorykeep2_AnimBetween.hb (fun _ => rfl) (fun _ => Nat.le_of_ble_eq_true rfl) (good_cuts (clerestorykeep2_AnimBetween.a k) trivial) (clerestorykeep2_AnimBetween.e k)
theorem ok19 (k : Nat) : CfOk (cfg (tab19 k)) := addTab_ok (ok18 k) (clerestorykeep2_AnimBetween.sim k)
theorem anim_Check.a23 (k : Nat) : cutsAt (fun n => (anim_Check.cuts k n).isSome) anim_Check.b23 = [] := by kernel_rfl
theorem anim_Check.a (k : Nat) : cutsAt (fun n => (anim_Check.cuts k n).isSome) anim_Check.body = [(23, Code.loop anim_Check.b23)] := by kernel_rfl
theorem anim_Check.so23 (k : Nat) : Sound (cfg (tab19 k)) Try.f20.ntmps 0 (anim_Check.kr k) (.loop anim_Check.b23) (entK (cfg (tab19 k)) 0 [1, 53, 54, 55] [] io23.pat (anim_Check.L23 k k)) :=
  loop_ok (fine _ (ok19 k)) (dr _ (ok19 k)) (good_cuts (anim_Check.a23 k) trivial) io23.ok (xn := anim_Check.x23) (L := anim_Check.L23 k) (fun v K => rfl) (anim_Check.s23 k) k
theorem anim_Check.sim (k : Nat) : ∀ v x, (fun v => anim_Check k v.1 v.2.1 v.2.2.1 v.2.2.2.1 v.2.2.2.2.1 v.2.2.2.2.2.1 v.2.2.2.2.2.2.1 v.2.2.2.2.2.2.2.1 v.2.2.2.2.2.2.2.2.1 v.2.2.2.2.2.2.2.2.2.1 v.2.2.2.2.2.2.2.2.2.2.1 v.2.2.2.2.2.2.2.2.2.2.2) v = some x → Sim (cfg (tab19 k)) 20 (io22.enc v).1 (io22.enc v).2 (io1.enc x).1 (io1.enc x).2 :=
  sim_of (c := (cfg (tab19 k))) (fine _ (ok19 k)) (dr _ (ok19 k)) (i := io22) (o := io1) (ps := []) (cuts := fun _ => anim_Check.cuts k) (m := 0) (g := fun v => anim_Check k v.1 v.2.1 v.2.2.1 v.2.2.2.1 v.2.2.2.2.1 v.2.2.2.2.2.1 v.2.2.2.2.2.2.1 v.2.2.2.2.2.2.2.1 v.2.2.2.2.2.2.2.2.1 v.2.2.2.2.2.2.2.2.2.1 v.2.2.2.2.2.2.2.2.2.2.1 v.2.2.2.2.2.2.2.2.2.2.2) Try.func20 (by kernel_rfl) anim_Check.hb (fun _ => rfl) (fun _ => Nat.le_of_ble_eq_true rfl) (good_cuts (anim_Check.a k) ⟨fun f hf => by cases hf; exact anim_Check.so23 k, trivial⟩) (anim_Check.e k)
theorem ok20 (k : Nat) : CfOk (cfg (tab20 k)) := addTab_ok (ok19 k) (anim_Check.sim k)
theorem anim_right.a9 (k : Nat) : cutsAt (fun n => (anim_right.cuts k n).isSome) anim_right.b9 = [] := by kernel_rfl
theorem anim_right.a (k : Nat) : cutsAt (fun n => (anim_right.cuts k n).isSome) anim_right.body = [(9, Code.loop anim_right.b9)] := by kernel_rfl
theorem anim_right.so9 (k : Nat) : Sound (cfg (tab20 k)) Try.f29.ntmps 0 (anim_right.kr k) (.loop anim_right.b9) (entK (cfg (tab20 k)) 0 [1, 11, 12, 13] [] io25.pat (anim_right.L9 k k)) :=
  loop_ok (fine _ (ok20 k)) (dr _ (ok20 k)) (good_cuts (anim_right.a9 k) trivial) io25.ok (xn := anim_right.x9) (L := anim_right.L9 k) (fun v K => rfl) (anim_right.s9 k) k
theorem anim_right.sim (k : Nat) : ∀ v x, (fun v => anim_right k v.1 v.2) v = some x → Sim (cfg (tab20 k)) 29 (io24.enc v).1 (io24.enc v).2 (io1.enc x).1 (io1.enc x).2 :=
  sim_of (c := (cfg (tab20 k))) (fine _ (ok20 k)) (dr _ (ok20 k)) (i := io24) (o := io1) (ps := []) (cuts := fun _ => anim_right.cuts k) (m := 0) (g := fun v => anim_right k v.1 v.2) Try.func29 (by kernel_rfl) anim_right.hb (fun _ => rfl) (fun _ => Nat.le_of_ble_eq_true rfl) (good_cuts (anim_right.a k) ⟨fun f hf => by cases hf; exact anim_right.so9 k, trivial⟩) (anim_right.e k)
theorem ok21 (k : Nat) : CfOk (cfg (tab21 k)) := addTab_ok (ok20 k) (anim_right.sim k)
theorem anim_end.a (k : Nat) : cutsAt (fun n => (anim_end.cuts k n).isSome) anim_end.body = [] := by kernel_rfl
theorem anim_end.sim (k : Nat) : ∀ v x, (fun v => anim_end k v.1 v.2.1 v.2.2.1 v.2.2.2.1 v.2.2.2.2.1 v.2.2.2.2.2.1 v.2.2.2.2.2.2.1 v.2.2.2.2.2.2.2.1 v.2.2.2.2.2.2.2.2.1 v.2.2.2.2.2.2.2.2.2.1 v.2.2.2.2.2.2.2.2.2.2.1 v.2.2.2.2.2.2.2.2.2.2.2) v = some x → Sim (cfg (tab21 k)) 31 (io22.enc v).1 (io22.enc v).2 (io1.enc x).1 (io1.enc x).2 :=
  sim_of (c := (cfg (tab21 k))) (fine _ (ok21 k)) (dr _ (ok21 k)) (i := io22) (o := io1) (ps := []) (cuts := fun _ => anim_end.cuts k) (m := 0) (g := fun v => anim_end k v.1 v.2.1 v.2.2.1 v.2.2.2.1 v.2.2.2.2.1 v.2.2.2.2.2.1 v.2.2.2.2.2.2.1 v.2.2.2.2.2.2.2.1 v.2.2.2.2.2.2.2.2.1 v.2.2.2.2.2.2.2.2.2.1 v.2.2.2.2.2.2.2.2.2.2.1 v.2.2.2.2.2.2.2.2.2.2.2) Try.func31 (by kernel_rfl) anim_end.hb (fun _ => rfl) (fun _ => Nat.le_of_ble_eq_true rfl) (good_cuts (anim_end.a k) trivial) (anim_end.e k)
theorem ok22 (k : Nat) : CfOk (cfg (tab22 k)) := addTab_ok (ok21 k) (anim_end.sim k)
theorem anim_frames.a5 (k : Nat) : cutsAt (fun n => (anim_frames.cuts k n).isSome) anim_frames.b5 = [] := by kernel_rfl
theorem anim_frames.a (k : Nat) : cutsAt (fun n => (anim_frames.cuts k n).isSome) anim_frames.body = [(5, Code.loop anim_frames.b5)] := by kernel_rfl
theorem anim_frames.so5 (k : Nat) : Sound (cfg (tab22 k)) Try.f36.ntmps 0 (anim_frames.kr k) (.loop anim_frames.b5) (entK (cfg (tab22 k)) 0 [1, 2, 4, 5] [] io27.pat (anim_frames.L5 k k)) :=
  loop_ok (fine _ (ok22 k)) (dr _ (ok22 k)) (good_cuts (anim_frames.a5 k) trivial) io27.ok (xn := anim_frames.x5) (L := anim_frames.L5 k) (fun v K => rfl) (anim_frames.s5 k) k
theorem anim_frames.sim (k : Nat) : ∀ v x, (fun v => anim_frames k v.1 v.2.1 v.2.2.1 v.2.2.2.1 v.2.2.2.2.1 v.2.2.2.2.2.1 v.2.2.2.2.2.2.1 v.2.2.2.2.2.2.2.1 v.2.2.2.2.2.2.2.2.1 v.2.2.2.2.2.2.2.2.2.1 v.2.2.2.2.2.2.2.2.2.2.1 v.2.2.2.2.2.2.2.2.2.2.2.1 v.2.2.2.2.2.2.2.2.2.2.2.2) v = some x → Sim (cfg (tab22 k)) 36 (io26.enc v).1 (io26.enc v).2 (io18.enc x).1 (io18.enc x).2 :=
  sim_of (c := (cfg (tab22 k))) (fine _ (ok22 k)) (dr _ (ok22 k)) (i := io26) (o := io18) (ps := []) (cuts := fun _ => anim_frames.cuts k) (m := 0) (g := fun v => anim_frames k v.1 v.2.1 v.2.2.1 v.2.2.2.1 v.2.2.2.2.1 v.2.2.2.2.2.1 v.2.2.2.2.2.2.1 v.2.2.2.2.2.2.2.1 v.2.2.2.2.2.2.2.2.1 v.2.2.2.2.2.2.2.2.2.1 v.2.2.2.2.2.2.2.2.2.2.1 v.2.2.2.2.2.2.2.2.2.2.2.1 v.2.2.2.2.2.2.2.2.2.2.2.2) Try.func36 (by kernel_rfl) anim_frames.hb (fun _ => rfl) (fun _ => Nat.le_of_ble_eq_true rfl) (good_cuts (anim_frames.a k) ⟨fun f hf => by cases hf; exact anim_frames.so5 k, trivial⟩) (anim_frames.e k)
theorem ok23 (k : Nat) : CfOk (cfg (tab23 k)) := addTab_ok (ok22 k) (anim_frames.sim k)
theorem anim_tells.a14 (k : Nat) : cutsAt (fun n => (anim_tells.cuts k n).isSome) anim_tells.b14 = [] := by kernel_rfl
theorem anim_tells.a24 (k : Nat) : cutsAt (fun n => (anim_tells.cuts k n).isSome) anim_tells.b24 = [] := by kernel_rfl
theorem anim_tells.a (k : Nat) : cutsAt (fun n => (anim_tells.cuts k n).isSome) anim_tells.body = [(14, anim_tells.b14), (24, anim_tells.b24)] := by kernel_rfl
theorem anim_tells.so14 (k : Nat) : Sound (cfg (tab23 k)) Try.f30.ntmps 0 (anim_tells.kr k) anim_tells.b14 (entK (cfg (tab23 k)) 0 [2, 4, 6] [] io29.pat (anim_tells.L14 k)) :=
  join_ok (fine _ (ok23 k)) (dr _ (ok23 k)) (good_cuts (anim_tells.a14 k) trivial) io29.ok (xn := anim_tells.x14) (L := anim_tells.L14 k) (anim_tells.s14 k)
theorem anim_tells.so24 (k : Nat) : Sound (cfg (tab23 k)) Try.f30.ntmps 0 (anim_tells.kr k) anim_tells.b24 (entK (cfg (tab23 k)) 0 [2, 4, 8] [] io30.pat (anim_tells.L24 k)) :=
  join_ok (fine _ (ok23 k)) (dr _ (ok23 k)) (good_cuts (anim_tells.a24 k) trivial) io30.ok (xn := anim_tells.x24) (L := anim_tells.L24 k) (anim_tells.s24 k)
theorem anim_tells.sim (k : Nat) : ∀ v x, (fun v => anim_tells k v.1 v.2.1 v.2.2.1 v.2.2.2.1 v.2.2.2.2.1 v.2.2.2.2.2.1 v.2.2.2.2.2.2.1 v.2.2.2.2.2.2.2.1 v.2.2.2.2.2.2.2.2.1 v.2.2.2.2.2.2.2.2.2.1 v.2.2.2.2.2.2.2.2.2.2.1 v.2.2.2.2.2.2.2.2.2.2.2.1 v.2.2.2.2.2.2.2.2.2.2.2.2) v = some x → Sim (cfg (tab23 k)) 30 (io26.enc v).1 (io26.enc v).2 (io28.enc x).1 (io28.enc x).2 :=
  sim_of (c := (cfg (tab23 k))) (fine _ (ok23 k)) (dr _ (ok23 k)) (i := io26) (o := io28) (ps := []) (cuts := fun _ => anim_tells.cuts k) (m := 0) (g := fun v => anim_tells k v.1 v.2.1 v.2.2.1 v.2.2.2.1 v.2.2.2.2.1 v.2.2.2.2.2.1 v.2.2.2.2.2.2.1 v.2.2.2.2.2.2.2.1 v.2.2.2.2.2.2.2.2.1 v.2.2.2.2.2.2.2.2.2.1 v.2.2.2.2.2.2.2.2.2.2.1 v.2.2.2.2.2.2.2.2.2.2.2.1 v.2.2.2.2.2.2.2.2.2.2.2.2) Try.func30 (by kernel_rfl) anim_tells.hb (fun _ => rfl) (fun _ => Nat.le_of_ble_eq_true rfl) (good_cuts (anim_tells.a k) ⟨fun f hf => by cases hf; exact anim_tells.so14 k, fun f hf => by cases hf; exact anim_tells.so24 k, trivial⟩) (anim_tells.e k)
theorem ok24 (k : Nat) : CfOk (cfg (tab24 k)) := addTab_ok (ok23 k) (anim_tells.sim k)
theorem anim_At.a11 (k : Nat) : cutsAt (fun n => (anim_At.cuts k n).isSome) anim_At.b11 = [] := by kernel_rfl
theorem anim_At.a (k : Nat) : cutsAt (fun n => (anim_At.cuts k n).isSome) anim_At.body = [(11, Code.loop anim_At.b11)] := by kernel_rfl
theorem anim_At.so11 (k : Nat) : Sound (cfg (tab24 k)) Try.f18.ntmps 0 (anim_At.kr k) (.loop anim_At.b11) (entK (cfg (tab24 k)) 0 [2, 4, 6, 20, 21, 22] [] io33.pat (anim_At.L11 k k)) :=
  loop_ok (fine _ (ok24 k)) (dr _ (ok24 k)) (good_cuts (anim_At.a11 k) trivial) io33.ok (xn := anim_At.x11) (L := anim_At.L11 k) (fun v K => rfl) (anim_At.s11 k) k
theorem anim_At.sim (k : Nat) : ∀ v x, (fun v => anim_At k v.1 v.2.1 v.2.2.1 v.2.2.2) v = some x → Sim (cfg (tab24 k)) 18 (io31.enc v).1 (io31.enc v).2 (io32.enc x).1 (io32.enc x).2 :=
  sim_of (c := (cfg (tab24 k))) (fine _ (ok24 k)) (dr _ (ok24 k)) (i := io31) (o := io32) (ps := []) (cuts := fun _ => anim_At.cuts k) (m := 0) (g := fun v => anim_At k v.1 v.2.1 v.2.2.1 v.2.2.2) Try.func18 (by kernel_rfl) anim_At.hb (fun _ => rfl) (fun _ => Nat.le_of_ble_eq_true rfl) (good_cuts (anim_At.a k) ⟨fun f hf => by cases hf; exact anim_At.so11 k, trivial⟩) (anim_At.e k)
theorem ok25 (k : Nat) : CfOk (cfg (tab25 k)) := addTab_ok (ok24 k) (anim_At.sim k)
theorem clerestorykeep2_moved.a7 (k : Nat) : cutsAt (fun n => (clerestorykeep2_moved.cuts k n).isSome) clerestorykeep2_moved.b7 = [] := by kernel_rfl
theorem clerestorykeep2_moved.a (k : Nat) : cutsAt (fun n => (clerestorykeep2_moved.cuts k n).isSome) clerestorykeep2_moved.body = [(7, Code.loop clerestorykeep2_moved.b7)] := by kernel_rfl
theorem clerestorykeep2_moved.so7 (k : Nat) : Sound (cfg (tab25 k)) Try.f19.ntmps 0 (clerestorykeep2_moved.kr k) (.loop clerestorykeep2_moved.b7) (entK (cfg (tab25 k)) 0 [0, 1, 5, 6] [.own 5 50] io36.pat (clerestorykeep2_moved.L7 k k)) :=
  loop_ok (fine _ (ok25 k)) (dr _ (ok25 k)) (good_cuts (clerestorykeep2_moved.a7 k) trivial) io36.ok (xn := clerestorykeep2_moved.x7) (L := clerestorykeep2_moved.L7 k) (fun v K => rfl) (clerestorykeep2_moved.s7 k) k
theorem clerestorykeep2_moved.sim (k : Nat) : ∀ v x, (fun v => clerestorykeep2_moved k v.1 v.2) v = some x → Sim (cfg (tab25 k)) 19 (io24.enc v).1 (io24.enc v).2 (io35.enc x).1 (io35.enc x).2 :=
  sim_of (c := (cfg (tab25 k))) (fine _ (ok25 k)) (dr _ (ok25 k)) (i := io24) (o := io35) (ps := [.own 0 50]) (cuts := fun _ => clerestorykeep2_moved.cuts k) (m := 0) (g := fun v => clerestorykeep2_moved k v.1 v.2) Try.func19 (by kernel_rfl) clerestorykeep2_moved.hb (fun _ => rfl) (fun _ => Nat.le_of_ble_eq_true rfl) (good_cuts (clerestorykeep2_moved.a k) ⟨fun f hf => by cases hf; exact clerestorykeep2_moved.so7 k, trivial⟩) (clerestorykeep2_moved.e k)
theorem ok26 (k : Nat) : CfOk (cfg (tab26 k)) := addTab_ok (ok25 k) (clerestorykeep2_moved.sim k)
theorem clerestorykeep2_AnimMoved.a (k : Nat) : cutsAt (fun n => (clerestorykeep2_AnimMoved.cuts k n).isSome) clerestorykeep2_AnimMoved.body = [] := by kernel_rfl
theorem clerestorykeep2_AnimMoved.sim (k : Nat) : ∀ v x, (fun v => clerestorykeep2_AnimMoved k v.1 v.2.1 v.2.2.1 v.2.2.2.1 v.2.2.2.2) v = some x → Sim (cfg (tab26 k)) 8 (io37.enc v).1 (io37.enc v).2 (io2.enc x).1 (io2.enc x).2 :=
  sim_of (c := (cfg (tab26 k))) (fine _ (ok26 k)) (dr _ (ok26 k)) (i := io37) (o := io2) (ps := []) (cuts := fun _ => clerestorykeep2_AnimMoved.cuts k) (m := 0) (g := fun v => clerestorykeep2_AnimMoved k v.1 v.2.1 v.2.2.1 v.2.2.2.1 v.2.2.2.2) Try.func8 (by kernel_rfl) clerestorykeep2_AnimMoved.hb (fun _ => rfl) (fun _ => Nat.le_of_ble_eq_true rfl) (good_cuts (clerestorykeep2_AnimMoved.a k) trivial) (clerestorykeep2_AnimMoved.e k)
theorem ok27 (k : Nat) : CfOk (cfg (tab27 k)) := addTab_ok (ok26 k) (clerestorykeep2_AnimMoved.sim k)
theorem clerestorykeep2_AnimFrames.a (k : Nat) : cutsAt (fun n => (clerestorykeep2_AnimFrames.cuts k n).isSome) clerestorykeep2_AnimFrames.body = [] := by kernel_rfl
theorem clerestorykeep2_AnimFrames.sim (k : Nat) : ∀ v x, (fun v => clerestorykeep2_AnimFrames k v.1 v.2.1 v.2.2.1 v.2.2.2.1 v.2.2.2.2.1 v.2.2.2.2.2.1 v.2.2.2.2.2.2.1 v.2.2.2.2.2.2.2.1 v.2.2.2.2.2.2.2.2.1 v.2.2.2.2.2.2.2.2.2.1 v.2.2.2.2.2.2.2.2.2.2.1 v.2.2.2.2.2.2.2.2.2.2.2.1 v.2.2.2.2.2.2.2.2.2.2.2.2.1 v.2.2.2.2.2.2.2.2.2.2.2.2.2) v = some x → Sim (cfg (tab27 k)) 9 (io38.enc v).1 (io38.enc v).2 (io2.enc x).1 (io2.enc x).2 :=
  sim_of (c := (cfg (tab27 k))) (fine _ (ok27 k)) (dr _ (ok27 k)) (i := io38) (o := io2) (ps := []) (cuts := fun _ => clerestorykeep2_AnimFrames.cuts k) (m := 0) (g := fun v => clerestorykeep2_AnimFrames k v.1 v.2.1 v.2.2.1 v.2.2.2.1 v.2.2.2.2.1 v.2.2.2.2.2.1 v.2.2.2.2.2.2.1 v.2.2.2.2.2.2.2.1 v.2.2.2.2.2.2.2.2.1 v.2.2.2.2.2.2.2.2.2.1 v.2.2.2.2.2.2.2.2.2.2.1 v.2.2.2.2.2.2.2.2.2.2.2.1 v.2.2.2.2.2.2.2.2.2.2.2.2.1 v.2.2.2.2.2.2.2.2.2.2.2.2.2) Try.func9 (by kernel_rfl) clerestorykeep2_AnimFrames.hb (fun _ => rfl) (fun _ => Nat.le_of_ble_eq_true rfl) (good_cuts (clerestorykeep2_AnimFrames.a k) trivial) (clerestorykeep2_AnimFrames.e k)
theorem ok28 (k : Nat) : CfOk (cfg (tab28 k)) := addTab_ok (ok27 k) (clerestorykeep2_AnimFrames.sim k)
theorem clerestorykeep2_AnimTurned.a (k : Nat) : cutsAt (fun n => (clerestorykeep2_AnimTurned.cuts k n).isSome) clerestorykeep2_AnimTurned.body = [] := by kernel_rfl
theorem clerestorykeep2_AnimTurned.sim (k : Nat) : ∀ v x, (fun v => clerestorykeep2_AnimTurned k v.1 v.2.1 v.2.2.1 v.2.2.2.1 v.2.2.2.2.1 v.2.2.2.2.2.1 v.2.2.2.2.2.2.1 v.2.2.2.2.2.2.2.1 v.2.2.2.2.2.2.2.2.1 v.2.2.2.2.2.2.2.2.2.1 v.2.2.2.2.2.2.2.2.2.2.1 v.2.2.2.2.2.2.2.2.2.2.2.1 v.2.2.2.2.2.2.2.2.2.2.2.2.1 v.2.2.2.2.2.2.2.2.2.2.2.2.2) v = some x → Sim (cfg (tab28 k)) 10 (io38.enc v).1 (io38.enc v).2 (io2.enc x).1 (io2.enc x).2 :=
  sim_of (c := (cfg (tab28 k))) (fine _ (ok28 k)) (dr _ (ok28 k)) (i := io38) (o := io2) (ps := []) (cuts := fun _ => clerestorykeep2_AnimTurned.cuts k) (m := 0) (g := fun v => clerestorykeep2_AnimTurned k v.1 v.2.1 v.2.2.1 v.2.2.2.1 v.2.2.2.2.1 v.2.2.2.2.2.1 v.2.2.2.2.2.2.1 v.2.2.2.2.2.2.2.1 v.2.2.2.2.2.2.2.2.1 v.2.2.2.2.2.2.2.2.2.1 v.2.2.2.2.2.2.2.2.2.2.1 v.2.2.2.2.2.2.2.2.2.2.2.1 v.2.2.2.2.2.2.2.2.2.2.2.2.1 v.2.2.2.2.2.2.2.2.2.2.2.2.2) Try.func10 (by kernel_rfl) clerestorykeep2_AnimTurned.hb (fun _ => rfl) (fun _ => Nat.le_of_ble_eq_true rfl) (good_cuts (clerestorykeep2_AnimTurned.a k) trivial) (clerestorykeep2_AnimTurned.e k)
theorem ok29 (k : Nat) : CfOk (cfg (tab29 k)) := addTab_ok (ok28 k) (clerestorykeep2_AnimTurned.sim k)
theorem anim_Wake.a19 (k : Nat) : cutsAt (fun n => (anim_Wake.cuts k n).isSome) anim_Wake.b19 = [] := by kernel_rfl
theorem anim_Wake.a13 (k : Nat) : cutsAt (fun n => (anim_Wake.cuts k n).isSome) anim_Wake.b13 = [(19, Code.loop anim_Wake.b19)] := by kernel_rfl
theorem anim_Wake.a (k : Nat) : cutsAt (fun n => (anim_Wake.cuts k n).isSome) anim_Wake.body = [(13, Code.loop anim_Wake.b13)] := by kernel_rfl
theorem anim_Wake.so19 (k : Nat) : Sound (cfg (tab29 k)) Try.f21.ntmps 0 (anim_Wake.kr k) (.loop anim_Wake.b19) (entK (cfg (tab29 k)) 0 [1, 8, 9, 11, 20, 21, 22, 32, 33] [] io40.pat (anim_Wake.L19 k k)) :=
  loop_ok (fine _ (ok29 k)) (dr _ (ok29 k)) (good_cuts (anim_Wake.a19 k) trivial) io40.ok (xn := anim_Wake.x19) (L := anim_Wake.L19 k) (fun v K => rfl) (anim_Wake.s19 k) k
theorem anim_Wake.so13 (k : Nat) : Sound (cfg (tab29 k)) Try.f21.ntmps 0 (anim_Wake.kr k) (.loop anim_Wake.b13) (entK (cfg (tab29 k)) 0 [1, 8, 9, 20, 21, 22] [] io41.pat (anim_Wake.L13 k k)) :=
  loop_ok (fine _ (ok29 k)) (dr _ (ok29 k)) (good_cuts (anim_Wake.a13 k) ⟨fun f hf => by cases hf; exact anim_Wake.so19 k, trivial⟩) io41.ok (xn := anim_Wake.x13) (L := anim_Wake.L13 k) (fun v K => rfl) (anim_Wake.s13 k) k
theorem anim_Wake.sim (k : Nat) : ∀ v x, (fun v => anim_Wake k v.1 v.2) v = some x → Sim (cfg (tab29 k)) 21 (io24.enc v).1 (io24.enc v).2 (io39.enc x).1 (io39.enc x).2 :=
  sim_of (c := (cfg (tab29 k))) (fine _ (ok29 k)) (dr _ (ok29 k)) (i := io24) (o := io39) (ps := []) (cuts := fun _ => anim_Wake.cuts k) (m := 0) (g := fun v => anim_Wake k v.1 v.2) Try.func21 (by kernel_rfl) anim_Wake.hb (fun _ => rfl) (fun _ => Nat.le_of_ble_eq_true rfl) (good_cuts (anim_Wake.a k) ⟨fun f hf => by cases hf; exact anim_Wake.so13 k, trivial⟩) (anim_Wake.e k)
theorem ok30 (k : Nat) : CfOk (cfg (tab30 k)) := addTab_ok (ok29 k) (anim_Wake.sim k)
theorem clerestorykeep2_waking.a22 (k : Nat) : cutsAt (fun n => (clerestorykeep2_waking.cuts k n).isSome) clerestorykeep2_waking.b22 = [] := by kernel_rfl
theorem clerestorykeep2_waking.a7 (k : Nat) : cutsAt (fun n => (clerestorykeep2_waking.cuts k n).isSome) clerestorykeep2_waking.b7 = [(22, clerestorykeep2_waking.b22)] := by kernel_rfl
theorem clerestorykeep2_waking.a (k : Nat) : cutsAt (fun n => (clerestorykeep2_waking.cuts k n).isSome) clerestorykeep2_waking.body = [(7, Code.loop clerestorykeep2_waking.b7)] := by kernel_rfl
theorem clerestorykeep2_waking.so22 (k : Nat) : Sound (cfg (tab30 k)) Try.f22.ntmps 0 (clerestorykeep2_waking.kr k) clerestorykeep2_waking.b22 (entK (cfg (tab30 k)) 0 [0, 1, 5, 6, 8] [] io43.pat (clerestorykeep2_waking.L22 k)) :=
  join_ok (fine _ (ok30 k)) (dr _ (ok30 k)) (good_cuts (clerestorykeep2_waking.a22 k) trivial) io43.ok (xn := clerestorykeep2_waking.x22) (L := clerestorykeep2_waking.L22 k) (clerestorykeep2_waking.s22 k)
theorem clerestorykeep2_waking.so7 (k : Nat) : Sound (cfg (tab30 k)) Try.f22.ntmps 0 (clerestorykeep2_waking.kr k) (.loop clerestorykeep2_waking.b7) (entK (cfg (tab30 k)) 0 [0, 1, 5, 6] [] io44.pat (clerestorykeep2_waking.L7 k k)) :=
  loop_ok (fine _ (ok30 k)) (dr _ (ok30 k)) (good_cuts (clerestorykeep2_waking.a7 k) ⟨fun f hf => by cases hf; exact clerestorykeep2_waking.so22 k, trivial⟩) io44.ok (xn := clerestorykeep2_waking.x7) (L := clerestorykeep2_waking.L7 k) (fun v K => rfl) (clerestorykeep2_waking.s7 k) k
theorem clerestorykeep2_waking.sim (k : Nat) : ∀ v x, (fun v => clerestorykeep2_waking k v.1 v.2) v = some x → Sim (cfg (tab30 k)) 22 (io24.enc v).1 (io24.enc v).2 (io1.enc x).1 (io1.enc x).2 :=
  sim_of (c := (cfg (tab30 k))) (fine _ (ok30 k)) (dr _ (ok30 k)) (i := io24) (o := io1) (ps := []) (cuts := fun _ => clerestorykeep2_waking.cuts k) (m := 0) (g := fun v => clerestorykeep2_waking k v.1 v.2) Try.func22 (by kernel_rfl) clerestorykeep2_waking.hb (fun _ => rfl) (fun _ => Nat.le_of_ble_eq_true rfl) (good_cuts (clerestorykeep2_waking.a k) ⟨fun f hf => by cases hf; exact clerestorykeep2_waking.so7 k, trivial⟩) (clerestorykeep2_waking.e k)
theorem ok31 (k : Nat) : CfOk (cfg (tab31 k)) := addTab_ok (ok30 k) (clerestorykeep2_waking.sim k)
theorem clerestorykeep2_AnimWakes.a22 (k : Nat) : cutsAt (fun n => (clerestorykeep2_AnimWakes.cuts k n).isSome) clerestorykeep2_AnimWakes.b22 = [] := by kernel_rfl
theorem clerestorykeep2_AnimWakes.a (k : Nat) : cutsAt (fun n => (clerestorykeep2_AnimWakes.cuts k n).isSome) clerestorykeep2_AnimWakes.body = [(22, clerestorykeep2_AnimWakes.b22)] := by kernel_rfl
theorem clerestorykeep2_AnimWakes.so22 (k : Nat) : Sound (cfg (tab31 k)) Try.f11.ntmps 0 (clerestorykeep2_AnimWakes.kr k) clerestorykeep2_AnimWakes.b22 (entK (cfg (tab31 k)) 0 [0, 2, 3, 5, 9, 10, 15] [] io45.pat (clerestorykeep2_AnimWakes.L22 k)) :=
  join_ok (fine _ (ok31 k)) (dr _ (ok31 k)) (good_cuts (clerestorykeep2_AnimWakes.a22 k) trivial) io45.ok (xn := clerestorykeep2_AnimWakes.x22) (L := clerestorykeep2_AnimWakes.L22 k) (clerestorykeep2_AnimWakes.s22 k)
theorem clerestorykeep2_AnimWakes.sim (k : Nat) : ∀ v x, (fun v => clerestorykeep2_AnimWakes k v.1 v.2.1 v.2.2.1 v.2.2.2.1 v.2.2.2.2) v = some x → Sim (cfg (tab31 k)) 11 (io37.enc v).1 (io37.enc v).2 (io2.enc x).1 (io2.enc x).2 :=
  sim_of (c := (cfg (tab31 k))) (fine _ (ok31 k)) (dr _ (ok31 k)) (i := io37) (o := io2) (ps := []) (cuts := fun _ => clerestorykeep2_AnimWakes.cuts k) (m := 0) (g := fun v => clerestorykeep2_AnimWakes k v.1 v.2.1 v.2.2.1 v.2.2.2.1 v.2.2.2.2) Try.func11 (by kernel_rfl) clerestorykeep2_AnimWakes.hb (fun _ => rfl) (fun _ => Nat.le_of_ble_eq_true rfl) (good_cuts (clerestorykeep2_AnimWakes.a k) ⟨fun f hf => by cases hf; exact clerestorykeep2_AnimWakes.so22 k, trivial⟩) (clerestorykeep2_AnimWakes.e k)
theorem ok32 (k : Nat) : CfOk (cfg (tab32 k)) := addTab_ok (ok31 k) (clerestorykeep2_AnimWakes.sim k)
end
end Go.Ev.An
