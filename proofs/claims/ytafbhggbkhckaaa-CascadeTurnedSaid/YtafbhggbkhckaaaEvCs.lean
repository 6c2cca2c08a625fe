/- A part of the evaluator of Go code over small heaps and of its proof: no condition beyond those that each theorem names. -/
import Derived.Test.YtafbhggbkhckaaaEvLib
import Derived.Test.YtafbhggbkhckaaaProg
import Derived.KernelRfl
set_option linter.unusedVariables false
set_option maxRecDepth 100000
namespace Go.Ev.Cs
noncomputable section
open Go.Proofs Go.Ev

structure S23 where
  Name : List UInt8
  Value : List UInt8
  Origin : Int
  Important : Bool
  Weight : Int
  Place : Int
def S23.d : S23 := ⟨[], [], 0, false, 0, 0⟩
def base : TypeId → (α : Type) × α
  | 3 => ⟨Int, (0 : Int)⟩
  | 23 => ⟨S23, S23.d⟩
  | _ => ⟨Unit, ()⟩
def T (t : TypeId) : Type := (base t).1
def dflt (t : TypeId) : T t := (base t).2
def dl (t : TypeId) : D T → Option (List (T t))
  | .l t' xs => asT t t' xs
  | .ns => some []
  | _ => none
theorem dl_le {t : TypeId} {d : D T} {l : List (T t)} (h : dl t d = some l) : leD d (.l t l) := by
  unfold dl at h
  split at h
  · rw [asT_l h]; exact .refl _
  · cases h; exact .ns _
  · cases h
def enc3 (x : Int) : List (D T) := [.i .i64 x]
def dec3 (ds : List (D T)) : Option (Int) := match ds with
  | [.i .i64 x0] => some x0
  | _ => none
theorem dec3_ok {ds : List (D T)} {x : Int} (h : dec3 ds = some x) : leDs ds (enc3 x) := by
  unfold dec3 at h
  split at h
  · cases h
    exact .cons (.refl _) <| .nil
  · cases h
def enc23 (x : S23) : List (D T) := [.s x.Name, .s x.Value, .i .i64 x.Origin, .b x.Important, .i .i64 x.Weight, .i .i64 x.Place]
def dec23 (ds : List (D T)) : Option (S23) := match ds with
  | [.s x0, .s x1, .i .i64 x2, .b x3, .i .i64 x4, .i .i64 x5] => some ⟨x0, x1, x2, x3, x4, x5⟩
  | _ => none
theorem dec23_ok {ds : List (D T)} {x : S23} (h : dec23 ds = some x) : leDs ds (enc23 x) := by
  unfold dec23 at h
  split at h
  · cases h
    exact .cons (.refl _) <| .cons (.refl _) <| .cons (.refl _) <| .cons (.refl _) <| .cons (.refl _) <| .cons (.refl _) <| .nil
  · cases h
def enc : (t : TypeId) → T t → List (D T)
  | 3, x => enc3 x
  | 23, x => enc23 x
  | _, _ => []
def dec (t : TypeId) (ds : List (D T)) : Option (T t) := if h : t = 3 then (h ▸ (dec3 ds : Option (T 3))) else if h : t = 23 then (h ▸ (dec23 ds : Option (T 23))) else none
theorem dec_ok (t : TypeId) (ds : List (D T)) (x : T t) (h : dec t ds = some x) : leDs ds (enc t x) := by
  unfold dec at h
  by_cases h3 : t = 3
  · subst h3; exact dec3_ok (show dec3 ds = some x from h)
  rw [dif_neg h3] at h
  by_cases h23 : t = 23
  · subst h23; exact dec23_ok (show dec23 ds = some x from h)
  rw [dif_neg h23] at h
  cases h
def knl : List TypeId := [3, 23]
def cod : Cod T := ⟨fun t => knl.any (·.beq t), enc, dec, dflt⟩
def eql : List TypeId := [23]
def cfg (t : Tab T) : Cfg T := ⟨Try.prog, cod, t, fun t => eql.any (·.beq t)⟩
theorem mem_of {l : List TypeId} {t : TypeId} (h : l.any (·.beq t) = true) : t ∈ l := by
  rw [List.any_eq_true] at h
  obtain ⟨x, hx, hb⟩ := h
  rw [← Nat.eq_of_beq_eq_true hb]; exact hx
theorem len3 : 1 = Try.prog.cellsOf 3 := by kernel_rfl
theorem len23 : 6 = Try.prog.cellsOf 23 := by kernel_rfl
theorem eqk23 : Try.prog.stoodInHeld 23 = false ∧ Try.prog.eqGuardType Try.prog.depth 23 = false := ⟨by kernel_rfl, by kernel_rfl⟩
theorem zr3 : zeroShape Try.prog 3 = true ∧ ∃ ds, zeroCells (T := T) Try.prog 3 = some (ofDs ds) ∧ leDs ds (enc3 (0 : Int)) := ⟨by kernel_rfl, [.i .i64 (0 : Int)], by kernel_rfl, .cons (.refl _) <| .nil⟩
theorem zr23 : zeroShape Try.prog 23 = true ∧ ∃ ds, zeroCells (T := T) Try.prog 23 = some (ofDs ds) ∧ leDs ds (enc23 S23.d) := ⟨by kernel_rfl, [.s ([]), .s ([]), .i .i64 (0 : Int), .b false, .i .i64 (0 : Int), .i .i64 (0 : Int)], by kernel_rfl, .cons (.refl _) <| .cons (.refl _) <| .cons (.refl _) <| .cons (.refl _) <| .cons (.refl _) <| .cons (.refl _) <| .nil⟩
theorem fl : Try.prog.follows .mixedOrders = true := by kernel_rfl
theorem fine (t : Tab T) (h : CfOk (cfg t)) : Fine (cfg t) where
  cod := by
    refine ⟨fun t ht x => ?_, fun t ds x h => ?_⟩
    · have hm := mem_of (l := knl) ht
      simp only [knl, List.mem_cons, List.not_mem_nil, or_false] at hm
      rcases hm with rfl | rfl
      · exact len3
      · exact len23
    · exact dec_ok t ds x h
  zero := fun t ht => by
    have hm := mem_of (l := knl) ht
    simp only [knl, List.mem_cons, List.not_mem_nil, or_false] at hm
    rcases hm with rfl | rfl
    · exact zr3
    · exact zr23
  eqk := fun t h => by
    have hm := mem_of (l := eql) h
    simp only [eql, List.mem_cons, List.not_mem_nil, or_false] at hm
    rcases hm with rfl
    · exact eqk23
  flat := fun t hf hk x d hd => by
    have hm := mem_of (l := knl) hk
    simp only [knl, List.mem_cons, List.not_mem_nil, or_false] at hm
    rcases hm with rfl | rfl
    · have hd : d ∈ enc3 x := hd
      simp only [enc3, List.mem_cons, List.not_mem_nil, or_false] at hd
      rcases hd with rfl <;> rfl
    · have hd : d ∈ enc23 x := hd
      simp only [enc23, List.mem_cons, List.not_mem_nil, or_false] at hd
      rcases hd with rfl | rfl | rfl | rfl | rfl | rfl <;> rfl
  cf := h
theorem dr (t : Tab T) (h : CfOk (cfg t)) : DrawOk (cfg t) := drawOk_ok (fine t h) fl
def io0 : Io T ((List UInt8) × (List UInt8) × Int × Bool × Int × Int) where
  enc v := ([.agg [.d (.s v.1), .d (.s v.2.1), .d (.i .i64 v.2.2.1), .d (.b v.2.2.2.1), .d (.i .i64 v.2.2.2.2.1), .d (.i .i64 v.2.2.2.2.2)]], [])
  pat
    | ([.agg [.d (.s p1), .d (.s p2), .d (.i .i64 p3), .d (.b p4), .d (.i .i64 p5), .d (.i .i64 p6)]], []) => some (p1, p2, p3, p4, p5, p6)
    | _ => none
  ok z v h := by
    split at h
    · cases h
      all_goals rfl
    · cases h
def io1 : Io T (Int) where
  enc v := ([.d (.i .i64 v)], [])
  pat
    | ([.d (.i .i64 p1)], []) => some p1
    | _ => none
  ok z v h := by
    split at h
    · cases h
      all_goals rfl
    · cases h
def io2 : Io T (Bool) where
  enc v := ([.d (.b v)], [])
  pat
    | ([.d (.b p1)], []) => some p1
    | _ => none
  ok z v h := by
    split at h
    · cases h
      all_goals rfl
    · cases h
def io3 : Io T (Int × Int) where
  enc v := ([.d (.i .i64 v.1), .d (.i .i64 v.2)], [])
  pat
    | ([.d (.i .i64 p1), .d (.i .i64 p2)], []) => some (p1, p2)
    | _ => none
  ok z v h := by
    split at h
    · cases h
      all_goals rfl
    · cases h
def io4 : Io T (List Int) where
  enc v := ([.d (.l 3 v)], [])
  pat
    | ([.d (.l tp1 p1)], []) => (asT 3 tp1 p1).bind fun q1 => some q1
    | _ => none
  ok z v h := by
    split at h
    · obtain ⟨q1, hp1, h⟩ := Option.bind_eq_some_iff.1 h
      cases h
      rw [asT_l hp1]
      all_goals rfl
    · cases h
def io5 : Io T (Int × (List Int) × Int × Int) where
  enc v := ([.d (.i .i64 v.1), .d (.l 3 v.2.1), .d (.i .i64 v.2.2.1), .d (.i .i64 v.2.2.2)], [])
  pat
    | ([.d (.i .i64 p1), .d (.l tp2 p2), .d (.i .i64 p3), .d (.i .i64 p4)], []) => (asT 3 tp2 p2).bind fun q2 => some (p1, q2, p3, p4)
    | _ => none
  ok z v h := by
    split at h
    · obtain ⟨q2, hp2, h⟩ := Option.bind_eq_some_iff.1 h
      cases h
      rw [asT_l hp2]
      all_goals rfl
    · cases h
def io6 : Io T ((List UInt8) × (List UInt8) × Int × Bool × Int × Int × (List UInt8) × (List UInt8) × Int × Bool × Int × Int) where
  enc v := ([.agg [.d (.s v.1), .d (.s v.2.1), .d (.i .i64 v.2.2.1), .d (.b v.2.2.2.1), .d (.i .i64 v.2.2.2.2.1), .d (.i .i64 v.2.2.2.2.2.1)], .agg [.d (.s v.2.2.2.2.2.2.1), .d (.s v.2.2.2.2.2.2.2.1), .d (.i .i64 v.2.2.2.2.2.2.2.2.1), .d (.b v.2.2.2.2.2.2.2.2.2.1), .d (.i .i64 v.2.2.2.2.2.2.2.2.2.2.1), .d (.i .i64 v.2.2.2.2.2.2.2.2.2.2.2)]], [])
  pat
    | ([.agg [.d (.s p1), .d (.s p2), .d (.i .i64 p3), .d (.b p4), .d (.i .i64 p5), .d (.i .i64 p6)], .agg [.d (.s p7), .d (.s p8), .d (.i .i64 p9), .d (.b p10), .d (.i .i64 p11), .d (.i .i64 p12)]], []) => some (p1, p2, p3, p4, p5, p6, p7, p8, p9, p10, p11, p12)
    | _ => none
  ok z v h := by
    split at h
    · cases h
      all_goals rfl
    · cases h
def io7 : Io T (Unit) where
  enc v := ([], [])
  pat
    | ([], []) => some ()
    | _ => none
  ok z v h := by
    split at h <;> cases h; rfl
def io8 : Io T (List S23) where
  enc v := ([.d (.l 23 v)], [])
  pat
    | ([.d (.l tp1 p1)], []) => (asT 23 tp1 p1).bind fun q1 => some q1
    | _ => none
  ok z v h := by
    split at h
    · obtain ⟨q1, hp1, h⟩ := Option.bind_eq_some_iff.1 h
      cases h
      rw [asT_l hp1]
      all_goals rfl
    · cases h
def io9 : Io T (List S23) where
  enc v := ([.sl 0 none], [.arr 23 v])
  pat
    | ([.sl 0 none], [.arr tp1 p1]) => (asT 23 tp1 p1).bind fun q1 => some q1
    | _ => none
  ok z v h := by
    split at h
    · obtain ⟨q1, hp1, h⟩ := Option.bind_eq_some_iff.1 h
      cases h
      rw [asT_a hp1]
      all_goals rfl
    · cases h
def io10 : Io T ((List S23) × Int × Int × (List (List UInt8 × Int)) × (List S23)) where
  enc v := ([.mp 0, .sl 1 none, .d (.l 23 v.1), .d (.i .i64 v.2.1), .d (.i .i64 v.2.2.1)], [.mp none 3 v.2.2.2.1, .arr 23 v.2.2.2.2])
  pat
    | ([.mp 0, .sl 1 none, .d (.l tp1 p1), .d (.i .i64 p2), .d (.i .i64 p3)], [.mp kp4 tp4 p4, .arr tp5 p5]) => (asT 23 tp1 p1).bind fun q1 => (asM (none) 3 kp4 tp4 p4).bind fun q4 => (asT 23 tp5 p5).bind fun q5 => some (q1, p2, p3, q4, q5)
    | _ => none
  ok z v h := by
    split at h
    · obtain ⟨q1, hp1, h⟩ := Option.bind_eq_some_iff.1 h
      obtain ⟨q4, hp4, h⟩ := Option.bind_eq_some_iff.1 h
      obtain ⟨q5, hp5, h⟩ := Option.bind_eq_some_iff.1 h
      cases h
      rw [asT_l hp1]
      rw [asM_a hp4]
      rw [asT_a hp5]
      all_goals rfl
    · cases h
def io11 : Io T (Unit) where
  enc v := ([.d .ns], [])
  pat
    | ([.d .ns], []) => some ()
    | _ => none
  ok z v h := by
    split at h
    · cases h
      all_goals rfl
    · cases h
def io12 : Io T (Int × Int × (List (List UInt8 × Int))) where
  enc v := ([.mp 0, .d .ns, .d .ns, .d (.i .i64 v.1), .d (.i .i64 v.2.1)], [.mp none 3 v.2.2])
  pat
    | ([.mp 0, .d .ns, .d .ns, .d (.i .i64 p1), .d (.i .i64 p2)], [.mp kp3 tp3 p3]) => (asM (none) 3 kp3 tp3 p3).bind fun q3 => some (p1, p2, q3)
    | _ => none
  ok z v h := by
    split at h
    · obtain ⟨q3, hp3, h⟩ := Option.bind_eq_some_iff.1 h
      cases h
      rw [asM_a hp3]
      all_goals rfl
    · cases h
def io13 : Io T ((List S23) × Bool × Int × Int × (List S23)) where
  enc v := ([.d (.l 23 v.1), .d (.b v.2.1), .sl 0 none, .d (.i .i64 v.2.2.1), .d (.i .i64 v.2.2.2.1)], [.arr 23 v.2.2.2.2])
  pat
    | ([.d (.l tp1 p1), .d (.b p2), .sl 0 none, .d (.i .i64 p3), .d (.i .i64 p4)], [.arr tp5 p5]) => (asT 23 tp1 p1).bind fun q1 => (asT 23 tp5 p5).bind fun q5 => some (q1, p2, p3, p4, q5)
    | _ => none
  ok z v h := by
    split at h
    · obtain ⟨q1, hp1, h⟩ := Option.bind_eq_some_iff.1 h
      obtain ⟨q5, hp5, h⟩ := Option.bind_eq_some_iff.1 h
      cases h
      rw [asT_l hp1]
      rw [asT_a hp5]
      all_goals rfl
    · cases h
def io14 : Io T ((List S23) × Bool × Int × (List S23)) where
  enc v := ([.d (.l 23 v.1), .d (.b v.2.1), .sl 0 none, .d (.i .i64 v.2.2.1)], [.arr 23 v.2.2.2])
  pat
    | ([.d (.l tp1 p1), .d (.b p2), .sl 0 none, .d (.i .i64 p3)], [.arr tp4 p4]) => (asT 23 tp1 p1).bind fun q1 => (asT 23 tp4 p4).bind fun q4 => some (q1, p2, p3, q4)
    | _ => none
  ok z v h := by
    split at h
    · obtain ⟨q1, hp1, h⟩ := Option.bind_eq_some_iff.1 h
      obtain ⟨q4, hp4, h⟩ := Option.bind_eq_some_iff.1 h
      cases h
      rw [asT_l hp1]
      rw [asT_a hp4]
      all_goals rfl
    · cases h
def io15 : Io T ((List S23) × Bool × (List S23)) where
  enc v := ([.d (.l 23 v.1), .d (.b v.2.1), .sl 0 none], [.arr 23 v.2.2])
  pat
    | ([.d (.l tp1 p1), .d (.b p2), .sl 0 none], [.arr tp3 p3]) => (asT 23 tp1 p1).bind fun q1 => (asT 23 tp3 p3).bind fun q3 => some (q1, p2, q3)
    | _ => none
  ok z v h := by
    split at h
    · obtain ⟨q1, hp1, h⟩ := Option.bind_eq_some_iff.1 h
      obtain ⟨q3, hp3, h⟩ := Option.bind_eq_some_iff.1 h
      cases h
      rw [asT_l hp1]
      rw [asT_a hp3]
      all_goals rfl
    · cases h
def io16 : Io T (Bool × Int × Bool × Int × (List S23) × (List S23)) where
  enc v := ([.d (.b v.1), .sl 0 none, .sl 1 none, .d (.i .i64 v.2.1), .d (.b v.2.2.1), .d (.i .i64 v.2.2.2.1)], [.arr 23 v.2.2.2.2.1, .arr 23 v.2.2.2.2.2])
  pat
    | ([.d (.b p1), .sl 0 none, .sl 1 none, .d (.i .i64 p2), .d (.b p3), .d (.i .i64 p4)], [.arr tp5 p5, .arr tp6 p6]) => (asT 23 tp5 p5).bind fun q5 => (asT 23 tp6 p6).bind fun q6 => some (p1, p2, p3, p4, q5, q6)
    | _ => none
  ok z v h := by
    split at h
    · obtain ⟨q5, hp5, h⟩ := Option.bind_eq_some_iff.1 h
      obtain ⟨q6, hp6, h⟩ := Option.bind_eq_some_iff.1 h
      cases h
      rw [asT_a hp5]
      rw [asT_a hp6]
      all_goals rfl
    · cases h
def io17 : Io T (Bool × Int × Bool × (List S23) × (List S23)) where
  enc v := ([.d (.b v.1), .sl 0 none, .sl 1 none, .d (.i .i64 v.2.1), .d (.b v.2.2.1)], [.arr 23 v.2.2.2.1, .arr 23 v.2.2.2.2])
  pat
    | ([.d (.b p1), .sl 0 none, .sl 1 none, .d (.i .i64 p2), .d (.b p3)], [.arr tp4 p4, .arr tp5 p5]) => (asT 23 tp4 p4).bind fun q4 => (asT 23 tp5 p5).bind fun q5 => some (p1, p2, p3, q4, q5)
    | _ => none
  ok z v h := by
    split at h
    · obtain ⟨q4, hp4, h⟩ := Option.bind_eq_some_iff.1 h
      obtain ⟨q5, hp5, h⟩ := Option.bind_eq_some_iff.1 h
      cases h
      rw [asT_a hp4]
      rw [asT_a hp5]
      all_goals rfl
    · cases h
def io18 : Io T (Bool × Int × (List S23) × (List S23)) where
  enc v := ([.d (.b v.1), .sl 0 none, .sl 1 none, .d (.i .i64 v.2.1)], [.arr 23 v.2.2.1, .arr 23 v.2.2.2])
  pat
    | ([.d (.b p1), .sl 0 none, .sl 1 none, .d (.i .i64 p2)], [.arr tp3 p3, .arr tp4 p4]) => (asT 23 tp3 p3).bind fun q3 => (asT 23 tp4 p4).bind fun q4 => some (p1, p2, q3, q4)
    | _ => none
  ok z v h := by
    split at h
    · obtain ⟨q3, hp3, h⟩ := Option.bind_eq_some_iff.1 h
      obtain ⟨q4, hp4, h⟩ := Option.bind_eq_some_iff.1 h
      cases h
      rw [asT_a hp3]
      rw [asT_a hp4]
      all_goals rfl
    · cases h
def io19 : Io T (Bool × (List S23) × (List S23)) where
  enc v := ([.d (.b v.1), .sl 0 none, .sl 1 none], [.arr 23 v.2.1, .arr 23 v.2.2])
  pat
    | ([.d (.b p1), .sl 0 none, .sl 1 none], [.arr tp2 p2, .arr tp3 p3]) => (asT 23 tp2 p2).bind fun q2 => (asT 23 tp3 p3).bind fun q3 => some (p1, q2, q3)
    | _ => none
  ok z v h := by
    split at h
    · obtain ⟨q2, hp2, h⟩ := Option.bind_eq_some_iff.1 h
      obtain ⟨q3, hp3, h⟩ := Option.bind_eq_some_iff.1 h
      cases h
      rw [asT_a hp2]
      rw [asT_a hp3]
      all_goals rfl
    · cases h
def io20 : Io T ((List S23) × Bool × Int × Int × Int × (List S23)) where
  enc v := ([.d (.l 23 v.1), .d (.b v.2.1), .sl 0 none, .d (.i .i64 v.2.2.1), .d (.i .i64 v.2.2.2.1), .d (.i .i64 v.2.2.2.2.1)], [.arr 23 v.2.2.2.2.2])
  pat
    | ([.d (.l tp1 p1), .d (.b p2), .sl 0 none, .d (.i .i64 p3), .d (.i .i64 p4), .d (.i .i64 p5)], [.arr tp6 p6]) => (asT 23 tp1 p1).bind fun q1 => (asT 23 tp6 p6).bind fun q6 => some (q1, p2, p3, p4, p5, q6)
    | _ => none
  ok z v h := by
    split at h
    · obtain ⟨q1, hp1, h⟩ := Option.bind_eq_some_iff.1 h
      obtain ⟨q6, hp6, h⟩ := Option.bind_eq_some_iff.1 h
      cases h
      rw [asT_l hp1]
      rw [asT_a hp6]
      all_goals rfl
    · cases h
def tab0 (k : Nat) : Tab T := noTab
def cascade_rank (k : Nat) (a1 : List UInt8) (a2 : List UInt8) (a3 : Int) (a4 : Bool) (a5 : Int) (a6 : Int) : Option (Int) :=
cond (!a4) (
some a3) (
cond (a3 == (1 : Int)) (
some (3 : Int)) (
cond (a3 == (2 : Int)) (
some (4 : Int)) (
some (5 : Int))))
def cascade_rank.kr (k : Nat) : St T → Option (Int) := (retK (cfg (tab0 k)) Try.f34.results.toList 0 [] io1.pat)
def cascade_rank.cuts (k : Nat) : Cuts T (Int) := fun n => none
def cascade_rank.body : Code := bodyOf Try.f34
theorem cascade_rank.e (k : Nat) : ∀ v, (fun v => cascade_rank k v.1 v.2.1 v.2.2.1 v.2.2.2.1 v.2.2.2.2.1 v.2.2.2.2.2) v = runK (cfg (tab0 k)) Try.f34.ntmps (cascade_rank.kr k) (annot (cascade_rank.cuts k) cascade_rank.body) (entry (io0.enc v).1 (io0.enc v).2) (endK (cascade_rank.kr k)) := by
  intro v; kernel_rfl
theorem cascade_rank.hb : Try.f34.body = some cascade_rank.body := by kernel_rfl
def tab1 (k : Nat) : Tab T := addTab 34 (line io0 io1 (0 : Int) (fun v => cascade_rank k v.1 v.2.1 v.2.2.1 v.2.2.2.1 v.2.2.2.2.1 v.2.2.2.2.2)) (tab0 k)
def cmp_isNaN_int_ (k : Nat) (a1 : Int) : Option (Bool) :=
some (a1 != a1)
def cmp_isNaN_int_.kr (k : Nat) : St T → Option (Bool) := (retK (cfg (tab1 k)) Try.f37.results.toList 0 [] io2.pat)
def cmp_isNaN_int_.cuts (k : Nat) : Cuts T (Bool) := fun n => none
def cmp_isNaN_int_.body : Code := bodyOf Try.f37
theorem cmp_isNaN_int_.e (k : Nat) : ∀ v, (fun v => cmp_isNaN_int_ k v) v = runK (cfg (tab1 k)) Try.f37.ntmps (cmp_isNaN_int_.kr k) (annot (cmp_isNaN_int_.cuts k) cmp_isNaN_int_.body) (entry (io1.enc v).1 (io1.enc v).2) (endK (cmp_isNaN_int_.kr k)) := by
  intro v; kernel_rfl
theorem cmp_isNaN_int_.hb : Try.f37.body = some cmp_isNaN_int_.body := by kernel_rfl
def tab2 (k : Nat) : Tab T := addTab 37 (line io1 io2 false (fun v => cmp_isNaN_int_ k v)) (tab1 k)
def cmp_Compare_int_ (k : Nat) (a1 : Int) (a2 : Int) : Option (Int) :=
(cmp_isNaN_int_ k a1).bind fun r3 =>
(cmp_isNaN_int_ k a2).bind fun r4 =>
cond r3 (
cond r4 (
some (0 : Int)) (
some (-1 : Int))) (
cond r4 (
some (1 : Int)) (
cond (decide (a1 < a2)) (
some (-1 : Int)) (
cond (decide (a1 > a2)) (
some (1 : Int)) (
some (0 : Int)))))
def cmp_Compare_int_.kr (k : Nat) : St T → Option (Int) := (retK (cfg (tab2 k)) Try.f33.results.toList 0 [] io1.pat)
def cmp_Compare_int_.cuts (k : Nat) : Cuts T (Int) := fun n => none
def cmp_Compare_int_.body : Code := bodyOf Try.f33
theorem cmp_Compare_int_.e (k : Nat) : ∀ v, (fun v => cmp_Compare_int_ k v.1 v.2) v = runK (cfg (tab2 k)) Try.f33.ntmps (cmp_Compare_int_.kr k) (annot (cmp_Compare_int_.cuts k) cmp_Compare_int_.body) (entry (io3.enc v).1 (io3.enc v).2) (endK (cmp_Compare_int_.kr k)) := by
  intro v; kernel_rfl
theorem cmp_Compare_int_.hb : Try.f33.body = some cmp_Compare_int_.body := by kernel_rfl
def tab3 (k : Nat) : Tab T := addTab 33 (line io3 io1 (0 : Int) (fun v => cmp_Compare_int_ k v.1 v.2)) (tab2 k)
def cmp_Or_int_.c7 (k : Nat) : Nat → Int → (List Int) → Int → Int → (Int → Option (Int)) → Option (Int)
  | 0, _, _, _, _, _ => none
  | n + 1, x2, x3, x4, x5, k0 =>
    cond (decide (x5 < x4)) (
    cond (decide (0 ≤ x5 ∧ x5 < (x3.length : Int))) (
    let v6 : Bool := ((x3.getD x5.toNat (0 : Int)) != x2)
    cond v6 (
    some (x3.getD x5.toNat (0 : Int))) (
    let v7 : Int := (IntKind.wrap .i64 (x5 + (1 : Int)))
    cmp_Or_int_.c7 k n x2 x3 x4 v7 k0)) none) (
    k0 x2)
def cmp_Or_int_ (k : Nat) (a1 : List Int) : Option (Int) :=
cmp_Or_int_.c7 k k (0 : Int) a1 (a1.length : Int) (0 : Int) (fun (y8 : Int) =>
some y8)
def cmp_Or_int_.kr (k : Nat) : St T → Option (Int) := (retK (cfg (tab3 k)) Try.f32.results.toList 0 [] io1.pat)
def cmp_Or_int_.x7 : Ex → Option (List Nat × List Sp)
  | .exit 0 => some ([3], [])
  | _ => none
def cmp_Or_int_.L7 (k : Nat) (n : Nat) (v : Int × (List Int) × Int × Int) (K : Ex → St T → Option (Int)) : Option (Int) := cmp_Or_int_.c7 k n v.1 v.2.1 v.2.2.1 v.2.2.2 (fun y45 => K (.exit 0) (mkSt [3] (io1.enc y45)))
def cmp_Or_int_.cuts (k : Nat) : Cuts T (Int) := fun n => bif n.beq 7 then some (entK (cfg (tab3 k)) 0 [3, 6, 7, 8] [] io5.pat (cmp_Or_int_.L7 k k)) else none
def cmp_Or_int_.body : Code := bodyOf Try.f32
def cmp_Or_int_.b7 : Code := findD 7 cmp_Or_int_.body
theorem cmp_Or_int_.s7 (k : Nat) : ∀ n v K, cmp_Or_int_.L7 k (n + 1) v K = runK (cfg (tab3 k)) Try.f32.ntmps (cmp_Or_int_.kr k) (annot (cmp_Or_int_.cuts k) cmp_Or_int_.b7) (mkSt [3, 6, 7, 8] (io5.enc v)) (loopK (cfg (tab3 k)) 0 cmp_Or_int_.x7 (entK (cfg (tab3 k)) 0 [3, 6, 7, 8] [] io5.pat (cmp_Or_int_.L7 k n)) K) := by
  intro n v K; kernel_rfl
theorem cmp_Or_int_.e (k : Nat) : ∀ v, (fun v => cmp_Or_int_ k v) v = runK (cfg (tab3 k)) Try.f32.ntmps (cmp_Or_int_.kr k) (annot (cmp_Or_int_.cuts k) cmp_Or_int_.body) (entry (io4.enc v).1 (io4.enc v).2) (endK (cmp_Or_int_.kr k)) := by
  intro v; kernel_rfl
theorem cmp_Or_int_.hb : Try.f32.body = some cmp_Or_int_.body := by kernel_rfl
def tab4 (k : Nat) : Tab T := addTab 32 (line io4 io1 (0 : Int) (fun v => cmp_Or_int_ k v)) (tab3 k)
def cascade_compare (k : Nat) (a1 : List UInt8) (a2 : List UInt8) (a3 : Int) (a4 : Bool) (a5 : Int) (a6 : Int) (a7 : List UInt8) (a8 : List UInt8) (a9 : Int) (a10 : Bool) (a11 : Int) (a12 : Int) : Option (Int) :=
(cascade_rank k a1 a2 a3 a4 a5 a6).bind fun r13 =>
(cascade_rank k a7 a8 a9 a10 a11 a12).bind fun r14 =>
(cmp_Compare_int_ k r13 r14).bind fun r15 =>
(cmp_Compare_int_ k a5 a11).bind fun r16 =>
(cmp_Compare_int_ k a6 a12).bind fun r17 =>
(cmp_Or_int_ k ([r15, r16, r17])).bind fun r18 =>
some r18
def cascade_compare.kr (k : Nat) : St T → Option (Int) := (retK (cfg (tab4 k)) Try.f23.results.toList 0 [] io1.pat)
def cascade_compare.cuts (k : Nat) : Cuts T (Int) := fun n => none
def cascade_compare.body : Code := bodyOf Try.f23
theorem cascade_compare.e (k : Nat) : ∀ v, (fun v => cascade_compare k v.1 v.2.1 v.2.2.1 v.2.2.2.1 v.2.2.2.2.1 v.2.2.2.2.2.1 v.2.2.2.2.2.2.1 v.2.2.2.2.2.2.2.1 v.2.2.2.2.2.2.2.2.1 v.2.2.2.2.2.2.2.2.2.1 v.2.2.2.2.2.2.2.2.2.2.1 v.2.2.2.2.2.2.2.2.2.2.2) v = runK (cfg (tab4 k)) Try.f23.ntmps (cascade_compare.kr k) (annot (cascade_compare.cuts k) cascade_compare.body) (entry (io6.enc v).1 (io6.enc v).2) (endK (cascade_compare.kr k)) := by
  intro v; kernel_rfl
theorem cascade_compare.hb : Try.f23.body = some cascade_compare.body := by kernel_rfl
def tab5 (k : Nat) : Tab T := addTab 23 (line io6 io1 (0 : Int) (fun v => cascade_compare k v.1 v.2.1 v.2.2.1 v.2.2.2.1 v.2.2.2.2.1 v.2.2.2.2.2.1 v.2.2.2.2.2.2.1 v.2.2.2.2.2.2.2.1 v.2.2.2.2.2.2.2.2.1 v.2.2.2.2.2.2.2.2.2.1 v.2.2.2.2.2.2.2.2.2.2.1 v.2.2.2.2.2.2.2.2.2.2.2)) (tab4 k)
def cascade_Less (k : Nat) (a1 : List UInt8) (a2 : List UInt8) (a3 : Int) (a4 : Bool) (a5 : Int) (a6 : Int) (a7 : List UInt8) (a8 : List UInt8) (a9 : Int) (a10 : Bool) (a11 : Int) (a12 : Int) : Option (Bool) :=
(cascade_compare k a1 a2 a3 a4 a5 a6 a7 a8 a9 a10 a11 a12).bind fun r13 =>
some (decide (r13 < (0 : Int)))
def cascade_Less.kr (k : Nat) : St T → Option (Bool) := (retK (cfg (tab5 k)) Try.f13.results.toList 0 [] io2.pat)
def cascade_Less.cuts (k : Nat) : Cuts T (Bool) := fun n => none
def cascade_Less.body : Code := bodyOf Try.f13
theorem cascade_Less.e (k : Nat) : ∀ v, (fun v => cascade_Less k v.1 v.2.1 v.2.2.1 v.2.2.2.1 v.2.2.2.2.1 v.2.2.2.2.2.1 v.2.2.2.2.2.2.1 v.2.2.2.2.2.2.2.1 v.2.2.2.2.2.2.2.2.1 v.2.2.2.2.2.2.2.2.2.1 v.2.2.2.2.2.2.2.2.2.2.1 v.2.2.2.2.2.2.2.2.2.2.2) v = runK (cfg (tab5 k)) Try.f13.ntmps (cascade_Less.kr k) (annot (cascade_Less.cuts k) cascade_Less.body) (entry (io6.enc v).1 (io6.enc v).2) (endK (cascade_Less.kr k)) := by
  intro v; kernel_rfl
theorem cascade_Less.hb : Try.f13.body = some cascade_Less.body := by kernel_rfl
def tab6 (k : Nat) : Tab T := addTab 13 (line io6 io2 false (fun v => cascade_Less k v.1 v.2.1 v.2.2.1 v.2.2.2.1 v.2.2.2.2.1 v.2.2.2.2.2.1 v.2.2.2.2.2.2.1 v.2.2.2.2.2.2.2.1 v.2.2.2.2.2.2.2.2.1 v.2.2.2.2.2.2.2.2.2.1 v.2.2.2.2.2.2.2.2.2.2.1 v.2.2.2.2.2.2.2.2.2.2.2)) (tab5 k)
def clerestorykeep2_own (k : Nat)  : Option (Bool) :=
(cascade_Less k ([]) ([]) (1 : Int) false (0 : Int) (0 : Int) ([]) ([]) (2 : Int) false (0 : Int) (0 : Int)).bind fun r1 =>
(cond r1 (cascade_Less k ([]) ([]) (1 : Int) true (0 : Int) (0 : Int) ([]) ([]) (2 : Int) false (0 : Int) (0 : Int)) (some false)).bind fun r2 =>
some (cond r1 (!r2) false)
def clerestorykeep2_own.kr (k : Nat) : St T → Option (Bool) := (retK (cfg (tab6 k)) Try.f12.results.toList 0 [] io2.pat)
def clerestorykeep2_own.cuts (k : Nat) : Cuts T (Bool) := fun n => none
def clerestorykeep2_own.body : Code := bodyOf Try.f12
theorem clerestorykeep2_own.e (k : Nat) : ∀ v, (fun v => clerestorykeep2_own k ) v = runK (cfg (tab6 k)) Try.f12.ntmps (clerestorykeep2_own.kr k) (annot (clerestorykeep2_own.cuts k) clerestorykeep2_own.body) (entry (io7.enc v).1 (io7.enc v).2) (endK (clerestorykeep2_own.kr k)) := by
  intro v; kernel_rfl
theorem clerestorykeep2_own.hb : Try.f12.body = some clerestorykeep2_own.body := by kernel_rfl
def tab7 (k : Nat) : Tab T := addTab 12 (line io7 io2 false (fun v => clerestorykeep2_own k )) (tab6 k)
def cascade_Win.c9 (k : Nat) : Nat → (List S23) → Int → Int → (List (List UInt8 × Int)) → (List S23) → ((List S23) → Option (List S23)) → Option (List S23)
  | 0, _, _, _, _, _, _ => none
  | n + 1, x2, x3, x4, x5, x6, k0 =>
    cond (decide (x4 < x3)) (
    cond (decide (0 ≤ x4 ∧ x4 < (x2.length : Int))) (
    let v7 : Int := (x2.getD x4.toNat S23.d).Origin
    let v8 : Bool := (x2.getD x4.toNat S23.d).Important
    let v9 : Int := (x2.getD x4.toNat S23.d).Weight
    let v10 : Int := ((mget none ((x2.getD x4.toNat S23.d).Name) x5).getD (0 : Int))
    let v11 : Bool := (mget none ((x2.getD x4.toNat S23.d).Name) x5).isSome
    cond (!v11) (
    let v12 : List S23 := [(⟨(x2.getD x4.toNat S23.d).Name, (x2.getD x4.toNat S23.d).Value, v7, v8, v9, (x2.getD x4.toNat S23.d).Place⟩ : S23)]
    cond (decide ((x6 ++ v12).length < most)) (
    let v13 : Int := (IntKind.wrap .i64 (x4 + (1 : Int)))
    cascade_Win.c9 k n x2 x3 v13 (mput none ((x2.getD x4.toNat S23.d).Name) (x6.length : Int) x5) (x6 ++ v12) k0) none) (
    cond (decide (0 ≤ v10 ∧ v10 < (x6.length : Int))) (
    let v14 : List UInt8 := (x6.getD v10.toNat S23.d).Value
    let v15 : Int := (x6.getD v10.toNat S23.d).Origin
    let v16 : Bool := (x6.getD v10.toNat S23.d).Important
    let v17 : Int := (x6.getD v10.toNat S23.d).Weight
    let v18 : Int := (x6.getD v10.toNat S23.d).Place
    (cascade_compare k ((x2.getD x4.toNat S23.d).Name) ((x2.getD x4.toNat S23.d).Value) v7 v8 v9 ((x2.getD x4.toNat S23.d).Place) ((x6.getD v10.toNat S23.d).Name) v14 v15 v16 v17 v18).bind fun r19 =>
    cond (decide (r19 ≥ (0 : Int))) (
    cond (decide (0 ≤ v10 ∧ v10 < (x6.length : Int))) (
    let v20 : List S23 := (x6.set v10.toNat (⟨(x2.getD x4.toNat S23.d).Name, (x2.getD x4.toNat S23.d).Value, v7, v8, v9, (x2.getD x4.toNat S23.d).Place⟩ : S23))
    let v21 : Int := (IntKind.wrap .i64 (x4 + (1 : Int)))
    cascade_Win.c9 k n x2 x3 v21 x5 v20 k0) none) (
    let v22 : Int := (IntKind.wrap .i64 (x4 + (1 : Int)))
    cascade_Win.c9 k n x2 x3 v22 x5 x6 k0)) none)) none) (
    k0 x6)
def cascade_Win (k : Nat) (a1 : List S23) : Option (List S23) :=
cascade_Win.c9 k k a1 (a1.length : Int) (0 : Int) ([] : List (List UInt8 × Int)) ([] : List S23) (fun (y23 : List S23) =>
some y23)
def cascade_Win.kr (k : Nat) : St T → Option (List S23) := (retK (cfg (tab7 k)) Try.f16.results.toList 0 [.own 0 23] io9.pat)
def cascade_Win.x9 : Ex → Option (List Nat × List Sp)
  | .exit 0 => some ([4], [.own 4 23])
  | _ => none
def cascade_Win.L9 (k : Nat) (n : Nat) (v : (List S23) × Int × Int × (List (List UInt8 × Int)) × (List S23)) (K : Ex → St T → Option (List S23)) : Option (List S23) := cascade_Win.c9 k n v.1 v.2.1 v.2.2.1 v.2.2.2.1 v.2.2.2.2 (fun y46 => K (.exit 0) (mkSt [4] (io9.enc y46)))
def cascade_Win.cuts (k : Nat) : Cuts T (List S23) := fun n => bif n.beq 9 then some (entK (cfg (tab7 k)) 0 [3, 4, 10, 11, 12] [.own 4 23] io10.pat (cascade_Win.L9 k k)) else none
def cascade_Win.body : Code := bodyOf Try.f16
def cascade_Win.b9 : Code := findD 9 cascade_Win.body
theorem cascade_Win.s9 (k : Nat) : ∀ n v K, cascade_Win.L9 k (n + 1) v K = runK (cfg (tab7 k)) Try.f16.ntmps (cascade_Win.kr k) (annot (cascade_Win.cuts k) cascade_Win.b9) (mkSt [3, 4, 10, 11, 12] (io10.enc v)) (loopK (cfg (tab7 k)) 0 cascade_Win.x9 (entK (cfg (tab7 k)) 0 [3, 4, 10, 11, 12] [.own 4 23] io10.pat (cascade_Win.L9 k n)) K) := by
  intro n v K; kernel_rfl
theorem cascade_Win.e (k : Nat) : ∀ v, (fun v => cascade_Win k v) v = runK (cfg (tab7 k)) Try.f16.ntmps (cascade_Win.kr k) (annot (cascade_Win.cuts k) cascade_Win.body) (entry (io8.enc v).1 (io8.enc v).2) (endK (cascade_Win.kr k)) := by
  intro v; kernel_rfl
theorem cascade_Win.hb : Try.f16.body = some cascade_Win.body := by kernel_rfl
def tab8 (k : Nat) : Tab T := addTab 16 (line io8 io9 [] (fun v => cascade_Win k v)) (tab7 k)
def cascade_Win_v2.c9 (k : Nat) : Nat → Int → Int → (List (List UInt8 × Int)) → (Option (Unit)) → Option (Unit)
  | 0, _, _, _, _ => none
  | n + 1, x1, x2, x3, k0 =>
    cond (decide (x2 < x1)) (
    none) (
    k0)
def cascade_Win_v2 (k : Nat)  : Option (Unit) :=
cascade_Win_v2.c9 k k ((0 : Nat) : Int) (0 : Int) ([] : List (List UInt8 × Int)) (
some ())
def cascade_Win_v2.kr (k : Nat) : St T → Option (Unit) := (retK (cfg (tab8 k)) Try.f16.results.toList 0 [] io11.pat)
def cascade_Win_v2.x9 : Ex → Option (List Nat × List Sp)
  | .exit 0 => some ([4], [])
  | _ => none
def cascade_Win_v2.L9 (k : Nat) (n : Nat) (v : Int × Int × (List (List UInt8 × Int))) (K : Ex → St T → Option (Unit)) : Option (Unit) := cascade_Win_v2.c9 k n v.1 v.2.1 v.2.2 ( K (.exit 0) (mkSt [4] (io11.enc ())))
def cascade_Win_v2.cuts (k : Nat) : Cuts T (Unit) := fun n => bif n.beq 9 then some (entK (cfg (tab8 k)) 0 [3, 4, 10, 11, 12] [] io12.pat (cascade_Win_v2.L9 k k)) else none
def cascade_Win_v2.body : Code := bodyOf Try.f16
def cascade_Win_v2.b9 : Code := findD 9 cascade_Win_v2.body
theorem cascade_Win_v2.s9 (k : Nat) : ∀ n v K, cascade_Win_v2.L9 k (n + 1) v K = runK (cfg (tab8 k)) Try.f16.ntmps (cascade_Win_v2.kr k) (annot (cascade_Win_v2.cuts k) cascade_Win_v2.b9) (mkSt [3, 4, 10, 11, 12] (io12.enc v)) (loopK (cfg (tab8 k)) 0 cascade_Win_v2.x9 (entK (cfg (tab8 k)) 0 [3, 4, 10, 11, 12] [] io12.pat (cascade_Win_v2.L9 k n)) K) := by
  intro n v K; kernel_rfl
theorem cascade_Win_v2.e (k : Nat) : ∀ v, (fun v => cascade_Win_v2 k ) v = runK (cfg (tab8 k)) Try.f16.ntmps (cascade_Win_v2.kr k) (annot (cascade_Win_v2.cuts k) cascade_Win_v2.body) (entry (io11.enc v).1 (io11.enc v).2) (endK (cascade_Win_v2.kr k)) := by
  intro v; kernel_rfl
theorem cascade_Win_v2.hb : Try.f16.body = some cascade_Win_v2.body := by kernel_rfl
def tab9 (k : Nat) : Tab T := addTab 16 (line io11 io11 () (fun v => cascade_Win_v2 k )) (tab8 k)
def clerestorykeep2_CascadeTurned.c17 (k : Nat) : Nat → (List S23) → Bool → Int → Int → (List S23) → ((List S23) → Bool → Int → (List S23) → Option (Bool)) → Option (Bool)
  | 0, _, _, _, _, _, _ => none
  | n + 1, x10, x11, x12, x13, x14, k2 =>
    cond (decide (x13 < x12)) (
    cond (decide (0 ≤ x13 ∧ x13 < (x10.length : Int))) (
    let v15 : Int := (x10.getD x13.toNat S23.d).Place
    cond (decide (0 ≤ x12 ∧ x12 < (x10.length : Int))) (
    let v16 : Int := (x10.getD x12.toNat S23.d).Place
    cond (v15 == v16) (
    some x11) (
    let v17 : Int := (IntKind.wrap .i64 (x13 + (1 : Int)))
    clerestorykeep2_CascadeTurned.c17 k n x10 x11 x12 v17 x14 k2)) none) none) (
    k2 x10 x11 x12 x14)
def clerestorykeep2_CascadeTurned.c11 (k : Nat) : Nat → (List S23) → Bool → Int → (List S23) → ((List S23) → Bool → (List S23) → Option (Bool)) → Option (Bool)
  | 0, _, _, _, _, _ => none
  | n + 1, x6, x7, x8, x9, k0 =>
    cond (decide (x8 ≥ (0 : Int))) (
    clerestorykeep2_CascadeTurned.c17 k k x6 x7 x8 (0 : Int) x9 (fun (y18 : List S23) (y19 : Bool) (y20 : Int) (y21 : List S23) =>
    cond (decide (0 ≤ y20 ∧ y20 < (y18.length : Int))) (
    let v22 : List UInt8 := (y18.getD y20.toNat S23.d).Name
    let v23 : List UInt8 := (y18.getD y20.toNat S23.d).Value
    let v24 : Int := (y18.getD y20.toNat S23.d).Origin
    let v25 : Bool := (y18.getD y20.toNat S23.d).Important
    let v26 : Int := (y18.getD y20.toNat S23.d).Weight
    let v27 : Int := (y18.getD y20.toNat S23.d).Place
    let v28 : List S23 := [(⟨v22, v23, v24, v25, v26, v27⟩ : S23)]
    cond (decide ((y21 ++ v28).length < most)) (
    let v29 : Int := (IntKind.wrap .i64 (y20 - (1 : Int)))
    clerestorykeep2_CascadeTurned.c11 k n y18 y19 v29 (y21 ++ v28) k0) none) none)) (
    k0 x6 x7 x9)
def clerestorykeep2_CascadeTurned.c41 (k : Nat) : Nat → Bool → Int → Bool → Int → (List S23) → (List S23) → (Bool → Int → Bool → (List S23) → (List S23) → Option (Bool)) → Option (Bool)
  | 0, _, _, _, _, _, _, _ => none
  | n + 1, x40, x41, x42, x43, x44, x45, k6 =>
    let v46 : Bool := (decide (x43 < (x45.length : Int)))
    cond v46 (
    cond ((decide (0 ≤ x41 ∧ x41 < (x44.length : Int))) || !(!x42)) (
    let v47 : List UInt8 := (x44.getD x41.toNat S23.d).Name
    let v48 : List UInt8 := (x44.getD x41.toNat S23.d).Value
    let v49 : Int := (x44.getD x41.toNat S23.d).Origin
    let v50 : Bool := (x44.getD x41.toNat S23.d).Important
    let v51 : Int := (x44.getD x41.toNat S23.d).Weight
    let v52 : Int := (x44.getD x41.toNat S23.d).Place
    cond ((decide (0 ≤ x43 ∧ x43 < (x45.length : Int))) || !(!x42)) (
    let v53 : List UInt8 := (x45.getD x43.toNat S23.d).Name
    let v54 : List UInt8 := (x45.getD x43.toNat S23.d).Value
    let v55 : Int := (x45.getD x43.toNat S23.d).Origin
    let v56 : Bool := (x45.getD x43.toNat S23.d).Important
    let v57 : Int := (x45.getD x43.toNat S23.d).Weight
    let v58 : Int := (x45.getD x43.toNat S23.d).Place
    let v59 : Bool := ((v47 == v53) && ((v48 == v54) && ((v49 == v55) && ((v50 == v56) && ((v51 == v57) && ((v52 == v58) && true))))))
    let v60 : Int := (IntKind.wrap .i64 (x43 + (1 : Int)))
    clerestorykeep2_CascadeTurned.c41 k n x40 x41 (cond x42 true v59) v60 x44 x45 k6) none) none) (
    k6 x40 x41 x42 x44 x45)
def clerestorykeep2_CascadeTurned.c33 (k : Nat) : Nat → Bool → Int → (List S23) → (List S23) → (Bool → (List S23) → (List S23) → Option (Bool)) → Option (Bool)
  | 0, _, _, _, _, _ => none
  | n + 1, x35, x36, x37, x38, k4 =>
    let v39 : Bool := (decide (x36 < (x37.length : Int)))
    cond v39 (
    clerestorykeep2_CascadeTurned.c41 k k x35 x36 false (0 : Int) x37 x38 (fun (y61 : Bool) (y62 : Int) (y63 : Bool) (y64 : List S23) (y65 : List S23) =>
    cond (!y63) (
    some false) (
    let v66 : Int := (IntKind.wrap .i64 (y62 + (1 : Int)))
    clerestorykeep2_CascadeTurned.c33 k n y61 v66 y64 y65 k4))) (
    k4 x35 x37 x38)
def clerestorykeep2_CascadeTurned (k : Nat) (a1 : List S23) : Option (Bool) :=
(clerestorykeep2_own k).bind fun r2 =>
let v3 : Int := (if (20 : Int) < (a1.length : Int) then (20 : Int) else (a1.length : Int))
cond (decide (0 ≤ v3 ∧ v3 ≤ (a1.length : Int))) (
let v4 : Int := ((a1.take v3.toNat).length : Int)
let v5 : Int := (IntKind.wrap .i64 (v4 - (1 : Int)))
clerestorykeep2_CascadeTurned.c11 k k (a1.take v3.toNat) r2 v5 ([] : List S23) (fun (y30 : List S23) (y31 : Bool) (y32 : List S23) =>
(cascade_Win k y30).bind fun r33 =>
(cascade_Win k y32).bind fun r34 =>
clerestorykeep2_CascadeTurned.c33 k k y31 (0 : Int) r33 r34 (fun (y67 : Bool) (y68 : List S23) (y69 : List S23) =>
let v70 : Bool := ((y68.length : Int) == (y69.length : Int))
some (cond y67 v70 false)))) none
def clerestorykeep2_CascadeTurned.kr (k : Nat) : St T → Option (Bool) := (retK (cfg (tab9 k)) Try.f5.results.toList 0 [] io2.pat)
def clerestorykeep2_CascadeTurned.x17 : Ex → Option (List Nat × List Sp)
  | .exit 2 => some ([0, 3, 4, 5], [.own 4 23])
  | _ => none
def clerestorykeep2_CascadeTurned.L17 (k : Nat) (n : Nat) (v : (List S23) × Bool × Int × Int × (List S23)) (K : Ex → St T → Option (Bool)) : Option (Bool) := clerestorykeep2_CascadeTurned.c17 k n v.1 v.2.1 v.2.2.1 v.2.2.2.1 v.2.2.2.2 (fun y47 y48 y49 y50 => K (.exit 2) (mkSt [0, 3, 4, 5] (io14.enc (y47, y48, y49, y50))))
def clerestorykeep2_CascadeTurned.x11 : Ex → Option (List Nat × List Sp)
  | .exit 0 => some ([0, 3, 4], [.own 4 23])
  | _ => none
def clerestorykeep2_CascadeTurned.L11 (k : Nat) (n : Nat) (v : (List S23) × Bool × Int × (List S23)) (K : Ex → St T → Option (Bool)) : Option (Bool) := clerestorykeep2_CascadeTurned.c11 k n v.1 v.2.1 v.2.2.1 v.2.2.2 (fun y51 y52 y53 => K (.exit 0) (mkSt [0, 3, 4] (io15.enc (y51, y52, y53))))
def clerestorykeep2_CascadeTurned.x41 : Ex → Option (List Nat × List Sp)
  | .exit 6 => some ([3, 7, 8, 9, 10], [.own 8 23])
  | _ => none
def clerestorykeep2_CascadeTurned.L41 (k : Nat) (n : Nat) (v : Bool × Int × Bool × Int × (List S23) × (List S23)) (K : Ex → St T → Option (Bool)) : Option (Bool) := clerestorykeep2_CascadeTurned.c41 k n v.1 v.2.1 v.2.2.1 v.2.2.2.1 v.2.2.2.2.1 v.2.2.2.2.2 (fun y54 y55 y56 y57 y58 => K (.exit 6) (mkSt [3, 7, 8, 9, 10] (io17.enc (y54, y55, y56, y57, y58))))
def clerestorykeep2_CascadeTurned.x33 : Ex → Option (List Nat × List Sp)
  | .exit 4 => some ([3, 7, 8], [.own 8 23])
  | _ => none
def clerestorykeep2_CascadeTurned.L33 (k : Nat) (n : Nat) (v : Bool × Int × (List S23) × (List S23)) (K : Ex → St T → Option (Bool)) : Option (Bool) := clerestorykeep2_CascadeTurned.c33 k n v.1 v.2.1 v.2.2.1 v.2.2.2 (fun y59 y60 y61 => K (.exit 4) (mkSt [3, 7, 8] (io19.enc (y59, y60, y61))))
def clerestorykeep2_CascadeTurned.cuts (k : Nat) : Cuts T (Bool) := fun n => bif n.beq 17 then some (entK (cfg (tab9 k)) 0 [0, 3, 4, 5, 6] [.own 4 23] io13.pat (clerestorykeep2_CascadeTurned.L17 k k)) else bif n.beq 11 then some (entK (cfg (tab9 k)) 0 [0, 3, 4, 5] [.own 4 23] io14.pat (clerestorykeep2_CascadeTurned.L11 k k)) else bif n.beq 41 then some (entK (cfg (tab9 k)) 0 [3, 7, 8, 9, 10, 11] [.own 8 23] io16.pat (clerestorykeep2_CascadeTurned.L41 k k)) else bif n.beq 33 then some (entK (cfg (tab9 k)) 0 [3, 7, 8, 9] [.own 8 23] io18.pat (clerestorykeep2_CascadeTurned.L33 k k)) else none
def clerestorykeep2_CascadeTurned.body : Code := bodyOf Try.f5
def clerestorykeep2_CascadeTurned.b17 : Code := findD 17 clerestorykeep2_CascadeTurned.body
theorem clerestorykeep2_CascadeTurned.s17 (k : Nat) : ∀ n v K, clerestorykeep2_CascadeTurned.L17 k (n + 1) v K = runK (cfg (tab9 k)) Try.f5.ntmps (clerestorykeep2_CascadeTurned.kr k) (annot (clerestorykeep2_CascadeTurned.cuts k) clerestorykeep2_CascadeTurned.b17) (mkSt [0, 3, 4, 5, 6] (io13.enc v)) (loopK (cfg (tab9 k)) 0 clerestorykeep2_CascadeTurned.x17 (entK (cfg (tab9 k)) 0 [0, 3, 4, 5, 6] [.own 4 23] io13.pat (clerestorykeep2_CascadeTurned.L17 k n)) K) := by
  intro n v K; kernel_rfl
def clerestorykeep2_CascadeTurned.b11 : Code := findD 11 clerestorykeep2_CascadeTurned.body
theorem clerestorykeep2_CascadeTurned.s11 (k : Nat) : ∀ n v K, clerestorykeep2_CascadeTurned.L11 k (n + 1) v K = runK (cfg (tab9 k)) Try.f5.ntmps (clerestorykeep2_CascadeTurned.kr k) (annot (clerestorykeep2_CascadeTurned.cuts k) clerestorykeep2_CascadeTurned.b11) (mkSt [0, 3, 4, 5] (io14.enc v)) (loopK (cfg (tab9 k)) 0 clerestorykeep2_CascadeTurned.x11 (entK (cfg (tab9 k)) 0 [0, 3, 4, 5] [.own 4 23] io14.pat (clerestorykeep2_CascadeTurned.L11 k n)) K) := by
  intro n v K; kernel_rfl
def clerestorykeep2_CascadeTurned.b41 : Code := findD 41 clerestorykeep2_CascadeTurned.body
theorem clerestorykeep2_CascadeTurned.s41 (k : Nat) : ∀ n v K, clerestorykeep2_CascadeTurned.L41 k (n + 1) v K = runK (cfg (tab9 k)) Try.f5.ntmps (clerestorykeep2_CascadeTurned.kr k) (annot (clerestorykeep2_CascadeTurned.cuts k) clerestorykeep2_CascadeTurned.b41) (mkSt [3, 7, 8, 9, 10, 11] (io16.enc v)) (loopK (cfg (tab9 k)) 0 clerestorykeep2_CascadeTurned.x41 (entK (cfg (tab9 k)) 0 [3, 7, 8, 9, 10, 11] [.own 8 23] io16.pat (clerestorykeep2_CascadeTurned.L41 k n)) K) := by
  intro n v K; kernel_rfl
def clerestorykeep2_CascadeTurned.b33 : Code := findD 33 clerestorykeep2_CascadeTurned.body
theorem clerestorykeep2_CascadeTurned.s33 (k : Nat) : ∀ n v K, clerestorykeep2_CascadeTurned.L33 k (n + 1) v K = runK (cfg (tab9 k)) Try.f5.ntmps (clerestorykeep2_CascadeTurned.kr k) (annot (clerestorykeep2_CascadeTurned.cuts k) clerestorykeep2_CascadeTurned.b33) (mkSt [3, 7, 8, 9] (io18.enc v)) (loopK (cfg (tab9 k)) 0 clerestorykeep2_CascadeTurned.x33 (entK (cfg (tab9 k)) 0 [3, 7, 8, 9] [.own 8 23] io18.pat (clerestorykeep2_CascadeTurned.L33 k n)) K) := by
  intro n v K; kernel_rfl
theorem clerestorykeep2_CascadeTurned.e (k : Nat) : ∀ v, (fun v => clerestorykeep2_CascadeTurned k v) v = runK (cfg (tab9 k)) Try.f5.ntmps (clerestorykeep2_CascadeTurned.kr k) (annot (clerestorykeep2_CascadeTurned.cuts k) clerestorykeep2_CascadeTurned.body) (entry (io8.enc v).1 (io8.enc v).2) (endK (clerestorykeep2_CascadeTurned.kr k)) := by
  intro v; kernel_rfl
theorem clerestorykeep2_CascadeTurned.hb : Try.f5.body = some clerestorykeep2_CascadeTurned.body := by kernel_rfl
def tab10 (k : Nat) : Tab T := addTab 5 (line io8 io2 false (fun v => clerestorykeep2_CascadeTurned k v)) (tab9 k)
def clerestorykeep2_CascadeOne.c19 (k : Nat) : Nat → (List S23) → Bool → Int → Int → Int → (List S23) → ((List S23) → Bool → Int → Int → (List S23) → Option (Bool)) → Option (Bool)
  | 0, _, _, _, _, _, _, _ => none
  | n + 1, x10, x11, x12, x13, x14, x15, k2 =>
    let v16 : Bool := (decide (x14 < (x15.length : Int)))
    cond v16 (
    cond (decide (0 ≤ x14 ∧ x14 < (x15.length : Int))) (
    let v17 : List UInt8 := (x15.getD x14.toNat S23.d).Name
    cond (decide (0 ≤ x12 ∧ x12 < (x10.length : Int))) (
    let v18 : List UInt8 := (x10.getD x12.toNat S23.d).Name
    cond (v17 == v18) (
    let v19 : Int := (IntKind.wrap .i64 (x13 + (1 : Int)))
    cond (decide (0 ≤ x14 ∧ x14 < (x15.length : Int))) (
    let v20 : List UInt8 := (x15.getD x14.toNat S23.d).Name
    let v21 : List UInt8 := (x15.getD x14.toNat S23.d).Value
    let v22 : Int := (x15.getD x14.toNat S23.d).Origin
    let v23 : Bool := (x15.getD x14.toNat S23.d).Important
    let v24 : Int := (x15.getD x14.toNat S23.d).Weight
    let v25 : Int := (x15.getD x14.toNat S23.d).Place
    cond (decide (0 ≤ x12 ∧ x12 < (x10.length : Int))) (
    let v26 : List UInt8 := (x10.getD x12.toNat S23.d).Name
    let v27 : List UInt8 := (x10.getD x12.toNat S23.d).Value
    let v28 : Int := (x10.getD x12.toNat S23.d).Origin
    let v29 : Bool := (x10.getD x12.toNat S23.d).Important
    let v30 : Int := (x10.getD x12.toNat S23.d).Weight
    let v31 : Int := (x10.getD x12.toNat S23.d).Place
    (cascade_Less k v20 v21 v22 v23 v24 v25 v26 v27 v28 v29 v30 v31).bind fun r32 =>
    cond r32 (
    some false) (
    let v33 : Int := (IntKind.wrap .i64 (x14 + (1 : Int)))
    clerestorykeep2_CascadeOne.c19 k n x10 x11 x12 v19 v33 x15 k2)) none) none) (
    let v34 : Int := (IntKind.wrap .i64 (x14 + (1 : Int)))
    clerestorykeep2_CascadeOne.c19 k n x10 x11 x12 x13 v34 x15 k2)) none) none) (
    k2 x10 x11 x12 x13 x15)
def clerestorykeep2_CascadeOne.c11 (k : Nat) : Nat → (List S23) → Bool → Int → (List S23) → ((List S23) → Bool → (List S23) → Option (Bool)) → Option (Bool)
  | 0, _, _, _, _, _ => none
  | n + 1, x5, x6, x7, x8, k0 =>
    let v9 : Bool := (decide (x7 < (x5.length : Int)))
    cond v9 (
    clerestorykeep2_CascadeOne.c19 k k x5 x6 x7 (0 : Int) (0 : Int) x8 (fun (y35 : List S23) (y36 : Bool) (y37 : Int) (y38 : Int) (y39 : List S23) =>
    cond (y38 != (1 : Int)) (
    some false) (
    let v40 : Int := (IntKind.wrap .i64 (y37 + (1 : Int)))
    clerestorykeep2_CascadeOne.c11 k n y35 y36 v40 y39 k0))) (
    k0 x5 x6 x8)
def clerestorykeep2_CascadeOne (k : Nat) (a1 : List S23) : Option (Bool) :=
(clerestorykeep2_own k).bind fun r2 =>
let v3 : Int := (if (20 : Int) < (a1.length : Int) then (20 : Int) else (a1.length : Int))
cond (decide (0 ≤ v3 ∧ v3 ≤ (a1.length : Int))) (
(cascade_Win k (a1.take v3.toNat)).bind fun r4 =>
clerestorykeep2_CascadeOne.c11 k k (a1.take v3.toNat) r2 (0 : Int) r4 (fun (y41 : List S23) (y42 : Bool) (y43 : List S23) =>
let v44 : Bool := (decide ((y43.length : Int) ≤ (y41.length : Int)))
some (cond y42 v44 false))) none
def clerestorykeep2_CascadeOne.kr (k : Nat) : St T → Option (Bool) := (retK (cfg (tab10 k)) Try.f6.results.toList 0 [] io2.pat)
def clerestorykeep2_CascadeOne.x19 : Ex → Option (List Nat × List Sp)
  | .exit 2 => some ([0, 3, 4, 5, 6], [])
  | _ => none
def clerestorykeep2_CascadeOne.L19 (k : Nat) (n : Nat) (v : (List S23) × Bool × Int × Int × Int × (List S23)) (K : Ex → St T → Option (Bool)) : Option (Bool) := clerestorykeep2_CascadeOne.c19 k n v.1 v.2.1 v.2.2.1 v.2.2.2.1 v.2.2.2.2.1 v.2.2.2.2.2 (fun y62 y63 y64 y65 y66 => K (.exit 2) (mkSt [0, 3, 4, 5, 6] (io13.enc (y62, y63, y64, y65, y66))))
def clerestorykeep2_CascadeOne.x11 : Ex → Option (List Nat × List Sp)
  | .exit 0 => some ([0, 3, 4], [])
  | _ => none
def clerestorykeep2_CascadeOne.L11 (k : Nat) (n : Nat) (v : (List S23) × Bool × Int × (List S23)) (K : Ex → St T → Option (Bool)) : Option (Bool) := clerestorykeep2_CascadeOne.c11 k n v.1 v.2.1 v.2.2.1 v.2.2.2 (fun y67 y68 y69 => K (.exit 0) (mkSt [0, 3, 4] (io15.enc (y67, y68, y69))))
def clerestorykeep2_CascadeOne.cuts (k : Nat) : Cuts T (Bool) := fun n => bif n.beq 19 then some (entK (cfg (tab10 k)) 0 [0, 3, 4, 5, 6, 7] [] io20.pat (clerestorykeep2_CascadeOne.L19 k k)) else bif n.beq 11 then some (entK (cfg (tab10 k)) 0 [0, 3, 4, 5] [] io14.pat (clerestorykeep2_CascadeOne.L11 k k)) else none
def clerestorykeep2_CascadeOne.body : Code := bodyOf Try.f6
def clerestorykeep2_CascadeOne.b19 : Code := findD 19 clerestorykeep2_CascadeOne.body
theorem clerestorykeep2_CascadeOne.s19 (k : Nat) : ∀ n v K, clerestorykeep2_CascadeOne.L19 k (n + 1) v K = runK (cfg (tab10 k)) Try.f6.ntmps (clerestorykeep2_CascadeOne.kr k) (annot (clerestorykeep2_CascadeOne.cuts k) clerestorykeep2_CascadeOne.b19) (mkSt [0, 3, 4, 5, 6, 7] (io20.enc v)) (loopK (cfg (tab10 k)) 0 clerestorykeep2_CascadeOne.x19 (entK (cfg (tab10 k)) 0 [0, 3, 4, 5, 6, 7] [] io20.pat (clerestorykeep2_CascadeOne.L19 k n)) K) := by
  intro n v K; kernel_rfl
def clerestorykeep2_CascadeOne.b11 : Code := findD 11 clerestorykeep2_CascadeOne.body
theorem clerestorykeep2_CascadeOne.s11 (k : Nat) : ∀ n v K, clerestorykeep2_CascadeOne.L11 k (n + 1) v K = runK (cfg (tab10 k)) Try.f6.ntmps (clerestorykeep2_CascadeOne.kr k) (annot (clerestorykeep2_CascadeOne.cuts k) clerestorykeep2_CascadeOne.b11) (mkSt [0, 3, 4, 5] (io14.enc v)) (loopK (cfg (tab10 k)) 0 clerestorykeep2_CascadeOne.x11 (entK (cfg (tab10 k)) 0 [0, 3, 4, 5] [] io14.pat (clerestorykeep2_CascadeOne.L11 k n)) K) := by
  intro n v K; kernel_rfl
theorem clerestorykeep2_CascadeOne.e (k : Nat) : ∀ v, (fun v => clerestorykeep2_CascadeOne k v) v = runK (cfg (tab10 k)) Try.f6.ntmps (clerestorykeep2_CascadeOne.kr k) (annot (clerestorykeep2_CascadeOne.cuts k) clerestorykeep2_CascadeOne.body) (entry (io8.enc v).1 (io8.enc v).2) (endK (clerestorykeep2_CascadeOne.kr k)) := by
  intro v; kernel_rfl
theorem clerestorykeep2_CascadeOne.hb : Try.f6.body = some clerestorykeep2_CascadeOne.body := by kernel_rfl
def tab11 (k : Nat) : Tab T := addTab 6 (line io8 io2 false (fun v => clerestorykeep2_CascadeOne k v)) (tab10 k)
attribute [local irreducible] runK retK annot entry
theorem ok0 (k : Nat) : CfOk (cfg (tab0 k)) := noTab_ok fun _ _ _ => rfl
theorem cascade_rank.a (k : Nat) : cutsAt (fun n => (cascade_rank.cuts k n).isSome) cascade_rank.body = [] := by kernel_rfl
theorem cascade_rank.sim (k : Nat) : ∀ v x, (fun v => cascade_rank k v.1 v.2.1 v.2.2.1 v.2.2.2.1 v.2.2.2.2.1 v.2.2.2.2.2) v = some x → Sim (cfg (tab0 k)) 34 (io0.enc v).1 (io0.enc v).2 (io1.enc x).1 (io1.enc x).2 :=
  sim_of (c := (cfg (tab0 k))) (fine _ (ok0 k)) (dr _ (ok0 k)) (i := io0) (o := io1) (ps := []) (cuts := fun _ => cascade_rank.cuts k) (m := 0) (g := fun v => cascade_rank k v.1 v.2.1 v.2.2.1 v.2.2.2.1 v.2.2.2.2.1 v.2.2.2.2.2) Try.func34 (by kernel_rfl) cascade_rank.hb (fun _ => rfl) (fun _ => Nat.le_of_ble_eq_true rfl) (good_cuts (cascade_rank.a k) trivial) (cascade_rank.e k)
theorem ok1 (k : Nat) : CfOk (cfg (tab1 k)) := addTab_ok (ok0 k) (cascade_rank.sim k)
theorem cmp_isNaN_int_.a (k : Nat) : cutsAt (fun n => (cmp_isNaN_int_.cuts k n).isSome) cmp_isNaN_int_.body = [] := by kernel_rfl
theorem cmp_isNaN_int_.sim (k : Nat) : ∀ v x, (fun v => cmp_isNaN_int_ k v) v = some x → Sim (cfg (tab1 k)) 37 (io1.enc v).1 (io1.enc v).2 (io2.enc x).1 (io2.enc x).2 :=
  sim_of (c := (cfg (tab1 k))) (fine _ (ok1 k)) (dr _ (ok1 k)) (i := io1) (o := io2) (ps := []) (cuts := fun _ => cmp_isNaN_int_.cuts k) (m := 0) (g := fun v => cmp_isNaN_int_ k v) Try.func37 (by kernel_rfl) cmp_isNaN_int_.hb (fun _ => rfl) (fun _ => Nat.le_of_ble_eq_true rfl) (good_cuts (cmp_isNaN_int_.a k) trivial) (cmp_isNaN_int_.e k)
theorem ok2 (k : Nat) : CfOk (cfg (tab2 k)) := addTab_ok (ok1 k) (cmp_isNaN_int_.sim k)
theorem cmp_Compare_int_.a (k : Nat) : cutsAt (fun n => (cmp_Compare_int_.cuts k n).isSome) cmp_Compare_int_.body = [] := by kernel_rfl
theorem cmp_Compare_int_.sim (k : Nat) : ∀ v x, (fun v => cmp_Compare_int_ k v.1 v.2) v = some x → Sim (cfg (tab2 k)) 33 (io3.enc v).1 (io3.enc v).2 (io1.enc x).1 (io1.enc x).2 :=
  sim_of (c := (cfg (tab2 k))) (fine _ (ok2 k)) (dr _ (ok2 k)) (i := io3) (o := io1) (ps := []) (cuts := fun _ => cmp_Compare_int_.cuts k) (m := 0) (g := fun v => cmp_Compare_int_ k v.1 v.2) Try.func33 (by kernel_rfl) cmp_Compare_int_.hb (fun _ => rfl) (fun _ => Nat.le_of_ble_eq_true rfl) (good_cuts (cmp_Compare_int_.a k) trivial) (cmp_Compare_int_.e k)
theorem ok3 (k : Nat) : CfOk (cfg (tab3 k)) := addTab_ok (ok2 k) (cmp_Compare_int_.sim k)
theorem cmp_Or_int_.a7 (k : Nat) : cutsAt (fun n => (cmp_Or_int_.cuts k n).isSome) cmp_Or_int_.b7 = [] := by kernel_rfl
theorem cmp_Or_int_.a (k : Nat) : cutsAt (fun n => (cmp_Or_int_.cuts k n).isSome) cmp_Or_int_.body = [(7, Code.loop cmp_Or_int_.b7)] := by kernel_rfl
theorem cmp_Or_int_.so7 (k : Nat) : Sound (cfg (tab3 k)) Try.f32.ntmps 0 (cmp_Or_int_.kr k) (.loop cmp_Or_int_.b7) (entK (cfg (tab3 k)) 0 [3, 6, 7, 8] [] io5.pat (cmp_Or_int_.L7 k k)) :=
  loop_ok (fine _ (ok3 k)) (dr _ (ok3 k)) (good_cuts (cmp_Or_int_.a7 k) trivial) io5.ok (xn := cmp_Or_int_.x7) (L := cmp_Or_int_.L7 k) (fun v K => rfl) (cmp_Or_int_.s7 k) k
theorem cmp_Or_int_.sim (k : Nat) : ∀ v x, (fun v => cmp_Or_int_ k v) v = some x → Sim (cfg (tab3 k)) 32 (io4.enc v).1 (io4.enc v).2 (io1.enc x).1 (io1.enc x).2 :=
  sim_of (c := (cfg (tab3 k))) (fine _ (ok3 k)) (dr _ (ok3 k)) (i := io4) (o := io1) (ps := []) (cuts := fun _ => cmp_Or_int_.cuts k) (m := 0) (g := fun v => cmp_Or_int_ k v) Try.func32 (by kernel_rfl) cmp_Or_int_.hb (fun _ => rfl) (fun _ => Nat.le_of_ble_eq_true rfl) (good_cuts (cmp_Or_int_.a k) ⟨fun f hf => by cases hf; exact cmp_Or_int_.so7 k, trivial⟩) (cmp_Or_int_.e k)
theorem ok4 (k : Nat) : CfOk (cfg (tab4 k)) := addTab_ok (ok3 k) (cmp_Or_int_.sim k)
theorem cascade_compare.a (k : Nat) : cutsAt (fun n => (cascade_compare.cuts k n).isSome) cascade_compare.body = [] := by kernel_rfl
theorem cascade_compare.sim (k : Nat) : ∀ v x, (fun v => cascade_compare k v.1 v.2.1 v.2.2.1 v.2.2.2.1 v.2.2.2.2.1 v.2.2.2.2.2.1 v.2.2.2.2.2.2.1 v.2.2.2.2.2.2.2.1 v.2.2.2.2.2.2.2.2.1 v.2.2.2.2.2.2.2.2.2.1 v.2.2.2.2.2.2.2.2.2.2.1 v.2.2.2.2.2.2.2.2.2.2.2) v = some x → Sim (cfg (tab4 k)) 23 (io6.enc v).1 (io6.enc v).2 (io1.enc x).1 (io1.enc x).2 :=
  sim_of (c := (cfg (tab4 k))) (fine _ (ok4 k)) (dr _ (ok4 k)) (i := io6) (o := io1) (ps := []) (cuts := fun _ => cascade_compare.cuts k) (m := 0) (g := fun v => cascade_compare k v.1 v.2.1 v.2.2.1 v.2.2.2.1 v.2.2.2.2.1 v.2.2.2.2.2.1 v.2.2.2.2.2.2.1 v.2.2.2.2.2.2.2.1 v.2.2.2.2.2.2.2.2.1 v.2.2.2.2.2.2.2.2.2.1 v.2.2.2.2.2.2.2.2.2.2.1 v.2.2.2.2.2.2.2.2.2.2.2) Try.func23 (by kernel_rfl) cascade_compare.hb (fun _ => rfl) (fun _ => Nat.le_of_ble_eq_true rfl) (good_cuts (cascade_compare.a k) trivial) (cascade_compare.e k)
theorem ok5 (k : Nat) : CfOk (cfg (tab5 k)) := addTab_ok (ok4 k) (cascade_compare.sim k)
theorem cascade_Less.a (k : Nat) : cutsAt (fun n => (cascade_Less.cuts k n).isSome) cascade_Less.body = [] := by kernel_rfl
theorem cascade_Less.sim (k : Nat) : ∀ v x, (fun v => cascade_Less k v.1 v.2.1 v.2.2.1 v.2.2.2.1 v.2.2.2.2.1 v.2.2.2.2.2.1 v.2.2.2.2.2.2.1 v.2.2.2.2.2.2.2.1 v.2.2.2.2.2.2.2.2.1 v.2.2.2.2.2.2.2.2.2.1 v.2.2.2.2.2.2.2.2.2.2.1 v.2.2.2.2.2.2.2.2.2.2.2) v = some x → Sim (cfg (tab5 k)) 13 (io6.enc v).1 (io6.enc v).2 (io2.enc x).1 (io2.enc x).2 :=
  sim_of (c := (cfg (tab5 k))) (fine _ (ok5 k)) (dr _ (ok5 k)) (i := io6) (o := io2) (ps := []) (cuts := fun _ => cascade_Less.cuts k) (m := 0) (g := fun v => cascade_Less k v.1 v.2.1 v.2.2.1 v.2.2.2.1 v.2.2.2.2.1 v.2.2.2.2.2.1 v.2.2.2.2.2.2.1 v.2.2.2.2.2.2.2.1 v.2.2.2.2.2.2.2.2.1 v.2.2.2.2.2.2.2.2.2.1 v.2.2.2.2.2.2.2.2.2.2.1 v.2.2.2.2.2.2.2.2.2.2.2) Try.func13 (by kernel_rfl) cascade_Less.hb (fun _ => rfl) (fun _ => Nat.le_of_ble_eq_true rfl) (good_cuts (cascade_Less.a k) trivial) (cascade_Less.e k)
theorem ok6 (k : Nat) : CfOk (cfg (tab6 k)) := addTab_ok (ok5 k) (cascade_Less.sim k)
theorem clerestorykeep2_own.a (k : Nat) : cutsAt (fun n => (clerestorykeep2_own.cuts k n).isSome) clerestorykeep2_own.body = [] := by kernel_rfl
theorem clerestorykeep2_own.sim (k : Nat) : ∀ v x, (fun v => clerestorykeep2_own k ) v = some x → Sim (cfg (tab6 k)) 12 (io7.enc v).1 (io7.enc v).2 (io2.enc x).1 (io2.enc x).2 :=
  sim_of (c := (cfg (tab6 k))) (fine _ (ok6 k)) (dr _ (ok6 k)) (i := io7) (o := io2) (ps := []) (cuts := fun _ => clerestorykeep2_own.cuts k) (m := 0) (g := fun v => clerestorykeep2_own k ) Try.func12 (by kernel_rfl) clerestorykeep2_own.hb (fun _ => rfl) (fun _ => Nat.le_of_ble_eq_true rfl) (good_cuts (clerestorykeep2_own.a k) trivial) (clerestorykeep2_own.e k)
theorem ok7 (k : Nat) : CfOk (cfg (tab7 k)) := addTab_ok (ok6 k) (clerestorykeep2_own.sim k)
theorem cascade_Win.a9 (k : Nat) : cutsAt (fun n => (cascade_Win.cuts k n).isSome) cascade_Win.b9 = [] := by kernel_rfl
theorem cascade_Win.a (k : Nat) : cutsAt (fun n => (cascade_Win.cuts k n).isSome) cascade_Win.body = [(9, Code.loop cascade_Win.b9)] := by kernel_rfl
theorem cascade_Win.so9 (k : Nat) : Sound (cfg (tab7 k)) Try.f16.ntmps 0 (cascade_Win.kr k) (.loop cascade_Win.b9) (entK (cfg (tab7 k)) 0 [3, 4, 10, 11, 12] [.own 4 23] io10.pat (cascade_Win.L9 k k)) :=
  loop_ok (fine _ (ok7 k)) (dr _ (ok7 k)) (good_cuts (cascade_Win.a9 k) trivial) io10.ok (xn := cascade_Win.x9) (L := cascade_Win.L9 k) (fun v K => rfl) (cascade_Win.s9 k) k
theorem cascade_Win.sim (k : Nat) : ∀ v x, (fun v => cascade_Win k v) v = some x → Sim (cfg (tab7 k)) 16 (io8.enc v).1 (io8.enc v).2 (io9.enc x).1 (io9.enc x).2 :=
  sim_of (c := (cfg (tab7 k))) (fine _ (ok7 k)) (dr _ (ok7 k)) (i := io8) (o := io9) (ps := [.own 0 23]) (cuts := fun _ => cascade_Win.cuts k) (m := 0) (g := fun v => cascade_Win k v) Try.func16 (by kernel_rfl) cascade_Win.hb (fun _ => rfl) (fun _ => Nat.le_of_ble_eq_true rfl) (good_cuts (cascade_Win.a k) ⟨fun f hf => by cases hf; exact cascade_Win.so9 k, trivial⟩) (cascade_Win.e k)
theorem ok8 (k : Nat) : CfOk (cfg (tab8 k)) := addTab_ok (ok7 k) (cascade_Win.sim k)
theorem cascade_Win_v2.a9 (k : Nat) : cutsAt (fun n => (cascade_Win_v2.cuts k n).isSome) cascade_Win_v2.b9 = [] := by kernel_rfl
theorem cascade_Win_v2.a (k : Nat) : cutsAt (fun n => (cascade_Win_v2.cuts k n).isSome) cascade_Win_v2.body = [(9, Code.loop cascade_Win_v2.b9)] := by kernel_rfl
theorem cascade_Win_v2.so9 (k : Nat) : Sound (cfg (tab8 k)) Try.f16.ntmps 0 (cascade_Win_v2.kr k) (.loop cascade_Win_v2.b9) (entK (cfg (tab8 k)) 0 [3, 4, 10, 11, 12] [] io12.pat (cascade_Win_v2.L9 k k)) :=
  loop_ok (fine _ (ok8 k)) (dr _ (ok8 k)) (good_cuts (cascade_Win_v2.a9 k) trivial) io12.ok (xn := cascade_Win_v2.x9) (L := cascade_Win_v2.L9 k) (fun v K => rfl) (cascade_Win_v2.s9 k) k
theorem cascade_Win_v2.sim (k : Nat) : ∀ v x, (fun v => cascade_Win_v2 k ) v = some x → Sim (cfg (tab8 k)) 16 (io11.enc v).1 (io11.enc v).2 (io11.enc x).1 (io11.enc x).2 :=
  sim_of (c := (cfg (tab8 k))) (fine _ (ok8 k)) (dr _ (ok8 k)) (i := io11) (o := io11) (ps := []) (cuts := fun _ => cascade_Win_v2.cuts k) (m := 0) (g := fun v => cascade_Win_v2 k ) Try.func16 (by kernel_rfl) cascade_Win_v2.hb (fun _ => rfl) (fun _ => Nat.le_of_ble_eq_true rfl) (good_cuts (cascade_Win_v2.a k) ⟨fun f hf => by cases hf; exact cascade_Win_v2.so9 k, trivial⟩) (cascade_Win_v2.e k)
theorem ok9 (k : Nat) : CfOk (cfg (tab9 k)) := addTab_ok (ok8 k) (cascade_Win_v2.sim k)
theorem clerestorykeep2_CascadeTurned.a17 (k : Nat) : cutsAt (fun n => (clerestorykeep2_CascadeTurned.cuts k n).isSome) clerestorykeep2_CascadeTurned.b17 = [] := by kernel_rfl
theorem clerestorykeep2_CascadeTurned.a11 (k : Nat) : cutsAt (fun n => (clerestorykeep2_CascadeTurned.cuts k n).isSome) clerestorykeep2_CascadeTurned.b11 = [(17, Code.loop clerestorykeep2_CascadeTurned.b17)] := by kernel_rfl
theorem clerestorykeep2_CascadeTurned.a41 (k : Nat) : cutsAt (fun n => (clerestorykeep2_CascadeTurned.cuts k n).isSome) clerestorykeep2_CascadeTurned.b41 = [] := by kernel_rfl
theorem clerestorykeep2_CascadeTurned.a33 (k : Nat) : cutsAt (fun n => (clerestorykeep2_CascadeTurned.cuts k n).isSome) clerestorykeep2_CascadeTurned.b33 = [(41, Code.loop clerestorykeep2_CascadeTurned.b41)] := by kernel_rfl
theorem clerestorykeep2_CascadeTurned.a (k : Nat) : cutsAt (fun n => (clerestorykeep2_CascadeTurned.cuts k n).isSome) clerestorykeep2_CascadeTurned.body = [(11, Code.loop clerestorykeep2_CascadeTurned.b11), (33, Code.loop clerestorykeep2_CascadeTurned.b33)] := by kernel_rfl
theorem clerestorykeep2_CascadeTurned.so17 (k : Nat) : Sound (cfg (tab9 k)) Try.f5.ntmps 0 (clerestorykeep2_CascadeTurned.kr k) (.loop clerestorykeep2_CascadeTurned.b17) (entK (cfg (tab9 k)) 0 [0, 3, 4, 5, 6] [.own 4 23] io13.pat (clerestorykeep2_CascadeTurned.L17 k k)) :=
  loop_ok (fine _ (ok9 k)) (dr _ (ok9 k)) (good_cuts (clerestorykeep2_CascadeTurned.a17 k) trivial) io13.ok (xn := clerestorykeep2_CascadeTurned.x17) (L := clerestorykeep2_CascadeTurned.L17 k) (fun v K => rfl) (clerestorykeep2_CascadeTurned.s17 k) k
theorem clerestorykeep2_CascadeTurned.so11 (k : Nat) : Sound (cfg (tab9 k)) Try.f5.ntmps 0 (clerestorykeep2_CascadeTurned.kr k) (.loop clerestorykeep2_CascadeTurned.b11) (entK (cfg (tab9 k)) 0 [0, 3, 4, 5] [.own 4 23] io14.pat (clerestorykeep2_CascadeTurned.L11 k k)) :=
  loop_ok (fine _ (ok9 k)) (dr _ (ok9 k)) (good_cuts (clerestorykeep2_CascadeTurned.a11 k) ⟨fun f hf => by cases hf; exact clerestorykeep2_CascadeTurned.so17 k, trivial⟩) io14.ok (xn := clerestorykeep2_CascadeTurned.x11) (L := clerestorykeep2_CascadeTurned.L11 k) (fun v K => rfl) (clerestorykeep2_CascadeTurned.s11 k) k
theorem clerestorykeep2_CascadeTurned.so41 (k : Nat) : Sound (cfg (tab9 k)) Try.f5.ntmps 0 (clerestorykeep2_CascadeTurned.kr k) (.loop clerestorykeep2_CascadeTurned.b41) (entK (cfg (tab9 k)) 0 [3, 7, 8, 9, 10, 11] [.own 8 23] io16.pat (clerestorykeep2_CascadeTurned.L41 k k)) :=
  loop_ok (fine _ (ok9 k)) (dr _ (ok9 k)) (good_cuts (clerestorykeep2_CascadeTurned.a41 k) trivial) io16.ok (xn := clerestorykeep2_CascadeTurned.x41) (L := clerestorykeep2_CascadeTurned.L41 k) (fun v K => rfl) (clerestorykeep2_CascadeTurned.s41 k) k
theorem clerestorykeep2_CascadeTurned.so33 (k : Nat) : Sound (cfg (tab9 k)) Try.f5.ntmps 0 (clerestorykeep2_CascadeTurned.kr k) (.loop clerestorykeep2_CascadeTurned.b33) (entK (cfg (tab9 k)) 0 [3, 7, 8, 9] [.own 8 23] io18.pat (clerestorykeep2_CascadeTurned.L33 k k)) :=
  loop_ok (fine _ (ok9 k)) (dr _ (ok9 k)) (good_cuts (clerestorykeep2_CascadeTurned.a33 k) ⟨fun f hf => by cases hf; exact clerestorykeep2_CascadeTurned.so41 k, trivial⟩) io18.ok (xn := clerestorykeep2_CascadeTurned.x33) (L := clerestorykeep2_CascadeTurned.L33 k) (fun v K => rfl) (clerestorykeep2_CascadeTurned.s33 k) k
theorem clerestorykeep2_CascadeTurned.sim (k : Nat) : ∀ v x, (fun v => clerestorykeep2_CascadeTurned k v) v = some x → Sim (cfg (tab9 k)) 5 (io8.enc v).1 (io8.enc v).2 (io2.enc x).1 (io2.enc x).2 :=
  sim_of (c := (cfg (tab9 k))) (fine _ (ok9 k)) (dr _ (ok9 k)) (i := io8) (o := io2) (ps := []) (cuts := fun _ => clerestorykeep2_CascadeTurned.cuts k) (m := 0) (g := fun v => clerestorykeep2_CascadeTurned k v) Try.func5 (by kernel_rfl) clerestorykeep2_CascadeTurned.hb (fun _ => rfl) (fun _ => Nat.le_of_ble_eq_true rfl) (good_cuts (clerestorykeep2_CascadeTurned.a k) ⟨fun f hf => by cases hf; exact clerestorykeep2_CascadeTurned.so11 k, fun f hf => by cases hf; exact clerestorykeep2_CascadeTurned.so33 k, trivial⟩) (clerestorykeep2_CascadeTurned.e k)
theorem ok10 (k : Nat) : CfOk (cfg (tab10 k)) := addTab_ok (ok9 k) (clerestorykeep2_CascadeTurned.sim k)
theorem clerestorykeep2_CascadeOne.a19 (k : Nat) : cutsAt (fun n => (clerestorykeep2_CascadeOne.cuts k n).isSome) clerestorykeep2_CascadeOne.b19 = [] := by kernel_rfl
theorem clerestorykeep2_CascadeOne.a11 (k : Nat) : cutsAt (fun n => (clerestorykeep2_CascadeOne.cuts k n).isSome) clerestorykeep2_CascadeOne.b11 = [(19, Code.loop clerestorykeep2_CascadeOne.b19)] := by kernel_rfl
theorem clerestorykeep2_CascadeOne.a (k : Nat) : cutsAt (fun n => (clerestorykeep2_CascadeOne.cuts k n).isSome) clerestorykeep2_CascadeOne.body = [(11, Code.loop clerestorykeep2_CascadeOne.b11)] := by kernel_rfl
theorem clerestorykeep2_CascadeOne.so19 (k : Nat) : Sound (cfg (tab10 k)) Try.f6.ntmps 0 (clerestorykeep2_CascadeOne.kr k) (.loop clerestorykeep2_CascadeOne.b19) (entK (cfg (tab10 k)) 0 [0, 3, 4, 5, 6, 7] [] io20.pat (clerestorykeep2_CascadeOne.L19 k k)) :=
  loop_ok (fine _ (ok10 k)) (dr _ (ok10 k)) (good_cuts (clerestorykeep2_CascadeOne.a19 k) trivial) io20.ok (xn := clerestorykeep2_CascadeOne.x19) (L := clerestorykeep2_CascadeOne.L19 k) (fun v K => rfl) (clerestorykeep2_CascadeOne.s19 k) k
theorem clerestorykeep2_CascadeOne.so11 (k : Nat) : Sound (cfg (tab10 k)) Try.f6.ntmps 0 (clerestorykeep2_CascadeOne.kr k) (.loop clerestorykeep2_CascadeOne.b11) (entK (cfg (tab10 k)) 0 [0, 3, 4, 5] [] io14.pat (clerestorykeep2_CascadeOne.L11 k k)) :=
  loop_ok (fine _ (ok10 k)) (dr _ (ok10 k)) (good_cuts (clerestorykeep2_CascadeOne.a11 k) ⟨fun f hf => by cases hf; exact clerestorykeep2_CascadeOne.so19 k, trivial⟩) io14.ok (xn := clerestorykeep2_CascadeOne.x11) (L := clerestorykeep2_CascadeOne.L11 k) (fun v K => rfl) (clerestorykeep2_CascadeOne.s11 k) k
theorem clerestorykeep2_CascadeOne.sim (k : Nat) : ∀ v x, (fun v => clerestorykeep2_CascadeOne k v) v = some x → Sim (cfg (tab10 k)) 6 (io8.enc v).1 (io8.enc v).2 (io2.enc x).1 (io2.enc x).2 :=
  sim_of (c := (cfg (tab10 k))) (fine _ (ok10 k)) (dr _ (ok10 k)) (i := io8) (o := io2) (ps := []) (cuts := fun _ => clerestorykeep2_CascadeOne.cuts k) (m := 0) (g := fun v => clerestorykeep2_CascadeOne k v) Try.func6 (by kernel_rfl) clerestorykeep2_CascadeOne.hb (fun _ => rfl) (fun _ => Nat.le_of_ble_eq_true rfl) (good_cuts (clerestorykeep2_CascadeOne.a k) ⟨fun f hf => by cases hf; exact clerestorykeep2_CascadeOne.so11 k, trivial⟩) (clerestorykeep2_CascadeOne.e k)
theorem ok11 (k : Nat) : CfOk (cfg (tab11 k)) := addTab_ok (ok10 k) (clerestorykeep2_CascadeOne.sim k)
end
end Go.Ev.Cs
