/- vars.last as the evaluator's table wants it. No condition beyond those that each theorem names. -/
import Derived.Test.YtahodlnphioepaaDoorEvBw
set_option linter.unusedVariables false
set_option linter.unusedSimpArgs false
namespace Go.Ev.Bw
open Go.RowKit Go.Shelf Go.Proofs
variable {T : TypeId → Type}

def lastF {α : Type} (f1 f2 : α → List UInt8) (name : List UInt8) : List α → List UInt8 × Bool
  | [] => ([], false)
  | x :: r => bif f1 x == name then (f2 x, true) else lastF f1 f2 name r

def lastS {α : Type} (f1 f2 : α → List UInt8) (xs : List α) (name : List UInt8) : Option (List UInt8 × Bool) :=
  cond (Nat.ble xs.length 281474976710656) (some (lastF f1 f2 name xs.reverse)) none

theorem toList_mk (l : List UInt8) : (⟨l.toArray⟩ : ByteArray).toList = l := by simp

theorem lastR_F {α : Type} (f1 f2 : α → List UInt8) (name : List UInt8) (na vl : Nat → ByteArray) : ∀ (ys : List α), (∀ i x, ys.reverse[i]? = some x → na i = ⟨(f1 x).toArray⟩ ∧ vl i = ⟨(f2 x).toArray⟩) →
    lastR na vl ⟨name.toArray⟩ ys.length = .tuple #[.string ⟨(lastF f1 f2 name ys).1.toArray⟩, .bool (lastF f1 f2 name ys).2]
  | [], _ => rfl
  | y :: ys, h => by
    obtain ⟨h1, h2⟩ := h ys.length y (by simp)
    rw [List.length_cons, lastR, h1, toList_mk, toList_mk, lastF, h2]
    cases hb : f1 y == name with
    | true => rfl
    | false =>
      simp only [cond_false]
      refine lastR_F f1 f2 name na vl ys fun i x hx => h i x ?_
      rw [List.reverse_cons, List.getElem?_append_left (by obtain ⟨hl, _⟩ := List.getElem?_eq_some_iff.1 hx; exact hl)]
      exact hx

theorem sim_last {c : Cfg T} (hP : c.P = Tryd.prog) (f1 f2 : T 40 → List UInt8) (henc : ∀ x, c.cod.enc 40 x = [.s (f1 x), .s (f2 x)]) {xs : List (T 40)} {name : List UInt8} {r : List UInt8 × Bool} (h : lastS f1 f2 xs name = some r) :
    Sim c 65 [.d (.l 40 xs), .d (.s name)] [] [.d (.s r.1), .d (.b r.2)] [] := by
  unfold lastS at h
  obtain ⟨h1, rfl⟩ := cond_someD h
  have h1 := Nat.le_of_ble_eq_true h1
  refine pure_sim (y := .tuple #[.string ⟨(lastF f1 f2 name xs.reverse).1.toArray⟩, .bool (lastF f1 f2 name xs.reverse).2]) ⟨Tryd.f65, by rw [hP]; exact Tryd.func65, by kernel_rfl, by kernel_rfl⟩ (fun η w => ?_) fun w vs η hH hx => ?_
  · simp only [pack, RV, RVs]
    exact ⟨_, rfl, _, _, rfl, .s _, _, _, rfl, .b _, rfl⟩
  · simp only [RVs, RV] at hx
    obtain ⟨v1, _, rfl, hv1, v2, _, rfl, hv2, rfl⟩ := hx
    cases hv2
    rw [hP]
    obtain ⟨a, cap, rfl, hcs⟩ : ∃ a cap, v1 = .slice a xs.length cap ∧ (xs.length = 0 ∨ ∃ b off, a = some ⟨b, off, none⟩ ∧ b < w.heap.size ∧ ∀ k, k < xs.length → w.cell? ⟨b, off + k * 2, none⟩ = some (.string ((xs[k]?.map fun x => (⟨(f1 x).toArray⟩ : ByteArray)).getD ByteArray.empty)) ∧
        w.cell? ⟨b, off + k * 2 + 1, none⟩ = some (.string ((xs[k]?.map fun x => (⟨(f2 x).toArray⟩ : ByteArray)).getD ByteArray.empty))) := by
      cases hv1 with
      | nil => exact ⟨_, _, rfl, .inl rfl⟩
      | l _ _ b o cap vals hok hlt hcap hc hv =>
        refine ⟨_, _, rfl, .inr ⟨b, o, rfl, hlt, fun k hk => ?_⟩⟩
        have hsz : (rc c).sz 40 = 2 := by show c.P.cellsOf 40 = 2; rw [hP]; kernel_rfl
        have e0 : ((rc c).cod.enc 40 xs[k])[0]? = some (.s (f1 xs[k])) := by show (c.cod.enc 40 xs[k])[0]? = _; rw [henc]; rfl
        have e1 : ((rc c).cod.enc 40 xs[k])[1]? = some (.s (f2 xs[k])) := by show (c.cod.enc 40 xs[k])[1]? = _; rw [henc]; rfl
        have c0 := hc k 0 hk _ e0
        have c1 := hc k 1 hk _ e1
        have v0 := hv k 0 hk _ e0
        have v1 := hv k 1 hk _ e1
        rw [hsz] at c0 c1
        generalize vals k 0 = u0 at c0 v0
        generalize vals k 1 = u1 at c1 v1
        cases v0; cases v1
        rw [List.getElem?_eq_getElem hk]
        exact ⟨c0, c1⟩
    refine ((last_in Fence.wide 3 trivial trivial trivial rfl (Nat.le_refl _) a xs.length cap h1 ⟨name.toArray⟩ (fun k => (xs[k]?.map fun x => (⟨(f1 x).toArray⟩ : ByteArray)).getD ByteArray.empty) (fun k => (xs[k]?.map fun x => (⟨(f2 x).toArray⟩ : ByteArray)).getD ByteArray.empty) w hcs).calls (fun k d hd => by cases hd)).mono ?_
    rintro e W' ⟨rfl, hb⟩
    refine ⟨?_, hb⟩
    have := lastR_F f1 f2 name (fun k => (xs[k]?.map fun x => (⟨(f1 x).toArray⟩ : ByteArray)).getD ByteArray.empty) (fun k => (xs[k]?.map fun x => (⟨(f2 x).toArray⟩ : ByteArray)).getD ByteArray.empty) xs.reverse (fun i x hx => by
      rw [List.reverse_reverse] at hx
      simp [hx])
    rw [List.length_reverse] at this
    rw [this]

end Go.Ev.Bw
