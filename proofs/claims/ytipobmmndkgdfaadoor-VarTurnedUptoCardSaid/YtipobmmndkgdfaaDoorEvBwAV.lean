/- vars.last as the evaluator's table wants it. No condition beyond those that each theorem names. -/
import Derived.Test.YtipobmmndkgdfaaDoorEvBwV
set_option linter.unusedVariables false
set_option linter.unusedSimpArgs false
namespace Go.Ev.Bw
open Go.RowKit Go.Shelf Go.Proofs
variable {T : TypeId → Type}

def lastF {α : Type} (f1 f2 : α → List UInt8) (name : List UInt8) : List α → List UInt8 × Bool
  | [] => ([], false)
  | x :: r => bif f1 x == name then (f2 x, true) else lastF f1 f2 name r

def lastS {α : Type} (f1 f2 : α → List UInt8) (xs : List α) (name : List UInt8) : Option (List UInt8 × Bool) :=
  cond (Nat.ble xs.length 281474976710656) (some (lastF f1 f2 name xs.reverse)) none

theorem toList_mk (l : List UInt8) : (⟨l.toArray⟩ : ByteArray).toList = l := by simp

theorem lastR_F {α : Type} (f1 f2 : α → List UInt8) (name : List UInt8) (na vl : Nat → ByteArray) : ∀ (ys : List α), (∀ i x, ys.reverse[i]? = some x → na i = ⟨(f1 x).toArray⟩ ∧ vl i = ⟨(f2 x).toArray⟩) →
    lastR na vl ⟨name.toArray⟩ ys.length = .tuple #[.string ⟨(lastF f1 f2 name ys).1.toArray⟩, .bool (lastF f1 f2 name ys).2]
  | [], _ => rfl
  | y :: ys, h => by
    obtain ⟨h1, h2⟩ := h ys.length y (by simp)
    rw [List.length_cons, lastR, h1, toList_mk, toList_mk, lastF, h2]
    cases hb : f1 y == name with
    | true => rfl
    | false =>
      simp only [cond_false]
      refine lastR_F f1 f2 name na vl ys fun i x hx => h i x ?_
      rw [List.reverse_cons, List.getElem?_append_left (by obtain ⟨hl, _⟩ := List.getElem?_eq_some_iff.1 hx; exact hl)]
      exact hx

theorem sim_last {c : Cfg T} (hP : c.P = Tryd.prog) (f1 f2 : T 27 → List UInt8) (henc : ∀ x, c.cod.enc 27 x = [.s (f1 x), .s (f2 x)]) {xs : List (T 27)} {name : List UInt8} {r : List UInt8 × Bool} (h : lastS f1 f2 xs name = some r) :
    Sim c 22 [.d (.l 27 xs), .d (.s name)] [] [.d (.s r.1), .d (.b r.2)] [] := by
  unfold lastS at h
  obtain ⟨h1, rfl⟩ := cond_someD h
  have h1 := Nat.le_of_ble_eq_true h1
  refine pure_sim (y := .tuple #[.string ⟨(lastF f1 f2 name xs.reverse).1.toArray⟩, .bool (lastF f1 f2 name xs.reverse).2]) ⟨Tryd.f22, by rw [hP]; exact Tryd.func22, by kernel_rfl, by kernel_rfl⟩ (fun η w => ?_) fun w vs η hH hx => ?_
  · simp only [pack, RV, RVs]
    exact ⟨_, rfl, _, _, rfl, .s _, _, _, rfl, .b _, rfl⟩
  · simp only [RVs, RV] at hx
    obtain ⟨v1, _, rfl, hv1, v2, _, rfl, hv2, rfl⟩ := hx
    cases hv2
    rw [hP]
    obtain ⟨a, cap, rfl, hcs⟩ : ∃ a cap, v1 = .slice a xs.length cap ∧ (xs.length = 0 ∨ ∃ b off, a = some ⟨b, off, none⟩ ∧ b < w.heap.size ∧ ∀ k, k < xs.length → w.cell? ⟨b, off + k * 2, none⟩ = some (.string ((xs[k]?.map fun x => (⟨(f1 x).toArray⟩ : ByteArray)).getD ByteArray.empty)) ∧
        w.cell? ⟨b, off + k * 2 + 1, none⟩ = some (.string ((xs[k]?.map fun x => (⟨(f2 x).toArray⟩ : ByteArray)).getD ByteArray.empty))) := by
      cases hv1 with
      | nil => exact ⟨_, _, rfl, .inl rfl⟩
      | l _ _ b o cap vals hok hlt hcap hc hv =>
        refine ⟨_, _, rfl, .inr ⟨b, o, rfl, hlt, fun k hk => ?_⟩⟩
        have hsz : (rc c).sz 27 = 2 := by show c.P.cellsOf 27 = 2; rw [hP]; kernel_rfl
        have e0 : ((rc c).cod.enc 27 xs[k])[0]? = some (.s (f1 xs[k])) := by show (c.cod.enc 27 xs[k])[0]? = _; rw [henc]; rfl
        have e1 : ((rc c).cod.enc 27 xs[k])[1]? = some (.s (f2 xs[k])) := by show (c.cod.enc 27 xs[k])[1]? = _; rw [henc]; rfl
        have c0 := hc k 0 hk _ e0
        have c1 := hc k 1 hk _ e1
        have v0 := hv k 0 hk _ e0
        have v1 := hv k 1 hk _ e1
        rw [hsz] at c0 c1
        generalize vals k 0 = u0 at c0 v0
        generalize vals k 1 = u1 at c1 v1
        cases v0; cases v1
        rw [List.getElem?_eq_getElem hk]
        exact ⟨c0, c1⟩
    refine ((last_in Fence.wide 3 trivial trivial trivial rfl (Nat.le_refl _) a xs.length cap h1 ⟨name.toArray⟩ (fun k => (xs[k]?.map fun x => (⟨(f1 x).toArray⟩ : ByteArray)).getD ByteArray.empty) (fun k => (xs[k]?.map fun x => (⟨(f2 x).toArray⟩ : ByteArray)).getD ByteArray.empty) w hcs).calls (fun k d hd => by cases hd)).mono ?_
    rintro e W' ⟨rfl, hb⟩
    refine ⟨?_, hb⟩
    have := lastR_F f1 f2 name (fun k => (xs[k]?.map fun x => (⟨(f1 x).toArray⟩ : ByteArray)).getD ByteArray.empty) (fun k => (xs[k]?.map fun x => (⟨(f2 x).toArray⟩ : ByteArray)).getD ByteArray.empty) xs.reverse (fun i x hx => by
      rw [List.reverse_reverse] at hx
      simp [hx])
    rw [List.length_reverse] at this
    rw [this]

/-- The same at a list that is nil. -/
theorem sim_last_ns {c : Cfg T} (hP : c.P = Tryd.prog) (f1 f2 : T 27 → List UInt8) (henc : ∀ x, c.cod.enc 27 x = [.s (f1 x), .s (f2 x)]) (name : List UInt8) :
    Sim c 22 [.d .ns, .d (.s name)] [] [.d (.s []), .d (.b false)] [] := by
  have h := sim_last (c := c) hP f1 f2 henc (xs := []) (name := name) (r := ([], false)) rfl
  refine ⟨h.1, h.2.1, fun η w vs hH hfr hx => h.2.2 η w vs hH hfr ?_⟩
  simp only [RVs, RV] at hx ⊢
  obtain ⟨v1, xs', rfl, hv1, h2⟩ := hx
  cases hv1
  exact ⟨_, _, rfl, .nil _ _ _, h2⟩

end Go.Ev.Bw
