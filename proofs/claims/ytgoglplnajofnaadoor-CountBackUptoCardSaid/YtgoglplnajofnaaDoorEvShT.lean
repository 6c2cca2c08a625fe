/- strings.ToLower and strings.ToUpper at every text, as Sims: no condition beyond those that each theorem names. -/
import Derived.Test.YtgoglplnajofnaaDoorEvShI
import Derived.Shelf.Strings.CaseAny
import Derived.Lib.LaidCase
set_option linter.unusedVariables false
set_option linter.unusedSimpArgs false
namespace Go.Ev
open Go.Shelf Go.RowKit Go.Proofs
variable {T : TypeId → Type}

def lowS (s : List UInt8) : Option (List UInt8) := cond (s.length.blt 35184372088832) (some (Lib.toLowerD s)) none
def uppS (s : List UInt8) : Option (List UInt8) := cond (s.length.blt 35184372088832) (some (Lib.toUpperD s)) none

theorem cell_now {c : Cfg T} {η : Eta} {H : List (Obj T)} {w : World} (hH : RelH (rc c) η H w) {a : Addr} {v : Value} (h : c.w0.cell? a = some v) : w.cell? a = some v := by
  have hlt := World.block_lt_of_cell? c.w0 a h
  have hb := (hH.old a.block hlt).2.2.2
  unfold World.cell? at h ⊢
  rw [hb]; exact h

theorem CaseVar.now {c : Cfg T} {η : Eta} {H : List (Obj T)} {w : World} {g : Nat} {A : Array Lib.CaseRow} (h : Lib.CaseVar g A c.w0) (hH : RelH (rc c) η H w) : Lib.CaseVar g A w := by
  obtain ⟨R, oR, cap, h1, h2⟩ := h
  exact ⟨R, oR, cap, cell_now hH h1, fun i hi => ⟨cell_now hH (h2 i hi).1, cell_now hH (h2 i hi).2.1, cell_now hH (h2 i hi).2.2.1, cell_now hH (h2 i hi).2.2.2.1, cell_now hH (h2 i hi).2.2.2.2⟩⟩

theorem Utf8Tabs.now {c : Cfg T} {η : Eta} {H : List (Obj T)} {w : World} {g g' : Nat} (h : Lib.Utf8Tabs g g' c.w0) (hH : RelH (rc c) η H w) : Lib.Utf8Tabs g g' w :=
  ⟨fun x hx => cell_now hH (h.1 x hx), fun i hi => ⟨cell_now hH (h.2 i hi).1, cell_now hH (h.2 i hi).2⟩⟩

theorem one_sT {c : Cfg T} {η : Eta} {w : World} {s : List UInt8} {xs : List Value} (h : RVs (rc c) η w [.d (.s s)] xs) : xs = [.string ⟨s.toArray⟩] := by
  simp only [RVs, RV] at h
  obtain ⟨x, _, rfl, hx, rfl⟩ := h
  cases hx; rfl

theorem sim_lower {c : Cfg T} {ρ : Ren} (L : Lays.n159 c.P ρ) (X : Builder.Extra c.P ρ) (hV : Lib.CaseVar (ρ.g 13) Lib.caseA c.w0) (hT : Lib.Utf8Tabs (ρ.g 3) (ρ.g 4) c.w0) {s r : List UInt8} (h : lowS s = some r) :
    Sim c (ρ.f 159) [.d (.s s)] [] [.d (.s r)] [] := by
  obtain ⟨h1, rfl⟩ := cond_someD h
  rw [Nat.blt_eq] at h1
  refine pure_sim (y := .string ⟨(Lib.toLowerD s).toArray⟩) ⟨_, L.f159, rfl, rfl⟩ (fun η w => by simp only [pack, RV]; exact .s _) fun w xs η hH hx => ?_
  rw [one_sT hx]
  exact Any.strings_ToLower_any L X ⟨s.toArray⟩ w h1 (CaseVar.now hV hH) (Utf8Tabs.now hT hH)

theorem sim_upper {c : Cfg T} {ρ : Ren} (L : Lays.n158 c.P ρ) (X : Builder.Extra c.P ρ) (hV : Lib.CaseVar (ρ.g 13) Lib.caseA c.w0) (hT : Lib.Utf8Tabs (ρ.g 3) (ρ.g 4) c.w0) {s r : List UInt8} (h : uppS s = some r) :
    Sim c (ρ.f 158) [.d (.s s)] [] [.d (.s r)] [] := by
  obtain ⟨h1, rfl⟩ := cond_someD h
  rw [Nat.blt_eq] at h1
  refine pure_sim (y := .string ⟨(Lib.toUpperD s).toArray⟩) ⟨_, L.f158, rfl, rfl⟩ (fun η w => by simp only [pack, RV]; exact .s _) fun w xs η hH hx => ?_
  rw [one_sT hx]
  exact Any.strings_ToUpper_any L X ⟨s.toArray⟩ w h1 (CaseVar.now hV hH) (Utf8Tabs.now hT hH)

end Go.Ev
