/- strings.Builder's Grow at a builder that holds nothing, as a Sim: no condition beyond those that each theorem names. -/
import Derived.Test.YtpeepnieblmhmaaGreatDoorEvShL
import Derived.Shelf.Strings.Builder2
set_option linter.unusedVariables false
set_option linter.unusedSimpArgs false
namespace Go.Ev
open Go.Shelf Go.RowKit Go.Proofs
variable {T : TypeId → Type}

section
variable {P : Program} {ρ : Ren}

/-- A world like another one, but for the numbers drawn. -/
def Like (w w' : World) : Prop := w'.heap = w.heap ∧ w'.os = w.os ∧ w'.tape = w.tape ∧ w'.output = w.output

theorem grew {T72 T5 : TypeId} {w w' : World} {b cap : Nat} {oa : Option Addr} {cs : Array Value} (hbk : w.heap[b]? = some (.cells #[.pointer (some ⟨b, 0, none⟩), .slice oa 0 cap] T72 (0, 0))) (hm : cs.size ≤ maxLen)
    (hl : Like ((w.setCell ⟨b, 1, none⟩ (.slice (some ⟨w.heap.size, 0, none⟩) 0 cs.size)).alloc (.cells cs T5)) w') : BlOut T72 T5 w w' b (.slice oa 0 cap) [] := by
  obtain ⟨h1, h2, h3, h4⟩ := hl
  have hlt : b < w.heap.size := (Array.getElem?_eq_some_iff.1 hbk).1
  have hset := heap_setCell hbk (o := 1) (.slice (some ⟨w.heap.size, 0, none⟩) 0 cs.size)
  simp only [at_] at hset
  generalize hw1 : w.setCell ⟨b, 1, none⟩ (.slice (some ⟨w.heap.size, 0, none⟩) 0 cs.size) = w1 at *
  obtain ⟨s1, s2, s3⟩ := hset
  have hold : ∀ k, k < w.heap.size → w'.heap[k]? = w1.heap[k]? := fun k hk => by
    rw [h1]; exact Lib.alloc_old w1 _ k (by omega)
  have hnew : w'.heap[w.heap.size]? = some (.cells cs T5 (0, 0)) := by
    rw [h1, ← s3]
    exact heap_alloc_new w1 _
  have hsz : w'.heap.size = w.heap.size + 1 := by
    rw [h1, ← s3]
    exact Array.size_push _
  refine ⟨.pointer (some ⟨b, 0, none⟩), .slice (some ⟨w.heap.size, 0, none⟩) 0 cs.size, ⟨?_, .inr rfl, ⟨rfl, .inr ⟨_, _, cs, (0, 0), rfl, Nat.zero_le _, hnew, Nat.zero_le _, Nat.zero_le _, hm, by simp, rfl⟩⟩, ?_⟩, ?_, ⟨?_, ?_, ?_⟩, ?_, ?_⟩
  · rw [hold b hlt]; simpa using s1
  · intro h; simp [Value.ownBlock] at h; omega
  · omega
  · rw [h2, ← hw1]; rfl
  · rw [h3, ← hw1]; rfl
  · rw [h4, ← hw1]; rfl
  · intro k hk hkb _
    rw [hold k hk, s2 k hkb]
  · intro g hg; simp [Value.ownBlock] at hg; exact .inr (by omega)

set_option maxHeartbeats 2000000 in
set_option maxRecDepth 1000000 in
theorem run_grow0 (L : Lays.n241 P ρ) (X : Builder.Extra P ρ) (b n cap : Nat) (oa : Option Addr) (w : World) (hbk : w.heap[b]? = some (.cells #[.pointer (some ⟨b, 0, none⟩), .slice oa 0 cap] (ρ.t 72) (0, 0))) (hn : 2 * cap + n ≤ 281474976710656) :
    Calls P (ρ.f 241) #[.pointer (some ⟨b, 0, none⟩), .int .i64 n] w fun e w' => e = .returned (.tuple #[]) ∧ BlOut (ρ.t 72) (ρ.t 5) w w' b (.slice oa 0 cap) [] := by
  obtain ⟨cs, hrun, hle, hmax⟩ := Lib.run_makeNoZero (P := P) w.drew #[(ρ.t 3)] (ρ.t 37) (ρ.t 5) L.t37 (2 * cap + n) hn
  have hw : IntKind.i64.wrap (IntKind.i64.wrap (2 * (cap : Int)) + (n : Int)) = ((2 * cap + n : Nat) : Int) := by
    rw [IntKind.wrap_i64, IntKind.wrap_i64]
    omega
  have hcall : (callFunc (ρ.f 277) #[.int .i64 (IntKind.i64.wrap (IntKind.i64.wrap (2 * (cap : Int)) + (n : Int)))]).run P w.drew = .ok (.value (.slice (some ⟨w.drew.heap.size, 0, none⟩) (2 * cap + n) cs.size)) (w.drew.drew.drew.alloc (.cells cs (ρ.t 5))) := by
    rw [hw, run_callFunc_extern L.f277 (by kernel_rfl) (by kernel_rfl) (by kernel_rfl) (e := Extern.BytealgMakeNoZero.makeNoZero #[(ρ.t 3)] #[(ρ.t 37)]) (by kernel_rfl), hrun]
    rfl
  have hlt : b < w.heap.size := (Array.getElem?_eq_some_iff.1 hbk).1
  have c1 : w.drew.cell? ⟨b, 1, none⟩ = some (.slice oa 0 cap) := by
    have : w.drew.heap[b]? = _ := hbk
    rw [Lib.cell_of_heap this]; rfl
  have c2 : (w.alloc (.cells cs (ρ.t 5))).cell? ⟨b, 1, none⟩ = some (.slice oa 0 cap) := by
    have : (w.alloc (.cells cs (ρ.t 5))).heap[b]? = _ := (Lib.alloc_old w _ b hlt).trans hbk
    rw [Lib.cell_of_heap this]; rfl
  have f2 : (w.alloc (.cells cs (ρ.t 5))).frozen? ⟨b, 1, none⟩ = false := Lib.frozen_of_heap ((Lib.alloc_old w _ b hlt).trans hbk) 1
  have hcopy : ∀ W : World, (Builtin.copy_ #[(ρ.t 37), (ρ.t 37)] (ρ.t 3) #[.slice (some ⟨w.heap.size, 0, none⟩) 0 cs.size, .slice oa 0 cap]).run P W = .ok (goInt 0) W :=
    fun W => run_copy_none W (ρ.t 37) (ρ.t 37) (ρ.t 3) (ρ.t 5) _ _ 0 cs.size 0 cap L.t37 X.sizeByte rfl
  clear hw
  have mixed := L.mixed
  have t72 := L.t72; have a72 := L.a72; have z72 := L.z72; have v72 := L.v72; have u72 := run_underlying L.t72
  have t70 := L.t70; have a70 := L.a70; have z70 := L.z70; have v70 := L.v70; have u70 := run_underlying L.t70
  have t37 := L.t37; have a37 := L.a37; have z37 := L.z37; have v37 := L.v37; have u37 := run_underlying L.t37
  have t3 := L.t3; have a3 := L.a3; have z3 := L.z3; have v3 := L.v3; have u3 := run_underlying L.t3
  have t5 := X.t5; have a5 := X.a5; have z5 := X.z5; have v5 := X.v5; have u5 := run_underlying X.t5
  have hfin : ∀ W, Like ((w.setCell ⟨b, 1, none⟩ (.slice (some ⟨w.heap.size, 0, none⟩) 0 cs.size)).alloc (.cells cs (ρ.t 5))) W → BlOut (ρ.t 72) (ρ.t 5) w W b (.slice oa 0 cap) [] :=
    fun W hW => grew hbk (hmax (by unfold maxLen; omega)) hW
  go_enter L.f241, Body.n241_ntmps ρ
  go_wp2
  go_region_o
  all_goals (go_wp2; go_end0; exact ⟨rfl, hfin _ ⟨rfl, rfl, rfl, rfl⟩⟩)
end

end Go.Ev
