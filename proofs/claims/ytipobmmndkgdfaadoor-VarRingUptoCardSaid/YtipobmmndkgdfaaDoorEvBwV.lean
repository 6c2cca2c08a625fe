/- vars.last of seat YtahodlnphioepaaDoor: the last value of a name: 'for _, v := range slices.Backward(l) { if v.Name == name { return v.Value, true } }'. No condition beyond those that each theorem names. -/
import Derived.Test.YtipobmmndkgdfaaDoorEvLib
import Derived.Test.YtipobmmndkgdfaaDoorEvShL
import Derived.RangeFuncBox
import Derived.RangeFuncLeaves
import Derived.RangeFuncRecord
import Derived.RangeFuncFrom
import Derived.Shelf.Abstract
import Derived.WalkKit
import Derived.OwnWalkIn
import Derived.TacticsInMore
import Derived.LoopNIn
import Derived.LoopIn
import Derived.Test.YtipobmmndkgdfaaDoorProg
set_option linter.unusedVariables false
set_option linter.unusedSimpArgs false
namespace Go.Ev.Bw
open Go.RowKit Go.Shelf Go.Proofs

attribute [local go_sem] Oper.semAt_some

set_option maxRecDepth 100000 in
set_option maxHeartbeats 2000000 in
theorem back_in (F : Fence) (n : Nat) (hf : F.fn 43) (hro : F.round = none) (hn : 1 ≤ n) (l Bs n₀ b off len cap : Nat) (va vb : Nat → Value) (w1 W0 : World) (hB : Bs < n₀) (hb : b < n₀) (hlen : len ≤ 281474976710656) (J Jx : Nat → World → Prop)
    (hBs : w1.cell? ⟨Bs, 0, none⟩ = some (.slice (some ⟨b, off, none⟩) len cap))
    (hc : ∀ k, k < len → w1.cell? ⟨b, off + k * 2, none⟩ = some (va k) ∧ w1.cell? ⟨b, off + k * 2 + 1, none⟩ = some (vb k))
    (hJB : ∀ k W, J k W → Below n₀ w1 W)
    (hY : ∀ k W, J k W → k < len → YieldAt F (n - 1) Tryd.prog l #[.int .i64 ((len : Int) - 1 - k), Value.agg #[va (len - 1 - k), vb (len - 1 - k)]] W fun e W' => (e = .returned (.bool true) ∧ J (k + 1) W') ∨ (e = .returned (.bool false) ∧ Jx k W'))
    (h0 : J 0 W0) :
    CallsIn F n Tryd.prog 43 #[.func (.yield l) #[] #[], .pointer (some ⟨Bs, 0, none⟩)] W0 fun e W' => (∃ v, e = .returned v) ∧ (J len W' ∨ ∃ k, k < len ∧ Jx k W') := by
  refine callsIn_of_wp Tryd.func43 rfl hf ?_ hro
  simp only [Tryd.ntmps43, List.size_toArray, List.length_cons, List.length_nil, Nat.reduceAdd, Nat.reduceSub, Array.replicate_succ, Array.replicate_zero, List.push_toArray, List.append_toArray, List.nil_append, List.cons_append]
  have u41 := Tryd.underlying22
  have hb0 := ((hJB 0 W0 h0).cell (p := ⟨Bs, 0, none⟩) hB).trans hBs
  gi_wp2
  gi_loopw [3] (fun i wr => ∃ k : Nat, k ≤ len ∧ i = .int .i64 ((len : Int) - 1 - k) ∧ J k wr)
    (fun i _ => (intOf i + 1).toNat)
  case atStart => exact ⟨0, Nat.zero_le _, by simp, h0⟩
  case round =>
    obtain ⟨k, hk, rfl, hJs⟩ := hrel
    have hnx := hJB k wr hJs
    have hbs := (hnx.cell (p := ⟨Bs, 0, none⟩) hB).trans hBs
    by_cases hlt : k < len
    · obtain ⟨fn, tmps, assign, body, hy, hR⟩ := hY k wr hJs hlt
      have hca := (hnx.cell (p := ⟨b, off + (len - 1 - k) * 2, none⟩) hb).trans (hc (len - 1 - k) (by omega)).1
      have hcb := (hnx.cell (p := ⟨b, off + (len - 1 - k) * 2 + 1, none⟩) hb).trans (hc (len - 1 - k) (by omega)).2
      gi_wp2
      refine hR.mono ?_
      rintro e W3 (⟨rfl, hJ3⟩ | ⟨rfl, hJx3⟩)
      · gi_wp2
        go_roundw
        case rel => exact ⟨k + 1, by omega, by simp; omega, hJ3⟩
        case measure => simp [intOf]; omega
      · gi_wp2
        refine bodyPost_ret (results_none rfl _ _ _) rfl ?_
        exact ⟨⟨_, rfl⟩, .inr ⟨k, hlt, hJx3⟩⟩
    · obtain rfl : k = len := by omega
      gi_wp2
      go_end0
      exact ⟨⟨_, rfl⟩, .inl hJs⟩

set_option maxRecDepth 100000 in
set_option maxHeartbeats 2000000 in
theorem back_nil (F : Fence) (n : Nat) (hf : F.fn 43) (hro : F.round = none) (l Bs : Nat) (a : Option Addr) (cap : Nat) (W0 : World) (J : World → Prop)
    (hBs : W0.cell? ⟨Bs, 0, none⟩ = some (.slice a 0 cap)) (h0 : J W0) :
    CallsIn F n Tryd.prog 43 #[.func (.yield l) #[] #[], .pointer (some ⟨Bs, 0, none⟩)] W0 fun e W' => (∃ v, e = .returned v) ∧ J W' := by
  refine callsIn_of_wp Tryd.func43 rfl hf ?_ hro
  simp only [Tryd.ntmps43, List.size_toArray, List.length_cons, List.length_nil, Nat.reduceAdd, Nat.reduceSub, Array.replicate_succ, Array.replicate_zero, List.push_toArray, List.append_toArray, List.nil_append, List.cons_append]
  have u41 := Tryd.underlying22
  gi_wp2
  gi_loopw [3] (fun i wr => i = .int .i64 (-1) ∧ J wr) (fun i _ => 0)
  case atStart => exact ⟨by simp, h0⟩
  case round =>
    obtain ⟨rfl, hJs⟩ := hrel
    gi_wp2
    go_end0
    exact ⟨⟨_, rfl⟩, hJs⟩

set_option maxHeartbeats 1000000 in
theorem back0_in (F : Fence) (n : Nat) (hf : F.fn 35) (hro : F.round = none) (a : Option Addr) (len cap : Nat) (w : World) :
    CallsIn F n Tryd.prog 35 #[.slice a len cap] w fun e w' => e = .returned (.func (.func 43) #[] #[.pointer (some ⟨w.heap.size, 0, none⟩)]) ∧ w' = w.alloc (.cells #[.slice a len cap] 22) := by
  refine callsIn_of_wp Tryd.func35 rfl hf ?_ hro
  simp only [Tryd.ntmps35, List.size_toArray, List.length_cons, List.length_nil, Nat.reduceAdd, Nat.reduceSub, Array.replicate_succ, Array.replicate_zero, List.push_toArray, List.append_toArray, List.nil_append, List.cons_append]
  have u41 := Tryd.underlying22
  gi_wp2
  go_ret
  exact ⟨rfl, rfl⟩

def Same (a b : Nat) : Prop := a = b

/-- The last of those of a name. -/
def lastR (na vl : Nat → ByteArray) (name : ByteArray) : Nat → Value
  | 0 => .tuple #[.string ByteArray.empty, .bool false]
  | k + 1 => bif (na k).toList == name.toList then .tuple #[.string (vl k), .bool true] else lastR na vl name k

theorem lastR_none {na vl : Nat → ByteArray} {name : ByteArray} : ∀ len, (∀ i, i < len → ((na i).toList == name.toList) = false) → lastR na vl name len = .tuple #[.string ByteArray.empty, .bool false]
  | 0, _ => rfl
  | k + 1, h => by rw [lastR, h k (by omega), cond_false]; exact lastR_none k fun i hi => h i (by omega)

theorem lastR_some {na vl : Nat → ByteArray} {name : ByteArray} : ∀ len i, i < len → ((na i).toList == name.toList) = true → (∀ j, i < j → j < len → ((na j).toList == name.toList) = false) → lastR na vl name len = .tuple #[.string (vl i), .bool true]
  | 0, i, h, _, _ => by omega
  | k + 1, i, h, he, hj => by
    rw [lastR]
    by_cases hk : i = k
    · subst hk; rw [he, cond_true]
    · rw [hj k (by omega) (by omega), cond_false]; exact lastR_some k i (by omega) he fun j h1 h2 => hj j h1 (by omega)

set_option maxRecDepth 100000 in
set_option maxHeartbeats 4000000 in
theorem last_in (F : Fence) (n : Nat) (h65 : F.fn 22) (h95 : F.fn 35) (h134 : F.fn 43) (hro : F.round = none) (hn : 3 ≤ n) (a : Option Addr) (len cap : Nat) (hlen : len ≤ 281474976710656) (name : ByteArray) (na vl : Nat → ByteArray) (w : World)
    (hc : len = 0 ∨ ∃ b off, a = some ⟨b, off, none⟩ ∧ b < w.heap.size ∧ ∀ k, k < len → w.cell? ⟨b, off + k * 2, none⟩ = some (.string (na k)) ∧ w.cell? ⟨b, off + k * 2 + 1, none⟩ = some (.string (vl k))) :
    CallsIn F n Tryd.prog 22 #[.slice a len cap, .string name] w fun e W' => e = .returned (lastR na vl name len) ∧ Below w.heap.size w W' := by
  have h1 : 1 ≤ n := by omega
  have u41 := Tryd.underlying22
  have u40 := Tryd.underlying27
  have u9 := Tryd.underlying9
  have u4 := Tryd.underlying4
  refine callsIn_of_wp_marks Tryd.func22 rfl h65 ?_ hro
  simp only [Tryd.ntmps22, List.size_toArray, List.length_cons, List.length_nil, Nat.reduceAdd, Nat.reduceSub, Array.replicate_succ, Array.replicate_zero, List.push_toArray, List.append_toArray, List.nil_append, List.cons_append]
  gi_wp2_with (gi_at_call 35; refine (back0_in F (n - 1) h95 hro _ _ _ _).mono ?_; rintro e w' ⟨rfl, rfl⟩)
  generalize hw1 : ((((w.alloc (Obj.cells #[Value.string name] 9)).alloc (Obj.cells #[Value.string { data := #[] }] 9)).alloc (Obj.cells #[Value.bool false] 4)).alloc (Obj.cells #[Value.slice a len cap] 22)) = w1
  obtain ⟨N, hN⟩ : ∃ N, N = w.heap.size := ⟨_, rfl⟩
  rw [← hN] at hc ⊢
  have hsz : w1.heap.size = N + 4 := by rw [← hw1]; simp [hN]
  have hBw : Below N w w1 := by rw [← hw1, hN]; exact ((((Below.refl _ w).alloc (Nat.le_refl _) _).alloc (by simp) _).alloc (by simp; omega) _).alloc (by simp; omega) _
  have b0 := Boxed.new w 9 (.string name)
  have b1 := Boxed.new (w.alloc (Obj.cells #[Value.string name] 9)) 9 (.string { data := #[] })
  have b2 := Boxed.new ((w.alloc (Obj.cells #[Value.string name] 9)).alloc (Obj.cells #[Value.string { data := #[] }] 9)) 4 (.bool false)
  have b3 := Boxed.new (((w.alloc (Obj.cells #[Value.string name] 9)).alloc (Obj.cells #[Value.string { data := #[] }] 9)).alloc (Obj.cells #[Value.bool false] 4)) 22 (.slice a len cap)
  simp only [World.size_alloc, ← hN] at b0 b1 b2 b3
  replace b0 : Boxed w1 N 9 (.string name) := by rw [← hw1]; exact ((b0.alloc (Obj.cells #[Value.string { data := #[] }] 9)).alloc (Obj.cells #[Value.bool false] 4)).alloc (Obj.cells #[Value.slice a len cap] 22)
  replace b1 : Boxed w1 (N + 1) 9 (.string { data := #[] }) := by rw [← hw1]; exact (b1.alloc (Obj.cells #[Value.bool false] 4)).alloc (Obj.cells #[Value.slice a len cap] 22)
  replace b2 : Boxed w1 (N + 1 + 1) 4 (.bool false) := by rw [← hw1]; exact b2.alloc (Obj.cells #[Value.slice a len cap] 22)
  replace b3 : Boxed w1 (N + 1 + 1 + 1) 22 (.slice a len cap) := by rw [← hw1]; exact b3
  clear hw1
  replace hN : Same N w.heap.size := hN
  refine wpIn_rangeFunc ?_
  intro fn hfn
  rw [hro]
  generalize htm : (#[Value.slice a len cap, Value.string name, undef, Value.pointer (some { block := N, off := 0 }), Value.pointer (some { block := N + 1, off := 0 }), Value.pointer (some { block := N + 1 + 1, off := 0 }), undef, undef, Value.slice a len cap, Value.func (Fn.func 43) #[] #[Value.pointer (some { block := N + 1 + 1 + 1, off := 0 })], undef, undef, undef, undef, undef, undef, undef, undef] : Array Value) = tm
  generalize has : (Code.region 2 #[{ dst := some 7, op := Op.alloc 27, type := 0, pos := "vars.go:72", after := #[], guard := none }, { dst := none, op := Op.store 27 (Operand.tmp 7) (Operand.tmp 11), type := 0, pos := "vars.go:72", after := #[{ on := 0, ground := Ground.data }, { on := 0, ground := Ground.phase }], guard := none }] false) = assign
  generalize hbo : Code.block 1 _ = body
  obtain ⟨rec, hrec⟩ : ∃ rec : LoopState → Option Code → Loop, rec = fun st pe => { state := st, pending := pe, fn, tmps := tm, params := #[10, 11], assign, body, defers := w1.heap.size } := ⟨_, rfl⟩
  obtain ⟨W1, hW1⟩ : ∃ W1, (w1.alloc (.deferred (some []))).alloc (.loop (rec .ready none)) = W1 := ⟨_, rfl⟩
  have hL1 : W1.heap[N + 5]? = some (.loop (rec .ready none)) := by
    rw [← hW1]; have := World.alloc_heap_new (w1.alloc (.deferred (some []))) (.loop (rec .ready none)); rwa [World.size_alloc, hsz] at this
  have hK1 : W1.heap[N + 4]? = some (.deferred (some [])) := by
    rw [← hW1, ← hsz]; exact (Below.heap_alloc _ _ _ (by simp)).trans (World.alloc_heap_new w1 _)
  have hB1 : Below (N + 4) w1 W1 := by
    rw [← hW1, ← hsz]; exact ((Below.refl _ w1).alloc (Nat.le_refl _) _).alloc (by simp) _
  refine ⟨w1.heap.size + 1, [{ target := .collected w1.heap.size, args := #[] }], W1, { target := .fn (.func 43) #[Value.pointer (some { block := N + 1 + 1 + 1, off := 0 })], args := #[.func (.yield (w1.heap.size + 1)) #[] #[]] }, W1, 43,
    #[.func (.yield (w1.heap.size + 1)) #[] #[]] ++ #[Value.pointer (some { block := N + 1 + 1 + 1, off := 0 })], W1, ?_, ?_, ?_, ?_, fun _ => h1, ?_⟩
  · rw [← hW1, hrec]; exact run_enterLoop_outer _ _ _ _ _
  · rw [← htm]; simp [resolve, go_sem, Act.eval]
  · intro f' hf'; simp [Target.leads] at hf'; subst hf'; exact h134
  · simp [invoke, go_sem, enters_of Tryd.func43 (by kernel_rfl) rfl]
  rw [hsz] at hrec ⊢
  let J : Nat → World → Prop := fun k W => (∀ j, j < k → ((na (len - 1 - j)).toList == name.toList) = false) ∧ Below (N + 4) w1 W ∧ W.heap[N + 5]? = some (.loop (rec .ready none)) ∧ W.heap[N + 4]? = some (.deferred (some []))
  let Jx : Nat → World → Prop := fun k W => (∀ j, j < k → ((na (len - 1 - j)).toList == name.toList) = false) ∧ ((na (len - 1 - k)).toList == name.toList) = true ∧ Below N w W ∧ W.heap[N + 5]? = some (.loop (rec .done (some .ret))) ∧ W.heap[N + 4]? = some (.deferred (some [])) ∧
    W.cell? ⟨N + 1, 0, none⟩ = some (.string (vl (len - 1 - k))) ∧ W.cell? ⟨N + 1 + 1, 0, none⟩ = some (.bool true)
  have hcall : CallsIn F (n - 1) Tryd.prog 43 (#[.func (.yield (N + 4 + 1)) #[] #[]] ++ #[Value.pointer (some { block := N + 1 + 1 + 1, off := 0 })]) W1 fun e W' => (∃ v, e = .returned v) ∧ (J len W' ∨ ∃ k, k < len ∧ Jx k W') := by
    have h0 : J 0 W1 := ⟨fun j h => by omega, hB1, hL1, hK1⟩
    rcases hc with rfl | ⟨b, off, rfl, hb, hcs⟩
    · exact (back_nil F (n - 1) h134 hro _ _ _ _ W1 (J 0) ((hB1.cell (p := ⟨N + 1 + 1 + 1, 0, none⟩) (by show N + 1 + 1 + 1 < N + 4; omega)).trans b3.cell) h0).mono fun e W' ⟨h, hj⟩ => ⟨h, .inl hj⟩
    · refine back_in F (n - 1) h134 hro (by omega) (N + 4 + 1) (N + 1 + 1 + 1) (N + 4) b off len cap (fun k => .string (na k)) (fun k => .string (vl k)) w1 W1 (by omega) (by omega) hlen J Jx b3.cell
        (fun k hk => ⟨(hBw.cell (p := ⟨b, off + k * 2, none⟩) hb).trans (hcs k hk).1, (hBw.cell (p := ⟨b, off + k * 2 + 1, none⟩) hb).trans (hcs k hk).2⟩) (fun k W h => h.2.1) ?_ h0
      rintro k W ⟨hne, hBW, hl, hd⟩ hk
      refine ⟨fn, _, assign, body, by have := run_yield (P := Tryd.prog) (args := #[Value.int .i64 ((len : Int) - 1 - k), Value.agg #[.string (na (len - 1 - k)), .string (vl (len - 1 - k))]]) hl (by rw [hrec]; rfl); rw [hrec] at this; exact this, roundIn_of_wpIn hfn ?_⟩
      subst htm has
      gi_wp2
      have hlt5 : N + 5 < W.heap.size := (Array.getElem?_eq_some_iff.1 hl).1
      obtain ⟨M, hM⟩ : ∃ M, M = W.heap.size := ⟨_, rfl⟩
      rw [← hM] at hlt5 ⊢
      generalize hWa : W.alloc (Obj.cells #[Value.string (na (len - 1 - k)), Value.string (vl (len - 1 - k))] 27) = Wa
      have hla : Wa.heap[N + 5]? = some (.loop (rec .ready none)) := by rw [← hWa]; exact (Below.heap_alloc _ _ _ (by omega)).trans hl
      have hda : Wa.heap[N + 4]? = some (.deferred (some [])) := by rw [← hWa]; exact (Below.heap_alloc _ _ _ (by omega)).trans hd
      have hBWa : Below (N + 4) w1 Wa := by rw [← hWa]; exact hBW.alloc (by omega) _
      have hcl : Wa.heap[M]? = some (Obj.cells #[Value.string (na (len - 1 - k)), Value.string (vl (len - 1 - k))] 27) := by rw [← hWa, hM]; exact World.alloc_heap_new W _
      clear hWa
      replace hM : Same M W.heap.size := hM
      refine ⟨_, run_beginRound hla (by rw [hrec]), ?_⟩
      generalize hWb : Wa.putObj (N + 5) _ = Wb
      have hlb : Wb.heap[N + 5]? = some (.loop { rec .ready none with state := .busy }) := by rw [← hWb]; exact World.putObj_heap_same (Array.getElem?_eq_some_iff.1 hla).1
      have hdb : Wb.heap[N + 4]? = some (.deferred (some [])) := by rw [← hWb]; exact (World.putObj_heap_other (by omega)).trans hda
      have hBWb : Below (N + 4) w1 Wb := by rw [← hWb]; exact hBWa.trans (belowK_b (w := w1) (by omega) Wa (N + 5) _ _ (by omega) hla rfl rfl)
      have hcb : Wb.heap[M]? = some (Obj.cells #[Value.string (na (len - 1 - k)), Value.string (vl (len - 1 - k))] 27) := by rw [← hWb]; exact (World.putObj_heap_other (by omega)).trans hcl
      have m0 : Wb.cell? ⟨M, 0, none⟩ = some (.string (na (len - 1 - k))) := by simp [World.cell?, hcb]
      have m1 : Wb.cell? ⟨M, 1, none⟩ = some (.string (vl (len - 1 - k))) := by simp [World.cell?, hcb]
      have d0 : Boxed Wb N 9 (.string name) := (hBWb.block N (by omega)).trans b0
      have d1 : Boxed Wb (N + 1) 9 (.string { data := #[] }) := (hBWb.block (N + 1) (by omega)).trans b1
      have d2 : Boxed Wb (N + 1 + 1) 4 (.bool false) := (hBWb.block (N + 1 + 1) (by omega)).trans b2
      have e0 := d0.cell; have e1 := d1.cell; have e2 := d2.cell; have q1 := d1.frozen; have q2 := d2.frozen
      clear hWb
      subst hbo
      gi_wp2
      · rename_i heq
        generalize hWc : (Wb.setCell ⟨N + 1, 0, none⟩ (Value.string (vl (len - 1 - k)))).setCell ⟨N + 1 + 1, 0, none⟩ (Value.bool true) = Wc
        have hlc : Wc.heap[N + 5]? = some (.loop { rec .ready none with state := .busy }) := by rw [← hWc]; exact (KeepsOthers.setCell _ _ _).same (N + 5) _ ((KeepsOthers.setCell _ _ _).same (N + 5) _ hlb rfl) rfl
        have hdc : Wc.heap[N + 4]? = some (.deferred (some [])) := by rw [← hWc]; exact (KeepsOthers.setCell _ _ _).same (N + 4) _ ((KeepsOthers.setCell _ _ _).same (N + 4) _ hdb rfl) rfl
        have hBc : Below N w Wc := by rw [← hWc]; exact ((hBw.trans (hBWb.mono (by omega))).setCell (p := ⟨N + 1, 0, none⟩) (by show N ≤ N + 1; omega) _).setCell (p := ⟨N + 1 + 1, 0, none⟩) (by show N ≤ N + 1 + 1; omega) _
        have g1 : Wc.cell? ⟨N + 1, 0, none⟩ = some (.string (vl (len - 1 - k))) := by
          rw [← hWc]; exact (World.cell?_setCell_other _ _ _ _ (by simp)).trans (World.cell?_setCell_same' _ _ _ (by rw [e1]; rfl))
        have g2 : Wc.cell? ⟨N + 1 + 1, 0, none⟩ = some (.bool true) := by
          rw [← hWc]; exact World.cell?_setCell_same' _ _ _ (by have := (World.cell?_setCell_other Wb ⟨N + 1, 0, none⟩ ⟨N + 1 + 1, 0, none⟩ (Value.string (vl (len - 1 - k))) (by simp)).trans e2; rw [this]; rfl)
        have hend := run_endRound (P := Tryd.prog) (some Code.ret) hlc
        refine ⟨_, _, hend, .inr ⟨rfl, hne, heq, ?_, ?_, ?_, ?_, ?_⟩⟩
        · exact hBc.trans (belowK_b (w := w) (Nat.le_of_eq hN) _ (N + 5) _ _ (by rw [← (hN : N = w.heap.size)]; omega) hlc rfl rfl)
        · rw [hrec]; exact World.putObj_heap_same (Array.getElem?_eq_some_iff.1 hlc).1
        · exact (World.putObj_heap_other (by omega)).trans hdc
        · exact cell_kept g1 (grownBy_putObj' _ _ _) (by rintro r ⟨⟩; exact ⟨_, hlc, rfl⟩)
        · exact cell_kept g2 (grownBy_putObj' _ _ _) (by rintro r ⟨⟩; exact ⟨_, hlc, rfl⟩)
      · rename_i heq
        have hend := run_endRound (P := Tryd.prog) none hlb
        refine ⟨_, _, hend, .inl ⟨rfl, ?_, ?_, ?_, ?_⟩⟩
        · intro j hj
          rcases Nat.lt_or_ge j k with h | h
          · exact hne j h
          · obtain rfl : j = k := by omega
            exact heq
        · exact hBWb.trans (belowK_b (w := w1) (by omega) Wb (N + 5) _ _ (by omega) hlb rfl rfl)
        · rw [hrec]; exact World.putObj_heap_same (Array.getElem?_eq_some_iff.1 hlb).1
        · exact (World.putObj_heap_other (by omega)).trans hdb
  refine hcall.mono ?_
  rintro e W2 ⟨⟨v, rfl⟩, ⟨hne, hBW, hl, hd⟩ | ⟨k, hk, hne, hna, hBW, hl, hd, hc1, hc2⟩⟩
  · refine ⟨none, _, by have := run_endLoop (P := Tryd.prog) hl (by rw [hrec]; simp); rw [hrec] at this; exact this, ?_⟩
    generalize hW3 : W2.putObj (N + 5) _ = W3
    have g3 : W2.grownBy W3 (some (N + 5)) := hW3 ▸ grownBy_putObj' _ _ _
    have hr3 : ∀ r, some (N + 5) = some r → ∃ o : Go.Obj, W2.heap[r]? = some o ∧ o.isCells = false := by rintro r ⟨⟩; exact ⟨_, hl, rfl⟩
    have b1' : Boxed W2 (N + 1) 9 (.string { data := #[] }) := (hBW.block (N + 1) (by omega)).trans b1
    have b2' : Boxed W2 (N + 1 + 1) 4 (.bool false) := (hBW.block (N + 1 + 1) (by omega)).trans b2
    have c1 := cell_kept b1'.cell g3 hr3
    have c2 := cell_kept b2'.cell g3 hr3
    have f1 := (frozen_kept b1'.cell g3 hr3).trans b1'.frozen
    have f2 := (frozen_kept b2'.cell g3 hr3).trans b2'.frozen
    have hd3 : W3.heap[N + 4]? = some (.deferred (some [])) := by rw [← hW3]; exact (World.putObj_heap_other (by omega)).trans hd
    subst htm
    gi_wp2
    generalize hW4 : (W3.setCell ⟨N + 1, 0, none⟩ (Value.string { data := #[] })).setCell ⟨N + 1 + 1, 0, none⟩ (Value.bool false) = W4
    have hd4 : W4.heap[N + 4]? = some (.deferred (some [])) := by rw [← hW4]; exact (KeepsOthers.setCell _ _ _).same (N + 4) _ ((KeepsOthers.setCell _ _ _).same (N + 4) _ hd3 rfl) rfl
    have g1 : W4.cell? ⟨N + 1, 0, none⟩ = some (.string { data := #[] }) := by
      rw [← hW4]; exact (World.cell?_setCell_other _ _ _ _ (by simp)).trans (World.cell?_setCell_same' _ _ _ (by rw [c1]; rfl))
    have g2 : W4.cell? ⟨N + 1 + 1, 0, none⟩ = some (.bool false) := by
      rw [← hW4]; exact World.cell?_setCell_same' _ _ _ (by have := (World.cell?_setCell_other W3 ⟨N + 1, 0, none⟩ ⟨N + 1 + 1, 0, none⟩ (Value.string { data := #[] }) (by simp)).trans c2; rw [this]; rfl)
    have hB3 : Below N w W3 := by rw [← hW3]; exact (hBw.trans (hBW.mono (by omega))).trans (belowK_b (w := w) (Nat.le_of_eq hN) _ (N + 5) _ _ (by rw [← (hN : N = w.heap.size)]; omega) hl rfl rfl)
    have hB4 : Below N w W4 := by rw [← hW4]; exact (hB3.setCell (p := ⟨N + 1, 0, none⟩) (by show N ≤ N + 1; omega) _).setCell (p := ⟨N + 1 + 1, 0, none⟩) (by show N ≤ N + 1 + 1; omega) _
    refine ⟨by simp, .inl ⟨_, _, rfl, run_takeDeferred hd4, ?_⟩⟩
    have k1 := cell_kept g1 (grownBy_putObj' _ (N + 4) (.deferred none)) (fun r e => by cases e; exact ⟨_, hd4, rfl⟩)
    have k2 := cell_kept g2 (grownBy_putObj' _ (N + 4) (.deferred none)) (fun r e => by cases e; exact ⟨_, hd4, rfl⟩)
    refine ⟨.tuple #[.string ByteArray.empty, .bool false], ?_, ?_, ?_⟩
    · simp [results, Tryd.f22, go_sem, k1, k2]; rfl
    · rw [lastR_none len fun i hi => by have := hne (len - 1 - i) (by omega); rwa [show len - 1 - (len - 1 - i) = i by omega] at this]
    · rw [← (hN : N = w.heap.size)]; exact hB4.trans (belowK_b (w := w) (Nat.le_of_eq hN) _ (N + 4) _ _ (by rw [← (hN : N = w.heap.size)]; omega) hd4 rfl rfl)
  · refine ⟨some .ret, _, by have := run_endLoop (P := Tryd.prog) hl (by rw [hrec]; simp); rw [hrec] at this; exact this, ?_⟩
    generalize hW3 : W2.putObj (N + 5) _ = W3
    have g3 : W2.grownBy W3 (some (N + 5)) := hW3 ▸ grownBy_putObj' _ _ _
    have hr3 : ∀ r, some (N + 5) = some r → ∃ o : Go.Obj, W2.heap[r]? = some o ∧ o.isCells = false := by rintro r ⟨⟩; exact ⟨_, hl, rfl⟩
    have c1 := cell_kept hc1 g3 hr3
    have c2 := cell_kept hc2 g3 hr3
    have hd3 : W3.heap[N + 4]? = some (.deferred (some [])) := by rw [← hW3]; exact (World.putObj_heap_other (by omega)).trans hd
    subst htm
    gi_wp2
    have hB3 : Below N w W3 := by rw [← hW3]; exact hBW.trans (belowK_b (w := w) (Nat.le_of_eq hN) _ (N + 5) _ _ (by rw [← (hN : N = w.heap.size)]; omega) hl rfl rfl)
    refine ⟨by simp, .inl ⟨_, _, rfl, run_takeDeferred hd3, ?_⟩⟩
    have k1 := cell_kept c1 (grownBy_putObj' _ (N + 4) (.deferred none)) (fun r e => by cases e; exact ⟨_, hd3, rfl⟩)
    have k2 := cell_kept c2 (grownBy_putObj' _ (N + 4) (.deferred none)) (fun r e => by cases e; exact ⟨_, hd3, rfl⟩)
    refine ⟨.tuple #[.string (vl (len - 1 - k)), .bool true], ?_, ?_, ?_⟩
    · simp [results, Tryd.f22, go_sem, k1, k2]
    · rw [lastR_some len (len - 1 - k) (by omega) hna fun j h1 h2 => by have := hne (len - 1 - j) (by omega); rwa [show len - 1 - (len - 1 - j) = j by omega] at this]
    · rw [← (hN : N = w.heap.size)]; exact hB3.trans (belowK_b (w := w) (Nat.le_of_eq hN) _ (N + 4) _ _ (by rw [← (hN : N = w.heap.size)]; omega) hd3 rfl rfl)

end Go.Ev.Bw
