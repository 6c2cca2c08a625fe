/- A part of the evaluator of Go code over small heaps and of its proof: no condition beyond those that each theorem names. -/
import Derived.Test.YtafbhggbkhckaaaEvDraw3
set_option linter.unusedVariables false
set_option linter.unusedSimpArgs false
set_option linter.constructorNameAsVariable false
namespace Go.Ev
variable {T : TypeId → Type}

section
variable {c : Cfg T} {nt n : Nat} {ops : Array Oper} {S : Nat → St T} {L : List Nat} {dn : Nat → Prop} {η : Eta} {a : Act} {w : World} {j : Nat} {o : Oper}

theorem draw_step (hc : Fine c) (hF : Facts ops n L) (hreg : Reg nt ops) (hT : Trace c ops n S) (hI : DrawInv c nt ops S n L dn η a w) (hr : Ready ops L dn n j o) {Q : Exit → Act → World → Prop} {Kn : Act → World → Prop}
    (hKn : ∀ η' a' w', DrawInv c nt ops S n L (fun k => dn k ∨ k = j) η' a' w' → Evo η η' w w' → Keeps η η' → Kn a' w') : wpOp c.P ops Q j Kn a w := by
  obtain ⟨o', ho', hs⟩ := hT.step j hr.lt
  rw [hr.op] at ho'; cases ho'
  unfold wpOp
  simp only [hr.op]
  have hR := hr.rd hF hT hI
  have hlow : ∀ os : List (Obj T), (S (j + 1)).heap = (S j).heap ++ os → Fresh η (S j).heap.length os.length := fun os hh id h1 h2 => hI.low j hr.lt hr.nd id h1 (by rw [hh]; simpa using h2)
  generalize hsj : S (j + 1) = sj at hs
  cases hs with
  | val os v hg he =>
    have hw : Region.wanted o (yielded ops a.tmps) = true := by simp [Region.wanted, hg]
    have hnog : ∀ hh : Nat × Bool, o.guard = some hh → False := fun hh h' => by rw [hg] at h'; cases h'
    rw [if_pos hw]
    left
    unfold Oper.wp
    have hh : (S (j + 1)).heap = (S j).heap ++ os := by rw [hsj, set_heap]
    have hok := effE_ok hc hR (G := []) (fun _ hm => by simp at hm) (fun ok os' v' h => by cases h; exact hlow os hh) he
    obtain ⟨x, w', η', hres, hv, hN⟩ := hok rfl
    obtain ⟨h1, h2, h3⟩ := hI.next hF hreg hT hr (v := strip v) (x := x) hh (fun t => by rw [hsj, set_env]) hN (fun g p u hu => absurd hu strip_ng) (strip_rv hv) (fun hh h' => (hnog hh h').elim)
    exact upon_skip hres (hKn η' _ w' h1 h2 h3)
  | call e q g x hg he hx hq =>
    have hw : Region.wanted o (yielded ops a.tmps) = true := by simp [Region.wanted, hg]
    have hnog : ∀ hh : Nat × Bool, o.guard = some hh → False := fun hh h' => by rw [hg] at h'; cases h'
    rw [if_pos hw]
    left
    unfold Oper.wp
    have hok := effE_ok hc hR (G := []) (fun _ hm => by simp at hm) (fun ok os' v' h => by cases h) he
    obtain ⟨f, xs, hres, _, hcall⟩ := hok.2 x hx
    obtain ⟨os, hos, hcall⟩ := hcall hq
    have hh : (S (j + 1)).heap = (S j).heap ++ os := by rw [hsj, set_heap]; exact hos
    rw [hres, Oper.upon_enter]
    refine Calls.mono hcall ?_
    rintro e' w' ⟨y, η', rfl, hv, hN⟩
    obtain ⟨h1, h2, h3⟩ := hI.next hF hreg hT hr (v := strip (pack (e.enc x).1)) (x := y) hh (fun t => by rw [hsj, set_env]) hN (fun g p u hu => absurd hu strip_ng) (strip_rv hv) (fun hh h' => (hnog hh h').elim)
    exact hKn η' _ w' h1 h2 h3
  | gval gd q ok v hg hl he hok0 =>
    have hG : IsG ops gd.1 := ⟨j, o, gd.2, hr.op, by rw [hg]⟩
    have hlt := hreg.lt j o gd.1 gd.2 hr.op (by rw [hg])
    have hdg := hr.pre gd.1 (hF.guard j o gd.1 gd.2 hr.lt hr.op hg)
    have hh : (S (j + 1)).heap = (S j).heap ++ [] := by rw [hsj, set_heap]; simp
    by_cases hw : Region.wanted o (yielded ops a.tmps) = true
    · have hp : Passed ops a gd := by
        simp only [Region.wanted, hg, beq_iff_eq] at hw
        exact hw
      rw [if_pos hw]
      left
      unfold Oper.wp
      have hch := chain_done hF hreg hI 20 gd hdg hG hlt hp
      have hq1 := letsD_ok hreg hT hI hr _ q hch hl
      subst hq1
      have hok := effE_ok hc hR (fun h hm => (hch h hm).1) (fun ok' os' v' h => by cases h; exact hlow [] hh) he
      simp only [Bool.not_true, Bool.or_false] at hok0
      obtain ⟨x, w', η', hres, hv, hN⟩ := hok hok0
      obtain ⟨h1, h2, h3⟩ := hI.next hF hreg hT hr (v := .gd gd.1 gd.2 (strip v)) (x := x) hh (fun t => by rw [hsj, set_env]) hN
        (fun g p u hu => by cases hu; exact ⟨hg, fun _ => strip_rv hv⟩) (by simp only [RV]) (fun hh h' _ => by rw [hg] at h'; cases h'; exact hp)
      exact upon_skip hres (hKn η' _ w' h1 h2 h3)
    · rw [if_neg hw]
      have hnp : ¬ Passed ops a gd := fun hp => hw (by simp only [Region.wanted, hg, beq_iff_eq]; exact hp)
      obtain ⟨h1, h2, h3⟩ := hI.next hF hreg hT hr (η' := η) (w' := w) (v := .gd gd.1 gd.2 (strip v)) (x := undef) hh (fun t => by rw [hsj, set_env]) (.nil rfl (Rest.refl w))
        (fun g p u hu => by cases hu; exact ⟨hg, fun hy => (hnp hy).elim⟩) (by simp only [RV]) (fun hh h' hb => by obtain ⟨b, hb⟩ := hb; cases hb)
      exact hKn η _ w h1 h2 h3
  | gcall gd q e q' g x v hg hl he hx hv' =>
    have hG : IsG ops gd.1 := ⟨j, o, gd.2, hr.op, by rw [hg]⟩
    have hlt := hreg.lt j o gd.1 gd.2 hr.op (by rw [hg])
    have hdg := hr.pre gd.1 (hF.guard j o gd.1 gd.2 hr.lt hr.op hg)
    have hh : (S (j + 1)).heap = (S j).heap ++ [] := by rw [hsj, set_heap]; simp
    by_cases hw : Region.wanted o (yielded ops a.tmps) = true
    · have hp : Passed ops a gd := by
        simp only [Region.wanted, hg, beq_iff_eq] at hw
        exact hw
      rw [if_pos hw]
      left
      unfold Oper.wp
      have hch := chain_done hF hreg hI 20 gd hdg hG hlt hp
      have hq1 := letsD_ok hreg hT hI hr _ q hch hl
      subst hq1
      simp only [cond_true] at hx
      have hok := effE_ok hc hR (fun h hm => (hch h hm).1) (fun ok' os' v' h => by cases h) he
      obtain ⟨hqx, hh1, hh2⟩ := hok.1 x v hv'
      obtain ⟨f, xs, hres, _, hcall⟩ := hok.2 x hx
      obtain ⟨os, hos, hcall⟩ := hcall hqx
      have hos' : os = [] := by
        rw [hh1] at hos
        simpa using hos
      subst hos'
      rw [hres, Oper.upon_enter]
      refine Calls.mono hcall ?_
      rintro e' w' ⟨y, η', rfl, hv, hN⟩
      obtain ⟨h1, h2, h3⟩ := hI.next hF hreg hT hr (v := .gd gd.1 gd.2 (strip v)) (x := y) hh (fun t => by rw [hsj, set_env]) hN
        (fun g p u hu => by
          cases hu
          refine ⟨hg, fun _ => strip_rv ?_⟩
          rw [hh2]
          exact RV.ren (fun _ _ _ h1 => by cases h1) _ _ (.inl fun b hb _ => hb) hv) (by simp only [RV]) (fun hh h' _ => by rw [hg] at h'; cases h'; exact hp)
      exact hKn η' _ w' h1 h2 h3
    · rw [if_neg hw]
      have hnp : ¬ Passed ops a gd := fun hp => hw (by simp only [Region.wanted, hg, beq_iff_eq]; exact hp)
      obtain ⟨h1, h2, h3⟩ := hI.next hF hreg hT hr (η' := η) (w' := w) (v := .gd gd.1 gd.2 (strip v)) (x := undef) hh (fun t => by rw [hsj, set_env]) (.nil rfl (Rest.refl w))
        (fun g p u hu => by cases hu; exact ⟨hg, fun hy => (hnp hy).elim⟩) (by simp only [RV]) (fun hh h' hb => by obtain ⟨b, hb⟩ := hb; cases hb)
      exact hKn η _ w h1 h2 h3

theorem DrawInv.done (hreg : Reg nt ops) (hT : Trace c ops n S) (hI : DrawInv c nt ops S n L dn η a w) (hall : ∀ k, k < n → dn k) : RunInv c nt ops n η (S n) a w := by
  have hlw : ∀ t, ∃ i, i ≤ n ∧ Lw ops dn t i ∧ (S n).env t = (S i).env t := fun t =>
    find_lw hT (Nat.le_refl _) (fun k o hk _ _ => hall k hk) (fun k o hk hnk => by have := hI.bd k hk; omega)
  refine ⟨hI.def0, hI.size, fun t => ?_, fun t g p v hv => ?_, fun g og h hg hG => hI.ch g og h (hall g hg) hG, hI.heap, hI.fresh⟩
  · obtain ⟨i, _, h2, h3⟩ := hlw t
    rw [h3]; exact hI.env t i h2
  · obtain ⟨i, _, h2, h3⟩ := hlw t
    rw [h3] at hv
    obtain ⟨g1, g2, g3⟩ := hI.gd t i g p v h2 hv
    exact ⟨g1, hI.bd g g2, g3⟩
end

/-- The operations that stand in a list. -/
def dnOf (l : Array Bool) (k : Nat) : Prop := l.getD k false = true

theorem dnOf_set {l : Array Bool} {j k : Nat} (hj : j < l.size) : dnOf (l.setIfInBounds j true) k ↔ dnOf l k ∨ k = j := by
  unfold dnOf
  rw [Array.getD_eq_getD_getElem?, Array.getElem?_setIfInBounds, Array.getD_eq_getD_getElem?]
  by_cases h : j = k
  · subst h; simp [hj]
  · simp [h, Ne.symm h]

theorem count_set {l : List Bool} {j m : Nat} (hj : l[j]? = some false) (h : l.count false = m + 1) : (l.set j true).count false = m := by
  have hlt := (List.getElem?_eq_some_iff.1 hj).1
  have := List.count_set (a := true) (b := false) (l := l) (i := j) hlt
  rw [this]
  have h2 : l[j] = false := (List.getElem?_eq_some_iff.1 hj).2
  simp [h2, h]

theorem quietN_le : ∀ (l : List Oper), quietN l ≤ l.length
  | [] => Nat.le_refl _
  | o :: rest => by
    simp only [quietN]
    cases quietOp o.op with
    | true => have := quietN_le rest; simp; omega
    | false => simp

theorem bits_lt {ops : Array Oper} {n : Nat} {L : List Nat} (hF : Facts ops n L) {x : Nat} : ∀ (m : Nat) (o : Oper), ops[m]? = some o → (L.getD m 0).testBit x = true → x < m := by
  intro m
  induction m using Nat.strongRecOn with
  | ind m ih =>
    intro o ho hb
    obtain ⟨h1, h2⟩ := hF.pre m o ho
    rw [h2] at hb
    rcases preOf_bit _ 0 hb with h | ⟨e, he, h⟩
    · simp at h
    · have hlt := (h1 e he).1
      rcases h with h | h
      · omega
      · have hm : m < ops.size := (Array.getElem?_eq_some_iff.1 ho).1
        have he2 : ops[e.on]? = some ops[e.on] := Array.getElem?_eq_getElem (by omega)
        have := ih e.on hlt _ he2 h
        omega

theorem ready_iff {ops : Array Oper} {l : Array Bool} {k : Nat} (h : k ∈ Region.ready .any ops l) : ∃ o, ops[k]? = some o ∧ l.getD k true = false ∧ ∀ e ∈ o.after.toList, Region.binds .any e = true → dnOf l e.on := by
  unfold Region.ready at h
  simp only [List.mem_filter, List.mem_range, Bool.and_eq_true, Bool.not_eq_true'] at h
  obtain ⟨h1, h2, h3⟩ := h
  rw [Array.getElem?_eq_getElem h1] at h3
  refine ⟨ops[k], Array.getElem?_eq_getElem h1, h2, fun e he hb => ?_⟩
  simp only [Option.map_some, Option.getD_some, Array.all_eq_true'] at h3
  have := h3 e (by simpa using he)
  simpa [hb, dnOf] using this

theorem ready_of {ops : Array Oper} {l : Array Bool} {k : Nat} {o : Oper} (ho : ops[k]? = some o) (hl : l.getD k true = false) (he : ∀ e ∈ o.after.toList, dnOf l e.on) : k ∈ Region.ready .any ops l := by
  unfold Region.ready
  simp only [List.mem_filter, List.mem_range, Bool.and_eq_true, Bool.not_eq_true']
  refine ⟨(Array.getElem?_eq_some_iff.1 ho).1, hl, ?_⟩
  rw [ho]
  simp only [Option.map_some, Option.getD_some, Array.all_eq_true']
  intro e hm
  have := he e (by simpa using hm)
  unfold dnOf at this
  rw [this]; simp

theorem nd_getD {l : Array Bool} {k : Nat} (hk : k < l.size) : (l.getD k true = false) ↔ ¬ dnOf l k := by
  unfold dnOf
  simp [Array.getD, hk]

theorem drawOk_ok {c : Cfg T} (hc : Fine c) (hm : c.P.follows .mixedOrders = true) : DrawOk c := by
  intro nt id ops ρ r Q K η0 w0 m hreg hdr hK η s a w hB he hk h
  have hF := drawOk_facts hdr
  have hn : quietN ops.toList ≤ ops.size := by have := quietN_le ops.toList; simpa using this
  generalize quietN ops.toList = n at hdr hF h hn
  generalize pres ops.toList [] = L at hF
  obtain ⟨S, hS0, hsteps, hrun⟩ := runOps_trace (c := c) (ops := ops) (K := K) (r := r) n 0 s (by omega) (by simpa using h)
  simp only [Nat.zero_add] at hsteps hrun
  have hT : Trace c ops n S := ⟨fun i hi => hsteps i (Nat.zero_le _) hi, fun t j p v => by rw [hS0]; exact hB.ng t j p v⟩
  refine wp_region_any hm ?_
  have main : ∀ (fuel : Nat) (l : Array Bool) (η : Eta) (a : Act) (w : World), l.size = ops.size → l.toList.count false = fuel → Evo η0 η w0 w → KeepsTo m η0 η →
      (DrawInv c nt ops S n L (dnOf l) η a w ∨ ∃ i s, n ≤ i ∧ i ≤ ops.size ∧ (∀ k, dnOf l k ↔ k < i) ∧ RunInv c nt ops i η s a w ∧ runOps c ops 0 (ops.toList.drop i) s K = some r) →
      wpAny c.P .any ops Q fuel l a w := by
    intro fuel
    induction fuel with
    | zero =>
      intro l η a w hl hcnt he hk hcase
      have hall : ∀ k, k < ops.size → dnOf l k := by
        intro k hk'
        have h0 := List.count_eq_zero.1 hcnt
        have hkl : k < l.size := by omega
        unfold dnOf
        simp only [Array.getD, hkl, dif_pos]
        cases hb : l[k] with
        | true => simp [hb]
        | false => exact (h0 (by rw [← hb]; simp)).elim
      have hB' : ∃ i s, n ≤ i ∧ i ≤ ops.size ∧ (∀ k, dnOf l k ↔ k < i) ∧ RunInv c nt ops i η s a w ∧ runOps c ops 0 (ops.toList.drop i) s K = some r := by
        rcases hcase with hA | hB'
        · exact ⟨n, S n, Nat.le_refl _, hn, fun k => ⟨hA.bd k, fun hk' => hall k (by omega)⟩, hA.done hreg hT fun k hk' => hall k (by omega), hrun⟩
        · exact hB'
      obtain ⟨i, s', h1, h2, h3, h4, h5⟩ := hB'
      have hi : i = ops.size := by
        rcases Nat.lt_or_ge i ops.size with h' | h'
        · have := (h3 i).1 (hall i h'); omega
        · omega
      subst hi
      refine ⟨?_, hK s' a w η h4 he hk (by rw [List.drop_eq_nil_of_le (by simp)] at h5; simpa [runOps] using h5)⟩
      rw [List.eq_nil_iff_forall_not_mem]
      intro k hk'
      obtain ⟨o, ho, hd, _⟩ := ready_iff hk'
      have hlt := (Array.getElem?_eq_some_iff.1 ho).1
      exact (nd_getD (by omega)).1 hd (hall k hlt)
    | succ fuel ih =>
      intro l η a w hl hcnt he hk hcase
      have hnil : Region.ready .any ops l = [] → ∀ k, k < ops.size → dnOf l k := by
        intro hr k
        induction k using Nat.strongRecOn with
        | ind k ihk =>
          intro hk'
          have ho : ops[k]? = some ops[k] := Array.getElem?_eq_getElem hk'
          apply Classical.byContradiction
          intro hnd
          have := ready_of ho ((nd_getD (by omega)).2 hnd) (fun e hm => by
            have := ((hF.pre k _ ho).1 e hm).1
            exact ihk e.on this (by omega))
          rw [hr] at this; simp at this
      have hset : ∀ k, k < ops.size → ¬ dnOf l k → (l.setIfInBounds k true).size = ops.size ∧ (l.setIfInBounds k true).toList.count false = fuel := by
        intro k hk' hnd
        refine ⟨by simpa using hl, ?_⟩
        rw [Array.toList_setIfInBounds]
        refine count_set ?_ hcnt
        have := (nd_getD (l := l) (k := k) (by omega)).2 hnd
        simp only [Array.getD, show k < l.size by omega, dif_pos] at this
        have h7 : l[k]'(by omega) = false := this
        simp [h7, show k < l.size by omega]
      by_cases hA : ∃ k, k < n ∧ ¬ dnOf l k
      · obtain ⟨k0, hk0, hnd0⟩ := hA
        have hI : DrawInv c nt ops S n L (dnOf l) η a w := by
          rcases hcase with hA | ⟨i, _, h1, _, h3, _, _⟩
          · exact hA
          · exact (hnd0 ((h3 k0).2 (by omega))).elim
        refine ⟨fun hr => (hnd0 (hnil hr k0 (by omega))).elim, fun j hj => ?_⟩
        obtain ⟨o, ho, hd, hedge⟩ := ready_iff hj
        have hlt := (Array.getElem?_eq_some_iff.1 ho).1
        have hnd := (nd_getD (l := l) (k := j) (by omega)).1 hd
        have hpre : ∀ x, (L.getD j 0).testBit x = true → dnOf l x := by
          intro x hb
          obtain ⟨h1, h2⟩ := hF.pre j o ho
          rw [h2] at hb
          rcases preOf_bit _ 0 hb with h' | ⟨e, hm', h'⟩
          · simp at h'
          · have hde := hedge e hm' (h1 e hm').2
            rcases h' with h' | h'
            · rw [← h']; exact hde
            · exact hI.cl e.on hde x h'
        have hjn : j < n := by
          rcases Nat.lt_or_ge j n with h' | h'
          · exact h'
          · exact (hnd0 (hpre k0 (hF.tail j o k0 h' (by omega) ho))).elim
        refine draw_step hc hF hreg hT hI ⟨ho, hjn, hnd, hpre⟩ ?_
        intro η' a' w' hI' he' hk'
        obtain ⟨g1, g2⟩ := hset j hlt hnd
        refine ih _ η' a' w' g1 g2 (he.trans he') (hk.trans (hk'.to m)) (.inl ?_)
        have : dnOf (l.setIfInBounds j true) = fun k => dnOf l k ∨ k = j := by
          funext k; exact propext (dnOf_set (by omega))
        rw [this]; exact hI'
      · have hall : ∀ k, k < n → dnOf l k := fun k hk' => Classical.byContradiction fun hnd => hA ⟨k, hk', hnd⟩
        have hB' : ∃ i s, n ≤ i ∧ i ≤ ops.size ∧ (∀ k, dnOf l k ↔ k < i) ∧ RunInv c nt ops i η s a w ∧ runOps c ops 0 (ops.toList.drop i) s K = some r := by
          rcases hcase with hA | hB'
          · exact ⟨n, S n, Nat.le_refl _, hn, fun k => ⟨hA.bd k, fun hk' => hall k hk'⟩, hA.done hreg hT hall, hrun⟩
          · exact hB'
        obtain ⟨i, s', h1, h2, h3, h4, h5⟩ := hB'
        refine ⟨fun hr => ?_, fun j hj => ?_⟩
        · have hi : i = ops.size := by
            rcases Nat.lt_or_ge i ops.size with h' | h'
            · have := (h3 i).1 (hnil hr i h'); omega
            · omega
          subst hi
          exact hK s' a w η h4 he hk (by rw [List.drop_eq_nil_of_le (by simp)] at h5; simpa [runOps] using h5)
        · obtain ⟨o, ho, hd, hedge⟩ := ready_iff hj
          have hlt := (Array.getElem?_eq_some_iff.1 ho).1
          have hnd := (nd_getD (l := l) (k := j) (by omega)).1 hd
          have hij : i ≤ j := by
            rcases Nat.lt_or_ge j i with h' | h'
            · exact (hnd ((h3 j).2 h')).elim
            · exact h'
          have hji : j = i := by
            rcases Nat.lt_or_ge i j with h' | h'
            · exfalso
              have hb := hF.tail j o i (by omega) h' ho
              obtain ⟨g1, g2⟩ := hF.pre j o ho
              rw [g2] at hb
              rcases preOf_bit _ 0 hb with h'' | ⟨e, hm', h''⟩
              · simp at h''
              · have hde := (h3 e.on).1 (hedge e hm' (g1 e hm').2)
                rcases h'' with h'' | h''
                · omega
                · have he2 : ops[e.on]? = some ops[e.on] := Array.getElem?_eq_getElem (by omega)
                  have := bits_lt hF e.on _ he2 h''
                  omega
            · omega
          subst hji
          have hlt' : j < ops.toList.length := by simpa using hlt
          rw [List.drop_eq_getElem_cons hlt'] at h5
          have ho' : ops.toList[j] = o := by
            have := (Array.getElem?_eq_some_iff.1 ho).2
            simpa using this
          rw [ho'] at h5
          refine runOps_step hc hreg ho ?_ h4 h5
          intro η' s2 a' w' hI' he' hk' hr'
          obtain ⟨g1, g2⟩ := hset j hlt hnd
          refine ih _ η' a' w' g1 g2 (he.trans he') (hk.trans (hk'.to m)) (.inr ⟨j + 1, s2, by omega, by omega, fun k => ?_, hI', hr'⟩)
          rw [dnOf_set (by omega), h3]
          omega
  refine main ops.size (Array.replicate ops.size false) η a { w with drawn := w.drawn + 1 } (by simp) (by simp) ?_ hk (.inl ?_)
  · exact ⟨he.size, he.same, he.own, he.far, ⟨he.rest.os, he.rest.tape, he.rest.out, he.rest.fz⟩⟩
  · have he1 : Evo η η w { w with drawn := w.drawn + 1 } := ⟨Nat.le_refl _, fun _ _ _ => rfl, fun _ _ h => h, rfl, ⟨rfl, rfl, rfl, fun _ => rfl⟩⟩
    have hnd : ∀ k, ¬ dnOf (Array.replicate ops.size false) k := by
      intro k hd
      unfold dnOf at hd
      simp only [Array.getD] at hd
      split at hd <;> simp at hd
    obtain ⟨tl, htl⟩ := trace_heap hT 0 n (by omega)
    simp only [Nat.zero_add, hS0] at htl
    have hfresh : ∀ id, (S n).heap.length ≤ id → η id = none := fun id hid => hB.fresh id (by rw [htl] at hid; simp at hid; omega)
    refine ⟨hB.def0, hB.size, ?_, hfresh, ?_, ?_, ?_, fun j o h hd => (hnd j hd).elim, fun i hd => (hnd i hd).elim, fun i hd => (hnd i hd).elim⟩
    · refine ⟨fun id r o hr ho => ?_, hB.heap.lt, hB.heap.inj, hB.heap.nf, hB.heap.fl⟩
      have hlt : id < s.heap.length := by
        rcases Nat.lt_or_ge id s.heap.length with h' | h'
        · exact h'
        · rw [hB.fresh id h'] at hr; cases hr
      rw [htl, List.getElem?_append_left hlt] at ho
      exact (hB.heap.obj id r o hr ho).mono he1 (Keeps.refl η) fun _ _ => rfl
    · intro i hi _ id h1 _
      obtain ⟨tl', htl'⟩ := trace_heap hT 0 i (by omega)
      simp only [Nat.zero_add, hS0] at htl'
      exact hB.fresh id (by rw [htl'] at h1; simp at h1; omega)
    · intro t i hlw
      rcases hlw.1 with h1 | ⟨k, _, _, hd, _⟩
      · subst h1; rw [hS0]; exact RV.mono he1 (Keeps.refl η) _ _ (hB.env t)
      · exact (hnd k hd).elim
    · intro t i g p v hlw hv
      rcases hlw.1 with h1 | ⟨k, _, _, hd, _⟩
      · subst h1; rw [hS0] at hv; exact (hB.ng t g p v hv).elim
      · exact (hnd k hd).elim

end Go.Ev
