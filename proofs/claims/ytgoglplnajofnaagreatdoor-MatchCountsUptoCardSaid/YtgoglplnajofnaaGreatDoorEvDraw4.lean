/- A part of the evaluator of Go code over small heaps and of its proof: no condition beyond those that each theorem names. -/
import Derived.Test.YtgoglplnajofnaaGreatDoorEvDraw3
set_option linter.unusedVariables false
set_option linter.unusedSimpArgs false
set_option linter.constructorNameAsVariable false
namespace Go.Ev
variable {T : TypeId → Type}

section
variable {N : Nat} {c : Cfg T} {nt : Nat} {ops : Array Oper} {S : Nat → St T} {P : Nat → List Nat × List Nat} {L : List Nat} {dn : Nat → Prop} {η : Eta} {a : Act} {w : World} {j : Nat} {o : Oper}

/-- Where nothing that was there is turned. -/
theorem StepOk.of_new {η' : Eta} {w' : World} {os : List (Obj T)} (hO : Own c.w0 η w) (hfr : Fresh η (S j).heap.length os.length) (hN : New (rc c) η η' (S j).heap.length os w w')
    (hP : ∀ id, id ∈ (P j).2 ↔ (S j).heap.length ≤ id ∧ id < (S j).heap.length + os.length) (hH : (S (j + 1)).heap = (S j).heap ++ os) : StepOk c S P j η η' w w' := by
  refine ⟨hN.evo, hN.keeps hfr, ?_, fun id hid => ?_, fun id r ob hid hη ho => ?_⟩
  · refine ⟨fun id r b hr hb => ?_, fun id id' r r' b hr hr' hb hb' => ?_, fun id r b hr hb => ?_, fun b hb => by rw [hN.far] at hb; exact Nat.lt_of_lt_of_le (hO.fl b hb) hN.size, hO.oldEvo hN.evo⟩
    · by_cases hid : (S j).heap.length ≤ id ∧ id < (S j).heap.length + os.length
      · exact (hN.new (id - (S j).heap.length) r b (by omega) (by rw [show (S j).heap.length + (id - (S j).heap.length) = id by omega]; exact hr) hb).2
      · rw [hN.keep id hid] at hr
        exact Nat.lt_of_lt_of_le (hO.lt id r b hr hb) hN.size
    · by_cases hid : (S j).heap.length ≤ id ∧ id < (S j).heap.length + os.length
      · have h1 := hN.new (id - (S j).heap.length) r b (by omega) (by rw [show (S j).heap.length + (id - (S j).heap.length) = id by omega]; exact hr) hb
        by_cases hid' : (S j).heap.length ≤ id' ∧ id' < (S j).heap.length + os.length
        · have := hN.inj (id - (S j).heap.length) (id' - (S j).heap.length) r r' b (by omega) (by omega) (by rw [show (S j).heap.length + (id - (S j).heap.length) = id by omega]; exact hr)
            (by rw [show (S j).heap.length + (id' - (S j).heap.length) = id' by omega]; exact hr') hb hb'
          omega
        · rw [hN.keep id' hid'] at hr'
          have := hO.lt id' r' b hr' hb'
          omega
      · rw [hN.keep id hid] at hr
        have h1 := hO.lt id r b hr hb
        by_cases hid' : (S j).heap.length ≤ id' ∧ id' < (S j).heap.length + os.length
        · have := hN.new (id' - (S j).heap.length) r' b (by omega) (by rw [show (S j).heap.length + (id' - (S j).heap.length) = id' by omega]; exact hr') hb'
          omega
        · rw [hN.keep id' hid'] at hr'
          exact hO.inj id id' r r' b hr hr' hb hb'
    · rw [hN.far]
      by_cases hid : (S j).heap.length ≤ id ∧ id < (S j).heap.length + os.length
      · intro hf
        have h1 := hN.new (id - (S j).heap.length) r b (by omega) (by rw [show (S j).heap.length + (id - (S j).heap.length) = id by omega]; exact hr) hb
        have := hO.fl b hf
        omega
      · rw [hN.keep id hid] at hr; exact hO.nf id r b hr hb
  · have hid' : ¬ ((S j).heap.length ≤ id ∧ id < (S j).heap.length + os.length) := fun h => hid ((hP id).2 h)
    exact ⟨hN.keep id hid', fun r b hr hb => hN.same b (hO.lt id r b hr hb)⟩
  · have hid' := (hP id).1 hid
    rw [hH, List.getElem?_append_right hid'.1] at ho
    exact hN.obj (id - (S j).heap.length) ob r ho (by rw [show (S j).heap.length + (id - (S j).heap.length) = id by omega]; exact hη)

/-- Where what is looked at is turned. -/
theorem StepOk.of_turned {η' : Eta} {w' : World} {F : List Nat} {H' : List (Obj T)} (hle : (S j).heap.length ≤ H'.length) (hT : Turned c η η' F (S j).heap.length H'.length H' w w')
    (hP : ∀ id, id ∈ (P j).2 ↔ id ∈ F ∨ ((S j).heap.length ≤ id ∧ id < H'.length)) (hH : (S (j + 1)).heap = mergeH F 0 (S j).heap H') : StepOk c S P j η η' w w' := by
  refine ⟨hT.evo, hT.keeps, hT.own, fun id hid => ?_, fun id r ob hid hη ho => ?_⟩
  · have hn := fun h => hid ((hP id).2 h)
    exact hT.other id (fun h => hn (.inl h)) (fun h => hn (.inr h))
  · have h1 := (hP id).1 hid
    rw [hH, mergeH_get F _ _ _ _ hle, Nat.zero_add] at ho
    rw [if_pos (by rcases h1 with h | h; exact .inr (inN_iff.2 h); exact .inl h.1)] at ho
    exact hT.rel id r ob h1 hη ho

theorem draw_step (hc : Fine c) (hF : Facts ops L) (hreg : Reg nt ops) (hT : Trace c ops N L S P) (hI : DrawInv c nt ops S P L dn η a w) (hr : Ready ops L dn j o) (hjN : j < N) {Q : Exit → Act → World → Prop} {Kn : Act → World → Prop}
    (hKn : ∀ η' a' w', DrawInv c nt ops S P L (fun k => dn k ∨ k = j) η' a' w' → Evo η η' w w' → Keeps η η' → Kn a' w') : wpOp c.P ops Q j Kn a w := by
  have hs := hT.step j o hr.op
  have hst := hs.heap
  rw [decide_eq_false (by omega)] at hs
  unfold wpOp
  simp only [hr.op]
  have hR := hr.rd hF hT hI
  have hRF := fun h => hr.rdF hc.flat hF hT hI h
  have hlow : ∀ n, (S j).heap.length + n ≤ (S (j + 1)).heap.length → Fresh η (S j).heap.length n := fun n hn id h1 h2 => hI.low j hr.lt hr.nd id h1 (by omega)
  have hml : ∀ F, (maskD (S j) o F).heap.length = (S j).heap.length := fun F => maskH_length F _ 0
  have next := fun η' w' v x => DrawInv.next (η' := η') (w' := w') (v := v) (x := x) hF hreg hT hI hr
  generalize hsj : S (j + 1) = sj at hs
  generalize hpj : P j = pj at hs
  cases hs with
  | val F os v hg he =>
    have hw : Region.wanted o (yielded ops a.tmps) = true := by simp [Region.wanted, hg]
    have hnog : ∀ hh : Nat × Bool, o.guard = some hh → False := fun hh h' => by rw [hg] at h'; cases h'
    rw [if_pos hw]
    left
    unfold Oper.wp
    rw [hpj] at hR
    have hh : (S (j + 1)).heap = (S j).heap ++ os := by rw [hsj, set_heap]
    have hfr : Fresh η (S j).heap.length os.length := hlow _ (by rw [hh]; simp)
    have hok := effE_ok hc hR (G := []) (fun _ hm => by simp at hm) (fun ok os' v' h => by cases h; rw [hml]; exact hfr) he
    obtain ⟨x, w', η', hres, hv, hN⟩ := hok rfl
    rw [hml] at hN
    have hso : StepOk c S P j η η' w w' := .of_new hI.own hfr hN (fun id => by rw [hpj]; exact mem_news) hh
    exact upon_skip hres (hKn η' _ w' (next η' w' (strip v) x hso (fun t => by rw [hsj, set_env]) (fun g p u hu => absurd hu strip_ng) (strip_rv hv) (fun hh h' => (hnog hh h').elim)) hso.evo hso.keeps)
  | callq F e q g x hg he hx hp hq =>
    have hw : Region.wanted o (yielded ops a.tmps) = true := by simp [Region.wanted, hg]
    have hnog : ∀ hh : Nat × Bool, o.guard = some hh → False := fun hh h' => by rw [hg] at h'; cases h'
    rw [if_pos hw]
    left
    unfold Oper.wp
    rw [hpj] at hR
    have hok := effE_ok hc hR (G := []) (fun _ hm => by simp at hm) (fun ok os' v' h => by cases h) he
    obtain ⟨f, xs, hres, _, hcall, _⟩ := hok.2 x hx
    obtain ⟨os, hos, hcall⟩ := hcall hp hq
    rw [hml] at hcall
    have hdr : (e.enc x).2.drop (S j).heap.length = os := by rw [hos]; exact List.drop_left' (hml F)
    have hh : (S (j + 1)).heap = (S j).heap ++ os := by rw [hsj, set_heap, hdr]
    have hfr : Fresh η (S j).heap.length os.length := hlow _ (by rw [hh]; simp)
    rw [hres, Oper.upon_enter]
    refine Calls.mono hcall ?_
    rintro e' w' ⟨y, η', rfl, hv, hN⟩
    have hso : StepOk c S P j η η' w w' := .of_new hI.own hfr hN (fun id => by
      rw [hpj]
      have : (e.enc x).2.length - (S j).heap.length = os.length := by rw [← hdr]; simp
      simp only [this]; exact mem_news) hh
    exact hKn η' _ w' (next η' w' (strip (pack (e.enc x).1)) y hso (fun t => by rw [hsj, set_env]) (fun g p u hu => absurd hu strip_ng) (strip_rv hv) (fun hh h' => (hnog hh h').elim)) hso.evo hso.keeps
  | wr F H v hg he hlen hcl hv hH =>
    have hw : Region.wanted o (yielded ops a.tmps) = true := by simp [Region.wanted, hg]
    have hnog : ∀ hh : Nat × Bool, o.guard = some hh → False := fun hh h' => by rw [hg] at h'; cases h'
    rw [if_pos hw]
    left
    unfold Oper.wp
    rw [hpj] at hRF
    have hRF := hRF hcl
    have hF0 : ∀ id ∈ F, id < (S j).heap.length := closedS_lt hcl
    have hG : ∀ id, id ∈ F ++ news (S j) (H.length - (S j).heap.length) ↔ id ∈ F ∨ ((S j).heap.length ≤ id ∧ id < H.length) := fun id => by
      rw [List.mem_append, mem_news, show (S j).heap.length + (H.length - (S j).heap.length) = H.length by omega]
    have hh : (S (j + 1)).heap = mergeH F 0 (S j).heap H := by rw [hsj, set_heap]
    have hok := effE_ok hc hRF (G := []) (fun _ hm => by simp at hm) (fun ok os' v' h => by cases h) he
    obtain ⟨x, w', η1, hres, hv1, hev, hkp, hH1, hf1⟩ := hok (fun id hid => by
      rw [hml] at hid; rw [etaF_m, if_neg (fun h => by have := hF0 id h; omega)]) rfl
    have hfr : ∀ id, (S j).heap.length ≤ id → id < H.length → η id = none := fun id h1 h2 => hI.low j hr.lt hr.nd id h1 (by rw [hh, mergeH_length F _ _ _ hlen]; exact h2)
    obtain ⟨hTu, hokb⟩ := turned hc.flat hI.own hF0 hfr hev hkp hH1 hG hH
    have hso : StepOk c S P j η _ w w' := .of_turned hlen hTu (fun id => by rw [hpj]; exact hG id) hh
    have hv2 : RV (rc c) (etaB η η1 F (S j).heap.length H.length) w' v x := RV.over (fun id r h1 h2 => by rw [etaB_m, if_pos ((hG id).1 h1)]; exact h2) (fun b hb _ => hokb b hb) hv hv1
    exact upon_skip hres (hKn _ _ w' (next _ w' (strip v) x hso (fun t => by rw [hsj, set_env]) (fun g p u hu => absurd hu strip_ng) (strip_rv hv2) (fun hh h' => (hnog hh h').elim)) hso.evo hso.keeps)
  | callw F e q g x hg he hx hp hlen hcl hv hH =>
    have hw : Region.wanted o (yielded ops a.tmps) = true := by simp [Region.wanted, hg]
    have hnog : ∀ hh : Nat × Bool, o.guard = some hh → False := fun hh h' => by rw [hg] at h'; cases h'
    rw [if_pos hw]
    left
    unfold Oper.wp
    rw [hpj] at hRF
    have hRF := hRF hcl
    have hF0 : ∀ id ∈ F, id < (S j).heap.length := closedS_lt hcl
    generalize hen : e.enc x = en at *
    have hG : ∀ id, id ∈ F ++ news (S j) (en.2.length - (S j).heap.length) ↔ id ∈ F ∨ ((S j).heap.length ≤ id ∧ id < en.2.length) := fun id => by
      rw [List.mem_append, mem_news, show (S j).heap.length + (en.2.length - (S j).heap.length) = en.2.length by omega]
    have hh : (S (j + 1)).heap = mergeH F 0 (S j).heap en.2 := by rw [hsj, set_heap]
    have hok := effE_ok hc hRF (G := []) (fun _ hm => by simp at hm) (fun ok os' v' h => by cases h) he
    obtain ⟨f, xs, hres, hcall, _⟩ := hok.2 x hx
    have hcall := (hcall hp (fun id hid => by
      rw [hml] at hid; rw [etaF_m, if_neg (fun h => by have := hF0 id h; omega)])).2
    rw [hen] at hcall
    rw [hres, Oper.upon_enter]
    refine Calls.mono hcall ?_
    rintro e' w' ⟨y, η1, rfl, hv1, hev, hkp, hH1, hf1⟩
    have hfr : ∀ id, (S j).heap.length ≤ id → id < en.2.length → η id = none := fun id h1 h2 => hI.low j hr.lt hr.nd id h1 (by rw [hh, mergeH_length F _ _ _ hlen]; exact h2)
    obtain ⟨hTu, hokb⟩ := turned hc.flat hI.own hF0 hfr hev hkp hH1 hG hH
    have hso : StepOk c S P j η _ w w' := .of_turned hlen hTu (fun id => by rw [hpj]; exact hG id) hh
    have hv2 : RV (rc c) (etaB η η1 F (S j).heap.length en.2.length) w' (pack en.1) y := RV.over (fun id r h1 h2 => by rw [etaB_m, if_pos ((hG id).1 h1)]; exact h2) (fun b hb _ => hokb b hb) hv hv1
    exact hKn _ _ w' (next _ w' (strip (pack en.1)) y hso (fun t => by rw [hsj, set_env]) (fun g p u hu => absurd hu strip_ng) (strip_rv hv2) (fun hh h' => (hnog hh h').elim)) hso.evo hso.keeps
  | gval F gd q ok v hg hl he hok0 =>
    have hG : IsG ops gd.1 := ⟨j, o, gd.2, hr.op, by rw [hg]⟩
    have hlt := hreg.lt j o gd.1 gd.2 hr.op (by rw [hg])
    have hdg := hr.pre gd.1 (hF.guard j o gd.1 gd.2 hr.op hg)
    have hh : (S (j + 1)).heap = (S j).heap ++ [] := by rw [hsj, set_heap]; simp
    have hmem : ∀ id, id ∈ (P j).2 ↔ (S j).heap.length ≤ id ∧ id < (S j).heap.length + ([] : List (Obj T)).length := fun id => by rw [hpj]; simp
    rw [hpj] at hR
    by_cases hw : Region.wanted o (yielded ops a.tmps) = true
    · have hp : Passed ops a gd := by
        simp only [Region.wanted, hg, beq_iff_eq] at hw
        exact hw
      rw [if_pos hw]
      left
      unfold Oper.wp
      have hch := chain_done hF hreg hI 20 gd hdg hG hlt hp
      have hq1 := letsD_ok hreg hT hI hr _ q hch hl
      subst hq1
      have hok := effE_ok hc hR (fun h hm => (hch h hm).1) (fun ok' os' v' h => by cases h; intro id h1 h2; exact absurd h2 (Nat.not_lt.2 h1)) he
      simp only [Bool.not_true, Bool.or_false] at hok0
      obtain ⟨x, w', η', hres, hv, hN⟩ := hok hok0
      rw [hml] at hN
      have hso : StepOk c S P j η η' w w' := .of_new hI.own (fun id h1 h2 => by simp at h2; omega) hN hmem hh
      exact upon_skip hres (hKn η' _ w' (next η' w' (.gd gd.1 gd.2 (strip v)) x hso (fun t => by rw [hsj, set_env])
        (fun g p u hu => by cases hu; exact ⟨hg, fun _ => strip_rv hv⟩) (by simp only [RV]) (fun hh h' _ => by rw [hg] at h'; cases h'; exact hp)) hso.evo hso.keeps)
    · rw [if_neg hw]
      have hnp : ¬ Passed ops a gd := fun hp => hw (by simp only [Region.wanted, hg, beq_iff_eq]; exact hp)
      have hso : StepOk c S P j η η w w := .of_new hI.own (fun id h1 h2 => by simp at h2; omega) (.nil rfl (Rest.refl w)) hmem hh
      exact hKn η _ w (next η w (.gd gd.1 gd.2 (strip v)) undef hso (fun t => by rw [hsj, set_env])
        (fun g p u hu => by cases hu; exact ⟨hg, fun hy => (hnp hy).elim⟩) (by simp only [RV]) (fun hh h' hb => by obtain ⟨b, hb⟩ := hb; cases hb)) hso.evo hso.keeps
  | gcall F gd q e q' g x v hg hl he hx hv' =>
    have hG : IsG ops gd.1 := ⟨j, o, gd.2, hr.op, by rw [hg]⟩
    have hlt := hreg.lt j o gd.1 gd.2 hr.op (by rw [hg])
    have hdg := hr.pre gd.1 (hF.guard j o gd.1 gd.2 hr.op hg)
    have hh : (S (j + 1)).heap = (S j).heap ++ [] := by rw [hsj, set_heap]; simp
    have hmem : ∀ id, id ∈ (P j).2 ↔ (S j).heap.length ≤ id ∧ id < (S j).heap.length + ([] : List (Obj T)).length := fun id => by rw [hpj]; simp
    rw [hpj] at hR
    by_cases hw : Region.wanted o (yielded ops a.tmps) = true
    · have hp : Passed ops a gd := by
        simp only [Region.wanted, hg, beq_iff_eq] at hw
        exact hw
      rw [if_pos hw]
      left
      unfold Oper.wp
      have hch := chain_done hF hreg hI 20 gd hdg hG hlt hp
      have hq1 := letsD_ok hreg hT hI hr _ q hch hl
      subst hq1
      simp only [cond_true] at hx
      have hok := effE_ok hc hR (fun h hm => (hch h hm).1) (fun ok' os' v' h => by cases h) he
      obtain ⟨hpx, hqx, hh1, hh2⟩ := hok.1 x v hv'
      obtain ⟨f, xs, hres, _, hcall, _⟩ := hok.2 x hx
      obtain ⟨os, hos, hcall⟩ := hcall hpx hqx
      have hos' : os = [] := by
        rw [hh1] at hos
        simpa using hos
      subst hos'
      rw [hml] at hcall
      rw [hres, Oper.upon_enter]
      refine Calls.mono hcall ?_
      rintro e' w' ⟨y, η', rfl, hv, hN⟩
      have hso : StepOk c S P j η η' w w' := .of_new hI.own (fun id h1 h2 => by simp at h2; omega) hN hmem hh
      exact hKn η' _ w' (next η' w' (.gd gd.1 gd.2 (strip v)) y hso (fun t => by rw [hsj, set_env])
        (fun g p u hu => by
          cases hu
          refine ⟨hg, fun _ => strip_rv ?_⟩
          rw [hh2]
          exact RV.ren (fun _ _ _ h1 => by cases h1) _ _ (.inl fun b hb _ => hb) hv) (by simp only [RV]) (fun hh h' _ => by rw [hg] at h'; cases h'; exact hp)) hso.evo hso.keeps
    · rw [if_neg hw]
      have hnp : ¬ Passed ops a gd := fun hp => hw (by simp only [Region.wanted, hg, beq_iff_eq]; exact hp)
      have hso : StepOk c S P j η η w w := .of_new hI.own (fun id h1 h2 => by simp at h2; omega) (.nil rfl (Rest.refl w)) hmem hh
      exact hKn η _ w (next η w (.gd gd.1 gd.2 (strip v)) undef hso (fun t => by rw [hsj, set_env])
        (fun g p u hu => by cases hu; exact ⟨hg, fun hy => (hnp hy).elim⟩) (by simp only [RV]) (fun hh h' hb => by obtain ⟨b, hb⟩ := hb; cases hb)) hso.evo hso.keeps

theorem DrawInv.done (hreg : Reg nt ops) (hT : Trace c ops N L S P) (hI : DrawInv c nt ops S P L dn η a w) (hall : ∀ k, k < ops.size → dn k) : RunInv c nt ops ops.size η (S ops.size) a w := by
  have hlw : ∀ t, ∃ i, i ≤ ops.size ∧ Lw ops dn t i ∧ (S ops.size).env t = (S i).env t := fun t =>
    find_lw hT (Nat.le_refl _) (fun k o hk _ _ => hall k hk) (fun k o hk hnk => by have := hI.bd k hk; omega)
  refine ⟨hI.def0, hI.size, fun t => ?_, fun t g p v hv => ?_, fun g og h hg hG => hI.ch g og h (hall g hg) hG, ⟨fun id r ob hη ho => ?_, hI.own.lt, hI.own.inj, hI.own.nf, hI.own.fl, hI.own.old⟩, hI.fresh⟩
  · obtain ⟨i, _, h2, h3⟩ := hlw t
    rw [h3]; exact hI.env t i h2
  · obtain ⟨i, _, h2, h3⟩ := hlw t
    rw [h3] at hv
    obtain ⟨g1, g2, g3⟩ := hI.gd t i g p v h2 hv
    exact ⟨g1, hI.bd g g2, g3⟩
  · exact hI.rel id r ops.size ob (Nat.le_refl _) hη ⟨fun k hk _ => hall k hk, fun k hk hd => by have := hI.bd k hd; omega⟩ ho
end

/-- The operations that stand in a list. -/
def dnOf (l : Array Bool) (k : Nat) : Prop := l.getD k false = true

theorem dnOf_set {l : Array Bool} {j k : Nat} (hj : j < l.size) : dnOf (l.setIfInBounds j true) k ↔ dnOf l k ∨ k = j := by
  unfold dnOf
  rw [Array.getD_eq_getD_getElem?, Array.getElem?_setIfInBounds, Array.getD_eq_getD_getElem?]
  by_cases h : j = k
  · subst h; simp [hj]
  · simp [h, Ne.symm h]

theorem count_set {l : List Bool} {j m : Nat} (hj : l[j]? = some false) (h : l.count false = m + 1) : (l.set j true).count false = m := by
  have hlt := (List.getElem?_eq_some_iff.1 hj).1
  have := List.count_set (a := true) (b := false) (l := l) (i := j) hlt
  rw [this]
  have h2 : l[j] = false := (List.getElem?_eq_some_iff.1 hj).2
  simp [h2, h]

theorem ready_iff {ops : Array Oper} {l : Array Bool} {k : Nat} (h : k ∈ Region.ready .any ops l) : ∃ o, ops[k]? = some o ∧ l.getD k true = false ∧ ∀ e ∈ o.after.toList, Region.binds .any e = true → dnOf l e.on := by
  unfold Region.ready at h
  simp only [List.mem_filter, List.mem_range, Bool.and_eq_true, Bool.not_eq_true'] at h
  obtain ⟨h1, h2, h3⟩ := h
  rw [Array.getElem?_eq_getElem h1] at h3
  refine ⟨ops[k], Array.getElem?_eq_getElem h1, h2, fun e he hb => ?_⟩
  simp only [Option.map_some, Option.getD_some, Array.all_eq_true'] at h3
  have := h3 e (by simpa using he)
  simpa [hb, dnOf] using this

theorem ready_of {ops : Array Oper} {l : Array Bool} {k : Nat} {o : Oper} (ho : ops[k]? = some o) (hl : l.getD k true = false) (he : ∀ e ∈ o.after.toList, Region.binds .any e = true → dnOf l e.on) : k ∈ Region.ready .any ops l := by
  unfold Region.ready
  simp only [List.mem_filter, List.mem_range, Bool.and_eq_true, Bool.not_eq_true']
  refine ⟨(Array.getElem?_eq_some_iff.1 ho).1, hl, ?_⟩
  rw [ho]
  simp only [Option.map_some, Option.getD_some, Array.all_eq_true']
  intro e hm
  cases hb : Region.binds .any e with
  | false => simp
  | true =>
    have := he e (by simpa using hm) hb
    unfold dnOf at this
    rw [this]; simp

theorem nd_getD {l : Array Bool} {k : Nat} (hk : k < l.size) : (l.getD k true = false) ↔ ¬ dnOf l k := by
  unfold dnOf
  simp [Array.getD, hk]

theorem drawOk_ok {c : Cfg T} (hc : Fine c) (hm : c.P.follows .mixedOrders = true) : DrawOk c := by
  intro nt id ops ρ r Q K kp η0 w0 m hreg hdr hkpQ hK η s a w hB he hk h
  have hF := drawOk_facts hdr
  generalize pres ops.toList [] = L at hF h
  obtain ⟨N, S, P, hS0, hT, hend⟩ := runD_tr (fun t j p v => hB.ng t j p v) h
  have hNle : N ≤ ops.size := by
    rcases hend with ⟨h, _⟩ | ⟨o, F, e, q, g, x, ho, _⟩
    · omega
    · exact Nat.le_of_lt (Array.getElem?_eq_some_iff.1 ho).1
  have hfull : (∀ k, k < ops.size → k < N) → K (S ops.size) = some r := by
    intro hk'
    rcases hend with ⟨_, h⟩ | ⟨o, F, e, q, g, x, ho, _⟩
    · exact h
    · have := hk' N (Array.getElem?_eq_some_iff.1 ho).1; omega
  refine wp_region_any hm ?_
  have main : ∀ (fuel : Nat) (l : Array Bool) (η : Eta) (a : Act) (w : World), l.size = ops.size → l.toList.count false = fuel → (∀ k, dnOf l k → k < N) → Evo η0 η w0 w → KeepsTo m η0 η →
      DrawInv c nt ops S P L (dnOf l) η a w → wpAny c.P .any ops Q fuel l a w := by
    intro fuel
    induction fuel with
    | zero =>
      intro l η a w hl hcnt hdN he hk hI
      have hall : ∀ k, k < ops.size → dnOf l k := by
        intro k hk'
        have h0 := List.count_eq_zero.1 hcnt
        have hkl : k < l.size := by omega
        unfold dnOf
        simp only [Array.getD, hkl, dif_pos]
        cases hb : l[k] with
        | true => simp [hb]
        | false => exact (h0 (by rw [← hb]; simp)).elim
      refine ⟨?_, hK _ a w η (hI.done hreg hT hall) he hk (hfull fun k hk' => hdN k (hall k hk'))⟩
      rw [List.eq_nil_iff_forall_not_mem]
      intro k hk'
      obtain ⟨o, ho, hd, _⟩ := ready_iff hk'
      have hlt := (Array.getElem?_eq_some_iff.1 ho).1
      exact (nd_getD (by omega)).1 hd (hall k hlt)
    | succ fuel ih =>
      intro l η a w hl hcnt hdN he hk hI
      refine ⟨fun hr => ?_, fun j hj => ?_⟩
      · have hall : ∀ k, k < ops.size → dnOf l k := by
          intro k
          induction k using Nat.strongRecOn with
          | ind k ihk =>
            intro hk'
            have ho : ops[k]? = some ops[k] := Array.getElem?_eq_getElem hk'
            apply Classical.byContradiction
            intro hnd
            have := ready_of ho ((nd_getD (by omega)).2 hnd) (fun e hm hb => by
              have := (hF.pre k _ ho).1 e hm hb
              exact ihk e.on this (by omega))
            rw [hr] at this; simp at this
        exact hK _ a w η (hI.done hreg hT hall) he hk (hfull fun k hk' => hdN k (hall k hk'))
      · obtain ⟨o, ho, hd, hedge⟩ := ready_iff hj
        have hlt := (Array.getElem?_eq_some_iff.1 ho).1
        have hnd := (nd_getD (l := l) (k := j) (by omega)).1 hd
        have hpre : ∀ x, (L.getD j 0).testBit x = true → dnOf l x := by
          intro x hb
          obtain ⟨h1, h2⟩ := hF.pre j o ho
          rw [h2] at hb
          rcases preOf_bit _ 0 hb with h' | ⟨e, hm', hbi, h'⟩
          · simp at h'
          · have hde := hedge e hm' hbi
            rcases h' with h' | h'
            · rw [← h']; exact hde
            · exact hI.cl e.on hde x h'
        have hjN : j ≤ N := by
          rcases Nat.lt_or_ge N j with h | h
          · exfalso
            rcases hend with ⟨h', _⟩ | ⟨o', F, e, q, g, x, ho', _, _, _, _, _, hlat, _⟩
            · omega
            · unfold laterB at hlat
              have := List.all_eq_true.1 hlat j (mem_numsFrom.2 ⟨Nat.zero_le _, by omega⟩)
              simp only [Bool.or_eq_true] at this
              rcases this with h1 | h1
              · have := Nat.le_of_ble_eq_true h1; omega
              · have := hdN N (hpre N h1); omega
          · exact h
        rcases Nat.lt_or_ge j N with hjlt | hjge
        rotate_left
        · -- what panics
          have hj' : j = N := by omega
          subst hj'
          rcases hend with ⟨h', _⟩ | ⟨o', F, e, q, g, x, ho', hPF, hg, heff, hx, hp, hlat, hkp, hSS⟩
          · omega
          rw [ho] at ho'; cases ho'
          unfold wpOp
          simp only [ho]
          have hw : Region.wanted o (yielded ops a.tmps) = true := by simp [Region.wanted, hg]
          rw [if_pos hw]
          left
          unfold Oper.wp
          have hR := (⟨ho, hnd, hpre⟩ : Ready ops L (dnOf l) j o).rd hF hT hI
          rw [hPF] at hR
          have hml : (maskD (S j) o F).heap.length = (S j).heap.length := maskH_length F _ 0
          have hok := effE_ok hc hR (G := []) (fun _ hm => by simp at hm) (fun ok os' v' h => by cases h) heff
          obtain ⟨f, xs, hres, _, _, hpan'⟩ := hok.2 x hx
          rw [hres, Oper.upon_enter]
          refine (hpan' hp (fun id hid => hI.fresh id (by rw [hSS]; rw [hml] at hid; exact hid))).mono ?_
          rintro e' w' ⟨y, η', rfl, hv, hev, hkp', hH, hfr⟩
          exact hkpQ _ y _ a w' η' ⟨(by rw [hev.df]; exact hI.def0), hI.size, fun t => (by simp only [RV]), fun t j p u h => (by cases h), hH, hfr⟩ hv (he.trans hev) (hk.trans (hkp'.to m)) hkp
        refine draw_step hc hF hreg hT hI ⟨ho, hnd, hpre⟩ hjlt ?_
        intro η' a' w' hI' he' hk'
        have hset : (l.setIfInBounds j true).size = ops.size ∧ (l.setIfInBounds j true).toList.count false = fuel := by
          refine ⟨by simpa using hl, ?_⟩
          rw [Array.toList_setIfInBounds]
          refine count_set ?_ hcnt
          have := (nd_getD (l := l) (k := j) (by omega)).2 hnd
          simp only [Array.getD, show j < l.size by omega, dif_pos] at this
          have h7 : l[j]'(by omega) = false := this
          simp [h7, show j < l.size by omega]
        refine ih _ η' a' w' hset.1 hset.2 (fun k hk' => by rcases (dnOf_set (by omega)).1 hk' with h | h; exact hdN k h; omega) (he.trans he') (hk.trans (hk'.to m)) ?_
        have : dnOf (l.setIfInBounds j true) = fun k => dnOf l k ∨ k = j := by
          funext k; exact propext (dnOf_set (by omega))
        rw [this]; exact hI'
  have hnd : ∀ k, ¬ dnOf (Array.replicate ops.size false) k := by
    intro k hd
    unfold dnOf at hd
    simp only [Array.getD] at hd
    split at hd <;> simp at hd
  refine main ops.size (Array.replicate ops.size false) η a { w with drawn := w.drawn + 1 } (by simp) (by simp) (fun k hd => (hnd k hd).elim) ?_ hk ?_
  · exact ⟨he.size, he.same, he.own, he.far, he.df, ⟨he.rest.os, he.rest.tape, he.rest.out⟩⟩
  · have he1 : Evo η η w { w with drawn := w.drawn + 1 } := ⟨Nat.le_refl _, fun _ _ _ => rfl, fun _ _ h => h, rfl, rfl, ⟨rfl, rfl, rfl⟩⟩
    have hfresh : ∀ i, i ≤ ops.size → ∀ id, (S i).heap.length ≤ id → η id = none := fun i hi id hid => hB.fresh id (by
      have := trace_len hT (Nat.zero_le i) hi
      rw [hS0] at this; omega)
    refine ⟨hB.def0, hB.size, ⟨hB.heap.lt, hB.heap.inj, hB.heap.nf, hB.heap.fl, hB.heap.old⟩, ?_, hfresh ops.size (Nat.le_refl _), fun i hi _ id h1 _ => hfresh i (by omega) id h1, ?_, ?_, fun j o h hd => (hnd j hd).elim, fun i hd => (hnd i hd).elim, fun i hd => (hnd i hd).elim⟩
    · intro id r i ob hi hη hcut ho
      have hlt : id < (S 0).heap.length := by
        rcases Nat.lt_or_ge id (S 0).heap.length with h' | h'
        · exact h'
        · rw [hfresh 0 (Nat.zero_le _) id h'] at hη; cases hη
      have hsame := trace_same hT (i := 0) (id := id) i (by omega) hlt (fun k _ hk hw => hnd k (hcut.1 k (by omega) hw))
      rw [Nat.zero_add] at hsame
      rw [hsame, hS0] at ho
      exact (hB.heap.obj id r ob hη ho).mono he1 (Keeps.refl η) fun _ _ => rfl
    · intro t i hlw
      rcases hlw.1 with h1 | ⟨k, _, _, hd, _⟩
      · subst h1; rw [hS0]; exact RV.mono he1 (Keeps.refl η) _ _ (hB.env t)
      · exact (hnd k hd).elim
    · intro t i g p v hlw hv
      rcases hlw.1 with h1 | ⟨k, _, _, hd, _⟩
      · subst h1; rw [hS0] at hv; exact (hB.ng t g p v hv).elim
      · exact (hnd k hd).elim

end Go.Ev
