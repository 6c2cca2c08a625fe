/- A part of the evaluator of Go code over small heaps and of its proof: no condition beyond those that each theorem names. -/
import Derived.Test.YtgoglplnajofnaaGreatDoorEvRun
set_option linter.unusedVariables false
set_option linter.unusedSimpArgs false
set_option linter.constructorNameAsVariable false
namespace Go.Ev
variable {T : TypeId → Type}

theorem upon_skip {P : Program} {o : Oper} {a : Act} {next : Act → World → Prop} {Q : Exit → Act → World → Prop} {x : Value} {w' : World} {res : Result Next}
    (h : res = .ok (.value x) w' ∨ (res = .ok .skip w' ∧ x = undef)) (hn : next (a.put o.dst x) w') : o.upon P a next Q res := by
  rcases h with rfl | ⟨rfl, rfl⟩
  · exact hn
  · exact hn

/-- One operation, in the text's order. -/
theorem runOps_step {c : Cfg T} (hc : Fine c) {nt : Nat} {ops : Array Oper} (hreg : Reg nt ops) {Q : Exit → Act → World → Prop} {ρ : Type} {r : ρ} {K : St T → Option ρ}
    {kp : V T → St T → Option ρ} {n i : Nat} {η : Eta} {s : St T} {a : Act} {w : World} {o : Oper} {rest : List Oper} (ho : ops[i]? = some o) {Kn : Act → World → Prop}
    (hkp : ∀ η' v y H' w', RV (rc c) η' w' v y → Evo η η' w w' → Keeps η η' → RelH (rc c) η' H' w' → (∀ id, H'.length ≤ id → η' id = none) → kp v (bare s H') = some r → Q (.panic [{ v := y, recovered := false }]) a w')
    (hKn : ∀ η' s' a' w', RunInv c nt ops (i + 1) η' s' a' w' → Evo η η' w w' → Keeps η η' → runOps c ops kp (n - 1) rest s' K = some r → Kn a' w')
    (hI : RunInv c nt ops i η s a w) (h : runOps c ops kp n (o :: rest) s K = some r) : wpOp c.P ops Q i Kn a w := by
  unfold wpOp
  simp only [ho]
  unfold runOps at h
  have hR : RdInv c ops η (cond (n.beq 0) s (maskS s o)) a w := by cases n.beq 0 <;> first | exact hI.rd | exact hI.rd.mask o
  have hsh : (cond (n.beq 0) s (maskS s o)).heap = s.heap := by cases n.beq 0 <;> rfl
  have hfrs : ∀ (m : Nat), Fresh η (cond (n.beq 0) s (maskS s o)).heap.length m := fun m id h1 _ => hI.fresh id (by rw [hsh] at h1; exact h1)
  cases hg : o.guard with
  | none =>
    simp only [hg] at h
    have hw : Region.wanted o (yielded ops a.tmps) = true := by simp [Region.wanted, hg]
    rw [if_pos hw]
    left
    unfold Oper.wp
    have hnog : ∀ hh : Nat × Bool, o.guard = some hh → False := fun hh h' => by rw [hg] at h'; cases h'
    cases heff : effE c ops (cond (n.beq 0) s (maskS s o)) [] o with
    | none => simp only [heff] at h; cases h
    | some eff =>
      have hok := effE_ok hc hR (G := []) (fun _ hm => by simp at hm) (fun _ _ _ _ => hfrs _) heff
      rw [hsh] at hok
      cases eff with
      | val ok os v =>
        simp only [heff] at h
        cases ok with
        | false => simp at h
        | true =>
          simp only [cond_true] at h
          obtain ⟨x, w', η', hres, hv, hN⟩ := hok rfl
          have hfr : Fresh η s.heap.length os.length := fun id h1 _ => hI.fresh id h1
          have hev := hN.evo
          have hkp := hN.keeps hfr
          refine upon_skip hres (hKn η' _ _ w' ?_ hev hkp h)
          refine RunInv.next hreg hI ho hev hkp (hN.relH hfr hI.heap) ?_ (fun j p u hu => absurd hu strip_ng) (strip_rv hv) (fun hh h' => (hnog hh h').elim)
          intro id hid
          rw [hN.keep id (by simp at hid; omega)]
          exact hI.fresh id (by simp at hid; omega)
      | wr ok H' v =>
        simp only [heff] at h
        cases hb : n.beq 0 && ok with
        | false => simp [hb] at h
        | true =>
          simp only [hb, cond_true] at h
          simp only [Bool.and_eq_true] at hb
          obtain ⟨x, w', η', hres, hv, hev, hkp, hH, hf⟩ := hok hI.fresh hb.2
          refine upon_skip hres (hKn η' _ _ w' ?_ hev hkp h)
          exact RunInv.next hreg hI ho hev hkp hH hf (fun j p u hu => absurd hu strip_ng) (strip_rv hv) (fun hh h' => (hnog hh h').elim)
      | call e q g =>
        simp only [heff] at h
        cases hval : e.val with
        | none => rw [hval] at h; simp at h
        | some x =>
          rw [hval] at h
          simp only [Option.bind_some] at h
          obtain ⟨f, xs, hres, hcall', _, hpan'⟩ := hok.2 x hval
          cases hp : e.pan x with
          | true =>
            rw [hp, cond_true] at h
            cases hb0 : n.beq 0 with
            | false => rw [hb0] at h; cases h
            | true =>
              rw [hb0, cond_true] at h
              rw [hres, Oper.upon_enter]
              refine (hpan' hp hI.fresh).mono ?_
              rintro e' w' ⟨y, η', rfl, hv, hev, hkp', hH, hfr⟩
              exact hkp η' _ y _ w' hv hev hkp' hH hfr h
          | false =>
          rw [hp, cond_false] at h
          cases hb : n.beq 0 || q x with
          | false => simp [hb] at h
          | true =>
            simp only [hb, cond_true] at h
            have hcall := (hcall' hp hI.fresh).2
            rw [hres, Oper.upon_enter]
            refine hcall.mono ?_
            rintro e' w' ⟨y, η', rfl, hv, hev, hkp, hH, hf⟩
            refine hKn η' _ _ w' ?_ hev hkp h
            exact RunInv.next hreg hI ho hev hkp hH hf (fun j p u hu => absurd hu strip_ng) (strip_rv hv) (fun hh h' => (hnog hh h').elim)
      | pan v =>
        simp only [heff] at h
        cases hb0 : n.beq 0 with
        | false => rw [hb0] at h; cases h
        | true =>
          rw [hb0, cond_true] at h
          obtain ⟨y, hres, hv⟩ := hok
          rw [hres, Oper.upon_panic]
          exact hkp η v y _ w hv (Evo.refl η w) (Keeps.refl η) hI.heap hI.fresh h
  | some gd =>
    simp only [hg] at h
    have hG : IsG ops gd.1 := ⟨i, o, gd.2, ho, by rw [hg]⟩
    have hlt := hreg.lt i o gd.1 gd.2 ho (by rw [hg])
    by_cases hw : Region.wanted o (yielded ops a.tmps) = true
    · have hp : Passed ops a gd := by
        simp only [Region.wanted, hg, beq_iff_eq] at hw
        exact hw
      rw [if_pos hw]
      left
      unfold Oper.wp
      have hch := chain_passed hreg hI 20 gd hlt hG hp
      have hchain : ∀ hh ∈ chain ops 20 gd, Passed ops a hh ∧ hh.1 < i ∧ IsG ops hh.1 := by
        have aux : ∀ (m : Nat) (g : Nat × Bool), g.1 < i → IsG ops g.1 → ∀ hh ∈ chain ops m g, hh.1 < i ∧ IsG ops hh.1 := by
          intro m
          induction m with
          | zero => intro g _ _ hh hm; simp [chain] at hm
          | succ m ih =>
            intro g h1 h2 hh hm
            simp only [chain, List.mem_cons] at hm
            rcases hm with rfl | hm
            · exact ⟨h1, h2⟩
            · cases hog : ops[g.1]? with
              | none => simp [hog] at hm
              | some og =>
                simp only [hog, Option.bind_some] at hm
                cases hgg : og.guard with
                | none => simp [hgg] at hm
                | some h' =>
                  simp only [hgg] at hm
                  have := hreg.lt g.1 og h'.1 h'.2 hog hgg
                  exact ih h' (by omega) ⟨g.1, og, h'.2, hog, hgg⟩ hh hm
        exact fun hh hm => ⟨hch hh hm, aux 20 gd hlt hG hh hm⟩
      split at h
      · rename_i q ok v hq heff
        have hq1 := lets_ok hreg hI _ q hchain hq
        subst hq1
        have hok := effE_ok hc hR hch (fun _ _ _ _ => hfrs _) heff
        rw [hsh] at hok
        cases ok with
        | false => simp at h
        | true =>
          simp only [Bool.true_or, cond_true] at h
          obtain ⟨x, w', η', hres, hv, hN⟩ := hok rfl
          have hfr : Fresh η s.heap.length ([] : List (Obj T)).length := fun id h1 _ => hI.fresh id h1
          have hev := hN.evo
          have hkp := hN.keeps hfr
          refine upon_skip hres (hKn η' _ _ w' ?_ hev hkp h)
          have hrel := hN.relH hfr hI.heap
          rw [List.append_nil] at hrel
          refine RunInv.next hreg hI ho hev hkp hrel ?_ (fun j p u hu => ?_) (by simp only [RV]) (fun hh h' _ => ?_)
          · intro id hid
            rw [hN.keep id (by simp)]
            exact hI.fresh id hid
          · cases hu; exact ⟨hg, fun _ => strip_rv hv⟩
          · rw [hg] at h'; cases h'; exact hp
      · rename_i q ok os v _ hq heff
        have hq1 := lets_ok hreg hI _ q hchain hq
        subst hq1
        cases hbl : (chain ops 20 gd).length.blt 20 with
        | false => simp [hbl] at h
        | true =>
          simp only [hbl, cond_true] at h
          have hok := effE_ok hc hR hch (fun _ _ _ _ => hfrs _) heff
          rw [hsh] at hok
          cases ok with
          | false => simp at h
          | true =>
            simp only [cond_true] at h
            obtain ⟨x, w', η', hres, hv, hN⟩ := hok rfl
            have hfr : Fresh η s.heap.length os.length := fun id h1 _ => hI.fresh id h1
            have hev := hN.evo
            have hkp := hN.keeps hfr
            refine upon_skip hres (hKn η' _ _ w' ?_ hev hkp h)
            refine RunInv.next hreg hI ho hev hkp (hN.relH hfr hI.heap) ?_ (fun j p u hu => absurd hu strip_ng) (strip_rv hv) (fun hh h' _ => by rw [hg] at h'; cases h'; exact hp)
            intro id hid
            rw [hN.keep id (by simp at hid; omega)]
            exact hI.fresh id (by simp at hid; omega)
      · rename_i q ok H' v hq heff
        have hq1 := lets_ok hreg hI _ q hchain hq
        subst hq1
        cases hbl : (n.beq 0 && (chain ops 20 gd).length.blt 20) with
        | false => simp [hbl] at h
        | true =>
          simp only [hbl, cond_true] at h
          have hok := effE_ok hc hR hch (fun _ _ _ _ => hfrs _) heff
          rw [hsh] at hok
          cases ok with
          | false => simp at h
          | true =>
            simp only [cond_true] at h
            obtain ⟨x, w', η', hres, hv, hev, hkp, hH, hf⟩ := hok hI.fresh rfl
            refine upon_skip hres (hKn η' _ _ w' ?_ hev hkp h)
            exact RunInv.next hreg hI ho hev hkp hH hf (fun j p u hu => absurd hu strip_ng) (strip_rv hv) (fun hh h' _ => by rw [hg] at h'; cases h'; exact hp)
      · rename_i q e q' g hq heff
        have hq1 := lets_ok hreg hI _ q hchain hq
        subst hq1
        have hok := effE_ok hc hR hch (fun _ _ _ _ => hfrs _) heff
        rw [hsh] at hok
        simp only [cond_true] at h
        cases hdf : g e.dflt with
        | none =>
          rw [hdf] at h
          simp only at h
          cases hbl : (n.beq 0 && (chain ops 20 gd).length.blt 20) with
          | false => simp [hbl] at h
          | true =>
            simp only [hbl, cond_true] at h
            cases hval : e.val with
            | none => rw [hval] at h; simp at h
            | some x =>
              rw [hval] at h
              simp only [Option.bind_some] at h
              obtain ⟨f, xs, hres, hcall', _, hpan'⟩ := hok.2 x hval
              cases hpx : e.pan x with
              | true =>
                rw [hpx, cond_true] at h
                rw [hres, Oper.upon_enter]
                refine (hpan' hpx hI.fresh).mono ?_
                rintro e' w' ⟨y, η', rfl, hv, hev, hkp', hH, hfr⟩
                exact hkp η' _ y _ w' hv hev hkp' hH hfr h
              | false =>
              rw [hpx, cond_false] at h
              have hcall := (hcall' hpx hI.fresh).2
              rw [hres, Oper.upon_enter]
              refine hcall.mono ?_
              rintro e' w' ⟨y, η', rfl, hv, hev, hkp, hH, hf⟩
              refine hKn η' _ _ w' ?_ hev hkp h
              exact RunInv.next hreg hI ho hev hkp hH hf (fun j p u hu => absurd hu strip_ng) (strip_rv hv) (fun hh h' _ => by rw [hg] at h'; cases h'; exact hp)
        | some dv =>
        rw [hdf] at h
        simp only at h
        cases hval : e.val with
        | none => rw [hval] at h; simp at h
        | some x =>
          rw [hval] at h
          simp only [Option.bind_some] at h
          split at h
          · rename_i v hv'
            obtain ⟨hpx, _, hh1, hh2⟩ := hok.1 x v hv'
            obtain ⟨f, xs, hres, hcall', _⟩ := hok.2 x hval
            have hcall := (hcall' hpx hI.fresh).2
            rw [hres, Oper.upon_enter]
            refine hcall.mono ?_
            rintro e' w' ⟨y, η', rfl, hv, hev, hkp, hH, hf⟩
            rw [hh1] at hH hf
            refine hKn η' _ _ w' ?_ hev hkp h
            refine RunInv.next hreg hI ho hev hkp hH hf (fun j p u hu => ?_) (by simp only [RV]) (fun hh h' _ => ?_)
            · cases hu
              refine ⟨hg, fun _ => strip_rv ?_⟩
              rw [hh2]
              exact RV.ren (fun _ _ _ h1 => by cases h1) _ _ (.inl fun b hb _ => hb) hv
            · rw [hg] at h'; cases h'; exact hp
          · cases h
      · rename_i q v hq heff
        have hq1 := lets_ok hreg hI _ q hchain hq
        subst hq1
        have hok := effE_ok hc hR hch (fun _ _ _ _ => hfrs _) heff
        cases hbl : (n.beq 0 && (chain ops 20 gd).length.blt 20) with
        | false => simp [hbl] at h
        | true =>
          simp only [hbl, cond_true] at h
          obtain ⟨y, hres, hv⟩ := hok
          rw [hres, Oper.upon_panic]
          exact hkp η v y _ w hv (Evo.refl η w) (Keeps.refl η) hI.heap hI.fresh h
      · rename_i q hq heff
        have hq1 := lets_ok hreg hI _ q hchain hq
        subst hq1
        simp at h
      · cases h
    · rw [if_neg hw]
      have hnp : ¬ Passed ops a gd := fun hp => hw (by simp only [Region.wanted, hg, beq_iff_eq]; exact hp)
      have hskip : ∀ v, RunInv c nt ops (i + 1) η (St.set ⟨s.env, s.heap⟩ o.dst (.gd gd.1 gd.2 v)) (a.put o.dst undef) w := fun v => by
        refine RunInv.next hreg hI ho (Evo.refl η w) (Keeps.refl η) hI.heap hI.fresh (fun j p u hu => ?_) (by simp only [RV]) (fun hh h' hb => ?_)
        · cases hu; exact ⟨hg, fun hy => (hnp hy).elim⟩
        · obtain ⟨b, hb⟩ := hb; cases hb
      have hfalse : ∀ q, (chain ops 20 gd).length.blt 20 = true → lets ops s (chain ops 20 gd) = some q → q = false := fun q hl hq => by
        cases q with
        | false => rfl
        | true => exact absurd (lets_conv hreg hI 20 gd hlt hG (by simpa [Nat.blt_eq] using hl) hq) hnp
      split at h
      · rename_i q ok v hq heff
        cases hb : ok || !q with
        | false => simp [hb] at h
        | true =>
          simp only [hb, cond_true] at h
          exact hKn η _ _ w (hskip _) (Evo.refl η w) (Keeps.refl η) h
      · rename_i q ok os v _ hq heff
        cases hbl : (chain ops 20 gd).length.blt 20 with
        | false => simp [hbl] at h
        | true =>
          have hq1 := hfalse q hbl hq
          subst hq1
          simp only [hbl, cond_true, cond_false] at h
          exact hKn η _ _ w (hskip _) (Evo.refl η w) (Keeps.refl η) h
      · rename_i q ok H' v hq heff
        cases hbl : (n.beq 0 && (chain ops 20 gd).length.blt 20) with
        | false => simp [hbl] at h
        | true =>
          have hq1 := hfalse q (by rw [Bool.and_eq_true] at hbl; exact hbl.2) hq
          subst hq1
          simp only [hbl, cond_true, cond_false] at h
          exact hKn η _ _ w (hskip _) (Evo.refl η w) (Keeps.refl η) h
      · rename_i q e q' g hq heff
        cases hdf : g e.dflt with
        | none =>
          rw [hdf] at h
          simp only at h
          cases hbl : (n.beq 0 && (chain ops 20 gd).length.blt 20) with
          | false => simp [hbl] at h
          | true =>
            have hq1 := hfalse q (by rw [Bool.and_eq_true] at hbl; exact hbl.2) hq
            subst hq1
            simp only [hbl, cond_true, cond_false] at h
            exact hKn η _ _ w (hskip _) (Evo.refl η w) (Keeps.refl η) h
        | some dv =>
        rw [hdf] at h
        simp only at h
        cases hval : (cond q e.val (some e.dflt)) with
        | none => rw [hval] at h; simp at h
        | some x =>
          rw [hval] at h
          simp only [Option.bind_some] at h
          split at h
          · exact hKn η _ _ w (hskip _) (Evo.refl η w) (Keeps.refl η) h
          · cases h
      · rename_i q v hq heff
        cases hbl : (n.beq 0 && (chain ops 20 gd).length.blt 20) with
        | false => simp [hbl] at h
        | true =>
          have hq1 := hfalse q (by rw [Bool.and_eq_true] at hbl; exact hbl.2) hq
          subst hq1
          simp only [hbl, cond_true, cond_false] at h
          exact hKn η _ _ w (hskip _) (Evo.refl η w) (Keeps.refl η) h
      · rename_i q hq heff
        cases q with
        | true => simp at h
        | false =>
          simp only [cond_false] at h
          exact hKn η _ _ w (hskip _) (Evo.refl η w) (Keeps.refl η) h
      · cases h

theorem runOps_ok {c : Cfg T} (hc : Fine c) {nt : Nat} {ops : Array Oper} (hreg : Reg nt ops) {Q : Exit → Act → World → Prop} {ρ : Type} {r : ρ} {K : St T → Option ρ} {kp : V T → St T → Option ρ} {η0 : Eta} {w0 : World} {m : Nat}
    (hkp : ∀ v y s a w η, a.defers = η.df → nt ≤ a.tmps.size → RV (rc c) η w v y → (∀ t, RV (rc c) η w (s.env t) (a.eval (.tmp t))) → (∀ t j p u, s.env t ≠ .gd j p u) → RelH (rc c) η s.heap w → (∀ id, s.heap.length ≤ id → η id = none) → Evo η0 η w0 w → KeepsTo m η0 η → kp v s = some r → Q (.panic [{ v := y, recovered := false }]) a w)
    (hK : ∀ s' a' w' η', RunInv c nt ops ops.size η' s' a' w' → Evo η0 η' w0 w' → KeepsTo m η0 η' → K s' = some r → Q .normal a' w') :
    ∀ (l : List Oper) (n i : Nat) (η : Eta) (s : St T) (a : Act) (w : World), ops.toList.drop i = l → RunInv c nt ops i η s a w → Evo η0 η w0 w → KeepsTo m η0 η → runOps c ops kp n l s K = some r →
      wpOps c.P ops Q (List.range' i l.length) a w
  | [], n, i, η, s, a, w, hl, hI, he, hk, h => by
    simp only [runOps] at h
    simp only [List.length_nil, List.range'_zero, wpOps]
    have hi : ops.size ≤ i := by have := List.drop_eq_nil_iff.1 hl; simpa using this
    refine hK s a w η ?_ he hk h
    exact { hI with
      gd := fun t j p v hv => by
        obtain ⟨h1, _, h3⟩ := hI.gd t j p v hv
        obtain ⟨o, t', h4, _⟩ := hreg.has j h1
        exact ⟨h1, (Array.getElem?_eq_some_iff.1 h4).1, h3⟩
      ch := fun j o g hj => hI.ch j o g (by omega) }
  | o :: rest, n, i, η, s, a, w, hl, hI, he, hk, h => by
    have ho : ops[i]? = some o := by
      have : (ops.toList.drop i)[0]? = some o := by rw [hl]; rfl
      simpa using this
    have hrest : ops.toList.drop (i + 1) = rest := by
      rw [← List.tail_drop, hl]; rfl
    simp only [List.length_cons, List.range'_succ]
    rw [wpOps_cons]
    exact runOps_step hc hreg ho (fun η' v y H' w' hv he' hk' hH hfr h' => hkp v y (bare s H') a w' η' (by rw [he'.df]; exact hI.def0) hI.size hv (fun t => strip_rv (RV.mono he' hk' _ _ (hI.env t))) (fun t j p u => strip_ng) hH hfr (he.trans he') (hk.trans (hk'.to m)) h') (fun η' s' a' w' hI' he' hk' h' => runOps_ok hc hreg hkp hK rest (n - 1) (i + 1) η' s' a' w' hrest hI' (he.trans he') (hk.trans (hk'.to m)) h') hI h

end Go.Ev
