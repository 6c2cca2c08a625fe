/- A part of the evaluator of Go code over small heaps and of its proof: no condition beyond those that each theorem names. -/
import Derived.Test.YtgoglplnajofnaaGreatDoorEvRun2
set_option linter.unusedVariables false
set_option linter.unusedSimpArgs false
set_option linter.constructorNameAsVariable false
namespace Go.Ev
variable {T : TypeId → Type}

/-- A state and what it stands for, between regions. -/
structure Bd (c : Cfg T) (nt : Nat) (η : Eta) (s : St T) (a : Act) (w : World) : Prop where
  def0 : a.defers = η.df
  size : nt ≤ a.tmps.size
  env : ∀ t, RV (rc c) η w (s.env t) (a.eval (.tmp t))
  ng : ∀ t j p v, s.env t ≠ .gd j p v
  heap : RelH (rc c) η s.heap w
  fresh : ∀ id, s.heap.length ≤ id → η id = none

theorem Bd.run {c : Cfg T} {nt : Nat} {η : Eta} {s : St T} {a : Act} {w : World} (h : Bd c nt η s a w) (ops : Array Oper) : RunInv c nt ops 0 η s a w :=
  ⟨h.def0, h.size, h.env, fun t j p v hv => absurd hv (h.ng t j p v), fun j _ _ hj => by omega, h.heap, h.fresh⟩

theorem RunInv.bd {c : Cfg T} {nt i : Nat} {ops : Array Oper} {η : Eta} {s : St T} {a : Act} {w : World} (h : RunInv c nt ops i η s a w) : Bd c nt η (stripped ops s) a w := by
  unfold stripped
  cases hg : ops.any (·.guard.isSome) with
  | true =>
    simp only [cond_true]
    exact ⟨h.def0, h.size, fun t => strip_rv (h.env t), fun t j p v => strip_ng, h.heap, h.fresh⟩
  | false =>
    simp only [cond_false]
    refine ⟨h.def0, h.size, h.env, fun t j p v hv => ?_, h.heap, h.fresh⟩
    obtain ⟨⟨k, o, w', h1, h2⟩, _⟩ := h.gd t j p v hv
    rw [Array.any_eq_false] at hg
    have hlt := (Array.getElem?_eq_some_iff.1 h1).1
    have := hg k hlt
    rw [(Array.getElem?_eq_some_iff.1 h1).2, h2] at this
    simp at this

def Ex.toExit : Ex → Exit
  | .norm => .normal
  | .exit id => .exit id

/-- What holds where a panic is met. -/
def PanQ (c : Cfg T) (nt m : Nat) {ρ : Type} (kr : Kr T ρ) (r : ρ) (Q : Exit → Act → World → Prop) (η0 : Eta) (w0 : World) : Prop :=
  ∀ v y s a w η, Bd c nt η s a w → RV (rc c) η w v y → Evo η0 η w0 w → KeepsTo m η0 η → kr.pan v s = some r → Q (.panic [{ v := y, recovered := false }]) a w

/-- What is said of code holds: from a result on, every run comes to where the continuation says. -/
def Sound (c : Cfg T) (nt m : Nat) {ρ : Type} (kr : Kr T ρ) (code : Code) (run : St T → (Ex → St T → Option ρ) → Option ρ) : Prop :=
  ∀ (r : ρ) (Q : Exit → Act → World → Prop) (K : Ex → St T → Option ρ) (η0 : Eta) (w0 : World),
    (∀ s a w η, Bd c nt η s a w → Evo η0 η w0 w → KeepsTo m η0 η → kr.ret s = some r → Q .ret a w) → PanQ c nt m kr r Q η0 w0 →
    (∀ ex s a w η, Bd c nt η s a w → Evo η0 η w0 w → KeepsTo m η0 η → K ex s = some r → Q ex.toExit a w) →
    ∀ η s a w, Bd c nt η s a w → Evo η0 η w0 w → KeepsTo m η0 η → run s K = some r → code.wp c.P Q a w

def Good (c : Cfg T) (nt m : Nat) {ρ : Type} (kr : Kr T ρ) : AC T ρ → Prop
  | .seq a b => Good c nt m kr a ∧ Good c nt m kr b
  | .cnd _ a b => Good c nt m kr a ∧ Good c nt m kr b
  | .block _ a => Good c nt m kr a
  | .cut code f => Sound c nt m kr code f
  | _ => True

/-- Regions that draw their order. -/
def DrawOk (c : Cfg T) : Prop := ∀ (nt : Nat) (id : Nat) (ops : Array Oper) (ρ : Type) (r : ρ) (Q : Exit → Act → World → Prop) (K : St T → Option ρ) (kp : V T → St T → Option ρ) (η0 : Eta) (w0 : World) (m : Nat), Reg nt ops →
  drawOk ops = true →
  (∀ v y s a w η, Bd c nt η s a w → RV (rc c) η w v y → Evo η0 η w0 w → KeepsTo m η0 η → kp v s = some r → Q (.panic [{ v := y, recovered := false }]) a w) →
  (∀ s' a' w' η', RunInv c nt ops ops.size η' s' a' w' → Evo η0 η' w0 w' → KeepsTo m η0 η' → K s' = some r → Q .normal a' w') →
  ∀ η s a w, Bd c nt η s a w → Evo η0 η w0 w → KeepsTo m η0 η → runD c ops (pres ops.toList []) kp 0 [] ops.toList s K = some r → (Code.region id ops true).wp c.P Q a w

theorem runK_ok {c : Cfg T} (hc : Fine c) (hd : DrawOk c) (nt m : Nat) {ρ : Type} (kr : Kr T ρ) : ∀ (ac : AC T ρ), Good c nt m kr ac → Sound c nt m kr ac.code (runK c nt kr ac)
  | .skip, _ => fun r Q K η0 w0 hkr hpn hK η s a w hB he hk h => wp_skip (hK .norm s a w η hB he hk h)
  | .reg id ops draw, _ => fun r Q K η0 w0 hkr hpn hK η s a w hB he hk h => by
    simp only [runK] at h
    have hK' : ∀ s' a' w' η', RunInv c nt ops ops.size η' s' a' w' → Evo η0 η' w0 w' → KeepsTo m η0 η' → K .norm (stripped ops s') = some r → Q .normal a' w' :=
      fun s' a' w' η' hI he' hk' h' => hK .norm _ a' w' η' hI.bd he' hk' h'
    cases draw with
    | false =>
      simp only [cond_false] at h
      cases hb : regOk nt ops with
      | false => simp [hb] at h
      | true =>
        simp only [hb, cond_true] at h
        have hreg := regOk_ok hb
        simp only [AC.code]
        refine wp_region ?_
        have := runOps_ok hc hreg (K := fun s' => K .norm (stripped ops s')) (fun v y s a w η h1 h2 h3 h4 h5 h6 h7 => hpn v y s a w η ⟨h1, h2, h4, h5, h6, h7⟩ h3) hK' ops.toList 0 0 η s a w (by simp) (hB.run ops) he hk h
        simpa [List.range_eq_range'] using this
    | true =>
      simp only [cond_true] at h
      cases hb : regOk nt ops && drawOk ops with
      | false => simp [hb] at h
      | true =>
        simp only [hb, cond_true] at h
        simp only [Bool.and_eq_true] at hb
        have hreg := regOk_ok hb.1
        simp only [AC.code]
        exact hd nt id ops ρ r Q (fun s' => K .norm (stripped ops s')) kr.pan η0 w0 m hreg hb.2 hpn hK' η s a w hB he hk h
  | .seq x y, hg => fun r Q K η0 w0 hkr hpn hK η s a w hB he hk h => by
    simp only [runK] at h
    refine wp_seq (runK_ok hc hd nt m kr x hg.1 r (Exit.then (y.code.wp c.P Q) Q) _ η0 w0 hkr hpn ?_ η s a w hB he hk h)
    intro ex s' a' w' η' hB' he' hk' h'
    cases ex with
    | norm => exact runK_ok hc hd nt m kr y hg.2 r Q K η0 w0 hkr hpn hK η' s' a' w' hB' he' hk' h'
    | exit id => exact hK (.exit id) s' a' w' η' hB' he' hk' h'
  | .cnd x y z, hg => fun r Q K η0 w0 hkr hpn hK η s a w hB he hk h => by
    simp only [runK] at h
    split at h
    · rename_i p hp
      have hx := rd_ok (hB.run #[]).rd (G := []) (fun _ hm => by simp at hm) x
      have hx' : RV (rc c) η w (ev s x) (a.eval x) := by
        unfold rd at hx
        rw [hp] at hx
        rw [hp]; exact hx
      rw [hp] at hx'
      simp only [RV] at hx'
      have hx2 : a.eval x = .bool p := by generalize a.eval x = ax at hx'; cases hx'; rfl
      refine wp_cond hx2 ?_
      cases p with
      | true => exact runK_ok hc hd nt m kr y hg.1 r Q K η0 w0 hkr hpn hK η s a w hB he hk (by simpa using h)
      | false => exact runK_ok hc hd nt m kr z hg.2 r Q K η0 w0 hkr hpn hK η s a w hB he hk (by simpa using h)
    · cases h
  | .block id x, hg => fun r Q K η0 w0 hkr hpn hK η s a w hB he hk h => by
    simp only [runK] at h
    refine wp_block (runK_ok hc hd nt m kr x hg r (Exit.inBlock id Q) _ η0 w0 hkr hpn ?_ η s a w hB he hk h)
    intro ex s' a' w' η' hB' he' hk' h'
    cases ex with
    | norm => exact hK .norm s' a' w' η' hB' he' hk' h'
    | exit id' =>
      simp only [Ex.toExit, Exit.inBlock]
      cases hid : id'.beq id with
      | true =>
        rw [if_pos (Nat.eq_of_beq_eq_true hid)]
        simp only [hid, cond_true] at h'
        exact hK .norm s' a' w' η' hB' he' hk' h'
      | false =>
        rw [if_neg (fun h => by subst h; simp at hid)]
        simp only [hid, cond_false] at h'
        exact hK (.exit id') s' a' w' η' hB' he' hk' h'
  | .exit id, _ => fun r Q K η0 w0 hkr hpn hK η s a w hB he hk h => wp_exit (hK (.exit id) s a w η hB he hk h)
  | .ret, _ => fun r Q K η0 w0 hkr hpn hK η s a w hB he hk h => wp_ret (hkr s a w η hB he hk h)
  | .cut code f, hg => hg
  | .bad code, _ => fun r Q K η0 w0 hkr hpn hK η s a w hB he hk h => by simp [runK] at h

end Go.Ev
