/- A declaration that says important, however it is written: in plain words, no Go in sight; no condition beyond those that each theorem names. -/
import Derived.Test.YtahodlnphioepaaDoorEvTkW
set_option linter.unusedVariables false
set_option linter.unusedSimpArgs false
namespace Go.Ev.Tok

/-- Tokens that say important. -/
def MarkT (Mk : List Tk) : Prop := ∃ S1 m S2 t S3, Mk = S1 ++ m :: (S2 ++ t :: S3) ∧ AllS S1 ∧ mrkT m = true ∧ AllS S2 ∧ t.1 = 1 ∧ fldT t word = true ∧ AllS S3

theorem mark_skip {Mk : List Tk} (h : MarkT Mk) : ∀ t ∈ Mk, semT t = false ∧ opT t = false := by
  obtain ⟨S1, m, S2, t, S3, rfl, h1, h2, h3, h4, h5, h6⟩ := h
  have sil : ∀ u, silT u = true → semT u = false ∧ opT u = false := fun u hu => ⟨(sil_kind hu).2.2.2.1, (sil_kind hu).1⟩
  intro u hu
  rcases List.mem_append.1 hu with e | e
  · exact sil u (h1 u e)
  · rcases List.mem_cons.1 e with e | e
    · rw [e]
      unfold mrkT rawT at h2
      rw [Bool.and_eq_true, beq_iff_eq, beq_iff_eq] at h2
      unfold semT rawT opT
      rw [h2.1, h2.2]; simp
    · rcases List.mem_append.1 e with e | e
      · exact sil u (h3 u e)
      · rcases List.mem_cons.1 e with e | e
        · rw [e]; unfold semT rawT opT; rw [h4]; simp
        · exact sil u (h6 u e)

theorem read_mark (nm : List UInt8) (n : Int) (S0 A V Mk Y : List Tk) (h1 : plainP nm = true) (h2 : nmP nm = nm) (hS : AllS S0) (hA : AllS A) (h4 : nrm V = V) (h6 : ok [] V = true) (h7 : ownP nm = true ∨ (rw V).isEmpty = false) (hM : MarkT Mk) :
    decs ((((1 : Int), nm, nm, n) :: (S0 ++ COL :: (A ++ (V ++ Mk)))) ++ SEM :: Y) = [(nm, rw V, true)] ++ decs Y := by
  have sil : ∀ u, silT u = true → semT u = false ∧ opT u = false := fun u hu => ⟨(sil_kind hu).2.2.2.1, (sil_kind hu).1⟩
  have hsV : sol V = V := by rw [← h4]; exact sol_nrm V
  have hd : dcl (((1 : Int), nm, nm, n) :: (S0 ++ COL :: (A ++ (V ++ Mk)))) = some (nm, rw V, true) := by
    have hno : AllS ([] : List Tk) := by intro t ht; cases ht
    have hd := dcl_form [] S0 (A ++ (V ++ Mk)) ((1 : Int), nm, nm, n) COL hno hS rfl rfl
    rw [List.nil_append] at hd
    rw [hd]
    have hi : imp (A ++ (V ++ Mk)) = (V, true) := by
      obtain ⟨S1, m, S2, t, S3, rfl, g1, g2, g3, g4, g5, g6⟩ := hM
      have := imp_mark (A ++ V ++ S1) S2 S3 m t g2 g3 g4 g5 g6
      have e : A ++ (V ++ (S1 ++ m :: (S2 ++ t :: S3))) = A ++ V ++ S1 ++ m :: (S2 ++ t :: S3) := by simp only [List.append_assoc]
      rw [e, this, List.append_assoc, sol_pre _ _ hA, sol_app _ _ g1, hsV]
    rw [hi]
    simp only
    rw [h2, h1, ((of_ok _ V (Nat.le_refl _)).2 h6).1, head_nrm, h4]
    have hne : (ownP nm || !(rw V).isEmpty) = true := by
      rcases h7 with e | e <;> rw [e] <;> simp
    rw [hne]
    rfl
  rw [decs_piece _ Y, hd]
  · rfl
  · intro m hm
    have hf := (of_ok _ V (Nat.le_refl _)).2 h6
    have hP : ∀ u ∈ (((1 : Int), nm, nm, n) :: (S0 ++ COL :: A)), semT u = false ∧ opT u = false := by
      intro u hu
      rcases List.mem_cons.1 hu with e | e
      · rw [e]; exact ⟨rfl, rfl⟩
      · rcases List.mem_append.1 e with e | e
        · exact sil u (hS u e)
        · rcases List.mem_cons.1 e with e | e
          · rw [e]; exact ⟨rfl, rfl⟩
          · exact sil u (hA u e)
    have e : (((1 : Int), nm, nm, n) :: (S0 ++ COL :: (A ++ (V ++ Mk)))) ++ SEM :: Y = (((1 : Int), nm, nm, n) :: (S0 ++ COL :: A)) ++ (V ++ (Mk ++ SEM :: Y)) := by simp
    simp only [List.length_cons, List.length_append] at hm
    rw [e, fnd_skip semT _ _ m hP (by simp only [List.length_cons, List.length_append]; omega), hf.2 m _ (by simp only [List.length_cons, List.length_append]; omega), fnd_skip semT Mk _ m (mark_skip hM) (by simp only [List.length_cons]; omega)]
    have z : fnd semT m (SEM :: Y) = 0 := by
      match m with
      | 0 => omega
      | m + 1 => rw [fnd]; rfl
    rw [z]
    simp only [List.length_cons, List.length_append]
    omega

theorem stop32 : Stop 32 := ⟨rfl, rfl, rfl, rfl, rfl, rfl⟩

/-- A way to write important: its bytes; its tokens, and those with a blank ahead. -/
structure Writ (mark : List UInt8) : Prop where
  hd : ∃ z Z, mark = z :: Z ∧ Stop z
  cut : ∃ Mk, cutP (mark ++ [59]) = Mk ++ [SEM] ∧ MarkT Mk
  cut2 : ∃ Mk, cutP (32 :: (mark ++ [59])) = Mk ++ [SEM] ∧ MarkT Mk

theorem way_law (d : Dc) (h : Good d) (mark : List UInt8) (hw : Writ mark) : decs (cutP (d.1 ++ [32, 58, 32] ++ d.2.1 ++ mark ++ [59])) = [(d.1, d.2.1, true)] := by
  obtain ⟨h1, h2, V, h3, h4, h5, h6, h7, h8⟩ := h
  obtain ⟨nm, vl, ip⟩ := d
  simp only at h1 h2 h5 h7 h8 ⊢
  have e : nm ++ [32, 58, 32] ++ vl ++ mark ++ [59] = nm ++ 32 :: (58 :: 32 :: (vl ++ (mark ++ [59]))) := by simp
  obtain ⟨n, hn⟩ := name_cut h1 stop32 (58 :: 32 :: (vl ++ (mark ++ [59])))
  have hcol : ∀ Z, cutP (58 :: Z) = COL :: cutP Z := sign_cut sign58
  have hc1 : cutP (32 :: 58 :: 32 :: (vl ++ (mark ++ [59]))) = SP :: COL :: cutP (32 :: (vl ++ (mark ++ [59]))) := by
    rw [cut_blank _ (by unfold cnt; rw [List.takeWhile_cons]; rfl), hcol]; rfl
  have key : ∃ A Mk, cutP (32 :: (vl ++ (mark ++ [59]))) = A ++ (V ++ Mk) ++ [SEM] ∧ AllS A ∧ MarkT Mk := by
    cases hV : V with
    | nil =>
      have : vl = [] := by rw [h5, hV]; rfl
      rw [this]
      obtain ⟨Mk, c1, c2⟩ := hw.cut2
      exact ⟨[], Mk, by rw [List.nil_append, c1]; rfl, (by intro t ht; cases ht), c2⟩
    | cons u q =>
      obtain ⟨Mk, c1, c2⟩ := hw.cut
      obtain ⟨z, Z, m1, m2⟩ := hw.hd
      have hcV : cutP (rw V) = V := h3
      have hne : rw V ≠ [] := by intro e; rw [e, cutP_nil] at hcV; rw [← hcV] at hV; cases hV
      have hb : cnt isBlank (rw V) = 0 := by
        refine blank_of _ hne ?_
        have hu := nrm_hd V u q (by rw [h4]; exact hV)
        have := hcV
        rw [cutP_cons _ hne, hV] at this
        simp only [List.cons.injEq] at this
        have e : (tok1 (rw (u :: q))).1 = u.1 := congrArg (fun x : Tk => x.1) this.1
        rw [hV, e]
        intro e8
        unfold silT at hu
        rw [e8] at hu
        simp at hu
      have hb2 : cnt isBlank (vl ++ (mark ++ [59])) = 0 := by
        rw [h5]
        cases hr : rw V with
        | nil => exact absurd hr hne
        | cons a b =>
          rw [hr] at hb
          unfold cnt at hb ⊢
          rw [List.cons_append, List.takeWhile_cons]
          rw [List.takeWhile_cons] at hb
          cases hab : isBlank a with
          | true => rw [hab] at hb; simp at hb
          | false => simp
      refine ⟨[SP], Mk, ?_, (by intro t ht; rw [List.mem_singleton.1 ht]; rfl), c2⟩
      rw [cut_blank _ hb2, ← hV]
      have : vl ++ (mark ++ [59]) = rw V ++ z :: (Z ++ [59]) := by rw [h5, m1]; rfl
      rw [this, val_cut h3 h4 h6 m2]
      have : z :: (Z ++ [59]) = mark ++ [59] := by rw [m1]; rfl
      rw [this, c1]
      simp only [List.append_assoc, List.cons_append, List.nil_append]
      rfl
  obtain ⟨A, Mk, k1, k2, k3⟩ := key
  have hv : ownP nm = true ∨ (rw V).isEmpty = false := by
    rcases h7 with e | e
    · exact .inl e
    · right
      have hcV : cutP (rw V) = V := h3
      cases hr : rw V with
      | nil => rw [hr, cutP_nil] at hcV; exact absurd hcV.symm e
      | cons a b => rfl
  have := read_mark nm n [SP] A V Mk [] h1 h2 (by intro t ht; rw [List.mem_singleton.1 ht]; rfl) k2 h4 h6 hv k3
  rw [e, hn, hc1, k1, h5]
  have e2 : ((1 : Int), nm, nm, n) :: SP :: COL :: (A ++ (V ++ Mk) ++ [SEM]) = (((1 : Int), nm, nm, n) :: ([SP] ++ COL :: (A ++ (V ++ Mk)))) ++ SEM :: [] := by simp
  rw [e2, this]
  rfl

theorem none_sil : AllS [] := by intro t ht; cases ht
theorem one_sil {t : Tk} (h : silT t = true) : AllS [t] := by intro u hu; rw [List.mem_singleton.1 hu]; exact h

def up : List UInt8 := [73, 77, 80, 79, 82, 84, 65, 78, 84]
def mix : List UInt8 := [73, 109, 80, 111, 114, 116, 97, 110, 116]

theorem way0 : Writ [33, 105, 109, 112, 111, 114, 116, 97, 110, 116] :=
  ⟨⟨33, _, rfl, sign33.stop⟩, ⟨[MRK, IMP], by kernel_rfl, [], MRK, [], IMP, [], rfl, none_sil, rfl, none_sil, rfl, by kernel_rfl, none_sil⟩,
    ⟨[SP, MRK, IMP], by kernel_rfl, [SP], MRK, [], IMP, [], rfl, one_sil rfl, rfl, none_sil, rfl, by kernel_rfl, none_sil⟩⟩
theorem way1 : Writ [32, 33, 32, 73, 77, 80, 79, 82, 84, 65, 78, 84, 32] :=
  ⟨⟨32, _, rfl, stop32⟩, ⟨[SP, MRK, SP, (1, up, up, 0), SP], by kernel_rfl, [SP], MRK, [SP], (1, up, up, 0), [SP], rfl, one_sil rfl, rfl, one_sil rfl, rfl, by kernel_rfl, one_sil rfl⟩,
    ⟨[(8, [32, 32], [], 0), MRK, SP, (1, up, up, 0), SP], by kernel_rfl, [(8, [32, 32], [], 0)], MRK, [SP], (1, up, up, 0), [SP], rfl, one_sil rfl, rfl, one_sil rfl, rfl, by kernel_rfl, one_sil rfl⟩⟩
theorem way2 : Writ [47, 42, 42, 47, 33, 47, 42, 32, 120, 32, 42, 47, 105, 109, 112, 111, 114, 116, 97, 110, 116] :=
  ⟨⟨47, _, rfl, ⟨rfl, rfl, rfl, rfl, rfl, rfl⟩⟩, ⟨[(9, [47, 42, 42, 47], [], 0), MRK, (9, [47, 42, 32, 120, 32, 42, 47], [], 0), IMP], by kernel_rfl, [(9, [47, 42, 42, 47], [], 0)], MRK, [(9, [47, 42, 32, 120, 32, 42, 47], [], 0)], IMP, [], rfl, one_sil rfl, rfl, one_sil rfl, rfl, by kernel_rfl, none_sil⟩,
    ⟨[SP, (9, [47, 42, 42, 47], [], 0), MRK, (9, [47, 42, 32, 120, 32, 42, 47], [], 0), IMP], by kernel_rfl, [SP, (9, [47, 42, 42, 47], [], 0)], MRK, [(9, [47, 42, 32, 120, 32, 42, 47], [], 0)], IMP, [], rfl, (one_sil rfl).app (S := [SP]) (one_sil rfl), rfl, one_sil rfl, rfl, by kernel_rfl, none_sil⟩⟩
theorem way3 : Writ [10, 33, 10, 73, 109, 80, 111, 114, 116, 97, 110, 116, 10] :=
  ⟨⟨10, _, rfl, ⟨rfl, rfl, rfl, rfl, rfl, rfl⟩⟩, ⟨[(8, [10], [], 0), MRK, (8, [10], [], 0), (1, mix, mix, 0), (8, [10], [], 0)], by kernel_rfl, [(8, [10], [], 0)], MRK, [(8, [10], [], 0)], (1, mix, mix, 0), [(8, [10], [], 0)], rfl, one_sil rfl, rfl, one_sil rfl, rfl, by kernel_rfl, one_sil rfl⟩,
    ⟨[(8, [32, 10], [], 0), MRK, (8, [10], [], 0), (1, mix, mix, 0), (8, [10], [], 0)], by kernel_rfl, [(8, [32, 10], [], 0)], MRK, [(8, [10], [], 0)], (1, mix, mix, 0), [(8, [10], [], 0)], rfl, one_sil rfl, rfl, one_sil rfl, rfl, by kernel_rfl, one_sil rfl⟩⟩

end Go.Ev.Tok
