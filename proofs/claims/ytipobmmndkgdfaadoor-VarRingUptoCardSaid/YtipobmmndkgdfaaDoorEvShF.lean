/- strings.EqualFold at a text that is not ASCII and an ASCII one: no condition beyond those that each theorem names. -/
import Derived.Test.YtipobmmndkgdfaaDoorEvShE
import Derived.ScopeJumps
import Derived.Laws.RangeAny
set_option linter.unusedVariables false
set_option linter.unusedSimpArgs false
namespace Go.Ev
open Go.Shelf Go.RowKit Go.Proofs
variable {P : Program} {ρ : Ren}

/-- An ASCII byte with no folds beyond ASCII. -/
def foldC (c : UInt8) : Bool := decide (c.toNat < 128) && !(c == 75 || c == 83 || c == 107 || c == 115)

theorem ext_list (s : ByteArray) (i : Nat) (h : i ≤ s.size) : (s.extract i s.size).data.toList = s.data.toList.drop i := by
  rw [ByteArray.data_extract, Array.toList_extract, List.extract_eq_take_drop]
  apply List.take_of_length_le
  rw [List.length_drop, Lib.size_eq]
  exact Nat.le_refl _

theorem tab_iter {w : World} {name : String} {k : IntKind} {zs : List Int} (h : Lib.TabIs P w name k zs) (S : ByteArray) (n : Nat) : Lib.TabIs P (w.iter S n) name k zs := by
  unfold Lib.TabIs World.var? at h ⊢
  obtain ⟨g, hg, hb⟩ := Option.bind_eq_some_iff.1 h
  rw [hg]
  simp only [Option.bind_some]
  have hlt : g < w.heap.size := by
    rcases Nat.lt_or_ge g w.heap.size with h' | h'
    · exact h'
    · rw [Array.getElem?_eq_none h'] at hb; cases hb
  have : (w.iter S n).heap[g]? = w.heap[g]? := Lib.alloc_old w _ g hlt
  rw [this]; exact hb

theorem below_iter (w : World) (S : ByteArray) (n : Nat) : Below w.heap.size w (w.iter S n) := (Below.refl _ w).alloc (Nat.le_refl _) _

theorem af_twice (y : UInt8) (h : foldC y = true) : afN y.toNat < 128 ∧ afN (afN y.toNat) = y.toNat := by
  have h2 : ∀ n : Fin 256, foldC (UInt8.ofNat n.val) = true → afN (UInt8.ofNat n.val).toNat < 128 ∧ afN (afN (UInt8.ofNat n.val).toNat) = (UInt8.ofNat n.val).toNat := by decide +kernel
  have := h2 ⟨y.toNat, y.toNat_lt⟩
  simp only [UInt8.ofNat_toNat] at this
  exact this h

def FJ (s t : ByteArray) (w0 : World) (M : Nat) (a' : Act) (w' : World) : Prop :=
  w' = w0 ∧ ∃ (i : Nat) (x y : UInt8) (u4 u6 u7 u8 u14 u15 u16 u17 u18 u19 u20 u21 u22 u23 u24 u25 u26 u27 u28 u29 u30 u31 u32 u33 u34 u35 u36 u37 u38 u39 u40 u41 u42 u43 u44 u45 u46 u47 u48 u49 u50 u51 u52 u53 u54 : Value), i < M ∧ s.data.toList[i]? = some x ∧ t.data.toList[i]? = some y ∧ 128 ≤ x.toNat ∧
    a' = { tmps := #[.string s, .string t, undef, undef, u4, .int .i64 i, u6, u7, u8, undef, undef, undef, undef, undef, u14, u15, u16, u17, u18, u19, u20, u21, u22, u23, u24, u25, u26, u27, u28, u29, u30, u31, u32, u33, u34, u35, u36, u37, u38, u39, u40, u41, u42, u43, u44, u45, u46, u47, u48, u49, u50, u51, u52, u53, u54, undef, undef, undef, undef, undef, undef, undef, undef, undef, undef, undef, undef, undef, undef, undef, undef, undef, undef, undef, undef, undef, undef, undef, undef, undef, undef, undef, undef, undef, undef, undef, undef, undef, undef, undef, undef, undef, undef, undef, undef, undef, undef, undef, undef, undef, undef, undef, undef, undef, undef, undef, undef, undef, undef, undef, undef, undef, undef, undef, undef, undef, undef, undef, undef, undef, undef, undef, undef], defers := [] }

theorem FJ.mk {s t : ByteArray} {w : World} {M : Nat} (i : Nat) (x y : UInt8) {u4 u6 u7 u8 u14 u15 u16 u17 u18 u19 u20 u21 u22 u23 u24 u25 u26 u27 u28 u29 u30 u31 u32 u33 u34 u35 u36 u37 u38 u39 u40 u41 u42 u43 u44 u45 u46 u47 u48 u49 u50 u51 u52 u53 u54 : Value} (h1 : i < M) (h2 : s.data.toList[i]? = some x) (h3 : t.data.toList[i]? = some y) (h4 : 128 ≤ x.toNat) :
    FJ s t w M { tmps := #[.string s, .string t, undef, undef, u4, .int .i64 i, u6, u7, u8, undef, undef, undef, undef, undef, u14, u15, u16, u17, u18, u19, u20, u21, u22, u23, u24, u25, u26, u27, u28, u29, u30, u31, u32, u33, u34, u35, u36, u37, u38, u39, u40, u41, u42, u43, u44, u45, u46, u47, u48, u49, u50, u51, u52, u53, u54, undef, undef, undef, undef, undef, undef, undef, undef, undef, undef, undef, undef, undef, undef, undef, undef, undef, undef, undef, undef, undef, undef, undef, undef, undef, undef, undef, undef, undef, undef, undef, undef, undef, undef, undef, undef, undef, undef, undef, undef, undef, undef, undef, undef, undef, undef, undef, undef, undef, undef, undef, undef, undef, undef, undef, undef, undef, undef, undef, undef, undef, undef, undef, undef, undef, undef, undef, undef], defers := [] } w := ⟨rfl, i, x, y, u4, u6, u7, u8, u14, u15, u16, u17, u18, u19, u20, u21, u22, u23, u24, u25, u26, u27, u28, u29, u30, u31, u32, u33, u34, u35, u36, u37, u38, u39, u40, u41, u42, u43, u44, u45, u46, u47, u48, u49, u50, u51, u52, u53, u54, h1, h2, h3, h4, rfl⟩

set_option maxHeartbeats 8000000 in
set_option maxRecDepth 1000000 in
theorem run_foldHigh (L : Lays.n164 P ρ) (hgl : P.globalNamed "unicode.asciiFold" = some (ρ.g 11)) (s t : ByteArray) (w : World) (hs : s.size < 4294967281)
    (hi : ∃ (j : Nat) (b : UInt8), s.data.toList[j]? = some b ∧ 128 ≤ b.toNat) (hat : ∀ (j : Nat) b, t.data.toList[j]? = some b → foldC b = true)
    (hT : Lib.TabIs P w "unicode.asciiFold" .u16 afTab) :
    Calls P (ρ.f 164) #[.string s, .string t] w fun e w' => e = .returned (.bool false) ∧ Below w.heap.size w w' := by
  have HI0 : Aside (∃ (j : Nat) (b : UInt8), s.data.toList[j]? = some b ∧ 128 ≤ b.toNat) := hi
  have HT : Aside (∀ (j : Nat) b, t.data.toList[j]? = some b → foldC b = true) := hat
  have HTab : Aside (Lib.TabIs P w "unicode.asciiFold" .u16 afTab) := hT
  clear hi hat hT
  obtain ⟨M, hM⟩ : ∃ M : Nat, min (s.size : Int) (t.size : Int) = (M : Int) := ⟨min s.size t.size, by omega⟩
  have hMs : M ≤ s.size := by omega
  have hMt : M ≤ t.size := by omega
  have hMe : M = s.size ∨ M = t.size := by omega
  have t3 := L.t3; have t4 := L.t4; have t5 := L.t5; have t9 := L.t9
  have a3 := L.a3; have a4 := L.a4; have a5 := L.a5; have a9 := L.a9
  have z3 := L.z3; have v3 := L.v3; have z4 := L.z4; have v4 := L.v4; have z5 := L.z5; have v5 := L.v5; have z9 := L.z9; have v9 := L.v9
  go_enter L.f164, Body.n164_ntmps ρ
  go_wp2
  refine wp_scope_jumps 0 (FJ s t w M) (fun _ _ => 0) rfl ?first ?pass
  case first =>
    go_wp2
    go_loopg [5] M (fun g s5 wx => w = wx ∧ ∃ i : Nat, i + g = M ∧ s5 = .int .i64 i ∧ ∀ (j : Nat) b, j < i → s.data.toList[j]? = some b → b.toNat < 128)
    case atStart => exact ⟨rfl, 0, by omega, rfl, fun j b h => by omega⟩
    case round =>
      obtain ⟨rfl, i, hig, rfl, hinv⟩ := hrel
      have HI : Aside (∀ (j : Nat) b, j < i → s.data.toList[j]? = some b → b.toNat < 128) := hinv
      clear hinv hM
      cases gk with
      | zero =>
        have hiM : ¬ ((i : Int) < (M : Int)) := by omega
        obtain rfl : i = M := by omega
        have hne : s.size ≠ t.size := by
          intro he
          obtain ⟨j, b, hj, hb⟩ := HI0.out
          have hjl := (List.getElem?_eq_some_iff.1 hj).1
          rw [← Lib.size_eq] at hjl
          have := HI.out j b (by omega) hj
          omega
        have hb : ((s.size : Int) == (t.size : Int)) = false := beq_eq_false_iff_ne.2 (by omega)
        go_wp2
        simp only [Exit.jump]
        go_ret
        exact ⟨rfl, Below.refl _ _⟩
      | succ g =>
        have hiM : (i : Int) < (M : Int) := by omega
        have hisz : (i : Int) < (s.size : Int) := by omega
        have hitz : (i : Int) < (t.size : Int) := by omega
        obtain ⟨x, hx⟩ : ∃ x : UInt8, s[i]'(by omega) = x := ⟨_, rfl⟩
        obtain ⟨y, hy⟩ : ∃ y : UInt8, t[i]'(by omega) = y := ⟨_, rfl⟩
        have hxl : s.data.toList[i]? = some x := by rw [← hx]; exact Lib.data_getElem? s i (by omega)
        have hyl : t.data.toList[i]? = some y := by rw [← hy]; exact Lib.data_getElem? t i (by omega)
        have hy128 : y.toNat < 128 := by have := HT.out i y hyl; simp [foldC] at this; exact this.1
        have hor : bits .or .u8 (x.toNat : Int) (y.toNat : Int) = ((x.toNat ||| y.toNat : Nat) : Int) := u8_or_nat _ _ (by have := x.toNat_lt; omega) (by omega)
        have Hx : Aside (s.data.toList[i]? = some x ∧ t.data.toList[i]? = some y) := ⟨hxl, hyl⟩
        clear hxl hyl
        by_cases hx128 : x.toNat < 128
        · have hor128 : ¬ ((128 : Int) ≤ ((x.toNat ||| y.toNat : Nat) : Int)) := by have := Nat.or_lt_two_pow (n := 7) hx128 hy128; omega
          have hnext : ∀ (j : Nat) b, j < i + 1 → s.data.toList[j]? = some b → b.toNat < 128 := fun j b hj hjb => by
            by_cases he : j = i
            · subst he
              rw [Hx.out.1] at hjb; cases hjb; exact hx128
            · exact HI.out j b (by omega) hjb
          have HN : Aside (∀ (j : Nat) b, j < i + 1 → s.data.toList[j]? = some b → b.toNat < 128) := hnext
          clear hnext
          go_wp2
          all_goals first
            | (go_roundg g
               case measure => omega
               case rel => exact ⟨rfl, i + 1, by omega, by first | rfl | simp, HN.out⟩)
            | (simp only [Exit.jump]; go_ret; exact ⟨rfl, Below.refl _ _⟩)
        · have hor128 : (128 : Int) ≤ ((x.toNat ||| y.toNat : Nat) : Int) := by have := @Nat.left_le_or x.toNat y.toNat; omega
          go_wp2
          exact wp_goto (show 0 = 0 ∧ FJ s t w M _ w from ⟨rfl, FJ.mk i x y (by omega) Hx.out.1 Hx.out.2 (by omega)⟩)
  case pass =>
    rintro a' w' ⟨rfl, i, x, y, u4, u6, u7, u8, u14, u15, u16, u17, u18, u19, u20, u21, u22, u23, u24, u25, u26, u27, u28, u29, u30, u31, u32, u33, u34, u35, u36, u37, u38, u39, u40, u41, u42, u43, u44, u45, u46, u47, u48, u49, u50, u51, u52, u53, u54, hiM, hx, hy, hx128, rfl⟩
    obtain ⟨S, hS⟩ : ∃ S : ByteArray, s.extract i s.size = S := ⟨_, rfl⟩
    obtain ⟨T', hT'⟩ : ∃ T' : ByteArray, t.extract i t.size = T' := ⟨_, rfl⟩
    have hSl : S.data.toList = s.data.toList.drop i := by rw [← hS]; exact ext_list s i (by omega)
    have hTl : T'.data.toList = t.data.toList.drop i := by rw [← hT']; exact ext_list t i (by omega)
    have hS0 : S.data.toList[0]? = some x := by rw [hSl, List.getElem?_drop]; exact hx
    have hT0 : T'.data.toList[0]? = some y := by rw [hTl, List.getElem?_drop]; exact hy
    have hSs : 0 < S.size := by rw [Lib.size_eq]; exact (List.getElem?_eq_some_iff.1 hS0).1
    have hTs : 0 < T'.size := by rw [Lib.size_eq]; exact (List.getElem?_eq_some_iff.1 hT0).1
    have hTs2 : T'.size ≤ t.size := by rw [Lib.size_eq, Lib.size_eq, hTl]; simp
    have hSx : S[0]'hSs = x := by
      have := Lib.data_getElem? S 0 hSs
      rw [hS0] at this
      exact (Option.some.inj this).symm
    have hdec := decode_high S 0 hSs (by rw [hSx]; exact hx128)
    have hdle := decode_le S 0
    have hnx0 : ∀ ty, (Instr.next (.pointer (some ⟨w'.heap.size, 0, none⟩)) true ty).run P (w'.iter S 0) = _ := fun ty => run_next_any w' S 0 ty hSs
    have hfc := HT.out i y hy
    obtain ⟨r, hr⟩ : ∃ r : Nat, (Utf8.decode S 0).1 = r := ⟨_, rfl⟩
    obtain ⟨n, hn⟩ : ∃ n : Nat, 0 + (Utf8.decode S 0).2 = n := ⟨_, rfl⟩
    rw [hr, hn] at hnx0
    rw [hr] at hdec hdle
    have hr1 := hdec.1
    clear hdec
    have hy128 : y.toNat < 128 := by simp [foldC] at hfc; exact hfc.1
    obtain ⟨z0, hz0⟩ : ∃ z, z = afN y.toNat := ⟨_, rfl⟩
    obtain ⟨hz1, hz2⟩ := af_twice y hfc
    rw [← hz0] at hz1 hz2
    have HTab2 : Aside (Lib.TabIs P (w'.iter S n) "unicode.asciiFold" .u16 afTab) := tab_iter HTab.out S n
    have e197 : ∀ args w, (callFunc (ρ.f 197) args).run P w = .ok (.enter (ρ.f 197) args) w := enters_of L.f197 (by kernel_rfl) rfl
    have e239 : ∀ args w, (callFunc (ρ.f 239) args).run P w = .ok (.enter (ρ.f 239) args) w := enters_of L.f239 (by kernel_rfl) rfl
    have t21 := L.t21; have a21 := L.a21; have z21 := L.z21; have v21 := L.v21
    have hisz : (i : Int) ≤ (s.size : Int) := by omega
    have hitz : (i : Int) ≤ (t.size : Int) := by omega
    have hTz : ((T'.size : Int) == 0) = false := beq_eq_false_iff_ne.2 (by omega)
    have hT1 : (1 : Int) ≤ (T'.size : Int) := by omega
    have HT0 : Aside (T'.data.toList[0]? = some y) := hT0
    have HB : Aside (Below w'.heap.size w' (w'.iter S n)) := below_iter w' S n
    clear hx hy hSl hTl hS0 hT0 hSx hfc hr hn hM
    go_wp2
    go_loopg [1] 0 (fun g s1 wx => wx = w'.iter S 0 ∧ s1 = .string T')
    case atStart => exact ⟨rfl, rfl⟩
    case round =>
      obtain ⟨rfl, rfl⟩ := hrel
      go_wp2_with (go_at_fn (ρ.f 197); refine (Any.utf8_DecodeRuneInString_ascii { L with } T' y _ HT0.out hy128).mono ?_; rintro e w2 ⟨rfl, rfl⟩)
      go_wp2_with (go_at_fn (ρ.f 239); refine (run_simpleFold { L with } hgl y.toNat hy128 _ HTab2.out).mono ?_; rintro e w2 ⟨rfl, rfl⟩)
      go_loopg [13] 1 (fun g s13 wx => wx = w'.iter S n ∧ ∃ z : Nat, s13 = .int .i32 z ∧ z < 128 ∧ ((g = 0 ∧ z = y.toNat) ∨ (g = 1 ∧ afN z = y.toNat)))
      case atStart => exact ⟨rfl, afN y.toNat, rfl, by rw [← hz0]; exact hz1, .inr ⟨rfl, by rw [← hz0]; exact hz2⟩⟩
      case round =>
        obtain ⟨rfl, z, rfl, hz, hg⟩ := hrel
        have hrz : ¬ ((z : Int) = (r : Int)) := by omega
        have hzr : (z : Int) < (r : Int) := by omega
        have hryz : ((z : Int) == (r : Int)) = false := beq_eq_false_iff_ne.2 (by omega)
        by_cases he : z = y.toNat
        · subst he
          go_wp2
          simp only [Exit.jump]
          go_ret
          exact ⟨rfl, HB.out⟩
        · rcases hg with ⟨_, h2⟩ | ⟨rfl, h2⟩
          · exact absurd h2 he
          · have hne : ((z : Int) != (y.toNat : Int)) = true := by simp; omega
            go_wp2_with (go_at_fn (ρ.f 239); refine (run_simpleFold { L with } hgl z hz _ HTab2.out).mono ?_; rintro e w2 ⟨rfl, rfl⟩)
            go_roundg 0
            case measure => omega
            case rel => exact ⟨rfl, y.toNat, rfl, hy128, .inl ⟨rfl, rfl⟩⟩
end Go.Ev
