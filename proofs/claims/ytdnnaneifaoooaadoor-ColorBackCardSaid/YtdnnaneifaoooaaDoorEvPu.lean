/- strconv.ParseUint at base 16 and 64 bits, of hex digits, of seat YtdnnaneifaoooaaDoor. No condition beyond those that each theorem names. -/
import Derived.Test.YtdnnaneifaoooaaDoorEvShL
import Derived.Lib.Strings
import Derived.Lib.Walk
import Derived.Lib.ConvBytes
import Derived.Lib.AtoiAllMem
import Derived.Lib.Hide
import Derived.Laws.Strings3
import Derived.Laws.Closers25
import Derived.Laws.Closers25b
import Derived.WalkKit
import Derived.BigCall
import Derived.BigGuard
import Derived.Lib.SmallJoins
import Derived.Shelf.Abstract
import Derived.Test.YtdnnaneifaoooaaDoorProg
set_option linter.unusedVariables false
set_option linter.unusedSimpArgs false
namespace Go.Ev.Pu
open Go.RowKit Go.Shelf Go.Proofs

def hexOk (c : UInt8) : Bool := (Nat.ble 48 c.toNat && Nat.ble c.toNat 57) || (Nat.ble 97 c.toNat && Nat.ble c.toNat 102)
def hexD (c : UInt8) : Nat := bif Nat.ble c.toNat 57 then c.toNat - 48 else c.toNat - 87
def hexV : Nat → List UInt8 → Nat
  | acc, [] => acc
  | acc, c :: r => hexV (acc * 16 + hexD c) r

theorem hexV_cons (acc : Nat) (c : UInt8) (r : List UInt8) : hexV acc (c :: r) = hexV (acc * 16 + hexD c) r := rfl

theorem hexD_lt {c : UInt8} (h : hexOk c = true) : hexD c < 16 := by
  unfold hexOk at h
  unfold hexD
  have hc := c.toNat_lt
  cases h1 : Nat.ble c.toNat 57 with
  | true => have := Nat.le_of_ble_eq_true h1; simp only [cond_true]; omega
  | false =>
    rw [h1] at h
    simp only [Bool.and_false, Bool.false_or, Bool.and_eq_true] at h
    have h2 := Nat.le_of_ble_eq_true h.1
    have h3 := Nat.le_of_ble_eq_true h.2
    simp only [cond_false]; omega

theorem or32 : ∀ c : Fin 256, 97 ≤ c.val → c.val ≤ 102 → bits BinOp.or IntKind.u8 (c.val : Int) 32 = (c.val : Int) := by decide +kernel

theorem lower_in (c : Int) (w : World) : Calls Tryd.prog 192 #[.int .u8 c] w fun e w' => e = .returned (.int .u8 (bits BinOp.or IntKind.u8 c 32)) ∧ w' = w := by
  go_enter Tryd.func192, Tryd.ntmps192
  go_wp2
  go_ret
  exact ⟨rfl, rfl⟩

set_option maxHeartbeats 32000000 in
set_option maxRecDepth 100000 in
theorem pu16 (t : ByteArray) (hne : t.size ≠ 0) (hmax : t.size ≤ 15) (hok : t.data.toList.all hexOk = true) (w : World) :
    Calls Tryd.prog 160 #[.string t, .int .i64 16, .int .i64 64] w fun e w' => e = .returned (.tuple #[.int .u64 (hexV 0 t.data.toList : Nat), .nilIface]) ∧ w' = Lib.bytesWorld w 5 t := by
  have hemp : t.toList.isEmpty = false := by
    rw [← decide_eq_emptyBytes]
    exact decide_eq_false (fun h => hne (by rw [h]; rfl))
  have hcv := Lib.run_convert_string_bytes (P := Tryd.prog) w 9 63 5 t (u := .string) Tryd.underlying9 Tryd.underlying63 Tryd.underlying5
  have hB : ∀ j, j < t.size → (Lib.bytesWorld w 5 t).cell? ⟨w.heap.size, j, none⟩ = some (.int .u8 (t.data.toList.getD j 0).toNat) := fun j hj => Lib.bytesWorld_cell w 5 t j hj
  obtain ⟨W1, hW1⟩ : ∃ W1, W1 = Lib.bytesWorld w 5 t := ⟨_, rfl⟩
  rw [← hW1] at hcv hB ⊢
  clear hW1
  obtain ⟨bs, hL⟩ : ∃ bs, bs = t.data.toList := ⟨_, rfl⟩
  have hLn : bs.length = t.size := by rw [hL, Lib.size_eq]
  rw [← hL] at hB hok ⊢
  clear hL
  have hmv : IntKind.u64.wrap (IntKind.u64.wrap 18446744073709551616 - 1) = 18446744073709551615 := by
    rw [IntKind.wrap_u64, IntKind.wrap_u64]
    decide
  go_enter Tryd.func160, Tryd.ntmps160
  go_wp2
  go_loop [12, 13, 101] (fun vu vn vi => ∃ (k acc : Nat) (a : Int), vu = .bool false ∧ vn = .int .u64 a ∧ vi = .int .i64 k ∧ k ≤ t.size ∧ Hid (a = (acc : Int) ∧ acc < 16 ^ k ∧ hexV 0 bs = hexV acc (bs.drop k)))
    (fun _ _ vi => t.size - (intOf vi).toNat)
  case atStart => exact ⟨0, 0, 0, rfl, rfl, rfl, by omega, rfl, by omega, rfl⟩
  case round =>
    obtain ⟨k, acc, a, rfl, rfl, rfl, hk, hh⟩ := hrel
    obtain ⟨ha, hacc, hdec⟩ := hh.out
    clear hh
    by_cases hkn : k < t.size
    · have hc := hB k hkn
      have hdrop : bs.drop k = bs[k]'(by omega) :: bs.drop (k + 1) := List.drop_eq_getElem_cons (by omega)
      have hget : bs.getD k 0 = bs[k]'(by omega) := by simp [List.getD, List.getElem?_eq_getElem (show k < bs.length by omega)]
      have hokc : hexOk (bs[k]'(by omega)) = true := List.all_eq_true.1 hok _ (List.getElem_mem _)
      rw [hdrop] at hdec
      rw [hget] at hc
      generalize bs[k]'(by omega) = c at hc hdec hokc
      have hc256 : c.toNat < 256 := c.toNat_lt
      have hdl := hexD_lt hokc
      clear hB hdrop hget
      have hp : 16 ^ k ≤ 16 ^ 14 := Nat.pow_le_pow_right (by decide) (by omega)
      have hacc2 : acc * 16 + hexD c < 16 ^ (k + 1) := by rw [Nat.pow_succ]; omega
      have icut : a < 1152921504606846976 := by omega
      have a0 : 0 ≤ a := by omega
      have HN : ∀ d : Int, d = (hexD c : Int) → Hid (a * 16 + d = ((acc * 16 + hexD c : Nat) : Int) ∧ acc * 16 + hexD c < 16 ^ (k + 1) ∧ hexV 0 bs = hexV (acc * 16 + hexD c) (bs.drop (k + 1))) := fun d hd => Lib.hid ⟨by omega, hacc2, by rw [hdec, hexV_cons]⟩
      by_cases hdig : c.toNat ≤ 57
      · have hd0 : 48 ≤ c.toNat := by
          unfold hexOk at hokc
          simp only [Bool.or_eq_true, Bool.and_eq_true] at hokc
          rcases hokc with ⟨h1, _⟩ | ⟨h1, _⟩
          · exact Nat.le_of_ble_eq_true h1
          · have := Nat.le_of_ble_eq_true h1; omega
        have hD : hexD c = c.toNat - 48 := by unfold hexD; rw [Nat.ble_eq_true_of_le hdig]; rfl
        have iov : a * 16 + ((c.toNat : Int) - 48) < 18446744073709551616 := by omega
        have HN' := HN ((c.toNat : Int) - 48) (by omega)
        clear hacc hacc2 hdec HN hok hokc hdl hp hD
        clear ha
        go_wp2
        exact ⟨⟨k + 1, acc * 16 + hexD c, _, rfl, rfl, rfl, by omega, HN'⟩, by simp [intOf]; omega⟩
      · have hd0 : 97 ≤ c.toNat ∧ c.toNat ≤ 102 := by
          unfold hexOk at hokc
          simp only [Bool.or_eq_true, Bool.and_eq_true] at hokc
          rcases hokc with ⟨_, h1⟩ | ⟨h1, h2⟩
          · exact absurd (Nat.le_of_ble_eq_true h1) hdig
          · exact ⟨Nat.le_of_ble_eq_true h1, Nat.le_of_ble_eq_true h2⟩
        have hD : hexD c = c.toNat - 87 := by
          unfold hexD
          cases h1 : Nat.ble c.toNat 57 with
          | true => exact absurd (Nat.le_of_ble_eq_true h1) hdig
          | false => rfl
        obtain ⟨hd1, hd2⟩ := hd0
        have hor := or32 ⟨c.toNat, hc256⟩ hd1 hd2
        simp only at hor
        have iov : a * 16 + ((c.toNat : Int) - 87) < 18446744073709551616 := by omega
        have HN' := HN ((c.toNat : Int) - 97 + 10) (by omega)
        clear hacc hacc2 hdec HN hok hokc hdl hp hD
        clear ha
        go_wp2_with (go_at_call 192; refine (lower_in _ _).mono ?_; rintro e w' ⟨rfl, rfl⟩)
        exact ⟨⟨k + 1, acc * 16 + hexD c, _, rfl, rfl, rfl, by omega, HN'⟩, by simp [intOf]; omega⟩
    · have hkk : k = t.size := by omega
      subst hkk
      have hF : hexV acc (bs.drop t.size) = acc := by rw [List.drop_eq_nil_of_le (by omega)]; rfl
      rw [hF] at hdec
      subst ha
      clear hacc hF
      go_wp2
      go_ret2
      exact ⟨rfl, rfl⟩

set_option maxRecDepth 100000 in
set_option maxHeartbeats 1000000 in
theorem pu103 (t : ByteArray) (hne : t.size ≠ 0) (hmax : t.size ≤ 15) (hok : t.data.toList.all hexOk = true) (w : World) :
    Calls Tryd.prog 103 #[.string t, .int .i64 16, .int .i64 64] w fun e w' => e = .returned (.tuple #[.int .u64 (hexV 0 t.data.toList : Nat), .nilIface]) ∧ Below w.heap.size w w' := by
  have u75 := run_underlying Tryd.underlying75
  go_enter Tryd.func103, Tryd.ntmps103
  go_wp2_with (go_at_call 160; refine (pu16 t hne hmax hok _).mono ?_; rintro e w' ⟨rfl, rfl⟩)
  go_ret2
  exact ⟨rfl, Go.Joins.below_bytesWorld _ _ _ _ (Nat.le_refl _)⟩

/-- A number of hex digits. -/
def parS (s : List UInt8) (b z : Int) : Option Int := cond (((!s.isEmpty) && Nat.ble s.length 15 && s.all hexOk) && ((b == 16) && (z == 64))) (some (hexV 0 s : Nat)) none

theorem sim_par {T : TypeId → Type} {c : Cfg T} (hP : c.P = Tryd.prog) {s : List UInt8} {b z n : Int} (h : parS s b z = some n) :
    Sim c 103 [.d (.s s), .d (.i .i64 b), .d (.i .i64 z)] [] [.d (.i .u64 n), .d .ni] [] := by
  unfold parS at h
  obtain ⟨h1, rfl⟩ := cond_someD h
  simp only [Bool.and_eq_true] at h1
  obtain ⟨⟨⟨h1, h2⟩, h3⟩, h4, h5⟩ := h1
  have h4 := eq_of_beq h4
  have h5 := eq_of_beq h5
  subst h4 h5
  have h2 := Nat.le_of_ble_eq_true h2
  have hne : s.length ≠ 0 := by intro e; have := List.length_eq_zero_iff.1 e; subst this; simp at h1
  refine pure_sim (y := .tuple #[.int .u64 (hexV 0 s : Nat), .nilIface]) ⟨Tryd.f103, by rw [hP]; exact Tryd.func103, by kernel_rfl, by kernel_rfl⟩ (fun η w => ?_) fun w xs η hH hx => ?_
  · simp only [pack, RV, RVs]
    exact ⟨_, rfl, _, _, rfl, .i _ _, _, _, rfl, .ni, rfl⟩
  · simp only [RVs, RV] at hx
    obtain ⟨x, _, rfl, hx, y, _, rfl, hy, u, _, rfl, hu, rfl⟩ := hx
    cases hx; cases hy; cases hu
    rw [hP]
    have hs : (⟨s.toArray⟩ : ByteArray).size = s.length := by simp [ByteArray.size]
    exact pu103 ⟨s.toArray⟩ (by rw [hs]; exact hne) (by rw [hs]; exact h2) (by simpa using h3) w

end Go.Ev.Pu
