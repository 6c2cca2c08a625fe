/- strconv.FormatUint at base 16, of seat YtdnnaneifaoooaaDoor. No condition beyond those that each theorem names. -/
import Derived.Test.YtdnnaneifaoooaaDoorEvShL
import Derived.Tactics
import Derived.Tactics2
import Derived.WalkKit
import Derived.Laws.BytesArg
import Derived.RangeFuncBox
import Derived.Shelf.Abstract
import Derived.Test.YtdnnaneifaoooaaDoorProg
set_option linter.unusedVariables false
set_option linter.unusedSimpArgs false
namespace Go.Ev.Fm
open Go.RowKit Go.Shelf Go.Proofs

set_option maxRecDepth 100000 in
set_option maxHeartbeats 1000000 in
theorem tz64 (w : World) (h : w.cell? ⟨11, 15, none⟩ = some (.int .u8 4)) : Calls Tryd.prog 206 #[.int .u64 16] w fun e w' => e = .returned (.int .i64 4) ∧ w' = w := by
  have u100 := run_underlying Tryd.underlying100
  have u229 := run_underlying Tryd.underlying229
  have u5 := run_underlying Tryd.underlying5
  have u3 := run_underlying Tryd.underlying3
  have hb : IntKind.u64.wrap (bits BinOp.and IntKind.u64 16 (IntKind.u64.wrap (-16)) * 285870213051353865) / 288230376151711744 = 15 := by decide +kernel
  go_enter Tryd.func206, Tryd.ntmps206
  go_wp2
  go_ret
  exact ⟨rfl, rfl⟩

set_option maxRecDepth 100000 in
set_option maxHeartbeats 1000000 in
theorem tz (w : World) (h : w.cell? ⟨11, 15, none⟩ = some (.int .u8 4)) : Calls Tryd.prog 189 #[.int .u64 16] w fun e w' => e = .returned (.int .i64 4) ∧ w' = w := by
  have u100 := run_underlying Tryd.underlying100
  have u32 := run_underlying Tryd.underlying32
  have u3 := run_underlying Tryd.underlying3
  go_enter Tryd.func189, Tryd.ntmps189
  go_wp2_with (go_at_call 206; refine (tz64 _ h).mono ?_; rintro e w' ⟨rfl, rfl⟩)
  go_ret
  exact ⟨rfl, rfl⟩

set_option maxRecDepth 100000 in
set_option maxHeartbeats 1000000 in
theorem pow2 (w : World) : Calls Tryd.prog 188 #[.int .i64 16] w fun e w' => e = .returned (.bool true) ∧ w' = w := by
  have u3 := run_underlying Tryd.underlying3
  have hb : bits BinOp.and IntKind.i64 16 15 = 0 := by decide +kernel
  go_enter Tryd.func188, Tryd.ntmps188
  go_wp2
  go_ret
  exact ⟨rfl, rfl⟩

def Same (a b : Nat) : Prop := a = b

def dig : List UInt8 := [48, 49, 50, 51, 52, 53, 54, 55, 56, 57, 97, 98, 99, 100, 101, 102]

def dv (U j : Nat) : Nat := U / 16 ^ j

theorem dv_succ (U j : Nat) : dv U (j + 1) = dv U j / 16 := by unfold dv; rw [Nat.pow_succ, Nat.div_div_eq_div_mul]

theorem and15 (v : Nat) (h : v < 18446744073709551616) : bits BinOp.and IntKind.u64 (v : Int) 15 = ((v % 16 : Nat) : Int) := by
  have e : bits BinOp.and IntKind.u64 (v : Int) 15 = IntKind.u64.wrap ((BitVec.ofInt 64 (v : Int) &&& BitVec.ofInt 64 15).toNat : Int) := rfl
  have e2 : (BitVec.ofInt 64 (v : Int) &&& BitVec.ofInt 64 15).toNat = v % 16 := by
    rw [BitVec.toNat_and, BitVec.ofInt_natCast, BitVec.toNat_ofNat, Nat.mod_eq_of_lt h]
    exact Nat.and_two_pow_sub_one_eq_mod v 4
  rw [e, e2]
  have : v % 16 < 16 := Nat.mod_lt _ (by decide)
  generalize v % 16 = r at this
  have : ∀ r : Fin 16, IntKind.u64.wrap ((r.val : Nat) : Int) = ((r.val : Nat) : Int) := by decide +kernel
  exact this ⟨r, by assumption⟩

/-- A digit's cell. -/
def hx (d : Nat) : Value := .int .u8 ((dig.getD d 0).toNat : Int)

theorem hx_at (r : Nat) (h : r < (ByteArray.mk #[48, 49, 50, 51, 52, 53, 54, 55, 56, 57, 97, 98, 99, 100, 101, 102, 103, 104, 105, 106, 107, 108, 109, 110, 111, 112, 113, 114, 115, 116, 117, 118, 119, 120, 121, 122]).size) (h16 : r < 16) :
    Value.int IntKind.u8 (((ByteArray.mk #[48, 49, 50, 51, 52, 53, 54, 55, 56, 57, 97, 98, 99, 100, 101, 102, 103, 104, 105, 106, 107, 108, 109, 110, 111, 112, 113, 114, 115, 116, 117, 118, 119, 120, 121, 122])[r]'h).toNat : Int) = hx r := by
  have : ∀ r : Fin 16, ((ByteArray.mk #[48, 49, 50, 51, 52, 53, 54, 55, 56, 57, 97, 98, 99, 100, 101, 102, 103, 104, 105, 106, 107, 108, 109, 110, 111, 112, 113, 114, 115, 116, 117, 118, 119, 120, 121, 122])[r.val]'(Nat.lt_of_lt_of_le r.2 (by decide))) = dig.getD r.val 0 := by decide +kernel
  unfold hx
  rw [this ⟨r, h16⟩]

/-- Nine digits, the greatest first. -/
def hexL (U : Nat) : List UInt8 := (List.range 9).reverse.map fun m => dig.getD (dv U m % 16) 0
def hexU (U : Nat) : ByteArray := ⟨(hexL U).toArray⟩
def hexI (U : Nat) : List Int := (hexL U).map fun b => (b.toNat : Int)

theorem hex_str (U : Nat) : strOfNums (hexI U) = hexU U := by
  unfold hexI hexU strOfNums
  rw [List.map_map]
  congr 2
  conv => rhs; rw [← List.map_id (hexL U)]
  apply List.map_congr_left
  intro x _
  simp

theorem hexI_len (U : Nat) : (hexI U).length = 9 := by simp [hexI, hexL]

theorem hexI_at (U i : Nat) (hi : i < 9) : (hexI U).getD i 0 = ((dig.getD (dv U (8 - i) % 16) 0).toNat : Int) := by
  unfold hexI hexL
  rw [List.getD_eq_getElem?_getD, List.getElem?_map, List.getElem?_map, List.getElem?_reverse (by simpa using hi)]
  have : (List.range 9)[(List.range 9).length - 1 - i]? = some (8 - i) := by
    rw [List.getElem?_range (by simp; omega)]; simp
  rw [this]
  rfl

structure Inv (w : World) (A U j : Nat) (wr : World) : Prop where
  blk : ∃ (cs : Array Value) (t : TypeId), wr.heap[A]? = some (.cells cs t (0, 0)) ∧ cs.size = 65 ∧ ∀ m, m < j → cs[64 - m]? = some (hx (dv U m % 16))
  bel : Below A w wr

theorem Inv.put {w wr : World} {A U j : Nat} (h : Inv w A U j wr) (hj : j ≤ 64) : Inv w A U (j + 1) (wr.setCell ⟨A, 65 - j - 1, none⟩ (hx (dv U j % 16))) := by
  obtain ⟨⟨cs, t, hb, hsz, hds⟩, hbel⟩ := h
  refine ⟨⟨_, t, (heap_setCell hb (o := 65 - j - 1) (hx (dv U j % 16))).1, by simp [hsz], fun m hm => ?_⟩, hbel.setCell (p := ⟨A, 65 - j - 1, none⟩) (Nat.le_refl _) _⟩
  by_cases he : m = j
  · subst he
    rw [show 65 - m - 1 = 64 - m by omega]
    simp [show 64 - m < cs.size by omega]
  · have := hds m (by omega)
    rw [← this]
    simp [Array.getElem?_setIfInBounds, show ¬ (65 - j - 1 = 64 - m) by omega]

set_option maxRecDepth 100000 in
set_option maxHeartbeats 4000000 in
theorem fmtBits (w : World) (h : w.cell? ⟨11, 15, none⟩ = some (.int .u8 4)) (h11 : 11 < w.heap.size) (U : Nat) (h0 : 16 ^ 8 ≤ U) (h1 : U < 2 * 16 ^ 8) :
    Calls Tryd.prog 154 #[.slice none 0 0, .int .u64 U, .int .i64 16, .bool false, .bool false] w fun e w' =>
      e = .returned (.tuple #[.slice none 0 0, .string (hexU U)]) ∧ Below w.heap.size w w' := by
  have u100 := run_underlying Tryd.underlying100
  have u32 := run_underlying Tryd.underlying32
  have u196 := run_underlying Tryd.underlying196
  have u63 := run_underlying Tryd.underlying63
  have u9 := run_underlying Tryd.underlying9
  have u5 := run_underlying Tryd.underlying5
  have u3 := run_underlying Tryd.underlying3
  go_enter Tryd.func154, Tryd.ntmps154
  go_wp2_with (first
    | (go_at_call 188; refine (pow2 _).mono ?_; rintro e w' ⟨rfl, rfl⟩)
    | (go_at_call 189; refine (tz _ ((((Below.refl _ w).alloc (Nat.le_refl _) _).cell (p := ⟨11, 15, none⟩) h11).trans h)).mono ?_; rintro e w' ⟨rfl, rfl⟩))
  obtain ⟨A, hA⟩ : ∃ A, A = w.heap.size := ⟨_, rfl⟩
  rw [← hA] at h11 ⊢
  generalize hw0 : w.alloc (Obj.cells Tryd.zeroCells196 196) = w0
  have hI0 : Inv w A U 0 w0 := by
    refine ⟨⟨Tryd.zeroCells196, 196, ?_, by kernel_rfl, fun m hm => by omega⟩, ?_⟩
    · rw [← hw0, hA]; exact World.alloc_heap_new w _
    · rw [← hw0, hA]; exact (Below.refl _ w).alloc (Nat.le_refl _) _
  clear hw0
  have hd0 : dv U 0 = U := by unfold dv; simp
  have hlt : ∀ j, dv U j < 18446744073709551616 := fun j => Nat.lt_of_le_of_lt (Nat.div_le_self _ _) (by omega)
  replace hA : Same A w.heap.size := hA
  go_loopw [1, 13] (fun u i wr => ∃ j : Nat, j ≤ 8 ∧ u = .int .u64 ((dv U j : Nat) : Int) ∧ i = .int .i64 ((65 - j : Nat) : Int) ∧ Inv w A U j wr) (fun u _ _ => (intOf u).toNat)
  case atStart => exact ⟨0, by omega, by rw [hd0], rfl, hI0⟩
  case round =>
    obtain ⟨j, hj, rfl, rfl, hI⟩ := hrel
    have ha := and15 (dv U j) (hlt j)
    by_cases h8 : j < 8
    · have hge : 16 ≤ dv U j := by
        unfold dv
        rw [Nat.le_div_iff_mul_le (Nat.pow_pos (by decide))]
        have : 16 ^ j ≤ 16 ^ 7 := Nat.pow_le_pow_right (by decide) (by omega)
        omega
      obtain ⟨cs, t, hb, hsz, hds⟩ := hI.blk
      have hcell : ∃ v, wr.cell? ⟨A, 65 - j - 1, none⟩ = some v := by
        refine ⟨cs[65 - j - 1]'(by omega), ?_⟩
        simp [World.cell?, hb, show 65 - j - 1 < cs.size by omega]
      obtain ⟨cv, hcv⟩ := hcell
      have hfz : wr.frozen? ⟨A, 65 - j - 1, none⟩ = false := by simp [World.frozen?, hb]
      go_wp2
      rw [hx_at (dv U j % 16) _ (Nat.mod_lt _ (by decide))]
      refine ⟨⟨j + 1, by omega, by rw [dv_succ]; rfl, by congr 1; omega, hI.put (by omega)⟩, ?_⟩
      simp only [intOf]
      omega
    · obtain rfl : j = 8 := by omega
      have hlast : dv U 8 = 1 := by unfold dv; omega
      obtain ⟨cs, t, hb, hsz, hds⟩ := hI.blk
      obtain ⟨cv, hcv⟩ : ∃ v, wr.cell? ⟨A, 56, none⟩ = some v := by
        refine ⟨cs[56]'(by omega), ?_⟩
        simp [World.cell?, hb, show 56 < cs.size by omega]
      have hfz : wr.frozen? ⟨A, 56, none⟩ = false := by simp [World.frozen?, hb]
      have hI9 := hI.put (by omega)
      rw [hlast] at hI9
      go_wp2
      have e1 := hx_at 1 (by decide) (by decide)
      rw [e1]
      generalize hWz : wr.setCell { block := A, off := 56 } (hx 1) = Wz
      replace hI9 : Inv w A U 9 Wz := hWz ▸ hI9
      have hlast2 : True := trivial
      obtain ⟨cs9, t9, hb9, hsz9, hds9⟩ := hI9.blk
      have hconv := run_convert_bytes_arg (P := Tryd.prog) Wz 63 5 Tryd.underlying63 Tryd.underlying5 A 56 9 9 (hexI U) (hexI_len U) (fun i hi => by
        have h1 := hds9 (8 - i) (by omega)
        rw [show 64 - (8 - i) = 56 + i by omega] at h1
        rw [hexI_at U i hi]
        simp [World.cell?, hb9, h1, hx]) 9 Tryd.underlying9
      rw [hex_str] at hconv
      rw [hconv]
      go_wp2
      refine bodyPost_ret (results_tmp2 rfl _ _ _) rfl ?_
      exact ⟨rfl, by rw [← (hA : A = w.heap.size)]; exact hI9.bel⟩

set_option maxRecDepth 100000 in
set_option maxHeartbeats 1000000 in
theorem fmt99 (w : World) (h : w.cell? ⟨11, 15, none⟩ = some (.int .u8 4)) (h11 : 11 < w.heap.size) (U : Nat) (h0 : 16 ^ 8 ≤ U) (h1 : U < 2 * 16 ^ 8) :
    Calls Tryd.prog 99 #[.int .u64 U, .int .i64 16] w fun e w' => e = .returned (.string (hexU U)) ∧ Below w.heap.size w w' := by
  have u3 := run_underlying Tryd.underlying3
  go_enter Tryd.func99, Tryd.ntmps99
  go_wp2_with (go_at_call 154; refine (fmtBits _ h h11 U h0 h1).mono ?_; rintro e w' ⟨rfl, hb⟩)
  go_ret
  exact ⟨rfl, hb⟩

set_option maxRecDepth 100000 in
set_option maxHeartbeats 1000000 in
theorem fmt60 (w : World) (h : w.cell? ⟨11, 15, none⟩ = some (.int .u8 4)) (h11 : 11 < w.heap.size) (U : Nat) (h0 : 16 ^ 8 ≤ U) (h1 : U < 2 * 16 ^ 8) :
    Calls Tryd.prog 60 #[.int .u64 U, .int .i64 16] w fun e w' => e = .returned (.string (hexU U)) ∧ Below w.heap.size w w' := by
  go_enter Tryd.func60, Tryd.ntmps60
  go_wp2_with (go_at_call 99; refine (fmt99 _ h h11 U h0 h1).mono ?_; rintro e w' ⟨rfl, hb⟩)
  go_ret
  exact ⟨rfl, hb⟩

end Go.Ev.Fm
