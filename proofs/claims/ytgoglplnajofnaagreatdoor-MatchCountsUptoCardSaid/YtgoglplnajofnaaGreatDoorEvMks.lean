/- Go's make of a slice: what the machine does is what the small heap says; no condition beyond those that each theorem names. -/
import Derived.Test.YtgoglplnajofnaaGreatDoorEvOps8
set_option linter.unusedVariables false
set_option linter.unusedSimpArgs false
namespace Go.Ev
variable {T : TypeId → Type}

theorem wrapI {n : Int} (h1 : 0 ≤ n) (h2 : n ≤ 65536) : IntKind.wrap .i64 n = n := by
  unfold IntKind.wrap
  simp only [IntKind.bits, IntKind.signed]
  simp
  omega

theorem chunk_rep (c : Cod T) (e : TypeId) {zs : List (V T)} {ds : List (D T)} {z : T e} (hds : toDs zs = some ds) (hz : c.dec e ds = some z) : ∀ n : Nat, chunk c e zs.length n (List.replicate n zs).flatten = some (List.replicate n z)
  | 0 => rfl
  | n + 1 => by
    rw [List.replicate_succ, List.flatten_cons, chunk]
    simp only [List.take_left, List.drop_left, hds, hz, chunk_rep c e hds hz n, List.replicate_succ]

theorem op_makeSlice {c : Cfg T} (hc : CodOk (rc c)) {η : Eta} {n : Nat} {w : World} {a : Act} {dst : Option Tmp} {t ty e : TypeId} {l : Tmp} {pos : String} {after : Array Edge} {g : Option (Nat × Bool)}
    {zs : List (V T)} {ds : List (D T)} {z : T e} (hf : Fresh η n 1) (he : elemT c.P t = some e) (hk : c.cod.kn e = true) (hb : ((c.P.info? e).map (·.bytes)).any (fun b => Nat.ble b 16384) = true)
    (hz : zeroCells c.P e = some zs) (hs : sizeT c.P e = some zs.length) (hp : 0 < zs.length) (hds : toDs zs = some ds) (hzv : c.cod.dec e ds = some z) {m : Int} (hm : 0 ≤ m) (hm2 : m ≤ 65536) (ha : a.eval (.tmp l) = .int .i64 m) :
    ValOk c η n w [.arr e (List.replicate m.toNat z)] (.sl n none) ((execOp a.eval ⟨dst, .makeSlice t (.tmp l) (.tmp l), ty, pos, after, g⟩).run c.P w) := by
  obtain ⟨zv, hz1, hz2⟩ := zeroCells_ok (η := η) (w := w) hz
  have hzl : zv.cells.size = zs.length := by have := hz2.length; simp at this; omega
  obtain ⟨i, hi, hib⟩ : ∃ i, c.P.info? e = some i ∧ i.bytes ≤ 16384 := by
    cases hi : c.P.info? e with
    | none => rw [hi] at hb; cases hb
    | some i => rw [hi] at hb; exact ⟨i, rfl, Nat.le_of_ble_eq_true (by simpa using hb)⟩
  have hinfo : ∀ w0, (typeInfo e).run c.P w0 = .ok i w0 := fun w0 => by simp [typeInfo, hi]
  obtain ⟨len, hlen⟩ : ∃ len : Nat, len = m.toNat := ⟨_, rfl⟩
  have hml : m = (len : Int) := by omega
  rw [← hlen]
  have hl2 : len ≤ 65536 := by omega
  have h2 : RVs (rc c) η w (List.replicate len zs).flatten ((Array.range (len * zs.length)).map (fun k => (if len * zs.length = 0 then #[] else zv.cells)[k % (if len * zs.length = 0 then #[] else zv.cells).size]!)).toList := by
    by_cases h0 : len * zs.length = 0
    · have : len = 0 := by
        rcases Nat.mul_eq_zero.1 h0 with h0 | h0
        · exact h0
        · omega
      subst this
      simp [RVs]
    · rw [if_neg h0, ← hzl, rep_get zv.cells (by omega) len]
      exact hz2.flat len
  obtain ⟨hxl, hrows⟩ := chunk_ok hc (chunk_rep c.cod e hds hzv len) h2
  have hsz' : (rc c).sz e = zs.length := sizeT_cells hs
  obtain ⟨ce, hce⟩ : ∃ ce, ce = (Array.range (len * zs.length)).map (fun k => (if len * zs.length = 0 then #[] else zv.cells)[k % (if len * zs.length = 0 then #[] else zv.cells).size]!) := ⟨_, rfl⟩
  rw [← hce] at hrows
  have hcs : ce.size = len * zs.length := by rw [hce]; simp
  obtain ⟨hN, hR⟩ := newArr (c := c) (η := η) (n := n) (w := w) (w' := { w with heap := w.heap.push (.cells ce e) }) (e := e) (el := e) (xs := List.replicate len z) (ce := ce) (cap := len) hf rfl ⟨rfl, rfl, rfl⟩ (by omega) (by rw [hsz', hcs]; exact Nat.le_refl _)
    (fun i hi => by rw [hsz']; exact hrows i hi)
  refine ⟨_, _, _, .inl ?_, hR, hN⟩
  have hw : IntKind.wrap .i64 m = m := wrapI hm hm2
  have hbm : (i.bytes : Int) * m ≤ 281474976710656 := by
    have h1 : i.bytes * len ≤ 16384 * 65536 := Nat.mul_le_mul hib hl2
    rw [hml]
    have : ((i.bytes * len : Nat) : Int) ≤ ((16384 * 65536 : Nat) : Int) := by omega
    rw [Int.natCast_mul] at this
    omega
  have hroom : ¬ (len * i.bytes > 140737488355328) := by
    have h1 : len * i.bytes ≤ 65536 * 16384 := Nat.mul_le_mul hl2 hib
    omega
  have hbig : (decide (m < 0) || decide ((i.bytes : Int) * m > 2 ^ 48)) = false := by
    rw [decide_eq_false (by omega), decide_eq_false (by show ¬ (i.bytes : Int) * m > 281474976710656; omega)]; rfl
  have d1 : decide (m < 0) = false := decide_eq_false (by omega)
  have d2 : decide (m > m) = false := decide_eq_false (by omega)
  have d3 : decide ((i.bytes : Int) * m > 2 ^ 48) = false := decide_eq_false (by show ¬ (i.bytes : Int) * m > 281474976710656; omega)
  have hroom' : ¬ (len * i.bytes > 2 ^ 47) := hroom
  simp only [execOp, ha]
  simp only [Instr.makeSlice, Sem.run_bind, run_under (elemT_ok he), Result.andThen_ok, hinfo, asInt, asIntOf, Sem.run_pure, hw, d1, d2, d3, Bool.or_false, Bool.false_eq_true, if_false, askRoom, roomBytes, ← hlen, if_neg hroom', run_size hs]
  by_cases h0 : len * zs.length = 0
  · simp only [h0, if_true] at hce
    simp only [h0, if_true, Sem.run_bind, Sem.run_pure, Result.andThen_ok]
    rw [← hce]
    simp [newRow, hxl, at_]
  · simp only [h0, if_false] at hce
    simp only [h0, if_false, Sem.run_bind, hz1, Sem.run_pure, Result.andThen_ok]
    rw [← hce]
    simp [newRow, hxl, at_]

theorem mksV_inv {c : Cfg T} {t : TypeId} {x : V T} {p : Bool × Obj T} (h : mksV c t x = some p) :
    ∃ (e : TypeId) (zs : List (V T)) (ds : List (D T)) (z : T e) (n : Int), elemT c.P t = some e ∧ c.cod.kn e = true ∧ ((c.P.info? e).map (·.bytes)).any (fun b => Nat.ble b 16384) = true ∧ zeroCells c.P e = some zs ∧ sizeT c.P e = some zs.length ∧ 0 < zs.length ∧
      toDs zs = some ds ∧ c.cod.dec e ds = some z ∧ x = .d (.i .i64 n) ∧ p = (decide (0 ≤ n ∧ n ≤ 65536), .arr e (List.replicate n.toNat z)) := by
  unfold mksV at h
  split at h
  · rename_i e he
    split at h
    · rename_i zs hzs
      split at h
      · rename_i ds hds
        split at h
        · rename_i z hz
          cases hb : (c.cod.kn e && ((c.P.info? e).map (·.bytes)).any (fun b => Nat.ble b 16384) && (sizeT c.P e == some zs.length) && Nat.blt 0 zs.length) with
          | false => simp [hb] at h
          | true =>
            rw [hb, cond_true] at h
            simp only [Bool.and_eq_true] at hb
            split at h
            · rename_i n
              simp only [Option.some.injEq] at h
              exact ⟨e, zs, ds, z, n, he, hb.1.1.1, hb.1.1.2, hzs, eq_of_beq hb.1.2, Nat.blt_eq.mp hb.2, hds, hz, rfl, h.symm⟩
            · cases h
        · cases h
      · cases h
    · cases h
  · cases h

end Go.Ev
