/- A part of the evaluator of Go code over small heaps and of its proof: no condition beyond those that each theorem names. -/
import Derived.Test.YtgoglplnajofnaaGreatDoorEvFrz
import Derived.Lib.ConvBytes
import Derived.Laws.BytesString
set_option linter.unusedVariables false
set_option linter.unusedSimpArgs false
set_option linter.constructorNameAsVariable false
namespace Go.Ev
variable {T : TypeId → Type}

/-- What is asked of bytes as a list. -/
def BytesOk (c : Cfg T) : Prop := ∀ e, isU8 c.P e = true → c.cod.kn e = true →
  (∀ l, (c.cod.ofB e l).map (c.cod.enc e) = l.map (fun b => [D.i .u8 (b.toNat : Int)])) ∧
  ∀ xs, ∃ ns : List Int, xs.map (c.cod.enc e) = ns.map (fun n => [D.i .u8 n]) ∧ c.cod.toB e xs = ns.map (fun n => UInt8.ofNat n.toNat)

theorem isU8_ok {P : Program} {t : TypeId} (h : isU8 P t = true) : P.underlying t = some (.int .u8) ∧ P.cellsOf t = 1 := by
  unfold isU8 at h
  split at h
  · rename_i h1 h2; exact ⟨h1, sizeT_cells h2⟩
  · cases h

theorem bytesHeap (w : World) (e : TypeId) (s : ByteArray) :
    (Lib.bytesWorld w e s).heap = w.heap.push (.cells (Lib.bytesCells w e s) e ((Lib.bytesCells w e s).size, (Lib.bytesCells w e s).size + 1)) := by
  apply Array.ext_getElem?
  intro i
  rw [Array.getElem?_push]
  by_cases h : i = w.heap.size
  · rw [if_pos h, h]; exact Lib.bytesWorld_at_new w e s
  · rw [if_neg h]
    rcases Nat.lt_or_ge i w.heap.size with h1 | h1
    · exact Lib.bytesWorld_at_old w e s i h1
    · rw [Array.getElem?_eq_none h1, Array.getElem?_eq_none (by rw [Lib.bytesWorld_size]; omega)]

theorem foldl_push (ns : List Int) (s : ByteArray) : ns.foldl (fun r n => r.push (UInt8.ofNat n.toNat)) s = ⟨s.data ++ (ns.map (fun n => UInt8.ofNat n.toNat)).toArray⟩ := by
  induction ns generalizing s with
  | nil => simp
  | cons n ns ih => 
    rw [List.foldl_cons, ih]
    simp [ByteArray.push]

theorem conv_ok {c : Cfg T} (hc : CodOk (rc c)) (hb : BytesOk c) {η : Eta} {H : List (Obj T)} {w : World} (hH : RelH (rc c) η H w) {src dst : TypeId} {s d : TypeDesc} {x : V T} {v : Value}
    (hx : RV (rc c) η w x v) (hs : c.P.underlying src = some s) (hd : c.P.underlying dst = some d) {eff : Eff T} (h : convV c H s d x = some eff)
    (hfr : ∀ ok os v, eff = .val ok os v → Fresh η H.length os.length) :
    ∃ os u, eff = .val true os u ∧ ∃ y w' η', (convert src dst v).run c.P w = .ok y w' ∧ RV (rc c) η' w' u y ∧ New (rc c) η η' H.length os w w' := by
  unfold convV at h
  split at h
  · rename_i k k' n
    simp at h; subst h
    simp only [RV] at hx; cases hx
    refine ⟨_, _, rfl, .int k (k.wrap n), w, η, ?_, by simp only [RV]; exact .i _ _, .nil rfl (Rest.refl w)⟩
    simp [Go.convert, run_under hs, run_under hd, Conv.intToInt]
  · rename_i l
    simp at h; subst h
    simp only [RV] at hx; cases hx
    refine ⟨_, _, rfl, .string ⟨l.toArray⟩, w, η, ?_, by simp only [RV]; exact .s _, .nil rfl (Rest.refl w)⟩
    simp [Go.convert, run_under hs, run_under hd]
  · rename_i e l
    cases hg : isU8 c.P e && c.cod.kn e with
    | false => simp [hg] at h
    | true =>
      simp only [hg, cond_true, Option.some.injEq] at h; subst h
      rw [Bool.and_eq_true] at hg
      have he := (isU8_ok hg.1).1
      have h1 := (hb e hg.1 hg.2).1 l
      simp only [RV] at hx; cases hx
      have hlen : (c.cod.ofB e l).length = l.length := by have := congrArg List.length h1; simpa using this
      have hsz : (rc c).sz e = 1 := (isU8_ok hg.1).2
      have hcap := grownCap_ge w l.length 0 e
      have hrun := Lib.run_convert_string_bytes (P := c.P) w src dst e ⟨l.toArray⟩ hs hd he
      have hce : (Lib.bytesCells w e ⟨l.toArray⟩).size = grownCap w l.length 0 e := by
        simp [Lib.bytesCells]; show l.length + (grownCap w l.length 0 e - l.length) = _; omega
      refine ⟨_, _, rfl, _, _, put1 η H.length (.arr e l.length (some (w.heap.size, 0)) (grownCap w l.length 0 e)), hrun, ?_, New.one (hfr _ _ _ rfl) (bytesHeap _ _ _) ⟨rfl, rfl, rfl⟩ (fun b hb => hb) fun hev hk => ?_⟩
      · simp only [RV]
        refine ⟨.arr e l.length (some (w.heap.size, 0)) (grownCap w l.length 0 e), some (at_ w.heap.size 0), l.length, grownCap w l.length 0 e, by simp [put1], rfl, .inr ⟨e, some (w.heap.size, 0), rfl, .inl rfl⟩⟩
      · refine ⟨some (w.heap.size, 0), grownCap w l.length 0 e, by rw [hlen], ?_⟩
        refine ⟨_, e, _, by rw [bytesHeap]; exact Array.getElem?_push_size, by rw [hsz, hce]; omega, by rw [hlen]; exact hcap, fun i hi h => ?_, ?_⟩
        · simp only at h; omega
        · intro i j hi d hd'
          have hi' : i < l.length := by omega
          have h2 : (c.cod.enc e (c.cod.ofB e l)[i]) = [D.i .u8 ((l[i]).toNat : Int)] := by
            have := congrArg (fun q => q[i]?) h1
            simp only [List.getElem?_map, List.getElem?_eq_getElem hi, List.getElem?_eq_getElem hi', Option.map_some, Option.some.injEq] at this
            exact this
          have h3 : (rc c).cod.enc e (c.cod.ofB e l)[i] = c.cod.enc e (c.cod.ofB e l)[i] := rfl
          rw [h3, h2] at hd'
          cases j with
          | succ j => simp at hd'
          | zero =>
            simp at hd'; subst hd'
            refine ⟨.int .u8 (l[i].toNat : Int), ?_, .i _ _⟩
            have := Lib.bytesWorld_cell w e ⟨l.toArray⟩ i hi'
            rw [hsz]
            simp only [at_, Nat.zero_add, Nat.mul_one, Nat.add_zero]
            rw [this]
            simp [List.getD, List.getElem?_eq_getElem hi']
  · rename_i x' hns
    split at h
    · rename_i e
      cases hg : isU8 c.P e && c.cod.kn e with
      | false => simp [hg] at h
      | true =>
        simp only [hg, cond_true] at h
        rw [Bool.and_eq_true] at hg
        obtain ⟨he, hsz⟩ := isU8_ok hg.1
        split at h
        · rename_i xs hxs
          simp at h; subst h
          obtain ⟨ns, h1, h2⟩ := (hb e hg.1 hg.2).2 xs
          obtain ⟨a, cap, rfl, hcap, hh⟩ := asL_ok hH hx hxs
          have hlen : ns.length = xs.length := by have := congrArg List.length h1; simpa using this.symm
          have hload : (a = none ∧ xs = []) ∨ ∃ ad, a = some ad ∧ (loadCells ad xs.length).run c.P w = .ok (ns.map (Value.int .u8)).toArray w := by
            rcases hh with rfl | ⟨b, o, rfl, harr⟩
            · cases a with
              | none => exact .inl ⟨rfl, rfl⟩
              | some ad =>
                refine .inr ⟨ad, rfl, ?_⟩
                have : ns = [] := by simpa using hlen
                subst this
                simp [loadCells, loadCellsFrom]
            · right
              obtain ⟨ys, h3, h4, h5⟩ := rows_of_arr hc hg.2 harr
              refine ⟨_, rfl, ?_⟩
              have h6 := run_loadRow (P := c.P) h3
              have hs1 : (rc c).sz e = 1 := hsz
              rw [hs1, Nat.mul_one] at h4
              have h7 : ys = ns.map (Value.int .u8) := by
                apply List.ext_getElem
                · simp [h4, hlen]
                · intro i hi hi'
                  have hix : i < xs.length := by omega
                  have hin : i < ns.length := by omega
                  have h8 := h5 i hix
                  have h9 : (rc c).cod.enc e xs[i] = [D.i .u8 ns[i]] := by
                    have := congrArg (fun q => q[i]?) h1
                    simp only [List.getElem?_map, List.getElem?_eq_getElem hix, List.getElem?_eq_getElem hin, Option.map_some, Option.some.injEq] at this
                    exact this
                  rw [h9, hs1, Nat.mul_one, List.drop_eq_getElem_cons hi] at h8
                  simp only [ofDs, List.map_cons, List.map_nil, List.take_succ_cons, List.take_zero, RVs, RV] at h8
                  obtain ⟨y, _, h10, h11, _⟩ := h8
                  simp at h10
                  rw [h10.1]
                  cases h11
                  simp
              rw [h4, h7] at h6
              exact h6
          refine ⟨_, _, rfl, .string ⟨(c.cod.toB e xs).toArray⟩, w, η, ?_, by simp only [RV]; exact .s _, .nil rfl (Rest.refl w)⟩
          rw [run_convert_bytes_string w src dst e a xs.length cap hs he hd]
          rcases hload with ⟨rfl, rfl⟩ | ⟨ad, rfl, hl⟩
          · have : ns = [] := by simpa using hlen
            subst this
            rw [h2]
            rfl
          · rw [run_bytesToString w ad _ _ ns hl, foldl_push, h2]
            simp
        · cases h
    · cases h
  · cases h

end Go.Ev
