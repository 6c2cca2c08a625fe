/- A part of the evaluator of Go code over small heaps and of its proof: no condition beyond those that each theorem names. -/
import Derived.Test.YtgoglplnajofnaaGreatDoorEvLib
import Derived.Shelf.Strings.Builder1
import Derived.Lib.FrozenHead
import Derived.Lib.FrozenHead2
set_option linter.unusedVariables false
set_option linter.unusedSimpArgs false
set_option linter.constructorNameAsVariable false
namespace Go.Ev
open Go.Shelf Go.RowKit Go.Proofs
variable {T : TypeId → Type}

/-- Bytes as cells of a builder's row. -/
def bcs (s : List UInt8) : List Value := s.map fun x => Value.int .u8 x.toNat

theorem bcs_append (s t : List UInt8) : bcs (s ++ t) = bcs s ++ bcs t := by simp [bcs]

/-- What is known of a builder that a call is handed. -/
structure BlIn (T72 T5 : TypeId) (w : World) (b : Nat) (s : List UInt8) (p v : Value) : Prop where
  blk : w.heap[b]? = some (.cells #[p, v] T72 (0, 0))
  adr : p = .pointer none ∨ p = .pointer (some ⟨b, 0, none⟩)
  own : w.ownsRowF 0 T5 1 v s.length (bcs s)
  ne : v.ownBlock ≠ some b

theorem BlIn.of {c : Cfg T} {η : Eta} {w : World} {s : List UInt8} {x : Value} (hH : RelH (rc c) η [.bl s] w) (hx : RV (rc c) η w (.bp 0) x) :
    ∃ b p v, x = .pointer (some ⟨b, 0, none⟩) ∧ η 0 = some (.bl b v.ownBlock) ∧ BlIn c.bt c.ut w b s p v := by
  simp only [RV] at hx
  obtain ⟨r, a, hr, rfl, hx⟩ := hx
  obtain ⟨b, g, p, v, rfl, h1, h2, h3, h4, h5⟩ := hH.obj 0 r (.bl s) hr rfl
  rcases hx with hx | ⟨b', g', hb, rfl⟩
  · cases hx
  · cases hb
    subst h4
    exact ⟨b, p, v, rfl, hr, h1, h2, h3, h5⟩

/-- Behind such a call. -/
theorem BlIn.to {c : Cfg T} {η : Eta} {w w' : World} {s s' : List UInt8} {b : Nat} {p v p' v' : Value} (hH : RelH (rc c) η [.bl s] w) (hf : ∀ id, [Obj.bl (T := T) s].length ≤ id → η id = none)
    (hη : η 0 = some (.bl b v.ownBlock)) (h : BlIn c.bt c.ut w b s p v) (h' : BlIn c.bt c.ut w' b s' p' v') (hs : w.heap.size ≤ w'.heap.size) (hr : Rest w w')
    (hk : ∀ k, k < w.heap.size → k ≠ b → v.ownBlock ≠ some k → w'.heap[k]? = w.heap[k]?) (hg : ∀ g, v'.ownBlock = some g → v.ownBlock = some g ∨ w.heap.size ≤ g) :
    ∃ η', Evo η η' w w' ∧ Keeps η η' ∧ RelH (rc c) η' [.bl s'] w' ∧ (∀ id, [Obj.bl (T := T) s'].length ≤ id → η' id = none) ∧ isOk η' = isOk η' := by
  have hη' : ∀ id r, (⟨fun id => if id = 0 then some (RO.bl b v'.ownBlock) else none, η.far, η.df⟩ : Eta) id = some r → id = 0 ∧ r = .bl b v'.ownBlock := by
    intro id r h1
    simp only at h1
    split at h1
    · rename_i h2; cases h1; exact ⟨h2, rfl⟩
    · cases h1
  have hbs : b < w.heap.size := hH.lt 0 _ b hη (.inl rfl)
  have hev : Evo η ⟨fun id => if id = 0 then some (RO.bl b v'.ownBlock) else none, η.far, η.df⟩ w w' := by
    refine ⟨hs, fun k hk1 hno => hk k hk1 ?_ ?_, ?_, rfl, rfl, hr⟩
    · intro h1; subst h1; exact hno ⟨0, _, hη, .inl rfl⟩
    · intro h1; exact hno ⟨0, _, hη, .inr h1⟩
    · rintro k hk1 ⟨id, r, h1, h2⟩
      obtain ⟨rfl, rfl⟩ := hη' id r h1
      refine ⟨0, _, hη, ?_⟩
      rcases h2 with h2 | h2
      · exact .inl h2
      · rcases hg k h2 with h3 | h3
        · exact .inr h3
        · omega
  refine ⟨_, hev, ?_, ?_, ?_, rfl⟩
  · intro id r h1
    by_cases h0 : id = 0
    · subst h0
      rw [hη] at h1; cases h1
      exact .inr (.inr ⟨b, _, _, rfl, rfl⟩)
    · rw [hf id (by simp; omega)] at h1; cases h1
  · refine ⟨?_, ?_, ?_, ?_, ?_, hH.oldEvo hev⟩
    · intro id r o h1 h2
      obtain ⟨rfl, rfl⟩ := hη' id r h1
      cases h2
      exact ⟨b, _, p', v', rfl, h'.blk, h'.adr, h'.own, rfl, h'.ne⟩
    · intro id r k h1 h2
      obtain ⟨rfl, rfl⟩ := hη' id r h1
      rcases h2 with rfl | h2
      · omega
      · exact (h'.own.lt k h2).2
    · intro id id' r r' k h1 h2 _ _
      rw [(hη' id r h1).1, (hη' id' r' h2).1]
    · intro id r k h1 h2 h3
      obtain ⟨rfl, rfl⟩ := hη' id r h1
      rcases h2 with rfl | h2
      · exact hH.nf 0 _ k hη (.inl rfl) h3
      · rcases hg k h2 with h4 | h4
        · exact hH.nf 0 _ k hη (.inr h4) h3
        · have := hH.fl k h3; omega
    · intro k h1
      exact Nat.lt_of_lt_of_le (hH.fl k h1) hs
  · intro id hid
    simp only
    rw [if_neg (by simp at hid; omega)]

/-- What a program says of the builder's methods: of String and its types, and of copyCheck. -/
structure BlP (P : Program) (ρ : Ren) : Prop extends Lays.n169 P ρ where
  enter : ∀ args w, (callFunc (ρ.f 240) args).run P w = .ok (.enter (ρ.f 240) args) w
  check : ∀ (w : World) (b : Nat) (s : List UInt8) (p v : Value), BlIn (ρ.t 72) (ρ.t 5) w b s p v →
    Calls P (ρ.f 240) #[.pointer (some ⟨b, 0, none⟩)] w fun e w' => e = .returned (.tuple #[]) ∧ BlIn (ρ.t 72) (ρ.t 5) w' b s (.pointer (some ⟨b, 0, none⟩)) v ∧ w.heap.size ≤ w'.heap.size ∧ Rest w w' ∧ ∀ k, k ≠ b → w'.heap[k]? = w.heap[k]?

/-- Behind copyCheck, whatever the builder's address was. -/
theorem checked {P : Program} {f T72 T5 : Nat} {w : World} {b : Nat} {s : List UInt8} {p v : Value} (h : BlIn T72 T5 w b s p v)
    (hf : w.cell? ⟨b, 0, none⟩ = some (.pointer none) → w.shape? b = some (T72, 2) → w.frozen? ⟨b, 0, none⟩ = false → Calls P f #[.pointer (some ⟨b, 0, none⟩)] w fun e w' => e = .returned (.tuple #[]) ∧ w' = w.setCell ⟨b, 0, none⟩ (.pointer (some ⟨b, 0, none⟩)))
    (hu : w.cell? ⟨b, 0, none⟩ = some (.pointer (some ⟨b, 0, none⟩)) → Calls P f #[.pointer (some ⟨b, 0, none⟩)] w fun e w' => e = .returned (.tuple #[]) ∧ w' = w) :
    Calls P f #[.pointer (some ⟨b, 0, none⟩)] w fun e w' => e = .returned (.tuple #[]) ∧ BlIn T72 T5 w' b s (.pointer (some ⟨b, 0, none⟩)) v ∧ w.heap.size ≤ w'.heap.size ∧ Rest w w' ∧ ∀ k, k ≠ b → w'.heap[k]? = w.heap[k]? := by
  obtain ⟨hb, ha, ho, hn⟩ := h
  rcases ha with rfl | rfl
  · have hh : (w.setCell ⟨b, 0, none⟩ (.pointer (some ⟨b, 0, none⟩))).heap[b]? = some (.cells #[.pointer (some ⟨b, 0, none⟩), v] T72 (0, 0)) := by
      have := (heap_setCell hb (o := 0) (.pointer (some ⟨b, 0, none⟩))).1
      simpa [at_] using this
    have hother : ∀ k, k ≠ b → (w.setCell ⟨b, 0, none⟩ (.pointer (some ⟨b, 0, none⟩))).heap[k]? = w.heap[k]? := fun k hk => (heap_setCell hb (o := 0) (.pointer (some ⟨b, 0, none⟩))).2.1 k hk
    refine (hf (by rw [Lib.cell_of_heap hb]; rfl) (by simp [World.shape?, hb]) (Lib.frozen_of_heap hb 0)).mono ?_
    rintro e w' ⟨rfl, rfl⟩
    refine ⟨rfl, ⟨hh, .inr rfl, ownsRowF_same ho fun g hg => hother g ?_, hn⟩, by simp [World.setCell], ⟨rfl, rfl, rfl⟩, hother⟩
    rintro rfl; exact hn hg
  · refine (hu (by rw [Lib.cell_of_heap hb]; rfl)).mono ?_
    rintro e w' ⟨rfl, rfl⟩
    exact ⟨rfl, ⟨hb, .inr rfl, ho, hn⟩, Nat.le_refl _, Rest.refl _, fun _ _ => rfl⟩

section
variable {P : Program}

/-- append of a text to a builder's row: where the row is then. -/
theorem app_str (w : World) (t u ty e : TypeId) (i : TypeInfo) (ht : P.underlying t = some (.slice e)) (hu : P.underlying u = some .string) (hi : P.info? e = some i) (hz : i.zero = some (.int .u8 0))
    (hsize : i.size = 1) (hby : i.bytes = 1) (v : Value) (n : Nat) (xs : List Value) (hown : w.ownsRowF 0 e 1 v n xs) (s : ByteArray)
    (h63 : n + s.size ≤ maxLen) (hbytes : n + s.size ≤ 140737488355328) :
    ∃ v' w', (Builtin.append_ #[t, u] ty #[v, .string s]).run P w = .ok v' w' ∧ w'.ownsRowF 0 e 1 v' (n + s.size) (xs ++ Lib.strCells s) ∧ w.grownBy w' v.ownBlock ∧
      (∀ g, v'.ownBlock = some g → v.ownBlock = some g ∨ w.heap.size ≤ g) := by
  obtain ⟨v', w', hr, ho, hg, _⟩ := Lib.run_append_own_stringF (P := P) w 0 t u ty e i ht hu hi hz hsize hby v n xs hown s h63 hbytes (Nat.zero_le _)
  refine ⟨v', w', hr, ho, hg, ?_⟩
  rcases hown.2 with ⟨rfl, rfl⟩ | ⟨g, cap, cur, fz, rfl, _, hgb, hfz, hnc, hcm, hcs, htake⟩
  · obtain ⟨v2, w2, hr2, ho2, _⟩ := Lib.run_append_own_stringF (P := P) w w.heap.size t u ty e i ht hu hi hz hsize hby (.slice none 0 0) 0 xs ⟨hown.1, .inl ⟨rfl, rfl⟩⟩ s h63 hbytes (Nat.le_refl _)
    rw [hr] at hr2
    simp only [Result.ok.injEq] at hr2
    obtain ⟨rfl, rfl⟩ := hr2
    exact fun g hg' => .inr (ho2.lt g hg').1
  · have hxl : xs.length = n := by simpa using hown.1
    by_cases hroom : n + s.size ≤ cap
    · have hr2 := Lib.run_append_room_stringF (P := P) w t u ty e i ht hu hi hsize g n cap cur fz hgb (by simpa using hfz) s hroom (by simp at hcs; omega)
      rw [hr] at hr2
      simp only [Result.ok.injEq] at hr2
      obtain ⟨rfl, _⟩ := hr2
      exact fun g' hg' => .inl hg'
    · have hr2 := Lib.run_append_grow_string (P := P) w t u ty e i (.int .u8 0) ht hu hi hz ⟨g, 0, none⟩ n cap xs (by rw [hsize]; simpa using hxl) (hown.cells (g := g) rfl) s (by omega) (by omega) (by rw [hby]; exact growslice_fits (by omega) (by omega))
      rw [hr] at hr2
      simp only [Result.ok.injEq] at hr2
      obtain ⟨rfl, _⟩ := hr2
      intro g' hg'
      simp [Value.ownBlock] at hg'
      exact .inr (by omega)

/-- append of one byte. -/
theorem app_one (w : World) (t ty e : TypeId) (i : TypeInfo) (ht : P.underlying t = some (.slice e)) (hi : P.info? e = some i) (hz : i.zero = some (.int .u8 0))
    (hsize : i.size = 1) (hby : i.bytes = 1) (v : Value) (n : Nat) (xs : List Value) (hown : w.ownsRowF 0 e 1 v n xs) (a : Addr) (c : Nat) (y : Value) (hy : w.cell? a = some y) (h1 : y.oneCell' = true)
    (h63 : n + 1 ≤ maxLen) (hbytes : n + 1 ≤ 140737488355328) :
    ∃ v' w', (Builtin.append_ #[t, t] ty #[v, .slice (some a) 1 c]).run P w = .ok v' w' ∧ w'.ownsRowF 0 e 1 v' (n + 1) (xs ++ [y]) ∧ w.grownBy w' v.ownBlock ∧
      (∀ g, v'.ownBlock = some g → v.ownBlock = some g ∨ w.heap.size ≤ g) := by
  have hnews : ∀ j u, [y][j]? = some u → w.cell? (a.add j) = some u := by
    intro j u hj
    cases j with
    | zero => simp at hj; subst hj; simpa [Addr.add] using hy
    | succ j => simp at hj
  have h1' : ∀ u ∈ [y], u.oneCell' = true := by simpa using h1
  obtain ⟨v', w', hr, ho, hg, _⟩ := run_append_ownF (P := P) w 0 t ty e i (.int .u8 0) 1 1 ht hi hz hsize hby rfl (by decide) v n xs hown a 1 c [y] rfl hnews h1' h63 (by omega) (Nat.zero_le _)
  refine ⟨v', w', hr, ho, hg, ?_⟩
  rcases hown.2 with ⟨rfl, rfl⟩ | ⟨g, cap, cur, fz, rfl, _, hgb, hfz, hnc, hcm, hcs, htake⟩
  · obtain ⟨v2, w2, hr2, ho2, _⟩ := run_append_ownF (P := P) w w.heap.size t ty e i (.int .u8 0) 1 1 ht hi hz hsize hby rfl (by decide) (.slice none 0 0) 0 xs ⟨hown.1, .inl ⟨rfl, rfl⟩⟩ a 1 c [y] rfl hnews h1' h63 (by omega) (Nat.le_refl _)
    rw [hr] at hr2
    simp only [Result.ok.injEq] at hr2
    obtain ⟨rfl, rfl⟩ := hr2
    exact fun g hg' => .inr (ho2.lt g hg').1
  · have hxl : xs.length = n := by simpa using hown.1
    by_cases hroom : n + 1 ≤ cap
    · have hr2 := run_append_roomF (P := P) w t ty e i ht hi g n cap cur fz hgb (by rw [hsize]; exact hfz) a 1 c [y] (by simp [hsize]) hnews h1' hroom (by simp [hsize]; simp at hcs; omega)
      rw [hr] at hr2
      simp only [Result.ok.injEq] at hr2
      obtain ⟨rfl, _⟩ := hr2
      exact fun g' hg' => .inl hg'
    · have hr2 := run_append_grow (P := P) w t ty e i (.int .u8 0) ht hi hz ⟨g, 0, none⟩ n cap xs (by rw [hsize]; simpa using hxl) (hown.cells (g := g) rfl) a 1 c [y] (by simp [hsize]) hnews (by omega) (by omega) (by rw [hby]; exact growslice_fits (by omega) (by omega))
      rw [hr] at hr2
      simp only [Result.ok.injEq] at hr2
      obtain ⟨rfl, _⟩ := hr2
      intro g' hg'
      simp [Value.ownBlock] at hg'
      exact .inr (by omega)

theorem step_str {ops : Array Oper} {rest : List Oper} {o : Oper} {a : Act} {w : World} {Q : Exit → Act → World → Prop} (hgd : o.guard = none) (sl x : Operand) (t u : TypeId)
    (hop : o.op = .call { callee := .builtin .append, args := #[sl, x], argTypes := #[t, u] })
    (e : TypeId) (i : TypeInfo) (ht : P.underlying t = some (.slice e)) (hu : P.underlying u = some .string) (hi : P.info? e = some i) (hz : i.zero = some (.int .u8 0)) (hsize : i.size = 1) (hby : i.bytes = 1)
    (v : Value) (n : Nat) (xs : List Value) (hs : a.eval sl = v) (hown : w.ownsRowF 0 e 1 v n xs) (s : ByteArray) (hx : a.eval x = .string s)
    (h63 : n + s.size ≤ maxLen) (hbytes : n + s.size ≤ 140737488355328)
    (h : ∀ v' w', w'.ownsRowF 0 e 1 v' (n + s.size) (xs ++ Lib.strCells s) → w.grownBy w' v.ownBlock → (∀ g, v'.ownBlock = some g → v.ownBlock = some g ∨ w.heap.size ≤ g) → wpList P ops Q rest (a.put o.dst v') w') :
    wpList P ops Q (o :: rest) a w := by
  refine wpList_plain hgd fun K hK => ?_
  obtain ⟨v', w', hr, h2, h3, h4⟩ := app_str w t u o.type e i ht hu hi hz hsize hby v n xs hown s h63 hbytes
  unfold Oper.wp execOp
  simp only [hop, resolve, invoke, builtin, Sem.run_bind, Sem.run_pure, Result.andThen_ok, List.map_toArray, List.map_cons, List.map_nil, hs, hx, hr]
  exact hK _ _ (h v' w' h2 h3 h4)

theorem step_one {ops : Array Oper} {rest : List Oper} {o : Oper} {a : Act} {w : World} {Q : Exit → Act → World → Prop} (hgd : o.guard = none) (sl x : Operand) (t : TypeId)
    (hop : o.op = .call { callee := .builtin .append, args := #[sl, x], argTypes := #[t, t] })
    (e : TypeId) (i : TypeInfo) (ht : P.underlying t = some (.slice e)) (hi : P.info? e = some i) (hz : i.zero = some (.int .u8 0)) (hsize : i.size = 1) (hby : i.bytes = 1)
    (v : Value) (n : Nat) (xs : List Value) (hs : a.eval sl = v) (hown : w.ownsRowF 0 e 1 v n xs) (ad : Addr) (c : Nat) (y : Value) (hx : a.eval x = .slice (some ad) 1 c) (hy : w.cell? ad = some y) (h1 : y.oneCell' = true)
    (h63 : n + 1 ≤ maxLen) (hbytes : n + 1 ≤ 140737488355328)
    (h : ∀ v' w', w'.ownsRowF 0 e 1 v' (n + 1) (xs ++ [y]) → w.grownBy w' v.ownBlock → (∀ g, v'.ownBlock = some g → v.ownBlock = some g ∨ w.heap.size ≤ g) → wpList P ops Q rest (a.put o.dst v') w') :
    wpList P ops Q (o :: rest) a w := by
  refine wpList_plain hgd fun K hK => ?_
  obtain ⟨v', w', hr, h2, h3, h4⟩ := app_one w t o.type e i ht hi hz hsize hby v n xs hown ad c y hy h1 h63 hbytes
  unfold Oper.wp execOp
  simp only [hop, resolve, invoke, builtin, Sem.run_bind, Sem.run_pure, Result.andThen_ok, List.map_toArray, List.map_cons, List.map_nil, hs, hx, hr]
  exact hK _ _ (h v' w' h2 h3 h4)

/-- What stands behind a call that writes. -/
def BlOut (T72 T5 : TypeId) (w w' : World) (b : Nat) (v : Value) (s' : List UInt8) : Prop :=
  ∃ p' v', BlIn T72 T5 w' b s' p' v' ∧ w.heap.size ≤ w'.heap.size ∧ Rest w w' ∧ (∀ k, k < w.heap.size → k ≠ b → v.ownBlock ≠ some k → w'.heap[k]? = w.heap[k]?) ∧
    (∀ g, v'.ownBlock = some g → v.ownBlock = some g ∨ w.heap.size ≤ g)

/-- The buffer written back. -/
theorem BlOut.put {T72 T5 : TypeId} {w0 w1 w2 : World} {b : Nat} {v v' : Value} {s' : List UInt8} (hb0 : b < w0.heap.size) (hn : v.ownBlock ≠ some b) (hs1 : w0.heap.size ≤ w1.heap.size) (hr1 : Rest w0 w1) (h1 : ∀ k, k < w0.heap.size → k ≠ b → w1.heap[k]? = w0.heap[k]?)
    (hb2 : w2.heap[b]? = some (.cells #[.pointer (some ⟨b, 0, none⟩), v] T72 (0, 0))) (ho : w2.ownsRowF 0 T5 1 v' s'.length (bcs s')) (hg : w1.grownBy w2 v.ownBlock)
    (hv : ∀ g, v'.ownBlock = some g → v.ownBlock = some g ∨ w1.heap.size ≤ g) : BlOut T72 T5 w0 (w2.setCell ⟨b, 1, none⟩ v') b v s' := by
  have hne : v'.ownBlock ≠ some b := fun h => by
    rcases hv b h with h | h
    · exact hn h
    · omega
  have hset := heap_setCell hb2 (o := 1) v'
  refine ⟨.pointer (some ⟨b, 0, none⟩), v', ⟨?_, .inr rfl, ownsRowF_same ho fun g hg' => hset.2.1 g (fun h => hne (h ▸ hg')), hne⟩, ?_, ?_, ?_, ?_⟩
  · have := hset.1
    simpa [at_] using this
  · have := hset.2.2; have := hg.size; simp only [at_] at *; omega
  · exact hr1.trans ⟨hg.os, hg.tape, hg.output⟩
  · intro k hk hkb hkv
    have h2 := hset.2.1 k hkb
    simp only [at_] at h2
    rw [h2, hg.block k (by omega) (fun h => hkv h.symm), h1 k hk hkb]
  · intro g hg'
    rcases hv g hg' with h | h
    · exact .inl h
    · exact .inr (by omega)

set_option maxHeartbeats 2000000 in
set_option maxRecDepth 100000 in
theorem run_writeByte {ρ : Ren} (L : BlP P ρ) (F : P.funcs[ρ.f 167]? = some (Body.n167 ρ)) (X : Builder.Extra P ρ) (w : World) (b : Nat) (s : List UInt8) (p v : Value) (x : UInt8) (h : BlIn (ρ.t 72) (ρ.t 5) w b s p v) (hlen : s.length + 1 ≤ 140737488355328) :
    Calls P (ρ.f 167) #[.pointer (some ⟨b, 0, none⟩), .int .u8 x.toNat] w fun e w' => e = .returned .nilIface ∧ BlOut (ρ.t 72) (ρ.t 5) w w' b v (s ++ [x]) := by
  obtain ⟨i0, hi, hz0, hz1, hz2⟩ := info_parts X.infoByte
  have hb0 : b < w.heap.size := (Array.getElem?_eq_some_iff.1 h.blk).1
  have mixed := L.mixed
  have t72 := L.t72; have a72 := L.a72; have z72 := L.z72; have v72 := L.v72; have u72 := run_underlying L.t72
  have t70 := L.t70; have a70 := L.a70; have z70 := L.z70; have v70 := L.v70; have u70 := run_underlying L.t70
  have t5 := X.t5; have a5 := X.a5; have z5 := X.z5; have v5 := X.v5; have u5 := run_underlying X.t5
  have t37 := L.t37; have a37 := L.a37; have z37 := L.z37; have v37 := L.v37; have u37 := run_underlying L.t37
  have t9 := L.t9; have a9 := L.a9; have z9 := L.z9; have v9 := L.v9; have u9 := run_underlying L.t9
  have e240 := L.enter
  go_enter F, Body.n167_ntmps ρ
  go_wp2_with (go_at_fn (ρ.f 240); refine (L.check w b s p v h).mono ?_)
  rintro e w1 ⟨rfl, h1, hsz1, hr1, hk1⟩
  have c0 : w1.cell? ⟨b, 0, none⟩ = some (.pointer (some ⟨b, 0, none⟩)) := by rw [Lib.cell_of_heap h1.blk]; rfl
  have c1 : w1.cell? ⟨b, 1, none⟩ = some v := by rw [Lib.cell_of_heap h1.blk]; rfl
  go_wp2_with (at_builtin; go_loud (refine step_one rfl _ _ (ρ.t 37) rfl (ρ.t 5) i0 L.t37 hi hz0 hz1 hz2 _ _ _ rfl (h1.own.alloc _) ⟨w1.heap.size, 0, none⟩ 1 (.int .u8 x.toNat) rfl ?c1 rfl ?c2 ?c3 ?_))
  case c1 => simp
  case c2 => unfold maxLen; omega
  case c3 => omega
  intro v' w2 hown' hgrow hrow
  have hb2 : w2.heap[b]? = some (.cells #[.pointer (some ⟨b, 0, none⟩), v] (ρ.t 72) (0, 0)) := by
    rw [hgrow.block b (by simp; omega) (fun e => h.ne e.symm), Lib.alloc_old w1 _ b (by omega)]
    exact h1.blk
  have d0 : w2.cell? ⟨b, 0, none⟩ = some (.pointer (some ⟨b, 0, none⟩)) := by rw [Lib.cell_of_heap hb2]; rfl
  have d1 : w2.cell? ⟨b, 1, none⟩ = some v := by rw [Lib.cell_of_heap hb2]; rfl
  have f1 : w2.frozen? ⟨b, 1, none⟩ = false := Lib.frozen_of_heap hb2 1
  obtain ⟨g, cap, rfl⟩ : ∃ g cap, v' = .slice (some ⟨g, 0, none⟩) (s.length + 1) cap := by
    rcases hown'.2 with ⟨_, h0⟩ | ⟨g, cap, cur, fz, hv, _⟩
    · omega
    · exact ⟨g, cap, hv⟩
  go_wp2
  go_ret
  refine ⟨rfl, BlOut.put (w1 := w1.alloc (.cells #[.int .u8 x.toNat] (ρ.t 5))) hb0 h.ne (by simp; omega) (hr1.trans ⟨rfl, rfl, rfl⟩) (fun k hk hkb => ?_) hb2 ?_ hgrow (by simpa using hrow)⟩
  · rw [Lib.alloc_old w1 _ k (by omega)]; exact hk1 k hkb
  · simpa [bcs_append, bcs] using hown'

set_option maxHeartbeats 2000000 in
set_option maxRecDepth 100000 in
theorem run_writeString' {ρ : Ren} (L : BlP P ρ) (F : P.funcs[ρ.f 166]? = some (Body.n166 ρ)) (X : Builder.Extra P ρ) (w : World) (b : Nat) (s s' : List UInt8) (p v : Value) (q : ByteArray) (hqc : bcs s' = bcs s ++ Lib.strCells q) (hsl : s'.length = s.length + q.size) (h : BlIn (ρ.t 72) (ρ.t 5) w b s p v) (hlen : s.length + q.size ≤ 140737488355328) :
    Calls P (ρ.f 166) #[.pointer (some ⟨b, 0, none⟩), .string q] w fun e w' => e = .returned (.tuple #[.int .i64 q.size, .nilIface]) ∧ BlOut (ρ.t 72) (ρ.t 5) w w' b v s' := by
  obtain ⟨i0, hi, hz0, hz1, hz2⟩ := info_parts X.infoByte
  have hb0 : b < w.heap.size := (Array.getElem?_eq_some_iff.1 h.blk).1
  have mixed := L.mixed
  have t72 := L.t72; have a72 := L.a72; have z72 := L.z72; have v72 := L.v72; have u72 := run_underlying L.t72
  have t70 := L.t70; have a70 := L.a70; have z70 := L.z70; have v70 := L.v70; have u70 := run_underlying L.t70
  have t37 := L.t37; have a37 := L.a37; have z37 := L.z37; have v37 := L.v37; have u37 := run_underlying L.t37
  have t3 := L.t3; have a3 := L.a3; have z3 := L.z3; have v3 := L.v3; have u3 := run_underlying L.t3
  have t9 := L.t9; have a9 := L.a9; have z9 := L.z9; have v9 := L.v9; have u9 := run_underlying L.t9
  have t5 := X.t5; have a5 := X.a5; have z5 := X.z5; have v5 := X.v5; have u5 := run_underlying X.t5
  have e240 := L.enter
  go_enter F, Body.n166_ntmps ρ
  go_wp2_with (go_at_fn (ρ.f 240); refine (L.check w b s p v h).mono ?_)
  rintro e w1 ⟨rfl, h1, hsz1, hr1, hk1⟩
  have c0 : w1.cell? ⟨b, 0, none⟩ = some (.pointer (some ⟨b, 0, none⟩)) := by rw [Lib.cell_of_heap h1.blk]; rfl
  have c1 : w1.cell? ⟨b, 1, none⟩ = some v := by rw [Lib.cell_of_heap h1.blk]; rfl
  go_wp2_with (at_builtin; refine step_str rfl _ _ (ρ.t 37) (ρ.t 9) rfl (ρ.t 5) i0 L.t37 L.t9 hi hz0 hz1 hz2 _ _ _ rfl h1.own q rfl ?c3 ?c4 ?_)
  case c3 => unfold maxLen; omega
  case c4 => omega
  intro v' w2 hown' hgrow hrow
  have hb2 : w2.heap[b]? = some (.cells #[.pointer (some ⟨b, 0, none⟩), v] (ρ.t 72) (0, 0)) := by
    rw [hgrow.block b (by omega) (fun e => h.ne e.symm)]
    exact h1.blk
  have d0 : w2.cell? ⟨b, 0, none⟩ = some (.pointer (some ⟨b, 0, none⟩)) := by rw [Lib.cell_of_heap hb2]; rfl
  have d1 : w2.cell? ⟨b, 1, none⟩ = some v := by rw [Lib.cell_of_heap hb2]; rfl
  have f1 : w2.frozen? ⟨b, 1, none⟩ = false := Lib.frozen_of_heap hb2 1
  obtain ⟨ao, n', cap, rfl⟩ : ∃ ao n' cap, v' = .slice ao n' cap := by
    rcases hown'.2 with ⟨hv, _⟩ | ⟨g, cap, cur, fz, hv, _⟩
    · exact ⟨_, _, _, hv⟩
    · exact ⟨_, _, _, hv⟩
  go_wp2
  go_ret2
  refine ⟨rfl, BlOut.put (w1 := w1) hb0 h.ne hsz1 hr1 (fun k hk hkb => hk1 k hkb) hb2 ?_ hgrow hrow⟩
  rw [hsl, hqc]
  exact hown'

theorem run_writeString {ρ : Ren} (L : BlP P ρ) (F : P.funcs[ρ.f 166]? = some (Body.n166 ρ)) (X : Builder.Extra P ρ) (w : World) (b : Nat) (s : List UInt8) (p v : Value) (l : List UInt8) (h : BlIn (ρ.t 72) (ρ.t 5) w b s p v) (hlen : s.length + l.length ≤ 140737488355328) :
    Calls P (ρ.f 166) #[.pointer (some ⟨b, 0, none⟩), .string ⟨l.toArray⟩] w fun e w' => e = .returned (.tuple #[.int .i64 l.length, .nilIface]) ∧ BlOut (ρ.t 72) (ρ.t 5) w w' b v (s ++ l) :=
  run_writeString' L F X w b s (s ++ l) p v ⟨l.toArray⟩ (by rw [bcs_append]; rfl) (by rw [List.length_append]; rfl) h hlen

set_option maxHeartbeats 1000000 in
set_option maxRecDepth 100000 in
theorem run_len {ρ : Ren} (L : BlP P ρ) (F : P.funcs[ρ.f 170]? = some (Body.n170 ρ)) (w : World) (b : Nat) (s : List UInt8) (p v : Value) (h : BlIn (ρ.t 72) (ρ.t 5) w b s p v) :
    Calls P (ρ.f 170) #[.pointer (some ⟨b, 0, none⟩)] w fun e w' => e = .returned (.int .i64 s.length) ∧ w' = w := by
  obtain ⟨ao, cap, hv⟩ : ∃ ao cap, v = .slice ao s.length cap := by
    rcases h.own.2 with ⟨hv, h0⟩ | ⟨g, cap, cur, fz, hv, _⟩
    · exact ⟨none, 0, by rw [hv, h0]⟩
    · exact ⟨_, _, hv⟩
  have hblk := h.blk
  rw [hv] at hblk
  clear h hv
  have c1 : w.cell? ⟨b, 1, none⟩ = some (.slice ao s.length cap) := by rw [Lib.cell_of_heap hblk]; rfl
  have mixed := L.mixed
  have t72 := L.t72; have a72 := L.a72; have z72 := L.z72; have v72 := L.v72; have u72 := run_underlying L.t72
  have t70 := L.t70; have a70 := L.a70; have z70 := L.z70; have v70 := L.v70; have u70 := run_underlying L.t70
  have t37 := L.t37; have a37 := L.a37; have z37 := L.z37; have v37 := L.v37; have u37 := run_underlying L.t37
  have t3 := L.t3; have a3 := L.a3; have z3 := L.z3; have v3 := L.v3; have u3 := run_underlying L.t3
  go_enter F, Body.n170_ntmps ρ
  go_wp2
  go_ret
  exact ⟨rfl, rfl⟩

/-- The worlds in which String stands: drawn on, frozen, or with a view more. -/
theorem BlOut.froze {T72 T5 : TypeId} {w : World} {b : Nat} {s : List UInt8} {p v : Value} (h : BlIn T72 T5 w b s p v) {g cap : Nat} (hv : v = .slice (some ⟨g, 0, none⟩) s.length cap) (hs : s ≠ []) :
    BlOut T72 T5 w (w.drew.freeze ⟨g, 0, none⟩ s.length) b v s := by
  have hl : s.length ≠ 0 := by simpa using hs
  obtain ⟨cur, fz, hg, hfz, hnc, hcm, hcs, htake⟩ : ∃ cur fz, w.heap[g]? = some (.cells cur T5 fz) ∧ fz.2 ≤ s.length * 1 ∧ s.length ≤ cap ∧ cap ≤ maxLen ∧ cur.size = cap * 1 ∧ cur.toList.take (s.length * 1) = bcs s := by
    rcases h.own.2 with ⟨_, hz⟩ | ⟨g', cap', cur, fz, hv', _, r⟩
    · exact absurd hz hl
    · rw [hv] at hv'; simp at hv'; obtain ⟨rfl, rfl⟩ := hv'
      exact ⟨cur, fz, r⟩
  have hgb : g ≠ b := fun e => h.ne (by rw [hv, e]; rfl)
  have hsame : ∀ k, k ≠ g → (w.drew.freeze ⟨g, 0, none⟩ s.length).heap[k]? = w.heap[k]? := by
    intro k hk
    unfold World.freeze
    rw [if_neg hl]
    simp only [Array.getElem?_modify]
    rw [if_neg (Ne.symm hk)]
    rfl
  have hnew : ∃ fz', (w.drew.freeze ⟨g, 0, none⟩ s.length).heap[g]? = some (.cells cur T5 fz') ∧ fz'.2 ≤ s.length * 1 := by
    unfold World.freeze
    rw [if_neg hl]
    have hg' : w.drew.heap[g]? = some (.cells cur T5 fz) := hg
    simp only [Array.getElem?_modify, if_true, hg', Option.map_some]
    refine ⟨_, rfl, ?_⟩
    split
    · simp
    · simp; omega
  obtain ⟨fz', hn1, hn2⟩ := hnew
  refine ⟨p, v, ⟨?_, h.adr, ⟨h.own.1, .inr ⟨g, cap, cur, fz', hv, Nat.zero_le _, hn1, hn2, hnc, hcm, hcs, htake⟩⟩, h.ne⟩, ?_, ⟨?_, ?_, ?_⟩, fun k hk hkb hkv => hsame k (fun e => hkv (by rw [hv, e]; rfl)), fun g h => .inl h⟩
  · rw [hsame b hgb.symm]; exact h.blk
  · unfold World.freeze; rw [if_neg hl]; simp [World.drew, -World.drew_eq]
  all_goals (unfold World.freeze; rw [if_neg hl]; rfl)

theorem BlIn.drew {T72 T5 : TypeId} {w : World} {b : Nat} {s : List UInt8} {p v : Value} (h : BlIn T72 T5 w b s p v) : BlOut T72 T5 w w.drew b v s :=
  ⟨p, v, ⟨h.blk, h.adr, ownsRowF_same h.own fun _ _ => rfl, h.ne⟩, Nat.le_refl _, ⟨rfl, rfl, rfl⟩, fun _ _ _ _ => rfl, fun _ h => .inl h⟩

theorem BlIn.drewAlloc {T72 T5 : TypeId} {w : World} {b : Nat} {s : List UInt8} {p v : Value} (h : BlIn T72 T5 w b s p v) (o : Go.Obj) : BlOut T72 T5 w (w.drew.alloc o) b v s := by
  have hold : ∀ k, k < w.heap.size → (w.drew.alloc o).heap[k]? = w.heap[k]? := fun k hk => Lib.alloc_old w.drew _ k hk
  have hb0 : b < w.heap.size := (Array.getElem?_eq_some_iff.1 h.blk).1
  refine ⟨p, v, ⟨by rw [hold b hb0]; exact h.blk, h.adr, ownsRowF_same h.own fun g hg => hold g (h.own.lt g hg).2, h.ne⟩, by simp, ⟨rfl, rfl, rfl⟩, fun k hk _ _ => hold k hk, fun _ h => .inl h⟩

set_option maxHeartbeats 2000000 in
set_option maxRecDepth 100000 in
theorem string_many {ρ : Ren} (L : BlP P ρ) (F : P.funcs[ρ.f 169]? = some (Body.n169 ρ)) (X : Builder.Extra P ρ) (w : World) (b : Nat) (p : Value) (g cap : Nat) (s : List UInt8) (C : World → Prop) (hs : s ≠ []) (hcap : cap ≠ 0) (hblk : w.heap[b]? = some (.cells #[p, .slice (some ⟨g, 0, none⟩) s.length cap] (ρ.t 72) (0, 0)))
    (hUS : (Builtin.unsafeString_ #[(ρ.t 127), (ρ.t 3)] (ρ.t 9) #[.pointer (some ⟨g, 0, none⟩), .int .i64 s.length]).run P w.drew = .ok (.string ⟨s.toArray⟩) (w.drew.freeze ⟨g, 0, none⟩ s.length)) (hC : C (w.drew.freeze ⟨g, 0, none⟩ s.length)) :
    Calls P (ρ.f 169) #[.pointer (some ⟨b, 0, none⟩)] w fun e w' => e = .returned (.string ⟨s.toArray⟩) ∧ C w' := by
  have c1 : w.drew.cell? ⟨b, 1, none⟩ = some (.slice (some ⟨g, 0, none⟩) s.length cap) := by
    have : w.drew.heap[b]? = some (.cells #[p, .slice (some ⟨g, 0, none⟩) s.length cap] (ρ.t 72) (0, 0)) := hblk
    rw [Lib.cell_of_heap this]; rfl
  have hSD : (Builtin.unsafeSliceData_ #[(ρ.t 37)] (ρ.t 127) #[.slice (some ⟨g, 0, none⟩) s.length cap]).run P w.drew = .ok (.pointer (some ⟨g, 0, none⟩)) w.drew :=
    Lib.run_unsafeSliceData_row _ _ _ _ _ _ hcap
  clear hcap hs
  have mixed := L.mixed
  have t72 := L.t72; have a72 := L.a72; have z72 := L.z72; have v72 := L.v72; have u72 := run_underlying L.t72
  have t70 := L.t70; have a70 := L.a70; have z70 := L.z70; have v70 := L.v70; have u70 := run_underlying L.t70
  have t37 := L.t37; have a37 := L.a37; have z37 := L.z37; have v37 := L.v37; have u37 := run_underlying L.t37
  have t127 := L.t127; have a127 := L.a127; have z127 := L.z127; have v127 := L.v127; have u127 := run_underlying L.t127
  have t3 := L.t3; have a3 := L.a3; have z3 := L.z3; have v3 := L.v3; have u3 := run_underlying L.t3
  have t9 := L.t9; have a9 := L.a9; have z9 := L.z9; have v9 := L.v9; have u9 := run_underlying L.t9
  have t5 := X.t5; have a5 := X.a5; have z5 := X.z5; have v5 := X.v5; have u5 := run_underlying X.t5
  go_enter F, Body.n169_ntmps ρ
  go_wp2
  go_region_o
  all_goals (go_wp2; go_ret; exact ⟨rfl, hC⟩)

set_option maxHeartbeats 2000000 in
set_option maxRecDepth 100000 in
theorem string_nil {ρ : Ren} (L : BlP P ρ) (F : P.funcs[ρ.f 169]? = some (Body.n169 ρ)) (X : Builder.Extra P ρ) (w : World) (b : Nat) (p : Value) (C : World → Prop) (hblk : w.heap[b]? = some (.cells #[p, .slice none 0 0] (ρ.t 72) (0, 0))) (hC : C w.drew) :
    Calls P (ρ.f 169) #[.pointer (some ⟨b, 0, none⟩)] w fun e w' => e = .returned (.string ⟨#[]⟩) ∧ C w' := by
  have hUS : ∀ (W : World) (q : Option Addr), (Builtin.unsafeString_ #[(ρ.t 127), (ρ.t 3)] (ρ.t 9) #[.pointer q, .int .i64 0]).run P W = .ok (.string .empty) W := fun W q => Lib.run_unsafeString_none W _ _ _ q
  have c1 : w.drew.cell? ⟨b, 1, none⟩ = some (.slice none 0 0) := by
    have : w.drew.heap[b]? = some (.cells #[p, .slice none 0 0] (ρ.t 72) (0, 0)) := hblk
    rw [Lib.cell_of_heap this]; rfl
  have hSD : (Builtin.unsafeSliceData_ #[(ρ.t 37)] (ρ.t 127) #[.slice none 0 0]).run P w.drew = .ok (.pointer none) w.drew := rfl
  have mixed := L.mixed
  have t72 := L.t72; have a72 := L.a72; have z72 := L.z72; have v72 := L.v72; have u72 := run_underlying L.t72
  have t70 := L.t70; have a70 := L.a70; have z70 := L.z70; have v70 := L.v70; have u70 := run_underlying L.t70
  have t37 := L.t37; have a37 := L.a37; have z37 := L.z37; have v37 := L.v37; have u37 := run_underlying L.t37
  have t127 := L.t127; have a127 := L.a127; have z127 := L.z127; have v127 := L.v127; have u127 := run_underlying L.t127
  have t3 := L.t3; have a3 := L.a3; have z3 := L.z3; have v3 := L.v3; have u3 := run_underlying L.t3
  have t9 := L.t9; have a9 := L.a9; have z9 := L.z9; have v9 := L.v9; have u9 := run_underlying L.t9
  have t5 := X.t5; have a5 := X.a5; have z5 := X.z5; have v5 := X.v5; have u5 := run_underlying X.t5
  go_enter F, Body.n169_ntmps ρ
  go_wp2
  go_region_o
  all_goals (go_wp2; go_ret; exact ⟨rfl, hC⟩)

set_option maxHeartbeats 2000000 in
set_option maxRecDepth 100000 in
theorem string_room {ρ : Ren} (L : BlP P ρ) (F : P.funcs[ρ.f 169]? = some (Body.n169 ρ)) (X : Builder.Extra P ρ) (w : World) (b : Nat) (p : Value) (g cap : Nat) (C : World → Prop) (hc0 : cap ≠ 0) (hblk : w.heap[b]? = some (.cells #[p, .slice (some ⟨g, 0, none⟩) 0 cap] (ρ.t 72) (0, 0))) (hC : C w.drew) :
    Calls P (ρ.f 169) #[.pointer (some ⟨b, 0, none⟩)] w fun e w' => e = .returned (.string ⟨#[]⟩) ∧ C w' := by
  have hUS : ∀ (W : World) (q : Option Addr), (Builtin.unsafeString_ #[(ρ.t 127), (ρ.t 3)] (ρ.t 9) #[.pointer q, .int .i64 0]).run P W = .ok (.string .empty) W := fun W q => Lib.run_unsafeString_none W _ _ _ q
  have c1 : w.drew.cell? ⟨b, 1, none⟩ = some (.slice (some ⟨g, 0, none⟩) 0 cap) := by
    have : w.drew.heap[b]? = some (.cells #[p, .slice (some ⟨g, 0, none⟩) 0 cap] (ρ.t 72) (0, 0)) := hblk
    rw [Lib.cell_of_heap this]; rfl
  have hSD : (Builtin.unsafeSliceData_ #[(ρ.t 37)] (ρ.t 127) #[.slice (some ⟨g, 0, none⟩) 0 cap]).run P w.drew = .ok (.pointer (some ⟨g, 0, none⟩)) w.drew :=
    Lib.run_unsafeSliceData_row _ _ _ _ _ _ hc0
  clear hc0
  have mixed := L.mixed
  have t72 := L.t72; have a72 := L.a72; have z72 := L.z72; have v72 := L.v72; have u72 := run_underlying L.t72
  have t70 := L.t70; have a70 := L.a70; have z70 := L.z70; have v70 := L.v70; have u70 := run_underlying L.t70
  have t37 := L.t37; have a37 := L.a37; have z37 := L.z37; have v37 := L.v37; have u37 := run_underlying L.t37
  have t127 := L.t127; have a127 := L.a127; have z127 := L.z127; have v127 := L.v127; have u127 := run_underlying L.t127
  have t3 := L.t3; have a3 := L.a3; have z3 := L.z3; have v3 := L.v3; have u3 := run_underlying L.t3
  have t9 := L.t9; have a9 := L.a9; have z9 := L.z9; have v9 := L.v9; have u9 := run_underlying L.t9
  have t5 := X.t5; have a5 := X.a5; have z5 := X.z5; have v5 := X.v5; have u5 := run_underlying X.t5
  go_enter F, Body.n169_ntmps ρ
  go_wp2
  go_region_o
  all_goals (go_wp2; go_ret; exact ⟨rfl, hC⟩)

set_option maxHeartbeats 2000000 in
set_option maxRecDepth 100000 in
theorem string_noroom {ρ : Ren} (L : BlP P ρ) (F : P.funcs[ρ.f 169]? = some (Body.n169 ρ)) (X : Builder.Extra P ρ) (w : World) (b : Nat) (p : Value) (g : Nat) (cur : Array Value) (fz : Nat × Nat) (C : World → Prop) (hg : w.heap[g]? = some (.cells cur (ρ.t 5) fz)) (hblk : w.heap[b]? = some (.cells #[p, .slice (some ⟨g, 0, none⟩) 0 0] (ρ.t 72) (0, 0))) (hC : C (w.drew.alloc (.view ⟨g, 0, none⟩ (ρ.t 5)))) :
    Calls P (ρ.f 169) #[.pointer (some ⟨b, 0, none⟩)] w fun e w' => e = .returned (.string ⟨#[]⟩) ∧ C w' := by
  have hUS : ∀ (W : World) (q : Option Addr), (Builtin.unsafeString_ #[(ρ.t 127), (ρ.t 3)] (ρ.t 9) #[.pointer q, .int .i64 0]).run P W = .ok (.string .empty) W := fun W q => Lib.run_unsafeString_none W _ _ _ q
  have hlt : b < w.heap.size := (Array.getElem?_eq_some_iff.1 hblk).1
  have c1 : w.drew.cell? ⟨b, 1, none⟩ = some (.slice (some ⟨g, 0, none⟩) 0 0) := by
    have : w.drew.heap[b]? = some (.cells #[p, .slice (some ⟨g, 0, none⟩) 0 0] (ρ.t 72) (0, 0)) := hblk
    rw [Lib.cell_of_heap this]; rfl
  have hSD : (Builtin.unsafeSliceData_ #[(ρ.t 37)] (ρ.t 127) #[.slice (some ⟨g, 0, none⟩) 0 0]).run P w.drew = .ok (.pointer (some ⟨w.drew.heap.size, 0, none⟩)) (w.drew.alloc (.view ⟨g, 0, none⟩ (ρ.t 5))) :=
    Lib.run_unsafeSliceData_zero w.drew _ _ (ρ.t 5) L.t127 ⟨g, 0, none⟩ 0 ((ρ.t 5), cur.size) (by have hg' : w.drew.heap[g]? = some (.cells cur (ρ.t 5) fz) := hg; simp [World.shape?, hg'])
  have c2 : (w.drew.alloc (.view ⟨g, 0, none⟩ (ρ.t 5))).cell? ⟨b, 1, none⟩ = some (.slice (some ⟨g, 0, none⟩) 0 0) := by
    have : (w.drew.alloc (.view ⟨g, 0, none⟩ (ρ.t 5))).heap[b]? = _ := (Lib.alloc_old w.drew _ b hlt).trans hblk
    rw [Lib.cell_of_heap this]; rfl
  have c3 : (w.alloc (.view ⟨g, 0, none⟩ (ρ.t 5))).drew.cell? ⟨b, 1, none⟩ = some (.slice (some ⟨g, 0, none⟩) 0 0) := c2
  have c0 : w.cell? ⟨b, 1, none⟩ = some (.slice (some ⟨g, 0, none⟩) 0 0) := c1
  have mixed := L.mixed
  have t72 := L.t72; have a72 := L.a72; have z72 := L.z72; have v72 := L.v72; have u72 := run_underlying L.t72
  have t70 := L.t70; have a70 := L.a70; have z70 := L.z70; have v70 := L.v70; have u70 := run_underlying L.t70
  have t37 := L.t37; have a37 := L.a37; have z37 := L.z37; have v37 := L.v37; have u37 := run_underlying L.t37
  have t127 := L.t127; have a127 := L.a127; have z127 := L.z127; have v127 := L.v127; have u127 := run_underlying L.t127
  have t3 := L.t3; have a3 := L.a3; have z3 := L.z3; have v3 := L.v3; have u3 := run_underlying L.t3
  have t9 := L.t9; have a9 := L.a9; have z9 := L.z9; have v9 := L.v9; have u9 := run_underlying L.t9
  have t5 := X.t5; have a5 := X.a5; have z5 := X.z5; have v5 := X.v5; have u5 := run_underlying X.t5
  go_enter F, Body.n169_ntmps ρ
  go_wp2
  go_region_o
  all_goals (go_wp2; go_ret; exact ⟨rfl, hC⟩)

theorem run_string {ρ : Ren} (L : BlP P ρ) (F : P.funcs[ρ.f 169]? = some (Body.n169 ρ)) (X : Builder.Extra P ρ) (w : World) (b : Nat) (s : List UInt8) (p v : Value) (h : BlIn (ρ.t 72) (ρ.t 5) w b s p v) :
    Calls P (ρ.f 169) #[.pointer (some ⟨b, 0, none⟩)] w fun e w' => e = .returned (.string ⟨s.toArray⟩) ∧ BlOut (ρ.t 72) (ρ.t 5) w w' b v s := by
  have hblk := h.blk
  rcases h.own.2 with ⟨hv, h0⟩ | ⟨g, cap, cur, fz, hv, _, hg, hfz, hnc, hcm, hcs, htake⟩
  · have : s = [] := by simpa using h0
    subst this
    rw [hv] at hblk
    exact string_nil L F X w b p (fun w' => BlOut (ρ.t 72) (ρ.t 5) w w' b v []) hblk h.drew
  · by_cases hs : s = []
    · subst hs
      rw [hv] at hblk
      by_cases hc0 : cap = 0
      · subst hc0
        exact string_noroom L F X w b p g cur fz (fun w' => BlOut (ρ.t 72) (ρ.t 5) w w' b v []) hg hblk (h.drewAlloc _)
      · exact string_room L F X w b p g cap (fun w' => BlOut (ρ.t 72) (ρ.t 5) w w' b v []) hc0 hblk h.drew
    · have hl : s.length ≠ 0 := by simpa using hs
      rw [hv] at hblk
      refine string_many L F X w b p g cap s (fun w' => BlOut (ρ.t 72) (ρ.t 5) w w' b v s) hs (by omega) hblk ?_ (BlOut.froze h hv hs)
      refine Lib.run_unsafeString_row w.drew (ρ.t 127) (ρ.t 3) (ρ.t 9) (ρ.t 5) L.t127 X.cellsByte g cur.size (by have hg' : w.drew.heap[g]? = some (.cells cur (ρ.t 5) fz) := hg; simp [World.shape?, hg']) s hs (by omega) (by unfold maxLen at hcm; omega) ?_
      intro j x hx
      exact h.own.cells (g := g) (by rw [hv]; rfl) j (.int .u8 x.toNat) (by simp [bcs, hx])
end


theorem bl_sim {c : Cfg T} {f : FuncId} {rest : List (V T)} {s s' : List UInt8} {res : List (V T)} {y : Value}
    (hf : ∃ fn, c.P.funcs[f]? = some fn ∧ (fn.name == "runtime.NumGoroutine") = false ∧ fn.body.isNone = false) (hy : ∀ η w, RV (rc c) η w (pack res) y)
    (hcall : ∀ (w : World) (b : Nat) (p v : Value) (xs : List Value) (η : Eta), BlIn c.bt c.ut w b s p v → RVs (rc c) η w rest xs →
      Calls c.P f (Value.pointer (some ⟨b, 0, none⟩) :: xs).toArray w fun e w' => e = .returned y ∧ BlOut c.bt c.ut w w' b v s') :
    Sim c f (.bp 0 :: rest) [.bl s] res [.bl s'] := by
  refine ⟨hf, Nat.le_refl _, fun η w xs hH hfr hx => ?_⟩
  simp only [RVs] at hx
  obtain ⟨x, xs', rfl, h1, h2⟩ := hx
  obtain ⟨b, p, v, rfl, hη, hin⟩ := BlIn.of hH h1
  refine (hcall w b p v xs' η hin h2).mono ?_
  rintro e w' ⟨rfl, p', v', hin', hs, hr, hk, hg⟩
  obtain ⟨η', he, hkp, hH', hf', _⟩ := BlIn.to hH hfr hη hin hin' hs hr hk hg
  exact ⟨y, η', rfl, hy η' w', he, hkp, hH', hf'⟩

def blMax : Nat := 140737488355328

def wByte (s : List UInt8) (n : Int) : Option (List UInt8) := cond (decide (0 ≤ n ∧ n < 256) && decide (s.length < blMax)) (some (s ++ [UInt8.ofNat n.toNat])) none

def wStr (s l : List UInt8) : Option (List UInt8) := cond (decide (s.length + l.length ≤ blMax)) (some (s ++ l)) none

theorem wByte_ok (s : List UInt8) (x : UInt8) (h : s.length < blMax) : wByte s (x.toNat : Int) = some (s ++ [x]) := by
  have h1 : 0 ≤ (x.toNat : Int) ∧ (x.toNat : Int) < 256 := ⟨by omega, by have := x.toNat_lt; omega⟩
  simp [wByte, h, h1]

theorem wStr_ok (s l : List UInt8) (h : s.length + l.length ≤ blMax) : wStr s l = some (s ++ l) := by simp [wStr, h]

theorem sim_wByte {c : Cfg T} {ρ : Ren} (L : BlP c.P ρ) (F : c.P.funcs[ρ.f 167]? = some (Body.n167 ρ)) (X : Builder.Extra c.P ρ) (hb : c.bt = ρ.t 72) (hu : c.ut = ρ.t 5) {s s' : List UInt8} {n : Int} (h : wByte s n = some s') :
    Sim c (ρ.f 167) [.bp 0, .d (.i .u8 n)] [.bl s] [.d .ni] [.bl s'] := by
  unfold wByte at h
  cases hg : (decide (0 ≤ n ∧ n < 256) && decide (s.length < blMax)) with
  | false => rw [hg] at h; cases h
  | true =>
    simp only [hg, cond_true, Option.some.injEq] at h; subst h
    simp only [Bool.and_eq_true, decide_eq_true_eq] at hg
    refine bl_sim (y := .nilIface) ⟨_, F, rfl, rfl⟩ (fun η w => by simp only [pack, RV]; exact .ni) fun w b p v xs η hin hx => ?_
    simp only [RVs, RV] at hx
    obtain ⟨x, _, rfl, hx, rfl⟩ := hx
    cases hx
    have hn : n = ((UInt8.ofNat n.toNat).toNat : Int) := by
      simp only [UInt8.toNat_ofNat']
      omega
    have hbig : s.length + 1 ≤ 140737488355328 := by have := hg.2; unfold blMax at this; omega
    rw [hb, hu] at hin ⊢
    have := run_writeByte L F X w b s p v (UInt8.ofNat n.toNat) hin hbig
    rw [← hn] at this
    exact this

theorem sim_wStr {c : Cfg T} {ρ : Ren} (L : BlP c.P ρ) (F : c.P.funcs[ρ.f 166]? = some (Body.n166 ρ)) (X : Builder.Extra c.P ρ) (hb : c.bt = ρ.t 72) (hu : c.ut = ρ.t 5) {s s' l : List UInt8} (h : wStr s l = some s') :
    Sim c (ρ.f 166) [.bp 0, .d (.s l)] [.bl s] [.d (.i .i64 l.length), .d .ni] [.bl s'] := by
  unfold wStr at h
  cases hg : decide (s.length + l.length ≤ blMax) with
  | false => simp [hg] at h
  | true =>
    simp only [hg, cond_true, Option.some.injEq] at h; subst h
    simp only [decide_eq_true_eq] at hg
    refine bl_sim (y := .tuple #[.int .i64 l.length, .nilIface]) ⟨_, F, rfl, rfl⟩ (fun η w => by simp only [pack, RV, RVs]; exact ⟨_, rfl, _, _, rfl, .i _ _, _, _, rfl, .ni, rfl⟩) fun w b p v xs η hin hx => ?_
    simp only [RVs, RV] at hx
    obtain ⟨x, _, rfl, hx, rfl⟩ := hx
    cases hx
    rw [hb, hu] at hin ⊢
    exact run_writeString L F X w b s p v l hin hg

theorem sim_str {c : Cfg T} {ρ : Ren} (L : BlP c.P ρ) (F : c.P.funcs[ρ.f 169]? = some (Body.n169 ρ)) (X : Builder.Extra c.P ρ) (hb : c.bt = ρ.t 72) (hu : c.ut = ρ.t 5) (s : List UInt8) :
    Sim c (ρ.f 169) [.bp 0] [.bl s] [.d (.s s)] [.bl s] := by
  refine bl_sim (y := .string ⟨s.toArray⟩) ⟨_, F, rfl, rfl⟩ (fun η w => by simp only [pack, RV]; exact .s _) fun w b p v xs η hin hx => ?_
  simp only [RVs] at hx
  subst hx
  rw [hb, hu] at hin ⊢
  exact run_string L F X w b s p v hin

theorem sim_len {c : Cfg T} {ρ : Ren} (L : BlP c.P ρ) (F : c.P.funcs[ρ.f 170]? = some (Body.n170 ρ)) (hb : c.bt = ρ.t 72) (hu : c.ut = ρ.t 5) (s : List UInt8) :
    Sim c (ρ.f 170) [.bp 0] [.bl s] [.d (.i .i64 s.length)] [.bl s] := by
  refine bl_sim (y := .int .i64 s.length) ⟨_, F, rfl, rfl⟩ (fun η w => by simp only [pack, RV]; exact .i _ _) fun w b p v xs η hin hx => ?_
  simp only [RVs] at hx
  subst hx
  rw [hb, hu] at hin ⊢
  refine (run_len L F w b s p v hin).mono ?_
  rintro e w' ⟨rfl, rfl⟩
  exact ⟨rfl, p, v, hin, Nat.le_refl _, Rest.refl _, fun _ _ _ _ => rfl, fun _ h => .inl h⟩

end Go.Ev
