/- A part of the evaluator of Go code over small heaps and of its proof: no condition beyond those that each theorem names. -/
import Derived.Test.YtgoglplnajofnaaGreatDoorEvLem
set_option linter.unusedVariables false
namespace Go.Ev
variable {T : TypeId → Type}

structure New (R : Rc T) (η η' : Eta) (n : Nat) (os : List (Obj T)) (w w' : World) : Prop where
  size : w.heap.size ≤ w'.heap.size
  same : ∀ b, b < w.heap.size → w'.heap[b]? = w.heap[b]?
  keep : ∀ id, ¬ (n ≤ id ∧ id < n + os.length) → η' id = η id
  obj : ∀ k o r, os[k]? = some o → η' (n + k) = some r → relObj R η' w' o r
  new : ∀ k r b, k < os.length → η' (n + k) = some r → r.has b → w.heap.size ≤ b ∧ b < w'.heap.size
  inj : ∀ k k' r r' b, k < os.length → k' < os.length → η' (n + k) = some r → η' (n + k') = some r' → r.has b → r'.has b → k = k'
  far : η'.far = η.far
  df : η'.df = η.df
  rest : Rest w w'

def Fresh (η : Eta) (n m : Nat) : Prop := ∀ id, n ≤ id → id < n + m → η id = none

theorem New.nil {R : Rc T} {η : Eta} {n : Nat} {w w' : World} (h : w'.heap = w.heap) (hr : Rest w w') : New R η η n [] w w' where
  size := by rw [h]; exact Nat.le_refl _
  same := fun b _ => by rw [h]
  keep := fun _ _ => rfl
  obj := fun k o r h => by simp at h
  new := fun k r b h => by simp at h
  inj := fun k k' r r' b h => by simp at h
  far := rfl
  df := rfl
  rest := hr

def put1 (η : Eta) (n : Nat) (r : RO) : Eta := ⟨fun id => if id = n then some r else η id, η.far, η.df⟩

theorem put1_eq (η : Eta) (n : Nat) (r : RO) (id : Nat) : (put1 η n r).m id = if id = n then some r else η.m id := rfl

theorem New.evo {R : Rc T} {η η' : Eta} {n : Nat} {os : List (Obj T)} {w w' : World} (h : New R η η' n os w w') : Evo η η' w w' where
  size := h.size
  same := fun b hb _ => h.same b hb
  own := fun b hb ⟨id, r, hr, hh⟩ => by
    by_cases hid : n ≤ id ∧ id < n + os.length
    · have := h.new (id - n) r b (by omega) (by rw [show n + (id - n) = id by omega]; exact hr) hh
      omega
    · exact ⟨id, r, by rw [← h.keep id hid]; exact hr, hh⟩
  far := h.far
  df := h.df
  rest := h.rest

theorem New.keeps {R : Rc T} {η η' : Eta} {n : Nat} {os : List (Obj T)} {w w' : World} (h : New R η η' n os w w') (hf : Fresh η n os.length) : Keeps η η' := by
  intro id r hr
  left
  by_cases hid : n ≤ id ∧ id < n + os.length
  · rw [hf id hid.1 hid.2] at hr; cases hr
  · rw [h.keep id hid]; exact hr

theorem relObj.mono {R : Rc T} {η η' : Eta} {w w' : World} {o : Obj T} {r : RO} (h : relObj R η w o r) (he : Evo η η' w w') (hk : Keeps η η')
    (hs : ∀ b, r.has b → w'.heap[b]? = w.heap[b]?) : relObj R η' w' o r := by
  cases o with
  | dead => exact h
  | box cs =>
    obtain ⟨b, ce, e, rfl, h1, h2⟩ := h
    exact ⟨b, ce, e, rfl, by rw [hs b rfl]; exact h1, RVs.mono he hk _ _ h2⟩
  | arr t xs =>
    obtain ⟨root, cap, rfl, h⟩ := h
    refine ⟨root, cap, rfl, ?_⟩
    cases root with
    | none => exact h
    | some p =>
      obtain ⟨b, o⟩ := p
      obtain ⟨ce, e, fr, h1, h2, h3, h4, h5⟩ := h
      exact ⟨ce, e, fr, by rw [hs b rfl]; exact h1, h2, h3, h4, h5.mono he.size he.ok (hs b rfl)⟩
  | mp kk vt es =>
    obtain ⟨b, ms, cl, rfl, h1, h2⟩ := h
    exact ⟨b, ms, cl, rfl, by rw [hs b rfl]; exact h1, RMap.mono he hk _ _ h2⟩
  | bl s =>
    obtain ⟨b, g, p, v, rfl, h1, h2, h3, h4, h5⟩ := h
    exact ⟨b, g, p, v, rfl, by rw [hs b (.inl rfl)]; exact h1, h2, ownsRowF_same h3 fun g' hg' => hs g' (.inr (h4 ▸ hg')), h4, h5⟩
  | unk => trivial

theorem New.relH {R : Rc T} {η η' : Eta} {H os : List (Obj T)} {w w' : World} (h : New R η η' H.length os w w') (hf : Fresh η H.length os.length) (hH : RelH R η H w) :
    RelH R η' (H ++ os) w' where
  obj := fun id r o hr ho => by
    by_cases hid : H.length ≤ id ∧ id < H.length + os.length
    · rw [List.getElem?_append_right hid.1] at ho
      exact h.obj _ o r ho (by rw [show H.length + (id - H.length) = id by omega]; exact hr)
    · rw [h.keep id hid] at hr
      have hlt : id < H.length := by
        rcases Nat.lt_or_ge id H.length with h1 | h1
        · exact h1
        · rw [List.getElem?_eq_none (by simp; omega)] at ho; cases ho
      rw [List.getElem?_append_left hlt] at ho
      exact (hH.obj id r o hr ho).mono h.evo (h.keeps hf) fun b hb => h.same b (hH.lt id r b hr hb)
  lt := fun id r b hr hb => by
    by_cases hid : H.length ≤ id ∧ id < H.length + os.length
    · exact (h.new (id - H.length) r b (by omega) (by rw [show H.length + (id - H.length) = id by omega]; exact hr) hb).2
    · rw [h.keep id hid] at hr
      exact Nat.lt_of_lt_of_le (hH.lt id r b hr hb) h.size
  inj := fun id id' r r' b hr hr' hb hb' => by
    by_cases hid : H.length ≤ id ∧ id < H.length + os.length
    · have h1 := h.new (id - H.length) r b (by omega) (by rw [show H.length + (id - H.length) = id by omega]; exact hr) hb
      by_cases hid' : H.length ≤ id' ∧ id' < H.length + os.length
      · have := h.inj (id - H.length) (id' - H.length) r r' b (by omega) (by omega) (by rw [show H.length + (id - H.length) = id by omega]; exact hr)
          (by rw [show H.length + (id' - H.length) = id' by omega]; exact hr') hb hb'
        omega
      · rw [h.keep id' hid'] at hr'
        have := hH.lt id' r' b hr' hb'
        omega
    · rw [h.keep id hid] at hr
      have h1 := hH.lt id r b hr hb
      by_cases hid' : H.length ≤ id' ∧ id' < H.length + os.length
      · have := h.new (id' - H.length) r' b (by omega) (by rw [show H.length + (id' - H.length) = id' by omega]; exact hr') hb'
        omega
      · rw [h.keep id' hid'] at hr'
        exact hH.inj id id' r r' b hr hr' hb hb'
  nf := fun id r b hr hb => by
    rw [h.far]
    by_cases hid : H.length ≤ id ∧ id < H.length + os.length
    · intro hfar
      have := h.new (id - H.length) r b (by omega) (by rw [show H.length + (id - H.length) = id by omega]; exact hr) hb
      have := hH.fl b hfar
      omega
    · rw [h.keep id hid] at hr; exact hH.nf id r b hr hb
  fl := fun b hb => by rw [h.far] at hb; exact Nat.lt_of_lt_of_le (hH.fl b hb) h.size
  old := hH.oldEvo h.evo

theorem Rest.push {w w' : World} {ce : Array Value} {e : TypeId} (hh : w'.heap = w.heap.push (.cells ce e)) (ho : w'.os = w.os) (ht : w'.tape = w.tape) (hu : w'.output = w.output) : Rest w w' := by
  exact ⟨ho, ht, hu⟩

/-- One new object, in a new block. -/
theorem New.one {R : Rc T} {η : Eta} {n : Nat} {w w' : World} {ob : Go.Obj} {o : Obj T} {r : RO} (hf : Fresh η n 1) (hw : w'.heap = w.heap.push ob) (hrest : Rest w w')
    (hb : ∀ b, r.has b → b = w.heap.size) (hrel : Evo η (put1 η n r) w w' → Keeps η (put1 η n r) → relObj R (put1 η n r) w' o r) : New R η (put1 η n r) n [o] w w' := by
  have hsize : w'.heap.size = w.heap.size + 1 := by rw [hw]; simp
  have hsame : ∀ b, b < w.heap.size → w'.heap[b]? = w.heap[b]? := fun b hlt => by
    rw [hw, Array.getElem?_push]; simp [Nat.ne_of_lt hlt]
  have hk : Keeps η (put1 η n r) := fun id r' hr => by
    left; rw [put1_eq]; split
    · rename_i h; subst h; rw [hf id (Nat.le_refl _) (by omega)] at hr; cases hr
    · exact hr
  have he : Evo η (put1 η n r) w w' := ⟨by omega, fun b hb _ => hsame b hb, fun b hlt ⟨id, r', hr', hh⟩ => by
    rw [put1_eq] at hr'; split at hr'
    · cases hr'; have := hb b hh; omega
    · exact ⟨id, r', hr', hh⟩, rfl, rfl, hrest⟩
  refine ⟨by omega, hsame, ?_, ?_, ?_, ?_, rfl, rfl, hrest⟩
  · intro id hid
    rw [put1_eq]; rw [if_neg (by simp at hid; omega)]
  · intro k o' r' ho hr'
    cases k with
    | zero => simp at ho; subst ho; simp [put1] at hr'; subst hr'; exact hrel he hk
    | succ k => simp at ho
  · intro k r' b hk' hr' hh
    have : k = 0 := by simpa using hk'
    subst this
    simp [put1] at hr'; subst hr'
    have := hb b hh; omega
  · intro k k' _ _ _ hk1 hk2 _ _ _ _
    simp at hk1 hk2; omega

def ValOk (c : Cfg T) (η : Eta) (n : Nat) (w : World) (os : List (Obj T)) (v : V T) (res : Result Next) : Prop :=
  ∃ x w' η', (res = .ok (.value x) w' ∨ (res = .ok .skip w' ∧ x = undef)) ∧ RV (rc c) η' w' v x ∧ New (rc c) η η' n os w w'

theorem ValOk.pure {c : Cfg T} {η : Eta} {n : Nat} {w : World} {v : V T} {res : Result Next} {x : Value} (h : res = .ok (.value x) w) (hv : RV (rc c) η w v x) :
    ValOk c η n w [] v res := ⟨x, w, η, .inl h, hv, .nil rfl (Rest.refl w)⟩

/-- A new variable of so many cells. -/
theorem ValOk.box {c : Cfg T} {η : Eta} {n : Nat} {w : World} {cs : List (V T)} {ce : Array Value} {e : TypeId} {res : Result Next} (hf : Fresh η n 1)
    (hrun : res = .ok (.value (.pointer (some (at_ w.heap.size 0)))) { w with heap := w.heap.push (.cells ce e) }) (h : RVs (rc c) η w cs ce.toList) :
    ValOk c η n w [.box cs] (.ptr n 0) res := by
  refine ⟨_, _, put1 η n (.box w.heap.size), .inl hrun, ?_, New.one hf rfl (Rest.push rfl rfl rfl rfl) (fun b hb => hb) fun he hk => ?_⟩
  · simp only [RV]
    exact ⟨_, _, by simp [put1], rfl, .inr ⟨_, rfl, rfl⟩⟩
  · exact ⟨_, ce, e, rfl, by simp, RVs.mono he hk _ _ h⟩

theorem cV1_ok {c : Cfg T} {η : Eta} {w : World} (v : Value) : RV (rc c) η w (cV1 v) v := by
  unfold cV1
  cases hd : (cD v : Option (D T)) with
  | some x =>
    simp only [RV]
    unfold cD at hd
    split at hd <;> simp at hd <;> subst hd
    · exact .b _
    · exact .i _ _
    · rename_i s; exact .s s.data.toList
    · exact .ns
    · exact .ni
  | none =>
    simp only
    split
    · simp only [RV]
    · simp only [RV]

theorem map_cV1_ok {c : Cfg T} {η : Eta} {w : World} : ∀ (vs : List Value), RVs (rc c) η w (vs.map cV1) vs
  | [] => by simp [RVs]
  | v :: vs => by simp only [List.map_cons, RVs]; exact ⟨v, vs, rfl, cV1_ok v, map_cV1_ok vs⟩

theorem cV_ok {c : Cfg T} {η : Eta} {w : World} (v : Value) : RV (rc c) η w (cV v) v := by
  unfold cV
  split
  · rename_i cs
    simp only [RV]
    exact ⟨cs.toList, by simp, map_cV1_ok _⟩
  · exact cV1_ok _

theorem zeroCells_ok {c : Cfg T} {η : Eta} {w : World} {t : TypeId} {cs : List (V T)} (h : zeroCells c.P t = some cs) :
    ∃ z, (∀ w0, (zeroValue t).run c.P w0 = .ok z w0) ∧ RVs (rc c) η w cs z.cells.toList := by
  unfold zeroCells at h
  split at h
  · rename_i i hi
    split at h
    · rename_i v hv
      simp at h; subst h
      exact ⟨v, fun w0 => run_zero hi hv w0, map_cV1_ok _⟩
    · cases h
  · cases h

theorem op_newBl {c : Cfg T} {η : Eta} {n : Nat} {w : World} {a : Act} {dst : Option Tmp} {t ty : TypeId} {pos : String} {after : Array Edge} {g : Option (Nat × Bool)}
    (hf : Fresh η n 1) (h : newBl c t = true) : ValOk c η n w [.bl []] (.bp n) ((execOp a.eval ⟨dst, .alloc t, ty, pos, after, g⟩).run c.P w) := by
  unfold newBl at h
  rw [Bool.and_eq_true] at h
  obtain ⟨h1, h2⟩ := h
  have ht : t = c.bt := by simpa using h1
  split at h2
  · rename_i i hi
    split at h2
    · rename_i v hv
      have hb : v = .agg #[.pointer none, .slice none 0 0] := by
        unfold blank at h2
        split at h2
        · split at h2
          · rename_i cs _ hcs
            congr 1
            exact Array.toList_inj.1 hcs
          · cases h2
        · cases h2
      have hz := run_zero (P := c.P) hi hv
      have hrun : (execOp a.eval ⟨dst, .alloc t, ty, pos, after, g⟩).run c.P w = .ok (.value (.pointer (some (at_ w.heap.size 0)))) { w with heap := w.heap.push (.cells #[.pointer none, .slice none 0 0] c.bt) } := by
        subst ht; subst hb
        simp [execOp, Instr.alloc, hz, newVar, newRow, at_, Value.cells]
      refine ⟨_, _, put1 η n (.bl w.heap.size none), .inl hrun, ?_, New.one hf rfl (Rest.push rfl rfl rfl rfl) (fun b hb => ?_) fun he hk => ?_⟩
      · simp only [RV]
        exact ⟨_, _, by simp [put1], rfl, .inr ⟨_, none, rfl, rfl⟩⟩
      · rcases hb with h | h
        · exact h
        · cases h
      · exact ⟨w.heap.size, none, .pointer none, .slice none 0 0, rfl, by simp [rc], .inl rfl, ⟨rfl, .inl ⟨rfl, rfl⟩⟩, rfl, by simp⟩
    · cases h2
  · cases h2

theorem op_alloc {c : Cfg T} {η : Eta} {n : Nat} {w : World} {a : Act} {dst : Option Tmp} {t ty : TypeId} {pos : String} {after : Array Edge} {g : Option (Nat × Bool)} {cs : List (V T)}
    (hf : Fresh η n 1) (h : zeroCells c.P t = some cs) : ValOk c η n w [.box cs] (.ptr n 0) ((execOp a.eval ⟨dst, .alloc t, ty, pos, after, g⟩).run c.P w) := by
  obtain ⟨z, hz, hr⟩ := zeroCells_ok (η := η) (w := w) h
  exact ValOk.box hf (by simp [execOp, Instr.alloc, hz, newVar, newRow, at_]; rfl) hr

theorem V.cells_ok {R : Rc T} {η : Eta} {w : World} {v : V T} {x : Value} (h : RV R η w v x) (hk : oneV v = true ∨ ∃ cs, v = .agg cs) : RVs R η w v.cells x.cells.toList ∧ (oneV v = true → x.oneCell' = true) := by
  rcases hk with hk | ⟨cs, rfl⟩
  · cases v <;> simp only [oneV, Bool.false_eq_true] at hk <;> simp only [V.cells, RVs]
    case d x' =>
      simp only [RV] at h
      cases h <;> exact ⟨⟨_, [], rfl, by simp only [RV]; first | exact .b _ | exact .i _ _ | exact .s _ | exact .ns | exact .ni | exact .io _ _ | exact .ie0 | exact .ie1 _ _ | exact .nil _ _ _ | (exact .l _ _ _ _ _ _ (by assumption) (by assumption) (by assumption) (by assumption) (by assumption)), rfl⟩, fun _ => rfl⟩
    case ptr id off => 
      have h' := h
      simp only [RV] at h; obtain ⟨r, b, h1, rfl, h3⟩ := h
      exact ⟨⟨_, [], rfl, h', rfl⟩, fun _ => rfl⟩
    case pv =>
      have h' := h
      simp only [RV] at h; obtain ⟨x', rfl, h3⟩ := h
      exact ⟨⟨_, [], rfl, h', rfl⟩, fun _ => rfl⟩
    case aptr => 
      have h' := h
      simp only [RV] at h; obtain ⟨r, b, h1, rfl, h3⟩ := h
      exact ⟨⟨_, [], rfl, h', rfl⟩, fun _ => rfl⟩
    case eptr => 
      have h' := h
      simp only [RV] at h; obtain ⟨r, b, h1, rfl, h3⟩ := h
      exact ⟨⟨_, [], rfl, h', rfl⟩, fun _ => rfl⟩
    case dptr => 
      have h' := h
      simp only [RV] at h; obtain ⟨b, o, _, _, _, _, rfl⟩ := h
      exact ⟨⟨_, [], rfl, h', rfl⟩, fun _ => rfl⟩
    case sl id rng =>
      have h' := h
      cases rng with
      | none => simp only [RV] at h; obtain ⟨r, b, n, cc, h1, rfl, h3⟩ := h; exact ⟨⟨_, [], rfl, h', rfl⟩, fun _ => rfl⟩
      | some p => obtain ⟨o, l⟩ := p; simp only [RV] at h; obtain ⟨r, b, cc, h1, rfl, h3⟩ := h; exact ⟨⟨_, [], rfl, h', rfl⟩, fun _ => rfl⟩
    case mp => 
      have h' := h
      simp only [RV] at h; obtain ⟨r, b, h1, rfl, h3⟩ := h
      exact ⟨⟨_, [], rfl, h', rfl⟩, fun _ => rfl⟩
    case bp => 
      have h' := h
      simp only [RV] at h; obtain ⟨r, b, h1, rfl, h3⟩ := h
      exact ⟨⟨_, [], rfl, h', rfl⟩, fun _ => rfl⟩
    case gp => 
      have h' := h
      simp only [RV] at h; subst h
      exact ⟨⟨_, [], rfl, h', rfl⟩, fun _ => rfl⟩
    case fn => 
      have h' := h
      simp only [RV] at h; obtain ⟨xs, rfl, h3⟩ := h
      exact ⟨⟨_, [], rfl, h', rfl⟩, fun _ => rfl⟩
    case np => 
      have h' := h
      simp only [RV] at h; subst h
      exact ⟨⟨_, [], rfl, h', rfl⟩, fun _ => rfl⟩
  · simp only [RV] at h
    obtain ⟨xs, rfl, h⟩ := h
    exact ⟨by simpa [V.cells, Value.cells] using h, fun h => by simp [oneV] at h⟩

theorem op_box {c : Cfg T} {η : Eta} {n : Nat} {w : World} {a : Act} {dst : Option Tmp} {t ty : TypeId} {x : Operand} {pos : String} {after : Array Edge} {g : Option (Nat × Bool)} {v : V T}
    (hf : Fresh η n 1) (hx : RV (rc c) η w v (a.eval x)) (hk : oneV v = true ∨ ∃ cs, v = .agg cs) :
    ValOk c η n w [.box v.cells] (.ptr n 0) ((execOp a.eval ⟨dst, .box t x, ty, pos, after, g⟩).run c.P w) :=
  ValOk.box hf (by simp [execOp, Instr.box, newVar, newRow, at_]; rfl) (V.cells_ok hx hk).1

end Go.Ev
