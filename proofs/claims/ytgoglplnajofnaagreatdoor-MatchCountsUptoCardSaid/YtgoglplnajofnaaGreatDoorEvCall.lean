/- A part of the evaluator of Go code over small heaps and of its proof: no condition beyond those that each theorem names. -/
import Derived.Test.YtgoglplnajofnaaGreatDoorEvConv
set_option linter.unusedVariables false
set_option linter.unusedSimpArgs false
set_option linter.constructorNameAsVariable false
namespace Go.Ev
variable {T : TypeId → Type}

/-- How a call ends: it returns, or it panics. -/
def endOf (b : Bool) (v : Value) : Ending := match b with
  | true => .panicked [{ v := v, recovered := false }]
  | false => .returned v

/-- What a function comes to, from a small heap that holds just what it is handed. -/
def SimB (b : Bool) (c : Cfg T) (f : FuncId) (args : List (V T)) (h : List (Obj T)) (res : List (V T)) (h' : List (Obj T)) : Prop :=
  (∃ fn, c.P.funcs[f]? = some fn ∧ (fn.name == "runtime.NumGoroutine") = false ∧ fn.body.isNone = false) ∧ h.length ≤ h'.length ∧
  ∀ (η : Eta) (w : World) (xs : List Value), RelH (rc c) η h w → (∀ id, h.length ≤ id → η id = none) → RVs (rc c) η w args xs →
    Calls c.P f xs.toArray w fun e w' => ∃ v η', e = endOf b v ∧ RV (rc c) η' w' (pack res) v ∧ Evo η η' w w' ∧ Keeps η η' ∧ RelH (rc c) η' h' w' ∧ (∀ id, h'.length ≤ id → η' id = none)

abbrev Sim (c : Cfg T) (f : FuncId) (args : List (V T)) (h : List (Obj T)) (res : List (V T)) (h' : List (Obj T)) : Prop := SimB false c f args h res h'

/-- A small heap of which nothing is known. -/
def unks (h : List (Obj T)) : List (Obj T) := h.map fun _ => .unk

def SimP (c : Cfg T) (f : FuncId) (args : List (V T)) (h : List (Obj T)) (v : V T) : Prop := (∃ t ds, v = .pv t ds) ∧ SimB true c f args h [v] (unks h)

def CfOk (c : Cfg T) : Prop := ∀ f args h e x, c.cf f args h = some e → e.val = some x → (e.pan x = false → Sim c f args h (e.enc x).1 (e.enc x).2) ∧ (e.pan x = true → SimP c f args h (e.penc x))

theorem VD.flat {R : Rc T} {ok ok' : Nat → Prop} {w : World} {x : D T} {v : Value} (h : VD R ok w x v) (hf : flatV (V.d x) = true) : VD R ok' w x v := by
  cases h <;> first | exact .b _ | exact .i _ _ | exact .s _ | exact .ns | exact .ni | exact .io _ _ | exact .ie0 | exact .ie1 _ _ | (simp [flatV] at hf)

theorem ren1 {α : Type} {η η' : Eta} {m : Nat → Option Nat} (hm : ∀ id k r, m id = some k → η id = some r → η' k = some r) {id k : Nat} (hk : m id = some k) {V : α → Prop} {P : RO → α → Prop}
    (hP : ∃ r a, η id = some r ∧ V a ∧ (r = .dead ∨ P r a)) : ∃ r a, η' k = some r ∧ V a ∧ (r = .dead ∨ P r a) := by
  obtain ⟨r, a, hr, h⟩ := hP; exact ⟨r, a, hm id k r hk hr, h⟩

mutual
theorem RV.ren {R : Rc T} {η η' : Eta} {w : World} {m : Nat → Option Nat} (hm : ∀ id k r, m id = some k → η id = some r → η' k = some r) :
    ∀ (v : V T) (x : Value), ((∀ b, isOk η b → b < w.heap.size → isOk η' b) ∨ flatV v = true) → RV R η w v x → RV R η' w (ren m v) x
  | .u, _, _, _ => by simp only [Ev.ren, RV]
  | .gd _ _ _, _, _, _ => by simp only [Ev.ren, RV]
  | .d x, v, hok, h => by
    simp only [Ev.ren, RV] at h ⊢
    rcases hok with hok | hok
    · exact h.mono (Nat.le_refl _) fun b hb hlt => ⟨hok b hb hlt, rfl⟩
    · exact h.flat hok
  | .agg cs, v, hok, h => by
    simp only [Ev.ren, RV] at h ⊢
    obtain ⟨xs, rfl, h⟩ := h
    exact ⟨xs, rfl, RVs.ren hm cs xs (hok.imp id (by simp only [flatV]; exact id)) h⟩
  | .tup cs, v, hok, h => by
    simp only [Ev.ren, RV] at h ⊢
    obtain ⟨xs, rfl, h⟩ := h
    exact ⟨xs, rfl, RVs.ren hm cs xs (hok.imp id (by simp only [flatV]; exact id)) h⟩
  | .ptr id off, v, hok, h => by
    unfold Ev.ren
    cases hk : m id with
    | none => simp only [RV]
    | some k =>
      simp only [RV] at h ⊢
      obtain ⟨r, a, hr, h⟩ := h; exact ⟨r, a, hm id k r hk hr, h⟩
  | .aptr id base t n ix off, v, hok, h => by
    unfold Ev.ren
    cases hk : m id with
    | none => simp only [RV]
    | some k =>
      simp only [RV] at h ⊢
      obtain ⟨r, a, hr, h⟩ := h; exact ⟨r, a, hm id k r hk hr, h⟩
  | .eptr id ix off, v, hok, h => by
    unfold Ev.ren
    cases hk : m id with
    | none => simp only [RV]
    | some k =>
      simp only [RV] at h ⊢
      obtain ⟨r, a, hr, h⟩ := h; exact ⟨r, a, hm id k r hk hr, h⟩
  | .dptr t xs ix off, v, hok, h => by
    rcases hok with hok | hok
    · simp only [Ev.ren, RV] at h ⊢
      obtain ⟨b, o, h1, h2, h3, h4, h5⟩ := h
      exact ⟨b, o, hok b h1 h2, h2, h3, h4.mono (Nat.le_refl _) (fun b hb hlt => ⟨hok b hb hlt, rfl⟩) rfl, h5⟩
    · simp [flatV] at hok
  | .sl id none, v, hok, h => by
    unfold Ev.ren
    cases hk : m id with
    | none => simp only [RV]
    | some k =>
      simp only [RV] at h ⊢
      obtain ⟨r, a, n, c, hr, h⟩ := h; exact ⟨r, a, n, c, hm id k r hk hr, h⟩
  | .sl id (some (o, l)), v, hok, h => by
    unfold Ev.ren
    cases hk : m id with
    | none => simp only [RV]
    | some k =>
      simp only [RV] at h ⊢
      obtain ⟨r, a, c, hr, h⟩ := h; exact ⟨r, a, c, hm id k r hk hr, h⟩
  | .mp id, v, hok, h => by
    unfold Ev.ren
    cases hk : m id with
    | none => simp only [RV]
    | some k =>
      simp only [RV] at h ⊢
      obtain ⟨r, a, hr, h⟩ := h; exact ⟨r, a, hm id k r hk hr, h⟩
  | .bp id, v, hok, h => by
    unfold Ev.ren
    cases hk : m id with
    | none => simp only [RV]
    | some k =>
      simp only [RV] at h ⊢
      obtain ⟨r, a, hr, h⟩ := h; exact ⟨r, a, hm id k r hk hr, h⟩
  | .gp g off, v, hok, h => by simpa only [Ev.ren, RV] using h
  | .fn f caps, v, hok, h => by
    simp only [Ev.ren, RV] at h ⊢
    obtain ⟨xs, rfl, h⟩ := h
    exact ⟨xs, rfl, RVs.ren hm caps xs (hok.imp id (by simp only [flatV]; exact id)) h⟩
  | .np, v, hok, h => by simpa only [Ev.ren, RV] using h
  | .pv _ _, v, hok, h => by simpa only [Ev.ren, RV] using h
theorem RVs.ren {R : Rc T} {η η' : Eta} {w : World} {m : Nat → Option Nat} (hm : ∀ id k r, m id = some k → η id = some r → η' k = some r) :
    ∀ (vs : List (V T)) (xs : List Value), ((∀ b, isOk η b → b < w.heap.size → isOk η' b) ∨ flatL vs = true) → RVs R η w vs xs → RVs R η' w (renL m vs) xs
  | [], xs, hok, h => by simpa only [renL, RVs] using h
  | v :: vs, xs, hok, h => by
    simp only [renL, RVs] at h ⊢
    obtain ⟨x, xs', rfl, h1, h2⟩ := h
    simp only [flatL, Bool.and_eq_true] at hok
    exact ⟨x, xs', rfl, RV.ren hm v x (hok.imp id (·.1)) h1, RVs.ren hm vs xs' (hok.imp id (·.2)) h2⟩
end

theorem Arr.flat {c : Cfg T} {ok ok' : Nat → Prop} {w : World} {t : TypeId} {xs : List (T t)} {b o : Nat} (h : Arr (rc c) ok w t xs b o)
    (hf : ∀ x d, d ∈ c.cod.enc t x → flatV (V.d d) = true) : Arr (rc c) ok' w t xs b o := by
  intro i j hi d hd
  obtain ⟨v, h1, h2⟩ := h i j hi d hd
  exact ⟨v, h1, h2.flat (hf _ d (List.mem_of_getElem? hd))⟩

/-- Types without slices: their values are read without. -/
def FlatOk (c : Cfg T) : Prop := ∀ t, flatT c.P 20 t = true → c.cod.kn t = true → ∀ x d, d ∈ c.cod.enc t x → flatV (V.d d) = true

theorem renL_ds (m : Nat → Option Nat) : ∀ (ds : List (D T)), renL m (ds.map V.d) = ds.map V.d
  | [] => rfl
  | d :: ds => by simp only [List.map_cons, renL, Ev.ren, renL_ds m ds]

theorem ren_valOf (m : Nat → Option Nat) (ag : Bool) (ds : List (D T)) : Ev.ren m (valOf ag ds) = valOf ag ds := by
  unfold valOf
  split
  · simp only [Ev.ren, renL_ds]
  · rfl
  · rfl

theorem RMap.ren {R : Rc T} {η η' : Eta} {w : World} (hok : ∀ b, isOk η b → b < w.heap.size → isOk η' b) {kk : Option IntKind} {vt : TypeId} : ∀ (es : List (KTy kk × T vt)) (ms : List MapEntry), RMap R η w kk vt es ms → RMap R η' w kk vt es ms
  | [], _, h => h
  | e :: es, ms, h => by
    obtain ⟨m, ms', h1, h2, h3, h4⟩ := h
    refine ⟨m, ms', h1, h2, ?_, RMap.ren hok es ms' h4⟩
    have := RV.ren (m := fun _ => none) (η' := η') (fun _ _ _ h => by cases h) _ _ (.inl hok) h3
    rwa [ren_valOf] at this

theorem relObj.ren {c : Cfg T} {η η' : Eta} {w : World} {m : Nat → Option Nat} (hm : ∀ id k r, m id = some k → η id = some r → η' k = some r)
    (hfl : FlatOk c) {o : Obj T} {r : RO}
    (hok : (∀ b, isOk η b → b < w.heap.size → isOk η' b) ∨ flatO c o = true) (h : relObj (rc c) η w o r) : relObj (rc c) η' w (renO m o) r := by
  cases o with
  | dead => exact h
  | box cs =>
    obtain ⟨b, ce, e, rfl, h1, h2⟩ := h
    exact ⟨b, ce, e, rfl, h1, RVs.ren hm _ _ hok h2⟩
  | arr t xs =>
    obtain ⟨root, cap, rfl, h⟩ := h
    refine ⟨root, cap, rfl, ?_⟩
    cases root with
    | none => exact h
    | some p =>
      obtain ⟨b, o⟩ := p
      obtain ⟨ce, e, fr, h1, h2, h3, h4, h5⟩ := h
      refine ⟨ce, e, fr, h1, h2, h3, h4, ?_⟩
      rcases hok with hok | hok
      · exact h5.mono (Nat.le_refl _) (fun b hb hlt => ⟨hok b hb hlt, rfl⟩) rfl
      · simp only [flatO, Bool.and_eq_true] at hok
        exact h5.flat (hfl t hok.1 hok.2)
  | mp kk vt es =>
    obtain ⟨b, ms, cl, rfl, h1, h2⟩ := h
    rcases hok with hok | hok
    · exact ⟨b, ms, cl, rfl, h1, RMap.ren hok _ _ h2⟩
    · cases hok
  | bl => exact h
  | unk => trivial

theorem once_nodup : ∀ (l acc : List Nat), acc.Nodup → (once l acc).Nodup
  | [], acc, h => h
  | x :: xs, acc, h => by
    unfold once
    refine once_nodup xs _ ?_
    cases hx : acc.any (·.beq x) with
    | true => simpa using h
    | false =>
      simp only [cond_false]
      rw [List.nodup_append]
      refine ⟨h, by simp, ?_⟩
      intro a ha b hb
      simp at hb; subst hb
      intro hab; subst hab
      have : acc.any (·.beq a) = true := List.any_eq_true.2 ⟨a, ha, by simp⟩
      rw [hx] at this; cases this

theorem reach_nodup (H : List (Obj T)) : ∀ (n : Nat) (l : List Nat), l.Nodup → (reach H n l).Nodup
  | 0, _, h => h
  | n + 1, l, h => by unfold reach; exact reach_nodup H n _ (once_nodup _ _ h)

theorem placeOf_go : ∀ (l : List Nat) (k id : Nat), (∀ j, placeOf.go id l k = some j → k ≤ j ∧ l[j - k]? = some id) ∧ (l.Nodup → ∀ j, l[j]? = some id → placeOf.go id l k = some (k + j)) ∧ (placeOf.go id l k = none → id ∉ l)
  | [], k, id => ⟨fun j h => by simp [placeOf.go] at h, fun _ j h => by simp at h, fun _ h => by simp at h⟩
  | x :: xs, k, id => by
    obtain ⟨h1, h2, h3⟩ := placeOf_go xs (k + 1) id
    unfold placeOf.go
    cases hx : x.beq id with
    | true =>
      have hx' := Nat.eq_of_beq_eq_true hx
      subst hx'
      refine ⟨fun j h => ?_, fun hn j h => ?_, fun h => by simp at h⟩
      · simp at h; subst h; simp
      · cases j with
        | zero => simp
        | succ j =>
          simp at h
          rw [List.nodup_cons] at hn
          exact absurd (List.mem_of_getElem? h) hn.1
    | false =>
      have hne : x ≠ id := fun h => by subst h; simp at hx
      simp only [cond_false]
      refine ⟨fun j h => ?_, fun hn j h => ?_, fun h => ?_⟩
      · obtain ⟨h4, h5⟩ := h1 j h
        refine ⟨by omega, ?_⟩
        rw [show j - k = (j - (k + 1)) + 1 by omega]
        simpa using h5
      · cases j with
        | zero => simp at h; exact absurd h hne
        | succ j =>
          rw [List.nodup_cons] at hn
          rw [h2 hn.2 j (by simpa using h)]
          congr 1; omega
      · have := h3 h
        simp [Ne.symm hne, this]

theorem placeOf_some {l : List Nat} {id j : Nat} (h : placeOf l id = some j) : l[j]? = some id := by
  have := (placeOf_go l 0 id).1 j h
  simpa using this.2

theorem placeOf_get {l : List Nat} (hn : l.Nodup) {id j : Nat} (h : l[j]? = some id) : placeOf l id = some j := by
  have := (placeOf_go l 0 id).2.1 hn j h
  simpa [placeOf] using this

theorem placeOf_none {l : List Nat} {id : Nat} (h : placeOf l id = none) : id ∉ l := (placeOf_go l 0 id).2.2 h

theorem putBack_length : ∀ (l : List Nat) (os H : List (Obj T)), (putBack H l os).length = H.length
  | [], os, H => by unfold putBack; rfl
  | k :: ks, [], H => rfl
  | k :: ks, o :: os, H => by unfold putBack; rw [putBack_length ks os]; simp

theorem putBack_other : ∀ (l : List Nat) (os H : List (Obj T)) (k : Nat), k ∉ l → (putBack H l os)[k]? = H[k]?
  | [], os, H, k, _ => by unfold putBack; rfl
  | x :: ks, [], H, k, _ => rfl
  | x :: ks, o :: os, H, k, h => by
    unfold putBack
    simp at h
    rw [putBack_other ks os _ k h.2, List.getElem?_set_ne (Ne.symm h.1)]

theorem putBack_at : ∀ (l : List Nat) (os H : List (Obj T)) (j k : Nat) (o : Obj T), l.Nodup → l[j]? = some k → os[j]? = some o → k < H.length → (putBack H l os)[k]? = some o
  | [], os, H, j, k, o, _, h, _, _ => by simp at h
  | x :: ks, [], H, j, k, o, _, _, h, _ => by simp at h
  | x :: ks, o' :: os, H, 0, k, o, hn, h, h', hk => by
    simp at h h'; subst h; subst h'
    unfold putBack
    rw [List.nodup_cons] at hn
    rw [putBack_other ks os _ x hn.1, List.getElem?_set_self hk]
  | x :: ks, o' :: os, H, j + 1, k, o, hn, h, h', hk => by
    unfold putBack
    rw [List.nodup_cons] at hn
    exact putBack_at ks os _ j k o hn.2 (by simpa using h) (by simpa using h') (by simpa using hk)

theorem killAll_length : ∀ (l : List Nat) (H : List (Obj T)), (killAll H l).length = H.length
  | [], H => rfl
  | k :: ks, H => by unfold killAll; rw [killAll_length ks]; simp

theorem killAll_other : ∀ (l : List Nat) (H : List (Obj T)) (k : Nat), k ∉ l → (killAll H l)[k]? = H[k]?
  | [], H, k, _ => rfl
  | x :: ks, H, k, h => by
    unfold killAll
    simp at h
    rw [killAll_other ks _ k h.2, List.getElem?_set_ne (Ne.symm h.1)]

theorem killAll_at : ∀ (l : List Nat) (H : List (Obj T)) (k : Nat), k ∈ l → k < H.length → (killAll H l)[k]? = some .dead
  | [], H, k, h, _ => by simp at h
  | x :: ks, H, k, h, hk => by
    unfold killAll
    by_cases h1 : k ∈ ks
    · exact killAll_at ks _ k h1 (by simpa using hk)
    · rw [killAll_other ks _ k h1]
      simp [h1] at h
      subst h
      exact List.getElem?_set_self hk

theorem lent_mem : ∀ (args : List (V T)) (id : Nat) (rng : Option (Nat × Nat)), V.sl id rng ∈ args → id ∈ lent args
  | [], _, _, h => by simp at h
  | v :: vs, id, rng, h => by
    rcases List.mem_cons.1 h with rfl | h
    · simp [lent]
    · have := lent_mem vs id rng h
      cases v <;> simp [lent, this]

/-- What a call may see of the small heap. -/
def calleeEta (η : Eta) (l : List Nat) (ln : List Nat) : Eta :=
  ⟨fun j => match l[j]? with | some id => η id | none => none, fun b => η.far b ∨ ∃ id r, η id = some r ∧ r.has b ∧ id ∉ l ∧ id ∉ ln, η.df⟩

theorem callee_owns {η : Eta} {l ln : List Nat} {b : Nat} (h : owns (calleeEta η l ln) b) : ∃ (j id : Nat) (r : RO), l[j]? = some id ∧ η id = some r ∧ r.has b := by
  obtain ⟨j, r, h1, h2⟩ := h
  simp only [calleeEta] at h1
  split at h1
  · rename_i id hid; exact ⟨j, id, r, hid, h1, h2⟩
  · cases h1

theorem callee_ok {R : Rc T} {η : Eta} {H : List (Obj T)} {w : World} {l ln : List Nat} (b : Nat) (h : isOk η b) : isOk (calleeEta η l ln) b := by
  refine ⟨fun ho => ?_, fun hf => ?_⟩
  · obtain ⟨j, id, r, _, h1, h2⟩ := callee_owns ho
    exact h.1 ⟨id, r, h1, h2⟩
  · rcases hf with hf | ⟨id, r, h1, h2, _⟩
    · exact h.2 hf
    · exact h.1 ⟨id, r, h1, h2⟩

theorem callee_lent {R : Rc T} {η : Eta} {H : List (Obj T)} {w : World} (hH : RelH R η H w) {l ln : List Nat} {id : Nat} {r : RO} {b : Nat} (hr : η id = some r) (hb : r.has b) (h1 : id ∉ l) (h2 : id ∈ ln) :
    isOk (calleeEta η l ln) b := by
  refine ⟨fun ho => ?_, fun hf => ?_⟩
  · obtain ⟨j, id', r', hj, h3, h4⟩ := callee_owns ho
    have := hH.inj id id' r r' b hr h3 hb h4
    subst this
    exact h1 (List.mem_of_getElem? hj)
  · rcases hf with hf | ⟨id', r', h3, h4, h5, h6⟩
    · exact hH.nf id r b hr hb hf
    · have := hH.inj id id' r r' b hr h3 hb h4
      subst this
      exact h6 h2

theorem callee_m {η : Eta} {l ln : List Nat} {id k : Nat} {r : RO} (hk : placeOf l id = some k) (hr : η id = some r) : (calleeEta η l ln) k = some r := by
  simp only [calleeEta, placeOf_some hk, hr]

theorem callee_relH {c : Cfg T} (hfl : FlatOk c) {η : Eta} {H : List (Obj T)} {w : World} (hH : RelH (rc c) η H w) {l ln : List Nat} (hn : l.Nodup) (hlt : ∀ id ∈ l, id < H.length) :
    RelH (rc c) (calleeEta η l ln) (l.map fun id => renO (placeOf l) (H.getD id .dead)) w where
  obj := fun j r o hr ho => by
    simp only [calleeEta] at hr
    split at hr
    · rename_i id hid
      rw [List.getElem?_map, hid] at ho
      simp at ho; subst ho
      have hl := hlt id (List.mem_of_getElem? hid)
      rw [List.getElem?_eq_getElem hl]
      exact relObj.ren (fun id' k r' hk hr' => callee_m hk hr') hfl (.inl fun b hb _ => callee_ok (R := rc c) (H := H) (w := w) b hb) (hH.obj id r _ hr (List.getElem?_eq_getElem hl))
    · cases hr
  lt := fun j r b hr hb => by
    obtain ⟨j', id, r', _, h1, h2⟩ := callee_owns (ln := ln) ⟨j, r, hr, hb⟩
    exact hH.lt id r' b h1 h2
  inj := fun j j' r r' b hr hr' hb hb' => by
    simp only [calleeEta] at hr hr'
    split at hr
    · rename_i id hid
      split at hr'
      · rename_i id' hid'
        have := hH.inj id id' r r' b hr hr' hb hb'
        subst this
        have h1 := placeOf_get hn hid
        have h2 := placeOf_get hn hid'
        rw [h1] at h2
        exact Option.some.inj h2
      · cases hr'
    · cases hr
  nf := fun j r b hr hb hf => by
    simp only [calleeEta] at hr
    split at hr
    · rename_i id hid
      rcases hf with hf | ⟨id', r', h3, h4, h5, h6⟩
      · exact hH.nf id r b hr hb hf
      · have := hH.inj id id' r r' b hr h3 hb h4
        subst this
        exact h5 (List.mem_of_getElem? hid)
    · cases hr
  fl := fun b hf => by
    rcases hf with hf | ⟨id', r', h3, h4, h5, h6⟩
    · exact hH.fl b hf
    · exact hH.lt id' r' b h3 h4
  old := fun b hb => by
    obtain ⟨h1, h2, h3, h4⟩ := hH.old b hb
    obtain ⟨h5, h6⟩ := callee_ok (R := rc c) (H := H) (w := w) (l := l) (ln := ln) b ⟨h1, h2⟩
    exact ⟨h5, h6, h3, h4⟩

theorem callee_args {c : Cfg T} {η : Eta} {H : List (Obj T)} {w : World} (hH : RelH (rc c) η H w) {l ln : List Nat} (hnl : ∀ id ∈ ln, id ∉ l) :
    ∀ (vs : List (V T)) (xs : List Value), (∀ id rng, V.sl id rng ∈ vs → id ∈ ln) → RVs (rc c) η w vs xs → RVs (rc c) (calleeEta η l ln) w (renL (placeOf l) (vs.map (argV H))) xs
  | [], xs, _, h => by simpa only [List.map_nil, renL, RVs] using h
  | v :: vs, xs, hl, h => by
    simp only [RVs] at h
    obtain ⟨x, xs', rfl, h1, h2⟩ := h
    simp only [List.map_cons, renL, RVs]
    refine ⟨x, xs', rfl, ?_, callee_args hH hnl vs xs' (fun id rng hm => hl id rng (List.mem_cons_of_mem _ hm)) h2⟩
    have hgen : argV H v = v → RV (rc c) (calleeEta η l ln) w (Ev.ren (placeOf l) (argV H v)) x := fun he => by
      rw [he]
      exact RV.ren (fun id' k r' hk hr' => callee_m hk hr') v x (.inl fun b hb _ => callee_ok (R := rc c) (H := H) (w := w) b hb) h1
    cases v with
    | sl id rng =>
      have hid := hl id rng (by simp)
      cases hys : H[id]? with
      | none => 
        have : argV H (V.sl id rng) = .u := by simp [argV, hys]
        rw [this]; simp only [Ev.ren, RV]
      | some ob =>
        cases ob with
        | arr t ys =>
          have key : ∀ zs : List (T t), asL H t (.sl id rng) = some zs → RV (rc c) (calleeEta η l ln) w (Ev.ren (placeOf l) (V.d (D.l t zs))) x := fun zs hz => by
            obtain ⟨r0, base, cap, hr0, _, rfl, hcap, hpl⟩ := slPlace hH h1 hz
            simp only [Ev.ren, RV]
            by_cases h0 : zs.length = 0
            · have := List.eq_nil_of_length_eq_zero h0
              subst this
              exact .nil _ _ _
            · rcases hpl with hc0 | ⟨b, o, ce, el, fr, rfl, hhas, _, _, _, harr⟩
              · omega
              · exact VD.of_arr (callee_lent hH hr0 hhas (hnl id hid) hid) (hH.lt id r0 b hr0 hhas) hcap (harr.mono (Nat.le_refl _) (fun b hb _ => ⟨callee_ok (R := rc c) (H := H) (w := w) b hb, rfl⟩) rfl)
          cases rng with
          | none =>
            have : argV H (V.sl id none) = V.d (D.l t ys) := by simp [argV, hys]
            rw [this]
            exact key ys (by unfold asL; simp [hys, asT])
          | some p =>
            obtain ⟨o, n⟩ := p
            have : argV H (V.sl id (some (o, n))) = V.d (D.l t ((ys.drop o).take n)) := by simp [argV, hys]
            rw [this]
            exact key _ (by unfold asL; simp [hys, asT])
        | _ =>
          have : argV H (V.sl id rng) = .u := by simp [argV, hys]
          rw [this]; simp only [Ev.ren, RV]
    | _ => exact hgen rfl

end Go.Ev
