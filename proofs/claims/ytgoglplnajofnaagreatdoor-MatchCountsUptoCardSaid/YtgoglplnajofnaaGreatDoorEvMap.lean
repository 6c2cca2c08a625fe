/- A part of the evaluator of Go code over small heaps and of its proof: no condition beyond those that each theorem names. -/
import Derived.Test.YtgoglplnajofnaaGreatDoorEvOps8
import Derived.MapKept
set_option linter.unusedVariables false
set_option linter.unusedSimpArgs false
set_option linter.constructorNameAsVariable false
namespace Go.Ev
open Go.MapKept
variable {T : TypeId → Type}

theorem Rest.pushAny {w w' : World} {ob : Go.Obj} (hh : w'.heap = w.heap.push ob) (hn : ∀ ce e fr, ob ≠ .cells ce e fr) (ho : w'.os = w.os) (ht : w'.tape = w.tape) (hu : w'.output = w.output) : Rest w w' := by
  exact ⟨ho, ht, hu⟩

theorem op_makeMap {c : Cfg T} {η : Eta} {n : Nat} {w : World} {a : Act} {dst : Option Tmp} {t ty : TypeId} {pos : String} {after : Array Edge} {g : Option (Nat × Bool)} (kk : Option IntKind) (vt : TypeId)
    (hf : Fresh η n 1) : ValOk c η n w [.mp kk vt []] (.mp n) ((execOp a.eval ⟨dst, .makeMap t none, ty, pos, after, g⟩).run c.P w) := by
  refine ⟨.map (some w.heap.size), { w with heap := w.heap.push (.map #[] 0) }, put1 η n (.mp w.heap.size), .inl (by simp [execOp, Instr.makeMap]), ?_,
    New.one hf rfl (Rest.pushAny rfl (fun _ _ _ h => by cases h) rfl rfl rfl) (fun b hb => hb) fun he hk => ⟨w.heap.size, #[], 0, rfl, by simp, rfl⟩⟩
  simp only [RV]
  exact ⟨_, _, by simp [put1], rfl, .inr ⟨_, rfl, rfl⟩⟩

theorem kindOf_isKey {P : Program} {kt : TypeId} {kk : Option IntKind} (h : kindOf P kt = some kk) : ∃ d, P.underlying kt = some d ∧ (d = .string ∧ kk = none ∨ ∃ k, d = .int k ∧ kk = some k) := by
  unfold kindOf at h
  split at h
  · rename_i hu; cases h; exact ⟨_, hu, .inl ⟨rfl, rfl⟩⟩
  · rename_i k hu; cases h; exact ⟨_, hu, .inr ⟨k, rfl, rfl⟩⟩
  · cases h

theorem bytes_eq_iff (a b : List UInt8) : ((ByteArray.mk a.toArray) == (ByteArray.mk b.toArray)) = (a == b) := by
  rw [Bool.eq_iff_iff, bytes_beq]
  simp

theorem sameNow_key {d : TypeDesc} {kk : Option IntKind} (hd : d = .string ∧ kk = none ∨ ∃ k, d = .int k ∧ kk = some k) (x y : KTy kk) : Instr.sameNow d (kval kk x) (kval kk y) = some (kbeq kk x y) := by
  rcases hd with ⟨rfl, rfl⟩ | ⟨k, rfl, rfl⟩
  · simp only [kval, Instr.sameNow, kbeq]; rw [bytes_eq_iff]
  · simp only [kval, Instr.sameNow, if_true, kbeq]

theorem kbeq_comm (kk : Option IntKind) (x y : KTy kk) : kbeq kk x y = kbeq kk y x := by
  cases kk with
  | none => exact BEq.comm
  | some k => exact BEq.comm

theorem kval_inj {kk : Option IntKind} {x y : KTy kk} (h : kbeq kk x y = true) : x = y := by
  cases kk with
  | none => simpa [kbeq] using h
  | some k => simpa [kbeq] using h

theorem isKey_kval {d : TypeDesc} {kk : Option IntKind} (hd : d = .string ∧ kk = none ∨ ∃ k, d = .int k ∧ kk = some k) (x : KTy kk) : IsKey d (kval kk x) := by
  rcases hd with ⟨rfl, rfl⟩ | ⟨k, rfl, rfl⟩ <;> simp [kval, IsKey]

/-- A key is looked for. -/
theorem find_ok {R : Rc T} {η : Eta} {w : World} {d : TypeDesc} {kk : Option IntKind} (hd : d = .string ∧ kk = none ∨ ∃ k, d = .int k ∧ kk = some k) (k : KTy kk) {vt : TypeId} :
    ∀ (es : List (KTy kk × T vt)) (ms : List MapEntry) (i : Nat), RMap R η w kk vt es ms →
      (mget kk k es = none ∧ Instr.findNow d (kval kk k) ms i = some none ∧ ∀ x, mput kk k x es = es ++ [(k, x)]) ∨
      ∃ j m x e, mget kk k es = some x ∧ es[j]? = some e ∧ ms[j]? = some m ∧ Instr.findNow d (kval kk k) ms i = some (some (i + j, m.val)) ∧ m.key = kval kk k ∧ RV R η w (valOf (R.ag vt) (R.cod.enc vt x)) m.val ∧
        ∀ y, mput kk k y es = es.set j (k, y)
  | [], ms, i, h => by
    cases h
    exact .inl ⟨rfl, rfl, fun x => rfl⟩
  | e :: es, ms, i, h => by
    obtain ⟨m, ms', rfl, h2, h3, h4⟩ := h
    have hs := sameNow_key hd k e.1
    rw [← h2, kbeq_comm] at hs
    cases hb : kbeq kk e.1 k with
    | true =>
      rw [hb] at hs
      right
      refine ⟨0, m, e.2, e, by simp [mget, hb], rfl, rfl, by simp [Instr.findNow, hs], by rw [h2, kval_inj hb], h3, fun y => by simp [mput, hb]⟩
    | false =>
      rw [hb] at hs
      rcases find_ok hd k es ms' (i + 1) h4 with ⟨g1, g2, g3⟩ | ⟨j, m', x, e', g1, g2, g3, g4, g5, g6, g7⟩
      · exact .inl ⟨by simp [mget, hb, g1], by simp [Instr.findNow, hs, g2], fun x => by simp [mput, hb, g3]⟩
      · exact .inr ⟨j + 1, m', x, e', by simp [mget, hb, g1], by simpa using g2, by simpa using g3, by simp only [Instr.findNow, hs, g4]; rw [show i + 1 + j = i + (j + 1) by omega], g5, g6,
          fun y => by simp [mput, hb, g7]⟩

theorem RMap.set {R : Rc T} {η : Eta} {w : World} {kk : Option IntKind} {vt : TypeId} : ∀ (es : List (KTy kk × T vt)) (ms : List MapEntry) (j : Nat) (k : KTy kk) (y : T vt) (m : MapEntry), RMap R η w kk vt es ms → m.key = kval kk k →
    RV R η w (valOf (R.ag vt) (R.cod.enc vt y)) m.val → RMap R η w kk vt (es.set j (k, y)) (ms.set j m)
  | [], ms, j, k, y, m, h, _, _ => by cases h; exact rfl
  | e :: es, ms, 0, k, y, m, h, h5, h6 => by
    obtain ⟨m0, ms', rfl, h2, h3, h4⟩ := h
    exact ⟨m, ms', rfl, h5, h6, h4⟩
  | e :: es, ms, j + 1, k, y, m, h, h5, h6 => by
    obtain ⟨m0, ms', rfl, h2, h3, h4⟩ := h
    exact ⟨m0, ms'.set j m, rfl, h2, h3, RMap.set es ms' j k y m h4 h5 h6⟩

theorem RMap.push {R : Rc T} {η : Eta} {w : World} {kk : Option IntKind} {vt : TypeId} : ∀ (es : List (KTy kk × T vt)) (ms : List MapEntry) (k : KTy kk) (y : T vt) (m : MapEntry), RMap R η w kk vt es ms → m.key = kval kk k →
    RV R η w (valOf (R.ag vt) (R.cod.enc vt y)) m.val → RMap R η w kk vt (es ++ [(k, y)]) (ms ++ [m])
  | [], ms, k, y, m, h, h5, h6 => by cases h; exact ⟨m, [], rfl, h5, h6, rfl⟩
  | e :: es, ms, k, y, m, h, h5, h6 => by
    obtain ⟨m0, ms', rfl, h2, h3, h4⟩ := h
    exact ⟨m0, ms' ++ [m], rfl, h2, h3, RMap.push es ms' k y m h4 h5 h6⟩

/-- Is a type's zero of many cells just if its values are? -/
def zeroShape (P : Program) (t : TypeId) : Bool := match P.info? t with
  | some i => match i.zero with
    | some (.agg _) => isAg P t
    | some _ => !isAg P t
    | none => false
  | none => false

/-- What is asked of the values that stand for what is not there. -/
def ZeroOk (c : Cfg T) : Prop := ∀ t, c.cod.kn t = true → zeroShape c.P t = true ∧ ∃ ds, zeroCells c.P t = some (ofDs ds) ∧ leDs ds (c.cod.enc t (c.cod.dflt t))

theorem valOf_agg {R : Rc T} {η : Eta} {w : World} {ds : List (D T)} {cs : Array Value} (h : RVs R η w (ofDs ds) cs.toList) : RV R η w (valOf true ds) (.agg cs) := by
  simp only [valOf, RV]
  exact ⟨cs.toList, by simp, h⟩

theorem valOf_one {R : Rc T} {η : Eta} {w : World} {ds : List (D T)} {v : Value} (h : RVs R η w (ofDs ds) [v]) : RV R η w (valOf false ds) v := by
  match ds, h with
  | [d], h =>
    simp only [ofDs, List.map_cons, List.map_nil, RVs] at h
    obtain ⟨x, xs, he, h1, _⟩ := h
    simp at he
    simp only [valOf]
    rw [he.1]; exact h1
  | [], h => simp only [valOf, RV]
  | _ :: _ :: _, h => simp only [valOf, RV]

theorem zero_rv {c : Cfg T} (hz : ZeroOk c) {η : Eta} {w : World} {t : TypeId} (hk : c.cod.kn t = true) :
    ∃ z, (∀ w0, (zeroValue t).run c.P w0 = .ok z w0) ∧ RV (rc c) η w (valOf (isAg c.P t) (c.cod.enc t (c.cod.dflt t))) z := by
  obtain ⟨hs, ds, h1, h2⟩ := hz t hk
  unfold zeroCells at h1
  unfold zeroShape at hs
  cases hi : c.P.info? t with
  | none => rw [hi] at h1; cases h1
  | some i =>
    rw [hi] at h1 hs
    simp only at h1 hs
    cases hv : i.zero with
    | none => rw [hv] at h1; cases h1
    | some v =>
      rw [hv] at h1 hs
      simp only [Option.some.injEq] at h1
      refine ⟨v, fun w0 => run_zero hi hv w0, ?_⟩
      have hr : RVs (rc c) η w (ofDs ds) v.cells.toList := by rw [← h1]; exact map_cV1_ok _
      have hr := h2.rvs hr
      cases v with
      | agg cs => simp only at hs; rw [hs]; exact valOf_agg hr
      | _ => simp only [Bool.not_eq_true'] at hs; rw [hs]; exact valOf_one (by simpa [Value.cells] using hr)

theorem mapV_ok {c : Cfg T} {η : Eta} {H : List (Obj T)} {w : World} (hH : RelH (rc c) η H w) {t : TypeId} {m k : V T} {x y : Value} (hm : RV (rc c) η w m x) (hk : RV (rc c) η w k y)
    {kk : Option IntKind} {vt : TypeId} {id : Nat} {key : KTy kk} {es : List (KTy kk × T vt)} (h : mapV c H t m k = some ⟨kk, vt, id, key, es⟩) :
    ∃ b ms cl kt d, x = .map (some b) ∧ y = kval kk key ∧ η id = some (.mp b) ∧ H[id]? = some (.mp kk vt es) ∧ w.heap[b]? = some (.map ms cl) ∧ RMap (rc c) η w kk vt es ms.toList ∧ c.P.underlying t = some (.map kt vt) ∧
      c.P.underlying kt = some d ∧ (d = .string ∧ kk = none ∨ ∃ k, d = .int k ∧ kk = some k) ∧ c.cod.kn vt = true := by
  unfold mapV at h
  split at h
  · rename_i id0 d0 kt vt0 hmt
    split at h
    · rename_i kk0 vt' es0 kk' hobj hkd
      cases hb : (kk' == kk0) && vt'.beq vt0 && c.cod.kn vt' with
      | false => simp [hb] at h
      | true =>
        simp only [hb, cond_true] at h
        simp only [Bool.and_eq_true, beq_iff_eq] at hb
        obtain ⟨⟨rfl, hvt⟩, hkn⟩ := hb
        have := Nat.eq_of_beq_eq_true hvt
        subst this
        split at h
        · rename_i key0 hkey
          simp only [Option.some.injEq, Sigma.mk.injEq] at h
          obtain ⟨rfl, h⟩ := h
          have h := eq_of_heq h
          simp only [Sigma.mk.injEq] at h
          obtain ⟨rfl, h⟩ := h
          have h := eq_of_heq h
          simp only [Prod.mk.injEq] at h
          obtain ⟨rfl, rfl, rfl⟩ := h
          simp only [RV] at hm hk
          obtain ⟨r, a, hr, rfl, hm⟩ := hm
          have ho := hH.obj id0 r _ hr hobj
          obtain ⟨b, ms, cl, rfl, h1, h2⟩ := ho
          rcases hm with hm | ⟨m', hm', rfl⟩
          · cases hm
          · cases hm'
            obtain ⟨d, hd, hd2⟩ := kindOf_isKey hkd
            have hu : c.P.underlying t = some (.map kt vt') := by
              unfold mapT at hmt
              split at hmt
              · rename_i hu; simp only [Option.some.injEq, Prod.mk.injEq] at hmt; obtain ⟨rfl, rfl⟩ := hmt; exact hu
              · cases hmt
            refine ⟨b, ms, cl, kt, d, rfl, ?_, hr, hobj, h1, h2, hu, hd, hd2, hkn⟩
            unfold keyOf at hkey
            split at hkey
            · cases hkey; cases hk; rfl
            · split at hkey
              · rename_i hkk; cases hkey; cases hk; rw [hkk]; rfl
              · cases hkey
            · cases hkey
        · cases h
    · cases h
  · cases h

theorem op_lookup {c : Cfg T} (hz : ZeroOk c) {η : Eta} {H : List (Obj T)} {w : World} (hH : RelH (rc c) η H w) {a : Act} {dst : Option Tmp} {t ty : TypeId} {x ix : Operand} {comma : Bool} {pos : String} {after : Array Edge} {g : Option (Nat × Bool)}
    {m k : V T} (hm : RV (rc c) η w m (a.eval x)) (hk : RV (rc c) η w k (a.eval ix)) {kk : Option IntKind} {vt : TypeId} {id : Nat} {key : KTy kk} {es : List (KTy kk × T vt)} (h : mapV c H t m k = some ⟨kk, vt, id, key, es⟩) :
    ValOk c η H.length w [] (bif comma then .tup [valOf (isAg c.P vt) (c.cod.enc vt ((mget kk key es).getD (c.cod.dflt vt))), .d (.b (mget kk key es).isSome)]
        else valOf (isAg c.P vt) (c.cod.enc vt ((mget kk key es).getD (c.cod.dflt vt)))) ((execOp a.eval ⟨dst, .lookup t x ix comma, ty, pos, after, g⟩).run c.P w) := by
  obtain ⟨b, ms, cl, kt, d, h1, h2, h3, h4, h5, h6, h7, h8, h9, h10⟩ := mapV_ok hH hm hk h
  have key' : ∃ v, RV (rc c) η w (valOf (isAg c.P vt) (c.cod.enc vt ((mget kk key es).getD (c.cod.dflt vt)))) v ∧
      (execOp a.eval ⟨dst, .lookup t x ix comma, ty, pos, after, g⟩).run c.P w = .ok (.value (if comma then .tuple #[v, .bool (mget kk key es).isSome] else v)) w := by
    have hck : (Instr.checkKey ms.isEmpty 10000 kt (kval kk key)).run c.P w = .ok () w := run_checkKey (P := c.P) (w := w) h8 (isKey_kval h9 key) ms.isEmpty 9999
    rcases find_ok h9 key es ms.toList 0 h6 with ⟨g1, g2, _⟩ | ⟨j, m', x', e', g1, g2, g3, g4, g5, g6, _⟩
    · obtain ⟨z, hz1, hz2⟩ := zero_rv hz (η := η) (w := w) h10
      refine ⟨z, by rw [g1]; exact hz2, ?_⟩
      have hfk := run_findKey (P := c.P) (w := w) h8 g2
      rw [g1]
      simp only [execOp, Instr.lookup, h1, h2, Sem.run_bind, run_under h7, Result.andThen_ok, Go.MapKept.run_getObj_map h5, Sem.run_pure, hck, hfk, hz1]
      cases comma <;> rfl
    · refine ⟨m'.val, by rw [g1]; exact g6, ?_⟩
      have hfk := run_findKey (P := c.P) (w := w) h8 g4
      rw [g1]
      simp only [execOp, Instr.lookup, h1, h2, Sem.run_bind, run_under h7, Result.andThen_ok, Go.MapKept.run_getObj_map h5, Sem.run_pure, hck, hfk]
      cases comma <;> rfl
  obtain ⟨v, hv, hrun⟩ := key'
  refine .pure hrun ?_
  cases comma with
  | true =>
    simp only [cond_true, if_true, RV]
    refine ⟨[v, .bool (mget kk key es).isSome], rfl, ?_⟩
    simp only [RVs]
    exact ⟨_, _, rfl, hv, _, _, rfl, by simp only [RV]; exact .b _, rfl⟩
  | false => exact hv

theorem Rest.setMap {w : World} {r : Nat} {ms ms' : Array MapEntry} {cl cl' : Nat} (h : w.heap[r]? = some (.map ms cl)) : Rest w { w with heap := w.heap.setIfInBounds r (.map ms' cl') } := by
  exact ⟨rfl, rfl, rfl⟩

theorem sameBits_kval {kk : Option IntKind} (k : KTy kk) (n : Nat) : Instr.sameBits n (kval kk k) (kval kk k) = true := by
  cases kk with
  | none => simp only [kval, Instr.sameBits]; exact (bytes_beq _ _).2 rfl
  | some k' => simp [kval, Instr.sameBits]

theorem op_mapUpdate {c : Cfg T} (hc : CodOk (rc c)) {η : Eta} {H : List (Obj T)} {w : World} (hH : RelH (rc c) η H w) (hf : ∀ id, H.length ≤ id → η id = none) {a : Act} {dst : Option Tmp} {t ty : TypeId} {x ix y : Operand} {pos : String} {after : Array Edge} {g : Option (Nat × Bool)}
    {m k v : V T} (hm : RV (rc c) η w m (a.eval x)) (hk : RV (rc c) η w k (a.eval ix)) (hv : RV (rc c) η w v (a.eval y)) {kk : Option IntKind} {vt : TypeId} {id : Nat} {key : KTy kk} {es : List (KTy kk × T vt)}
    (h : mapV c H t m k = some ⟨kk, vt, id, key, es⟩) {ds : List (D T)} (hds : toDs v.cells = some ds) {u : T vt} (hu : c.cod.dec vt ds = some u) (hag : aggB v = some (isAg c.P vt)) :
    WrOk c η (H.set id (.mp kk vt (mput kk key u es))) w .u ((execOp a.eval ⟨dst, .mapUpdate t x ix y, ty, pos, after, g⟩).run c.P w) := by
  obtain ⟨b, ms, cl, kt, d, h1, h2, h3, h4, h5, h6, h7, h8, h9, h10⟩ := mapV_ok hH hm hk h
  have hval : RV (rc c) η w (valOf (isAg c.P vt) (c.cod.enc vt u)) (a.eval y) := by
    have hle := hc.dec vt ds u hu
    generalize hay : a.eval y = ay at hv
    cases v with
    | agg cs =>
      simp only [aggB, Option.some.injEq] at hag
      rw [← hag]
      simp only [RV] at hv
      obtain ⟨xs, rfl, hv⟩ := hv
      exact valOf_agg (hle.rvs (toDs_ok (by simpa [V.cells] using hds) hv).1)
    | d x =>
      simp only [aggB, Option.some.injEq] at hag
      rw [← hag]
      have : RVs (rc c) η w [V.d x] [ay] := by simp only [RVs]; exact ⟨_, _, rfl, hv, rfl⟩
      exact valOf_one (hle.rvs (toDs_ok (by simpa [V.cells] using hds) this).1)
    | _ => cases hag
  have hck : (Instr.checkKey false 10000 kt (kval kk key)).run c.P w = .ok () w := run_checkKey (P := c.P) (w := w) h8 (isKey_kval h9 key) false 9999
  have hlt := hH.lt id _ b h3 rfl
  have key' : ∃ ms' cl', (execOp a.eval ⟨dst, .mapUpdate t x ix y, ty, pos, after, g⟩).run c.P w = .ok .skip { w with heap := w.heap.setIfInBounds b (.map ms' cl') } ∧ RMap (rc c) η w kk vt (mput kk key u es) ms'.toList := by
    rcases find_ok h9 key es ms.toList 0 h6 with ⟨g1, g2, g3⟩ | ⟨j, m', x', e', g1, g2, g3, g4, g5, g6, g7⟩
    · refine ⟨ms.push { key := a.eval ix, val := a.eval y, born := cl }, cl + 1, ?_, ?_⟩
      · have hfk := run_findKey (P := c.P) (w := w) h8 g2
        simp only [execOp, Instr.mapUpdate, h1, h2, Sem.run_bind, run_under h7, Result.andThen_ok, Go.MapKept.run_getObj_map h5, Sem.run_pure, hck, hfk, Go.MapKept.run_setObj_map _ h5]
      · rw [g3]; simp only [Array.toList_push]
        exact RMap.push es ms.toList key u _ h6 h2 hval
    · refine ⟨ms.modify (0 + j) fun e => { e with key := a.eval ix, val := a.eval y }, cl, ?_, ?_⟩
      · have hfk := run_findKey (P := c.P) (w := w) h8 g4
        have hmj : ms[0 + j]? = some m' := by rw [Nat.zero_add]; simpa using g3
        have hst : (Instr.keyThatStays (((ms[0 + j]?).map (·.key)).getD (kval kk key)) (kval kk key)).run c.P w = .ok (kval kk key) w := by
          rw [hmj]; simp only [Option.map_some, Option.getD_some, g5, Instr.keyThatStays, sameBits_kval, if_true, Sem.run_pure]
        simp only [execOp, Instr.mapUpdate, h1, h2, Sem.run_bind, run_under h7, Result.andThen_ok, Go.MapKept.run_getObj_map h5, Sem.run_pure, hck, hfk, hst, Go.MapKept.run_setObj_map _ h5]
      · rw [g7, Nat.zero_add]
        have hmj : ms[j]? = some m' := by simpa using g3
        have hjl := (Array.getElem?_eq_some_iff.1 hmj).1
        have : (ms.modify j fun e => { e with key := a.eval ix, val := a.eval y }).toList = ms.toList.set j { m' with key := a.eval ix, val := a.eval y } := by
          apply List.ext_getElem?
          intro i
          rw [Array.getElem?_toList, Array.getElem?_modify, List.getElem?_set]
          by_cases hij : j = i
          · subst hij
            have hm2 : ms[j] = m' := (Array.getElem?_eq_some_iff.1 hmj).2
            simp [hjl, hm2]
          · simp [hij]
        rw [this]
        exact RMap.set es ms.toList j key u _ h6 h2 hval
  obtain ⟨ms', cl', hrun, hmap⟩ := key'
  have hset := fun o' => heap_set h5 (o' := o')
  have he : Evo η η w { w with heap := w.heap.setIfInBounds b (.map ms' cl') } :=
    ⟨by simp, fun k' hk' ho => (hset _).2 k' (fun h => ho (h ▸ ⟨id, _, h3, rfl⟩)), fun _ _ h => h, rfl, rfl, Rest.setMap h5⟩
  refine ⟨undef, _, η, .inr ⟨hrun, rfl⟩, by simp only [RV], he, Keeps.refl η, hH.upd h3 he (fun k' hk' _ => (hset _).2 k' (fun h => hk' h)) ⟨b, ms', cl', rfl, (hset _).1, RMap.mono he (Keeps.refl η) _ _ hmap⟩, fun id' hid => hf id' (by simpa using hid)⟩

theorem op_insert {c : Cfg T} (hc : CodOk (rc c)) {η : Eta} {H : List (Obj T)} {w : World} (hH : RelH (rc c) η H w) (hf : ∀ id, H.length ≤ id → η id = none) {a : Act} {dst : Option Tmp} {t ty : TypeId} {x ix y : Operand} {pos : String} {after : Array Edge} {g : Option (Nat × Bool)}
    {m k v : V T} (hm : RV (rc c) η w m (a.eval x)) (hk : RV (rc c) η w k (a.eval ix)) (hv : RV (rc c) η w v (a.eval y)) {kk : Option IntKind} {vt : TypeId} {id : Nat} {key : KTy kk} {es : List (KTy kk × T vt)}
    (h : mapV c H t m k = some ⟨kk, vt, id, key, es⟩) {ds : List (D T)} (hds : toDs v.cells = some ds) {u : T vt} (hu : c.cod.dec vt ds = some u) (hag : aggB v = some (isAg c.P vt)) :
    WrOk c η (H.set id (.mp kk vt (mput kk key u es))) w .u ((execOp a.eval ⟨dst, .insert t x ix y, ty, pos, after, g⟩).run c.P w) := by
  have := op_mapUpdate (dst := dst) (ty := ty) (pos := pos) (after := after) (g := g) hc hH hf hm hk hv h hds hu hag
  simpa only [execOp] using this
end Go.Ev
