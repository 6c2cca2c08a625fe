/- A law's arguments where what they hold is of a bulk that is bounded: no text or list in them is longer than that. -/
import Derived.Test.YtgoglplnajofnaaGreatDoorEvRow
set_option linter.unusedVariables false
set_option linter.unusedSimpArgs false
set_option linter.constructorNameAsVariable false
namespace Go.Ev
open Go.ChangeShapes Go.WideShapes Go.ChangeAt Go.RowKit
open Go.ChangeMaps (open_string)
variable {T : TypeId → Type}

/-- What a value that was read as data looks like, no text or list of it longer than N. -/
inductive ShN (c : Cfg T) (N : Nat) : TypeId → List (D T) → Prop
  | b {t : TypeId} (h : c.P.underlying t = some .bool) (p : Bool) : ShN c N t [.b p]
  | i {t : TypeId} {k : IntKind} (h : c.P.underlying t = some (.int k)) (n : Int) (hw : (Lit.int k n).wf = true) : ShN c N t [.i k n]
  | s {t : TypeId} (h : c.P.underlying t = some .string) (l : List UInt8) (hl : l.length ≤ N) : ShN c N t [.s l]
  | l {t e : TypeId} (h : c.P.underlying t = some (.slice e)) (xs : List (T e)) (hx : ∀ x ∈ xs, ShN c N e (c.cod.enc e x)) (hl : xs.length ≤ N) : ShN c N t [.l e xs]
  | st {t : TypeId} {fs : Array Field} (h : c.P.underlying t = some (.struct fs)) (ds : List (List (D T))) (hl : ds.length = fs.size)
      (hf : ∀ (i : Nat) (f : Field) (x : List (D T)), fs[i]? = some f → ds[i]? = some x → ShN c N f.type x) : ShN c N t ds.flatten
  | ar {t e : TypeId} {n : Nat} (h : c.P.underlying t = some (.array n e)) (ds : List (List (D T))) (hl : ds.length = n) (hf : ∀ x ∈ ds, ShN c N e x) : ShN c N t ds.flatten

theorem ShN.sh {c : Cfg T} {N : Nat} {t : TypeId} {ds : List (D T)} (h : ShN c N t ds) (hN : N ≤ maxLen) : Sh c t ds := by
  induction h with
  | b hu p => exact .b hu p
  | i hu n hw => exact .i hu n hw
  | s hu l hl => exact .s hu l (Nat.le_trans hl hN)
  | l hu xs hx hl ih => exact .l hu xs ih (Nat.le_trans hl hN)
  | st hu ds hl hf ih => exact .st hu ds hl ih
  | ar hu ds hl hf ih => exact .ar hu ds hl ih

/-- What a bulk counts. -/
structure Bk {H : Type} (bulk : DataW H → Nat) : Prop where
  str : ∀ s, s.length ≤ bulk (.lit (.string s))
  len : ∀ xs r, xs.length ≤ bulk (.slice xs r)
  el : ∀ xs r, ∀ x ∈ xs, bulk x ≤ bulk (.slice xs r)
  part : ∀ xs, ∀ x ∈ xs, bulk x ≤ bulk (.agg xs)

section
variable {c : Cfg T} {N : Nat} {R : TypeId → Bool} {η : Eta} {w : World} {H : Type} {enc : TypeId × Value → H} {base : Nat} {spare : Nat → Bool} {held : Bool} {bulk : DataW H → Nat}

theorem contig_rvN {m : Nat} (ih : ∀ t cs x, R t = true → DataW.trod enc c.P w base spare held m t cs = some x → bulk x.1 ≤ N → ∃ ds, ShN c N t ds ∧ RVs (rc c) η w (ofDs ds) cs) (cs : List Value) :
    ∀ (fs : List Field) (xs : List (DataW H × List MemPlace)) (off : Nat), contig c.P off fs = some cs.length → fs.all (fun f => R f.type) = true → xs.length = fs.length → (∀ y ∈ xs, bulk y.1 ≤ N) →
      (∀ (i : Nat) (f : Field), fs[i]? = some f → DataW.trod enc c.P w base spare held m f.type ((cs.drop f.offset).take (c.P.cellsOf f.type)) = xs[i]?) →
      ∃ ds : List (List (D T)), ds.length = fs.length ∧ (∀ (i : Nat) (f : Field) (x : List (D T)), fs[i]? = some f → ds[i]? = some x → ShN c N f.type x) ∧ RVs (rc c) η w (ofDs ds.flatten) (cs.drop off)
  | [], xs, off, hc, _, _, _, _ => by
    simp only [contig, Option.some.injEq] at hc
    subst hc
    exact ⟨[], rfl, fun i f x h => by simp at h, by simp [ofDs, RVs]⟩
  | f :: fs, xs, off, hc, hR, hl, hbx, h => by
    simp only [contig] at hc
    cases hb : f.offset.beq off with
    | false => simp [hb] at hc
    | true =>
      have hoff := Nat.eq_of_beq_eq_true hb
      simp only [hb, cond_true] at hc
      simp only [List.all_cons, Bool.and_eq_true] at hR
      match xs, hl, hbx with
      | x :: xs, hl, hbx =>
        have h0 := h 0 f rfl
        simp only [List.getElem?_cons_zero] at h0
        obtain ⟨d, hd1, hd2⟩ := ih _ _ _ hR.1 h0 (hbx _ (List.mem_cons_self ..))
        obtain ⟨ds, g1, g2, g3⟩ := contig_rvN ih cs fs xs (off + c.P.cellsOf f.type) hc hR.2 (by simpa using hl) (fun y hy => hbx y (List.mem_cons_of_mem _ hy)) (fun i f' hf => by simpa using h (i + 1) f' (by simpa using hf))
        refine ⟨d :: ds, by simp [g1], fun i f' y hf hy => ?_, ?_⟩
        · cases i with
          | zero => simp at hf hy; subst hf; subst hy; exact hd1
          | succ i => exact g2 i f' y (by simpa using hf) (by simpa using hy)
        · rw [List.flatten_cons, ofDs_append]
          have hsplit : cs.drop off = (cs.drop f.offset).take (c.P.cellsOf f.type) ++ cs.drop (off + c.P.cellsOf f.type) := by
            rw [hoff, ← List.drop_drop, List.take_append_drop]
          rw [hsplit]
          exact hd2.append g3

theorem open_rdN (hR : ∀ t, R t = true → okT c R t = true) (hfull : ∀ t ds, R t = true → c.cod.kn t = true → Sh c t ds → ∃ x, c.cod.enc t x = ds) (hlen : CodOk (rc c)) (hη : ∀ b, isOk η b) (hB : Bk bulk) (hN : N ≤ maxLen) :
    ∀ (m : Nat) (t : TypeId) (cs : List Value) (x : DataW H × List MemPlace), R t = true → DataW.trod enc c.P w base spare held m t cs = some x → bulk x.1 ≤ N → ∃ ds, ShN c N t ds ∧ RVs (rc c) η w (ofDs ds) cs := by
  intro m
  induction m with
  | zero => intro t cs x _ h _; simp [DataW.trod] at h
  | succ m ih =>
    intro t cs x ht h hb0
    have hok := hR t ht
    unfold okT at hok
    split at hok
    · rename_i hu
      obtain ⟨b, rfl, _⟩ := DataW.trod_bool hu h
      exact ⟨[.b b], .b hu b, by simp only [ofDs, List.map_cons, List.map_nil, RVs, RV]; exact ⟨_, _, rfl, .b b, rfl⟩⟩
    · rename_i k hu
      obtain ⟨n, rfl, _, hw⟩ := DataW.trod_int hu h
      exact ⟨[.i k n], .i hu n hw, by simp only [ofDs, List.map_cons, List.map_nil, RVs, RV]; exact ⟨_, _, rfl, .i k n, rfl⟩⟩
    · rename_i hu
      obtain ⟨s, rfl, rfl, hs⟩ := DataW.trod_string hu h
      refine ⟨[.s s.data.toList], .s hu _ (Nat.le_trans (hB.str _) hb0), ?_⟩
      simp only [ofDs, List.map_cons, List.map_nil, RVs, RV]
      exact ⟨_, _, rfl, .s _, rfl⟩
    · rename_i e hu
      simp only [Bool.and_eq_true, Nat.blt_eq] at hok
      obtain ⟨⟨h1, h2⟩, h3⟩ := hok
      rcases DataW.trod_slice hu h with ⟨rfl, _⟩ | ⟨a, len, cap, elems, rest, n, hn, rfl, rfl, hb, hle, hcap, hel, hat, _⟩
      · refine ⟨[.l e []], .l hu [] (fun x hx => by simp at hx) (Nat.zero_le _), ?_⟩
        simp only [ofDs, List.map_cons, List.map_nil, RVs, RV]
        exact ⟨_, _, rfl, .nil _ _ _, rfl⟩
      · cases hn
        have hone : ∀ i, i < len → ∃ (y : T e) (ds' : List Value), ShN c N e (c.cod.enc e y) ∧ w.cells? base (a.add (i * c.P.cellsOf e)) (c.P.cellsOf e) = some ds' ∧ RVs (rc c) η w (ofDs (c.cod.enc e y)) ds' := by
          intro i hi
          have := hat i hi
          rw [List.getElem?_eq_getElem (by omega)] at this
          cases hc : w.cells? base (a.add (i * c.P.cellsOf e)) (c.P.cellsOf e) with
          | none => rw [hc] at this; cases this
          | some ds' =>
            rw [hc] at this
            simp only [Option.bind_some] at this
            obtain ⟨ds, g1, g2⟩ := ih e ds' _ h1 this (Nat.le_trans (hB.el _ _ _ (List.mem_map_of_mem (List.getElem_mem _))) hb0)
            obtain ⟨y, hy⟩ := hfull e ds h1 h2 (g1.sh hN)
            subst hy
            exact ⟨y, ds', g1, rfl, g2⟩
        by_cases hz : len = 0
        · subst hz
          refine ⟨[.l e []], .l hu [] (fun x hx => by simp at hx) (Nat.zero_le _), ?_⟩
          simp only [ofDs, List.map_cons, List.map_nil, RVs, RV]
          exact ⟨_, _, rfl, .nil _ _ _, rfl⟩
        · have hspot : a.spot = none := by
            obtain ⟨y, ds', _, g2, _⟩ := hone 0 (by omega)
            obtain ⟨g3, g4⟩ := cells?_get g2
            have h0 := g4 0 h3
            rw [List.getElem?_eq_getElem (by omega)] at h0
            have := World.cell?_spot h0
            simpa [Addr.add] using this
          obtain ⟨b, o, spot⟩ := a
          simp only at hspot
          subst hspot
          have hblk : b < w.heap.size := by
            obtain ⟨y, ds', _, g2, _⟩ := hone 0 (by omega)
            obtain ⟨g3, g4⟩ := cells?_get g2
            have h0 := g4 0 h3
            rw [List.getElem?_eq_getElem (by omega)] at h0
            rw [add_at] at h0
            simp only [Nat.zero_mul, Nat.add_zero, add_at] at h0
            exact cell_lt (w := w) (b := b) (off := o) (v := ds'[0]) (by simpa [at_, Addr.add] using h0)
          classical
          have hch : ∃ ys : List (T e), ys.length = len ∧ ∀ i (hi : i < ys.length), ShN c N e (c.cod.enc e ys[i]) ∧ ∃ ds', w.cells? base (Addr.add ⟨b, o, none⟩ (i * c.P.cellsOf e)) (c.P.cellsOf e) = some ds' ∧ RVs (rc c) η w (ofDs (c.cod.enc e ys[i])) ds' := by
            refine ⟨List.ofFn (n := len) fun i => (hone i.1 i.2).choose, by simp, fun i hi => ?_⟩
            have hi' : i < len := by simpa using hi
            have := (hone i hi').choose_spec
            obtain ⟨ds', g1, g2, g3⟩ := this
            simp only [List.getElem_ofFn]
            exact ⟨g1, ds', g2, g3⟩
          obtain ⟨ys, hyl, hys⟩ := hch
          refine ⟨[.l e ys], .l hu ys (fun y hy => ?_) (by have := hB.len (elems.map (·.1)) (rest.map (·.1)); simp only [List.length_map] at this; have hb1 := hb0; simp only at hb1; omega), ?_⟩
          · obtain ⟨i, hi, rfl⟩ := List.getElem_of_mem hy
            exact (hys i hi).1
          · simp only [ofDs, List.map_cons, List.map_nil, RVs, RV]
            refine ⟨_, _, rfl, ?_, rfl⟩
            rw [← hyl]
            refine VD.of_arr (hη b) hblk (by omega) ?_
            intro i j hi d hd
            obtain ⟨_, ds', g1, g2⟩ := hys i hi
            obtain ⟨g3, g4⟩ := cells?_get g1
            have hj : j < (c.cod.enc e ys[i]).length := (List.getElem?_eq_some_iff.1 hd).1
            have hjl := g2.length
            simp only [ofDs, List.length_map] at hjl
            obtain ⟨v, hv1, hv2⟩ := g2.get j (v := .d d) (by simp [ofDs]; exact hd)
            refine ⟨v, ?_, by simpa only [RV] using hv2⟩
            have := g4 j (by omega)
            rw [hv1, add_at] at this
            rw [show at_ b (o + i * c.P.cellsOf e) = (⟨b, o + i * c.P.cellsOf e, none⟩ : Addr) from rfl, add_at] at this
            exact this
    · rename_i fs hu
      simp only [Bool.and_eq_true, beq_iff_eq] at hok
      obtain ⟨xs, n, hn, rfl, hcl, hxl, hat⟩ := DataW.trod_struct hu h
      cases hn
      obtain ⟨ds, g1, g2, g3⟩ := contig_rvN (enc := enc) (base := base) (spare := spare) (held := held) ih cs fs.toList xs 0 (by rw [hcl]; exact hok.1) hok.2 (by simpa using hxl) (fun y hy => Nat.le_trans (hB.part _ _ (List.mem_map_of_mem hy)) hb0) (fun i f hf => hat i f (by simpa using hf))
      exact ⟨ds.flatten, .st hu ds (by simpa using g1) (fun i f x hf hx => g2 i f x (by simpa using hf) hx), by simpa using g3⟩
    · rename_i n e hu
      simp only [Bool.and_eq_true] at hok
      obtain ⟨h1, h2⟩ := hok
      have hsz := Nat.eq_of_beq_eq_true h2
      obtain ⟨xs, k, hn, rfl, hcl, hxl, hat⟩ := DataW.trod_array hu h
      cases hn
      have hone : ∀ i, i < n → ∃ ds, ShN c N e ds ∧ RVs (rc c) η w (ofDs ds) ((cs.drop (i * c.P.cellsOf e)).take (c.P.cellsOf e)) := by
        intro i hi
        have := hat i hi
        rw [List.getElem?_eq_getElem (by omega)] at this
        exact ih e _ _ h1 this (Nat.le_trans (hB.part _ _ (List.mem_map_of_mem (List.getElem_mem _))) hb0)
      classical
      let g : Nat → List (D T) := fun i => if hi : i < n then (hone i hi).choose else []
      have hg : ∀ i, i < n → ShN c N e (g i) ∧ RVs (rc c) η w (ofDs (g i)) ((cs.drop (i * c.P.cellsOf e)).take (c.P.cellsOf e)) := by
        intro i hi
        simp only [g, dif_pos hi]
        exact (hone i hi).choose_spec
      refine ⟨((List.range n).map g).flatten, .ar hu _ (by simp) (fun x hx => ?_), ?_⟩
      · simp only [List.mem_map, List.mem_range] at hx
        obtain ⟨i, hi, rfl⟩ := hx
        exact (hg i hi).1
      · have := rvs_flat (c := c) (η := η) (w := w) (f := fun i => (cs.drop (i * c.P.cellsOf e)).take (c.P.cellsOf e)) (g := g) n fun i hi => (hg i hi).2
        have hcs : ∀ k, k ≤ n → ((List.range k).map fun i => (cs.drop (i * c.P.cellsOf e)).take (c.P.cellsOf e)).flatten = cs.take (k * c.P.cellsOf e) := by
          intro k
          induction k with
          | zero => intro _; simp
          | succ k ihk =>
            intro hk
            rw [List.range_succ, List.map_append, List.flatten_append, ihk (by omega)]
            simp only [List.map_cons, List.map_nil, List.flatten_cons, List.flatten_nil, List.append_nil]
            rw [Nat.add_mul, Nat.one_mul, List.take_add]
        rw [hcs n (Nat.le_refl _), ← hsz, ← hcl, List.take_length] at this
        exact this
    · cases hok

theorem open_argN {r : Reach} {b0 : Nat} (hR : ∀ t, R t = true → okT c R t = true) (hfull : ∀ t ds, R t = true → c.cod.kn t = true → Sh c t ds → ∃ x, c.cod.enc t x = ds) (hlen : CodOk (rc c)) (hη : ∀ b, isOk η b) (hB : Bk bulk) (hN : N ≤ maxLen)
    {t : TypeId} {v : Value} {d : DataW H} {p : List MemPlace} (ht : R t = true) (hv : Value.okWide c.P w r b0 t v) (h : DataW.Trod enc c.P w base spare held t v d p) (hb : bulk d ≤ N) :
    ∃ ds, ShN c N t ds ∧ RV (rc c) η w (argVal c.P t ds) v := by
  obtain ⟨fuel, hf⟩ := h
  obtain ⟨ds, h1, h2⟩ := open_rdN hR hfull hlen hη hB hN fuel t _ _ ht hf hb
  refine ⟨ds, h1, ?_⟩
  have hok := hR t ht
  unfold okT at hok
  unfold argVal
  split at hok
  · rename_i hu
    obtain ⟨a, rfl, _⟩ := open_bool hu hv ⟨fuel, hf⟩
    cases h1 <;> simp_all [Value.cells]
    exact rv_one h2
  · rename_i k hu
    obtain ⟨a, rfl, _⟩ := open_int hu hv ⟨fuel, hf⟩
    cases h1 <;> simp_all [Value.cells]
    exact rv_one h2
  · rename_i hu
    obtain ⟨a, rfl, _⟩ := open_string hu hv ⟨fuel, hf⟩
    cases h1 <;> simp_all [Value.cells]
    exact rv_one h2
  · rename_i e hu
    obtain ⟨a, len, cap, rfl⟩ := okWide_slice hu hv
    cases h1 <;> simp_all [Value.cells]
    exact rv_one h2
  · rename_i fs hu
    obtain ⟨cs, rfl, _⟩ := okWide_struct hu hv
    rw [hu]
    exact rv_agg (by simpa [Value.cells] using h2)
  · rename_i n e hu
    obtain ⟨cs, rfl, _⟩ : ∃ cs, v = .agg cs ∧ cs.size = c.P.cellsOf t ∧ Row.okWide c.P w r b0 t cs := by unfold Value.okWide at hv; rw [hu] at hv; exact hv
    rw [hu]
    exact rv_agg (by simpa [Value.cells] using h2)
  · cases hok
end

theorem ShN.bool {c : Cfg T} {N : Nat} {t : TypeId} {ds : List (D T)} (h : ShN c N t ds) (ht : c.P.underlying t = some .bool) : ∃ p, ds = [.b p] := by
  cases h with
  | b hu p => exact ⟨p, rfl⟩
  | i hu _ _ | s hu _ _ | l hu _ _ _ | st hu _ _ _ | ar hu _ _ _ => rw [ht] at hu; cases hu

theorem ShN.int {c : Cfg T} {N : Nat} {t : TypeId} {ds : List (D T)} {k : IntKind} (h : ShN c N t ds) (ht : c.P.underlying t = some (.int k)) : ∃ n, ds = [.i k n] ∧ (Lit.int k n).wf = true := by
  cases h with
  | i hu n hw => rw [ht] at hu; cases hu; exact ⟨n, rfl, hw⟩
  | b hu _ | s hu _ _ | l hu _ _ _ | st hu _ _ _ | ar hu _ _ _ => rw [ht] at hu; cases hu

theorem ShN.str {c : Cfg T} {N : Nat} {t : TypeId} {ds : List (D T)} (h : ShN c N t ds) (ht : c.P.underlying t = some .string) : ∃ l, ds = [.s l] ∧ l.length ≤ N := by
  cases h with
  | s hu l hl => exact ⟨l, rfl, hl⟩
  | b hu _ | i hu _ _ | l hu _ _ _ | st hu _ _ _ | ar hu _ _ _ => rw [ht] at hu; cases hu

theorem ShN.slice {c : Cfg T} {N : Nat} {t e : TypeId} {ds : List (D T)} (h : ShN c N t ds) (ht : c.P.underlying t = some (.slice e)) : ∃ xs : List (T e), ds = [.l e xs] ∧ (∀ x ∈ xs, ShN c N e (c.cod.enc e x)) ∧ xs.length ≤ N := by
  cases h with
  | l hu xs hx hl => rw [ht] at hu; cases hu; exact ⟨xs, rfl, hx, hl⟩
  | b hu _ | i hu _ _ | s hu _ _ | st hu _ _ _ | ar hu _ _ _ => rw [ht] at hu; cases hu

theorem ShN.struct {c : Cfg T} {N : Nat} {t : TypeId} {fs : Array Field} {ds : List (D T)} (h : ShN c N t ds) (ht : c.P.underlying t = some (.struct fs)) :
    ∃ ps : List (List (D T)), ds = ps.flatten ∧ ps.length = fs.size ∧ ∀ (i : Nat) (f : Field) (x : List (D T)), fs[i]? = some f → ps[i]? = some x → ShN c N f.type x := by
  cases h with
  | st hu ps hl hf => rw [ht] at hu; cases hu; exact ⟨ps, rfl, hl, hf⟩
  | b hu _ | i hu _ _ | s hu _ _ | l hu _ _ _ | ar hu _ _ _ => rw [ht] at hu; cases hu

theorem ShN.array {c : Cfg T} {N : Nat} {t e : TypeId} {n : Nat} {ds : List (D T)} (h : ShN c N t ds) (ht : c.P.underlying t = some (.array n e)) :
    ∃ ps : List (List (D T)), ds = ps.flatten ∧ ps.length = n ∧ ∀ x ∈ ps, ShN c N e x := by
  cases h with
  | ar hu ps hl hf => rw [ht] at hu; cases hu; exact ⟨ps, rfl, hl, hf⟩
  | b hu _ | i hu _ _ | s hu _ _ | l hu _ _ _ | st hu _ _ _ => rw [ht] at hu; cases hu

/-- The parts of a struct, one by one. -/
def ShFN (c : Cfg T) (N : Nat) : List Field → List (D T) → Prop
  | [], ds => ds = []
  | f :: fs, ds => ∃ x y, ds = x ++ y ∧ ShN c N f.type x ∧ ShFN c N fs y

theorem shFN_of {c : Cfg T} {N : Nat} : ∀ (fs : List Field) (ps : List (List (D T))), ps.length = fs.length → (∀ (i : Nat) (f : Field) (x : List (D T)), fs[i]? = some f → ps[i]? = some x → ShN c N f.type x) → ShFN c N fs ps.flatten
  | [], [], _, _ => rfl
  | f :: fs, p :: ps, hl, h => ⟨p, ps.flatten, rfl, h 0 f p rfl rfl, shFN_of fs ps (by simpa using hl) fun i f' x hf hx => h (i + 1) f' x (by simpa using hf) (by simpa using hx)⟩

theorem ShN.fields {c : Cfg T} {N : Nat} {t : TypeId} {fs : List Field} {ds : List (D T)} (h : ShN c N t ds) (ht : c.P.underlying t = some (.struct fs.toArray)) : ShFN c N fs ds := by
  obtain ⟨ps, rfl, hl, hf⟩ := h.struct ht
  exact shFN_of fs ps (by simpa using hl) fun i f x h1 h2 => hf i f x (by simpa using h1) h2

/-- There is an input that fits, at a world of one's own making. -/
theorem witness_upto {H : Type} {enc : TypeId × Value → H} {C : Checked} {os : Os} {f : FuncId} {fn : Func} {s : OpenSpec} {conds : List PathCond} {apart : Bool} {laid : List (String × DataW Unit)} (modest : Bool) (w0 : World) (args : Array Value) (hos : w0.os = os)
    (hsh : (w0.forCall (fun _ _ => 0) ⟨#[], args, []⟩).Shaped C.prog)
    (hok : Input.okWideB C.prog (w0.forCall (fun _ _ => 0) ⟨#[], args, []⟩) f ⟨#[], args, []⟩ = true)
    (hrow : s.preRow enc C.prog fn conds apart laid (w0.forCall (fun _ _ => 0) ⟨#[], args, []⟩).memory args) :
    ∃ (w : World) (tape : Tape) (i : Input), w.os = os ∧ (w.forCall tape i).Shaped C.prog ∧ i.vars = [] ∧ Input.okWide C.prog (w.forCall tape i) .any w.heap.size f i ∧
      s.preRow enc C.prog fn conds apart laid (w.forCall tape i).memory i.args ∧ ({ modest := modest } : Assume).holds C.prog (lone (Frame.enter C.prog f i.args .normal) [] (w.forCall tape i)) :=
  ⟨w0, fun _ _ => 0, ⟨#[], args, []⟩, hos, hsh, (Input.okWide_of_okWideB (base := 0) hok).1, (Input.okWide_of_okWideB hok).2, hrow, by
    simp only [Assume.holds]
    exact ⟨by simp, by simp, fun _ => Modest.zero, by simp, by simp⟩⟩

end Go.Ev
