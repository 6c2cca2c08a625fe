/- A part of the evaluator of Go code over small heaps and of its proof: no condition beyond those that each theorem names. -/
import Derived.Test.YtgoglplnajofnaaGreatDoorEvDef
import Derived.Below
import Derived.Lib.FrozenHead
namespace Go.Ev
variable {T : TypeId → Type}

/-- What an object of the small heap is in the world: blocks that are its own. -/
inductive RO where
  | dead
  | box (b : Nat)
  | arr (t : TypeId) (n : Nat) (root : Option (Nat × Nat)) (cap : Nat)
  | mp (r : Nat)
  | bl (b : Nat) (g : Option Nat)

def RO.has : RO → Nat → Prop
  | .dead, _ => False
  | .box b, x => x = b
  | .arr _ _ (some p) _, x => x = p.1
  | .arr _ _ none _, _ => False
  | .mp r, x => x = r
  | .bl b g, x => x = b ∨ g = some x

/-- What the objects are; and the blocks that others own: of these nothing is said, and they are left alone. -/
structure Eta where
  m : Nat → Option RO
  far : Nat → Prop
  /-- what is deferred, meanwhile -/
  df : List Deferred := []

instance : CoeFun Eta (fun _ => Nat → Option RO) := ⟨Eta.m⟩

def owns (η : Eta) (b : Nat) : Prop := ∃ id r, η id = some r ∧ r.has b

def at_ (b off : Nat) : Addr := ⟨b, off, none⟩

/-- What the program says of types, and how lists are read. -/
structure Rc (T : TypeId → Type) where
  cod : Cod T
  sz : TypeId → Nat
  ag : TypeId → Bool
  w0 : World
  bt : TypeId
  ut : TypeId

inductive VD (R : Rc T) (ok : Nat → Prop) (w : World) : D T → Value → Prop
  | b (p : Bool) : VD R ok w (.b p) (.bool p)
  | i (k : IntKind) (n : Int) : VD R ok w (.i k n) (.int k n)
  | s (l : List UInt8) : VD R ok w (.s l) (.string ⟨l.toArray⟩)
  | ns : VD R ok w .ns (.slice none 0 0)
  | ni : VD R ok w .ni .nilIface
  | io (t : TypeId) (v : Value) : VD R ok w .io (.iface t v)
  | ie0 : VD R ok w (.ie false) .nilIface
  | ie1 (t : TypeId) (v : Value) : VD R ok w (.ie true) (.iface t v)
  | nil (t : TypeId) (a : Option Addr) (cap : Nat) : VD R ok w (.l t []) (.slice a 0 cap)
  | l (t : TypeId) (xs : List (T t)) (b o cap : Nat) (vals : Nat → Nat → Value) (hok : ok b) (hlt : b < w.heap.size) (hcap : xs.length ≤ cap)
      (hc : ∀ (i j : Nat) (h : i < xs.length) (d : D T), (R.cod.enc t xs[i])[j]? = some d → w.cell? (at_ b (o + i * R.sz t + j)) = some (vals i j))
      (hv : ∀ (i j : Nat) (h : i < xs.length) (d : D T), (R.cod.enc t xs[i])[j]? = some d → VD R ok w d (vals i j)) :
      VD R ok w (.l t xs) (.slice (some (at_ b o)) xs.length cap)

/-- A list's elements lie in a block, from a place on. -/
def Arr (R : Rc T) (ok : Nat → Prop) (w : World) (t : TypeId) (xs : List (T t)) (b o : Nat) : Prop :=
  ∀ (i j : Nat) (h : i < xs.length) (d : D T), (R.cod.enc t xs[i])[j]? = some d → ∃ v, w.cell? (at_ b (o + i * R.sz t + j)) = some v ∧ VD R ok w d v

theorem VD.of_arr {R : Rc T} {ok : Nat → Prop} {w : World} {t : TypeId} {xs : List (T t)} {b o cap : Nat} (hok : ok b) (hlt : b < w.heap.size) (hcap : xs.length ≤ cap) (h : Arr R ok w t xs b o) :
    VD R ok w (.l t xs) (.slice (some (at_ b o)) xs.length cap) := by
  classical
  refine .l t xs b o cap (fun i j => (w.cell? (at_ b (o + i * R.sz t + j))).getD undef) hok hlt hcap ?_ ?_
  · intro i j hi d hd
    obtain ⟨v, hv, _⟩ := h i j hi d hd
    rw [hv]; rfl
  · intro i j hi d hd
    obtain ⟨v, hv, hd'⟩ := h i j hi d hd
    rw [hv]; exact hd'

theorem VD.inv_l {R : Rc T} {ok : Nat → Prop} {w : World} {t : TypeId} {xs : List (T t)} {v : Value} (h : VD R ok w (.l t xs) v) :
    ∃ a cap, v = .slice a xs.length cap ∧ xs.length ≤ cap ∧ (xs = [] ∨ ∃ b o, a = some (at_ b o) ∧ ok b ∧ b < w.heap.size ∧ Arr R ok w t xs b o) := by
  cases h with
  | nil _ a cap => exact ⟨_, _, rfl, Nat.zero_le _, .inl rfl⟩
  | l _ _ b o cap vals hok hlt hcap hc hv => exact ⟨_, _, rfl, hcap, .inr ⟨b, o, rfl, hok, hlt, fun i j hi d hd => ⟨_, hc i j hi d hd, hv i j hi d hd⟩⟩⟩

theorem cell_lt {w : World} {b off : Nat} {v : Value} (h : w.cell? (at_ b off) = some v) : b < w.heap.size := by
  unfold World.cell? at_ at h
  simp only at h
  rcases Nat.lt_or_ge b w.heap.size with h' | h'
  · exact h'
  · rw [Array.getElem?_eq_none h'] at h; cases h

theorem cell_congr {w w' : World} {b off : Nat} (h : w'.heap[b]? = w.heap[b]?) : w'.cell? (at_ b off) = w.cell? (at_ b off) := by
  unfold World.cell? at_; simp only [h]

theorem VD.mono {R : Rc T} {ok ok' : Nat → Prop} {w w' : World} {d : D T} {v : Value} (h : VD R ok w d v) (hs : w.heap.size ≤ w'.heap.size)
    (H : ∀ b, ok b → b < w.heap.size → ok' b ∧ w'.heap[b]? = w.heap[b]?) : VD R ok' w' d v := by
  induction h with
  | b => exact .b _
  | i => exact .i _ _
  | s => exact .s _
  | ns => exact .ns
  | ni => exact .ni
  | io => exact .io _ _
  | ie0 => exact .ie0
  | ie1 => exact .ie1 _ _
  | nil => exact .nil _ _ _
  | l t xs b o cap vals hok hlt hcap hc hv ih =>
    refine .l t _ b o cap vals (H b hok hlt).1 (Nat.lt_of_lt_of_le hlt hs) hcap ?_ ih
    intro i j hi d hd
    rw [cell_congr (H b hok hlt).2]; exact hc i j hi d hd

theorem Arr.mono {R : Rc T} {ok ok' : Nat → Prop} {w w' : World} {t : TypeId} {xs : List (T t)} {b o : Nat} (h : Arr R ok w t xs b o)
    (hs : w.heap.size ≤ w'.heap.size) (H : ∀ b, ok b → b < w.heap.size → ok' b ∧ w'.heap[b]? = w.heap[b]?) (hb : w'.heap[b]? = w.heap[b]?) :
    Arr R ok' w' t xs b o := by
  intro i j hi d hd
  obtain ⟨v, hv, hd'⟩ := h i j hi d hd
  exact ⟨v, by rw [cell_congr hb]; exact hv, hd'.mono hs H⟩

def rootA : Option (Nat × Nat) → Option Addr
  | some (b, o) => some (at_ b o)
  | none => none

def addN : Option (Nat × Nat) → Nat → Option Addr
  | some (b, o), n => some (at_ b (o + n))
  | none, _ => none

def isOk (η : Eta) : Nat → Prop := fun b => ¬ owns η b ∧ ¬ η.far b

/-- Numbers, texts and truth values as they lie in an interface. -/
def dval : D T → Option Value
  | .b p => some (.bool p)
  | .i k n => some (.int k n)
  | .s l => some (.string ⟨l.toArray⟩)
  | _ => none

def dvals : List (D T) → Option (List Value)
  | [] => some []
  | d :: ds => match dval d, dvals ds with
    | some x, some xs => some (x :: xs)
    | _, _ => none

mutual
def RV (R : Rc T) (η : Eta) (w : World) : V T → Value → Prop
  | .u, _ => True
  | .gd _ _ _, _ => True
  | .d x, v => VD R (isOk η) w x v
  | .agg cs, v => ∃ xs : List Value, v = .agg xs.toArray ∧ RVs R η w cs xs
  | .tup cs, v => ∃ xs : List Value, v = .tuple xs.toArray ∧ RVs R η w cs xs
  | .ptr id off, v => ∃ r a, η id = some r ∧ v = .pointer a ∧ (r = .dead ∨ ∃ b, r = .box b ∧ a = some (at_ b off))
  | .aptr id base t n ix off, v => ∃ r a, η id = some r ∧ v = .pointer a ∧ (r = .dead ∨ ∃ b, r = .box b ∧ ix < n ∧ a = some (at_ b (base + ix * R.sz t + off)))
  | .eptr id ix off, v => ∃ r a, η id = some r ∧ v = .pointer a ∧ (r = .dead ∨ ∃ t n b o cap, r = .arr t n (some (b, o)) cap ∧ ix < n ∧ a = some (at_ b (o + ix * R.sz t + off)))
  | .dptr t xs ix off, v => ∃ b o, isOk η b ∧ b < w.heap.size ∧ ix < xs.length ∧ Arr R (isOk η) w t xs b o ∧ v = .pointer (some (at_ b (o + ix * R.sz t + off)))
  | .sl id none, v => ∃ r a n c, η id = some r ∧ v = .slice a n c ∧ (r = .dead ∨ ∃ t root, r = .arr t n root c ∧ (a = rootA root ∨ c = 0))
  | .sl id (some (o, l)), v => ∃ r a c, η id = some r ∧ v = .slice a l c ∧ (r = .dead ∨ ∃ t n root cap, r = .arr t n root cap ∧ o + l ≤ n ∧ c = cap - o ∧ (o < cap → a = addN root (o * R.sz t)))
  | .mp id, v => ∃ r a, η id = some r ∧ v = .map a ∧ (r = .dead ∨ ∃ m, r = .mp m ∧ a = some m)
  | .bp id, v => ∃ r a, η id = some r ∧ v = .pointer a ∧ (r = .dead ∨ ∃ b g, r = .bl b g ∧ a = some (at_ b 0))
  | .gp g off, v => v = .pointer (some (at_ g off))
  | .fn f caps, v => ∃ xs : List Value, v = .func (.func f) #[] xs.toArray ∧ RVs R η w caps xs
  | .np, v => v = .pointer none
  | .pv t ds, v => ∃ x, v = .iface t x ∧ ∃ vs, dvals ds = some vs ∧ (R.ag t = true ∧ x = .agg vs.toArray ∨ R.ag t = false ∧ vs = [x])
def RVs (R : Rc T) (η : Eta) (w : World) : List (V T) → List Value → Prop
  | [], vs => vs = []
  | c :: cs, vs => ∃ x xs, vs = x :: xs ∧ RV R η w c x ∧ RVs R η w cs xs
end

def kval : (kk : Option IntKind) → KTy kk → Value
  | none, l => .string ⟨l.toArray⟩
  | some k, n => .int k n

/-- A map's entries, one by one. -/
def RMap (R : Rc T) (η : Eta) (w : World) (kk : Option IntKind) (vt : TypeId) : List (KTy kk × T vt) → List MapEntry → Prop
  | [], ms => ms = []
  | e :: es, ms => ∃ m ms', ms = m :: ms' ∧ m.key = kval kk e.1 ∧ RV R η w (valOf (R.ag vt) (R.cod.enc vt e.2)) m.val ∧ RMap R η w kk vt es ms'

def relObj (R : Rc T) (η : Eta) (w : World) : Obj T → RO → Prop
  | .dead, r => r = .dead
  | .box cs, r => ∃ b ce e, r = .box b ∧ w.heap[b]? = some (.cells ce e (0, 0)) ∧ RVs R η w cs ce.toList
  | .arr t xs, r => ∃ root cap, r = .arr t xs.length root cap ∧ match root with
    | none => xs = [] ∧ cap = 0
    | some (b, o) => ∃ ce e fr, w.heap[b]? = some (.cells ce e fr) ∧ o + cap * R.sz t ≤ ce.size ∧ xs.length ≤ cap ∧ (∀ i, i < ce.size → ¬ (fr.1 ≤ i ∧ i < fr.2)) ∧
        Arr R (isOk η) w t xs b o
  | .mp kk vt es, r => ∃ b ms cl, r = .mp b ∧ w.heap[b]? = some (.map ms cl) ∧ RMap R η w kk vt es ms.toList
  | .bl s, r => ∃ b g p v, r = .bl b g ∧ w.heap[b]? = some (.cells #[p, v] R.bt (0, 0)) ∧ (p = .pointer none ∨ p = .pointer (some (at_ b 0))) ∧
      w.ownsRowF 0 R.ut 1 v s.length (s.map fun x => Value.int .u8 x.toNat) ∧ v.ownBlock = g ∧ g ≠ some b
  | .unk, _ => True

structure RelH (R : Rc T) (η : Eta) (H : List (Obj T)) (w : World) : Prop where
  obj : ∀ id r o, η id = some r → H[id]? = some o → relObj R η w o r
  lt : ∀ id r b, η id = some r → r.has b → b < w.heap.size
  inj : ∀ id id' r r' b, η id = some r → η id' = some r' → r.has b → r'.has b → id = id'
  nf : ∀ id r b, η id = some r → r.has b → ¬ η.far b
  fl : ∀ b, η.far b → b < w.heap.size
  old : ∀ b, b < R.w0.heap.size → ¬ owns η b ∧ ¬ η.far b ∧ b < w.heap.size ∧ w.heap[b]? = R.w0.heap[b]?

/-- What no operation touches. -/
structure Rest (w w' : World) : Prop where
  os : w'.os = w.os
  tape : w'.tape = w.tape
  out : w'.output = w.output

theorem Rest.refl (w : World) : Rest w w := ⟨rfl, rfl, rfl⟩

theorem Rest.trans {w w' w'' : World} (h : Rest w w') (h' : Rest w' w'') : Rest w w'' :=
  ⟨h'.os.trans h.os, h'.tape.trans h.tape, h'.out.trans h.out⟩

/-- The world behind: what is not one's own is as it was. -/
structure Evo (η η' : Eta) (w w' : World) : Prop where
  size : w.heap.size ≤ w'.heap.size
  same : ∀ b, b < w.heap.size → ¬ owns η b → w'.heap[b]? = w.heap[b]?
  own : ∀ b, b < w.heap.size → owns η' b → owns η b
  far : η'.far = η.far
  df : η'.df = η.df
  rest : Rest w w'

theorem Evo.refl (η : Eta) (w : World) : Evo η η w w := ⟨Nat.le_refl _, fun _ _ _ => rfl, fun _ _ h => h, rfl, rfl, Rest.refl w⟩

theorem Evo.trans {η η' η'' : Eta} {w w' w'' : World} (h : Evo η η' w w') (h' : Evo η' η'' w' w'') : Evo η η'' w w'' where
  size := Nat.le_trans h.size h'.size
  same := fun b hb ho => by
    rw [h'.same b (Nat.lt_of_lt_of_le hb h.size) (fun h2 => ho (h.own b hb h2)), h.same b hb ho]
  own := fun b hb ho => h.own b hb (h'.own b (Nat.lt_of_lt_of_le hb h.size) ho)
  far := by rw [h'.far, h.far]
  df := by rw [h'.df, h.df]
  rest := h.rest.trans h'.rest

theorem Evo.ok {η η' : Eta} {w w' : World} (h : Evo η η' w w') : ∀ b, isOk η b → b < w.heap.size → isOk η' b ∧ w'.heap[b]? = w.heap[b]? :=
  fun b hb hlt => ⟨⟨fun ho => hb.1 (h.own b hlt ho), by rw [h.far]; exact hb.2⟩, h.same b hlt hb.1⟩

/-- What a name names later: the same, or what is dead; a builder may have another buffer. -/
def Now (η' : Eta) (id : Nat) (r : RO) : Prop := η' id = some r ∨ η' id = some .dead ∨ ∃ b g g', r = .bl b g ∧ η' id = some (.bl b g')

def Keeps (η η' : Eta) : Prop := ∀ id r, η id = some r → Now η' id r

theorem Keeps.refl (η : Eta) : Keeps η η := fun _ _ h => .inl h

theorem Now.then {η' η'' : Eta} {id : Nat} {r : RO} (h : Now η' id r) (h' : ∀ r, η' id = some r → Now η'' id r) : Now η'' id r := by
  rcases h with h1 | h1 | ⟨b, g, g', rfl, h1⟩
  · exact h' r h1
  · rcases h' _ h1 with h2 | h2 | ⟨_, _, _, h2, _⟩
    · exact .inr (.inl h2)
    · exact .inr (.inl h2)
    · cases h2
  · rcases h' _ h1 with h2 | h2 | ⟨_, _, _, h2, h3⟩
    · exact .inr (.inr ⟨b, g, g', rfl, h2⟩)
    · exact .inr (.inl h2)
    · cases h2; exact .inr (.inr ⟨_, _, _, rfl, h3⟩)

theorem Now.eq {η' η'' : Eta} {id : Nat} {r : RO} (h : η'.m id = η''.m id) (h' : Now η'' id r) : Now η' id r := by
  unfold Now at h' ⊢
  rw [h]; exact h'

theorem Keeps.trans {η η' η'' : Eta} (h : Keeps η η') (h' : Keeps η' η'') : Keeps η η'' := fun id r hr => (h id r hr).then fun r hr => h' id r hr

/-- The names of the first objects stay. -/
def KeepsTo (m : Nat) (η η' : Eta) : Prop := ∀ id, id < m → ∀ r, η id = some r → Now η' id r

theorem Keeps.to {η η' : Eta} (h : Keeps η η') (m : Nat) : KeepsTo m η η' := fun id _ r hr => h id r hr

theorem KeepsTo.trans {m : Nat} {η η' η'' : Eta} (h : KeepsTo m η η') (h' : KeepsTo m η' η'') : KeepsTo m η η'' := fun id hid r hr => (h id hid r hr).then fun r hr => h' id hid r hr

theorem keep1 {α : Type} {η η' : Eta} (h : Keeps η η') {id : Nat} {V : α → Prop} {P : RO → α → Prop} (hs : ∀ b g g' a, P (.bl b g) a → P (.bl b g') a) (hP : ∃ r a, η id = some r ∧ V a ∧ (r = .dead ∨ P r a)) :
    ∃ r a, η' id = some r ∧ V a ∧ (r = .dead ∨ P r a) := by
  obtain ⟨r, a, hr, hv, hp⟩ := hP
  rcases h id r hr with h1 | h1 | ⟨b, g, g', rfl, h1⟩
  · exact ⟨r, a, h1, hv, hp⟩
  · exact ⟨_, a, h1, hv, .inl rfl⟩
  · refine ⟨_, a, h1, hv, .inr ?_⟩
    rcases hp with hp | hp
    · cases hp
    · exact hs b g g' a hp
theorem keep2 {α β : Type} {η η' : Eta} (h : Keeps η η') {id : Nat} {V : α → β → Prop} {P : RO → α → β → Prop} (hs : ∀ b g a c, ¬ P (.bl b g) a c) (hP : ∃ r a b, η id = some r ∧ V a b ∧ (r = .dead ∨ P r a b)) :
    ∃ r a b, η' id = some r ∧ V a b ∧ (r = .dead ∨ P r a b) := by
  obtain ⟨r, a, b, hr, hv, hp⟩ := hP
  rcases h id r hr with h1 | h1 | ⟨b', g, g', rfl, h1⟩
  · exact ⟨r, a, b, h1, hv, hp⟩
  · exact ⟨_, a, b, h1, hv, .inl rfl⟩
  · rcases hp with hp | hp
    · cases hp
    · exact (hs _ _ _ _ hp).elim
theorem keep3 {α β γ : Type} {η η' : Eta} (h : Keeps η η') {id : Nat} {V : α → β → γ → Prop} {P : RO → α → β → γ → Prop} (hs : ∀ b g a c d, ¬ P (.bl b g) a c d) (hP : ∃ r a b c, η id = some r ∧ V a b c ∧ (r = .dead ∨ P r a b c)) :
    ∃ r a b c, η' id = some r ∧ V a b c ∧ (r = .dead ∨ P r a b c) := by
  obtain ⟨r, a, b, c, hr, hv, hp⟩ := hP
  rcases h id r hr with h1 | h1 | ⟨b', g, g', rfl, h1⟩
  · exact ⟨r, a, b, c, h1, hv, hp⟩
  · exact ⟨_, a, b, c, h1, hv, .inl rfl⟩
  · rcases hp with hp | hp
    · cases hp
    · exact (hs _ _ _ _ _ hp).elim

mutual
theorem RV.mono {R : Rc T} {η η' : Eta} {w w' : World} (he : Evo η η' w w') (hk : Keeps η η') : ∀ (v : V T) (x : Value), RV R η w v x → RV R η' w' v x
  | .u, _, _ => by simp only [RV]
  | .gd _ _ _, _, _ => by simp only [RV]
  | .d x, v, h => by simp only [RV] at h ⊢; exact h.mono he.size he.ok
  | .agg cs, v, h => by
    simp only [RV] at h ⊢
    obtain ⟨xs, rfl, h⟩ := h
    exact ⟨xs, rfl, RVs.mono he hk cs xs h⟩
  | .tup cs, v, h => by
    simp only [RV] at h ⊢
    obtain ⟨xs, rfl, h⟩ := h
    exact ⟨xs, rfl, RVs.mono he hk cs xs h⟩
  | .ptr id off, v, h => by simp only [RV] at h ⊢; exact keep1 hk (fun _ _ _ _ ⟨_, h, _⟩ => by cases h) h
  | .aptr id base t n ix off, v, h => by simp only [RV] at h ⊢; exact keep1 hk (fun _ _ _ _ ⟨_, h, _⟩ => by cases h) h
  | .eptr id ix off, v, h => by simp only [RV] at h ⊢; exact keep1 hk (fun _ _ _ _ ⟨_, _, _, _, _, h, _⟩ => by cases h) h
  | .dptr t xs ix off, v, h => by
    simp only [RV] at h ⊢
    obtain ⟨b, o, h1, h2, h3, h4, h5⟩ := h
    exact ⟨b, o, (he.ok b h1 h2).1, Nat.lt_of_lt_of_le h2 he.size, h3, h4.mono he.size he.ok (he.ok b h1 h2).2, h5⟩
  | .sl id none, v, h => by simp only [RV] at h ⊢; exact keep3 hk (fun _ _ _ _ _ ⟨_, _, h, _⟩ => by cases h) h
  | .sl id (some (o, l)), v, h => by simp only [RV] at h ⊢; exact keep2 hk (fun _ _ _ _ ⟨_, _, _, _, h, _⟩ => by cases h) h
  | .mp id, v, h => by simp only [RV] at h ⊢; exact keep1 hk (fun _ _ _ _ ⟨_, h, _⟩ => by cases h) h
  | .bp id, v, h => by simp only [RV] at h ⊢; exact keep1 hk (fun _ _ _ _ ⟨_, _, h, h'⟩ => by cases h; exact ⟨_, _, rfl, h'⟩) h
  | .gp g off, v, h => by simpa only [RV] using h
  | .fn f caps, v, h => by
    simp only [RV] at h ⊢
    obtain ⟨xs, rfl, h⟩ := h
    exact ⟨xs, rfl, RVs.mono he hk caps xs h⟩
  | .np, v, h => by simpa only [RV] using h
  | .pv _ _, v, h => by simpa only [RV] using h
theorem RVs.mono {R : Rc T} {η η' : Eta} {w w' : World} (he : Evo η η' w w') (hk : Keeps η η') : ∀ (vs : List (V T)) (xs : List Value), RVs R η w vs xs → RVs R η' w' vs xs
  | [], _, h => by simpa only [RVs] using h
  | v :: vs, xs, h => by
    simp only [RVs] at h ⊢
    obtain ⟨x, xs', rfl, h1, h2⟩ := h
    exact ⟨x, xs', rfl, RV.mono he hk v x h1, RVs.mono he hk vs xs' h2⟩
end

/-- The same names, with other calls deferred. -/
def Eta.to (η : Eta) (d : List Deferred) : Eta := ⟨η.m, η.far, d⟩

mutual
theorem RV.dfr {R : Rc T} {η : Eta} {w : World} (d : List Deferred) : ∀ (v : V T) (x : Value), RV R η w v x → RV R (η.to d) w v x
  | .u, _, _ => by simp only [RV]
  | .gd _ _ _, _, _ => by simp only [RV]
  | .d x, v, h => by simp only [RV] at h ⊢; exact h
  | .agg cs, v, h => by
    simp only [RV] at h ⊢
    obtain ⟨xs, rfl, h⟩ := h
    exact ⟨xs, rfl, RVs.dfr d cs xs h⟩
  | .tup cs, v, h => by
    simp only [RV] at h ⊢
    obtain ⟨xs, rfl, h⟩ := h
    exact ⟨xs, rfl, RVs.dfr d cs xs h⟩
  | .ptr id off, v, h => by simp only [RV] at h ⊢; exact h
  | .aptr id base t n ix off, v, h => by simp only [RV] at h ⊢; exact h
  | .eptr id ix off, v, h => by simp only [RV] at h ⊢; exact h
  | .dptr t xs ix off, v, h => by simp only [RV] at h ⊢; exact h
  | .sl id none, v, h => by simp only [RV] at h ⊢; exact h
  | .sl id (some (o, l)), v, h => by simp only [RV] at h ⊢; exact h
  | .mp id, v, h => by simp only [RV] at h ⊢; exact h
  | .bp id, v, h => by simp only [RV] at h ⊢; exact h
  | .gp g off, v, h => by simp only [RV] at h ⊢; exact h
  | .fn f caps, v, h => by
    simp only [RV] at h ⊢
    obtain ⟨xs, rfl, h⟩ := h
    exact ⟨xs, rfl, RVs.dfr d caps xs h⟩
  | .np, v, h => by simp only [RV] at h ⊢; exact h
  | .pv _ _, v, h => by simp only [RV] at h ⊢; exact h
theorem RVs.dfr {R : Rc T} {η : Eta} {w : World} (d : List Deferred) : ∀ (vs : List (V T)) (xs : List Value), RVs R η w vs xs → RVs R (η.to d) w vs xs
  | [], _, h => by simpa only [RVs] using h
  | v :: vs, xs, h => by
    simp only [RVs] at h
    obtain ⟨x, xs', rfl, h1, h2⟩ := h
    simp only [RVs]
    exact ⟨x, xs', rfl, RV.dfr d v x h1, RVs.dfr d vs xs' h2⟩
end

theorem RMap.dfr {R : Rc T} {η : Eta} {w : World} (d : List Deferred) {kk : Option IntKind} {vt : TypeId} : ∀ (es : List (KTy kk × T vt)) (ms : List MapEntry), RMap R η w kk vt es ms → RMap R (η.to d) w kk vt es ms
  | [], _, h => h
  | e :: es, ms, h => by
    obtain ⟨m, ms', h1, h2, h3, h4⟩ := h
    exact ⟨m, ms', h1, h2, RV.dfr d _ _ h3, RMap.dfr d es ms' h4⟩

theorem relObj.dfr {R : Rc T} {η : Eta} {w : World} (d : List Deferred) : ∀ {o : Obj T} {r : RO}, relObj R η w o r → relObj R (η.to d) w o r
  | .dead, _, h => h
  | .unk, _, h => h
  | .box cs, _, ⟨b, ce, e, h1, h2, h3⟩ => ⟨b, ce, e, h1, h2, RVs.dfr d _ _ h3⟩
  | .arr _ _, _, h => h
  | .mp _ _ _, _, ⟨b, ms, cl, h1, h2, h3⟩ => ⟨b, ms, cl, h1, h2, RMap.dfr d _ _ h3⟩
  | .bl _, _, h => h

theorem RelH.dfr {R : Rc T} {η : Eta} {H : List (Obj T)} {w : World} (d : List Deferred) (h : RelH R η H w) : RelH R (η.to d) H w where
  obj := fun id r o hr ho => relObj.dfr d (h.obj id r o hr ho)
  lt := h.lt
  inj := h.inj
  nf := h.nf
  fl := h.fl
  old := h.old

theorem RMap.mono {R : Rc T} {η η' : Eta} {w w' : World} (he : Evo η η' w w') (hk : Keeps η η') {kk : Option IntKind} {vt : TypeId} : ∀ (es : List (KTy kk × T vt)) (ms : List MapEntry), RMap R η w kk vt es ms → RMap R η' w' kk vt es ms
  | [], _, h => h
  | e :: es, ms, h => by
    obtain ⟨m, ms', h1, h2, h3, h4⟩ := h
    exact ⟨m, ms', h1, h2, RV.mono he hk _ _ h3, RMap.mono he hk es ms' h4⟩

theorem RVs.length {R : Rc T} {η : Eta} {w : World} : ∀ {vs : List (V T)} {xs : List Value}, RVs R η w vs xs → xs.length = vs.length
  | [], _, h => by simp only [RVs] at h; simp [h]
  | v :: vs, xs, h => by
    simp only [RVs] at h
    obtain ⟨x, xs', rfl, _, h2⟩ := h
    simp [RVs.length h2]

theorem RVs.get {R : Rc T} {η : Eta} {w : World} : ∀ {vs : List (V T)} {xs : List Value} (i : Nat) {v : V T}, RVs R η w vs xs → vs[i]? = some v → ∃ x, xs[i]? = some x ∧ RV R η w v x
  | [], _, i, v, _, hv => by simp at hv
  | c :: vs, xs, 0, v, h, hv => by
    simp only [RVs] at h
    obtain ⟨x, xs', rfl, h1, _⟩ := h
    simp at hv; subst hv
    exact ⟨x, rfl, h1⟩
  | c :: vs, xs, i + 1, v, h, hv => by
    simp only [RVs] at h
    obtain ⟨x, xs', rfl, _, h2⟩ := h
    simp at hv
    simpa using RVs.get i h2 hv

theorem RVs.drop {R : Rc T} {η : Eta} {w : World} : ∀ {vs : List (V T)} {xs : List Value} (n : Nat), RVs R η w vs xs → RVs R η w (vs.drop n) (xs.drop n)
  | _, _, 0, h => by simpa using h
  | [], xs, n + 1, h => by simp only [RVs] at h; subst h; simp [RVs]
  | c :: vs, xs, n + 1, h => by
    simp only [RVs] at h
    obtain ⟨x, xs', rfl, _, h2⟩ := h
    simpa using RVs.drop n h2

theorem RVs.take {R : Rc T} {η : Eta} {w : World} : ∀ {vs : List (V T)} {xs : List Value} (n : Nat), RVs R η w vs xs → RVs R η w (vs.take n) (xs.take n)
  | _, _, 0, h => by simp [RVs]
  | [], xs, n + 1, h => by simp only [RVs] at h; subst h; simp [RVs]
  | c :: vs, xs, n + 1, h => by
    simp only [RVs] at h
    obtain ⟨x, xs', rfl, h1, h2⟩ := h
    simp only [List.take_succ_cons, RVs]
    exact ⟨x, _, rfl, h1, RVs.take n h2⟩

theorem RVs.append {R : Rc T} {η : Eta} {w : World} : ∀ {vs us : List (V T)} {xs ys : List Value}, RVs R η w vs xs → RVs R η w us ys → RVs R η w (vs ++ us) (xs ++ ys)
  | [], _, xs, ys, h, h' => by simp only [RVs] at h; subst h; simpa using h'
  | c :: vs, us, xs, ys, h, h' => by
    simp only [RVs] at h
    obtain ⟨x, xs', rfl, h1, h2⟩ := h
    simp only [List.cons_append, RVs]
    exact ⟨x, _, rfl, h1, RVs.append h2 h'⟩

theorem RVs.set {R : Rc T} {η : Eta} {w : World} : ∀ {vs : List (V T)} {xs : List Value} (i : Nat) {v : V T} {x : Value}, RVs R η w vs xs → RV R η w v x → RVs R η w (vs.set i v) (xs.set i x)
  | [], xs, i, v, x, h, _ => by simp only [RVs] at h; subst h; simp [RVs]
  | c :: vs, xs, 0, v, x, h, hv => by
    simp only [RVs] at h
    obtain ⟨y, xs', rfl, _, h2⟩ := h
    simp only [List.set_cons_zero, RVs]
    exact ⟨x, xs', rfl, hv, h2⟩
  | c :: vs, xs, i + 1, v, x, h, hv => by
    simp only [RVs] at h
    obtain ⟨y, xs', rfl, h1, h2⟩ := h
    simp only [List.set_cons_succ, RVs]
    exact ⟨y, _, rfl, h1, RVs.set i h2 hv⟩

theorem ownsRowF_same {w w' : World} {e : TypeId} {v : Value} {n : Nat} {xs : List Value} (h : w.ownsRowF 0 e 1 v n xs) (hg : ∀ g, v.ownBlock = some g → w'.heap[g]? = w.heap[g]?) : w'.ownsRowF 0 e 1 v n xs := by
  refine ⟨h.1, ?_⟩
  rcases h.2 with hn | ⟨g, cap, cur, fz, rfl, hb, hgg, rest⟩
  · exact .inl hn
  · exact .inr ⟨g, cap, cur, fz, rfl, hb, by rw [hg g rfl]; exact hgg, rest⟩

theorem RelH.oldEvo {R : Rc T} {η η' : Eta} {H : List (Obj T)} {w w' : World} (h : RelH R η H w) (he : Evo η η' w w') :
    ∀ b, b < R.w0.heap.size → ¬ owns η' b ∧ ¬ η'.far b ∧ b < w'.heap.size ∧ w'.heap[b]? = R.w0.heap[b]? := fun b hb => by
  obtain ⟨h1, h2, h3, h4⟩ := h.old b hb
  exact ⟨fun ho => h1 (he.own b h3 ho), by rw [he.far]; exact h2, Nat.lt_of_lt_of_le h3 he.size, (he.same b h3 h1).trans h4⟩

def rc (c : Cfg T) : Rc T := ⟨c.cod, c.P.cellsOf, isAg c.P, c.w0, c.bt, c.ut⟩

/-- What is asked of the types' own reading. -/
inductive leD : D T → D T → Prop
  | refl (d : D T) : leD d d
  | ns (t : TypeId) : leD .ns (.l t [])

inductive leDs : List (D T) → List (D T) → Prop
  | nil : leDs [] []
  | cons {d d' : D T} {ds ds' : List (D T)} : leD d d' → leDs ds ds' → leDs (d :: ds) (d' :: ds')

structure CodOk (R : Rc T) : Prop where
  len : ∀ t, R.cod.kn t = true → ∀ x, (R.cod.enc t x).length = R.sz t
  dec : ∀ t ds x, R.cod.dec t ds = some x → leDs ds (R.cod.enc t x)

theorem leD.vd {R : Rc T} {ok : Nat → Prop} {w : World} {d d' : D T} (h : leD d d') {v : Value} (hv : VD R ok w d v) : VD R ok w d' v := by
  cases h with
  | refl => exact hv
  | ns t => cases hv; exact .nil _ _ _

theorem leDs.length {ds ds' : List (D T)} (h : leDs ds ds') : ds'.length = ds.length := by
  induction h with
  | nil => rfl
  | cons _ _ ih => simp [ih]

theorem leDs.get {ds ds' : List (D T)} (h : leDs ds ds') : ∀ (i : Nat) (d' : D T), ds'[i]? = some d' → ∃ d, ds[i]? = some d ∧ leD d d' := by
  induction h with
  | nil => intro i d' h; simp at h
  | cons h1 _ ih =>
    intro i d' hi
    cases i with
    | zero => simp at hi; subst hi; exact ⟨_, rfl, h1⟩
    | succ i => simpa using ih i d' (by simpa using hi)

end Go.Ev
