/- A part of the evaluator of Go code over small heaps and of its proof: no condition beyond those that each theorem names. -/
import Derived.Test.YtafbhggbkhckaaaEvLib
import Derived.Test.YtafbhggbkhckaaaProg
import Derived.KernelRfl
set_option linter.unusedVariables false
namespace Go.Ev.Cas
noncomputable section
open Go.Proofs

def T : TypeId → Type
  | 3 => Int
  | _ => Unit

def enc : (t : TypeId) → T t → List (D T)
  | 3, x => [.i .i64 x]
  | _, _ => []

def dec : (t : TypeId) → List (D T) → Option (T t)
  | 3, [.i .i64 x] => some x
  | _, _ => none

def dflt : (t : TypeId) → T t
  | 3 => (0 : Int)
  | 0 => () | 1 => () | 2 => () | _ + 4 => ()

def cod : Cod T := ⟨fun t => t.beq 3, enc, dec, dflt⟩
def cfg (t : Tab T) : Cfg T := ⟨Try.prog, cod, t, fun _ => false⟩

structure G where
  (n v : List UInt8) (o : Int) (im : Bool) (w p : Int)

def gV (g : G) : V T := .agg [.d (.s g.n), .d (.s g.v), .d (.i .i64 g.o), .d (.b g.im), .d (.i .i64 g.w), .d (.i .i64 g.p)]
def iV (x : Int) : V T := .d (.i .i64 x)
def bV (x : Bool) : V T := .d (.b x)

def ioG : Io T G where
  enc g := ([gV g], [])
  pat
    | ([.agg [.d (.s n), .d (.s v), .d (.i .i64 o), .d (.b im), .d (.i .i64 w), .d (.i .i64 p)]], []) => some ⟨n, v, o, im, w, p⟩
    | _ => none
  ok z v h := by split at h <;> cases h; rfl
def ioGG : Io T (G × G) where
  enc g := ([gV g.1, gV g.2], [])
  pat
    | ([.agg [.d (.s n), .d (.s v), .d (.i .i64 o), .d (.b im), .d (.i .i64 w), .d (.i .i64 p)], .agg [.d (.s n'), .d (.s v'), .d (.i .i64 o'), .d (.b im'), .d (.i .i64 w'), .d (.i .i64 p')]], []) =>
      some (⟨n, v, o, im, w, p⟩, ⟨n', v', o', im', w', p'⟩)
    | _ => none
  ok z v h := by split at h <;> cases h; rfl
def ioGGG : Io T (G × G × G) where
  enc g := ([gV g.1, gV g.2.1, gV g.2.2], [])
  pat
    | ([.agg [.d (.s n), .d (.s v), .d (.i .i64 o), .d (.b im), .d (.i .i64 w), .d (.i .i64 p)], .agg [.d (.s n'), .d (.s v'), .d (.i .i64 o'), .d (.b im'), .d (.i .i64 w'), .d (.i .i64 p')],
        .agg [.d (.s n''), .d (.s v''), .d (.i .i64 o''), .d (.b im''), .d (.i .i64 w''), .d (.i .i64 p'')]], []) =>
      some (⟨n, v, o, im, w, p⟩, ⟨n', v', o', im', w', p'⟩, ⟨n'', v'', o'', im'', w'', p''⟩)
    | _ => none
  ok z v h := by split at h <;> cases h; rfl
def ioI : Io T Int where
  enc x := ([iV x], [])
  pat
    | ([.d (.i .i64 x)], []) => some x
    | _ => none
  ok z v h := by split at h <;> cases h; rfl
def ioII : Io T (Int × Int) where
  enc x := ([iV x.1, iV x.2], [])
  pat
    | ([.d (.i .i64 x), .d (.i .i64 y)], []) => some (x, y)
    | _ => none
  ok z v h := by split at h <;> cases h; rfl
def ioB : Io T Bool where
  enc x := ([bV x], [])
  pat
    | ([.d (.b x)], []) => some x
    | _ => none
  ok z v h := by split at h <;> cases h; rfl
def io0 : Io T Unit where
  enc x := ([], [])
  pat
    | ([], []) => some ()
    | _ => none
  ok z v h := by split at h <;> cases h; rfl
def ioL : Io T (List Int) where
  enc x := ([.d (.l 3 (x : List (T 3)))], [])
  pat
    | ([.d (.l t x)], []) => if h : t = 3 then some (h ▸ x : List (T 3)) else none
    | _ => none
  ok z v h := by
    split at h
    · split at h
      · rename_i h'; subst h'; cases h; rfl
      · cases h
    · cases h

def rank (g : G) : Option Int := cond (!g.im) (some g.o) (cond (g.o == 1) (some 3) (cond (g.o == 2) (some 4) (some 5)))
def isNaN (x : Int) : Option Bool := some (!(x == x))
def cmpI (z : Int × Int) : Option Int :=
  (isNaN z.1).bind fun xn => (isNaN z.2).bind fun yn => cond xn (cond yn (some 0) (some (-1))) (cond yn (some 1) (cond (decide (z.1 < z.2)) (some (-1)) (cond (decide (z.1 > z.2)) (some 1) (some 0))))
def or_l : Nat → Int → List Int → Int → Int → (Int → Option Int) → Option Int
  | 0, _, _, _, _, _ => none
  | k + 1, z, xs, n, i, kx => cond (decide (i < n)) (cond (decide (0 ≤ i ∧ i < (xs.length : Int))) (cond (!((xs.getD i.toNat 0) == z)) (some (xs.getD i.toNat 0)) (or_l k z xs n (IntKind.wrap .i64 (i + 1)) kx)) none) (kx z)
def or_ (k : Nat) (xs : List Int) : Option Int := or_l k 0 xs xs.length 0 fun z => some z
def compare (k : Nat) (z : G × G) : Option Int :=
  (rank z.1).bind fun r1 => (rank z.2).bind fun r2 => (cmpI (r1, r2)).bind fun c1 => (cmpI (z.1.w, z.2.w)).bind fun c2 => (cmpI (z.1.p, z.2.p)).bind fun c3 =>
    (or_ k [c1, c2, c3]).bind fun x => some x
def less (k : Nat) (z : G × G) : Option Bool := (compare k z).bind fun c => some (decide (c < 0))
def own (k : Nat) (_ : Unit) : Option Bool :=
  (less k (⟨[], [], 1, false, 0, 0⟩, ⟨[], [], 2, false, 0, 0⟩)).bind fun x =>
    (cond x (less k (⟨[], [], 1, true, 0, 0⟩, ⟨[], [], 2, false, 0, 0⟩)) (some false)).bind fun y => some (cond x (!y) false)
def total (k : Nat) (z : G × G × G) : Option Bool :=
  (own k ()).bind fun fact => (less k (z.1, z.2.1)).bind fun ab => (less k (z.2.1, z.1)).bind fun ba => (less k (z.2.1, z.2.2)).bind fun bc => (less k (z.1, z.2.2)).bind fun ac =>
    (less k (z.2.2, z.1)).bind fun ca => (less k (z.2.2, z.2.1)).bind fun cb => (less k (z.1, z.1)).bind fun aa =>
      cond (cond (cond aa true (cond ab ba false)) true (cond (cond ab bc false) (!ac) false)) (some false)
        (some (cond fact (cond (cond ab true ba) true (cond (ac == bc) (ca == cb) false)) false))

def t0 : Tab T := noTab
def t1 : Tab T := addTab 34 (line ioG ioI 0 rank) t0
def t2 : Tab T := addTab 37 (line ioI ioB false isNaN) t1
def t3 : Tab T := addTab 33 (line ioII ioI 0 cmpI) t2
def t4 (k : Nat) : Tab T := addTab 32 (line ioL ioI 0 (or_ k)) t3
def t5 (k : Nat) : Tab T := addTab 23 (line ioGG ioI 0 (compare k)) (t4 k)
def t6 (k : Nat) : Tab T := addTab 13 (line ioGG ioB false (less k)) (t5 k)
def t7 (k : Nat) : Tab T := addTab 12 (line io0 ioB false (own k)) (t6 k)

def noCuts {ρ : Type} : Cuts T ρ := fun _ => none
def body (f : Func) : Code := match f.body with | some c => c | none => .skip

theorem e34 (g : G) : rank g = runK (cfg t0) Try.f34.ntmps (retK (cfg t0) Try.f34.results.toList 0 [] ioI.pat) (annot noCuts (body Try.f34)) (entry (ioG.enc g).1 (ioG.enc g).2) (endK (retK (cfg t0) Try.f34.results.toList 0 [] ioI.pat)) := by
  kernel_rfl
theorem e37 (x : Int) : isNaN x = runK (cfg t1) Try.f37.ntmps (retK (cfg t1) Try.f37.results.toList 0 [] ioB.pat) (annot noCuts (body Try.f37)) (entry (ioI.enc x).1 (ioI.enc x).2) (endK (retK (cfg t1) Try.f37.results.toList 0 [] ioB.pat)) := by
  kernel_rfl
theorem e33 (x : Int × Int) : cmpI x = runK (cfg t2) Try.f33.ntmps (retK (cfg t2) Try.f33.results.toList 0 [] ioI.pat) (annot noCuts (body Try.f33)) (entry (ioII.enc x).1 (ioII.enc x).2) (endK (retK (cfg t2) Try.f33.results.toList 0 [] ioI.pat)) := by
  kernel_rfl


/-- The loop of cmp.Or. -/
def lv32 : List Nat := [3, 6, 7, 8]
def nf32 (v : Int × List Int × Int × Int) : List (V T) × List (Obj T) := ([iV v.1, .d (.l 3 (v.2.1 : List (T 3))), iV v.2.2.1, iV v.2.2.2], [])
def pat32 : List (V T) × List (Obj T) → Option (Int × List Int × Int × Int)
  | ([.d (.i .i64 z), .d (.l t xs), .d (.i .i64 n), .d (.i .i64 i)], []) => if h : t = 3 then some (z, (h ▸ xs : List (T 3)), n, i) else none
  | _ => none
theorem pat32_ok (z v) (h : pat32 z = some v) : z = nf32 v := by
  unfold pat32 at h
  split at h
  · split at h
    · rename_i h'; subst h'; cases h; rfl
    · cases h
  · cases h
def xn32 : Ex → Option (List Nat × List Sp)
  | .exit 0 => some ([3], [])
  | _ => none
def L32 (n : Nat) (v : Int × List Int × Int × Int) (K : Ex → St T → Option Int) : Option Int :=
  or_l n v.1 v.2.1 v.2.2.1 v.2.2.2 fun z => K (.exit 0) (mkSt [3] ([iV z], []))
def loopBody : Nat → Code → Code
  | _, .loop c => c
  | 0, _ => .skip
  | n + 1, .seq a b => match loopBody n a with
    | .skip => loopBody n b
    | c => c
  | n + 1, .block _ a => loopBody n a
  | _, _ => .skip
def lb32 : Code := loopBody 10 (body Try.f32)
def kr32 : St T → Option Int := retK (cfg t3) Try.f32.results.toList 0 [] ioI.pat
def cuts32 (k : Nat) : Cuts T Int := fun n => bif n.beq 7 then some (entK (cfg t3) 0 lv32 [] pat32 (L32 k)) else none

theorem s32 (n : Nat) (v : Int × List Int × Int × Int) (K : Ex → St T → Option Int) :
    L32 (n + 1) v K = runK (cfg t3) Try.f32.ntmps kr32 (annot noCuts lb32) (mkSt lv32 (nf32 v)) (loopK (cfg t3) 0 xn32 (entK (cfg t3) 0 lv32 [] pat32 (L32 n)) K) := by
  kernel_rfl

theorem e32 (k : Nat) (x : List Int) : or_ k x = runK (cfg t3) Try.f32.ntmps kr32 (annot (cuts32 k) (body Try.f32)) (entry (ioL.enc x).1 (ioL.enc x).2) (endK kr32) := by
  kernel_rfl

theorem e23 (k : Nat) (x : G × G) : compare k x = runK (cfg (t4 k)) Try.f23.ntmps (retK (cfg (t4 k)) Try.f23.results.toList 0 [] ioI.pat) (annot noCuts (body Try.f23)) (entry (ioGG.enc x).1 (ioGG.enc x).2) (endK (retK (cfg (t4 k)) Try.f23.results.toList 0 [] ioI.pat)) := by
  kernel_rfl
theorem e13 (k : Nat) (x : G × G) : less k x = runK (cfg (t5 k)) Try.f13.ntmps (retK (cfg (t5 k)) Try.f13.results.toList 0 [] ioB.pat) (annot noCuts (body Try.f13)) (entry (ioGG.enc x).1 (ioGG.enc x).2) (endK (retK (cfg (t5 k)) Try.f13.results.toList 0 [] ioB.pat)) := by
  kernel_rfl
theorem e12 (k : Nat) (x : Unit) : own k x = runK (cfg (t6 k)) Try.f12.ntmps (retK (cfg (t6 k)) Try.f12.results.toList 0 [] ioB.pat) (annot noCuts (body Try.f12)) (entry (io0.enc x).1 (io0.enc x).2) (endK (retK (cfg (t6 k)) Try.f12.results.toList 0 [] ioB.pat)) := by
  kernel_rfl
theorem e3 (k : Nat) (x : G × G × G) : total k x = runK (cfg (t7 k)) Try.f3.ntmps (retK (cfg (t7 k)) Try.f3.results.toList 0 [] ioB.pat) (annot noCuts (body Try.f3)) (entry (ioGGG.enc x).1 (ioGGG.enc x).2) (endK (retK (cfg (t7 k)) Try.f3.results.toList 0 [] ioB.pat)) := by
  kernel_rfl

theorem cells3 : Try.prog.cellsOf 3 = 1 := by kernel_rfl
theorem fl : Try.prog.follows .mixedOrders = true := by kernel_rfl

theorem kn3 {t : TypeId} (h : cod.kn t = true) : t = 3 := Nat.eq_of_beq_eq_true h

theorem fine0 (t : Tab T) (h : CfOk (cfg t)) : Fine (cfg t) where
  cod := by
    refine ⟨fun t ht x => ?_, fun t ds x h => ?_⟩
    · have := kn3 ht
      subst this
      exact cells3.symm
    · unfold rc at h ⊢
      simp only [cfg, cod] at h ⊢
      unfold dec at h
      split at h
      · cases h; exact .cons (.refl _) .nil
      · cases h
  eqk := fun t h => by cases h
  flat := fun t _ hk x d hd => by
    have := kn3 hk
    subst this
    simp only [cfg, cod, enc, List.mem_singleton] at hd
    subst hd; rfl
  cf := h

theorem dr (t : Tab T) (h : CfOk (cfg t)) : DrawOk (cfg t) := drawOk_ok (fine0 t h) fl

theorem b34 : Try.f34.body = some (body Try.f34) := by kernel_rfl
theorem b37 : Try.f37.body = some (body Try.f37) := by kernel_rfl
theorem b33 : Try.f33.body = some (body Try.f33) := by kernel_rfl
theorem b32 : Try.f32.body = some (body Try.f32) := by kernel_rfl
theorem b23 : Try.f23.body = some (body Try.f23) := by kernel_rfl
theorem b13 : Try.f13.body = some (body Try.f13) := by kernel_rfl
theorem b12 : Try.f12.body = some (body Try.f12) := by kernel_rfl
theorem b3 : Try.f3.body = some (body Try.f3) := by kernel_rfl

attribute [local irreducible] runK retK annot entry

theorem ok0 : CfOk (cfg t0) := noTab_ok fun _ _ _ => rfl
theorem sim34 : ∀ v x, rank v = some x → Sim (cfg t0) 34 (ioG.enc v).1 (ioG.enc v).2 (ioI.enc x).1 (ioI.enc x).2 :=
  sim_of (c := cfg t0) (fine0 t0 ok0) (dr t0 ok0) (i := ioG) (o := ioI) (ps := []) (cuts := fun _ => noCuts) (m := 0) (g := rank) Try.func34 (by kernel_rfl) b34 (fun _ => rfl) (fun _ => Nat.zero_le _) (good_nil noCuts (fun _ => rfl) _) (fun v => e34 v)
theorem ok1 : CfOk (cfg t1) := addTab_ok ok0 sim34
theorem sim37 : ∀ v x, isNaN v = some x → Sim (cfg t1) 37 (ioI.enc v).1 (ioI.enc v).2 (ioB.enc x).1 (ioB.enc x).2 :=
  sim_of (c := cfg t1) (fine0 t1 ok1) (dr t1 ok1) (i := ioI) (o := ioB) (ps := []) (cuts := fun _ => noCuts) (m := 0) (g := isNaN) Try.func37 (by kernel_rfl) b37 (fun _ => rfl) (fun _ => Nat.zero_le _) (good_nil noCuts (fun _ => rfl) _) (fun v => e37 v)
theorem ok2 : CfOk (cfg t2) := addTab_ok ok1 sim37
theorem sim33 : ∀ v x, cmpI v = some x → Sim (cfg t2) 33 (ioII.enc v).1 (ioII.enc v).2 (ioI.enc x).1 (ioI.enc x).2 :=
  sim_of (c := cfg t2) (fine0 t2 ok2) (dr t2 ok2) (i := ioII) (o := ioI) (ps := []) (cuts := fun _ => noCuts) (m := 0) (g := cmpI) Try.func33 (by kernel_rfl) b33 (fun _ => rfl) (fun _ => Nat.zero_le _) (good_nil noCuts (fun _ => rfl) _) (fun v => e33 v)
theorem ok3 : CfOk (cfg t3) := addTab_ok ok2 sim33
theorem sound32 (k : Nat) : Sound (cfg t3) Try.f32.ntmps 0 kr32 (.loop lb32) (entK (cfg t3) 0 lv32 [] pat32 (L32 k)) :=
  loop_ok (fine0 t3 ok3) (dr t3 ok3) (good_nil noCuts (fun _ => rfl) _) pat32_ok (xn := xn32) (L := L32) (fun v K => rfl) s32 k
theorem at32 (k : Nat) : cutsAt (fun n => (cuts32 k n).isSome) (body Try.f32) = [(7, .loop lb32)] := by kernel_rfl
theorem good32 (k : Nat) : Good (cfg t3) Try.f32.ntmps 0 kr32 (annot (cuts32 k) (body Try.f32)) := good_cuts (at32 k) ⟨fun f hf => by cases hf; exact sound32 k, trivial⟩
theorem sim32 (k : Nat) : ∀ v x, (or_ k) v = some x → Sim (cfg t3) 32 (ioL.enc v).1 (ioL.enc v).2 (ioI.enc x).1 (ioI.enc x).2 :=
  sim_of (c := cfg t3) (fine0 t3 ok3) (dr t3 ok3) (i := ioL) (o := ioI) (ps := []) (cuts := fun _ => (cuts32 k)) (m := 0) (g := (or_ k)) Try.func32 (by kernel_rfl) b32 (fun _ => rfl) (fun _ => Nat.zero_le _) (good32 k) (fun v => e32 k v)
theorem ok4 (k : Nat) : CfOk (cfg (t4 k)) := addTab_ok ok3 (sim32 k)
theorem sim23 (k : Nat) : ∀ v x, (compare k) v = some x → Sim (cfg (t4 k)) 23 (ioGG.enc v).1 (ioGG.enc v).2 (ioI.enc x).1 (ioI.enc x).2 :=
  sim_of (c := cfg (t4 k)) (fine0 (t4 k) (ok4 k)) (dr (t4 k) (ok4 k)) (i := ioGG) (o := ioI) (ps := []) (cuts := fun _ => noCuts) (m := 0) (g := (compare k)) Try.func23 (by kernel_rfl) b23 (fun _ => rfl) (fun _ => Nat.zero_le _) (good_nil noCuts (fun _ => rfl) _) (fun v => e23 k v)
theorem ok5 (k : Nat) : CfOk (cfg (t5 k)) := addTab_ok (ok4 k) (sim23 k)
theorem sim13 (k : Nat) : ∀ v x, (less k) v = some x → Sim (cfg (t5 k)) 13 (ioGG.enc v).1 (ioGG.enc v).2 (ioB.enc x).1 (ioB.enc x).2 :=
  sim_of (c := cfg (t5 k)) (fine0 (t5 k) (ok5 k)) (dr (t5 k) (ok5 k)) (i := ioGG) (o := ioB) (ps := []) (cuts := fun _ => noCuts) (m := 0) (g := (less k)) Try.func13 (by kernel_rfl) b13 (fun _ => rfl) (fun _ => Nat.zero_le _) (good_nil noCuts (fun _ => rfl) _) (fun v => e13 k v)
theorem ok6 (k : Nat) : CfOk (cfg (t6 k)) := addTab_ok (ok5 k) (sim13 k)
theorem sim12 (k : Nat) : ∀ v x, (own k) v = some x → Sim (cfg (t6 k)) 12 (io0.enc v).1 (io0.enc v).2 (ioB.enc x).1 (ioB.enc x).2 :=
  sim_of (c := cfg (t6 k)) (fine0 (t6 k) (ok6 k)) (dr (t6 k) (ok6 k)) (i := io0) (o := ioB) (ps := []) (cuts := fun _ => noCuts) (m := 0) (g := (own k)) Try.func12 (by kernel_rfl) b12 (fun _ => rfl) (fun _ => Nat.zero_le _) (good_nil noCuts (fun _ => rfl) _) (fun v => e12 k v)
theorem ok7 (k : Nat) : CfOk (cfg (t7 k)) := addTab_ok (ok6 k) (sim12 k)
theorem sim3 (k : Nat) : ∀ v x, (total k) v = some x → Sim (cfg (t7 k)) 3 (ioGGG.enc v).1 (ioGGG.enc v).2 (ioB.enc x).1 (ioB.enc x).2 :=
  sim_of (c := cfg (t7 k)) (fine0 (t7 k) (ok7 k)) (dr (t7 k) (ok7 k)) (i := ioGGG) (o := ioB) (ps := []) (cuts := fun _ => noCuts) (m := 0) (g := (total k)) Try.func3 (by kernel_rfl) b3 (fun _ => rfl) (fun _ => Nat.zero_le _) (good_nil noCuts (fun _ => rfl) _) (fun v => e3 k v)
end
end Go.Ev.Cas
