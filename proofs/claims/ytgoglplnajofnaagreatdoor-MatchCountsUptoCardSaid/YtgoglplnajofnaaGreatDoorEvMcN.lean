/- A part of the evaluator of Go code over small heaps and of its proof: no condition beyond those that each theorem names. -/
import Derived.Test.YtgoglplnajofnaaGreatDoorEvMc
set_option linter.unusedVariables false
set_option maxRecDepth 100000
namespace Go.Ev.Mc
noncomputable section
open Go.Proofs Go.Ev
structure selector_paths.G.R where
  selector_test : Int → (List UInt8) → Int → (List UInt8) → Int → Int → (List S52) → Int → Option (Bool)
  selector_paths : (List S52) → Option (Bool)
def selector_test.nat (k : Nat) (r : selector_paths.G.R) (a1 : Int) (a2 : List UInt8) (a3 : Int) (a4 : List UInt8) (a5 : Int) (a6 : Int) (a7 : List S52) (a8 : Int) : Option (Bool) :=
let v9 : Bool := (cond (decide (a1 ≥ (2 : Int))) (decide (a1 ≤ (5 : Int))) false)
let v10 : Bool := (cond (decide (a1 < (1 : Int))) true (decide (a1 > (11 : Int))))
let v11 : Bool := (cond (decide (a1 ≤ (2 : Int))) (decide (a8 > (0 : Int))) false)
let v12 : Bool := (!(v9 == (!(a2 == ([] : List UInt8)))))
let v13 : Bool := (cond (cond v10 true v11) true v12)
(cond ((!v13) && v9) (selector_name k a2) (some false)).bind fun r14 =>
let v15 : Bool := (cond v13 true (cond v9 (!r14) false))
cond v15 (
some false) (
let v16 : Bool := (cond (a1 == (2 : Int)) true (a1 == (5 : Int)))
(cond v16 (selector_lower k a2) (some [])).bind fun r17 =>
let v18 : Bool := (cond v16 (!(a2 == r17)) false)
cond v18 (
some false) (
(cond ((a3 != (0 : Int)) && (!(a1 != (5 : Int)))) (strings_IndexByte k ([61, 126, 124, 94, 36, 42] : List UInt8) a3) (some (0 : Int))).bind fun r19 =>
let v20 : Bool := (cond (a1 != (5 : Int)) true (decide (r19 < (0 : Int))))
let v21 : Bool := (cond (a3 != (0 : Int)) v20 false)
let v22 : Bool := (cond (a3 == (0 : Int)) (!(a4 == ([] : List UInt8))) false)
cond (cond v21 true v22) (
some false) (
(selector_counts k a1 a2 a3 a4 a5 a6 a7).bind fun r23 =>
let v24 : Bool := (cond (a5 != (0 : Int)) true (a6 != (0 : Int)))
let v25 : Bool := (decide ((if a6 < a5 then a6 else a5) < (-1000 : Int)))
let v26 : Bool := (cond (cond (!r23) v24 false) true v25)
let v27 : Bool := (decide ((if a6 > a5 then a6 else a5) > (1000 : Int)))
cond (cond v26 true v27) (
some false) (
(selector_nested k a1 a2 a3 a4 a5 a6 a7).bind fun r28 =>
cond r28 (
(r.selector_paths a7).bind fun r29 =>
some r29) (
let v30 : Bool := ((a7.length : Int) == (0 : Int))
some v30)))))
def selector_paths.c21 (k : Nat) (r : selector_paths.G.R) : Nat → (List S52) → (List S96) → (List S52) → Int → Int → (List (List S96)) → Int → Int → (List S96) → Int → Int → (List (List S96)) → (List Int) → ((List S52) → (List S96) → (List S52) → Int → Int → (List (List S96)) → Int → Int → (List (List S96)) → (List Int) → Option (Bool)) → Option (Bool)
  | 0, _, _, _, _, _, _, _, _, _, _, _, _, _, _ => none
  | n + 1, x22, x23, x24, x25, x26, x27, x28, x29, x30, x31, x32, x33, x34, k4 =>
    cond (decide (x32 < x31)) (
    cond (decide (0 ≤ x32 ∧ x32 < (x30.length : Int))) (
    let v35 : Int := (x30.getD x32.toNat S96.d).Kind
    let v36 : List UInt8 := (x30.getD x32.toNat S96.d).Name
    let v37 : List UInt8 := (x30.getD x32.toNat S96.d).Value
    let v38 : List S52 := (x30.getD x32.toNat S96.d).Subs
    (r.selector_test v35 v36 ((x30.getD x32.toNat S96.d).Op) v37 ((x30.getD x32.toNat S96.d).A) ((x30.getD x32.toNat S96.d).B) v38 x32).bind fun r39 =>
    cond (!r39) (
    some false) (
    let v31 : Int := (IntKind.wrap .i64 (x32 + (1 : Int)))
    selector_paths.c21 k r n x22 x23 x24 x25 x26 x27 x28 x29 x30 x31 v31 x33 x34 k4)) none) (
    k4 x22 x23 x24 x25 x26 x27 x28 x29 x33 x34)
def selector_paths.c15 (k : Nat) (r : selector_paths.G.R) : Nat → (List S52) → (List S52) → Int → Int → (List (List S96)) → Int → Int → (List (List S96)) → (List Int) → ((List S52) → (List S52) → Int → Int → (List (List S96)) → (List Int) → Option (Bool)) → Option (Bool)
  | 0, _, _, _, _, _, _, _, _, _, _ => none
  | n + 1, x12, x13, x14, x15, x16, x17, x18, x19, x20, k2 =>
    cond (decide (x18 < x17)) (
    cond (decide (0 ≤ x18 ∧ x18 < (x16.length : Int))) (
    let v21 : Int := ((x16.getD x18.toNat []).length : Int)
    selector_paths.c21 k r k x12 (x16.getD x18.toNat []) x13 x14 x15 x16 x17 x18 (x16.getD x18.toNat []) v21 (0 : Int) x19 x20 (fun (y32 : List S52) (y33 : List S96) (y34 : List S52) (y35 : Int) (y36 : Int) (y37 : List (List S96)) (y38 : Int) (y39 : Int) (y40 : List (List S96)) (y41 : List Int) =>
    let v42 : Bool := ((y33.length : Int) == (0 : Int))
    cond v42 (
    some false) (
    let v43 : Int := (IntKind.wrap .i64 (y39 + (1 : Int)))
    selector_paths.c15 k r n y32 y34 y35 y36 y37 y38 v43 y40 y41 k2))) none) (
    k2 x12 x13 x14 x15 x19 x20)
def selector_paths.c39 (k : Nat) (r : selector_paths.G.R) : Nat → (List S52) → (List S52) → Int → Int → (List Int) → Int → Int → ((List S52) → (List S52) → Int → Int → Option (Bool)) → Option (Bool)
  | 0, _, _, _, _, _, _, _, _ => none
  | n + 1, x50, x51, x52, x53, x54, x55, x56, k6 =>
    cond (decide (x56 < x55)) (
    cond (decide (0 ≤ x56 ∧ x56 < (x54.length : Int))) (
    (strings_IndexByte k ([32, 62, 43, 126] : List UInt8) (x54.getD x56.toNat (0 : Int))).bind fun r57 =>
    cond (decide (r57 < (0 : Int))) (
    some false) (
    let v58 : Int := (IntKind.wrap .i64 (x56 + (1 : Int)))
    selector_paths.c39 k r n x50 x51 x52 x53 x54 x55 v58 k6)) none) (
    k6 x50 x51 x52 x53)
def selector_paths.c5 (k : Nat) (r : selector_paths.G.R) : Nat → (List S52) → (List S52) → Int → Int → ((List S52) → Option (Bool)) → Option (Bool)
  | 0, _, _, _, _, _ => none
  | n + 1, x2, x3, x4, x5, k0 =>
    cond (decide (x5 < x4)) (
    cond (decide (0 ≤ x5 ∧ x5 < (x3.length : Int))) (
    let v6 : Int := (((x3.getD x5.toNat S52.d).Steps).length : Int)
    let v7 : Int := (((x3.getD x5.toNat S52.d).Joins).length : Int)
    let v8 : Int := (((x3.getD x5.toNat S52.d).Steps).length : Int)
    let v9 : Int := (IntKind.wrap .i64 (v8 - (1 : Int)))
    let v10 : Bool := (cond (v6 == (0 : Int)) true (v7 != v9))
    cond v10 (
    some false) (
    let v11 : Int := (((x3.getD x5.toNat S52.d).Steps).length : Int)
    selector_paths.c15 k r k x2 x3 x4 x5 ((x3.getD x5.toNat S52.d).Steps) v11 (0 : Int) ((x3.getD x5.toNat S52.d).Steps) ((x3.getD x5.toNat S52.d).Joins) (fun (y44 : List S52) (y45 : List S52) (y46 : Int) (y47 : Int) (y48 : List (List S96)) (y49 : List Int) =>
    selector_paths.c39 k r k y44 y45 y46 y47 y49 (y49.length : Int) (0 : Int) (fun (y59 : List S52) (y60 : List S52) (y61 : Int) (y62 : Int) =>
    let v63 : Int := (IntKind.wrap .i64 (y62 + (1 : Int)))
    selector_paths.c5 k r n y59 y60 y61 v63 k0)))) none) (
    k0 x2)
def selector_paths.nat (k : Nat) (r : selector_paths.G.R) (a1 : List S52) : Option (Bool) :=
selector_paths.c5 k r k a1 a1 (a1.length : Int) (0 : Int) (fun (y64 : List S52) =>
let v65 : Bool := (decide ((y64.length : Int) > (0 : Int)))
some v65)
def selector_paths.G.rec (k : Nat) : Nat → selector_paths.G.R
  | 0 => ⟨fun _ _ _ _ _ _ _ _ => none, fun _ => none⟩
  | n + 1 => ⟨selector_test.nat k (selector_paths.G.rec k n), selector_paths.nat k (selector_paths.G.rec k n)⟩
def selector_test (k : Nat) : Int → (List UInt8) → Int → (List UInt8) → Int → Int → (List S52) → Int → Option (Bool) := (selector_paths.G.rec k k).selector_test
def selector_paths (k : Nat) : (List S52) → Option (Bool) := (selector_paths.G.rec k k).selector_paths
def selector_paths.G.tab (k : Nat) (r : selector_paths.G.R) : Tab T := addTab 40 (line io74 io2 false (fun v => r.selector_paths v)) (addTab 71 (line io73 io2 false (fun v => r.selector_test v.1 v.2.1 v.2.2.1 v.2.2.2.1 v.2.2.2.2.1 v.2.2.2.2.2.1 v.2.2.2.2.2.2.1 v.2.2.2.2.2.2.2)) (tab46 k))
def selector_test.kr (w0 : World) (k : Nat) (r : selector_paths.G.R) : Kr T (Bool) := (kret (retK (cfg w0 (selector_paths.G.tab k r)) Tryz.f71.results.toList 0 [] io2.pat))
def selector_test.cuts (w0 : World) (k : Nat) (r : selector_paths.G.R) : Cuts T (Bool) := fun n => none
def selector_test.body : Code := bodyOf Tryz.f71
theorem selector_test.e (w0 : World) (k : Nat) (r : selector_paths.G.R) : ∀ v, (fun v => selector_test.nat k r v.1 v.2.1 v.2.2.1 v.2.2.2.1 v.2.2.2.2.1 v.2.2.2.2.2.1 v.2.2.2.2.2.2.1 v.2.2.2.2.2.2.2) v = runK (cfg w0 (selector_paths.G.tab k r)) Tryz.f71.ntmps (selector_test.kr w0 k r) (annot (selector_test.cuts w0 k r) selector_test.body) (entry (io73.enc v).1 (io73.enc v).2) (endK (selector_test.kr w0 k r)) := by
  intro v; kernel_rfl
theorem selector_test.hb : Tryz.f71.body = some selector_test.body := by kernel_rfl
def selector_paths.kr (w0 : World) (k : Nat) (r : selector_paths.G.R) : Kr T (Bool) := (kret (retK (cfg w0 (selector_paths.G.tab k r)) Tryz.f40.results.toList 0 [] io2.pat))
def selector_paths.x21 : Ex → Option (List Nat × List Sp)
  | .exit 4 => some ([0, 4, 6, 11, 12, 13, 32, 33, 34], [])
  | _ => none
def selector_paths.L21 (k : Nat) (r : selector_paths.G.R) (n : Nat) (v : (List S52) × (List S96) × (List S52) × Int × Int × (List (List S96)) × Int × Int × (List S96) × Int × Int × (List (List S96)) × (List Int)) (K : Ex → St T → Option (Bool)) : Option (Bool) := selector_paths.c21 k r n v.1 v.2.1 v.2.2.1 v.2.2.2.1 v.2.2.2.2.1 v.2.2.2.2.2.1 v.2.2.2.2.2.2.1 v.2.2.2.2.2.2.2.1 v.2.2.2.2.2.2.2.2.1 v.2.2.2.2.2.2.2.2.2.1 v.2.2.2.2.2.2.2.2.2.2.1 v.2.2.2.2.2.2.2.2.2.2.2.1 v.2.2.2.2.2.2.2.2.2.2.2.2 (fun y244 y245 y246 y247 y248 y249 y250 y251 y252 y253 => K (.exit 4) (mkSt [0, 4, 6, 11, 12, 13, 32, 33, 34] (io76.enc (y244, y245, y246, y247, y248, y249, y250, y251, y252, y253))))
def selector_paths.x15 : Ex → Option (List Nat × List Sp)
  | .exit 2 => some ([0, 4, 11, 12, 13], [])
  | _ => none
def selector_paths.L15 (k : Nat) (r : selector_paths.G.R) (n : Nat) (v : (List S52) × (List S52) × Int × Int × (List (List S96)) × Int × Int × (List (List S96)) × (List Int)) (K : Ex → St T → Option (Bool)) : Option (Bool) := selector_paths.c15 k r n v.1 v.2.1 v.2.2.1 v.2.2.2.1 v.2.2.2.2.1 v.2.2.2.2.2.1 v.2.2.2.2.2.2.1 v.2.2.2.2.2.2.2.1 v.2.2.2.2.2.2.2.2 (fun y254 y255 y256 y257 y258 y259 => K (.exit 2) (mkSt [0, 4, 11, 12, 13] (io78.enc (y254, y255, y256, y257, y258, y259))))
def selector_paths.x39 : Ex → Option (List Nat × List Sp)
  | .exit 6 => some ([0, 11, 12, 13], [])
  | _ => none
def selector_paths.L39 (k : Nat) (r : selector_paths.G.R) (n : Nat) (v : (List S52) × (List S52) × Int × Int × (List Int) × Int × Int) (K : Ex → St T → Option (Bool)) : Option (Bool) := selector_paths.c39 k r n v.1 v.2.1 v.2.2.1 v.2.2.2.1 v.2.2.2.2.1 v.2.2.2.2.2.1 v.2.2.2.2.2.2 (fun y260 y261 y262 y263 => K (.exit 6) (mkSt [0, 11, 12, 13] (io80.enc (y260, y261, y262, y263))))
def selector_paths.x5 : Ex → Option (List Nat × List Sp)
  | .exit 0 => some ([0], [])
  | _ => none
def selector_paths.L5 (k : Nat) (r : selector_paths.G.R) (n : Nat) (v : (List S52) × (List S52) × Int × Int) (K : Ex → St T → Option (Bool)) : Option (Bool) := selector_paths.c5 k r n v.1 v.2.1 v.2.2.1 v.2.2.2 (fun y264 => K (.exit 0) (mkSt [0] (io74.enc y264)))
def selector_paths.cuts (w0 : World) (k : Nat) (r : selector_paths.G.R) : Cuts T (Bool) := fun n => bif n.beq 21 then some (entK (cfg w0 (selector_paths.G.tab k r)) 0 [0, 4, 6, 11, 12, 13, 32, 33, 34, 38, 39, 40] [] io75.pat (selector_paths.L21 k r k)) else bif n.beq 15 then some (entK (cfg w0 (selector_paths.G.tab k r)) 0 [0, 4, 11, 12, 13, 32, 33, 34] [] io77.pat (selector_paths.L15 k r k)) else bif n.beq 39 then some (entK (cfg w0 (selector_paths.G.tab k r)) 0 [0, 11, 12, 13, 55, 56, 57] [] io79.pat (selector_paths.L39 k r k)) else bif n.beq 5 then some (entK (cfg w0 (selector_paths.G.tab k r)) 0 [0, 11, 12, 13] [] io80.pat (selector_paths.L5 k r k)) else none
def selector_paths.body : Code := bodyOf Tryz.f40
def selector_paths.b21 : Code := findD 21 selector_paths.body
theorem selector_paths.s21 (w0 : World) (k : Nat) (r : selector_paths.G.R) : ∀ n v K, selector_paths.L21 k r (n + 1) v K = runK (cfg w0 (selector_paths.G.tab k r)) Tryz.f40.ntmps (selector_paths.kr w0 k r) (annot (selector_paths.cuts w0 k r) selector_paths.b21) (mkSt [0, 4, 6, 11, 12, 13, 32, 33, 34, 38, 39, 40] (io75.enc v)) (loopK (cfg w0 (selector_paths.G.tab k r)) 0 selector_paths.x21 (entK (cfg w0 (selector_paths.G.tab k r)) 0 [0, 4, 6, 11, 12, 13, 32, 33, 34, 38, 39, 40] [] io75.pat (selector_paths.L21 k r n)) K) := by
  intro n v K; kernel_rfl
def selector_paths.b15 : Code := findD 15 selector_paths.body
theorem selector_paths.s15 (w0 : World) (k : Nat) (r : selector_paths.G.R) : ∀ n v K, selector_paths.L15 k r (n + 1) v K = runK (cfg w0 (selector_paths.G.tab k r)) Tryz.f40.ntmps (selector_paths.kr w0 k r) (annot (selector_paths.cuts w0 k r) selector_paths.b15) (mkSt [0, 4, 11, 12, 13, 32, 33, 34] (io77.enc v)) (loopK (cfg w0 (selector_paths.G.tab k r)) 0 selector_paths.x15 (entK (cfg w0 (selector_paths.G.tab k r)) 0 [0, 4, 11, 12, 13, 32, 33, 34] [] io77.pat (selector_paths.L15 k r n)) K) := by
  intro n v K; kernel_rfl
def selector_paths.b39 : Code := findD 39 selector_paths.body
theorem selector_paths.s39 (w0 : World) (k : Nat) (r : selector_paths.G.R) : ∀ n v K, selector_paths.L39 k r (n + 1) v K = runK (cfg w0 (selector_paths.G.tab k r)) Tryz.f40.ntmps (selector_paths.kr w0 k r) (annot (selector_paths.cuts w0 k r) selector_paths.b39) (mkSt [0, 11, 12, 13, 55, 56, 57] (io79.enc v)) (loopK (cfg w0 (selector_paths.G.tab k r)) 0 selector_paths.x39 (entK (cfg w0 (selector_paths.G.tab k r)) 0 [0, 11, 12, 13, 55, 56, 57] [] io79.pat (selector_paths.L39 k r n)) K) := by
  intro n v K; kernel_rfl
def selector_paths.b5 : Code := findD 5 selector_paths.body
theorem selector_paths.s5 (w0 : World) (k : Nat) (r : selector_paths.G.R) : ∀ n v K, selector_paths.L5 k r (n + 1) v K = runK (cfg w0 (selector_paths.G.tab k r)) Tryz.f40.ntmps (selector_paths.kr w0 k r) (annot (selector_paths.cuts w0 k r) selector_paths.b5) (mkSt [0, 11, 12, 13] (io80.enc v)) (loopK (cfg w0 (selector_paths.G.tab k r)) 0 selector_paths.x5 (entK (cfg w0 (selector_paths.G.tab k r)) 0 [0, 11, 12, 13] [] io80.pat (selector_paths.L5 k r n)) K) := by
  intro n v K; kernel_rfl
theorem selector_paths.e (w0 : World) (k : Nat) (r : selector_paths.G.R) : ∀ v, (fun v => selector_paths.nat k r v) v = runK (cfg w0 (selector_paths.G.tab k r)) Tryz.f40.ntmps (selector_paths.kr w0 k r) (annot (selector_paths.cuts w0 k r) selector_paths.body) (entry (io74.enc v).1 (io74.enc v).2) (endK (selector_paths.kr w0 k r)) := by
  intro v; kernel_rfl
theorem selector_paths.hb : Tryz.f40.body = some selector_paths.body := by kernel_rfl
def tab47 (k : Nat) : Tab T := selector_paths.G.tab k (selector_paths.G.rec k k)
def selector_Check (k : Nat) (a1 : List S52) : Option (Int) :=
(selector_tests k a1 (0 : Int)).bind fun r2 =>
cond (!r2.2) (
some (2 : Int)) (
(selector_paths k a1).bind fun r3 =>
cond (!r3) (
some (3 : Int)) (
some (0 : Int)))
def selector_Check.kr (w0 : World) (k : Nat) : Kr T (Int) := (kret (retK (cfg w0 (tab47 k)) Tryz.f25.results.toList 0 [] io4.pat))
def selector_Check.cuts (w0 : World) (k : Nat) : Cuts T (Int) := fun n => none
def selector_Check.body : Code := bodyOf Tryz.f25
theorem selector_Check.e (w0 : World) (k : Nat) : ∀ v, (fun v => selector_Check k v) v = runK (cfg w0 (tab47 k)) Tryz.f25.ntmps (selector_Check.kr w0 k) (annot (selector_Check.cuts w0 k) selector_Check.body) (entry (io74.enc v).1 (io74.enc v).2) (endK (selector_Check.kr w0 k)) := by
  intro v; kernel_rfl
theorem selector_Check.hb : Tryz.f25.body = some selector_Check.body := by kernel_rfl
def tab48 (k : Nat) : Tab T := addTab 25 (line io74 io4 (0 : Int) (fun v => selector_Check k v)) (tab47 k)
def selector_Read (k : Nat) (a1 : List UInt8) : Option (Int × (List S52)) :=
let v2 : Bool := (decide ((a1.length : Int) > (400 : Int)))
cond v2 (
some ((2 : Int), ([] : List S52))) (
(csstok_Cut k a1).bind fun r3 =>
(selector_reader__list k ([] : List UInt8) r3).bind fun r4 =>
cond r4.1 (
some ((4 : Int), ([] : List S52))) (
(selector_Check k r4.2.2.2).bind fun r5 =>
cond (r5 != (0 : Int)) (
some ((4 : Int), ([] : List S52))) (
some ((0 : Int), r4.2.2.2))))
def selector_Read.body : Code := bodyOf Tryz.f11
theorem selector_Read.e (w0 : World) (k : Nat) : ∀ v, (fun v => selector_Read k v) v = runDf (cfg w0 (tab48 k)) Tryz.f11.ntmps (retK (cfg w0 (tab48 k)) Tryz.f11.results.toList 0 [.own 0 52] io81.pat) (F22 (cfg w0 (tab48 k))) (seqA selector_Read.body) (seqC selector_Read.body) (seqB selector_Read.body) 8 22 #[.tmp 2, .tmp 3].toList (entry (io1.enc v).1 (io1.enc v).2) := by
  intro v; kernel_rfl
theorem selector_Read.hb : Tryz.f11.body = some (.seq (seqA selector_Read.body) (.seq (seqC selector_Read.body) (.seq (.region 3 #[⟨some 8, .makeFunc (.func 22) #[] #[.tmp 2, .tmp 3], 1, "selector.go:404", #[], none⟩, ⟨none, .defer ⟨.value (.tmp 8), #[], #[]⟩, 0, "selector.go:404", #[⟨0, .data⟩], none⟩] false) (seqB selector_Read.body)))) := by kernel_rfl
def tab49 (k : Nat) : Tab T := addTab 11 (line io1 io81 ((0 : Int), []) (fun v => selector_Read k v)) (tab48 k)
def clerestorykeep2_listed (k : Nat)  : Option (Bool) :=
(selector_Read k ([97, 32, 62, 32, 46, 98] : List UInt8)).bind fun r1 =>
let v2 : Bool := ((r1.2.length : Int) == (1 : Int))
let v3 : Bool := (cond (r1.1 == (0 : Int)) v2 false)
cond ((decide (0 ≤ (0 : Int) ∧ (0 : Int) < (r1.2.length : Int))) || !v3) (
let v4 : List (List S96) := (r1.2.getD ((0 : Int).toNat) S52.d).Steps
let v5 : Bool := ((v4.length : Int) == (2 : Int))
cond ((decide (0 ≤ (0 : Int) ∧ (0 : Int) < (r1.2.length : Int))) || !(cond v3 v5 false)) (
let v6 : List Int := (r1.2.getD ((0 : Int).toNat) S52.d).Joins
let v7 : Bool := ((bytesU v6) == ([62] : List UInt8))
let v8 : Bool := (cond (cond v3 v5 false) v7 false)
some v8) none) none
def clerestorykeep2_listed.kr (w0 : World) (k : Nat) : Kr T (Bool) := (kret (retK (cfg w0 (tab49 k)) Tryz.f6.results.toList 0 [] io2.pat))
def clerestorykeep2_listed.cuts (w0 : World) (k : Nat) : Cuts T (Bool) := fun n => none
def clerestorykeep2_listed.body : Code := bodyOf Tryz.f6
theorem clerestorykeep2_listed.e (w0 : World) (k : Nat) : ∀ v, (fun v => clerestorykeep2_listed k ) v = runK (cfg w0 (tab49 k)) Tryz.f6.ntmps (clerestorykeep2_listed.kr w0 k) (annot (clerestorykeep2_listed.cuts w0 k) clerestorykeep2_listed.body) (entry (io82.enc v).1 (io82.enc v).2) (endK (clerestorykeep2_listed.kr w0 k)) := by
  intro v; kernel_rfl
theorem clerestorykeep2_listed.hb : Tryz.f6.body = some clerestorykeep2_listed.body := by kernel_rfl
def tab50 (k : Nat) : Tab T := addTab 6 (line io82 io2 false (fun v => clerestorykeep2_listed k )) (tab49 k)
def dom_parent (k : Nat) (a1 : Int) : Option (Bool) :=
let v2 : Bool := (cond (a1 == (1 : Int)) true (a1 == (2 : Int)))
some v2
def dom_parent.kr (w0 : World) (k : Nat) : Kr T (Bool) := (kret (retK (cfg w0 (tab50 k)) Tryz.f42.results.toList 0 [] io2.pat))
def dom_parent.cuts (w0 : World) (k : Nat) : Cuts T (Bool) := fun n => none
def dom_parent.body : Code := bodyOf Tryz.f42
theorem dom_parent.e (w0 : World) (k : Nat) : ∀ v, (fun v => dom_parent k v) v = runK (cfg w0 (tab50 k)) Tryz.f42.ntmps (dom_parent.kr w0 k) (annot (dom_parent.cuts w0 k) dom_parent.body) (entry (io4.enc v).1 (io4.enc v).2) (endK (dom_parent.kr w0 k)) := by
  intro v; kernel_rfl
theorem dom_parent.hb : Tryz.f42.body = some dom_parent.body := by kernel_rfl
def tab51 (k : Nat) : Tab T := addTab 42 (line io4 io2 false (fun v => dom_parent k v)) (tab50 k)
def dom_bare (k : Nat) (a1 : Int) (a2 : List UInt8) (a3 : List S89) (a4 : List UInt8) (a5 : Int) (a6 : List Int) : Option (Bool) :=
let v7 : Bool := (cond (a1 == (3 : Int)) true (a1 == (4 : Int)))
let v8 : Bool := (cond (a1 == (2 : Int)) true (a1 == (5 : Int)))
let v9 : Bool := (cond v8 true (a2 == ([] : List UInt8)))
let v10 : Bool := ((a3.length : Int) == (0 : Int))
let v11 : Bool := (cond (a1 == (2 : Int)) true v10)
let v12 : Bool := (cond v7 true (a4 == ([] : List UInt8)))
let v13 : Bool := (cond (cond v9 v11 false) v12 false)
(cond v13 (dom_parent k a1) (some false)).bind fun r14 =>
let v15 : Bool := ((a6.length : Int) == (0 : Int))
let v16 : Bool := (cond v13 (cond r14 true v15) false)
some v16
def dom_bare.kr (w0 : World) (k : Nat) : Kr T (Bool) := (kret (retK (cfg w0 (tab51 k)) Tryz.f28.results.toList 0 [] io2.pat))
def dom_bare.cuts (w0 : World) (k : Nat) : Cuts T (Bool) := fun n => none
def dom_bare.body : Code := bodyOf Tryz.f28
theorem dom_bare.e (w0 : World) (k : Nat) : ∀ v, (fun v => dom_bare k v.1 v.2.1 v.2.2.1 v.2.2.2.1 v.2.2.2.2.1 v.2.2.2.2.2) v = runK (cfg w0 (tab51 k)) Tryz.f28.ntmps (dom_bare.kr w0 k) (annot (dom_bare.cuts w0 k) dom_bare.body) (entry (io83.enc v).1 (io83.enc v).2) (endK (dom_bare.kr w0 k)) := by
  intro v; kernel_rfl
theorem dom_bare.hb : Tryz.f28.body = some dom_bare.body := by kernel_rfl
def tab52 (k : Nat) : Tab T := addTab 28 (line io83 io2 false (fun v => dom_bare k v.1 v.2.1 v.2.2.1 v.2.2.2.1 v.2.2.2.2.1 v.2.2.2.2.2)) (tab51 k)
def dom_named (k : Nat) (a1 : List UInt8) (a2 : List UInt8) : Option (Bool) :=
let v3 : Bool := (decide ((a1.length : Int) ≤ (40 : Int)))
let v4 : Bool := (cond (!(a1 == ([] : List UInt8))) v3 false)
cond ((decide (0 ≤ (0 : Int) ∧ (0 : Int) < (a1.length : Int))) || !v4) (
let v5 : Int := ((a1.getD (0 : Int).toNat 0).toNat : Int)
(cond v4 (strings_IndexByte k a2 v5) (some (0 : Int))).bind fun r6 =>
let v7 : Bool := (cond v4 (decide (r6 ≥ (0 : Int))) false)
(cond v7 (strings_Trim k a1 ([97, 98, 99, 100, 101, 102, 103, 104, 105, 106, 107, 108, 109, 110, 111, 112, 113, 114, 115, 116, 117, 118, 119, 120, 121, 122, 48, 49, 50, 51, 52, 53, 54, 55, 56, 57, 45, 95, 58] : List UInt8)) (some [])).bind fun r8 =>
let v9 : Bool := (cond v7 (r8 == ([] : List UInt8)) false)
some v9) none
def dom_named.kr (w0 : World) (k : Nat) : Kr T (Bool) := (kret (retK (cfg w0 (tab52 k)) Tryz.f43.results.toList 0 [] io2.pat))
def dom_named.cuts (w0 : World) (k : Nat) : Cuts T (Bool) := fun n => none
def dom_named.body : Code := bodyOf Tryz.f43
theorem dom_named.e (w0 : World) (k : Nat) : ∀ v, (fun v => dom_named k v.1 v.2) v = runK (cfg w0 (tab52 k)) Tryz.f43.ntmps (dom_named.kr w0 k) (annot (dom_named.cuts w0 k) dom_named.body) (entry (io0.enc v).1 (io0.enc v).2) (endK (dom_named.kr w0 k)) := by
  intro v; kernel_rfl
theorem dom_named.hb : Tryz.f43.body = some dom_named.body := by kernel_rfl
def tab53 (k : Nat) : Tab T := addTab 43 (line io0 io2 false (fun v => dom_named k v.1 v.2)) (tab52 k)
def dom_Name (k : Nat) (a1 : List UInt8) : Option (Bool) :=
cond (decide (0 ≤ (26 : Int) ∧ (26 : Int) ≤ (([97, 98, 99, 100, 101, 102, 103, 104, 105, 106, 107, 108, 109, 110, 111, 112, 113, 114, 115, 116, 117, 118, 119, 120, 121, 122, 48, 49, 50, 51, 52, 53, 54, 55, 56, 57, 45, 95, 58] : List UInt8).length : Int))) (
let v2 : List UInt8 := (([97, 98, 99, 100, 101, 102, 103, 104, 105, 106, 107, 108, 109, 110, 111, 112, 113, 114, 115, 116, 117, 118, 119, 120, 121, 122, 48, 49, 50, 51, 52, 53, 54, 55, 56, 57, 45, 95, 58] : List UInt8).take (26 : Int).toNat)
(dom_named k a1 v2).bind fun r3 =>
some r3) none
def dom_Name.kr (w0 : World) (k : Nat) : Kr T (Bool) := (kret (retK (cfg w0 (tab53 k)) Tryz.f29.results.toList 0 [] io2.pat))
def dom_Name.cuts (w0 : World) (k : Nat) : Cuts T (Bool) := fun n => none
def dom_Name.body : Code := bodyOf Tryz.f29
theorem dom_Name.e (w0 : World) (k : Nat) : ∀ v, (fun v => dom_Name k v) v = runK (cfg w0 (tab53 k)) Tryz.f29.ntmps (dom_Name.kr w0 k) (annot (dom_Name.cuts w0 k) dom_Name.body) (entry (io1.enc v).1 (io1.enc v).2) (endK (dom_Name.kr w0 k)) := by
  intro v; kernel_rfl
theorem dom_Name.hb : Tryz.f29.body = some dom_Name.body := by kernel_rfl
def tab54 (k : Nat) : Tab T := addTab 29 (line io1 io2 false (fun v => dom_Name k v)) (tab53 k)
def dom_attrName (k : Nat) (a1 : List UInt8) : Option (Bool) :=
cond (decide (0 ≤ (26 : Int) ∧ (26 : Int) ≤ (([97, 98, 99, 100, 101, 102, 103, 104, 105, 106, 107, 108, 109, 110, 111, 112, 113, 114, 115, 116, 117, 118, 119, 120, 121, 122, 48, 49, 50, 51, 52, 53, 54, 55, 56, 57, 45, 95, 58] : List UInt8).length : Int))) (
let v2 : List UInt8 := (([97, 98, 99, 100, 101, 102, 103, 104, 105, 106, 107, 108, 109, 110, 111, 112, 113, 114, 115, 116, 117, 118, 119, 120, 121, 122, 48, 49, 50, 51, 52, 53, 54, 55, 56, 57, 45, 95, 58] : List UInt8).take (26 : Int).toNat)
cond (Nat.ble (v2.length + ([45, 95] : List UInt8).length) 9223372036854775807) (
let v3 : List UInt8 := (v2 ++ ([45, 95] : List UInt8))
(dom_named k a1 v3).bind fun r4 =>
some r4) none) none
def dom_attrName.kr (w0 : World) (k : Nat) : Kr T (Bool) := (kret (retK (cfg w0 (tab54 k)) Tryz.f44.results.toList 0 [] io2.pat))
def dom_attrName.cuts (w0 : World) (k : Nat) : Cuts T (Bool) := fun n => none
def dom_attrName.body : Code := bodyOf Tryz.f44
theorem dom_attrName.e (w0 : World) (k : Nat) : ∀ v, (fun v => dom_attrName k v) v = runK (cfg w0 (tab54 k)) Tryz.f44.ntmps (dom_attrName.kr w0 k) (annot (dom_attrName.cuts w0 k) dom_attrName.body) (entry (io1.enc v).1 (io1.enc v).2) (endK (dom_attrName.kr w0 k)) := by
  intro v; kernel_rfl
theorem dom_attrName.hb : Tryz.f44.body = some dom_attrName.body := by kernel_rfl
def tab55 (k : Nat) : Tab T := addTab 44 (line io1 io2 false (fun v => dom_attrName k v)) (tab54 k)
def dom_find_1 (k : Nat) (a1 : List UInt8) (a2 : List UInt8) (a3 : List UInt8) : Option (Bool × (List UInt8)) :=
some ((a1 == a3), a3)
def dom_find_1.kr (w0 : World) (k : Nat) : Kr T (Bool × (List UInt8)) := (kret (retK (cfg w0 (tab55 k)) Tryz.f76.results.toList 1 [] io85.pat))
def dom_find_1.cuts (w0 : World) (k : Nat) : Cuts T (Bool × (List UInt8)) := fun n => none
def dom_find_1.body : Code := bodyOf Tryz.f76
theorem dom_find_1.e (w0 : World) (k : Nat) : ∀ v, (fun v => dom_find_1 k v.1 v.2.1 v.2.2) v = runK (cfg w0 (tab55 k)) Tryz.f76.ntmps (dom_find_1.kr w0 k) (annot (dom_find_1.cuts w0 k) dom_find_1.body) (entry (io84.enc v).1 (io84.enc v).2) (endK (dom_find_1.kr w0 k)) := by
  intro v; kernel_rfl
theorem dom_find_1.hb : Tryz.f76.body = some dom_find_1.body := by kernel_rfl
def tab56 (k : Nat) : Tab T := addTab 76 (line io84 io85 (false, []) (fun v => dom_find_1 k v.1 v.2.1 v.2.2)) (tab55 k)
def api_Attr_.c5 (k : Nat) : Nat → (List S89) → Int → Int → (List UInt8) → ((List UInt8) → Option (Int × (List UInt8))) → Option (Int × (List UInt8))
  | 0, _, _, _, _, _ => none
  | n + 1, x3, x4, x5, x6, k0 =>
    cond (decide (x5 < x4)) (
    cond (decide (0 ≤ x5 ∧ x5 < (x3.length : Int))) (
    (dom_find_1 k ((x3.getD x5.toNat S89.d).Name) ((x3.getD x5.toNat S89.d).Value) x6).bind fun r7 =>
    cond r7.1 (
    some (x5, r7.2)) (
    let v8 : Int := (IntKind.wrap .i64 (x5 + (1 : Int)))
    api_Attr_.c5 k n x3 x4 v8 r7.2 k0)) none) (
    k0 x6)
def api_Attr_ (k : Nat) (a1 : List S89) (a2 : List UInt8) : Option (Int × (List UInt8)) :=
api_Attr_.c5 k k a1 (a1.length : Int) (0 : Int) a2 (fun (y9 : List UInt8) =>
some ((-1 : Int), y9))
def api_Attr_.kr (w0 : World) (k : Nat) : Kr T (Int × (List UInt8)) := (kret (retK (cfg w0 (tab56 k)) Tryz.f75.results.toList 1 [] io87.pat))
def api_Attr_.x5 : Ex → Option (List Nat × List Sp)
  | .exit 0 => some ([], [])
  | _ => none
def api_Attr_.L5 (k : Nat) (n : Nat) (v : (List S89) × Int × Int × (List UInt8)) (K : Ex → St T → Option (Int × (List UInt8))) : Option (Int × (List UInt8)) := api_Attr_.c5 k n v.1 v.2.1 v.2.2.1 v.2.2.2 (fun y265 => K (.exit 0) (mkSt [] (io89.enc y265)))
def api_Attr_.cuts (w0 : World) (k : Nat) : Cuts T (Int × (List UInt8)) := fun n => bif n.beq 5 then some (entK (cfg w0 (tab56 k)) 1 [0, 1, 7, 8] [] io88.pat (api_Attr_.L5 k k)) else none
def api_Attr_.body : Code := bodyOf Tryz.f75
def api_Attr_.b5 : Code := findD 5 api_Attr_.body
theorem api_Attr_.s5 (w0 : World) (k : Nat) : ∀ n v K, api_Attr_.L5 k (n + 1) v K = runK (cfg w0 (tab56 k)) Tryz.f75.ntmps (api_Attr_.kr w0 k) (annot (api_Attr_.cuts w0 k) api_Attr_.b5) (mkSt [0, 1, 7, 8] (io88.enc v)) (loopK (cfg w0 (tab56 k)) 1 api_Attr_.x5 (entK (cfg w0 (tab56 k)) 1 [0, 1, 7, 8] [] io88.pat (api_Attr_.L5 k n)) K) := by
  intro n v K; kernel_rfl
theorem api_Attr_.e (w0 : World) (k : Nat) : ∀ v, (fun v => api_Attr_ k v.1 v.2) v = runK (cfg w0 (tab56 k)) Tryz.f75.ntmps (api_Attr_.kr w0 k) (annot (api_Attr_.cuts w0 k) api_Attr_.body) (entry (io86.enc v).1 (io86.enc v).2) (endK (api_Attr_.kr w0 k)) := by
  intro v; kernel_rfl
theorem api_Attr_.hb : Tryz.f75.body = some api_Attr_.body := by kernel_rfl
def tab57 (k : Nat) : Tab T := addTab 75 (line io86 io87 ((0 : Int), []) (fun v => api_Attr_ k v.1 v.2)) (tab56 k)
def dom_find (k : Nat) (a1 : List S89) (a2 : List UInt8) : Option (Int) :=
(api_Attr_ k a1 a2).bind fun r3 =>
some r3.1
def dom_find.kr (w0 : World) (k : Nat) : Kr T (Int) := (kret (retK (cfg w0 (tab57 k)) Tryz.f45.results.toList 0 [] io4.pat))
def dom_find.cuts (w0 : World) (k : Nat) : Cuts T (Int) := fun n => none
def dom_find.body : Code := bodyOf Tryz.f45
theorem dom_find.e (w0 : World) (k : Nat) : ∀ v, (fun v => dom_find k v.1 v.2) v = runK (cfg w0 (tab57 k)) Tryz.f45.ntmps (dom_find.kr w0 k) (annot (dom_find.cuts w0 k) dom_find.body) (entry (io90.enc v).1 (io90.enc v).2) (endK (dom_find.kr w0 k)) := by
  intro v; kernel_rfl
theorem dom_find.hb : Tryz.f45.body = some dom_find.body := by kernel_rfl
def tab58 (k : Nat) : Tab T := addTab 45 (line io90 io4 (0 : Int) (fun v => dom_find k v.1 v.2)) (tab57 k)
def dom_attrs.c9 (k : Nat) : Nat → (List S89) → (List S89) → Int → Int → (Option (Int)) → Option (Int)
  | 0, _, _, _, _, _ => none
  | n + 1, x3, x4, x5, x6, k0 =>
    cond (decide (x6 < x5)) (
    cond (decide (0 ≤ x6 ∧ x6 < (x4.length : Int))) (
    (dom_attrName k ((x4.getD x6.toNat S89.d).Name)).bind fun r7 =>
    cond (!r7) (
    some (3 : Int)) (
    let v8 : Int := (((x4.getD x6.toNat S89.d).Value).length : Int)
    cond (decide (v8 > (400 : Int))) (
    some (2 : Int)) (
    cond (decide (0 ≤ x6 ∧ x6 ≤ (x3.length : Int))) (
    (dom_find k (x3.take x6.toNat) ((x4.getD x6.toNat S89.d).Name)).bind fun r9 =>
    cond (decide (r9 ≥ (0 : Int))) (
    some (3 : Int)) (
    let v10 : Int := (IntKind.wrap .i64 (x6 + (1 : Int)))
    dom_attrs.c9 k n x3 x4 x5 v10 k0)) none))) none) (
    k0)
def dom_attrs (k : Nat) (a1 : List S89) : Option (Int) :=
let v2 : Bool := (decide ((a1.length : Int) > (12 : Int)))
cond v2 (
some (2 : Int)) (
dom_attrs.c9 k k a1 a1 (a1.length : Int) (0 : Int) (
some (0 : Int)))
def dom_attrs.kr (w0 : World) (k : Nat) : Kr T (Int) := (kret (retK (cfg w0 (tab58 k)) Tryz.f30.results.toList 0 [] io4.pat))
def dom_attrs.x9 : Ex → Option (List Nat × List Sp)
  | .exit 0 => some ([], [])
  | _ => none
def dom_attrs.L9 (k : Nat) (n : Nat) (v : (List S89) × (List S89) × Int × Int) (K : Ex → St T → Option (Int)) : Option (Int) := dom_attrs.c9 k n v.1 v.2.1 v.2.2.1 v.2.2.2 ( K (.exit 0) (mkSt [] (io82.enc ())))
def dom_attrs.cuts (w0 : World) (k : Nat) : Cuts T (Int) := fun n => bif n.beq 9 then some (entK (cfg w0 (tab58 k)) 0 [0, 8, 9, 10] [] io92.pat (dom_attrs.L9 k k)) else none
def dom_attrs.body : Code := bodyOf Tryz.f30
def dom_attrs.b9 : Code := findD 9 dom_attrs.body
theorem dom_attrs.s9 (w0 : World) (k : Nat) : ∀ n v K, dom_attrs.L9 k (n + 1) v K = runK (cfg w0 (tab58 k)) Tryz.f30.ntmps (dom_attrs.kr w0 k) (annot (dom_attrs.cuts w0 k) dom_attrs.b9) (mkSt [0, 8, 9, 10] (io92.enc v)) (loopK (cfg w0 (tab58 k)) 0 dom_attrs.x9 (entK (cfg w0 (tab58 k)) 0 [0, 8, 9, 10] [] io92.pat (dom_attrs.L9 k n)) K) := by
  intro n v K; kernel_rfl
theorem dom_attrs.e (w0 : World) (k : Nat) : ∀ v, (fun v => dom_attrs k v) v = runK (cfg w0 (tab58 k)) Tryz.f30.ntmps (dom_attrs.kr w0 k) (annot (dom_attrs.cuts w0 k) dom_attrs.body) (entry (io91.enc v).1 (io91.enc v).2) (endK (dom_attrs.kr w0 k)) := by
  intro v; kernel_rfl
theorem dom_attrs.hb : Tryz.f30.body = some dom_attrs.body := by kernel_rfl
def tab59 (k : Nat) : Tab T := addTab 30 (line io91 io4 (0 : Int) (fun v => dom_attrs k v)) (tab58 k)
def dom_one (k : Nat) (a1 : Int) (a2 : List UInt8) (a3 : List S89) (a4 : List UInt8) (a5 : Int) (a6 : List Int) : Option (Int) :=
let v7 : Bool := (cond (decide (a1 < (1 : Int))) true (decide (a1 > (5 : Int))))
(cond (!v7) (dom_bare k a1 a2 a3 a4 a5 a6) (some false)).bind fun r8 =>
cond (cond v7 true (!r8)) (
some (7 : Int)) (
(cond (a1 == (2 : Int)) (dom_Name k a2) (some false)).bind fun r9 =>
let v10 : Bool := (cond (a1 == (2 : Int)) (!r9) false)
cond v10 (
some (3 : Int)) (
(dom_attrs k a3).bind fun r11 =>
cond (r11 != (0 : Int)) (
some r11) (
let v12 : Bool := (decide ((a4.length : Int) > (400 : Int)))
let v13 : Bool := (decide ((a2.length : Int) > (400 : Int)))
cond (cond v12 true v13) (
some (2 : Int)) (
some (0 : Int)))))
def dom_one.kr (w0 : World) (k : Nat) : Kr T (Int) := (kret (retK (cfg w0 (tab59 k)) Tryz.f16.results.toList 0 [] io4.pat))
def dom_one.cuts (w0 : World) (k : Nat) : Cuts T (Int) := fun n => none
def dom_one.body : Code := bodyOf Tryz.f16
theorem dom_one.e (w0 : World) (k : Nat) : ∀ v, (fun v => dom_one k v.1 v.2.1 v.2.2.1 v.2.2.2.1 v.2.2.2.2.1 v.2.2.2.2.2) v = runK (cfg w0 (tab59 k)) Tryz.f16.ntmps (dom_one.kr w0 k) (annot (dom_one.cuts w0 k) dom_one.body) (entry (io83.enc v).1 (io83.enc v).2) (endK (dom_one.kr w0 k)) := by
  intro v; kernel_rfl
theorem dom_one.hb : Tryz.f16.body = some dom_one.body := by kernel_rfl
def tab60 (k : Nat) : Tab T := addTab 16 (line io83 io4 (0 : Int) (fun v => dom_one k v.1 v.2.1 v.2.2.1 v.2.2.2.1 v.2.2.2.2.1 v.2.2.2.2.2)) (tab59 k)
def dom_kids.c13 (k : Nat) : Nat → Int → (List S31) → Int → Int → (List Int) → Int → Int → (List S31) → Bool → (List Bool) → ((List S31) → Int → Int → (List S31) → Bool → (List Bool) → Option (Int)) → Option (Int)
  | 0, _, _, _, _, _, _, _, _, _, _, _ => none
  | n + 1, x12, x13, x14, x15, x16, x17, x18, x19, x20, x21, k2 =>
    cond (decide (x18 < x17)) (
    cond (decide (0 ≤ x18 ∧ x18 < (x16.length : Int))) (
    let v22 : Bool := (decide ((x16.getD x18.toNat (0 : Int)) < (0 : Int)))
    let v23 : Bool := (decide ((x16.getD x18.toNat (0 : Int)) ≥ (x21.length : Int)))
    cond ((decide (0 ≤ (x16.getD x18.toNat (0 : Int)) ∧ (x16.getD x18.toNat (0 : Int)) < (x19.length : Int))) || !(!(cond v22 true v23))) (
    let v24 : Int := (x19.getD ((x16.getD x18.toNat (0 : Int)).toNat) S31.d).Parent
    let v25 : Bool := (cond (cond v22 true v23) true (v24 != x12))
    cond ((decide (0 ≤ (x16.getD x18.toNat (0 : Int)) ∧ (x16.getD x18.toNat (0 : Int)) < (x21.length : Int))) || !(!v25)) (
    let v26 : Bool := (x21.getD ((x16.getD x18.toNat (0 : Int)).toNat) false)
    cond (cond v25 true v26) (
    some (3 : Int)) (
    cond ((decide (0 ≤ (x16.getD x18.toNat (0 : Int)) ∧ (x16.getD x18.toNat (0 : Int)) < (x19.length : Int))) || !(x12 == (0 : Int))) (
    let v27 : Int := (x19.getD ((x16.getD x18.toNat (0 : Int)).toNat) S31.d).Kind
    let v28 : Bool := (cond (x12 == (0 : Int)) (v27 == (3 : Int)) false)
    cond v28 (
    some (7 : Int)) (
    cond (decide (0 ≤ (x16.getD x18.toNat (0 : Int)) ∧ (x16.getD x18.toNat (0 : Int)) < (x21.length : Int))) (
    let v29 : List Bool := (x21.set ((x16.getD x18.toNat (0 : Int)).toNat) true)
    let v30 : Int := (IntKind.wrap .i64 (x18 + (1 : Int)))
    dom_kids.c13 k n x12 x13 x14 x15 x16 x17 v30 x19 x20 v29 k2) none)) none)) none) none) none) (
    k2 x13 x14 x15 x19 x20 x21)
def dom_kids.c7 (k : Nat) : Nat → (List S31) → Int → Int → (List S31) → Bool → (List Bool) → ((List S31) → Bool → (List Bool) → Option (Int)) → Option (Int)
  | 0, _, _, _, _, _, _, _ => none
  | n + 1, x4, x5, x6, x7, x8, x9, k0 =>
    cond (decide (x6 < x5)) (
    cond (decide (0 ≤ x6 ∧ x6 < (x4.length : Int))) (
    let v10 : Int := (x4.getD x6.toNat S31.d).Parent
    let v11 : Int := (((x4.getD x6.toNat S31.d).Kids).length : Int)
    dom_kids.c13 k k x6 x4 x5 x6 ((x4.getD x6.toNat S31.d).Kids) v11 (0 : Int) x7 x8 x9 (fun (y31 : List S31) (y32 : Int) (y33 : Int) (y34 : List S31) (y35 : Bool) (y36 : List Bool) =>
    let v37 : Int := (IntKind.wrap .i64 (y33 + (1 : Int)))
    dom_kids.c7 k n y31 y32 v37 y34 y35 y36 k0)) none) (
    k0 x7 x8 x9)
def dom_kids.c33 (k : Nat) : Nat → (List S31) → Int → Int → (List S31) → Bool → (List Bool) → ((List S31) → Bool → Option (Int)) → Option (Int)
  | 0, _, _, _, _, _, _, _ => none
  | n + 1, x41, x42, x43, x44, x45, x46, k5 =>
    cond (decide (x43 < x42)) (
    cond (decide (0 ≤ x43 ∧ x43 < (x41.length : Int))) (
    let v47 : Int := (x41.getD x43.toNat S31.d).Kind
    let v48 : List UInt8 := (x41.getD x43.toNat S31.d).Name
    let v49 : List S89 := (x41.getD x43.toNat S31.d).Attrs
    let v50 : List UInt8 := (x41.getD x43.toNat S31.d).Text
    let v51 : Int := (x41.getD x43.toNat S31.d).Parent
    let v52 : List Int := (x41.getD x43.toNat S31.d).Kids
    cond ((decide (0 ≤ x43 ∧ x43 < (x46.length : Int))) || !(v51 != (-1 : Int))) (
    let v53 : Bool := (cond (v51 != (-1 : Int)) (!(x46.getD x43.toNat false)) false)
    cond v53 (
    some (3 : Int)) (
    let v54 : Int := (IntKind.wrap .i64 (x43 + (1 : Int)))
    dom_kids.c33 k n x41 x42 v54 x44 x45 x46 k5)) none) none) (
    k5 x44 x45)
def dom_kids (k : Nat) (a1 : List S31) (a2 : Bool) : Option (Int) :=
cond (decide (0 ≤ (a1.length : Int) ∧ (a1.length : Int) ≤ 65536)) (
let v3 : List Bool := (List.replicate ((a1.length : Int)).toNat false)
dom_kids.c7 k k a1 (a1.length : Int) (0 : Int) a1 a2 v3 (fun (y38 : List S31) (y39 : Bool) (y40 : List Bool) =>
dom_kids.c33 k k y38 (y38.length : Int) (0 : Int) y38 y39 y40 (fun (y55 : List S31) (y56 : Bool) =>
cond (decide (0 ≤ (0 : Int) ∧ (0 : Int) < (y55.length : Int))) (
let v57 : Int := (y55.getD ((0 : Int).toNat) S31.d).Parent
cond (v57 != (-1 : Int)) (
some (3 : Int)) (
some (0 : Int))) none))) none
def dom_kids.kr (w0 : World) (k : Nat) : Kr T (Int) := (kret (retK (cfg w0 (tab60 k)) Tryz.f17.results.toList 0 [] io4.pat))
def dom_kids.x13 : Ex → Option (List Nat × List Sp)
  | .exit 2 => some ([1, 3, 15, 16, 17], [])
  | _ => none
def dom_kids.L13 (k : Nat) (n : Nat) (v : Int × (List S31) × Int × Int × (List Int) × Int × Int × (List S31) × Bool × (List Bool)) (K : Ex → St T → Option (Int)) : Option (Int) := dom_kids.c13 k n v.1 v.2.1 v.2.2.1 v.2.2.2.1 v.2.2.2.2.1 v.2.2.2.2.2.1 v.2.2.2.2.2.2.1 v.2.2.2.2.2.2.2.1 v.2.2.2.2.2.2.2.2.1 v.2.2.2.2.2.2.2.2.2 (fun y266 y267 y268 y269 y270 y271 => K (.exit 2) (mkSt [1, 3, 15, 16, 17] (io95.enc (y266, y267, y268, y269, y270, y271))))
def dom_kids.x7 : Ex → Option (List Nat × List Sp)
  | .exit 0 => some ([1, 3], [])
  | _ => none
def dom_kids.L7 (k : Nat) (n : Nat) (v : (List S31) × Int × Int × (List S31) × Bool × (List Bool)) (K : Ex → St T → Option (Int)) : Option (Int) := dom_kids.c7 k n v.1 v.2.1 v.2.2.1 v.2.2.2.1 v.2.2.2.2.1 v.2.2.2.2.2 (fun y272 y273 y274 => K (.exit 0) (mkSt [1, 3] (io96.enc (y272, y273, y274))))
def dom_kids.x33 : Ex → Option (List Nat × List Sp)
  | .exit 5 => some ([1], [])
  | _ => none
def dom_kids.L33 (k : Nat) (n : Nat) (v : (List S31) × Int × Int × (List S31) × Bool × (List Bool)) (K : Ex → St T → Option (Int)) : Option (Int) := dom_kids.c33 k n v.1 v.2.1 v.2.2.1 v.2.2.2.1 v.2.2.2.2.1 v.2.2.2.2.2 (fun y275 y276 => K (.exit 5) (mkSt [1] (io97.enc (y275, y276))))
def dom_kids.cuts (w0 : World) (k : Nat) : Cuts T (Int) := fun n => bif n.beq 13 then some (entK (cfg w0 (tab60 k)) 0 [1, 3, 4, 15, 16, 17, 23, 24, 25] [] io94.pat (dom_kids.L13 k k)) else bif n.beq 7 then some (entK (cfg w0 (tab60 k)) 0 [1, 3, 15, 16, 17] [] io95.pat (dom_kids.L7 k k)) else bif n.beq 33 then some (entK (cfg w0 (tab60 k)) 0 [1, 3, 72, 73, 74] [] io95.pat (dom_kids.L33 k k)) else none
def dom_kids.body : Code := bodyOf Tryz.f17
def dom_kids.b13 : Code := findD 13 dom_kids.body
theorem dom_kids.s13 (w0 : World) (k : Nat) : ∀ n v K, dom_kids.L13 k (n + 1) v K = runK (cfg w0 (tab60 k)) Tryz.f17.ntmps (dom_kids.kr w0 k) (annot (dom_kids.cuts w0 k) dom_kids.b13) (mkSt [1, 3, 4, 15, 16, 17, 23, 24, 25] (io94.enc v)) (loopK (cfg w0 (tab60 k)) 0 dom_kids.x13 (entK (cfg w0 (tab60 k)) 0 [1, 3, 4, 15, 16, 17, 23, 24, 25] [] io94.pat (dom_kids.L13 k n)) K) := by
  intro n v K; kernel_rfl
def dom_kids.b7 : Code := findD 7 dom_kids.body
theorem dom_kids.s7 (w0 : World) (k : Nat) : ∀ n v K, dom_kids.L7 k (n + 1) v K = runK (cfg w0 (tab60 k)) Tryz.f17.ntmps (dom_kids.kr w0 k) (annot (dom_kids.cuts w0 k) dom_kids.b7) (mkSt [1, 3, 15, 16, 17] (io95.enc v)) (loopK (cfg w0 (tab60 k)) 0 dom_kids.x7 (entK (cfg w0 (tab60 k)) 0 [1, 3, 15, 16, 17] [] io95.pat (dom_kids.L7 k n)) K) := by
  intro n v K; kernel_rfl
def dom_kids.b33 : Code := findD 33 dom_kids.body
theorem dom_kids.s33 (w0 : World) (k : Nat) : ∀ n v K, dom_kids.L33 k (n + 1) v K = runK (cfg w0 (tab60 k)) Tryz.f17.ntmps (dom_kids.kr w0 k) (annot (dom_kids.cuts w0 k) dom_kids.b33) (mkSt [1, 3, 72, 73, 74] (io95.enc v)) (loopK (cfg w0 (tab60 k)) 0 dom_kids.x33 (entK (cfg w0 (tab60 k)) 0 [1, 3, 72, 73, 74] [] io95.pat (dom_kids.L33 k n)) K) := by
  intro n v K; kernel_rfl
theorem dom_kids.e (w0 : World) (k : Nat) : ∀ v, (fun v => dom_kids k v.1 v.2) v = runK (cfg w0 (tab60 k)) Tryz.f17.ntmps (dom_kids.kr w0 k) (annot (dom_kids.cuts w0 k) dom_kids.body) (entry (io93.enc v).1 (io93.enc v).2) (endK (dom_kids.kr w0 k)) := by
  intro v; kernel_rfl
theorem dom_kids.hb : Tryz.f17.body = some dom_kids.body := by kernel_rfl
def tab61 (k : Nat) : Tab T := addTab 17 (line io93 io4 (0 : Int) (fun v => dom_kids k v.1 v.2)) (tab60 k)
def dom_up.c3 (k : Nat) : Nat → Int → Int → (List S31) → Bool → (Int → Option (Int)) → Option (Int)
  | 0, _, _, _, _, _ => none
  | n + 1, x4, x5, x6, x7, k0 =>
    cond (decide (0 ≤ x4 ∧ x4 < (x6.length : Int))) (
    let v8 : Int := (x6.getD x4.toNat S31.d).Parent
    let v9 : Bool := (decide (x5 ≤ (x6.length : Int)))
    let v10 : Bool := (cond (decide (v8 ≥ (0 : Int))) v9 false)
    cond v10 (
    let v11 : Int := (IntKind.wrap .i64 (x5 + (1 : Int)))
    cond (decide (0 ≤ x4 ∧ x4 < (x6.length : Int))) (
    let v12 : Int := (x6.getD x4.toNat S31.d).Parent
    dom_up.c3 k n v12 v11 x6 x7 k0) none) (
    k0 x5)) none
def dom_up (k : Nat) (a1 : List S31) (a2 : Bool) (a3 : Int) : Option (Int) :=
dom_up.c3 k k a3 (0 : Int) a1 a2 (fun (y13 : Int) =>
some y13)
def dom_up.kr (w0 : World) (k : Nat) : Kr T (Int) := (kret (retK (cfg w0 (tab61 k)) Tryz.f18.results.toList 0 [] io4.pat))
def dom_up.x3 : Ex → Option (List Nat × List Sp)
  | .exit 0 => some ([4], [])
  | _ => none
def dom_up.L3 (k : Nat) (n : Nat) (v : Int × Int × (List S31) × Bool) (K : Ex → St T → Option (Int)) : Option (Int) := dom_up.c3 k n v.1 v.2.1 v.2.2.1 v.2.2.2 (fun y277 => K (.exit 0) (mkSt [4] (io4.enc y277)))
def dom_up.cuts (w0 : World) (k : Nat) : Cuts T (Int) := fun n => bif n.beq 3 then some (entK (cfg w0 (tab61 k)) 0 [1, 2, 4] [] io99.pat (dom_up.L3 k k)) else none
def dom_up.body : Code := bodyOf Tryz.f18
def dom_up.b3 : Code := findD 3 dom_up.body
theorem dom_up.s3 (w0 : World) (k : Nat) : ∀ n v K, dom_up.L3 k (n + 1) v K = runK (cfg w0 (tab61 k)) Tryz.f18.ntmps (dom_up.kr w0 k) (annot (dom_up.cuts w0 k) dom_up.b3) (mkSt [1, 2, 4] (io99.enc v)) (loopK (cfg w0 (tab61 k)) 0 dom_up.x3 (entK (cfg w0 (tab61 k)) 0 [1, 2, 4] [] io99.pat (dom_up.L3 k n)) K) := by
  intro n v K; kernel_rfl
theorem dom_up.e (w0 : World) (k : Nat) : ∀ v, (fun v => dom_up k v.1 v.2.1 v.2.2) v = runK (cfg w0 (tab61 k)) Tryz.f18.ntmps (dom_up.kr w0 k) (annot (dom_up.cuts w0 k) dom_up.body) (entry (io98.enc v).1 (io98.enc v).2) (endK (dom_up.kr w0 k)) := by
  intro v; kernel_rfl
theorem dom_up.hb : Tryz.f18.body = some dom_up.body := by kernel_rfl
def tab62 (k : Nat) : Tab T := addTab 18 (line io98 io4 (0 : Int) (fun v => dom_up k v.1 v.2.1 v.2.2)) (tab61 k)
def dom_Check.c13 (k : Nat) : Nat → (List S31) → Int → Int → (List S31) → Bool → ((List S31) → Bool → Option (Int)) → Option (Int)
  | 0, _, _, _, _, _, _ => none
  | n + 1, x5, x6, x7, x8, x9, k1 =>
    cond (decide (x7 < x6)) (
    cond (decide (0 ≤ x7 ∧ x7 < (x5.length : Int))) (
    let v10 : Int := (x5.getD x7.toNat S31.d).Parent
    let v11 : Bool := (((x5.getD x7.toNat S31.d).Kind) == (1 : Int))
    cond (!(v11 == (x7 == (0 : Int)))) (
    some (3 : Int)) (
    (dom_one k ((x5.getD x7.toNat S31.d).Kind) ((x5.getD x7.toNat S31.d).Name) ((x5.getD x7.toNat S31.d).Attrs) ((x5.getD x7.toNat S31.d).Text) v10 ((x5.getD x7.toNat S31.d).Kids)).bind fun r12 =>
    cond (r12 != (0 : Int)) (
    some r12) (
    let v13 : Int := (IntKind.wrap .i64 (x7 + (1 : Int)))
    dom_Check.c13 k n x5 x6 v13 x8 x9 k1))) none) (
    k1 x8 x9)
def dom_Check.c37 (k : Nat) : Nat → Int → Int → (List S31) → Bool → (Option (Int)) → Option (Int)
  | 0, _, _, _, _, _ => none
  | n + 1, x17, x18, x19, x20, k3 =>
    cond (decide (x18 < x17)) (
    (dom_up k x19 x20 x18).bind fun r21 =>
    let v22 : Bool := (decide (r21 > (x19.length : Int)))
    cond v22 (
    some (8 : Int)) (
    cond (decide (r21 > (40 : Int))) (
    some (2 : Int)) (
    let v23 : Int := (IntKind.wrap .i64 (x18 + (1 : Int)))
    dom_Check.c37 k n x17 v23 x19 x20 k3))) (
    k3)
def dom_Check (k : Nat) (a1 : List S31) (a2 : Bool) : Option (Int) :=
let v3 : Bool := (decide ((a1.length : Int) > (200 : Int)))
cond v3 (
some (2 : Int)) (
let v4 : Bool := ((a1.length : Int) == (0 : Int))
cond v4 (
some (3 : Int)) (
dom_Check.c13 k k a1 (a1.length : Int) (0 : Int) a1 a2 (fun (y14 : List S31) (y15 : Bool) =>
(dom_kids k y14 y15).bind fun r16 =>
cond (r16 != (0 : Int)) (
some r16) (
dom_Check.c37 k k (y14.length : Int) (0 : Int) y14 y15 (
some (0 : Int))))))
def dom_Check.kr (w0 : World) (k : Nat) : Kr T (Int) := (kret (retK (cfg w0 (tab62 k)) Tryz.f7.results.toList 0 [] io4.pat))
def dom_Check.x13 : Ex → Option (List Nat × List Sp)
  | .exit 1 => some ([1], [])
  | _ => none
def dom_Check.L13 (k : Nat) (n : Nat) (v : (List S31) × Int × Int × (List S31) × Bool) (K : Ex → St T → Option (Int)) : Option (Int) := dom_Check.c13 k n v.1 v.2.1 v.2.2.1 v.2.2.2.1 v.2.2.2.2 (fun y278 y279 => K (.exit 1) (mkSt [1] (io97.enc (y278, y279))))
def dom_Check.x37 : Ex → Option (List Nat × List Sp)
  | .exit 3 => some ([], [])
  | _ => none
def dom_Check.L37 (k : Nat) (n : Nat) (v : Int × Int × (List S31) × Bool) (K : Ex → St T → Option (Int)) : Option (Int) := dom_Check.c37 k n v.1 v.2.1 v.2.2.1 v.2.2.2 ( K (.exit 3) (mkSt [] (io82.enc ())))
def dom_Check.cuts (w0 : World) (k : Nat) : Cuts T (Int) := fun n => bif n.beq 13 then some (entK (cfg w0 (tab62 k)) 0 [1, 20, 21, 22] [] io100.pat (dom_Check.L13 k k)) else bif n.beq 37 then some (entK (cfg w0 (tab62 k)) 0 [1, 46, 47] [] io101.pat (dom_Check.L37 k k)) else none
def dom_Check.body : Code := bodyOf Tryz.f7
def dom_Check.b13 : Code := findD 13 dom_Check.body
theorem dom_Check.s13 (w0 : World) (k : Nat) : ∀ n v K, dom_Check.L13 k (n + 1) v K = runK (cfg w0 (tab62 k)) Tryz.f7.ntmps (dom_Check.kr w0 k) (annot (dom_Check.cuts w0 k) dom_Check.b13) (mkSt [1, 20, 21, 22] (io100.enc v)) (loopK (cfg w0 (tab62 k)) 0 dom_Check.x13 (entK (cfg w0 (tab62 k)) 0 [1, 20, 21, 22] [] io100.pat (dom_Check.L13 k n)) K) := by
  intro n v K; kernel_rfl
def dom_Check.b37 : Code := findD 37 dom_Check.body
theorem dom_Check.s37 (w0 : World) (k : Nat) : ∀ n v K, dom_Check.L37 k (n + 1) v K = runK (cfg w0 (tab62 k)) Tryz.f7.ntmps (dom_Check.kr w0 k) (annot (dom_Check.cuts w0 k) dom_Check.b37) (mkSt [1, 46, 47] (io101.enc v)) (loopK (cfg w0 (tab62 k)) 0 dom_Check.x37 (entK (cfg w0 (tab62 k)) 0 [1, 46, 47] [] io101.pat (dom_Check.L37 k n)) K) := by
  intro n v K; kernel_rfl
theorem dom_Check.e (w0 : World) (k : Nat) : ∀ v, (fun v => dom_Check k v.1 v.2) v = runK (cfg w0 (tab62 k)) Tryz.f7.ntmps (dom_Check.kr w0 k) (annot (dom_Check.cuts w0 k) dom_Check.body) (entry (io93.enc v).1 (io93.enc v).2) (endK (dom_Check.kr w0 k)) := by
  intro v; kernel_rfl
theorem dom_Check.hb : Tryz.f7.body = some dom_Check.body := by kernel_rfl
def tab63 (k : Nat) : Tab T := addTab 7 (line io93 io4 (0 : Int) (fun v => dom_Check k v.1 v.2)) (tab62 k)
def match_read (k : Nat) (a1 : List S31) (a2 : Bool) (a3 : Int) (a4 : List UInt8) : Option (Int × (List S52)) :=
(dom_Check k a1 a2).bind fun r5 =>
cond (r5 != (0 : Int)) (
some (r5, ([] : List S52))) (
let v6 : Bool := (decide (a3 ≥ (a1.length : Int)))
let v7 : Bool := (cond (decide (a3 < (0 : Int))) true v6)
cond v7 (
some ((5 : Int), ([] : List S52))) (
(selector_Read k a4).bind fun r8 =>
some (r8.1, r8.2)))
def match_read.kr (w0 : World) (k : Nat) : Kr T (Int × (List S52)) := (kret (retK (cfg w0 (tab63 k)) Tryz.f19.results.toList 0 [.own 0 52] io81.pat))
def match_read.cuts (w0 : World) (k : Nat) : Cuts T (Int × (List S52)) := fun n => none
def match_read.body : Code := bodyOf Tryz.f19
theorem match_read.e (w0 : World) (k : Nat) : ∀ v, (fun v => match_read k v.1 v.2.1 v.2.2.1 v.2.2.2) v = runK (cfg w0 (tab63 k)) Tryz.f19.ntmps (match_read.kr w0 k) (annot (match_read.cuts w0 k) match_read.body) (entry (io102.enc v).1 (io102.enc v).2) (endK (match_read.kr w0 k)) := by
  intro v; kernel_rfl
theorem match_read.hb : Tryz.f19.body = some match_read.body := by kernel_rfl
def tab64 (k : Nat) : Tab T := addTab 19 (line io102 io81 ((0 : Int), []) (fun v => match_read k v.1 v.2.1 v.2.2.1 v.2.2.2)) (tab63 k)
def match_element (k : Nat) (a1 : List S31) (a2 : Bool) (a3 : Int) : Option (Bool) :=
cond (decide (0 ≤ a3 ∧ a3 < (a1.length : Int))) (
let v4 : Bool := (((a1.getD a3.toNat S31.d).Kind) == (2 : Int))
some v4) none
def match_element.kr (w0 : World) (k : Nat) : Kr T (Bool) := (kret (retK (cfg w0 (tab64 k)) Tryz.f49.results.toList 0 [] io2.pat))
def match_element.cuts (w0 : World) (k : Nat) : Cuts T (Bool) := fun n => none
def match_element.body : Code := bodyOf Tryz.f49
theorem match_element.e (w0 : World) (k : Nat) : ∀ v, (fun v => match_element k v.1 v.2.1 v.2.2) v = runK (cfg w0 (tab64 k)) Tryz.f49.ntmps (match_element.kr w0 k) (annot (match_element.cuts w0 k) match_element.body) (entry (io98.enc v).1 (io98.enc v).2) (endK (match_element.kr w0 k)) := by
  intro v; kernel_rfl
theorem match_element.hb : Tryz.f49.body = some match_element.body := by kernel_rfl
def tab65 (k : Nat) : Tab T := addTab 49 (line io98 io2 false (fun v => match_element k v.1 v.2.1 v.2.2)) (tab64 k)
def match_attr_1 (k : Nat) (a1 : List UInt8) (a2 : List UInt8) (a3 : List UInt8) : Option (Bool × (List UInt8)) :=
some ((a1 == a3), a3)
def match_attr_1.kr (w0 : World) (k : Nat) : Kr T (Bool × (List UInt8)) := (kret (retK (cfg w0 (tab65 k)) Tryz.f112.results.toList 1 [] io85.pat))
def match_attr_1.cuts (w0 : World) (k : Nat) : Cuts T (Bool × (List UInt8)) := fun n => none
def match_attr_1.body : Code := bodyOf Tryz.f112
theorem match_attr_1.e (w0 : World) (k : Nat) : ∀ v, (fun v => match_attr_1 k v.1 v.2.1 v.2.2) v = runK (cfg w0 (tab65 k)) Tryz.f112.ntmps (match_attr_1.kr w0 k) (annot (match_attr_1.cuts w0 k) match_attr_1.body) (entry (io84.enc v).1 (io84.enc v).2) (endK (match_attr_1.kr w0 k)) := by
  intro v; kernel_rfl
theorem match_attr_1.hb : Tryz.f112.body = some match_attr_1.body := by kernel_rfl
def tab66 (k : Nat) : Tab T := addTab 112 (line io84 io85 (false, []) (fun v => match_attr_1 k v.1 v.2.1 v.2.2)) (tab65 k)
def api_Attr__v2.c5 (k : Nat) : Nat → (List S89) → Int → Int → (List UInt8) → ((List UInt8) → Option (Int × (List UInt8))) → Option (Int × (List UInt8))
  | 0, _, _, _, _, _ => none
  | n + 1, x3, x4, x5, x6, k0 =>
    cond (decide (x5 < x4)) (
    cond (decide (0 ≤ x5 ∧ x5 < (x3.length : Int))) (
    (match_attr_1 k ((x3.getD x5.toNat S89.d).Name) ((x3.getD x5.toNat S89.d).Value) x6).bind fun r7 =>
    cond r7.1 (
    some (x5, r7.2)) (
    let v8 : Int := (IntKind.wrap .i64 (x5 + (1 : Int)))
    api_Attr__v2.c5 k n x3 x4 v8 r7.2 k0)) none) (
    k0 x6)
def api_Attr__v2 (k : Nat) (a1 : List S89) (a2 : List UInt8) : Option (Int × (List UInt8)) :=
api_Attr__v2.c5 k k a1 (a1.length : Int) (0 : Int) a2 (fun (y9 : List UInt8) =>
some ((-1 : Int), y9))
def api_Attr__v2.kr (w0 : World) (k : Nat) : Kr T (Int × (List UInt8)) := (kret (retK (cfg w0 (tab66 k)) Tryz.f75.results.toList 1 [] io87.pat))
def api_Attr__v2.x5 : Ex → Option (List Nat × List Sp)
  | .exit 0 => some ([], [])
  | _ => none
def api_Attr__v2.L5 (k : Nat) (n : Nat) (v : (List S89) × Int × Int × (List UInt8)) (K : Ex → St T → Option (Int × (List UInt8))) : Option (Int × (List UInt8)) := api_Attr__v2.c5 k n v.1 v.2.1 v.2.2.1 v.2.2.2 (fun y280 => K (.exit 0) (mkSt [] (io89.enc y280)))
def api_Attr__v2.cuts (w0 : World) (k : Nat) : Cuts T (Int × (List UInt8)) := fun n => bif n.beq 5 then some (entK (cfg w0 (tab66 k)) 1 [0, 1, 7, 8] [] io104.pat (api_Attr__v2.L5 k k)) else none
def api_Attr__v2.body : Code := bodyOf Tryz.f75
def api_Attr__v2.b5 : Code := findD 5 api_Attr__v2.body
theorem api_Attr__v2.s5 (w0 : World) (k : Nat) : ∀ n v K, api_Attr__v2.L5 k (n + 1) v K = runK (cfg w0 (tab66 k)) Tryz.f75.ntmps (api_Attr__v2.kr w0 k) (annot (api_Attr__v2.cuts w0 k) api_Attr__v2.b5) (mkSt [0, 1, 7, 8] (io104.enc v)) (loopK (cfg w0 (tab66 k)) 1 api_Attr__v2.x5 (entK (cfg w0 (tab66 k)) 1 [0, 1, 7, 8] [] io104.pat (api_Attr__v2.L5 k n)) K) := by
  intro n v K; kernel_rfl
theorem api_Attr__v2.e (w0 : World) (k : Nat) : ∀ v, (fun v => api_Attr__v2 k v.1 v.2) v = runK (cfg w0 (tab66 k)) Tryz.f75.ntmps (api_Attr__v2.kr w0 k) (annot (api_Attr__v2.cuts w0 k) api_Attr__v2.body) (entry (io103.enc v).1 (io103.enc v).2) (endK (api_Attr__v2.kr w0 k)) := by
  intro v; kernel_rfl
theorem api_Attr__v2.hb : Tryz.f75.body = some api_Attr__v2.body := by kernel_rfl
def tab67 (k : Nat) : Tab T := addTab 75 (line io103 io87 ((0 : Int), []) (fun v => api_Attr__v2 k v.1 v.2)) (tab66 k)
def match_attr (k : Nat) (a1 : Int) (a2 : List UInt8) (a3 : List S89) (a4 : List UInt8) (a5 : Int) (a6 : List Int) (a7 : List UInt8) : Option ((List UInt8) × Bool) :=
(api_Attr__v2 k a3 a7).bind fun r8 =>
cond (decide (r8.1 < (0 : Int))) (
some (([] : List UInt8), false)) (
cond (decide (0 ≤ r8.1 ∧ r8.1 < (a3.length : Int))) (
let v9 : List UInt8 := (a3.getD r8.1.toNat S89.d).Value
some (v9, true)) none)
def match_attr.kr (w0 : World) (k : Nat) : Kr T ((List UInt8) × Bool) := (kret (retK (cfg w0 (tab67 k)) Tryz.f79.results.toList 0 [] io3.pat))
def match_attr.cuts (w0 : World) (k : Nat) : Cuts T ((List UInt8) × Bool) := fun n => none
def match_attr.body : Code := bodyOf Tryz.f79
theorem match_attr.e (w0 : World) (k : Nat) : ∀ v, (fun v => match_attr k v.1 v.2.1 v.2.2.1 v.2.2.2.1 v.2.2.2.2.1 v.2.2.2.2.2.1 v.2.2.2.2.2.2) v = runK (cfg w0 (tab67 k)) Tryz.f79.ntmps (match_attr.kr w0 k) (annot (match_attr.cuts w0 k) match_attr.body) (entry (io105.enc v).1 (io105.enc v).2) (endK (match_attr.kr w0 k)) := by
  intro v; kernel_rfl
theorem match_attr.hb : Tryz.f79.body = some match_attr.body := by kernel_rfl
def tab68 (k : Nat) : Tab T := addTab 79 (line io105 io3 ([], false) (fun v => match_attr k v.1 v.2.1 v.2.2.1 v.2.2.2.1 v.2.2.2.2.1 v.2.2.2.2.2.1 v.2.2.2.2.2.2)) (tab67 k)
def stringslite_HasSuffix (k : Nat) (a1 : List UInt8) (a2 : List UInt8) : Option (Bool) :=
let v3 : Bool := (decide ((a1.length : Int) ≥ (a2.length : Int)))
let v4 : Int := (IntKind.wrap .i64 ((a1.length : Int) - (a2.length : Int)))
cond ((decide (0 ≤ v4 ∧ v4 ≤ (a1.length : Int))) || !v3) (
let v5 : Bool := (cond v3 ((a1.drop v4.toNat) == a2) false)
some v5) none
def stringslite_HasSuffix.kr (w0 : World) (k : Nat) : Kr T (Bool) := (kret (retK (cfg w0 (tab68 k)) Tryz.f148.results.toList 0 [] io2.pat))
def stringslite_HasSuffix.cuts (w0 : World) (k : Nat) : Cuts T (Bool) := fun n => none
def stringslite_HasSuffix.body : Code := bodyOf Tryz.f148
theorem stringslite_HasSuffix.e (w0 : World) (k : Nat) : ∀ v, (fun v => stringslite_HasSuffix k v.1 v.2) v = runK (cfg w0 (tab68 k)) Tryz.f148.ntmps (stringslite_HasSuffix.kr w0 k) (annot (stringslite_HasSuffix.cuts w0 k) stringslite_HasSuffix.body) (entry (io0.enc v).1 (io0.enc v).2) (endK (stringslite_HasSuffix.kr w0 k)) := by
  intro v; kernel_rfl
theorem stringslite_HasSuffix.hb : Tryz.f148.body = some stringslite_HasSuffix.body := by kernel_rfl
def tab69 (k : Nat) : Tab T := addTab 148 (line io0 io2 false (fun v => stringslite_HasSuffix k v.1 v.2)) (tab68 k)
def strings_HasSuffix (k : Nat) (a1 : List UInt8) (a2 : List UInt8) : Option (Bool) :=
(stringslite_HasSuffix k a1 a2).bind fun r3 =>
some r3
def strings_HasSuffix.kr (w0 : World) (k : Nat) : Kr T (Bool) := (kret (retK (cfg w0 (tab69 k)) Tryz.f117.results.toList 0 [] io2.pat))
def strings_HasSuffix.cuts (w0 : World) (k : Nat) : Cuts T (Bool) := fun n => none
def strings_HasSuffix.body : Code := bodyOf Tryz.f117
theorem strings_HasSuffix.e (w0 : World) (k : Nat) : ∀ v, (fun v => strings_HasSuffix k v.1 v.2) v = runK (cfg w0 (tab69 k)) Tryz.f117.ntmps (strings_HasSuffix.kr w0 k) (annot (strings_HasSuffix.cuts w0 k) strings_HasSuffix.body) (entry (io0.enc v).1 (io0.enc v).2) (endK (strings_HasSuffix.kr w0 k)) := by
  intro v; kernel_rfl
theorem strings_HasSuffix.hb : Tryz.f117.body = some strings_HasSuffix.body := by kernel_rfl
def tab70 (k : Nat) : Tab T := addTab 117 (line io0 io2 false (fun v => strings_HasSuffix k v.1 v.2)) (tab69 k)
def strings_Contains (k : Nat) (a1 : List UInt8) (a2 : List UInt8) : Option (Bool) :=
(strings_Index k a1 a2).bind fun r3 =>
some (decide (r3 ≥ (0 : Int)))
def strings_Contains.kr (w0 : World) (k : Nat) : Kr T (Bool) := (kret (retK (cfg w0 (tab70 k)) Tryz.f118.results.toList 0 [] io2.pat))
def strings_Contains.cuts (w0 : World) (k : Nat) : Cuts T (Bool) := fun n => none
def strings_Contains.body : Code := bodyOf Tryz.f118
theorem strings_Contains.e (w0 : World) (k : Nat) : ∀ v, (fun v => strings_Contains k v.1 v.2) v = runK (cfg w0 (tab70 k)) Tryz.f118.ntmps (strings_Contains.kr w0 k) (annot (strings_Contains.cuts w0 k) strings_Contains.body) (entry (io0.enc v).1 (io0.enc v).2) (endK (strings_Contains.kr w0 k)) := by
  intro v; kernel_rfl
theorem strings_Contains.hb : Tryz.f118.body = some strings_Contains.body := by kernel_rfl
def tab71 (k : Nat) : Tab T := addTab 118 (line io0 io2 false (fun v => strings_Contains k v.1 v.2)) (tab70 k)
def match_fitsAttr (k : Nat) (a1 : Int) (a2 : List UInt8) (a3 : List S89) (a4 : List UInt8) (a5 : Int) (a6 : List Int) (a7 : Int) (a8 : List UInt8) (a9 : Int) (a10 : List UInt8) (a11 : Int) (a12 : Int) (a13 : List S52) : Option (Bool) :=
(match_attr k a1 a2 a3 a4 a5 a6 a8).bind fun r14 =>
let v15 : Bool := (cond (!r14.2) true (a9 == (0 : Int)))
cond v15 (
some r14.2) (
cond (a9 == (61 : Int)) (
some (r14.1 == a10)) (
cond (a9 == (124 : Int)) (
cond ((Nat.ble (a10.length + ([45] : List UInt8).length) 9223372036854775807) || !(!(r14.1 == a10))) (
(cond (!(r14.1 == a10)) (strings_HasPrefix k r14.1 (a10 ++ ([45] : List UInt8))) (some false)).bind fun r16 =>
some (cond (r14.1 == a10) true r16)) none) (
cond (a10 == ([] : List UInt8)) (
some false) (
cond (a9 == (126 : Int)) (
none) (
cond (a9 == (94 : Int)) (
(strings_HasPrefix k r14.1 a10).bind fun r18 =>
some r18) (
cond (a9 == (36 : Int)) (
(strings_HasSuffix k r14.1 a10).bind fun r19 =>
some r19) (
(strings_Contains k r14.1 a10).bind fun r20 =>
some r20)))))))
def match_fitsAttr.kr (w0 : World) (k : Nat) : Kr T (Bool) := (kret (retK (cfg w0 (tab71 k)) Tryz.f81.results.toList 0 [] io2.pat))
def match_fitsAttr.cuts (w0 : World) (k : Nat) : Cuts T (Bool) := fun n => none
def match_fitsAttr.body : Code := bodyOf Tryz.f81
theorem match_fitsAttr.e (w0 : World) (k : Nat) : ∀ v, (fun v => match_fitsAttr k v.1 v.2.1 v.2.2.1 v.2.2.2.1 v.2.2.2.2.1 v.2.2.2.2.2.1 v.2.2.2.2.2.2.1 v.2.2.2.2.2.2.2.1 v.2.2.2.2.2.2.2.2.1 v.2.2.2.2.2.2.2.2.2.1 v.2.2.2.2.2.2.2.2.2.2.1 v.2.2.2.2.2.2.2.2.2.2.2.1 v.2.2.2.2.2.2.2.2.2.2.2.2) v = runK (cfg w0 (tab71 k)) Tryz.f81.ntmps (match_fitsAttr.kr w0 k) (annot (match_fitsAttr.cuts w0 k) match_fitsAttr.body) (entry (io106.enc v).1 (io106.enc v).2) (endK (match_fitsAttr.kr w0 k)) := by
  intro v; kernel_rfl
theorem match_fitsAttr.hb : Tryz.f81.body = some match_fitsAttr.body := by kernel_rfl
def tab72 (k : Nat) : Tab T := addTab 81 (line io106 io2 false (fun v => match_fitsAttr k v.1 v.2.1 v.2.2.1 v.2.2.2.1 v.2.2.2.2.1 v.2.2.2.2.2.1 v.2.2.2.2.2.2.1 v.2.2.2.2.2.2.2.1 v.2.2.2.2.2.2.2.2.1 v.2.2.2.2.2.2.2.2.2.1 v.2.2.2.2.2.2.2.2.2.2.1 v.2.2.2.2.2.2.2.2.2.2.2.1 v.2.2.2.2.2.2.2.2.2.2.2.2)) (tab71 k)
def match_empty_1 (k : Nat) (a1 : Int) (a2 : List S31) (a3 : Bool) : Option (Bool × (List S31) × Bool) :=
(match_element k a2 a3 a1).bind fun r4 =>
cond ((decide (0 ≤ a1 ∧ a1 < (a2.length : Int))) || !(!r4)) (
let v5 : Bool := (((a2.getD a1.toNat S31.d).Kind) == (3 : Int))
cond ((decide (0 ≤ a1 ∧ a1 < (a2.length : Int))) || !((!r4) && v5)) (
let v6 : Bool := (!(((a2.getD a1.toNat S31.d).Text) == ([] : List UInt8)))
let v7 : Bool := (cond r4 true (cond v5 v6 false))
some (v7, a2, a3)) none) none
def match_empty_1.kr (w0 : World) (k : Nat) : Kr T (Bool × (List S31) × Bool) := (kret (retK (cfg w0 (tab72 k)) Tryz.f120.results.toList 1 [] io108.pat))
def match_empty_1.cuts (w0 : World) (k : Nat) : Cuts T (Bool × (List S31) × Bool) := fun n => none
def match_empty_1.body : Code := bodyOf Tryz.f120
theorem match_empty_1.e (w0 : World) (k : Nat) : ∀ v, (fun v => match_empty_1 k v.1 v.2.1 v.2.2) v = runK (cfg w0 (tab72 k)) Tryz.f120.ntmps (match_empty_1.kr w0 k) (annot (match_empty_1.cuts w0 k) match_empty_1.body) (entry (io107.enc v).1 (io107.enc v).2) (endK (match_empty_1.kr w0 k)) := by
  intro v; kernel_rfl
theorem match_empty_1.hb : Tryz.f120.body = some match_empty_1.body := by kernel_rfl
def tab73 (k : Nat) : Tab T := addTab 120 (line io107 io108 (false, [], false) (fun v => match_empty_1 k v.1 v.2.1 v.2.2)) (tab72 k)
def slices_IndexFunc___int_int__v2.c5 (k : Nat) : Nat → (List Int) → Int → Int → (List S31) → Bool → ((List S31) → Bool → Option (Int × (List S31) × Bool)) → Option (Int × (List S31) × Bool)
  | 0, _, _, _, _, _, _ => none
  | n + 1, x4, x5, x6, x7, x8, k0 =>
    cond (decide (x6 < x5)) (
    cond (decide (0 ≤ x6 ∧ x6 < (x4.length : Int))) (
    (match_empty_1 k (x4.getD x6.toNat (0 : Int)) x7 x8).bind fun r9 =>
    cond r9.1 (
    some (x6, r9.2.1, r9.2.2)) (
    let v10 : Int := (IntKind.wrap .i64 (x6 + (1 : Int)))
    slices_IndexFunc___int_int__v2.c5 k n x4 x5 v10 r9.2.1 r9.2.2 k0)) none) (
    k0 x7 x8)
def slices_IndexFunc___int_int__v2 (k : Nat) (a1 : List Int) (a2 : List S31) (a3 : Bool) : Option (Int × (List S31) × Bool) :=
slices_IndexFunc___int_int__v2.c5 k k a1 (a1.length : Int) (0 : Int) a2 a3 (fun (y11 : List S31) (y12 : Bool) =>
some ((-1 : Int), y11, y12))
def slices_IndexFunc___int_int__v2.kr (w0 : World) (k : Nat) : Kr T (Int × (List S31) × Bool) := (kret (retK (cfg w0 (tab73 k)) Tryz.f77.results.toList 1 [] io110.pat))
def slices_IndexFunc___int_int__v2.x5 : Ex → Option (List Nat × List Sp)
  | .exit 0 => some ([], [])
  | _ => none
def slices_IndexFunc___int_int__v2.L5 (k : Nat) (n : Nat) (v : (List Int) × Int × Int × (List S31) × Bool) (K : Ex → St T → Option (Int × (List S31) × Bool)) : Option (Int × (List S31) × Bool) := slices_IndexFunc___int_int__v2.c5 k n v.1 v.2.1 v.2.2.1 v.2.2.2.1 v.2.2.2.2 (fun y281 y282 => K (.exit 0) (mkSt [] (io112.enc (y281, y282))))
def slices_IndexFunc___int_int__v2.cuts (w0 : World) (k : Nat) : Cuts T (Int × (List S31) × Bool) := fun n => bif n.beq 5 then some (entK (cfg w0 (tab73 k)) 1 [0, 1, 7, 8] [] io111.pat (slices_IndexFunc___int_int__v2.L5 k k)) else none
def slices_IndexFunc___int_int__v2.body : Code := bodyOf Tryz.f77
def slices_IndexFunc___int_int__v2.b5 : Code := findD 5 slices_IndexFunc___int_int__v2.body
theorem slices_IndexFunc___int_int__v2.s5 (w0 : World) (k : Nat) : ∀ n v K, slices_IndexFunc___int_int__v2.L5 k (n + 1) v K = runK (cfg w0 (tab73 k)) Tryz.f77.ntmps (slices_IndexFunc___int_int__v2.kr w0 k) (annot (slices_IndexFunc___int_int__v2.cuts w0 k) slices_IndexFunc___int_int__v2.b5) (mkSt [0, 1, 7, 8] (io111.enc v)) (loopK (cfg w0 (tab73 k)) 1 slices_IndexFunc___int_int__v2.x5 (entK (cfg w0 (tab73 k)) 1 [0, 1, 7, 8] [] io111.pat (slices_IndexFunc___int_int__v2.L5 k n)) K) := by
  intro n v K; kernel_rfl
theorem slices_IndexFunc___int_int__v2.e (w0 : World) (k : Nat) : ∀ v, (fun v => slices_IndexFunc___int_int__v2 k v.1 v.2.1 v.2.2) v = runK (cfg w0 (tab73 k)) Tryz.f77.ntmps (slices_IndexFunc___int_int__v2.kr w0 k) (annot (slices_IndexFunc___int_int__v2.cuts w0 k) slices_IndexFunc___int_int__v2.body) (entry (io109.enc v).1 (io109.enc v).2) (endK (slices_IndexFunc___int_int__v2.kr w0 k)) := by
  intro v; kernel_rfl
theorem slices_IndexFunc___int_int__v2.hb : Tryz.f77.body = some slices_IndexFunc___int_int__v2.body := by kernel_rfl
def tab74 (k : Nat) : Tab T := addTab 77 (line io109 io110 ((0 : Int), [], false) (fun v => slices_IndexFunc___int_int__v2 k v.1 v.2.1 v.2.2)) (tab73 k)
def slices_ContainsFunc___int_int_ (k : Nat) (a1 : List Int) (a2 : List S31) (a3 : Bool) : Option (Bool × (List S31) × Bool) :=
(slices_IndexFunc___int_int__v2 k a1 a2 a3).bind fun r4 =>
some ((decide (r4.1 ≥ (0 : Int))), r4.2.1, r4.2.2)
def slices_ContainsFunc___int_int_.kr (w0 : World) (k : Nat) : Kr T (Bool × (List S31) × Bool) := (kret (retK (cfg w0 (tab74 k)) Tryz.f119.results.toList 1 [] io108.pat))
def slices_ContainsFunc___int_int_.cuts (w0 : World) (k : Nat) : Cuts T (Bool × (List S31) × Bool) := fun n => none
def slices_ContainsFunc___int_int_.body : Code := bodyOf Tryz.f119
theorem slices_ContainsFunc___int_int_.e (w0 : World) (k : Nat) : ∀ v, (fun v => slices_ContainsFunc___int_int_ k v.1 v.2.1 v.2.2) v = runK (cfg w0 (tab74 k)) Tryz.f119.ntmps (slices_ContainsFunc___int_int_.kr w0 k) (annot (slices_ContainsFunc___int_int_.cuts w0 k) slices_ContainsFunc___int_int_.body) (entry (io109.enc v).1 (io109.enc v).2) (endK (slices_ContainsFunc___int_int_.kr w0 k)) := by
  intro v; kernel_rfl
theorem slices_ContainsFunc___int_int_.hb : Tryz.f119.body = some slices_ContainsFunc___int_int_.body := by kernel_rfl
def tab75 (k : Nat) : Tab T := addTab 119 (line io109 io108 (false, [], false) (fun v => slices_ContainsFunc___int_int_ k v.1 v.2.1 v.2.2)) (tab74 k)
def match_empty (k : Nat) (a1 : List S31) (a2 : Bool) (a3 : Int) : Option (Bool) :=
cond (decide (0 ≤ a3 ∧ a3 < (a1.length : Int))) (
(slices_ContainsFunc___int_int_ k ((a1.getD a3.toNat S31.d).Kids) a1 a2).bind fun r4 =>
some (!r4.1)) none
def match_empty.kr (w0 : World) (k : Nat) : Kr T (Bool) := (kret (retK (cfg w0 (tab75 k)) Tryz.f82.results.toList 0 [] io2.pat))
def match_empty.cuts (w0 : World) (k : Nat) : Cuts T (Bool) := fun n => none
def match_empty.body : Code := bodyOf Tryz.f82
theorem match_empty.e (w0 : World) (k : Nat) : ∀ v, (fun v => match_empty k v.1 v.2.1 v.2.2) v = runK (cfg w0 (tab75 k)) Tryz.f82.ntmps (match_empty.kr w0 k) (annot (match_empty.cuts w0 k) match_empty.body) (entry (io98.enc v).1 (io98.enc v).2) (endK (match_empty.kr w0 k)) := by
  intro v; kernel_rfl
theorem match_empty.hb : Tryz.f82.body = some match_empty.body := by kernel_rfl
def tab76 (k : Nat) : Tab T := addTab 82 (line io98 io2 false (fun v => match_empty k v.1 v.2.1 v.2.2)) (tab75 k)
def slices_Clone___int_int_ (k : Nat) (a6 : List Int) : Option (List Int) := cloneS a6
def tab77 (k : Nat) : Tab T := addTab 121 (line io113 io114 [] (fun v => slices_Clone___int_int_ k v)) (tab76 k)
def match_kin_1 (k : Nat) (a1 : Int) (a2 : List S31) (a3 : Bool) : Option (Bool × (List S31) × Bool) :=
(match_element k a2 a3 a1).bind fun r4 =>
some ((!r4), a2, a3)
def match_kin_1.kr (w0 : World) (k : Nat) : Kr T (Bool × (List S31) × Bool) := (kret (retK (cfg w0 (tab77 k)) Tryz.f122.results.toList 1 [] io108.pat))
def match_kin_1.cuts (w0 : World) (k : Nat) : Cuts T (Bool × (List S31) × Bool) := fun n => none
def match_kin_1.body : Code := bodyOf Tryz.f122
theorem match_kin_1.e (w0 : World) (k : Nat) : ∀ v, (fun v => match_kin_1 k v.1 v.2.1 v.2.2) v = runK (cfg w0 (tab77 k)) Tryz.f122.ntmps (match_kin_1.kr w0 k) (annot (match_kin_1.cuts w0 k) match_kin_1.body) (entry (io107.enc v).1 (io107.enc v).2) (endK (match_kin_1.kr w0 k)) := by
  intro v; kernel_rfl
theorem match_kin_1.hb : Tryz.f122.body = some match_kin_1.body := by kernel_rfl
def tab78 (k : Nat) : Tab T := addTab 122 (line io107 io108 (false, [], false) (fun v => match_kin_1 k v.1 v.2.1 v.2.2)) (tab77 k)
def slices_IndexFunc___int_int__v3.c5 (k : Nat) : Nat → Int → Int → (List Int) → (List S31) → Bool → ((List Int) → (List S31) → Bool → Option (Int × (List Int) × (List S31) × Bool)) → Option (Int × (List Int) × (List S31) × Bool)
  | 0, _, _, _, _, _, _ => none
  | n + 1, x4, x5, x6, x7, x8, k0 =>
    cond (decide (x5 < x4)) (
    cond (decide (0 ≤ x5 ∧ x5 < (x6.length : Int))) (
    (match_kin_1 k (x6.getD x5.toNat (0 : Int)) x7 x8).bind fun r9 =>
    cond r9.1 (
    some (x5, x6, r9.2.1, r9.2.2)) (
    let v10 : Int := (IntKind.wrap .i64 (x5 + (1 : Int)))
    slices_IndexFunc___int_int__v3.c5 k n x4 v10 x6 r9.2.1 r9.2.2 k0)) none) (
    k0 x6 x7 x8)
def slices_IndexFunc___int_int__v3 (k : Nat) (a1 : List Int) (a2 : List S31) (a3 : Bool) : Option (Int × (List Int) × (List S31) × Bool) :=
slices_IndexFunc___int_int__v3.c5 k k (a1.length : Int) (0 : Int) a1 a2 a3 (fun (y11 : List Int) (y12 : List S31) (y13 : Bool) =>
some ((-1 : Int), y11, y12, y13))
def slices_IndexFunc___int_int__v3.kr (w0 : World) (k : Nat) : Kr T (Int × (List Int) × (List S31) × Bool) := (kret (retK (cfg w0 (tab78 k)) Tryz.f77.results.toList 2 [] io116.pat))
def slices_IndexFunc___int_int__v3.x5 : Ex → Option (List Nat × List Sp)
  | .exit 0 => some ([], [])
  | _ => none
def slices_IndexFunc___int_int__v3.L5 (k : Nat) (n : Nat) (v : Int × Int × (List Int) × (List S31) × Bool) (K : Ex → St T → Option (Int × (List Int) × (List S31) × Bool)) : Option (Int × (List Int) × (List S31) × Bool) := slices_IndexFunc___int_int__v3.c5 k n v.1 v.2.1 v.2.2.1 v.2.2.2.1 v.2.2.2.2 (fun y283 y284 y285 => K (.exit 0) (mkSt [] (io118.enc (y283, y284, y285))))
def slices_IndexFunc___int_int__v3.cuts (w0 : World) (k : Nat) : Cuts T (Int × (List Int) × (List S31) × Bool) := fun n => bif n.beq 5 then some (entK (cfg w0 (tab78 k)) 2 [0, 1, 7, 8] [] io117.pat (slices_IndexFunc___int_int__v3.L5 k k)) else none
def slices_IndexFunc___int_int__v3.body : Code := bodyOf Tryz.f77
def slices_IndexFunc___int_int__v3.b5 : Code := findD 5 slices_IndexFunc___int_int__v3.body
theorem slices_IndexFunc___int_int__v3.s5 (w0 : World) (k : Nat) : ∀ n v K, slices_IndexFunc___int_int__v3.L5 k (n + 1) v K = runK (cfg w0 (tab78 k)) Tryz.f77.ntmps (slices_IndexFunc___int_int__v3.kr w0 k) (annot (slices_IndexFunc___int_int__v3.cuts w0 k) slices_IndexFunc___int_int__v3.b5) (mkSt [0, 1, 7, 8] (io117.enc v)) (loopK (cfg w0 (tab78 k)) 2 slices_IndexFunc___int_int__v3.x5 (entK (cfg w0 (tab78 k)) 2 [0, 1, 7, 8] [] io117.pat (slices_IndexFunc___int_int__v3.L5 k n)) K) := by
  intro n v K; kernel_rfl
theorem slices_IndexFunc___int_int__v3.e (w0 : World) (k : Nat) : ∀ v, (fun v => slices_IndexFunc___int_int__v3 k v.1 v.2.1 v.2.2) v = runK (cfg w0 (tab78 k)) Tryz.f77.ntmps (slices_IndexFunc___int_int__v3.kr w0 k) (annot (slices_IndexFunc___int_int__v3.cuts w0 k) slices_IndexFunc___int_int__v3.body) (entry (io115.enc v).1 (io115.enc v).2) (endK (slices_IndexFunc___int_int__v3.kr w0 k)) := by
  intro v; kernel_rfl
theorem slices_IndexFunc___int_int__v3.hb : Tryz.f77.body = some slices_IndexFunc___int_int__v3.body := by kernel_rfl
def tab79 (k : Nat) : Tab T := addTab 77 (line io115 io116 ((0 : Int), [], [], false) (fun v => slices_IndexFunc___int_int__v3 k v.1 v.2.1 v.2.2)) (tab78 k)
def slices_DeleteFunc___int_int__v2.c11 (k : Nat) : Nat → Int → Int → (List Int) → (List S31) → Bool → (Int → (List Int) → (List S31) → Bool → Option ((List S31) × Bool × (List Int))) → Option ((List S31) × Bool × (List Int))
  | 0, _, _, _, _, _, _ => none
  | n + 1, x6, x7, x8, x9, x10, k0 =>
    let v11 : Bool := (decide (x7 < (x8.length : Int)))
    cond v11 (
    cond (decide (0 ≤ x7 ∧ x7 < (x8.length : Int))) (
    (match_kin_1 k (x8.getD x7.toNat (0 : Int)) x9 x10).bind fun r12 =>
    cond (!r12.1) (
    cond (decide (0 ≤ x6 ∧ x6 < (x8.length : Int))) (
    let v13 : List Int := (x8.set x6.toNat (x8.getD x7.toNat (0 : Int)))
    let v14 : Int := (IntKind.wrap .i64 (x6 + (1 : Int)))
    let v15 : Int := (IntKind.wrap .i64 (x7 + (1 : Int)))
    slices_DeleteFunc___int_int__v2.c11 k n v14 v15 v13 r12.2.1 r12.2.2 k0) none) (
    let v16 : Int := (IntKind.wrap .i64 (x7 + (1 : Int)))
    slices_DeleteFunc___int_int__v2.c11 k n x6 v16 x8 r12.2.1 r12.2.2 k0)) none) (
    k0 x6 x8 x9 x10)
def slices_DeleteFunc___int_int__v2 (k : Nat) (a1 : List Int) (a2 : List S31) (a3 : Bool) : Option ((List S31) × Bool × (List Int)) :=
(slices_IndexFunc___int_int__v3 k a1 a2 a3).bind fun r4 =>
cond (r4.1 == (-1 : Int)) (
some (r4.2.2.1, r4.2.2.2, r4.2.1)) (
let v5 : Int := (IntKind.wrap .i64 (r4.1 + (1 : Int)))
slices_DeleteFunc___int_int__v2.c11 k k r4.1 v5 r4.2.1 r4.2.2.1 r4.2.2.2 (fun (y17 : Int) (y18 : List Int) (y19 : List S31) (y20 : Bool) =>
cond (decide (0 ≤ y17 ∧ y17 ≤ (y18.length : Int))) (
let v21 : List Int := (y18.take (0 + y17.toNat) ++ List.replicate (y18.length - y17.toNat) (0 : Int) ++ y18.drop ((0 + y17.toNat) + (y18.length - y17.toNat)))
cond (decide (0 ≤ y17 ∧ y17 ≤ (v21.length : Int))) (
some (y19, y20, ((v21.drop 0).take y17.toNat))) none) none))
def slices_DeleteFunc___int_int__v2.kr (w0 : World) (k : Nat) : Kr T ((List S31) × Bool × (List Int)) := (kret (retK (cfg w0 (tab79 k)) Tryz.f47.results.toList 2 [.rng 0 3] io119.pat))
def slices_DeleteFunc___int_int__v2.x11 : Ex → Option (List Nat × List Sp)
  | .exit 0 => some ([0, 5], [])
  | _ => none
def slices_DeleteFunc___int_int__v2.L11 (k : Nat) (n : Nat) (v : Int × Int × (List Int) × (List S31) × Bool) (K : Ex → St T → Option ((List S31) × Bool × (List Int))) : Option ((List S31) × Bool × (List Int)) := slices_DeleteFunc___int_int__v2.c11 k n v.1 v.2.1 v.2.2.1 v.2.2.2.1 v.2.2.2.2 (fun y286 y287 y288 y289 => K (.exit 0) (mkSt [0, 5] (io120.enc (y286, y287, y288, y289))))
def slices_DeleteFunc___int_int__v2.cuts (w0 : World) (k : Nat) : Cuts T ((List S31) × Bool × (List Int)) := fun n => bif n.beq 11 then some (entK (cfg w0 (tab79 k)) 2 [0, 1, 5, 6] [] io117.pat (slices_DeleteFunc___int_int__v2.L11 k k)) else none
def slices_DeleteFunc___int_int__v2.body : Code := bodyOf Tryz.f47
def slices_DeleteFunc___int_int__v2.b11 : Code := findD 11 slices_DeleteFunc___int_int__v2.body
theorem slices_DeleteFunc___int_int__v2.s11 (w0 : World) (k : Nat) : ∀ n v K, slices_DeleteFunc___int_int__v2.L11 k (n + 1) v K = runK (cfg w0 (tab79 k)) Tryz.f47.ntmps (slices_DeleteFunc___int_int__v2.kr w0 k) (annot (slices_DeleteFunc___int_int__v2.cuts w0 k) slices_DeleteFunc___int_int__v2.b11) (mkSt [0, 1, 5, 6] (io117.enc v)) (loopK (cfg w0 (tab79 k)) 2 slices_DeleteFunc___int_int__v2.x11 (entK (cfg w0 (tab79 k)) 2 [0, 1, 5, 6] [] io117.pat (slices_DeleteFunc___int_int__v2.L11 k n)) K) := by
  intro n v K; kernel_rfl
theorem slices_DeleteFunc___int_int__v2.e (w0 : World) (k : Nat) : ∀ v, (fun v => slices_DeleteFunc___int_int__v2 k v.1 v.2.1 v.2.2) v = runK (cfg w0 (tab79 k)) Tryz.f47.ntmps (slices_DeleteFunc___int_int__v2.kr w0 k) (annot (slices_DeleteFunc___int_int__v2.cuts w0 k) slices_DeleteFunc___int_int__v2.body) (entry (io115.enc v).1 (io115.enc v).2) (endK (slices_DeleteFunc___int_int__v2.kr w0 k)) := by
  intro v; kernel_rfl
theorem slices_DeleteFunc___int_int__v2.hb : Tryz.f47.body = some slices_DeleteFunc___int_int__v2.body := by kernel_rfl
def tab80 (k : Nat) : Tab T := addTab 47 (line io115 io119 ([], false, []) (fun v => slices_DeleteFunc___int_int__v2 k v.1 v.2.1 v.2.2)) (tab79 k)
def slices_Index___int_int_.c5 (k : Nat) : Nat → (List Int) → Int → Int → Int → (Option (Int)) → Option (Int)
  | 0, _, _, _, _, _ => none
  | n + 1, x3, x4, x5, x6, k0 =>
    cond (decide (x6 < x5)) (
    cond (decide (0 ≤ x6 ∧ x6 < (x3.length : Int))) (
    let v7 : Bool := (x4 == (x3.getD x6.toNat (0 : Int)))
    cond v7 (
    some x6) (
    let v8 : Int := (IntKind.wrap .i64 (x6 + (1 : Int)))
    slices_Index___int_int_.c5 k n x3 x4 x5 v8 k0)) none) (
    k0)
def slices_Index___int_int_ (k : Nat) (a1 : List Int) (a2 : Int) : Option (Int) :=
slices_Index___int_int_.c5 k k a1 a2 (a1.length : Int) (0 : Int) (
some (-1 : Int))
def slices_Index___int_int_.kr (w0 : World) (k : Nat) : Kr T (Int) := (kret (retK (cfg w0 (tab80 k)) Tryz.f123.results.toList 0 [] io4.pat))
def slices_Index___int_int_.x5 : Ex → Option (List Nat × List Sp)
  | .exit 0 => some ([], [])
  | _ => none
def slices_Index___int_int_.L5 (k : Nat) (n : Nat) (v : (List Int) × Int × Int × Int) (K : Ex → St T → Option (Int)) : Option (Int) := slices_Index___int_int_.c5 k n v.1 v.2.1 v.2.2.1 v.2.2.2 ( K (.exit 0) (mkSt [] (io82.enc ())))
def slices_Index___int_int_.cuts (w0 : World) (k : Nat) : Cuts T (Int) := fun n => bif n.beq 5 then some (entK (cfg w0 (tab80 k)) 0 [0, 1, 7, 8] [] io122.pat (slices_Index___int_int_.L5 k k)) else none
def slices_Index___int_int_.body : Code := bodyOf Tryz.f123
def slices_Index___int_int_.b5 : Code := findD 5 slices_Index___int_int_.body
theorem slices_Index___int_int_.s5 (w0 : World) (k : Nat) : ∀ n v K, slices_Index___int_int_.L5 k (n + 1) v K = runK (cfg w0 (tab80 k)) Tryz.f123.ntmps (slices_Index___int_int_.kr w0 k) (annot (slices_Index___int_int_.cuts w0 k) slices_Index___int_int_.b5) (mkSt [0, 1, 7, 8] (io122.enc v)) (loopK (cfg w0 (tab80 k)) 0 slices_Index___int_int_.x5 (entK (cfg w0 (tab80 k)) 0 [0, 1, 7, 8] [] io122.pat (slices_Index___int_int_.L5 k n)) K) := by
  intro n v K; kernel_rfl
theorem slices_Index___int_int_.e (w0 : World) (k : Nat) : ∀ v, (fun v => slices_Index___int_int_ k v.1 v.2) v = runK (cfg w0 (tab80 k)) Tryz.f123.ntmps (slices_Index___int_int_.kr w0 k) (annot (slices_Index___int_int_.cuts w0 k) slices_Index___int_int_.body) (entry (io121.enc v).1 (io121.enc v).2) (endK (slices_Index___int_int_.kr w0 k)) := by
  intro v; kernel_rfl
theorem slices_Index___int_int_.hb : Tryz.f123.body = some slices_Index___int_int_.body := by kernel_rfl
def tab81 (k : Nat) : Tab T := addTab 123 (line io121 io4 (0 : Int) (fun v => slices_Index___int_int_ k v.1 v.2)) (tab80 k)
def match_kin (k : Nat) (a1 : List S31) (a2 : Bool) (a3 : Int) : Option (Int × (List Int)) :=
cond (decide (0 ≤ a3 ∧ a3 < (a1.length : Int))) (
let v4 : Int := (a1.getD a3.toNat S31.d).Parent
cond (decide (v4 < (0 : Int))) (
some ((0 : Int), [a3])) (
cond (decide (0 ≤ v4 ∧ v4 < (a1.length : Int))) (
(slices_Clone___int_int_ k ((a1.getD v4.toNat S31.d).Kids)).bind fun r5 =>
(slices_DeleteFunc___int_int__v2 k r5 a1 a2).bind fun r6 =>
(slices_Index___int_int_ k r6.2.2 a3).bind fun r7 =>
some (r7, r6.2.2)) none)) none
def match_kin.kr (w0 : World) (k : Nat) : Kr T (Int × (List Int)) := (kret (retK (cfg w0 (tab81 k)) Tryz.f83.results.toList 0 [] io123.pat))
def match_kin.cuts (w0 : World) (k : Nat) : Cuts T (Int × (List Int)) := fun n => none
def match_kin.body : Code := bodyOf Tryz.f83
theorem match_kin.e (w0 : World) (k : Nat) : ∀ v, (fun v => match_kin k v.1 v.2.1 v.2.2) v = runK (cfg w0 (tab81 k)) Tryz.f83.ntmps (match_kin.kr w0 k) (annot (match_kin.cuts w0 k) match_kin.body) (entry (io98.enc v).1 (io98.enc v).2) (endK (match_kin.kr w0 k)) := by
  intro v; kernel_rfl
theorem match_kin.hb : Tryz.f83.body = some match_kin.body := by kernel_rfl
def tab82 (k : Nat) : Tab T := addTab 83 (line io98 io123 ((0 : Int), []) (fun v => match_kin k v.1 v.2.1 v.2.2)) (tab81 k)
def match_Nth (k : Nat) (a1 : Int) (a2 : Int) (a3 : Int) : Option (Bool) :=
let v4 : Bool := (decide ((if a2 < a1 then a2 else a1) < (-1000 : Int)))
let v5 : Bool := (decide ((if a2 > a1 then a2 else a1) > (1000 : Int)))
let v6 : Bool := (cond (cond v4 true v5) true (decide (a3 < (1 : Int))))
let v7 : Bool := (cond v6 true (decide (a3 > (200 : Int))))
cond v7 (
some false) (
cond (a1 == (0 : Int)) (
some (a3 == a2)) (
cond (a1 != 0) (
let v8 : Int := (Int.tmod (IntKind.wrap .i64 (a3 - a2)) a1)
cond ((a1 != 0) || !(v8 == (0 : Int))) (
let v9 : Int := (IntKind.wrap .i64 (Int.tdiv (IntKind.wrap .i64 (a3 - a2)) a1))
let v10 : Bool := (cond (v8 == (0 : Int)) (decide (v9 ≥ (0 : Int))) false)
some v10) none) none))
def match_Nth.kr (w0 : World) (k : Nat) : Kr T (Bool) := (kret (retK (cfg w0 (tab82 k)) Tryz.f84.results.toList 0 [] io2.pat))
def match_Nth.cuts (w0 : World) (k : Nat) : Cuts T (Bool) := fun n => none
def match_Nth.body : Code := bodyOf Tryz.f84
theorem match_Nth.e (w0 : World) (k : Nat) : ∀ v, (fun v => match_Nth k v.1 v.2.1 v.2.2) v = runK (cfg w0 (tab82 k)) Tryz.f84.ntmps (match_Nth.kr w0 k) (annot (match_Nth.cuts w0 k) match_Nth.body) (entry (io124.enc v).1 (io124.enc v).2) (endK (match_Nth.kr w0 k)) := by
  intro v; kernel_rfl
theorem match_Nth.hb : Tryz.f84.body = some match_Nth.body := by kernel_rfl
def tab83 (k : Nat) : Tab T := addTab 84 (line io124 io2 false (fun v => match_Nth k v.1 v.2.1 v.2.2)) (tab82 k)
structure match_Some.G.R where
  match_fits : (List S31) → Bool → Int → Int → (List UInt8) → Int → (List UInt8) → Int → Int → (List S52) → Option (Bool)
  match_path_1_1 : Int → (List UInt8) → Int → (List UInt8) → Int → Int → (List S52) → (List S31) → Bool → Int → Option (Bool × (List S31) × Bool × Int)
  api_STest__v2 : (List S96) → (List S31) → Bool → Int → Option (Int × (List S31) × Bool × Int)
  api_STest_ : (List S96) → (List S31) → Bool → Int → Option (Bool × (List S31) × Bool × Int)
  match_path_1 : Int → (List S31) → Bool → (List (List S96)) → (List Int) → Int → Option (Bool × (List S31) × Bool × (List (List S96)) × (List Int) × Int)
  slices_IndexFunc___int_int_ : (List Int) → (List S31) → Bool → (List (List S96)) → (List Int) → Int → Option (Int × (List Int) × (List S31) × Bool × (List (List S96)) × (List Int) × Int)
  slices_DeleteFunc___int_int_ : (List Int) → (List S31) → Bool → (List (List S96)) → (List Int) → Int → Option ((List S31) × Bool × (List (List S96)) × (List Int) × Int × (List Int))
  match_path : (List S31) → Bool → Int → (List (List S96)) → (List Int) → Option (Bool)
  match_Some_1 : (List (List S96)) → (List Int) → (List S31) → Bool → Int → Option (Bool × (List S31) × Bool × Int)
  api_SPath__v2 : (List S52) → (List S31) → Bool → Int → Option (Int × (List S31) × Bool × Int)
  api_SPath_ : (List S52) → (List S31) → Bool → Int → Option (Bool × (List S31) × Bool × Int)
  match_Some : (List S31) → Bool → Int → (List S52) → Option (Bool)
def match_fits.c44 (k : Nat) (r : match_Some.G.R) (x22 : Int) (x23 : Int) (x24 : List UInt8) (x25 : Int) (x26 : List UInt8) (x27 : Int) (x28 : Int) (x29 : List S52)  : Option (Bool) :=
let v30 : Int := (IntKind.wrap .i64 (x22 + (1 : Int)))
(match_Nth k x27 x28 v30).bind fun r31 =>
some r31
def match_fits.nat (k : Nat) (r : match_Some.G.R) (a1 : List S31) (a2 : Bool) (a3 : Int) (a4 : Int) (a5 : List UInt8) (a6 : Int) (a7 : List UInt8) (a8 : Int) (a9 : Int) (a10 : List S52) : Option (Bool) :=
cond (decide (0 ≤ a3 ∧ a3 < (a1.length : Int))) (
let v11 : Int := (a1.getD a3.toNat S31.d).Parent
cond (a4 == (2 : Int)) (
let v12 : Bool := (((a1.getD a3.toNat S31.d).Name) == a5)
some v12) (
cond (a4 == (3 : Int)) (
(match_attr k ((a1.getD a3.toNat S31.d).Kind) ((a1.getD a3.toNat S31.d).Name) ((a1.getD a3.toNat S31.d).Attrs) ((a1.getD a3.toNat S31.d).Text) v11 ((a1.getD a3.toNat S31.d).Kids) ([105, 100] : List UInt8)).bind fun r13 =>
let v14 : Bool := (cond r13.2 (r13.1 == a5) false)
some v14) (
cond (a4 == (4 : Int)) (
(match_attr k ((a1.getD a3.toNat S31.d).Kind) ((a1.getD a3.toNat S31.d).Name) ((a1.getD a3.toNat S31.d).Attrs) ((a1.getD a3.toNat S31.d).Text) v11 ((a1.getD a3.toNat S31.d).Kids) ([99, 108, 97, 115, 115] : List UInt8)).bind fun r15 =>
none) (
cond (a4 == (5 : Int)) (
(match_fitsAttr k ((a1.getD a3.toNat S31.d).Kind) ((a1.getD a3.toNat S31.d).Name) ((a1.getD a3.toNat S31.d).Attrs) ((a1.getD a3.toNat S31.d).Text) v11 ((a1.getD a3.toNat S31.d).Kids) a4 a5 a6 a7 a8 a9 a10).bind fun r17 =>
some r17) (
cond (a4 == (6 : Int)) (
some (v11 == (0 : Int))) (
cond (a4 == (7 : Int)) (
(match_empty k a1 a2 a3).bind fun r18 =>
some r18) (
cond (a4 == (8 : Int)) (
cond (a4 == (8 : Int)) (
(match_kin k a1 a2 a3).bind fun r19 =>
cond (a4 == (9 : Int)) (
let v20 : Int := (IntKind.wrap .i64 ((r19.2.length : Int) - (1 : Int)))
let v21 : Int := (IntKind.wrap .i64 (v20 - r19.1))
match_fits.c44 k r v21 a4 a5 a6 a7 a8 a9 a10) (
match_fits.c44 k r r19.1 a4 a5 a6 a7 a8 a9 a10)) (
cond (a4 == (10 : Int)) (
(r.match_Some a1 a2 a3 a10).bind fun r32 =>
some (!r32)) (
cond (a4 == (11 : Int)) (
(r.match_Some a1 a2 a3 a10).bind fun r33 =>
some r33) (
some true)))) (
cond (a4 == (9 : Int)) (
(match_kin k a1 a2 a3).bind fun r34 =>
cond (a4 == (9 : Int)) (
let v35 : Int := (IntKind.wrap .i64 ((r34.2.length : Int) - (1 : Int)))
let v36 : Int := (IntKind.wrap .i64 (v35 - r34.1))
match_fits.c44 k r v36 a4 a5 a6 a7 a8 a9 a10) (
match_fits.c44 k r r34.1 a4 a5 a6 a7 a8 a9 a10)) (
cond (a4 == (10 : Int)) (
(r.match_Some a1 a2 a3 a10).bind fun r37 =>
some (!r37)) (
cond (a4 == (11 : Int)) (
(r.match_Some a1 a2 a3 a10).bind fun r38 =>
some r38) (
some true))))))))))) none
def match_path_1_1.nat (k : Nat) (r : match_Some.G.R) (a1 : Int) (a2 : List UInt8) (a3 : Int) (a4 : List UInt8) (a5 : Int) (a6 : Int) (a7 : List S52) (a8 : List S31) (a9 : Bool) (a10 : Int) : Option (Bool × (List S31) × Bool × Int) :=
(r.match_fits a8 a9 a10 a1 a2 a3 a4 a5 a6 a7).bind fun r11 =>
some ((!r11), a8, a9, a10)
def api_STest__v2.c5 (k : Nat) (r : match_Some.G.R) : Nat → (List S96) → Int → Int → (List S31) → Bool → Int → ((List S31) → Bool → Int → Option (Int × (List S31) × Bool × Int)) → Option (Int × (List S31) × Bool × Int)
  | 0, _, _, _, _, _, _, _ => none
  | n + 1, x5, x6, x7, x8, x9, x10, k0 =>
    cond (decide (x7 < x6)) (
    cond (decide (0 ≤ x7 ∧ x7 < (x5.length : Int))) (
    (r.match_path_1_1 ((x5.getD x7.toNat S96.d).Kind) ((x5.getD x7.toNat S96.d).Name) ((x5.getD x7.toNat S96.d).Op) ((x5.getD x7.toNat S96.d).Value) ((x5.getD x7.toNat S96.d).A) ((x5.getD x7.toNat S96.d).B) ((x5.getD x7.toNat S96.d).Subs) x8 x9 x10).bind fun r11 =>
    cond r11.1 (
    some (x7, r11.2.1, r11.2.2.1, r11.2.2.2)) (
    let v12 : Int := (IntKind.wrap .i64 (x7 + (1 : Int)))
    api_STest__v2.c5 k r n x5 x6 v12 r11.2.1 r11.2.2.1 r11.2.2.2 k0)) none) (
    k0 x8 x9 x10)
def api_STest__v2.nat (k : Nat) (r : match_Some.G.R) (a1 : List S96) (a2 : List S31) (a3 : Bool) (a4 : Int) : Option (Int × (List S31) × Bool × Int) :=
api_STest__v2.c5 k r k a1 (a1.length : Int) (0 : Int) a2 a3 a4 (fun (y13 : List S31) (y14 : Bool) (y15 : Int) =>
some ((-1 : Int), y13, y14, y15))
def api_STest_.nat (k : Nat) (r : match_Some.G.R) (a1 : List S96) (a2 : List S31) (a3 : Bool) (a4 : Int) : Option (Bool × (List S31) × Bool × Int) :=
(r.api_STest__v2 a1 a2 a3 a4).bind fun r5 =>
some ((decide (r5.1 ≥ (0 : Int))), r5.2.1, r5.2.2.1, r5.2.2.2)
def match_path_1.nat (k : Nat) (r : match_Some.G.R) (a1 : Int) (a2 : List S31) (a3 : Bool) (a4 : List (List S96)) (a5 : List Int) (a6 : Int) : Option (Bool × (List S31) × Bool × (List (List S96)) × (List Int) × Int) :=
(match_element k a2 a3 a1).bind fun r7 =>
cond ((decide (0 ≤ a6 ∧ a6 < (a4.length : Int))) || !(!(!r7))) (
cond (!(!r7)) (
(r.api_STest_ (a4.getD a6.toNat []) a2 a3 a1).bind fun r8 =>
some ((cond (!r7) true r8.1), r8.2.1, r8.2.2.1, a4, a5, a6)) (
cond (!r7) (
some (true, a2, a3, a4, a5, a6)) none)) none
def slices_IndexFunc___int_int_.c5 (k : Nat) (r : match_Some.G.R) : Nat → Int → Int → (List Int) → (List S31) → Bool → (List (List S96)) → (List Int) → Int → ((List Int) → (List S31) → Bool → (List (List S96)) → (List Int) → Int → Option (Int × (List Int) × (List S31) × Bool × (List (List S96)) × (List Int) × Int)) → Option (Int × (List Int) × (List S31) × Bool × (List (List S96)) × (List Int) × Int)
  | 0, _, _, _, _, _, _, _, _, _ => none
  | n + 1, x7, x8, x9, x10, x11, x12, x13, x14, k0 =>
    cond (decide (x8 < x7)) (
    cond (decide (0 ≤ x8 ∧ x8 < (x9.length : Int))) (
    (r.match_path_1 (x9.getD x8.toNat (0 : Int)) x10 x11 x12 x13 x14).bind fun r15 =>
    cond r15.1 (
    some (x8, x9, r15.2.1, r15.2.2.1, r15.2.2.2.1, r15.2.2.2.2.1, r15.2.2.2.2.2)) (
    let v16 : Int := (IntKind.wrap .i64 (x8 + (1 : Int)))
    slices_IndexFunc___int_int_.c5 k r n x7 v16 x9 r15.2.1 r15.2.2.1 r15.2.2.2.1 r15.2.2.2.2.1 r15.2.2.2.2.2 k0)) none) (
    k0 x9 x10 x11 x12 x13 x14)
def slices_IndexFunc___int_int_.nat (k : Nat) (r : match_Some.G.R) (a1 : List Int) (a2 : List S31) (a3 : Bool) (a4 : List (List S96)) (a5 : List Int) (a6 : Int) : Option (Int × (List Int) × (List S31) × Bool × (List (List S96)) × (List Int) × Int) :=
slices_IndexFunc___int_int_.c5 k r k (a1.length : Int) (0 : Int) a1 a2 a3 a4 a5 a6 (fun (y17 : List Int) (y18 : List S31) (y19 : Bool) (y20 : List (List S96)) (y21 : List Int) (y22 : Int) =>
some ((-1 : Int), y17, y18, y19, y20, y21, y22))
def slices_DeleteFunc___int_int_.c11 (k : Nat) (r : match_Some.G.R) : Nat → Int → Int → (List Int) → (List S31) → Bool → (List (List S96)) → (List Int) → Int → (Int → (List Int) → (List S31) → Bool → (List (List S96)) → (List Int) → Int → Option ((List S31) × Bool × (List (List S96)) × (List Int) × Int × (List Int))) → Option ((List S31) × Bool × (List (List S96)) × (List Int) × Int × (List Int))
  | 0, _, _, _, _, _, _, _, _, _ => none
  | n + 1, x9, x10, x11, x12, x13, x14, x15, x16, k0 =>
    let v17 : Bool := (decide (x10 < (x11.length : Int)))
    cond v17 (
    cond (decide (0 ≤ x10 ∧ x10 < (x11.length : Int))) (
    (r.match_path_1 (x11.getD x10.toNat (0 : Int)) x12 x13 x14 x15 x16).bind fun r18 =>
    cond (!r18.1) (
    cond (decide (0 ≤ x9 ∧ x9 < (x11.length : Int))) (
    let v19 : List Int := (x11.set x9.toNat (x11.getD x10.toNat (0 : Int)))
    let v20 : Int := (IntKind.wrap .i64 (x9 + (1 : Int)))
    let v21 : Int := (IntKind.wrap .i64 (x10 + (1 : Int)))
    slices_DeleteFunc___int_int_.c11 k r n v20 v21 v19 r18.2.1 r18.2.2.1 r18.2.2.2.1 r18.2.2.2.2.1 r18.2.2.2.2.2 k0) none) (
    let v22 : Int := (IntKind.wrap .i64 (x10 + (1 : Int)))
    slices_DeleteFunc___int_int_.c11 k r n x9 v22 x11 r18.2.1 r18.2.2.1 r18.2.2.2.1 r18.2.2.2.2.1 r18.2.2.2.2.2 k0)) none) (
    k0 x9 x11 x12 x13 x14 x15 x16)
def slices_DeleteFunc___int_int_.nat (k : Nat) (r : match_Some.G.R) (a1 : List Int) (a2 : List S31) (a3 : Bool) (a4 : List (List S96)) (a5 : List Int) (a6 : Int) : Option ((List S31) × Bool × (List (List S96)) × (List Int) × Int × (List Int)) :=
(r.slices_IndexFunc___int_int_ a1 a2 a3 a4 a5 a6).bind fun r7 =>
cond (r7.1 == (-1 : Int)) (
some (r7.2.2.1, r7.2.2.2.1, r7.2.2.2.2.1, r7.2.2.2.2.2.1, r7.2.2.2.2.2.2, r7.2.1)) (
let v8 : Int := (IntKind.wrap .i64 (r7.1 + (1 : Int)))
slices_DeleteFunc___int_int_.c11 k r k r7.1 v8 r7.2.1 r7.2.2.1 r7.2.2.2.1 r7.2.2.2.2.1 r7.2.2.2.2.2.1 r7.2.2.2.2.2.2 (fun (y23 : Int) (y24 : List Int) (y25 : List S31) (y26 : Bool) (y27 : List (List S96)) (y28 : List Int) (y29 : Int) =>
cond (decide (0 ≤ y23 ∧ y23 ≤ (y24.length : Int))) (
let v30 : List Int := (y24.take (0 + y23.toNat) ++ List.replicate (y24.length - y23.toNat) (0 : Int) ++ y24.drop ((0 + y23.toNat) + (y24.length - y23.toNat)))
cond (decide (0 ≤ y23 ∧ y23 ≤ (v30.length : Int))) (
some (y25, y26, y27, y28, y29, ((v30.drop 0).take y23.toNat))) none) none))
def match_path.c19 (k : Nat) (r : match_Some.G.R) : Nat → Int → Int → (List S31) → Bool → (List (List S96)) → (List Int) → Int → (List Int) → ((List S31) → Bool → (List (List S96)) → (List Int) → Int → Option (Bool)) → Option (Bool)
  | 0, _, _, _, _, _, _, _, _, _ => none
  | n + 1, x17, x18, x19, x20, x21, x22, x23, x24, k2 =>
    cond (decide (x18 < x17)) (
    cond (decide (0 ≤ x18 ∧ x18 < (x24.length : Int))) (
    let v25 : Int := (IntKind.wrap .i64 (x23 - (1 : Int)))
    cond (decide (0 ≤ v25 ∧ v25 < (x22.length : Int))) (
    none) none) none) (
    k2 x19 x20 x21 x22 x23)
def match_path.c9 (k : Nat) (r : match_Some.G.R) : Nat → (List S31) → Bool → (List (List S96)) → (List Int) → (List Int) → Int → Option (Bool)
  | 0, _, _, _, _, _, _ => none
  | n + 1, x7, x8, x9, x10, x11, x12 =>
    (r.slices_DeleteFunc___int_int_ x11 x7 x8 x9 x10 x12).bind fun r13 =>
    let v14 : Bool := ((r13.2.2.2.2.2.length : Int) == (0 : Int))
    let v15 : Bool := (cond (r13.2.2.2.2.1 == (0 : Int)) true v14)
    cond v15 (
    let v16 : Bool := (decide ((r13.2.2.2.2.2.length : Int) > (0 : Int)))
    some v16) (
    match_path.c19 k r k (r13.2.2.2.2.2.length : Int) (0 : Int) r13.1 r13.2.1 r13.2.2.1 r13.2.2.2.1 r13.2.2.2.2.1 r13.2.2.2.2.2 (fun (y27 : List S31) (y28 : Bool) (y29 : List (List S96)) (y30 : List Int) (y31 : Int) =>
    none))
def match_path.nat (k : Nat) (r : match_Some.G.R) (a1 : List S31) (a2 : Bool) (a3 : Int) (a4 : List (List S96)) (a5 : List Int) : Option (Bool) :=
let v6 : Int := (IntKind.wrap .i64 ((a4.length : Int) - (1 : Int)))
match_path.c9 k r k a1 a2 a4 a5 ([a3]) v6
def match_Some_1.nat (k : Nat) (r : match_Some.G.R) (a1 : List (List S96)) (a2 : List Int) (a3 : List S31) (a4 : Bool) (a5 : Int) : Option (Bool × (List S31) × Bool × Int) :=
(r.match_path a3 a4 a5 a1 a2).bind fun r6 =>
some (r6, a3, a4, a5)
def api_SPath__v2.c5 (k : Nat) (r : match_Some.G.R) : Nat → (List S52) → Int → Int → (List S31) → Bool → Int → ((List S31) → Bool → Int → Option (Int × (List S31) × Bool × Int)) → Option (Int × (List S31) × Bool × Int)
  | 0, _, _, _, _, _, _, _ => none
  | n + 1, x5, x6, x7, x8, x9, x10, k0 =>
    cond (decide (x7 < x6)) (
    cond (decide (0 ≤ x7 ∧ x7 < (x5.length : Int))) (
    (r.match_Some_1 ((x5.getD x7.toNat S52.d).Steps) ((x5.getD x7.toNat S52.d).Joins) x8 x9 x10).bind fun r11 =>
    cond r11.1 (
    some (x7, r11.2.1, r11.2.2.1, r11.2.2.2)) (
    let v12 : Int := (IntKind.wrap .i64 (x7 + (1 : Int)))
    api_SPath__v2.c5 k r n x5 x6 v12 r11.2.1 r11.2.2.1 r11.2.2.2 k0)) none) (
    k0 x8 x9 x10)
def api_SPath__v2.nat (k : Nat) (r : match_Some.G.R) (a1 : List S52) (a2 : List S31) (a3 : Bool) (a4 : Int) : Option (Int × (List S31) × Bool × Int) :=
api_SPath__v2.c5 k r k a1 (a1.length : Int) (0 : Int) a2 a3 a4 (fun (y13 : List S31) (y14 : Bool) (y15 : Int) =>
some ((-1 : Int), y13, y14, y15))
def api_SPath_.nat (k : Nat) (r : match_Some.G.R) (a1 : List S52) (a2 : List S31) (a3 : Bool) (a4 : Int) : Option (Bool × (List S31) × Bool × Int) :=
(r.api_SPath__v2 a1 a2 a3 a4).bind fun r5 =>
some ((decide (r5.1 ≥ (0 : Int))), r5.2.1, r5.2.2.1, r5.2.2.2)
def match_Some.nat (k : Nat) (r : match_Some.G.R) (a1 : List S31) (a2 : Bool) (a3 : Int) (a4 : List S52) : Option (Bool) :=
(r.api_SPath_ a4 a1 a2 a3).bind fun r5 =>
some r5.1
def match_Some.G.rec (k : Nat) : Nat → match_Some.G.R
  | 0 => ⟨fun _ _ _ _ _ _ _ _ _ _ => none, fun _ _ _ _ _ _ _ _ _ _ => none, fun _ _ _ _ => none, fun _ _ _ _ => none, fun _ _ _ _ _ _ => none, fun _ _ _ _ _ _ => none, fun _ _ _ _ _ _ => none, fun _ _ _ _ _ => none, fun _ _ _ _ _ => none, fun _ _ _ _ => none, fun _ _ _ _ => none, fun _ _ _ _ => none⟩
  | n + 1 => ⟨match_fits.nat k (match_Some.G.rec k n), match_path_1_1.nat k (match_Some.G.rec k n), api_STest__v2.nat k (match_Some.G.rec k n), api_STest_.nat k (match_Some.G.rec k n), match_path_1.nat k (match_Some.G.rec k n), slices_IndexFunc___int_int_.nat k (match_Some.G.rec k n), slices_DeleteFunc___int_int_.nat k (match_Some.G.rec k n), match_path.nat k (match_Some.G.rec k n), match_Some_1.nat k (match_Some.G.rec k n), api_SPath__v2.nat k (match_Some.G.rec k n), api_SPath_.nat k (match_Some.G.rec k n), match_Some.nat k (match_Some.G.rec k n)⟩
def match_fits (k : Nat) : (List S31) → Bool → Int → Int → (List UInt8) → Int → (List UInt8) → Int → Int → (List S52) → Option (Bool) := (match_Some.G.rec k k).match_fits
def match_path_1_1 (k : Nat) : Int → (List UInt8) → Int → (List UInt8) → Int → Int → (List S52) → (List S31) → Bool → Int → Option (Bool × (List S31) × Bool × Int) := (match_Some.G.rec k k).match_path_1_1
def api_STest__v2 (k : Nat) : (List S96) → (List S31) → Bool → Int → Option (Int × (List S31) × Bool × Int) := (match_Some.G.rec k k).api_STest__v2
def api_STest_ (k : Nat) : (List S96) → (List S31) → Bool → Int → Option (Bool × (List S31) × Bool × Int) := (match_Some.G.rec k k).api_STest_
def match_path_1 (k : Nat) : Int → (List S31) → Bool → (List (List S96)) → (List Int) → Int → Option (Bool × (List S31) × Bool × (List (List S96)) × (List Int) × Int) := (match_Some.G.rec k k).match_path_1
def slices_IndexFunc___int_int_ (k : Nat) : (List Int) → (List S31) → Bool → (List (List S96)) → (List Int) → Int → Option (Int × (List Int) × (List S31) × Bool × (List (List S96)) × (List Int) × Int) := (match_Some.G.rec k k).slices_IndexFunc___int_int_
def slices_DeleteFunc___int_int_ (k : Nat) : (List Int) → (List S31) → Bool → (List (List S96)) → (List Int) → Int → Option ((List S31) × Bool × (List (List S96)) × (List Int) × Int × (List Int)) := (match_Some.G.rec k k).slices_DeleteFunc___int_int_
def match_path (k : Nat) : (List S31) → Bool → Int → (List (List S96)) → (List Int) → Option (Bool) := (match_Some.G.rec k k).match_path
def match_Some_1 (k : Nat) : (List (List S96)) → (List Int) → (List S31) → Bool → Int → Option (Bool × (List S31) × Bool × Int) := (match_Some.G.rec k k).match_Some_1
def api_SPath__v2 (k : Nat) : (List S52) → (List S31) → Bool → Int → Option (Int × (List S31) × Bool × Int) := (match_Some.G.rec k k).api_SPath__v2
def api_SPath_ (k : Nat) : (List S52) → (List S31) → Bool → Int → Option (Bool × (List S31) × Bool × Int) := (match_Some.G.rec k k).api_SPath_
def match_Some (k : Nat) : (List S31) → Bool → Int → (List S52) → Option (Bool) := (match_Some.G.rec k k).match_Some
def match_Some.G.tab (k : Nat) (r : match_Some.G.R) : Tab T := addTab 20 (line io148 io2 false (fun v => r.match_Some v.1 v.2.1 v.2.2.1 v.2.2.2)) (addTab 31 (line io146 io128 (false, [], false, (0 : Int)) (fun v => r.api_SPath_ v.1 v.2.1 v.2.2.1 v.2.2.2)) (addTab 46 (line io146 io130 ((0 : Int), [], false, (0 : Int)) (fun v => r.api_SPath__v2 v.1 v.2.1 v.2.2.1 v.2.2.2)) (addTab 32 (line io145 io128 (false, [], false, (0 : Int)) (fun v => r.match_Some_1 v.1 v.2.1 v.2.2.1 v.2.2.2.1 v.2.2.2.2)) (addTab 33 (line io141 io2 false (fun v => r.match_path v.1 v.2.1 v.2.2.1 v.2.2.2.1 v.2.2.2.2)) (addTab 47 (line io135 io139 ([], false, [], [], (0 : Int), []) (fun v => r.slices_DeleteFunc___int_int_ v.1 v.2.1 v.2.2.1 v.2.2.2.1 v.2.2.2.2.1 v.2.2.2.2.2)) (addTab 77 (line io135 io136 ((0 : Int), [], [], false, [], [], (0 : Int)) (fun v => r.slices_IndexFunc___int_int_ v.1 v.2.1 v.2.2.1 v.2.2.2.1 v.2.2.2.2.1 v.2.2.2.2.2)) (addTab 48 (line io133 io134 (false, [], false, [], [], (0 : Int)) (fun v => r.match_path_1 v.1 v.2.1 v.2.2.1 v.2.2.2.1 v.2.2.2.2.1 v.2.2.2.2.2)) (addTab 50 (line io129 io128 (false, [], false, (0 : Int)) (fun v => r.api_STest_ v.1 v.2.1 v.2.2.1 v.2.2.2)) (addTab 78 (line io129 io130 ((0 : Int), [], false, (0 : Int)) (fun v => r.api_STest__v2 v.1 v.2.1 v.2.2.1 v.2.2.2)) (addTab 51 (line io127 io128 (false, [], false, (0 : Int)) (fun v => r.match_path_1_1 v.1 v.2.1 v.2.2.1 v.2.2.2.1 v.2.2.2.2.1 v.2.2.2.2.2.1 v.2.2.2.2.2.2.1 v.2.2.2.2.2.2.2.1 v.2.2.2.2.2.2.2.2.1 v.2.2.2.2.2.2.2.2.2)) (addTab 52 (line io125 io2 false (fun v => r.match_fits v.1 v.2.1 v.2.2.1 v.2.2.2.1 v.2.2.2.2.1 v.2.2.2.2.2.1 v.2.2.2.2.2.2.1 v.2.2.2.2.2.2.2.1 v.2.2.2.2.2.2.2.2.1 v.2.2.2.2.2.2.2.2.2)) (tab83 k))))))))))))
def match_fits.kr (w0 : World) (k : Nat) (r : match_Some.G.R) : Kr T (Bool) := (kret (retK (cfg w0 (match_Some.G.tab k r)) Tryz.f52.results.toList 0 [] io2.pat))
def match_fits.x44 : Ex → Option (List Nat × List Sp)
  | _ => none
def match_fits.L44 (k : Nat) (r : match_Some.G.R) (v : Int × Int × (List UInt8) × Int × (List UInt8) × Int × Int × (List S52)) (K : Ex → St T → Option (Bool)) : Option (Bool) := match_fits.c44 k r v.1 v.2.1 v.2.2.1 v.2.2.2.1 v.2.2.2.2.1 v.2.2.2.2.2.1 v.2.2.2.2.2.2.1 v.2.2.2.2.2.2.2
def match_fits.cuts (w0 : World) (k : Nat) (r : match_Some.G.R) : Cuts T (Bool) := fun n => bif n.beq 44 then some (entK (cfg w0 (match_Some.G.tab k r)) 0 [5, 13] [] io126.pat (match_fits.L44 k r)) else none
def match_fits.body : Code := bodyOf Tryz.f52
def match_fits.b44 : Code := findD 44 match_fits.body
theorem match_fits.s44 (w0 : World) (k : Nat) (r : match_Some.G.R) : ∀ v K, match_fits.L44 k r v K = runK (cfg w0 (match_Some.G.tab k r)) Tryz.f52.ntmps (match_fits.kr w0 k r) (annot (match_fits.cuts w0 k r) match_fits.b44) (mkSt [5, 13] (io126.enc v)) (outK (cfg w0 (match_Some.G.tab k r)) 0 match_fits.x44 K) := by
  intro v K; kernel_rfl
theorem match_fits.e (w0 : World) (k : Nat) (r : match_Some.G.R) : ∀ v, (fun v => match_fits.nat k r v.1 v.2.1 v.2.2.1 v.2.2.2.1 v.2.2.2.2.1 v.2.2.2.2.2.1 v.2.2.2.2.2.2.1 v.2.2.2.2.2.2.2.1 v.2.2.2.2.2.2.2.2.1 v.2.2.2.2.2.2.2.2.2) v = runK (cfg w0 (match_Some.G.tab k r)) Tryz.f52.ntmps (match_fits.kr w0 k r) (annot (match_fits.cuts w0 k r) match_fits.body) (entry (io125.enc v).1 (io125.enc v).2) (endK (match_fits.kr w0 k r)) := by
  intro v; kernel_rfl
theorem match_fits.hb : Tryz.f52.body = some match_fits.body := by kernel_rfl
def match_path_1_1.kr (w0 : World) (k : Nat) (r : match_Some.G.R) : Kr T (Bool × (List S31) × Bool × Int) := (kret (retK (cfg w0 (match_Some.G.tab k r)) Tryz.f51.results.toList 2 [] io128.pat))
def match_path_1_1.cuts (w0 : World) (k : Nat) (r : match_Some.G.R) : Cuts T (Bool × (List S31) × Bool × Int) := fun n => none
def match_path_1_1.body : Code := bodyOf Tryz.f51
theorem match_path_1_1.e (w0 : World) (k : Nat) (r : match_Some.G.R) : ∀ v, (fun v => match_path_1_1.nat k r v.1 v.2.1 v.2.2.1 v.2.2.2.1 v.2.2.2.2.1 v.2.2.2.2.2.1 v.2.2.2.2.2.2.1 v.2.2.2.2.2.2.2.1 v.2.2.2.2.2.2.2.2.1 v.2.2.2.2.2.2.2.2.2) v = runK (cfg w0 (match_Some.G.tab k r)) Tryz.f51.ntmps (match_path_1_1.kr w0 k r) (annot (match_path_1_1.cuts w0 k r) match_path_1_1.body) (entry (io127.enc v).1 (io127.enc v).2) (endK (match_path_1_1.kr w0 k r)) := by
  intro v; kernel_rfl
theorem match_path_1_1.hb : Tryz.f51.body = some match_path_1_1.body := by kernel_rfl
def api_STest__v2.kr (w0 : World) (k : Nat) (r : match_Some.G.R) : Kr T (Int × (List S31) × Bool × Int) := (kret (retK (cfg w0 (match_Some.G.tab k r)) Tryz.f78.results.toList 2 [] io130.pat))
def api_STest__v2.x5 : Ex → Option (List Nat × List Sp)
  | .exit 0 => some ([], [])
  | _ => none
def api_STest__v2.L5 (k : Nat) (r : match_Some.G.R) (n : Nat) (v : (List S96) × Int × Int × (List S31) × Bool × Int) (K : Ex → St T → Option (Int × (List S31) × Bool × Int)) : Option (Int × (List S31) × Bool × Int) := api_STest__v2.c5 k r n v.1 v.2.1 v.2.2.1 v.2.2.2.1 v.2.2.2.2.1 v.2.2.2.2.2 (fun y290 y291 y292 => K (.exit 0) (mkSt [] (io132.enc (y290, y291, y292))))
def api_STest__v2.cuts (w0 : World) (k : Nat) (r : match_Some.G.R) : Cuts T (Int × (List S31) × Bool × Int) := fun n => bif n.beq 5 then some (entK (cfg w0 (match_Some.G.tab k r)) 2 [0, 1, 7, 8] [] io131.pat (api_STest__v2.L5 k r k)) else none
def api_STest__v2.body : Code := bodyOf Tryz.f78
def api_STest__v2.b5 : Code := findD 5 api_STest__v2.body
theorem api_STest__v2.s5 (w0 : World) (k : Nat) (r : match_Some.G.R) : ∀ n v K, api_STest__v2.L5 k r (n + 1) v K = runK (cfg w0 (match_Some.G.tab k r)) Tryz.f78.ntmps (api_STest__v2.kr w0 k r) (annot (api_STest__v2.cuts w0 k r) api_STest__v2.b5) (mkSt [0, 1, 7, 8] (io131.enc v)) (loopK (cfg w0 (match_Some.G.tab k r)) 2 api_STest__v2.x5 (entK (cfg w0 (match_Some.G.tab k r)) 2 [0, 1, 7, 8] [] io131.pat (api_STest__v2.L5 k r n)) K) := by
  intro n v K; kernel_rfl
theorem api_STest__v2.e (w0 : World) (k : Nat) (r : match_Some.G.R) : ∀ v, (fun v => api_STest__v2.nat k r v.1 v.2.1 v.2.2.1 v.2.2.2) v = runK (cfg w0 (match_Some.G.tab k r)) Tryz.f78.ntmps (api_STest__v2.kr w0 k r) (annot (api_STest__v2.cuts w0 k r) api_STest__v2.body) (entry (io129.enc v).1 (io129.enc v).2) (endK (api_STest__v2.kr w0 k r)) := by
  intro v; kernel_rfl
theorem api_STest__v2.hb : Tryz.f78.body = some api_STest__v2.body := by kernel_rfl
def api_STest_.kr (w0 : World) (k : Nat) (r : match_Some.G.R) : Kr T (Bool × (List S31) × Bool × Int) := (kret (retK (cfg w0 (match_Some.G.tab k r)) Tryz.f50.results.toList 2 [] io128.pat))
def api_STest_.cuts (w0 : World) (k : Nat) (r : match_Some.G.R) : Cuts T (Bool × (List S31) × Bool × Int) := fun n => none
def api_STest_.body : Code := bodyOf Tryz.f50
theorem api_STest_.e (w0 : World) (k : Nat) (r : match_Some.G.R) : ∀ v, (fun v => api_STest_.nat k r v.1 v.2.1 v.2.2.1 v.2.2.2) v = runK (cfg w0 (match_Some.G.tab k r)) Tryz.f50.ntmps (api_STest_.kr w0 k r) (annot (api_STest_.cuts w0 k r) api_STest_.body) (entry (io129.enc v).1 (io129.enc v).2) (endK (api_STest_.kr w0 k r)) := by
  intro v; kernel_rfl
theorem api_STest_.hb : Tryz.f50.body = some api_STest_.body := by kernel_rfl
def match_path_1.kr (w0 : World) (k : Nat) (r : match_Some.G.R) : Kr T (Bool × (List S31) × Bool × (List (List S96)) × (List Int) × Int) := (kret (retK (cfg w0 (match_Some.G.tab k r)) Tryz.f48.results.toList 3 [] io134.pat))
def match_path_1.cuts (w0 : World) (k : Nat) (r : match_Some.G.R) : Cuts T (Bool × (List S31) × Bool × (List (List S96)) × (List Int) × Int) := fun n => none
def match_path_1.body : Code := bodyOf Tryz.f48
theorem match_path_1.e (w0 : World) (k : Nat) (r : match_Some.G.R) : ∀ v, (fun v => match_path_1.nat k r v.1 v.2.1 v.2.2.1 v.2.2.2.1 v.2.2.2.2.1 v.2.2.2.2.2) v = runK (cfg w0 (match_Some.G.tab k r)) Tryz.f48.ntmps (match_path_1.kr w0 k r) (annot (match_path_1.cuts w0 k r) match_path_1.body) (entry (io133.enc v).1 (io133.enc v).2) (endK (match_path_1.kr w0 k r)) := by
  intro v; kernel_rfl
theorem match_path_1.hb : Tryz.f48.body = some match_path_1.body := by kernel_rfl
def slices_IndexFunc___int_int_.kr (w0 : World) (k : Nat) (r : match_Some.G.R) : Kr T (Int × (List Int) × (List S31) × Bool × (List (List S96)) × (List Int) × Int) := (kret (retK (cfg w0 (match_Some.G.tab k r)) Tryz.f77.results.toList 4 [] io136.pat))
def slices_IndexFunc___int_int_.x5 : Ex → Option (List Nat × List Sp)
  | .exit 0 => some ([], [])
  | _ => none
def slices_IndexFunc___int_int_.L5 (k : Nat) (r : match_Some.G.R) (n : Nat) (v : Int × Int × (List Int) × (List S31) × Bool × (List (List S96)) × (List Int) × Int) (K : Ex → St T → Option (Int × (List Int) × (List S31) × Bool × (List (List S96)) × (List Int) × Int)) : Option (Int × (List Int) × (List S31) × Bool × (List (List S96)) × (List Int) × Int) := slices_IndexFunc___int_int_.c5 k r n v.1 v.2.1 v.2.2.1 v.2.2.2.1 v.2.2.2.2.1 v.2.2.2.2.2.1 v.2.2.2.2.2.2.1 v.2.2.2.2.2.2.2 (fun y293 y294 y295 y296 y297 y298 => K (.exit 0) (mkSt [] (io138.enc (y293, y294, y295, y296, y297, y298))))
def slices_IndexFunc___int_int_.cuts (w0 : World) (k : Nat) (r : match_Some.G.R) : Cuts T (Int × (List Int) × (List S31) × Bool × (List (List S96)) × (List Int) × Int) := fun n => bif n.beq 5 then some (entK (cfg w0 (match_Some.G.tab k r)) 4 [0, 1, 7, 8] [] io137.pat (slices_IndexFunc___int_int_.L5 k r k)) else none
def slices_IndexFunc___int_int_.body : Code := bodyOf Tryz.f77
def slices_IndexFunc___int_int_.b5 : Code := findD 5 slices_IndexFunc___int_int_.body
theorem slices_IndexFunc___int_int_.s5 (w0 : World) (k : Nat) (r : match_Some.G.R) : ∀ n v K, slices_IndexFunc___int_int_.L5 k r (n + 1) v K = runK (cfg w0 (match_Some.G.tab k r)) Tryz.f77.ntmps (slices_IndexFunc___int_int_.kr w0 k r) (annot (slices_IndexFunc___int_int_.cuts w0 k r) slices_IndexFunc___int_int_.b5) (mkSt [0, 1, 7, 8] (io137.enc v)) (loopK (cfg w0 (match_Some.G.tab k r)) 4 slices_IndexFunc___int_int_.x5 (entK (cfg w0 (match_Some.G.tab k r)) 4 [0, 1, 7, 8] [] io137.pat (slices_IndexFunc___int_int_.L5 k r n)) K) := by
  intro n v K; kernel_rfl
theorem slices_IndexFunc___int_int_.e (w0 : World) (k : Nat) (r : match_Some.G.R) : ∀ v, (fun v => slices_IndexFunc___int_int_.nat k r v.1 v.2.1 v.2.2.1 v.2.2.2.1 v.2.2.2.2.1 v.2.2.2.2.2) v = runK (cfg w0 (match_Some.G.tab k r)) Tryz.f77.ntmps (slices_IndexFunc___int_int_.kr w0 k r) (annot (slices_IndexFunc___int_int_.cuts w0 k r) slices_IndexFunc___int_int_.body) (entry (io135.enc v).1 (io135.enc v).2) (endK (slices_IndexFunc___int_int_.kr w0 k r)) := by
  intro v; kernel_rfl
theorem slices_IndexFunc___int_int_.hb : Tryz.f77.body = some slices_IndexFunc___int_int_.body := by kernel_rfl
def slices_DeleteFunc___int_int_.kr (w0 : World) (k : Nat) (r : match_Some.G.R) : Kr T ((List S31) × Bool × (List (List S96)) × (List Int) × Int × (List Int)) := (kret (retK (cfg w0 (match_Some.G.tab k r)) Tryz.f47.results.toList 4 [.rng 0 3] io139.pat))
def slices_DeleteFunc___int_int_.x11 : Ex → Option (List Nat × List Sp)
  | .exit 0 => some ([0, 5], [])
  | _ => none
def slices_DeleteFunc___int_int_.L11 (k : Nat) (r : match_Some.G.R) (n : Nat) (v : Int × Int × (List Int) × (List S31) × Bool × (List (List S96)) × (List Int) × Int) (K : Ex → St T → Option ((List S31) × Bool × (List (List S96)) × (List Int) × Int × (List Int))) : Option ((List S31) × Bool × (List (List S96)) × (List Int) × Int × (List Int)) := slices_DeleteFunc___int_int_.c11 k r n v.1 v.2.1 v.2.2.1 v.2.2.2.1 v.2.2.2.2.1 v.2.2.2.2.2.1 v.2.2.2.2.2.2.1 v.2.2.2.2.2.2.2 (fun y299 y300 y301 y302 y303 y304 y305 => K (.exit 0) (mkSt [0, 5] (io140.enc (y299, y300, y301, y302, y303, y304, y305))))
def slices_DeleteFunc___int_int_.cuts (w0 : World) (k : Nat) (r : match_Some.G.R) : Cuts T ((List S31) × Bool × (List (List S96)) × (List Int) × Int × (List Int)) := fun n => bif n.beq 11 then some (entK (cfg w0 (match_Some.G.tab k r)) 4 [0, 1, 5, 6] [] io137.pat (slices_DeleteFunc___int_int_.L11 k r k)) else none
def slices_DeleteFunc___int_int_.body : Code := bodyOf Tryz.f47
def slices_DeleteFunc___int_int_.b11 : Code := findD 11 slices_DeleteFunc___int_int_.body
theorem slices_DeleteFunc___int_int_.s11 (w0 : World) (k : Nat) (r : match_Some.G.R) : ∀ n v K, slices_DeleteFunc___int_int_.L11 k r (n + 1) v K = runK (cfg w0 (match_Some.G.tab k r)) Tryz.f47.ntmps (slices_DeleteFunc___int_int_.kr w0 k r) (annot (slices_DeleteFunc___int_int_.cuts w0 k r) slices_DeleteFunc___int_int_.b11) (mkSt [0, 1, 5, 6] (io137.enc v)) (loopK (cfg w0 (match_Some.G.tab k r)) 4 slices_DeleteFunc___int_int_.x11 (entK (cfg w0 (match_Some.G.tab k r)) 4 [0, 1, 5, 6] [] io137.pat (slices_DeleteFunc___int_int_.L11 k r n)) K) := by
  intro n v K; kernel_rfl
theorem slices_DeleteFunc___int_int_.e (w0 : World) (k : Nat) (r : match_Some.G.R) : ∀ v, (fun v => slices_DeleteFunc___int_int_.nat k r v.1 v.2.1 v.2.2.1 v.2.2.2.1 v.2.2.2.2.1 v.2.2.2.2.2) v = runK (cfg w0 (match_Some.G.tab k r)) Tryz.f47.ntmps (slices_DeleteFunc___int_int_.kr w0 k r) (annot (slices_DeleteFunc___int_int_.cuts w0 k r) slices_DeleteFunc___int_int_.body) (entry (io135.enc v).1 (io135.enc v).2) (endK (slices_DeleteFunc___int_int_.kr w0 k r)) := by
  intro v; kernel_rfl
theorem slices_DeleteFunc___int_int_.hb : Tryz.f47.body = some slices_DeleteFunc___int_int_.body := by kernel_rfl
def match_path.kr (w0 : World) (k : Nat) (r : match_Some.G.R) : Kr T (Bool) := (kret (retK (cfg w0 (match_Some.G.tab k r)) Tryz.f33.results.toList 0 [] io2.pat))
def match_path.x19 : Ex → Option (List Nat × List Sp)
  | .exit 2 => some ([3, 5, 8, 9], [])
  | _ => none
def match_path.L19 (k : Nat) (r : match_Some.G.R) (n : Nat) (v : Int × Int × (List S31) × Bool × (List (List S96)) × (List Int) × Int × (List Int)) (K : Ex → St T → Option (Bool)) : Option (Bool) := match_path.c19 k r n v.1 v.2.1 v.2.2.1 v.2.2.2.1 v.2.2.2.2.1 v.2.2.2.2.2.1 v.2.2.2.2.2.2.1 v.2.2.2.2.2.2.2 (fun y306 y307 y308 y309 y310 => K (.exit 2) (mkSt [3, 5, 8, 9] (io143.enc (y306, y307, y308, y309, y310))))
def match_path.x9 : Ex → Option (List Nat × List Sp)
  | _ => none
def match_path.L9 (k : Nat) (r : match_Some.G.R) (n : Nat) (v : (List S31) × Bool × (List (List S96)) × (List Int) × (List Int) × Int) (K : Ex → St T → Option (Bool)) : Option (Bool) := match_path.c9 k r n v.1 v.2.1 v.2.2.1 v.2.2.2.1 v.2.2.2.2.1 v.2.2.2.2.2
def match_path.cuts (w0 : World) (k : Nat) (r : match_Some.G.R) : Cuts T (Bool) := fun n => bif n.beq 19 then some (entK (cfg w0 (match_Some.G.tab k r)) 0 [3, 5, 8, 9, 33, 34, 35] [] io142.pat (match_path.L19 k r k)) else bif n.beq 9 then some (entK (cfg w0 (match_Some.G.tab k r)) 0 [3, 5, 7, 8] [] io144.pat (match_path.L9 k r k)) else none
def match_path.body : Code := bodyOf Tryz.f33
def match_path.b19 : Code := findD 19 match_path.body
theorem match_path.s19 (w0 : World) (k : Nat) (r : match_Some.G.R) : ∀ n v K, match_path.L19 k r (n + 1) v K = runK (cfg w0 (match_Some.G.tab k r)) Tryz.f33.ntmps (match_path.kr w0 k r) (annot (match_path.cuts w0 k r) match_path.b19) (mkSt [3, 5, 8, 9, 33, 34, 35] (io142.enc v)) (loopK (cfg w0 (match_Some.G.tab k r)) 0 match_path.x19 (entK (cfg w0 (match_Some.G.tab k r)) 0 [3, 5, 8, 9, 33, 34, 35] [] io142.pat (match_path.L19 k r n)) K) := by
  intro n v K; kernel_rfl
def match_path.b9 : Code := findD 9 match_path.body
theorem match_path.s9 (w0 : World) (k : Nat) (r : match_Some.G.R) : ∀ n v K, match_path.L9 k r (n + 1) v K = runK (cfg w0 (match_Some.G.tab k r)) Tryz.f33.ntmps (match_path.kr w0 k r) (annot (match_path.cuts w0 k r) match_path.b9) (mkSt [3, 5, 7, 8] (io144.enc v)) (loopK (cfg w0 (match_Some.G.tab k r)) 0 match_path.x9 (entK (cfg w0 (match_Some.G.tab k r)) 0 [3, 5, 7, 8] [] io144.pat (match_path.L9 k r n)) K) := by
  intro n v K; kernel_rfl
theorem match_path.e (w0 : World) (k : Nat) (r : match_Some.G.R) : ∀ v, (fun v => match_path.nat k r v.1 v.2.1 v.2.2.1 v.2.2.2.1 v.2.2.2.2) v = runK (cfg w0 (match_Some.G.tab k r)) Tryz.f33.ntmps (match_path.kr w0 k r) (annot (match_path.cuts w0 k r) match_path.body) (entry (io141.enc v).1 (io141.enc v).2) (endK (match_path.kr w0 k r)) := by
  intro v; kernel_rfl
theorem match_path.hb : Tryz.f33.body = some match_path.body := by kernel_rfl
def match_Some_1.kr (w0 : World) (k : Nat) (r : match_Some.G.R) : Kr T (Bool × (List S31) × Bool × Int) := (kret (retK (cfg w0 (match_Some.G.tab k r)) Tryz.f32.results.toList 2 [] io128.pat))
def match_Some_1.cuts (w0 : World) (k : Nat) (r : match_Some.G.R) : Cuts T (Bool × (List S31) × Bool × Int) := fun n => none
def match_Some_1.body : Code := bodyOf Tryz.f32
theorem match_Some_1.e (w0 : World) (k : Nat) (r : match_Some.G.R) : ∀ v, (fun v => match_Some_1.nat k r v.1 v.2.1 v.2.2.1 v.2.2.2.1 v.2.2.2.2) v = runK (cfg w0 (match_Some.G.tab k r)) Tryz.f32.ntmps (match_Some_1.kr w0 k r) (annot (match_Some_1.cuts w0 k r) match_Some_1.body) (entry (io145.enc v).1 (io145.enc v).2) (endK (match_Some_1.kr w0 k r)) := by
  intro v; kernel_rfl
theorem match_Some_1.hb : Tryz.f32.body = some match_Some_1.body := by kernel_rfl
def api_SPath__v2.kr (w0 : World) (k : Nat) (r : match_Some.G.R) : Kr T (Int × (List S31) × Bool × Int) := (kret (retK (cfg w0 (match_Some.G.tab k r)) Tryz.f46.results.toList 2 [] io130.pat))
def api_SPath__v2.x5 : Ex → Option (List Nat × List Sp)
  | .exit 0 => some ([], [])
  | _ => none
def api_SPath__v2.L5 (k : Nat) (r : match_Some.G.R) (n : Nat) (v : (List S52) × Int × Int × (List S31) × Bool × Int) (K : Ex → St T → Option (Int × (List S31) × Bool × Int)) : Option (Int × (List S31) × Bool × Int) := api_SPath__v2.c5 k r n v.1 v.2.1 v.2.2.1 v.2.2.2.1 v.2.2.2.2.1 v.2.2.2.2.2 (fun y311 y312 y313 => K (.exit 0) (mkSt [] (io132.enc (y311, y312, y313))))
def api_SPath__v2.cuts (w0 : World) (k : Nat) (r : match_Some.G.R) : Cuts T (Int × (List S31) × Bool × Int) := fun n => bif n.beq 5 then some (entK (cfg w0 (match_Some.G.tab k r)) 2 [0, 1, 7, 8] [] io147.pat (api_SPath__v2.L5 k r k)) else none
def api_SPath__v2.body : Code := bodyOf Tryz.f46
def api_SPath__v2.b5 : Code := findD 5 api_SPath__v2.body
theorem api_SPath__v2.s5 (w0 : World) (k : Nat) (r : match_Some.G.R) : ∀ n v K, api_SPath__v2.L5 k r (n + 1) v K = runK (cfg w0 (match_Some.G.tab k r)) Tryz.f46.ntmps (api_SPath__v2.kr w0 k r) (annot (api_SPath__v2.cuts w0 k r) api_SPath__v2.b5) (mkSt [0, 1, 7, 8] (io147.enc v)) (loopK (cfg w0 (match_Some.G.tab k r)) 2 api_SPath__v2.x5 (entK (cfg w0 (match_Some.G.tab k r)) 2 [0, 1, 7, 8] [] io147.pat (api_SPath__v2.L5 k r n)) K) := by
  intro n v K; kernel_rfl
theorem api_SPath__v2.e (w0 : World) (k : Nat) (r : match_Some.G.R) : ∀ v, (fun v => api_SPath__v2.nat k r v.1 v.2.1 v.2.2.1 v.2.2.2) v = runK (cfg w0 (match_Some.G.tab k r)) Tryz.f46.ntmps (api_SPath__v2.kr w0 k r) (annot (api_SPath__v2.cuts w0 k r) api_SPath__v2.body) (entry (io146.enc v).1 (io146.enc v).2) (endK (api_SPath__v2.kr w0 k r)) := by
  intro v; kernel_rfl
theorem api_SPath__v2.hb : Tryz.f46.body = some api_SPath__v2.body := by kernel_rfl
def api_SPath_.kr (w0 : World) (k : Nat) (r : match_Some.G.R) : Kr T (Bool × (List S31) × Bool × Int) := (kret (retK (cfg w0 (match_Some.G.tab k r)) Tryz.f31.results.toList 2 [] io128.pat))
def api_SPath_.cuts (w0 : World) (k : Nat) (r : match_Some.G.R) : Cuts T (Bool × (List S31) × Bool × Int) := fun n => none
def api_SPath_.body : Code := bodyOf Tryz.f31
theorem api_SPath_.e (w0 : World) (k : Nat) (r : match_Some.G.R) : ∀ v, (fun v => api_SPath_.nat k r v.1 v.2.1 v.2.2.1 v.2.2.2) v = runK (cfg w0 (match_Some.G.tab k r)) Tryz.f31.ntmps (api_SPath_.kr w0 k r) (annot (api_SPath_.cuts w0 k r) api_SPath_.body) (entry (io146.enc v).1 (io146.enc v).2) (endK (api_SPath_.kr w0 k r)) := by
  intro v; kernel_rfl
theorem api_SPath_.hb : Tryz.f31.body = some api_SPath_.body := by kernel_rfl
def match_Some.kr (w0 : World) (k : Nat) (r : match_Some.G.R) : Kr T (Bool) := (kret (retK (cfg w0 (match_Some.G.tab k r)) Tryz.f20.results.toList 0 [] io2.pat))
def match_Some.cuts (w0 : World) (k : Nat) (r : match_Some.G.R) : Cuts T (Bool) := fun n => none
def match_Some.body : Code := bodyOf Tryz.f20
theorem match_Some.e (w0 : World) (k : Nat) (r : match_Some.G.R) : ∀ v, (fun v => match_Some.nat k r v.1 v.2.1 v.2.2.1 v.2.2.2) v = runK (cfg w0 (match_Some.G.tab k r)) Tryz.f20.ntmps (match_Some.kr w0 k r) (annot (match_Some.cuts w0 k r) match_Some.body) (entry (io148.enc v).1 (io148.enc v).2) (endK (match_Some.kr w0 k r)) := by
  intro v; kernel_rfl
theorem match_Some.hb : Tryz.f20.body = some match_Some.body := by kernel_rfl
def tab84 (k : Nat) : Tab T := match_Some.G.tab k (match_Some.G.rec k k)
def match_Is (k : Nat) (a1 : List S31) (a2 : Bool) (a3 : Int) (a4 : List UInt8) : Option (Bool × Int) :=
(match_read k a1 a2 a3 a4).bind fun r5 =>
cond (r5.1 != (0 : Int)) (
some (false, r5.1)) (
(match_Some k a1 a2 a3 r5.2).bind fun r6 =>
some (r6, (0 : Int)))
def match_Is.kr (w0 : World) (k : Nat) : Kr T (Bool × Int) := (kret (retK (cfg w0 (tab84 k)) Tryz.f8.results.toList 0 [] io149.pat))
def match_Is.cuts (w0 : World) (k : Nat) : Cuts T (Bool × Int) := fun n => none
def match_Is.body : Code := bodyOf Tryz.f8
theorem match_Is.e (w0 : World) (k : Nat) : ∀ v, (fun v => match_Is k v.1 v.2.1 v.2.2.1 v.2.2.2) v = runK (cfg w0 (tab84 k)) Tryz.f8.ntmps (match_Is.kr w0 k) (annot (match_Is.cuts w0 k) match_Is.body) (entry (io102.enc v).1 (io102.enc v).2) (endK (match_Is.kr w0 k)) := by
  intro v; kernel_rfl
theorem match_Is.hb : Tryz.f8.body = some match_Is.body := by kernel_rfl
def tab85 (k : Nat) : Tab T := addTab 8 (line io102 io149 (false, (0 : Int)) (fun v => match_Is k v.1 v.2.1 v.2.2.1 v.2.2.2)) (tab84 k)
def clerestorykeep2_MatchCounts.c60 (k : Nat) (x75 : Int) (x76 : Bool) (x77 : Int) (x78 : Int) (x79 : Int) (x80 : Int) (x81 : Int) (x82 : Int) (x83 : Int) (x84 : Int) (x85 : Bool) (x86 : List S31) (x87 : Bool) (x88 : List (List UInt8)) (kn : Int → Bool → Int → Int → Int → Int → Int → Int → Int → Int → (List S31) → Bool → (List (List UInt8)) → Option (Bool)) : Option (Bool) :=
let v89 : Bool := (cond x85 (x84 == (3 : Int)) false)
cond v89 (
let v90 : Int := (IntKind.wrap .i64 (x81 + (1 : Int)))
kn x75 x76 x77 x78 x79 x80 v90 x82 x83 x84 x86 x87 x88) (
kn x75 x76 x77 x78 x79 x80 x81 x82 x83 x84 x86 x87 x88)
def clerestorykeep2_MatchCounts.c56 (k : Nat) (x59 : Int) (x60 : Bool) (x61 : Int) (x62 : Int) (x63 : Int) (x64 : Int) (x65 : Int) (x66 : Int) (x67 : Int) (x68 : Int) (x69 : Bool) (x70 : List S31) (x71 : Bool) (x72 : List (List UInt8)) (kn : Int → Bool → Int → Int → Int → Int → Int → Int → Int → Int → (List S31) → Bool → (List (List UInt8)) → Option (Bool)) : Option (Bool) :=
let v73 : Bool := (cond x69 (x68 == (2 : Int)) false)
cond v73 (
let v74 : Int := (IntKind.wrap .i64 (x64 + (1 : Int)))
clerestorykeep2_MatchCounts.c60 k x59 x60 x61 x62 x63 v74 x65 x66 x67 x68 x69 x70 x71 x72 (fun (y91 : Int) (y92 : Bool) (y93 : Int) (y94 : Int) (y95 : Int) (y96 : Int) (y97 : Int) (y98 : Int) (y99 : Int) (y100 : Int) (y101 : List S31) (y102 : Bool) (y103 : List (List UInt8)) =>
kn y91 y92 y93 y94 y95 y96 y97 y98 y99 y100 y101 y102 y103)) (
clerestorykeep2_MatchCounts.c60 k x59 x60 x61 x62 x63 x64 x65 x66 x67 x68 x69 x70 x71 x72 (fun (y104 : Int) (y105 : Bool) (y106 : Int) (y107 : Int) (y108 : Int) (y109 : Int) (y110 : Int) (y111 : Int) (y112 : Int) (y113 : Int) (y114 : List S31) (y115 : Bool) (y116 : List (List UInt8)) =>
kn y104 y105 y106 y107 y108 y109 y110 y111 y112 y113 y114 y115 y116))
def clerestorykeep2_MatchCounts.c52 (k : Nat) (x43 : Int) (x44 : Bool) (x45 : Int) (x46 : Int) (x47 : Int) (x48 : Int) (x49 : Int) (x50 : Int) (x51 : Int) (x52 : Int) (x53 : Bool) (x54 : List S31) (x55 : Bool) (x56 : List (List UInt8)) (kn : Int → Bool → Int → Int → Int → Int → Int → Int → Int → Int → (List S31) → Bool → (List (List UInt8)) → Option (Bool)) : Option (Bool) :=
let v57 : Bool := (cond x53 (x52 == (1 : Int)) false)
cond v57 (
let v58 : Int := (IntKind.wrap .i64 (x47 + (1 : Int)))
clerestorykeep2_MatchCounts.c56 k x43 x44 x45 x46 v58 x48 x49 x50 x51 x52 x53 x54 x55 x56 (fun (y117 : Int) (y118 : Bool) (y119 : Int) (y120 : Int) (y121 : Int) (y122 : Int) (y123 : Int) (y124 : Int) (y125 : Int) (y126 : Int) (y127 : List S31) (y128 : Bool) (y129 : List (List UInt8)) =>
kn y117 y118 y119 y120 y121 y122 y123 y124 y125 y126 y127 y128 y129)) (
clerestorykeep2_MatchCounts.c56 k x43 x44 x45 x46 x47 x48 x49 x50 x51 x52 x53 x54 x55 x56 (fun (y130 : Int) (y131 : Bool) (y132 : Int) (y133 : Int) (y134 : Int) (y135 : Int) (y136 : Int) (y137 : Int) (y138 : Int) (y139 : Int) (y140 : List S31) (y141 : Bool) (y142 : List (List UInt8)) =>
kn y130 y131 y132 y133 y134 y135 y136 y137 y138 y139 y140 y141 y142))
def clerestorykeep2_MatchCounts.c39 (k : Nat) : Nat → Int → Bool → Int → Int → Int → Int → Int → Int → Int → Int → (List S31) → Bool → (List (List UInt8)) → (Int → Bool → Int → Int → Int → Int → Int → Int → (List S31) → Bool → Option (Bool)) → Option (Bool)
  | 0, _, _, _, _, _, _, _, _, _, _, _, _, _, _ => none
  | n + 1, x26, x27, x28, x29, x30, x31, x32, x33, x34, x35, x36, x37, x38, k2 =>
    let v39 : Bool := (decide (x35 < (x38.length : Int)))
    cond v39 (
    cond (decide (0 ≤ x35 ∧ x35 < (x38.length : Int))) (
    (match_Is k x36 x37 x34 (x38.getD x35.toNat [])).bind fun r40 =>
    cond (r40.2 != (0 : Int)) (
    some false) (
    let v41 : Bool := (cond r40.1 (x35 == (0 : Int)) false)
    cond v41 (
    let v42 : Int := (IntKind.wrap .i64 (x29 + (1 : Int)))
    clerestorykeep2_MatchCounts.c52 k x26 x27 x28 v42 x30 x31 x32 x33 x34 x35 r40.1 x36 x37 x38 (fun (y143 : Int) (y144 : Bool) (y145 : Int) (y146 : Int) (y147 : Int) (y148 : Int) (y149 : Int) (y150 : Int) (y151 : Int) (y152 : Int) (y153 : List S31) (y154 : Bool) (y155 : List (List UInt8)) =>
    let v156 : Int := (IntKind.wrap .i64 (y152 + (1 : Int)))
    clerestorykeep2_MatchCounts.c39 k n y143 y144 y145 y146 y147 y148 y149 y150 y151 v156 y153 y154 y155 k2)) (
    clerestorykeep2_MatchCounts.c52 k x26 x27 x28 x29 x30 x31 x32 x33 x34 x35 r40.1 x36 x37 x38 (fun (y157 : Int) (y158 : Bool) (y159 : Int) (y160 : Int) (y161 : Int) (y162 : Int) (y163 : Int) (y164 : Int) (y165 : Int) (y166 : Int) (y167 : List S31) (y168 : Bool) (y169 : List (List UInt8)) =>
    let v170 : Int := (IntKind.wrap .i64 (y166 + (1 : Int)))
    clerestorykeep2_MatchCounts.c39 k n y157 y158 y159 y160 y161 y162 y163 y164 y165 v170 y167 y168 y169 k2)))) none) (
    k2 x26 x27 x28 x29 x30 x31 x32 x33 x36 x37)
def clerestorykeep2_MatchCounts.c21 (k : Nat) : Nat → Int → Bool → Int → Int → Int → Int → Int → Int → (List S31) → Bool → (Bool → Int → Int → Int → Int → Int → Option (Bool)) → Option (Bool)
  | 0, _, _, _, _, _, _, _, _, _, _, _ => none
  | n + 1, x8, x9, x10, x11, x12, x13, x14, x15, x16, x17, k0 =>
    cond (decide (0 ≤ x8 ∧ x8 < (x16.length : Int))) (
    let v18 : Int := (((x16.getD x8.toNat S31.d).Kids).length : Int)
    cond (decide (x15 < v18)) (
    cond (decide (0 ≤ x8 ∧ x8 < (x16.length : Int))) (
    cond (decide (0 ≤ x15 ∧ x15 < (((x16.getD x8.toNat S31.d).Kids).length : Int))) (
    let v19 : Int := (((x16.getD x8.toNat S31.d).Kids).getD x15.toNat (0 : Int))
    let v20 : Bool := (decide (v19 ≥ (x16.length : Int)))
    let v21 : Bool := (cond (decide (v19 < (0 : Int))) true v20)
    cond v21 (
    some false) (
    cond (decide (0 ≤ v19 ∧ v19 < (x16.length : Int))) (
    let v22 : Int := (x16.getD v19.toNat S31.d).Kind
    cond (v22 != (2 : Int)) (
    let v23 : Int := (IntKind.wrap .i64 (x15 + (1 : Int)))
    clerestorykeep2_MatchCounts.c21 k n x8 x9 x10 x11 x12 x13 x14 v23 x16 x17 k0) (
    let v24 : Int := (IntKind.wrap .i64 (x10 + (1 : Int)))
    let v25 : List (List UInt8) := [([58, 102, 105, 114, 115, 116, 45, 99, 104, 105, 108, 100] : List UInt8), ([58, 108, 97, 115, 116, 45, 99, 104, 105, 108, 100] : List UInt8), ([58, 110, 116, 104, 45, 99, 104, 105, 108, 100, 40, 111, 100, 100, 41] : List UInt8), ([58, 110, 116, 104, 45, 99, 104, 105, 108, 100, 40, 101, 118, 101, 110, 41] : List UInt8)]
    clerestorykeep2_MatchCounts.c39 k k x8 x9 v24 x11 x12 x13 x14 x15 v19 (0 : Int) x16 x17 v25 (fun (y171 : Int) (y172 : Bool) (y173 : Int) (y174 : Int) (y175 : Int) (y176 : Int) (y177 : Int) (y178 : Int) (y179 : List S31) (y180 : Bool) =>
    let v181 : Int := (IntKind.wrap .i64 (y178 + (1 : Int)))
    clerestorykeep2_MatchCounts.c21 k n y171 y172 y173 y174 y175 y176 y177 v181 y179 y180 k0))) none)) none) none) (
    k0 x9 x10 x11 x12 x13 x14)) none
def clerestorykeep2_MatchCounts (k : Nat) (a1 : List S31) (a2 : Bool) (a3 : Int) : Option (Bool) :=
(clerestorykeep2_listed k).bind fun r4 =>
(dom_Check k a1 a2).bind fun r5 =>
let v6 : Bool := (cond (r5 != (0 : Int)) true (decide (a3 < (0 : Int))))
let v7 : Bool := (decide (a3 ≥ (a1.length : Int)))
cond (cond v6 true v7) (
some r4) (
clerestorykeep2_MatchCounts.c21 k k a3 r4 (0 : Int) (0 : Int) (0 : Int) (0 : Int) (0 : Int) (0 : Int) a1 a2 (fun (y182 : Bool) (y183 : Int) (y184 : Int) (y185 : Int) (y186 : Int) (y187 : Int) =>
let v188 : Int := (if y183 < (1 : Int) then y183 else (1 : Int))
let v189 : Bool := (cond y182 (y184 == v188) false)
let v190 : Bool := (cond v189 (y185 == y184) false)
let v191 : Int := (IntKind.wrap .i64 (y183 + (1 : Int)))
cond (((2 : Int) != 0) || !v190) (
let v192 : Int := (IntKind.wrap .i64 (Int.tdiv v191 (2 : Int)))
let v193 : Bool := (cond v190 (y186 == v192) false)
cond (((2 : Int) != 0) || !v193) (
let v194 : Int := (IntKind.wrap .i64 (Int.tdiv y183 (2 : Int)))
let v195 : Bool := (cond v193 (y187 == v194) false)
some v195) none) none))
def clerestorykeep2_MatchCounts.kr (w0 : World) (k : Nat) : Kr T (Bool) := (kret (retK (cfg w0 (tab85 k)) Tryz.f3.results.toList 0 [] io2.pat))
def clerestorykeep2_MatchCounts.x60 : Ex → Option (List Nat × List Sp)
  | .norm => some ([1, 2, 5, 6, 7, 8, 9, 10, 11, 12, 13, 14], [])
  | _ => none
def clerestorykeep2_MatchCounts.L60 (k : Nat) (v : Int × Bool × Int × Int × Int × Int × Int × Int × Int × Int × Bool × (List S31) × Bool × (List (List UInt8))) (K : Ex → St T → Option (Bool)) : Option (Bool) := clerestorykeep2_MatchCounts.c60 k v.1 v.2.1 v.2.2.1 v.2.2.2.1 v.2.2.2.2.1 v.2.2.2.2.2.1 v.2.2.2.2.2.2.1 v.2.2.2.2.2.2.2.1 v.2.2.2.2.2.2.2.2.1 v.2.2.2.2.2.2.2.2.2.1 v.2.2.2.2.2.2.2.2.2.2.1 v.2.2.2.2.2.2.2.2.2.2.2.1 v.2.2.2.2.2.2.2.2.2.2.2.2.1 v.2.2.2.2.2.2.2.2.2.2.2.2.2 (fun y314 y315 y316 y317 y318 y319 y320 y321 y322 y323 y324 y325 y326 => K .norm (mkSt [1, 2, 5, 6, 7, 8, 9, 10, 11, 12, 13, 14] (io151.enc (y314, y315, y316, y317, y318, y319, y320, y321, y322, y323, y324, y325, y326))))
def clerestorykeep2_MatchCounts.x56 : Ex → Option (List Nat × List Sp)
  | .norm => some ([1, 2, 5, 6, 7, 8, 9, 10, 11, 12, 13, 14], [])
  | _ => none
def clerestorykeep2_MatchCounts.L56 (k : Nat) (v : Int × Bool × Int × Int × Int × Int × Int × Int × Int × Int × Bool × (List S31) × Bool × (List (List UInt8))) (K : Ex → St T → Option (Bool)) : Option (Bool) := clerestorykeep2_MatchCounts.c56 k v.1 v.2.1 v.2.2.1 v.2.2.2.1 v.2.2.2.2.1 v.2.2.2.2.2.1 v.2.2.2.2.2.2.1 v.2.2.2.2.2.2.2.1 v.2.2.2.2.2.2.2.2.1 v.2.2.2.2.2.2.2.2.2.1 v.2.2.2.2.2.2.2.2.2.2.1 v.2.2.2.2.2.2.2.2.2.2.2.1 v.2.2.2.2.2.2.2.2.2.2.2.2.1 v.2.2.2.2.2.2.2.2.2.2.2.2.2 (fun y327 y328 y329 y330 y331 y332 y333 y334 y335 y336 y337 y338 y339 => K .norm (mkSt [1, 2, 5, 6, 7, 8, 9, 10, 11, 12, 13, 14] (io151.enc (y327, y328, y329, y330, y331, y332, y333, y334, y335, y336, y337, y338, y339))))
def clerestorykeep2_MatchCounts.x52 : Ex → Option (List Nat × List Sp)
  | .norm => some ([1, 2, 5, 6, 7, 8, 9, 10, 11, 12, 13, 14], [])
  | _ => none
def clerestorykeep2_MatchCounts.L52 (k : Nat) (v : Int × Bool × Int × Int × Int × Int × Int × Int × Int × Int × Bool × (List S31) × Bool × (List (List UInt8))) (K : Ex → St T → Option (Bool)) : Option (Bool) := clerestorykeep2_MatchCounts.c52 k v.1 v.2.1 v.2.2.1 v.2.2.2.1 v.2.2.2.2.1 v.2.2.2.2.2.1 v.2.2.2.2.2.2.1 v.2.2.2.2.2.2.2.1 v.2.2.2.2.2.2.2.2.1 v.2.2.2.2.2.2.2.2.2.1 v.2.2.2.2.2.2.2.2.2.2.1 v.2.2.2.2.2.2.2.2.2.2.2.1 v.2.2.2.2.2.2.2.2.2.2.2.2.1 v.2.2.2.2.2.2.2.2.2.2.2.2.2 (fun y340 y341 y342 y343 y344 y345 y346 y347 y348 y349 y350 y351 y352 => K .norm (mkSt [1, 2, 5, 6, 7, 8, 9, 10, 11, 12, 13, 14] (io151.enc (y340, y341, y342, y343, y344, y345, y346, y347, y348, y349, y350, y351, y352))))
def clerestorykeep2_MatchCounts.x39 : Ex → Option (List Nat × List Sp)
  | .exit 2 => some ([1, 2, 5, 6, 7, 8, 9, 10, 11], [])
  | _ => none
def clerestorykeep2_MatchCounts.L39 (k : Nat) (n : Nat) (v : Int × Bool × Int × Int × Int × Int × Int × Int × Int × Int × (List S31) × Bool × (List (List UInt8))) (K : Ex → St T → Option (Bool)) : Option (Bool) := clerestorykeep2_MatchCounts.c39 k n v.1 v.2.1 v.2.2.1 v.2.2.2.1 v.2.2.2.2.1 v.2.2.2.2.2.1 v.2.2.2.2.2.2.1 v.2.2.2.2.2.2.2.1 v.2.2.2.2.2.2.2.2.1 v.2.2.2.2.2.2.2.2.2.1 v.2.2.2.2.2.2.2.2.2.2.1 v.2.2.2.2.2.2.2.2.2.2.2.1 v.2.2.2.2.2.2.2.2.2.2.2.2 (fun y353 y354 y355 y356 y357 y358 y359 y360 y361 y362 => K (.exit 2) (mkSt [1, 2, 5, 6, 7, 8, 9, 10, 11] (io152.enc (y353, y354, y355, y356, y357, y358, y359, y360, y361, y362))))
def clerestorykeep2_MatchCounts.x21 : Ex → Option (List Nat × List Sp)
  | .exit 0 => some ([5, 6, 7, 8, 9, 10], [])
  | _ => none
def clerestorykeep2_MatchCounts.L21 (k : Nat) (n : Nat) (v : Int × Bool × Int × Int × Int × Int × Int × Int × (List S31) × Bool) (K : Ex → St T → Option (Bool)) : Option (Bool) := clerestorykeep2_MatchCounts.c21 k n v.1 v.2.1 v.2.2.1 v.2.2.2.1 v.2.2.2.2.1 v.2.2.2.2.2.1 v.2.2.2.2.2.2.1 v.2.2.2.2.2.2.2.1 v.2.2.2.2.2.2.2.2.1 v.2.2.2.2.2.2.2.2.2 (fun y363 y364 y365 y366 y367 y368 => K (.exit 0) (mkSt [5, 6, 7, 8, 9, 10] (io153.enc (y363, y364, y365, y366, y367, y368))))
def clerestorykeep2_MatchCounts.cuts (w0 : World) (k : Nat) : Cuts T (Bool) := fun n => bif n.beq 60 then some (entK (cfg w0 (tab85 k)) 0 [1, 2, 5, 6, 7, 8, 9, 10, 11, 12, 13, 14, 15] [] io150.pat (clerestorykeep2_MatchCounts.L60 k)) else bif n.beq 56 then some (entK (cfg w0 (tab85 k)) 0 [1, 2, 5, 6, 7, 8, 9, 10, 11, 12, 13, 14, 15] [] io150.pat (clerestorykeep2_MatchCounts.L56 k)) else bif n.beq 52 then some (entK (cfg w0 (tab85 k)) 0 [1, 2, 5, 6, 7, 8, 9, 10, 11, 12, 13, 14, 15] [] io150.pat (clerestorykeep2_MatchCounts.L52 k)) else bif n.beq 39 then some (entK (cfg w0 (tab85 k)) 0 [1, 2, 5, 6, 7, 8, 9, 10, 11, 12, 13, 14] [] io151.pat (clerestorykeep2_MatchCounts.L39 k k)) else bif n.beq 21 then some (entK (cfg w0 (tab85 k)) 0 [1, 2, 5, 6, 7, 8, 9, 10, 11] [] io152.pat (clerestorykeep2_MatchCounts.L21 k k)) else none
def clerestorykeep2_MatchCounts.body : Code := bodyOf Tryz.f3
def clerestorykeep2_MatchCounts.b60 : Code := findD 60 clerestorykeep2_MatchCounts.body
theorem clerestorykeep2_MatchCounts.s60 (w0 : World) (k : Nat) : ∀ v K, clerestorykeep2_MatchCounts.L60 k v K = runK (cfg w0 (tab85 k)) Tryz.f3.ntmps (clerestorykeep2_MatchCounts.kr w0 k) (annot (clerestorykeep2_MatchCounts.cuts w0 k) clerestorykeep2_MatchCounts.b60) (mkSt [1, 2, 5, 6, 7, 8, 9, 10, 11, 12, 13, 14, 15] (io150.enc v)) (outK (cfg w0 (tab85 k)) 0 clerestorykeep2_MatchCounts.x60 K) := by
  intro v K; kernel_rfl
def clerestorykeep2_MatchCounts.b56 : Code := findD 56 clerestorykeep2_MatchCounts.body
theorem clerestorykeep2_MatchCounts.s56 (w0 : World) (k : Nat) : ∀ v K, clerestorykeep2_MatchCounts.L56 k v K = runK (cfg w0 (tab85 k)) Tryz.f3.ntmps (clerestorykeep2_MatchCounts.kr w0 k) (annot (clerestorykeep2_MatchCounts.cuts w0 k) clerestorykeep2_MatchCounts.b56) (mkSt [1, 2, 5, 6, 7, 8, 9, 10, 11, 12, 13, 14, 15] (io150.enc v)) (outK (cfg w0 (tab85 k)) 0 clerestorykeep2_MatchCounts.x56 K) := by
  intro v K; kernel_rfl
def clerestorykeep2_MatchCounts.b52 : Code := findD 52 clerestorykeep2_MatchCounts.body
theorem clerestorykeep2_MatchCounts.s52 (w0 : World) (k : Nat) : ∀ v K, clerestorykeep2_MatchCounts.L52 k v K = runK (cfg w0 (tab85 k)) Tryz.f3.ntmps (clerestorykeep2_MatchCounts.kr w0 k) (annot (clerestorykeep2_MatchCounts.cuts w0 k) clerestorykeep2_MatchCounts.b52) (mkSt [1, 2, 5, 6, 7, 8, 9, 10, 11, 12, 13, 14, 15] (io150.enc v)) (outK (cfg w0 (tab85 k)) 0 clerestorykeep2_MatchCounts.x52 K) := by
  intro v K; kernel_rfl
def clerestorykeep2_MatchCounts.b39 : Code := findD 39 clerestorykeep2_MatchCounts.body
theorem clerestorykeep2_MatchCounts.s39 (w0 : World) (k : Nat) : ∀ n v K, clerestorykeep2_MatchCounts.L39 k (n + 1) v K = runK (cfg w0 (tab85 k)) Tryz.f3.ntmps (clerestorykeep2_MatchCounts.kr w0 k) (annot (clerestorykeep2_MatchCounts.cuts w0 k) clerestorykeep2_MatchCounts.b39) (mkSt [1, 2, 5, 6, 7, 8, 9, 10, 11, 12, 13, 14] (io151.enc v)) (loopK (cfg w0 (tab85 k)) 0 clerestorykeep2_MatchCounts.x39 (entK (cfg w0 (tab85 k)) 0 [1, 2, 5, 6, 7, 8, 9, 10, 11, 12, 13, 14] [] io151.pat (clerestorykeep2_MatchCounts.L39 k n)) K) := by
  intro n v K; kernel_rfl
def clerestorykeep2_MatchCounts.b21 : Code := findD 21 clerestorykeep2_MatchCounts.body
theorem clerestorykeep2_MatchCounts.s21 (w0 : World) (k : Nat) : ∀ n v K, clerestorykeep2_MatchCounts.L21 k (n + 1) v K = runK (cfg w0 (tab85 k)) Tryz.f3.ntmps (clerestorykeep2_MatchCounts.kr w0 k) (annot (clerestorykeep2_MatchCounts.cuts w0 k) clerestorykeep2_MatchCounts.b21) (mkSt [1, 2, 5, 6, 7, 8, 9, 10, 11] (io152.enc v)) (loopK (cfg w0 (tab85 k)) 0 clerestorykeep2_MatchCounts.x21 (entK (cfg w0 (tab85 k)) 0 [1, 2, 5, 6, 7, 8, 9, 10, 11] [] io152.pat (clerestorykeep2_MatchCounts.L21 k n)) K) := by
  intro n v K; kernel_rfl
theorem clerestorykeep2_MatchCounts.e (w0 : World) (k : Nat) : ∀ v, (fun v => clerestorykeep2_MatchCounts k v.1 v.2.1 v.2.2) v = runK (cfg w0 (tab85 k)) Tryz.f3.ntmps (clerestorykeep2_MatchCounts.kr w0 k) (annot (clerestorykeep2_MatchCounts.cuts w0 k) clerestorykeep2_MatchCounts.body) (entry (io98.enc v).1 (io98.enc v).2) (endK (clerestorykeep2_MatchCounts.kr w0 k)) := by
  intro v; kernel_rfl
theorem clerestorykeep2_MatchCounts.hb : Tryz.f3.body = some clerestorykeep2_MatchCounts.body := by kernel_rfl
def tab86 (k : Nat) : Tab T := addTab 3 (line io98 io2 false (fun v => clerestorykeep2_MatchCounts k v.1 v.2.1 v.2.2)) (tab85 k)
attribute [local irreducible] runK retK annot entry
end
end Go.Ev.Mc
