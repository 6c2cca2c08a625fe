/- A part of the evaluator of Go code over small heaps and of its proof: no condition beyond those that each theorem names. -/
import Derived.Test.YtdnnaneifaoooaaDoorEvShH
import Derived.Test.YtdnnaneifaoooaaDoorEvShI
import Derived.Test.YtdnnaneifaoooaaDoorEvShJ
import Derived.Test.YtdnnaneifaoooaaDoorEvShK
import Derived.Test.YtdnnaneifaoooaaDoorEvShL
import Derived.Test.YtdnnaneifaoooaaDoorProg
set_option linter.unusedVariables false
set_option maxRecDepth 100000
namespace Go.Proofs.Sh
open Go.Shelf Go.RowKit Go.Ev Go.Proofs
def blr : Ren := ⟨fun | 165 => 82 | 166 => 83 | 167 => 84 | 169 => 48 | 170 => 47 | 240 => 134 | 241 => 135 | 276 => 175 | 277 => 176 | n => n, fun | 0 => 0 | 3 => 3 | 4 => 4 | 5 => 5 | 9 => 9 | 20 => 20 | 37 => 63 | 70 => 81 | 72 => 83 | 75 => 75 | 80 => 86 | 127 => 119 | 164 => 184 | n => n, fun n => n⟩
theorem ext : Builder.Extra Tryd.prog blr := {
  sizeBuilder := by kernel_rfl
  liesBuilder := by kernel_rfl
  t5 := Tryd.underlying5
  a5 := Tryd.isAgg5
  z5 := Tryd.sizeOf5
  v5 := Tryd.zeroValue5
  infoByte := by kernel_rfl
  cellsByte := by kernel_rfl
  sizeByte := by kernel_rfl
  neB5 := by decide }

set_option maxHeartbeats 1000000 in
theorem used (b : Nat) (w : World) (h0 : w.cell? ⟨b, 0, none⟩ = some (.pointer (some ⟨b, 0, none⟩))) :
    Calls Tryd.prog 134 #[.pointer (some ⟨b, 0, none⟩)] w fun e w' => e = .returned (.tuple #[]) ∧ w' = w := by
  obtain ⟨j, hj, _⟩ := Option.map_eq_some_iff.1 ext.sizeBuilder
  have mixed : Tryd.prog.follows .mixedOrders = true := by kernel_rfl
  have t72 := Tryd.underlying83; have a72 := Tryd.isAgg83; have z72 := Tryd.sizeOf83; have v72 := Tryd.zeroValue83; have u72 := run_underlying Tryd.underlying83
  have t70 := Tryd.underlying81; have a70 := Tryd.isAgg81; have z70 := Tryd.sizeOf81; have v70 := Tryd.zeroValue81; have u70 := run_underlying Tryd.underlying81
  have t9 := Tryd.underlying9; have a9 := Tryd.isAgg9; have z9 := Tryd.sizeOf9; have v9 := Tryd.zeroValue9; have u9 := run_underlying Tryd.underlying9
  have t4 := Tryd.underlying4; have a4 := Tryd.isAgg4; have z4 := Tryd.sizeOf4; have v4 := Tryd.zeroValue4; have u4 := run_underlying Tryd.underlying4
  have t164 := Tryd.underlying184; have a164 := Tryd.isAgg184; have z164 := Tryd.sizeOf184; have v164 := Tryd.zeroValue184; have u164 := run_underlying Tryd.underlying184
  go_enter Tryd.func134, Tryd.ntmps134
  go_wp2
  rw [Lib.run_neq_ptr_same w _ Tryd.underlying81 hj]
  go_wp2
  go_end0
  exact ⟨rfl, rfl⟩

set_option maxHeartbeats 1000000 in
theorem fresh (b : Nat) (w : World) (h0 : w.cell? ⟨b, 0, none⟩ = some (.pointer none)) (hsh : w.shape? b = some (83, 2)) (hfz : w.frozen? ⟨b, 0, none⟩ = false) :
    Calls Tryd.prog 134 #[.pointer (some ⟨b, 0, none⟩)] w fun e w' => e = .returned (.tuple #[]) ∧ w' = w.setCell ⟨b, 0, none⟩ (.pointer (some ⟨b, 0, none⟩)) := by
  obtain ⟨j, hj, hjs⟩ := Option.map_eq_some_iff.1 ext.sizeBuilder
  have mixed : Tryd.prog.follows .mixedOrders = true := by kernel_rfl
  have t72 := Tryd.underlying83; have a72 := Tryd.isAgg83; have z72 := Tryd.sizeOf83; have v72 := Tryd.zeroValue83; have u72 := run_underlying Tryd.underlying83
  have t70 := Tryd.underlying81; have a70 := Tryd.isAgg81; have z70 := Tryd.sizeOf81; have v70 := Tryd.zeroValue81; have u70 := run_underlying Tryd.underlying81
  have t9 := Tryd.underlying9; have a9 := Tryd.isAgg9; have z9 := Tryd.sizeOf9; have v9 := Tryd.zeroValue9; have u9 := run_underlying Tryd.underlying9
  have t4 := Tryd.underlying4; have a4 := Tryd.isAgg4; have z4 := Tryd.sizeOf4; have v4 := Tryd.zeroValue4; have u4 := run_underlying Tryd.underlying4
  have t164 := Tryd.underlying184; have a164 := Tryd.isAgg184; have z164 := Tryd.sizeOf184; have v164 := Tryd.zeroValue184; have u164 := run_underlying Tryd.underlying184
  go_enter Tryd.func134, Tryd.ntmps134
  go_wp2
  rw [Lib.run_to_unsafe w ⟨b, 0, none⟩ Tryd.underlying81 Tryd.underlying184 hj (by rw [hjs]; decide) hsh (Nat.zero_lt_succ 1)]
  simp only [Result.andThen]
  rw [Oper.upon_value]
  go_wp2
  rw [run_callFunc_extern Tryd.func175 (by kernel_rfl) (by kernel_rfl) (by kernel_rfl) (e := Extern.AbiNoEscape.same) (by kernel_rfl)]
  rw [Lib.run_noEscape]
  simp only [Result.andThen]
  rw [Oper.upon_value]
  go_wp2
  rw [Lib.run_from_unsafe w ⟨b, 0, none⟩ Tryd.underlying184 Tryd.underlying81 hj hsh ext.liesBuilder]
  simp only [Result.andThen]
  rw [Oper.upon_value]
  go_wp2
  go_end0
  exact ⟨rfl, rfl⟩

theorem bl : BlP Tryd.prog blr := {
  mixed := by kernel_rfl
  f169 := Tryd.func48.trans (congrArg some (by kernel_rfl))
  t0 := Tryd.underlying0
  a0 := Tryd.isAgg0
  z0 := Tryd.sizeOf0
  v0 := Tryd.zeroValue0
  t3 := Tryd.underlying3
  a3 := Tryd.isAgg3
  z3 := Tryd.sizeOf3
  v3 := Tryd.zeroValue3
  t9 := Tryd.underlying9
  a9 := Tryd.isAgg9
  z9 := Tryd.sizeOf9
  v9 := Tryd.zeroValue9
  t37 := Tryd.underlying63
  a37 := Tryd.isAgg63
  z37 := Tryd.sizeOf63
  v37 := Tryd.zeroValue63
  t70 := Tryd.underlying81
  a70 := Tryd.isAgg81
  z70 := Tryd.sizeOf81
  v70 := Tryd.zeroValue81
  t72 := Tryd.underlying83
  a72 := Tryd.isAgg83
  z72 := Tryd.sizeOf83
  v72 := Tryd.zeroValue83
  t127 := Tryd.underlying119
  a127 := Tryd.isAgg119
  z127 := Tryd.sizeOf119
  v127 := Tryd.zeroValue119
  enter := enters_of Tryd.func134 (by kernel_rfl) rfl
  check := fun w b s p v h => checked h (fun h0 hsh hfz => fresh b w h0 hsh hfz) (fun h0 => used b w h0) }
theorem fWriteString : Tryd.prog.funcs[blr.f 166]? = some (Body.n166 blr) := Tryd.func83.trans (congrArg some (by kernel_rfl))
theorem fWriteByte : Tryd.prog.funcs[blr.f 167]? = some (Body.n167 blr) := Tryd.func84.trans (congrArg some (by kernel_rfl))
theorem fLen : Tryd.prog.funcs[blr.f 170]? = some (Body.n170 blr) := Tryd.func47.trans (congrArg some (by kernel_rfl))
theorem fGrow : Tryd.prog.funcs[blr.f 165]? = some (Body.n165 blr) := Tryd.func82.trans (congrArg some (by kernel_rfl))
def ren161 : Ren := ⟨fun | 119 => 208 | 137 => 87 | 151 => 184 | 152 => 204 | 161 => 117 | 197 => 136 | 217 => 141 | 224 => 143 | 225 => 142 | 227 => 148 | 228 => 182 | 231 => 156 | 233 => 157 | 235 => 158 | 260 => 177 | 266 => 180 | n => n, fun | 0 => 0 | 3 => 3 | 4 => 4 | 5 => 5 | 9 => 9 | 21 => 21 | 46 => 32 | 105 => 152 | 116 => 161 | 117 => 162 | 119 => 217 | 124 => 165 | 138 => 219 | 139 => 220 | n => n, fun | 1 => 0 | 3 => 8 | 4 => 9 | 11 => 6 | 12 => 7 | 13 => 4 | 15 => 2 | 16 => 3 | 17 => 5 | 18 => 10 | 19 => 11 | n => n⟩
theorem l161 : Lays.n161 Tryd.prog ren161 := {
  mixed := by kernel_rfl
  f119 := Tryd.func208.trans (congrArg some (by kernel_rfl))
  f137 := Tryd.func87.trans (congrArg some (by kernel_rfl))
  f151 := Tryd.func184.trans (congrArg some (by kernel_rfl))
  f152 := Tryd.func204.trans (congrArg some (by kernel_rfl))
  f161 := Tryd.func117.trans (congrArg some (by kernel_rfl))
  f197 := Tryd.func136.trans (congrArg some (by kernel_rfl))
  f217 := Tryd.func141.trans (congrArg some (by kernel_rfl))
  f224 := Tryd.func143.trans (congrArg some (by kernel_rfl))
  f225 := Tryd.func142.trans (congrArg some (by kernel_rfl))
  f227 := Tryd.func148.trans (congrArg some (by kernel_rfl))
  f228 := Tryd.func182.trans (congrArg some (by kernel_rfl))
  f231 := Tryd.func156.trans (congrArg some (by kernel_rfl))
  f233 := Tryd.func157.trans (congrArg some (by kernel_rfl))
  f235 := Tryd.func158.trans (congrArg some (by kernel_rfl))
  f260 := Tryd.func177.trans (congrArg some (by kernel_rfl))
  f266 := Tryd.func180.trans (congrArg some (by kernel_rfl))
  t0 := Tryd.underlying0
  a0 := Tryd.isAgg0
  z0 := Tryd.sizeOf0
  v0 := Tryd.zeroValue0
  t3 := Tryd.underlying3
  a3 := Tryd.isAgg3
  z3 := Tryd.sizeOf3
  v3 := Tryd.zeroValue3
  t4 := Tryd.underlying4
  a4 := Tryd.isAgg4
  z4 := Tryd.sizeOf4
  v4 := Tryd.zeroValue4
  t5 := Tryd.underlying5
  a5 := Tryd.isAgg5
  z5 := Tryd.sizeOf5
  v5 := Tryd.zeroValue5
  t9 := Tryd.underlying9
  a9 := Tryd.isAgg9
  z9 := Tryd.sizeOf9
  v9 := Tryd.zeroValue9
  t21 := Tryd.underlying21
  a21 := Tryd.isAgg21
  z21 := Tryd.sizeOf21
  v21 := Tryd.zeroValue21
  t46 := Tryd.underlying32
  a46 := Tryd.isAgg32
  z46 := Tryd.sizeOf32
  v46 := Tryd.zeroValue32
  t105 := Tryd.underlying152
  a105 := Tryd.isAgg152
  z105 := Tryd.sizeOf152
  v105 := Tryd.zeroValue152
  t116 := Tryd.underlying161
  a116 := Tryd.isAgg161
  z116 := Tryd.sizeOf161
  t117 := Tryd.underlying162
  a117 := Tryd.isAgg162
  z117 := Tryd.sizeOf162
  v117 := Tryd.zeroValue162
  t119 := Tryd.underlying217
  a119 := Tryd.isAgg217
  z119 := Tryd.sizeOf217
  t124 := Tryd.underlying165
  a124 := Tryd.isAgg165
  z124 := Tryd.sizeOf165
  v124 := Tryd.zeroValue165
  t138 := Tryd.underlying219
  a138 := Tryd.isAgg219
  z138 := Tryd.sizeOf219
  v138 := Tryd.zeroValue219
  t139 := Tryd.underlying220
  a139 := Tryd.isAgg220
  z139 := Tryd.sizeOf220
  v139 := Tryd.zeroValue220
  g3 := by kernel_rfl
  g4 := by kernel_rfl }
def ren162 : Ren := ⟨fun | 119 => 208 | 120 => 203 | 137 => 87 | 151 => 184 | 152 => 204 | 162 => 98 | 197 => 136 | 217 => 141 | 224 => 143 | 225 => 142 | 227 => 148 | 228 => 182 | 232 => 147 | 234 => 149 | 236 => 150 | 260 => 177 | 266 => 180 | 271 => 183 | n => n, fun | 0 => 0 | 3 => 3 | 4 => 4 | 5 => 5 | 9 => 9 | 21 => 21 | 46 => 32 | 105 => 152 | 116 => 161 | 117 => 162 | 119 => 217 | 124 => 165 | 138 => 219 | 139 => 220 | n => n, fun | 1 => 0 | 3 => 8 | 4 => 9 | 11 => 6 | 12 => 7 | 13 => 4 | 15 => 2 | 16 => 3 | 17 => 5 | 18 => 10 | 19 => 11 | n => n⟩
theorem l162 : Lays.n162 Tryd.prog ren162 := {
  mixed := by kernel_rfl
  f119 := Tryd.func208.trans (congrArg some (by kernel_rfl))
  f120 := Tryd.func203.trans (congrArg some (by kernel_rfl))
  f137 := Tryd.func87.trans (congrArg some (by kernel_rfl))
  f151 := Tryd.func184.trans (congrArg some (by kernel_rfl))
  f152 := Tryd.func204.trans (congrArg some (by kernel_rfl))
  f162 := Tryd.func98.trans (congrArg some (by kernel_rfl))
  f197 := Tryd.func136.trans (congrArg some (by kernel_rfl))
  f217 := Tryd.func141.trans (congrArg some (by kernel_rfl))
  f224 := Tryd.func143.trans (congrArg some (by kernel_rfl))
  f225 := Tryd.func142.trans (congrArg some (by kernel_rfl))
  f227 := Tryd.func148.trans (congrArg some (by kernel_rfl))
  f228 := Tryd.func182.trans (congrArg some (by kernel_rfl))
  f232 := Tryd.func147.trans (congrArg some (by kernel_rfl))
  f234 := Tryd.func149.trans (congrArg some (by kernel_rfl))
  f236 := Tryd.func150.trans (congrArg some (by kernel_rfl))
  f260 := Tryd.func177.trans (congrArg some (by kernel_rfl))
  f266 := Tryd.func180.trans (congrArg some (by kernel_rfl))
  f271 := Tryd.func183.trans (congrArg some (by kernel_rfl))
  t0 := Tryd.underlying0
  a0 := Tryd.isAgg0
  z0 := Tryd.sizeOf0
  v0 := Tryd.zeroValue0
  t3 := Tryd.underlying3
  a3 := Tryd.isAgg3
  z3 := Tryd.sizeOf3
  v3 := Tryd.zeroValue3
  t4 := Tryd.underlying4
  a4 := Tryd.isAgg4
  z4 := Tryd.sizeOf4
  v4 := Tryd.zeroValue4
  t5 := Tryd.underlying5
  a5 := Tryd.isAgg5
  z5 := Tryd.sizeOf5
  v5 := Tryd.zeroValue5
  t9 := Tryd.underlying9
  a9 := Tryd.isAgg9
  z9 := Tryd.sizeOf9
  v9 := Tryd.zeroValue9
  t21 := Tryd.underlying21
  a21 := Tryd.isAgg21
  z21 := Tryd.sizeOf21
  v21 := Tryd.zeroValue21
  t46 := Tryd.underlying32
  a46 := Tryd.isAgg32
  z46 := Tryd.sizeOf32
  v46 := Tryd.zeroValue32
  t105 := Tryd.underlying152
  a105 := Tryd.isAgg152
  z105 := Tryd.sizeOf152
  v105 := Tryd.zeroValue152
  t116 := Tryd.underlying161
  a116 := Tryd.isAgg161
  z116 := Tryd.sizeOf161
  t117 := Tryd.underlying162
  a117 := Tryd.isAgg162
  z117 := Tryd.sizeOf162
  v117 := Tryd.zeroValue162
  t119 := Tryd.underlying217
  a119 := Tryd.isAgg217
  z119 := Tryd.sizeOf217
  t124 := Tryd.underlying165
  a124 := Tryd.isAgg165
  z124 := Tryd.sizeOf165
  v124 := Tryd.zeroValue165
  t138 := Tryd.underlying219
  a138 := Tryd.isAgg219
  z138 := Tryd.sizeOf219
  v138 := Tryd.zeroValue219
  t139 := Tryd.underlying220
  a139 := Tryd.isAgg220
  z139 := Tryd.sizeOf220
  v139 := Tryd.zeroValue220
  g3 := by kernel_rfl
  g4 := by kernel_rfl }
def ren160 : Ren := ⟨fun | 119 => 208 | 120 => 203 | 137 => 87 | 151 => 184 | 152 => 204 | 160 => 101 | 197 => 136 | 217 => 141 | 224 => 143 | 225 => 142 | 227 => 148 | 228 => 182 | 231 => 156 | 232 => 147 | 233 => 157 | 234 => 149 | 235 => 158 | 236 => 150 | 260 => 177 | 266 => 180 | 271 => 183 | n => n, fun | 0 => 0 | 3 => 3 | 4 => 4 | 5 => 5 | 9 => 9 | 21 => 21 | 46 => 32 | 105 => 152 | 116 => 161 | 117 => 162 | 119 => 217 | 124 => 165 | 138 => 219 | 139 => 220 | n => n, fun | 1 => 0 | 3 => 8 | 4 => 9 | 11 => 6 | 12 => 7 | 13 => 4 | 15 => 2 | 16 => 3 | 17 => 5 | 18 => 10 | 19 => 11 | n => n⟩
theorem l160 : Lays.n160 Tryd.prog ren160 := {
  mixed := by kernel_rfl
  f119 := Tryd.func208.trans (congrArg some (by kernel_rfl))
  f120 := Tryd.func203.trans (congrArg some (by kernel_rfl))
  f137 := Tryd.func87.trans (congrArg some (by kernel_rfl))
  f151 := Tryd.func184.trans (congrArg some (by kernel_rfl))
  f152 := Tryd.func204.trans (congrArg some (by kernel_rfl))
  f160 := Tryd.func101.trans (congrArg some (by kernel_rfl))
  f197 := Tryd.func136.trans (congrArg some (by kernel_rfl))
  f217 := Tryd.func141.trans (congrArg some (by kernel_rfl))
  f224 := Tryd.func143.trans (congrArg some (by kernel_rfl))
  f225 := Tryd.func142.trans (congrArg some (by kernel_rfl))
  f227 := Tryd.func148.trans (congrArg some (by kernel_rfl))
  f228 := Tryd.func182.trans (congrArg some (by kernel_rfl))
  f231 := Tryd.func156.trans (congrArg some (by kernel_rfl))
  f232 := Tryd.func147.trans (congrArg some (by kernel_rfl))
  f233 := Tryd.func157.trans (congrArg some (by kernel_rfl))
  f234 := Tryd.func149.trans (congrArg some (by kernel_rfl))
  f235 := Tryd.func158.trans (congrArg some (by kernel_rfl))
  f236 := Tryd.func150.trans (congrArg some (by kernel_rfl))
  f260 := Tryd.func177.trans (congrArg some (by kernel_rfl))
  f266 := Tryd.func180.trans (congrArg some (by kernel_rfl))
  f271 := Tryd.func183.trans (congrArg some (by kernel_rfl))
  t0 := Tryd.underlying0
  a0 := Tryd.isAgg0
  z0 := Tryd.sizeOf0
  v0 := Tryd.zeroValue0
  t3 := Tryd.underlying3
  a3 := Tryd.isAgg3
  z3 := Tryd.sizeOf3
  v3 := Tryd.zeroValue3
  t4 := Tryd.underlying4
  a4 := Tryd.isAgg4
  z4 := Tryd.sizeOf4
  v4 := Tryd.zeroValue4
  t5 := Tryd.underlying5
  a5 := Tryd.isAgg5
  z5 := Tryd.sizeOf5
  v5 := Tryd.zeroValue5
  t9 := Tryd.underlying9
  a9 := Tryd.isAgg9
  z9 := Tryd.sizeOf9
  v9 := Tryd.zeroValue9
  t21 := Tryd.underlying21
  a21 := Tryd.isAgg21
  z21 := Tryd.sizeOf21
  v21 := Tryd.zeroValue21
  t46 := Tryd.underlying32
  a46 := Tryd.isAgg32
  z46 := Tryd.sizeOf32
  v46 := Tryd.zeroValue32
  t105 := Tryd.underlying152
  a105 := Tryd.isAgg152
  z105 := Tryd.sizeOf152
  v105 := Tryd.zeroValue152
  t116 := Tryd.underlying161
  a116 := Tryd.isAgg161
  z116 := Tryd.sizeOf161
  t117 := Tryd.underlying162
  a117 := Tryd.isAgg162
  z117 := Tryd.sizeOf162
  v117 := Tryd.zeroValue162
  t119 := Tryd.underlying217
  a119 := Tryd.isAgg217
  z119 := Tryd.sizeOf217
  t124 := Tryd.underlying165
  a124 := Tryd.isAgg165
  z124 := Tryd.sizeOf165
  v124 := Tryd.zeroValue165
  t138 := Tryd.underlying219
  a138 := Tryd.isAgg219
  z138 := Tryd.sizeOf219
  v138 := Tryd.zeroValue219
  t139 := Tryd.underlying220
  a139 := Tryd.isAgg220
  z139 := Tryd.sizeOf220
  v139 := Tryd.zeroValue220
  g3 := by kernel_rfl
  g4 := by kernel_rfl }
def ren143 : Ren := ⟨fun | 143 => 45 | 217 => 141 | 219 => 88 | 224 => 143 | 225 => 142 | 266 => 180 | 267 => 144 | 314 => 181 | n => n, fun | 3 => 3 | 4 => 4 | 5 => 5 | 9 => 9 | 46 => 32 | 51 => 58 | 146 => 191 | n => n, fun | 1 => 0 | 3 => 8 | 4 => 9 | 11 => 6 | 12 => 7 | 13 => 4 | 15 => 2 | 16 => 3 | 17 => 5 | 18 => 10 | 19 => 11 | n => n⟩
theorem l143 : Lays.n143 Tryd.prog ren143 := {
  mixed := by kernel_rfl
  f143 := Tryd.func45.trans (congrArg some (by kernel_rfl))
  f217 := Tryd.func141.trans (congrArg some (by kernel_rfl))
  f219 := Tryd.func88.trans (congrArg some (by kernel_rfl))
  f224 := Tryd.func143.trans (congrArg some (by kernel_rfl))
  f225 := Tryd.func142.trans (congrArg some (by kernel_rfl))
  f266 := Tryd.func180.trans (congrArg some (by kernel_rfl))
  f267 := Tryd.func144.trans (congrArg some (by kernel_rfl))
  f314 := Tryd.func181.trans (congrArg some (by kernel_rfl))
  t3 := Tryd.underlying3
  a3 := Tryd.isAgg3
  z3 := Tryd.sizeOf3
  v3 := Tryd.zeroValue3
  t4 := Tryd.underlying4
  a4 := Tryd.isAgg4
  z4 := Tryd.sizeOf4
  v4 := Tryd.zeroValue4
  t5 := Tryd.underlying5
  a5 := Tryd.isAgg5
  z5 := Tryd.sizeOf5
  v5 := Tryd.zeroValue5
  t9 := Tryd.underlying9
  a9 := Tryd.isAgg9
  z9 := Tryd.sizeOf9
  v9 := Tryd.zeroValue9
  t46 := Tryd.underlying32
  a46 := Tryd.isAgg32
  z46 := Tryd.sizeOf32
  v46 := Tryd.zeroValue32
  t51 := Tryd.underlying58
  a51 := Tryd.isAgg58
  z51 := Tryd.sizeOf58
  v51 := Tryd.zeroValue58
  t146 := Tryd.underlying191
  a146 := Tryd.isAgg191
  z146 := Tryd.sizeOf191
  v146 := Tryd.zeroValue191
  g1 := by kernel_rfl }
def ren171 : Ren := ⟨fun | 129 => 186 | 171 => 79 | 243 => 128 | 246 => 172 | 283 => 151 | 284 => 152 | 285 => 153 | 286 => 154 | 317 => 185 | 318 => 187 | 319 => 188 | 320 => 189 | 337 => 205 | 338 => 206 | n => n, fun | 0 => 0 | 2 => 2 | 3 => 3 | 4 => 4 | 5 => 5 | 9 => 9 | 20 => 20 | 37 => 63 | 46 => 32 | 51 => 58 | 53 => 100 | 171 => 166 | 173 => 169 | 212 => 195 | 213 => 196 | 232 => 228 | 233 => 229 | n => n, fun | 1 => 0 | 3 => 8 | 4 => 9 | 11 => 6 | 12 => 7 | 13 => 4 | 15 => 2 | 16 => 3 | 17 => 5 | 18 => 10 | 19 => 11 | n => n⟩
theorem l171 : LaysM.n171 Tryd.prog ren171 := {
  mixed := by kernel_rfl
  f129 := Tryd.func186.trans (congrArg some (by kernel_rfl))
  f171 := Tryd.func79.trans (congrArg some (by kernel_rfl))
  f243 := Tryd.func128.trans (congrArg some (by kernel_rfl))
  f246 := Tryd.func172.trans (congrArg some (by kernel_rfl))
  f283 := Tryd.func151.trans (congrArg some (by kernel_rfl))
  f284 := Tryd.func152.trans (congrArg some (by kernel_rfl))
  f285 := Tryd.func153.trans (congrArg some (by kernel_rfl))
  f286 := Tryd.func154.trans (congrArg some (by kernel_rfl))
  f317 := Tryd.func185.trans (congrArg some (by kernel_rfl))
  f318 := Tryd.func187.trans (congrArg some (by kernel_rfl))
  f319 := Tryd.func188.trans (congrArg some (by kernel_rfl))
  f320 := Tryd.func189.trans (congrArg some (by kernel_rfl))
  f337 := Tryd.func205.trans (congrArg some (by kernel_rfl))
  f338 := Tryd.func206.trans (congrArg some (by kernel_rfl))
  t0 := Tryd.underlying0
  a0 := Tryd.isAgg0
  z0 := Tryd.sizeOf0
  v0 := Tryd.zeroValue0
  t2 := Tryd.underlying2
  a2 := Tryd.isAgg2
  z2 := Tryd.sizeOf2
  v2 := Tryd.zeroValue2
  t3 := Tryd.underlying3
  a3 := Tryd.isAgg3
  z3 := Tryd.sizeOf3
  v3 := Tryd.zeroValue3
  t4 := Tryd.underlying4
  a4 := Tryd.isAgg4
  z4 := Tryd.sizeOf4
  v4 := Tryd.zeroValue4
  t5 := Tryd.underlying5
  a5 := Tryd.isAgg5
  z5 := Tryd.sizeOf5
  v5 := Tryd.zeroValue5
  t9 := Tryd.underlying9
  a9 := Tryd.isAgg9
  z9 := Tryd.sizeOf9
  v9 := Tryd.zeroValue9
  t20 := Tryd.underlying20
  a20 := Tryd.isAgg20
  z20 := Tryd.sizeOf20
  v20 := Tryd.zeroValue20
  t37 := Tryd.underlying63
  a37 := Tryd.isAgg63
  z37 := Tryd.sizeOf63
  v37 := Tryd.zeroValue63
  t46 := Tryd.underlying32
  a46 := Tryd.isAgg32
  z46 := Tryd.sizeOf32
  v46 := Tryd.zeroValue32
  t51 := Tryd.underlying58
  a51 := Tryd.isAgg58
  z51 := Tryd.sizeOf58
  v51 := Tryd.zeroValue58
  t53 := Tryd.underlying100
  a53 := Tryd.isAgg100
  z53 := Tryd.sizeOf100
  v53 := Tryd.zeroValue100
  t171 := Tryd.underlying166
  a171 := Tryd.isAgg166
  z171 := Tryd.sizeOf166
  v171 := Tryd.zeroValue166
  t173 := Tryd.underlying169
  a173 := Tryd.isAgg169
  z173 := Tryd.sizeOf169
  v173 := Tryd.zeroValue169
  t212 := Tryd.underlying195
  a212 := Tryd.isAgg195
  z212 := Tryd.sizeOf195
  v212 := Tryd.zeroValue195
  t213 := Tryd.underlying196
  a213 := Tryd.isAgg196
  z213 := Tryd.sizeOf196
  t232 := Tryd.underlying228
  a232 := Tryd.isAgg228
  z232 := Tryd.sizeOf228
  v232 := Tryd.zeroValue228
  t233 := Tryd.underlying229
  a233 := Tryd.isAgg229
  z233 := Tryd.sizeOf229
  v233 := Tryd.zeroValue229
  g17 := by kernel_rfl
  g18 := by kernel_rfl
  g19 := by kernel_rfl
  i0 := by kernel_rfl
  i2 := by kernel_rfl
  i3 := by kernel_rfl
  i4 := by kernel_rfl
  i5 := by kernel_rfl
  i9 := by kernel_rfl
  i20 := by kernel_rfl
  i37 := by kernel_rfl
  i46 := by kernel_rfl
  i51 := by kernel_rfl
  i53 := by kernel_rfl
  i171 := by kernel_rfl
  i173 := by kernel_rfl
  i212 := by kernel_rfl
  i232 := by kernel_rfl
  i233 := by kernel_rfl
  m17 := by kernel_rfl
  m18 := by kernel_rfl
  m19 := by kernel_rfl }
def ren164 : Ren := ⟨fun | 164 => 115 | 197 => 136 | 239 => 165 | 260 => 177 | 274 => 200 | 275 => 201 | n => n, fun | 0 => 0 | 3 => 3 | 4 => 4 | 5 => 5 | 9 => 9 | 21 => 21 | 46 => 32 | 49 => 206 | 51 => 58 | 105 => 152 | 119 => 217 | 138 => 219 | 139 => 220 | 156 => 207 | 157 => 208 | 159 => 210 | 160 => 211 | 162 => 190 | 206 => 224 | 208 => 226 | n => n, fun | 1 => 0 | 3 => 8 | 4 => 9 | 11 => 6 | 12 => 7 | 13 => 4 | 15 => 2 | 16 => 3 | 17 => 5 | 18 => 10 | 19 => 11 | n => n⟩
theorem l164 : Lays.n164 Tryd.prog ren164 := {
  mixed := by kernel_rfl
  f164 := Tryd.func115.trans (congrArg some (by kernel_rfl))
  f197 := Tryd.func136.trans (congrArg some (by kernel_rfl))
  f239 := Tryd.func165.trans (congrArg some (by kernel_rfl))
  f260 := Tryd.func177.trans (congrArg some (by kernel_rfl))
  f274 := Tryd.func200.trans (congrArg some (by kernel_rfl))
  f275 := Tryd.func201.trans (congrArg some (by kernel_rfl))
  t0 := Tryd.underlying0
  a0 := Tryd.isAgg0
  z0 := Tryd.sizeOf0
  v0 := Tryd.zeroValue0
  t3 := Tryd.underlying3
  a3 := Tryd.isAgg3
  z3 := Tryd.sizeOf3
  v3 := Tryd.zeroValue3
  t4 := Tryd.underlying4
  a4 := Tryd.isAgg4
  z4 := Tryd.sizeOf4
  v4 := Tryd.zeroValue4
  t5 := Tryd.underlying5
  a5 := Tryd.isAgg5
  z5 := Tryd.sizeOf5
  v5 := Tryd.zeroValue5
  t9 := Tryd.underlying9
  a9 := Tryd.isAgg9
  z9 := Tryd.sizeOf9
  v9 := Tryd.zeroValue9
  t21 := Tryd.underlying21
  a21 := Tryd.isAgg21
  z21 := Tryd.sizeOf21
  v21 := Tryd.zeroValue21
  t46 := Tryd.underlying32
  a46 := Tryd.isAgg32
  z46 := Tryd.sizeOf32
  v46 := Tryd.zeroValue32
  t49 := Tryd.underlying206
  a49 := Tryd.isAgg206
  z49 := Tryd.sizeOf206
  v49 := Tryd.zeroValue206
  t51 := Tryd.underlying58
  a51 := Tryd.isAgg58
  z51 := Tryd.sizeOf58
  v51 := Tryd.zeroValue58
  t105 := Tryd.underlying152
  a105 := Tryd.isAgg152
  z105 := Tryd.sizeOf152
  v105 := Tryd.zeroValue152
  t119 := Tryd.underlying217
  a119 := Tryd.isAgg217
  z119 := Tryd.sizeOf217
  t138 := Tryd.underlying219
  a138 := Tryd.isAgg219
  z138 := Tryd.sizeOf219
  v138 := Tryd.zeroValue219
  t139 := Tryd.underlying220
  a139 := Tryd.isAgg220
  z139 := Tryd.sizeOf220
  v139 := Tryd.zeroValue220
  t156 := Tryd.underlying207
  a156 := Tryd.isAgg207
  z156 := Tryd.sizeOf207
  t157 := Tryd.underlying208
  a157 := Tryd.isAgg208
  z157 := Tryd.sizeOf208
  v157 := Tryd.zeroValue208
  t159 := Tryd.underlying210
  a159 := Tryd.isAgg210
  z159 := Tryd.sizeOf210
  v159 := Tryd.zeroValue210
  t160 := Tryd.underlying211
  a160 := Tryd.isAgg211
  z160 := Tryd.sizeOf211
  v160 := Tryd.zeroValue211
  t162 := Tryd.underlying190
  a162 := Tryd.isAgg190
  z162 := Tryd.sizeOf190
  v162 := Tryd.zeroValue190
  t206 := Tryd.underlying224
  a206 := Tryd.isAgg224
  z206 := Tryd.sizeOf224
  v206 := Tryd.zeroValue224
  t208 := Tryd.underlying226
  a208 := Tryd.isAgg226
  z208 := Tryd.sizeOf226
  v208 := Tryd.zeroValue226
  g3 := by kernel_rfl
  g4 := by kernel_rfl
  g11 := by kernel_rfl
  g12 := by kernel_rfl
  g13 := by kernel_rfl }
def ren138 : Ren := ⟨fun | 138 => 21 | 143 => 45 | 195 => 43 | 217 => 141 | 218 => 44 | 219 => 88 | 224 => 143 | 225 => 142 | 266 => 180 | 267 => 144 | 314 => 181 | n => n, fun | 0 => 0 | 3 => 3 | 4 => 4 | 5 => 5 | 9 => 9 | 46 => 32 | 51 => 58 | 146 => 191 | n => n, fun | 1 => 0 | 3 => 8 | 4 => 9 | 11 => 6 | 12 => 7 | 13 => 4 | 15 => 2 | 16 => 3 | 17 => 5 | 18 => 10 | 19 => 11 | n => n⟩
theorem l138 : Lays.n138 Tryd.prog ren138 := {
  mixed := by kernel_rfl
  f138 := Tryd.func21.trans (congrArg some (by kernel_rfl))
  f143 := Tryd.func45.trans (congrArg some (by kernel_rfl))
  f195 := Tryd.func43.trans (congrArg some (by kernel_rfl))
  f217 := Tryd.func141.trans (congrArg some (by kernel_rfl))
  f218 := Tryd.func44.trans (congrArg some (by kernel_rfl))
  f219 := Tryd.func88.trans (congrArg some (by kernel_rfl))
  f224 := Tryd.func143.trans (congrArg some (by kernel_rfl))
  f225 := Tryd.func142.trans (congrArg some (by kernel_rfl))
  f266 := Tryd.func180.trans (congrArg some (by kernel_rfl))
  f267 := Tryd.func144.trans (congrArg some (by kernel_rfl))
  f314 := Tryd.func181.trans (congrArg some (by kernel_rfl))
  t0 := Tryd.underlying0
  a0 := Tryd.isAgg0
  z0 := Tryd.sizeOf0
  v0 := Tryd.zeroValue0
  t3 := Tryd.underlying3
  a3 := Tryd.isAgg3
  z3 := Tryd.sizeOf3
  v3 := Tryd.zeroValue3
  t4 := Tryd.underlying4
  a4 := Tryd.isAgg4
  z4 := Tryd.sizeOf4
  v4 := Tryd.zeroValue4
  t5 := Tryd.underlying5
  a5 := Tryd.isAgg5
  z5 := Tryd.sizeOf5
  v5 := Tryd.zeroValue5
  t9 := Tryd.underlying9
  a9 := Tryd.isAgg9
  z9 := Tryd.sizeOf9
  v9 := Tryd.zeroValue9
  t46 := Tryd.underlying32
  a46 := Tryd.isAgg32
  z46 := Tryd.sizeOf32
  v46 := Tryd.zeroValue32
  t51 := Tryd.underlying58
  a51 := Tryd.isAgg58
  z51 := Tryd.sizeOf58
  v51 := Tryd.zeroValue58
  t146 := Tryd.underlying191
  a146 := Tryd.isAgg191
  z146 := Tryd.sizeOf191
  v146 := Tryd.zeroValue191
  g1 := by kernel_rfl }
theorem l241 : Lays.n241 Tryd.prog blr := {
  mixed := by kernel_rfl
  f241 := Tryd.func135.trans (congrArg some (by kernel_rfl))
  f277 := Tryd.func176.trans (congrArg some (by kernel_rfl))
  t0 := Tryd.underlying0
  a0 := Tryd.isAgg0
  z0 := Tryd.sizeOf0
  v0 := Tryd.zeroValue0
  t3 := Tryd.underlying3
  a3 := Tryd.isAgg3
  z3 := Tryd.sizeOf3
  v3 := Tryd.zeroValue3
  t37 := Tryd.underlying63
  a37 := Tryd.isAgg63
  z37 := Tryd.sizeOf63
  v37 := Tryd.zeroValue63
  t70 := Tryd.underlying81
  a70 := Tryd.isAgg81
  z70 := Tryd.sizeOf81
  v70 := Tryd.zeroValue81
  t72 := Tryd.underlying83
  a72 := Tryd.isAgg83
  z72 := Tryd.sizeOf83
  v72 := Tryd.zeroValue83 }
end Go.Proofs.Sh
