/- A part of the proof of the statement that the last text of this claim proves; no condition is added. Packed by a program of the prover. -/
import Derived.Test.YtafcjklojnhbnaaGreatT2
namespace Go.Proofs.YtafcjklojnhbnaaGreat.Pv
open Go
theorem mixed : Tryz.prog.follows .mixedOrders = true := by kernel_rfl
@[simp] theorem c0 : Tryz.prog.cellsOf 0 = 1 := by kernel_rfl
@[simp] theorem b0 : Program.bytesOf' Tryz.prog 0 = some 0 := by kernel_rfl
@[simp] theorem i0 : (Tryz.prog.info? 0).isSome = true := by kernel_rfl
attribute [simp] Tryz.underlying0
@[simp] theorem c1 : Tryz.prog.cellsOf 1 = 1 := by kernel_rfl
@[simp] theorem b1 : Program.bytesOf' Tryz.prog 1 = some 8 := by kernel_rfl
@[simp] theorem z1 : Program.zeroOf Tryz.prog 1 = some .nilFunc := by kernel_rfl
@[simp] theorem i1 : (Tryz.prog.info? 1).isSome = true := by kernel_rfl
@[simp] theorem c2 : Tryz.prog.cellsOf 2 = 1 := by kernel_rfl
@[simp] theorem b2 : Program.bytesOf' Tryz.prog 2 = some 8 := by kernel_rfl
@[simp] theorem z2 : Program.zeroOf Tryz.prog 2 = some (.int .i64 0) := by kernel_rfl
@[simp] theorem i2 : (Tryz.prog.info? 2).isSome = true := by kernel_rfl
@[simp] theorem c3 : Tryz.prog.cellsOf 3 = 1 := by kernel_rfl
@[simp] theorem b3 : Program.bytesOf' Tryz.prog 3 = some 8 := by kernel_rfl
@[simp] theorem z3 : Program.zeroOf Tryz.prog 3 = some (.int .i64 0) := by kernel_rfl
@[simp] theorem i3 : (Tryz.prog.info? 3).isSome = true := by kernel_rfl
attribute [simp] Tryz.underlying3
@[simp] theorem c4 : Tryz.prog.cellsOf 4 = 1 := by kernel_rfl
@[simp] theorem b4 : Program.bytesOf' Tryz.prog 4 = some 1 := by kernel_rfl
@[simp] theorem z4 : Program.zeroOf Tryz.prog 4 = some (.bool false) := by kernel_rfl
@[simp] theorem i4 : (Tryz.prog.info? 4).isSome = true := by kernel_rfl
attribute [simp] Tryz.underlying4
@[simp] theorem c5 : Tryz.prog.cellsOf 5 = 1 := by kernel_rfl
@[simp] theorem b5 : Program.bytesOf' Tryz.prog 5 = some 1 := by kernel_rfl
@[simp] theorem z5 : Program.zeroOf Tryz.prog 5 = some (.int .u8 0) := by kernel_rfl
attribute [simp] Tryz.underlying5
@[simp] theorem c6 : Tryz.prog.cellsOf 6 = 1 := by kernel_rfl
@[simp] theorem b6 : Program.bytesOf' Tryz.prog 6 = some 1 := by kernel_rfl
@[simp] theorem z6 : Program.zeroOf Tryz.prog 6 = some (.int .u8 0) := by kernel_rfl
@[simp] theorem b7 : Program.bytesOf' Tryz.prog 7 = some 24 := by kernel_rfl
@[simp] theorem q7 : eqOkP Tryz.prog 7 = true := by kernel_rfl
@[simp] theorem z7 : Program.zeroOf Tryz.prog 7 = some (.agg #[(.int .i64 0), (.int .i64 0), (.bool false), (.int .u8 0)]) := by kernel_rfl
@[simp] theorem b8 : Program.bytesOf' Tryz.prog 8 = some 24 := by kernel_rfl
@[simp] theorem z9 : Program.zeroOf Tryz.prog 9 = some (.string ⟨#[]⟩) := by kernel_rfl
attribute [simp] Tryz.underlying9
@[simp] theorem z20 : Program.zeroOf Tryz.prog 20 = some .nilIface := by kernel_rfl
attribute [simp] Tryz.underlying20
@[simp] theorem c22 : Tryz.prog.cellsOf 22 = 1 := by kernel_rfl
@[simp] theorem z22 : Program.zeroOf Tryz.prog 22 = some (.slice none 0 0) := by kernel_rfl
@[simp] theorem i22 : (Tryz.prog.info? 22).isSome = true := by kernel_rfl
attribute [simp] Tryz.underlying22
@[simp] theorem c23 : Tryz.prog.cellsOf 23 = 1 := by kernel_rfl
@[simp] theorem i23 : (Tryz.prog.info? 23).isSome = true := by kernel_rfl
attribute [simp] Tryz.underlying23
@[simp] theorem z24 : Program.zeroOf Tryz.prog 24 = some (.agg #[(.int .i64 0), (.int .i64 0), (.int .i64 0), (.int .i64 0), (.slice none 0 0), (.slice none 0 0)]) := by kernel_rfl
@[simp] theorem c25 : Tryz.prog.cellsOf 25 = 6 := by kernel_rfl
@[simp] theorem z25 : Program.zeroOf Tryz.prog 25 = some (.agg #[(.int .i64 0), (.int .i64 0), (.int .i64 0), (.int .i64 0), (.slice none 0 0), (.slice none 0 0)]) := by kernel_rfl
@[simp] theorem i25 : (Tryz.prog.info? 25).isSome = true := by kernel_rfl
attribute [simp] Tryz.underlying25
@[simp] theorem c26 : Tryz.prog.cellsOf 26 = 1 := by kernel_rfl
@[simp] theorem b26 : Program.bytesOf' Tryz.prog 26 = some 24 := by kernel_rfl
@[simp] theorem z26 : Program.zeroOf Tryz.prog 26 = some (.slice none 0 0) := by kernel_rfl
@[simp] theorem i26 : (Tryz.prog.info? 26).isSome = true := by kernel_rfl
attribute [simp] Tryz.underlying26
@[simp] theorem c28 : Tryz.prog.cellsOf 28 = 1 := by kernel_rfl
@[simp] theorem b28 : Program.bytesOf' Tryz.prog 28 = some 8 := by kernel_rfl
@[simp] theorem z28 : Program.zeroOf Tryz.prog 28 = some (.int .i64 0) := by kernel_rfl
@[simp] theorem i28 : (Tryz.prog.info? 28).isSome = true := by kernel_rfl
attribute [simp] Tryz.underlying28
@[simp] theorem c33 : Tryz.prog.cellsOf 33 = 1 := by kernel_rfl
@[simp] theorem i33 : (Tryz.prog.info? 33).isSome = true := by kernel_rfl
attribute [simp] Tryz.underlying33
@[simp] theorem c35 : Tryz.prog.cellsOf 35 = 1 := by kernel_rfl
@[simp] theorem b35 : Program.bytesOf' Tryz.prog 35 = some 24 := by kernel_rfl
@[simp] theorem z35 : Program.zeroOf Tryz.prog 35 = some (.agg #[(.slice none 0 0)]) := by kernel_rfl
@[simp] theorem i35 : (Tryz.prog.info? 35).isSome = true := by kernel_rfl
attribute [simp] Tryz.underlying35
@[simp] theorem z39 : Program.zeroOf Tryz.prog 39 = some .nilFunc := by kernel_rfl
@[simp] theorem z40 : Program.zeroOf Tryz.prog 40 = some .nilFunc := by kernel_rfl
@[simp] theorem c43 : Tryz.prog.cellsOf 43 = 2 := by kernel_rfl
@[simp] theorem b43 : Program.bytesOf' Tryz.prog 43 = some 16 := by kernel_rfl
@[simp] theorem q43 : eqOkP Tryz.prog 43 = true := by kernel_rfl
@[simp] theorem z43 : Program.zeroOf Tryz.prog 43 = some (.agg #[(.int .i64 0), (.int .i64 0)]) := by kernel_rfl
@[simp] theorem i43 : (Tryz.prog.info? 43).isSome = true := by kernel_rfl
attribute [simp] Tryz.underlying43
@[simp] theorem z45 : Program.zeroOf Tryz.prog 45 = some .nilFunc := by kernel_rfl
@[simp] theorem z46 : Program.zeroOf Tryz.prog 46 = some (.slice none 0 0) := by kernel_rfl
attribute [simp] Tryz.underlying50
@[simp] theorem z51 : Program.zeroOf Tryz.prog 51 = some .nilFunc := by kernel_rfl
@[simp] theorem z53 : Program.zeroOf Tryz.prog 53 = some .nilFunc := by kernel_rfl
@[simp] theorem z55 : Program.zeroOf Tryz.prog 55 = some .nilFunc := by kernel_rfl
@[simp] theorem c58 : Tryz.prog.cellsOf 58 = 1 := by kernel_rfl
@[simp] theorem i58 : (Tryz.prog.info? 58).isSome = true := by kernel_rfl
attribute [simp] Tryz.underlying58
@[simp] theorem c60 : Tryz.prog.cellsOf 60 = 8 := by kernel_rfl
@[simp] theorem b60 : Program.bytesOf' Tryz.prog 60 = some 80 := by kernel_rfl
@[simp] theorem z60 : Program.zeroOf Tryz.prog 60 = some (.agg #[(.int .i64 0), (.int .i64 0), (.slice none 0 0), (.int .i64 0), (.int .i64 0), (.int .i64 0), (.int .i64 0), (.int .i64 0)]) := by kernel_rfl
attribute [simp] Tryz.underlying60
@[simp] theorem c62 : Tryz.prog.cellsOf 62 = 1 := by kernel_rfl
@[simp] theorem b62 : Program.bytesOf' Tryz.prog 62 = some 24 := by kernel_rfl
@[simp] theorem z62 : Program.zeroOf Tryz.prog 62 = some (.slice none 0 0) := by kernel_rfl
@[simp] theorem i62 : (Tryz.prog.info? 62).isSome = true := by kernel_rfl
attribute [simp] Tryz.underlying62
@[simp] theorem i64 : (Tryz.prog.info? 64).isSome = true := by kernel_rfl
@[simp] theorem c66 : Tryz.prog.cellsOf 66 = 1 := by kernel_rfl
@[simp] theorem b66 : Program.bytesOf' Tryz.prog 66 = some 24 := by kernel_rfl
@[simp] theorem z66 : Program.zeroOf Tryz.prog 66 = some (.agg #[(.slice none 0 0)]) := by kernel_rfl
@[simp] theorem i66 : (Tryz.prog.info? 66).isSome = true := by kernel_rfl
attribute [simp] Tryz.underlying66
@[simp] theorem c70 : Tryz.prog.cellsOf 70 = 1 := by kernel_rfl
@[simp] theorem b70 : Program.bytesOf' Tryz.prog 70 = some 8 := by kernel_rfl
@[simp] theorem z70 : Program.zeroOf Tryz.prog 70 = some (.int .u64 0) := by kernel_rfl
attribute [simp] Tryz.underlying70
@[simp] theorem z76 : Program.zeroOf Tryz.prog 76 = some (.slice none 0 0) := by kernel_rfl
attribute [simp] Tryz.underlying76
@[simp] theorem z77 : Program.zeroOf Tryz.prog 77 = some .nilFunc := by kernel_rfl
@[simp] theorem c82 : Tryz.prog.cellsOf 82 = 3 := by kernel_rfl
@[simp] theorem z82 : Program.zeroOf Tryz.prog 82 = some (.agg #[(.int .i64 0), (.int .i64 0), (.int .i64 0)]) := by kernel_rfl
attribute [simp] Tryz.underlying82
@[simp] theorem c85 : Tryz.prog.cellsOf 85 = 1 := by kernel_rfl
@[simp] theorem i85 : (Tryz.prog.info? 85).isSome = true := by kernel_rfl
attribute [simp] Tryz.underlying85
@[simp] theorem c87 : Tryz.prog.cellsOf 87 = 13 := by kernel_rfl
@[simp] theorem z87 : Program.zeroOf Tryz.prog 87 = some (.agg #[(.int .i64 0), (.int .i64 0), (.int .i64 0), (.int .i64 0), (.slice none 0 0), (.slice none 0 0), (.slice none 0 0), (.slice none 0 0), (.bool false), (.slice none 0 0), (.int .i64 0), (.slice none 0 0), (.slice none 0 0)]) := by kernel_rfl
attribute [simp] Tryz.underlying87
@[simp] theorem c90 : Tryz.prog.cellsOf 90 = 1 := by kernel_rfl
@[simp] theorem z90 : Program.zeroOf Tryz.prog 90 = some .nilFunc := by kernel_rfl
attribute [simp] Tryz.underlying90
attribute [simp] Tryz.underlying95
@[simp] theorem c97 : Tryz.prog.cellsOf 97 = 1 := by kernel_rfl
@[simp] theorem i97 : (Tryz.prog.info? 97).isSome = true := by kernel_rfl
attribute [simp] Tryz.underlying97
@[simp] theorem c99 : Tryz.prog.cellsOf 99 = 2 := by kernel_rfl
@[simp] theorem z99 : Program.zeroOf Tryz.prog 99 = some (.agg #[.nilFunc, (.int .i64 0)]) := by kernel_rfl
attribute [simp] Tryz.underlying99
@[simp] theorem z101 : Program.zeroOf Tryz.prog 101 = some (.agg #[(.int .i64 0), (.int .i64 0), (.int .i64 0), (.int .i64 0), (.slice none 0 0), (.slice none 0 0), (.slice none 0 0)]) := by kernel_rfl
attribute [simp] Tryz.underlying101
@[simp] theorem c105 : Tryz.prog.cellsOf 105 = 1 := by kernel_rfl
@[simp] theorem z105 : Program.zeroOf Tryz.prog 105 = some .nilFunc := by kernel_rfl
attribute [simp] Tryz.underlying105
@[simp] theorem c106 : Tryz.prog.cellsOf 106 = 1 := by kernel_rfl
@[simp] theorem z106 : Program.zeroOf Tryz.prog 106 = some (.slice none 0 0) := by kernel_rfl
attribute [simp] Tryz.underlying106
@[simp] theorem c110 : Tryz.prog.cellsOf 110 = 5 := by kernel_rfl
@[simp] theorem b110 : Program.bytesOf' Tryz.prog 110 = some 40 := by kernel_rfl
@[simp] theorem z110 : Program.zeroOf Tryz.prog 110 = some (.agg #[(.int .i64 0), (.int .i64 0), (.int .i64 0), (.int .i64 0), (.int .i64 0)]) := by kernel_rfl
@[simp] theorem i110 : (Tryz.prog.info? 110).isSome = true := by kernel_rfl
attribute [simp] Tryz.underlying110
attribute [simp] Tryz.underlying114
@[simp] theorem c117 : Tryz.prog.cellsOf 117 = 3 := by kernel_rfl
@[simp] theorem b117 : Program.bytesOf' Tryz.prog 117 = some 24 := by kernel_rfl
@[simp] theorem z117 : Program.zeroOf Tryz.prog 117 = some (.agg #[(.int .i64 0), (.int .i64 0), (.int .i64 0)]) := by kernel_rfl
attribute [simp] Tryz.underlying117
@[simp] theorem c119 : Tryz.prog.cellsOf 119 = 1 := by kernel_rfl
@[simp] theorem i119 : (Tryz.prog.info? 119).isSome = true := by kernel_rfl
attribute [simp] Tryz.underlying119
@[simp] theorem z131 : Program.zeroOf Tryz.prog 131 = some (.int .u64 0) := by kernel_rfl
attribute [simp] Tryz.underlying131
@[simp] theorem c133 : Tryz.prog.cellsOf 133 = 1 := by kernel_rfl
@[simp] theorem z133 : Program.zeroOf Tryz.prog 133 = some (.pointer none) := by kernel_rfl
attribute [simp] Tryz.underlying133
@[simp] theorem c134 : Tryz.prog.cellsOf 134 = 1 := by kernel_rfl
@[simp] theorem i134 : (Tryz.prog.info? 134).isSome = true := by kernel_rfl
attribute [simp] Tryz.underlying134
@[simp] theorem z136 : Program.zeroOf Tryz.prog 136 = some (.agg #[(.int .i64 0), (.int .i64 0), (.int .i64 0), (.int .i64 0), (.slice none 0 0), (.slice none 0 0), (.slice none 0 0), (.int .i64 0), (.map none)]) := by kernel_rfl
attribute [simp] Tryz.underlying136
attribute [simp] Tryz.underlying143
attribute [simp] Tryz.underlying151
attribute [simp] Tryz.underlying152
attribute [simp] Tryz.underlying158
@[simp] theorem c160 : Tryz.prog.cellsOf 160 = 1 := by kernel_rfl
@[simp] theorem z160 : Program.zeroOf Tryz.prog 160 = some (.pointer none) := by kernel_rfl
attribute [simp] Tryz.underlying160
@[simp] theorem c166 : Tryz.prog.cellsOf 166 = 4 := by kernel_rfl
@[simp] theorem z166 : Program.zeroOf Tryz.prog 166 = some (.agg #[(.int .i64 0), (.int .i64 0), (.int .i64 0), (.bool false)]) := by kernel_rfl
@[simp] theorem i166 : (Tryz.prog.info? 166).isSome = true := by kernel_rfl
attribute [simp] Tryz.underlying166
@[simp] theorem c168 : Tryz.prog.cellsOf 168 = 20 := by kernel_rfl
@[simp] theorem z168 : Program.zeroOf Tryz.prog 168 = some (.agg #[(.int .i64 0), (.int .i64 0), (.int .i64 0), (.bool false), (.int .i64 0), (.int .i64 0), (.int .i64 0), (.bool false), (.int .i64 0), (.int .i64 0), (.int .i64 0), (.bool false), (.int .i64 0), (.int .i64 0), (.int .i64 0), (.bool false), (.int .i64 0), (.int .i64 0), (.int .i64 0), (.bool false)]) := by kernel_rfl
attribute [simp] Tryz.underlying168
attribute [simp] Tryz.underlying177
@[simp] theorem c178 : Tryz.prog.cellsOf 178 = 1 := by kernel_rfl
@[simp] theorem b178 : Program.bytesOf' Tryz.prog 178 = some 24 := by kernel_rfl
@[simp] theorem z178 : Program.zeroOf Tryz.prog 178 = some (.slice none 0 0) := by kernel_rfl
attribute [simp] Tryz.underlying178
@[simp] theorem z182 : Program.zeroOf Tryz.prog 182 = some .nilFunc := by kernel_rfl
@[simp] theorem z183 : Program.zeroOf Tryz.prog 183 = some .nilFunc := by kernel_rfl
attribute [simp] Tryz.underlying185
attribute [simp] Tryz.underlying189
@[simp] theorem c191 : Tryz.prog.cellsOf 191 = 1 := by kernel_rfl
@[simp] theorem i191 : (Tryz.prog.info? 191).isSome = true := by kernel_rfl
attribute [simp] Tryz.underlying191
@[simp] theorem z193 : Program.zeroOf Tryz.prog 193 = some (.agg #[(.int .i64 0), (.int .i64 0), (.int .i64 0), (.int .i64 0), (.slice none 0 0), (.slice none 0 0), (.slice none 0 0), (.slice none 0 0)]) := by kernel_rfl
attribute [simp] Tryz.underlying193
@[simp] theorem c195 : Tryz.prog.cellsOf 195 = 4 := by kernel_rfl
@[simp] theorem b195 : Program.bytesOf' Tryz.prog 195 = some 80 := by kernel_rfl
@[simp] theorem z195 : Program.zeroOf Tryz.prog 195 = some (.agg #[(.slice none 0 0), (.slice none 0 0), (.slice none 0 0), (.int .i64 0)]) := by kernel_rfl
attribute [simp] Tryz.underlying195
@[simp] theorem c197 : Tryz.prog.cellsOf 197 = 1 := by kernel_rfl
@[simp] theorem i197 : (Tryz.prog.info? 197).isSome = true := by kernel_rfl
attribute [simp] Tryz.underlying197
@[simp] theorem c198 : Tryz.prog.cellsOf 198 = 1 := by kernel_rfl
@[simp] theorem i198 : (Tryz.prog.info? 198).isSome = true := by kernel_rfl
attribute [simp] Tryz.underlying198
@[simp] theorem c200 : Tryz.prog.cellsOf 200 = 2 := by kernel_rfl
@[simp] theorem z200 : Program.zeroOf Tryz.prog 200 = some (.agg #[.nilFunc, .nilFunc]) := by kernel_rfl
@[simp] theorem i200 : (Tryz.prog.info? 200).isSome = true := by kernel_rfl
attribute [simp] Tryz.underlying200
@[simp] theorem c201 : Tryz.prog.cellsOf 201 = 8 := by kernel_rfl
@[simp] theorem z201 : Program.zeroOf Tryz.prog 201 = some (.agg #[.nilFunc, .nilFunc, .nilFunc, .nilFunc, .nilFunc, .nilFunc, .nilFunc, .nilFunc]) := by kernel_rfl
attribute [simp] Tryz.underlying201
@[simp] theorem c205 : Tryz.prog.cellsOf 205 = 7 := by kernel_rfl
@[simp] theorem z205 : Program.zeroOf Tryz.prog 205 = some (.agg #[(.int .i64 0), (.int .i64 0), (.int .i64 0), (.int .i64 0), (.int .i64 0), (.int .i64 0), (.int .i64 0)]) := by kernel_rfl
attribute [simp] Tryz.underlying205
@[simp] theorem c208 : Tryz.prog.cellsOf 208 = 1 := by kernel_rfl
@[simp] theorem i208 : (Tryz.prog.info? 208).isSome = true := by kernel_rfl
attribute [simp] Tryz.underlying208
@[simp] theorem c210 : Tryz.prog.cellsOf 210 = 2 := by kernel_rfl
@[simp] theorem z210 : Program.zeroOf Tryz.prog 210 = some (.agg #[(.slice none 0 0), (.map none)]) := by kernel_rfl
@[simp] theorem i210 : (Tryz.prog.info? 210).isSome = true := by kernel_rfl
attribute [simp] Tryz.underlying210
@[simp] theorem z212 : Program.zeroOf Tryz.prog 212 = some (.agg #[(.slice none 0 0), (.map none)]) := by kernel_rfl
attribute [simp] Tryz.underlying212
attribute [simp] Tryz.underlying215
@[simp] theorem c217 : Tryz.prog.cellsOf 217 = 2 := by kernel_rfl
@[simp] theorem b217 : Program.bytesOf' Tryz.prog 217 = some 16 := by kernel_rfl
@[simp] theorem z217 : Program.zeroOf Tryz.prog 217 = some (.agg #[(.int .i64 0), (.int .i64 0)]) := by kernel_rfl
attribute [simp] Tryz.underlying217
@[simp] theorem z218 : Program.zeroOf Tryz.prog 218 = some (.pointer none) := by kernel_rfl
attribute [simp] Tryz.underlying218
attribute [simp] Tryz.underlying219
@[simp] theorem z222 : Program.zeroOf Tryz.prog 222 = some .nilFunc := by kernel_rfl
attribute [simp] Tryz.underlying224
@[simp] theorem z228 : Program.zeroOf Tryz.prog 228 = some .nilFunc := by kernel_rfl
@[simp] theorem z229 : Program.zeroOf Tryz.prog 229 = some .nilFunc := by kernel_rfl
theorem en127 : Enters Tryz.prog 127 := enters_of Tryz.func127 (by kernel_rfl) rfl
theorem en128 : Enters Tryz.prog 128 := enters_of Tryz.func128 (by kernel_rfl) rfl
theorem en145 : Enters Tryz.prog 145 := enters_of Tryz.func145 (by kernel_rfl) rfl
theorem en146 : Enters Tryz.prog 146 := enters_of Tryz.func146 (by kernel_rfl) rfl
theorem en147 : Enters Tryz.prog 147 := enters_of Tryz.func147 (by kernel_rfl) rfl
theorem en161 : Enters Tryz.prog 161 := enters_of Tryz.func161 (by kernel_rfl) rfl
theorem en162 : Enters Tryz.prog 162 := enters_of Tryz.func162 (by kernel_rfl) rfl
theorem en164 : Enters Tryz.prog 164 := enters_of Tryz.func164 (by kernel_rfl) rfl
theorem en195 : Enters Tryz.prog 195 := enters_of Tryz.func195 (by kernel_rfl) rfl
theorem en196 : Enters Tryz.prog 196 := enters_of Tryz.func196 (by kernel_rfl) rfl
theorem en197 : Enters Tryz.prog 197 := enters_of Tryz.func197 (by kernel_rfl) rfl
theorem en198 : Enters Tryz.prog 198 := enters_of Tryz.func198 (by kernel_rfl) rfl
theorem en199 : Enters Tryz.prog 199 := enters_of Tryz.func199 (by kernel_rfl) rfl
open Go
def bitN (n i : Nat) : Nat := n / 2 ^ i % 2
def bitsZ (n : Nat) : List Int := (List.range 64).map fun i => ((bitN n i : Nat) : Int)
def numB : List Int → Int
  | [] => 0
  | b :: l => 2 * numB l + b
theorem bitsZ_len (n : Nat) : (bitsZ n).length = 64 := by simp [bitsZ]
theorem bitN_le (n i : Nat) : bitN n i ≤ 1 := by unfold bitN; omega
theorem bitsZ_01 (n : Nat) : ∀ b ∈ bitsZ n, b = 0 ∨ b = 1 := by
  intro b hb
  simp only [bitsZ, List.mem_map] at hb
  obtain ⟨i, _, rfl⟩ := hb
  have := bitN_le n i
  omega
theorem numB_le (l : List Int) (h : ∀ b ∈ l, b = 0 ∨ b = 1) : 0 ≤ numB l ∧ numB l < 2 ^ l.length := by
  induction l with
  | nil => simp [numB]
  | cons b l ih =>
    obtain ⟨h1, h2⟩ := ih (fun c hc => h c (by simp [hc]))
    have := h b (by simp)
    simp only [numB, List.length_cons, Int.pow_succ]
    omega
theorem splice_int (l : List Int) (k : Nat) (v : Int) (h : k < l.length) : splice (l.flatMap Enc.enc) k [I v] = (l.set k v).flatMap Enc.enc := by
  have e : ∀ l : List Int, l.flatMap Enc.enc = l.map I := fun l => by induction l <;> simp_all
  rw [e, e, splice, List.map_set, List.set_eq_take_append_cons_drop, if_pos (by simpa using h)]
  simp
theorem zeros_int (n : Nat) : zerosP n (.int .i64 0) = (List.replicate n (0 : Int)).flatMap Enc.enc := by
  induction n with
  | zero => simp
  | succ n ih => rw [zerosP_succ', ih, List.replicate_succ]; simp [zeroCellsOf, Value.cells]
def bitsTo (n k : Nat) : List Int := (List.range 64).map fun i => if i < k then ((bitN n i : Nat) : Int) else 0
theorem bitsTo_zero (n : Nat) : bitsTo n 0 = List.replicate 64 0 := by
  apply List.ext_getElem
  · simp [bitsTo]
  · intro i h1 h2; simp only [List.getElem_replicate]; simp [bitsTo]
theorem bitsTo_all (n k : Nat) (h : 64 ≤ k) : bitsTo n k = bitsZ n := by
  apply List.ext_getElem
  · simp [bitsTo, bitsZ]
  · intro i h1 h2
    simp [bitsTo] at h1
    simp [bitsTo, bitsZ, show i < k by omega]
theorem bitsTo_succ (n k : Nat) (h : k < 64) : (bitsTo n k).set k ((bitN n k : Nat) : Int) = bitsTo n (k + 1) := by
  apply List.ext_getElem
  · simp [bitsTo]
  · intro i h1 h2
    rw [List.getElem_set]
    simp only [bitsTo, List.getElem_map, List.getElem_range]
    split
    · rename_i e; subst e; simp
    · rename_i e
      by_cases q : i < k
      · rw [if_pos q, if_pos (by omega)]
      · rw [if_neg q, if_neg (by omega)]
theorem bitsTo_len (n k : Nat) : (bitsTo n k).length = 64 := by simp [bitsTo]
set_option maxRecDepth 20000 in
theorem bits_own (n : Nat) (hn : n < 2 ^ 64) (S : Store) (nx : Nat) (hd : DeadFrom nx S) : Spec Tryz.prog 82 [U n] S (fun p S' => ∃ v, p = .sl nx v 1 0 64 ∧ S' = S.set nx (.cells v 3 ((bitsZ n).flatMap Enc.enc))) := by
  refine pwea hd Tryz.func82 Tryz.ntmps82 Tryz.results82 ?_
  repeat refine pw_seq ?_
  refine pwn ?_
  intros
  repeat refine pw_seq ?_
  refine pwn ?_
  intro v0
  repeat refine pw_seq ?_
  refine pwn ?_
  intros
  repeat refine pw_seq ?_
  refine pw_block (pw_loopL (fun s : Nat × Nat => s.1 ≤ 64) (fun (k, v) => [(0, U (n / 2 ^ k)), (3, .sl nx v 1 0 64), (4, I k)]) (fun (k, v) => [.cells v 3 ((bitsTo n k).flatMap Enc.enc)]) (fun s => 64 - s.1) (0, v0) [] (by simp) (by simp) (by simp [bitsTo_zero, zeros_int]) ?_)
  rintro ⟨k, v⟩ hk
  simp only at hk ⊢
  repeat refine pw_seq ?_
  refine pwn ?_
  intros
  repeat refine pw_seq ?_
  refine pw_cond rfl (fun hc => ?_) (fun hc => ?_)
  · simp at hc
    have hc' : k < 64 := by omega
    have hl := bitsTo_len n k
    have hm : n / 2 ^ k < 18446744073709551616 := Nat.lt_of_le_of_lt (Nat.div_le_self _ _) hn
    generalize hm' : n / 2 ^ k = m at *
    have t1 : (m : Int).tmod 2 = (m : Int) % 2 := Int.tmod_eq_emod_of_nonneg (by omega)
    have t2 : IntKind.i64.wrap ((m : Int) % 2) = (m : Int) % 2 := wr _ (by omega) (by omega)
    have t3 : IntKind.u64.wrap ((m : Int) / 2) = (m : Int) / 2 := IntWalk.u64_in _ (by omega)
    have t7 : (m : Int).tdiv 2 = (m : Int) / 2 := Int.tdiv_eq_ediv_of_nonneg (by omega)
    have t4 : m % 2 = bitN n k := by unfold bitN; rw [hm']
    have t5 : m / 2 = n / 2 ^ (k + 1) := by rw [← hm', Nat.div_div_eq_div_mul, Nat.pow_succ]
    have t6 : (m : Int) / 2 = (n : Int) / 2 ^ (k + 1) := by exact_mod_cast t5
    have t8 : (m : Int) % 2 = (bitN n k : Nat) := by exact_mod_cast t4
    have hs := splice_int (bitsTo n k) k ((m : Int) % 2) (by omega)
    refine pw_skip (pw_seq (pw_block ?_))
    repeat refine pw_seq ?_
    refine pwN [] (jn5 hc t1 t2 hs hl) ?_
    refine ⟨by omega, ?_⟩
    intros
    repeat refine pw_seq ?_
    refine pwN [] (jn2 t3 t7) ?_
    intros
    repeat refine pw_seq ?_
    refine pwn ?_
    intros
    exact again_mk (k + 1, v) [] hc' (by simp; omega) (by simp [wrN k (by omega), t6, t7, t3]) rfl (by simp [← bitsTo_succ n k hc', ← t8, t1, t2, hs])
  · simp at hc
    have hk' : k = 64 := by omega
    subst hk'
    refine pw_exit ?_
    repeat refine pw_seq ?_
    refine pwn ?_
    intros
    refine pw_ret ⟨_, _, rfl, ⟨v, rfl, rfl⟩, keep_one (j := 0) hd (by simp [bitsTo_all n 64])⟩
theorem bits_ok (n : Nat) (hn : n < 2 ^ 64) : Pure Tryz.prog 82 [U n] (L (bitsZ n)) := by
  have := own_pure 0 (fun S nx hd => bits_own n hn S nx hd) (by simp [bitsZ_len])
  rw [← bitsZ_len n] at this
  exact this
set_option maxRecDepth 20000 in
theorem number_ok (l : List Int) (hl : l.length = 64) (h01 : ∀ b ∈ l, b = 0 ∨ b = 1) : Pure Tryz.prog 83 [L l] (.sc (.int .u64 (numB l))) := by
  refine pwe Tryz.func83 Tryz.ntmps83 Tryz.results83 fun S nx hd => ?_
  repeat refine pw_seq ?_
  refine pwn ?_
  intros
  repeat refine pw_seq ?_
  refine pwn ?_
  intros
  repeat refine pw_seq ?_
  refine pwn ?_
  intros
  repeat refine pw_seq ?_
  refine pw_block (pw_loopL (fun m : Nat => m ≤ 64) (fun m => [(0, L l), (3, .sc (.int .u64 (numB (l.drop m)))), (4, I ((m : Int) - 1))]) (fun _ => []) (fun m => m) 64 [] (by simp) (by simp [List.drop_of_length_le (Nat.le_of_eq hl), numB]) (by simp) ?_)
  rintro m hm
  repeat refine pw_seq ?_
  refine pwn ?_
  intros
  repeat refine pw_seq ?_
  refine pw_cond rfl (fun hc => ?_) (fun hc => ?_)
  · simp at hc
    obtain ⟨j, rfl⟩ : ∃ j, m = j + 1 := ⟨m - 1, by omega⟩
    obtain ⟨b, tl, a1, a2, a3, e0⟩ := el1 rfl l j (by omega)
    have hb := h01 b (List.mem_of_getElem? a1)
    have q := numB_le (l.drop (j + 1)) (fun c hc => h01 c (List.mem_of_mem_drop hc))
    have q2 : (2 : Int) ^ (l.drop (j + 1)).length ≤ 9223372036854775808 := by
      have : (l.drop (j + 1)).length ≤ 63 := by simp; omega
      calc (2 : Int) ^ (l.drop (j + 1)).length ≤ 2 ^ 63 := by exact_mod_cast Nat.pow_le_pow_right (by decide) this
        _ = 9223372036854775808 := by decide
    have g1 : (j : Int) < l.length := by omega
    have u1 : IntKind.u64.wrap (2 * numB (l.drop (j + 1))) = 2 * numB (l.drop (j + 1)) := IntWalk.u64_in _ (by omega)
    have u2 : IntKind.u64.wrap b = b := IntWalk.u64_in _ (by omega)
    have u3 : IntKind.u64.wrap (2 * numB (l.drop (j + 1)) + b) = numB (l.drop j) := by rw [IntWalk.u64_in _ (by omega), a2]; rfl
    have s1 : ((j : Int) + 1 - 1) = j := by omega
    refine pw_skip (pw_seq (pw_block ?_))
    repeat refine pw_seq ?_
    refine pwN [] (jn6 e0 g1 u1 u2 u3 s1) ?_
    intros
    repeat refine pw_seq ?_
    refine pwn ?_
    intros
    have w1 : IntKind.i64.wrap ((j : Int) - 1) = (j : Int) - 1 := wr _ (by omega) (by omega)
    exact again_mk j [] (by omega) (by omega) (by simp [s1, w1]) rfl (by simp)
  · simp at hc
    have hk' : m = 0 := by omega
    subst hk'
    refine pw_exit ?_
    repeat refine pw_seq ?_
    refine pwn ?_
    intros
    repeat refine pw_seq ?_
    exact pw_ret (ret_pure hd rfl rfl)
theorem bit_at (n d : Nat) (h : d < 64) : (bitsZ n)[d]? = some ((bitN n d : Nat) : Int) := by simp [bitsZ, h]
set_option maxRecDepth 20000 in
theorem has_ok (n : Nat) (d : Int) (hn : n < 2 ^ 64) (h0 : 0 ≤ d) (h1 : d ≤ 63) : Pure Tryz.prog 50 [U n, I d] (B (decide (bitN n d.toNat = 1))) := by
  obtain ⟨k, rfl⟩ := Int.eq_ofNat_of_zero_le h0
  have hk : k < 64 := by omega
  have hl := bitsZ_len n
  obtain ⟨b, tl, a1, a2, a3, e0⟩ := el1 rfl (bitsZ n) k (by omega)
  rw [bit_at n k hk] at a1; cases a1
  have g1 : (k : Int) < 64 := by omega
  have g3 : ¬ (63 : Int) < k := by omega
  refine pwe Tryz.func50 Tryz.ntmps50 Tryz.results50 fun S nx hd => ?_
  repeat refine pw_seq ?_
  refine pwn ?_
  intros
  repeat refine pw_seq ?_
  refine pwN [(2, 8)] g3 ?_
  intros
  repeat refine pw_seq ?_
  refine pw_cf rfl ?_
  refine pw_skip ?_
  repeat refine pw_seq ?_
  refine pwn ?_
  refine pwc (bits_ok n hn) ?_
  intros
  repeat refine pw_seq ?_
  refine pwN [] (jn3 e0 g1 hl) ?_
  intros
  repeat refine pw_seq ?_
  exact pw_ret (ret_pure hd rfl (by simp; omega))
def putN (n d : Nat) : Int := numB ((bitsZ n).set d 1)
theorem mem_set {l : List Int} {d : Nat} {v b : Int} (h : b ∈ l.set d v) : b ∈ l ∨ b = v := by
  rcases List.mem_or_eq_of_mem_set h with h | h
  · exact .inl h
  · exact .inr h
set_option maxRecDepth 20000 in
theorem put_ok (n : Nat) (d : Int) (hn : n < 2 ^ 64) (h0 : 0 ≤ d) (h1 : d ≤ 63) : Pure Tryz.prog 51 [U n, I d, I 1] (.sc (.int .u64 (putN n d.toNat))) := by
  obtain ⟨k, rfl⟩ := Int.eq_ofNat_of_zero_le h0
  have hk : k < 64 := by omega
  have hl := bitsZ_len n
  have g1 : (k : Int) < 64 := by omega
  have g3 : ¬ (63 : Int) < k := by omega
  have hs := splice_int (bitsZ n) k 1 (by omega)
  refine pwe Tryz.func51 Tryz.ntmps51 Tryz.results51 fun S nx hd => ?_
  repeat refine pw_seq ?_
  refine pwn ?_
  intros
  repeat refine pw_seq ?_
  refine pwN [(2, 10)] g3 ?_
  intros
  repeat refine pw_seq ?_
  refine pw_cf rfl ?_
  refine pw_skip ?_
  repeat refine pw_seq ?_
  refine pw_N [] (by rfl) (by rfl) fun K Gc Gh hK hGc hGh X hX0 hX => ?_
  simp -implicitDefEqProofs [hX0, hX]
  try clear hX0 hX X
  refine hGc _ _ _ _ _ _ _ fun hsuf => ((bits_own n hn _ _ ext_dead).mono ?_).v
  rintro _ _ ⟨v, rfl, rfl⟩
  refine ⟨_, _, ext_push _, ?_⟩
  clear hGc hGh
  clear Gc Gh
  refine xs_go hsuf (D := []) (by rfl) fun Gc Gh hGc hGh X hX0 hX => ?_
  simp -implicitDefEqProofs [hX0, hX]
  clear hX0 hX X
  intros
  refine hK _ _ _ ?_
  clear hK hGc hGh
  clear K Gc Gh
  repeat refine pw_seq ?_
  refine pwN [] (jn3 g1 hs hl) ?_
  refine ⟨by omega, ?_⟩
  intros
  refine pw_frz 0 rfl ?_
  have hl2 : ((bitsZ n).set k 1).length = 64 := by simp [hl]
  have this0 := number_ok ((bitsZ n).set k 1) hl2 (fun b hb => by
    rcases mem_set hb with h | h
    · exact bitsZ_01 n b h
    · exact .inr h)
  have this : Pure Tryz.prog 83 [.lst 64 (((bitsZ n).set k 1).flatMap Enc.enc)] (.sc (.int .u64 (numB ((bitsZ n).set k 1)))) := by rw [show (64 : Nat) = ((bitsZ n).set k 1).length from hl2.symm]; exact this0
  repeat refine pw_seq ?_
  refine pwN [] hl ?_
  refine pwc this ?_
  intros
  repeat refine pw_seq ?_
  exact pw_ret (ret_pure hd rfl rfl)
open Go
def rnd (n lo hi : Int) : Int := lo + (if n < 0 then -(n + 1) else n) % (hi - lo + 1)
theorem rnd_le (n lo hi : Int) (h : lo ≤ hi) : lo ≤ rnd n lo hi ∧ rnd n lo hi ≤ hi := by
  unfold rnd
  have a1 := Int.emod_nonneg (if n < 0 then -(n + 1) else n) (show hi - lo + 1 ≠ 0 by omega)
  have a2 := Int.emod_lt_of_pos (if n < 0 then -(n + 1) else n) (show 0 < hi - lo + 1 by omega)
  omega
set_option maxRecDepth 20000 in
theorem round_ok (n lo hi : Int) (hn : I64 n) (h0 : 0 ≤ lo) (h1 : lo ≤ hi) (h2 : hi ≤ 4294967296) : Pure Tryz.prog 28 [I n, I lo, I hi] (I (rnd n lo hi)) := by
  have hr := rnd_le n lo hi h1
  have w1 : IntKind.i64.wrap (hi - lo) = hi - lo := wr _ (by omega) (by omega)
  have w2 : IntKind.i64.wrap (hi - lo + 1) = hi - lo + 1 := wr _ (by omega) (by omega)
  have w0 : ¬ hi - lo + 1 = 0 := by omega
  have w3 : IntKind.i64.wrap (rnd n lo hi) = rnd n lo hi := wr _ (by omega) (by omega)
  unfold I64 at hn
  refine pwe Tryz.func28 Tryz.ntmps28 Tryz.results28 fun S nx hd => ?_
  repeat refine pw_seq ?_
  refine pwn ?_
  intros
  repeat refine pw_seq ?_
  refine pwn ?_
  intros
  by_cases h : n < 0
  · have w4 : IntKind.i64.wrap (n + 1) = n + 1 := wr _ (by omega) (by omega)
    have w5 : IntKind.i64.wrap (-(n + 1)) = -(n + 1) := wr _ (by omega) (by omega)
    have w6 : (-(n + 1)).tmod (hi - lo + 1) = (-(n + 1)) % (hi - lo + 1) := Int.tmod_eq_emod_of_nonneg (by omega)
    have w7 : lo + (-(n + 1)) % (hi - lo + 1) = rnd n lo hi := by unfold rnd; rw [if_pos h]
    refine pw_ct (by simp [h]) ?_
    have e : -(n + 1) = -1 + -n := by omega
    repeat refine pw_seq ?_
    refine pwN [] (jn2 w4 w5) ?_
    intros
    repeat refine pw_seq ?_
    refine pwN [] (jn6 w1 w2 w0 w6 w7 w3) ?_
    intros
    repeat refine pw_seq ?_
    exact pw_ret (ret_pure hd rfl rfl)
  · have w6 : n.tmod (hi - lo + 1) = n % (hi - lo + 1) := Int.tmod_eq_emod_of_nonneg (by omega)
    have w7 : lo + n % (hi - lo + 1) = rnd n lo hi := by unfold rnd; rw [if_neg h]
    refine pw_cf (by simp [h]) ?_
    refine pw_skip ?_
    repeat refine pw_seq ?_
    refine pwN [] (jn6 w1 w2 w0 w6 w7 w3) ?_
    intros
    repeat refine pw_seq ?_
    exact pw_ret (ret_pure hd rfl rfl)
open Go
def putB (n d : Nat) : Nat := (putN n d).toNat
theorem putN_ok (n d : Nat) : putN n d = ((putB n d : Nat) : Int) ∧ putB n d < 2 ^ 64 := by
  have h := numB_le ((bitsZ n).set d 1) (fun b hb => by
    rcases mem_set hb with h | h
    · exact bitsZ_01 n b h
    · exact .inr h)
  rw [List.length_set, bitsZ_len] at h
  unfold putB putN
  omega
def patTo (p : Nat) : Nat → Nat
  | 0 => 0
  | k + 1 => if bitN p k = 1 then putB (patTo p k) k else patTo p k
theorem patTo_lt (p : Nat) : ∀ k, patTo p k < 2 ^ 64
  | 0 => by simp [patTo]
  | k + 1 => by
    unfold patTo
    split
    · exact (putN_ok _ _).2
    · exact patTo_lt p k
def patsG (pats : List Nat) (days : Int) : List Nat :=
  if pats = [] then [1] else (pats.take 4).map fun p => patTo p days.toNat
def goodC (c : Cust) (days : Int) : Cust :=
  if c.kind.tmod 2 = 0 then ⟨2, 0, [], rnd c.rate 0 9, rnd c.size 1 30, rnd c.start 0 (rnd c.size 1 30), rnd c.rule 1 2, rnd c.hold 0 4⟩
  else ⟨1, rnd c.demand 1 15, patsG c.pats days, 0, 0, 0, 0, 0⟩
structure CustOk (c : Cust) : Prop where
  kind : I64 c.kind
  demand : I64 c.demand
  pats : ∀ p ∈ c.pats, p < 2 ^ 64
  npats : c.pats.length ≤ 9223372036854775807
  rate : I64 c.rate
  size : I64 c.size
  start : I64 c.start
  rule : I64 c.rule
  hold : I64 c.hold
theorem drop_take_map {α β : Type} (f : α → β) {l : List α} {k : Nat} {a : α} (ht : l.take (k + 1) = l.take k ++ [a]) : (l.take (k + 1)).map f = (l.take k).map f ++ [f a] := by rw [ht]; simp
set_option maxRecDepth 10000 in
theorem good_ok (c : Cust) (days : Int) (hc : CustOk c) (h0 : 0 ≤ days) (h1 : days ≤ 63) : Pure Tryz.prog 29 [.agg (custL c), I days] (.agg (custL (goodC c days))) := by
  obtain ⟨n, rfl⟩ := Int.eq_ofNat_of_zero_le h0
  have hs := rnd_le c.size 1 30 (by omega)
  refine pwe Tryz.func29 Tryz.ntmps29 Tryz.results29 fun S nx hd => ?_
  repeat refine pw_seq ?_
  refine pwn ?_
  intro v0 v1
  repeat refine pw_seq ?_
  refine pwn ?_
  intros
  by_cases hk : c.kind.tmod 2 = 0
  · refine pw_ct (by simp [hk]) ?_
    repeat refine pw_seq ?_
    refine pwY (some [nx]) (Row.pures [0, 1, 2, 3, 4, 5, 6, 7, 8, 9, 10, 11, 12] (.alt 13 (.alt 14 (.done) .stop) .stop)) mixed trivial ?_
    refine pwP (round_ok _ _ _ hc.rate (by omega) (by omega) (by omega)) trivial ?_
    refine pwP (round_ok _ _ _ hc.size (by omega) (by omega) (by omega)) trivial ?_
    refine pwP (round_ok _ _ _ hc.rule (by omega) (by omega) (by omega)) trivial ?_
    refine pwP (round_ok _ _ _ hc.hold (by omega) (by omega) (by omega)) trivial ?_
    intro v2
    intros
    repeat refine pw_seq ?_
    refine pwn ?_
    refine pwc (round_ok _ _ _ hc.start (by omega) (by omega) (by omega)) ?_
    intros
    repeat refine pw_seq ?_
    refine pwn ?_
    intros
    refine pw_nilC 1 2 rfl rfl ?_
    repeat refine pw_seq ?_
    exact pw_ret (ret_pure hd (by simp; rfl) (by simp [goodC, hk]))
  · refine pw_cf (by simp [hk]) ?_
    refine pw_skip ?_
    repeat refine pw_seq ?_
    refine pwn ?_
    refine pwc (round_ok _ _ _ hc.demand (by omega) (by omega) (by omega)) ?_
    intro v2
    intros
    refine pw_seq (pw_nilObX 2 2 70 1 rfl rfl fun v3 => ?_)
    repeat refine pw_seq ?_
    refine pwn ?_
    intros
    have hnp := hc.npats
    refine pw_joinK (nx := nx) (σ := Nat × Nat × Nat × Nat) (fun _ => True) (fun (v, v1, v2, v3) => [(4, .ptr (nx + 1) v1 0), (6, .ptr (nx + 2) v2 0)]) (fun _ => S)
      (fun (v, v1, v2, v3) => [.cells v 60 (custL c), .cells v1 60 [I 0, I 0, .sc (.slice none 0 0), I 0, I 0, I 0, I 0, I 0], .cells v2 60 [I 1, I (rnd c.demand 1 15), .sl (nx + 3) v3 1 0 (c.pats.take 4).length, I 0, I 0, I 0, I 0, I 0], .cells v3 70 (((c.pats.take 4).map fun p => patTo p n).flatMap Enc.enc)]) ?_ ?_
    · repeat refine pw_seq ?_
      refine pw_block (pw_loopL (fun s : Nat × List Nat × Nat × Nat × Nat × Nat => s.1 ≤ c.pats.length ∧ s.1 ≤ 4 ∧ s.2.1 = (c.pats.take s.1).map fun p => patTo p n) (fun (k, out, v, v1, v2, v3) => [(1, I n), (2, .ptr nx v 0), (4, .ptr (nx + 1) v1 0), (6, .ptr (nx + 2) v2 0), (7, I k)])
        (fun (k, out, v, v1, v2, v3) => [.cells v 60 (custL c), .cells v1 60 [I 0, I 0, .sc (.slice none 0 0), I 0, I 0, I 0, I 0, I 0], .cells v2 60 [I 1, I (rnd c.demand 1 15), .sl (nx + 3) v3 1 0 out.length, I 0, I 0, I 0, I 0, I 0], .cells v3 70 (out.flatMap Enc.enc)])
        (fun s => 4 - s.1) (0, [], v0, v1, v2, v3) [] (by simp) (by simp) (by simp) ?_)
      rintro ⟨k, out, v0, v1, v2, v3⟩ ⟨hk1, hk4, ho⟩
      simp only at hk1 hk4 ho ⊢
      have hol : out.length = k := by rw [ho]; simp; omega
      have fin : (k = c.pats.length ∨ k = 4) → out = (c.pats.take 4).map fun p => patTo p n := by
        rintro (q | q)
        · rw [ho, List.take_of_length_le (by omega), List.take_of_length_le (by omega)]
        · rw [ho, q]
      have fin2 : (k = c.pats.length ∨ k = 4) → out.length = (c.pats.take 4).length := fun q => by rw [fin q]; simp
      by_cases hq1 : k < c.pats.length
      · by_cases hq2 : (k : Int) < 4
        · repeat refine pw_seq ?_
          refine pwN [(5, 43)] (jn2 hq1 hq2) ?_
          intros
          repeat refine pw_seq ?_
          refine pw_ct rfl ?_
          obtain ⟨p, tl, a1, a2, a3, e0⟩ := el1 rfl c.pats k hq1
          have hp := hc.pats p (List.mem_of_getElem? a1)
          refine pw_skip (pw_seq (pw_block ?_))
          repeat refine pw_seq ?_
          refine pwn ?_
          intros
          repeat refine pw_seq ?_
          refine pwn ?_
          intros
          repeat refine pw_seq ?_
          refine pw_block (pw_loopL (fun s : Nat × Nat × Nat × Nat × Nat => s.1 ≤ n) (fun (d, v, v1, v2, v3) => [(1, I n), (2, .ptr nx v 0), (4, .ptr (nx + 1) v1 0), (6, .ptr (nx + 2) v2 0), (7, I k), (8, U (patTo p d)), (9, I d)])
            (fun (d, v, v1, v2, v3) => [.cells v 60 (custL c), .cells v1 60 [I 0, I 0, .sc (.slice none 0 0), I 0, I 0, I 0, I 0, I 0], .cells v2 60 [I 1, I (rnd c.demand 1 15), .sl (nx + 3) v3 1 0 out.length, I 0, I 0, I 0, I 0, I 0], .cells v3 70 (out.flatMap Enc.enc)])
            (fun s => n - s.1) (0, v0, v1, v2, v3) [] (by simp) (by simp [patTo]) (by simp) ?_)
          rintro ⟨d, v0, v1, v2, v3⟩ hdn
          simp only at hdn ⊢
          repeat refine pw_seq ?_
          refine pwn ?_
          intros
          repeat refine pw_seq ?_
          refine pw_cond rfl (fun hd1 => ?_) (fun hd1 => ?_)
          · simp at hd1
            refine pw_skip (pw_seq (pw_block ?_))
            repeat refine pw_seq ?_
            refine pwN [] (jn2 hq1 e0) ?_
            refine pwc (has_ok p d hp (by omega) (by omega)) ?_
            intros
            repeat refine pw_seq ?_
            refine pw_cond rfl (fun hb => ?_) (fun hb => ?_)
            · simp at hb
              repeat refine pw_seq ?_
              refine pwn ?_
              refine pwc (put_ok _ d (patTo_lt p d) (by omega) (by omega)) ?_
              intros
              repeat refine pw_seq ?_
              refine pwn ?_
              intros
              exact again_mk (d + 1, v0, v1, v2, v3) [] (by simp; omega) (by simp; omega) (by simp [wrN d (by omega), patTo, hb, (putN_ok _ _).1]) rfl (by simp)
            · simp at hb
              refine pw_skip ?_
              repeat refine pw_seq ?_
              refine pwn ?_
              intros
              exact again_mk (d + 1, v0, v1, v2, v3) [] (by simp; omega) (by simp; omega) (by simp [wrN d (by omega), patTo, hb]) rfl (by simp)
          · simp at hd1
            have hd' : d = n := by omega
            subst hd'
            refine pw_exit ?_
            repeat refine pw_seq ?_
            refine pwn ?_
            refine ⟨by omega, ?_⟩
            intros
            repeat refine pw_seq ?_
            refine pwn ?_
            intros
            exact again_mk (k + 1, out ++ [patTo p d], v0, v1, v2, v3 + 1) [] (by simp [drop_take_map _ a3, ho]; omega) (by simp; omega) (by simp [wrN k (by omega)]) rfl (by simp)
        · repeat refine pw_seq ?_
          refine pwN [(5, 43)] (jn2 hq1 hq2) ?_
          intros
          repeat refine pw_seq ?_
          refine pw_cf rfl ?_
          have hk := fin (.inr (by omega))
          have hk2 := fin2 (.inr (by omega))
          exact pw_exit (at_mk (v0, v1, v2, v3) [] trivial (by simp) rfl (by simp only [hk2]; rw [← hk]; simp))
      · repeat refine pw_seq ?_
        refine pwN [(5, 43)] (jn2 hq1 undef_eq) ?_
        intros
        repeat refine pw_seq ?_
        refine pw_cf rfl ?_
        have hk := fin (.inl (by omega))
        have hk2 := fin2 (.inl (by omega))
        exact pw_exit (at_mk (v0, v1, v2, v3) [] trivial (by simp) rfl (by simp only [hk2]; rw [← hk]; simp))
    · rintro ⟨v0, v1, v2, v3⟩ -
      simp only
      by_cases he : c.pats = []
      · have hg : goodC c n = ⟨1, rnd c.demand 1 15, [1], 0, 0, 0, 0, 0⟩ := by simp [goodC, hk, patsG, he]
        rw [hg, he]
        repeat refine pw_seq ?_
        refine pwn ?_
        intros
        repeat refine pw_seq ?_
        refine pw_ct rfl ?_
        repeat refine pw_seq ?_
        refine pwn ?_
        intros
        repeat refine pw_seq ?_
        refine pwn ?_
        intros
        refine pw_frz 3 rfl ?_
        repeat refine pw_seq ?_
        exact pw_ret (ret_pure hd (by simp; rfl) rfl)
      · have hg : goodC c n = ⟨1, rnd c.demand 1 15, (c.pats.take 4).map fun p => patTo p n, 0, 0, 0, 0, 0⟩ := by simp [goodC, hk, patsG, he]
        have hlen : ((c.pats.take 4).map fun p => patTo p n).length = (c.pats.take 4).length := by simp
        have hne : ¬ (c.pats.take 4).length = 0 := by simp [he]
        rw [hg, ← hlen]
        rw [← hlen] at hne
        generalize (c.pats.take 4).map (fun p => patTo p n) = out at *
        have hne' : out ≠ [] := by simpa using hne
        repeat refine pw_seq ?_
        refine pwN [] (jn2 hne hne') ?_
        intros
        repeat refine pw_seq ?_
        refine pw_cf rfl ?_
        refine pw_skip ?_
        repeat refine pw_seq ?_
        refine pwn ?_
        intros
        refine pw_frz 3 rfl ?_
        repeat refine pw_seq ?_
        exact pw_ret (ret_pure hd (by simp; rfl) rfl)
open Go
def arc (x : Inst) (a b : Int) : Int := if a < 0 ∨ b < 0 then 0 else ((x.dist.getD a.toNat []).getD b.toNat 0)
theorem arc_neg (x : Inst) (a b : Int) (h : a < 0 ∨ b < 0) : arc x a b = 0 := if_pos h
theorem arc_out (x : Inst) (a b : Int) (h : (x.dist.length : Int) ≤ a) : arc x a b = 0 := by
  unfold arc; split
  · rfl
  · have : x.dist.getD a.toNat [] = [] := by rw [List.getD_eq_getElem?_getD, List.getElem?_eq_none (by omega)]; rfl
    rw [this]; rfl
theorem arc_row {x : Inst} {a : Int} {row : List Int} (hr : x.dist[a.toNat]? = some row) : x.dist.getD a.toNat [] = row := by rw [List.getD_eq_getElem?_getD, hr]; rfl
theorem arc_out2 (x : Inst) (a b : Int) {row : List Int} (hr : x.dist[a.toNat]? = some row) (h : (row.length : Int) ≤ b) : arc x a b = 0 := by
  unfold arc; split
  · rfl
  · rw [arc_row hr, List.getD_eq_getElem?_getD, List.getElem?_eq_none (by omega)]; rfl
theorem arc_in (x : Inst) (a b : Int) {row : List Int} {d : Int} (ha : 0 ≤ a) (hb : 0 ≤ b) (hr : x.dist[a.toNat]? = some row) (h : row[b.toNat]? = some d) : arc x a b = d := by
  unfold arc
  rw [if_neg (by omega), arc_row hr, List.getD_eq_getElem?_getD, h]; rfl
set_option maxRecDepth 10000 in
theorem arcR_ok (x : Inst) (a b : Int) : Pure Tryz.prog 30 [.agg (instL x), I a, I b] (I (arc x a b)) := by
  refine pwe Tryz.func30 Tryz.ntmps30 Tryz.results30 fun S nx hd => ?_
  repeat refine pw_seq ?_
  refine pwn ?_
  intros
  by_cases ha : a < 0
  · repeat refine pw_seq ?_
    refine pwN [(2, 10), (6, 14)] (jn2 ha undef_eq) ?_
    intros
    repeat refine pw_seq ?_
    refine pw_ct rfl ?_
    repeat refine pw_seq ?_
    refine pwn ?_
    intros
    repeat refine pw_seq ?_
    exact pw_ret (ret_pure hd rfl (by rw [arc_neg _ _ _ (.inl ha)]; rfl))
  by_cases hb : b < 0
  · repeat refine pw_seq ?_
    refine pwN [(2, 10), (6, 14)] (jn3 ha hb undef_eq) ?_
    intros
    repeat refine pw_seq ?_
    refine pw_ct rfl ?_
    repeat refine pw_seq ?_
    refine pwn ?_
    intros
    repeat refine pw_seq ?_
    exact pw_ret (ret_pure hd rfl (by rw [arc_neg _ _ _ (.inr hb)]; rfl))
  by_cases hl : (x.dist.length : Int) ≤ a
  · repeat refine pw_seq ?_
    refine pwN [(2, 10), (6, 14)] (jn3 ha hb hl) ?_
    intros
    repeat refine pw_seq ?_
    refine pw_ct rfl ?_
    repeat refine pw_seq ?_
    refine pwn ?_
    intros
    repeat refine pw_seq ?_
    exact pw_ret (ret_pure hd rfl (by rw [arc_out _ _ _ hl]; rfl))
  have hl' : a < x.dist.length := by omega
  have ha' : 0 ≤ a := by omega
  obtain ⟨row, tl, a1, _, _, e0⟩ := el1 rfl x.dist a.toNat (by omega)
  repeat refine pw_seq ?_
  refine pwN [(2, 10), (6, 14)] (jn3 ha hb hl) ?_
  intros
  repeat refine pw_seq ?_
  refine pw_cf rfl ?_
  refine pw_skip ?_
  repeat refine pw_seq ?_
  refine pwN [(2, 10), (6, 14)] (jn3 ha' hl' e0) ?_
  intros
  by_cases hw : (row.length : Int) ≤ b
  · repeat refine pw_seq ?_
    refine pwN [] hw ?_
    intros
    repeat refine pw_seq ?_
    refine pw_ct rfl ?_
    repeat refine pw_seq ?_
    refine pwn ?_
    intros
    repeat refine pw_seq ?_
    exact pw_ret (ret_pure hd rfl (by rw [arc_out2 _ _ _ a1 hw]; rfl))
  have hw' : b < row.length := by omega
  have hb' : 0 ≤ b := by omega
  obtain ⟨d, tl2, b1, _, _, e1⟩ := el1 rfl row b.toNat (by omega)
  repeat refine pw_seq ?_
  refine pwN [] hw ?_
  intros
  repeat refine pw_seq ?_
  refine pw_cf rfl ?_
  refine pw_skip ?_
  repeat refine pw_seq ?_
  refine pwN [] (jn3 hb' hw' e1) ?_
  intros
  repeat refine pw_seq ?_
  exact pw_ret (ret_pure hd rfl (by rw [arc_in x a b ha' hb' a1 b1]; rfl))
set_option maxRecDepth 10000 in
theorem arcP_ok (x : Inst) (a b : Int) : Pure Tryz.prog 106 [.agg (instL x), I a, I b] (I (arc x a b)) := by
  refine pwe Tryz.func106 Tryz.ntmps106 Tryz.results106 fun S nx hd => ?_
  repeat refine pw_seq ?_
  refine pwn ?_
  intros
  by_cases ha : a < 0
  · repeat refine pw_seq ?_
    refine pwN [(2, 9), (9, 16), (13, 20)] (jn2 ha undef_eq) ?_
    intros
    repeat refine pw_seq ?_
    refine pw_ct rfl ?_
    repeat refine pw_seq ?_
    refine pwn ?_
    intros
    repeat refine pw_seq ?_
    exact pw_ret (ret_pure hd rfl (by rw [arc_neg _ _ _ (.inl ha)]; rfl))
  by_cases hl : (x.dist.length : Int) ≤ a
  · repeat refine pw_seq ?_
    refine pwN [(2, 9), (9, 16), (13, 20)] (jn3 ha hl undef_eq) ?_
    intros
    repeat refine pw_seq ?_
    refine pw_ct rfl ?_
    repeat refine pw_seq ?_
    refine pwn ?_
    intros
    repeat refine pw_seq ?_
    exact pw_ret (ret_pure hd rfl (by rw [arc_out _ _ _ hl]; rfl))
  by_cases hb : b < 0
  · repeat refine pw_seq ?_
    refine pwN [(2, 9), (9, 16), (13, 20)] (jn4 ha hb hl undef_eq) ?_
    intros
    repeat refine pw_seq ?_
    refine pw_ct rfl ?_
    repeat refine pw_seq ?_
    refine pwn ?_
    intros
    repeat refine pw_seq ?_
    exact pw_ret (ret_pure hd rfl (by rw [arc_neg _ _ _ (.inr hb)]; rfl))
  have hl' : a < x.dist.length := by omega
  have ha' : 0 ≤ a := by omega
  obtain ⟨row, tl, a1, _, _, e0⟩ := el1 rfl x.dist a.toNat (by omega)
  by_cases hw : (row.length : Int) ≤ b
  · repeat refine pw_seq ?_
    refine pwN [(2, 9), (9, 16), (13, 20)] (jn6 ha hb hl ha' hl' (jn2 e0 hw)) ?_
    intros
    repeat refine pw_seq ?_
    refine pw_ct rfl ?_
    repeat refine pw_seq ?_
    refine pwn ?_
    intros
    repeat refine pw_seq ?_
    exact pw_ret (ret_pure hd rfl (by rw [arc_out2 _ _ _ a1 hw]; rfl))
  have hw' : b < row.length := by omega
  have hb' : 0 ≤ b := by omega
  obtain ⟨d, tl2, b1, _, _, e1⟩ := el1 rfl row b.toNat (by omega)
  repeat refine pw_seq ?_
  refine pwN [(2, 9), (9, 16), (13, 20)] (jn6 ha hb hl ha' hl' (jn2 e0 hw)) ?_
  intros
  repeat refine pw_seq ?_
  refine pw_cf rfl ?_
  refine pw_skip ?_
  repeat refine pw_seq ?_
  refine pwN [(2, 9), (9, 16), (13, 20)] (jn6 ha' hl' e0 hb' hw' e1) ?_
  intros
  repeat refine pw_seq ?_
  exact pw_ret (ret_pure hd rfl (by rw [arc_in x a b ha' hb' a1 b1]; rfl))
open Go
def wayS (x : Inst) : Int → List Int → Int
  | a, [] => arc x a 0
  | a, c :: l => arc x a (c + 1) + wayS x (c + 1) l
def wayZ (x : Inst) (l : List Int) : Int := if l = [] then 0 else wayS x 0 l
def small (c : Int) : Prop := -4611686018427387904 ≤ c ∧ c ≤ 4611686018427387904
theorem small_wr {c : Int} (h : small c) : IntKind.i64.wrap (c + 1) = c + 1 := wr _ (by unfold small at h; omega) (by unfold small at h; omega)
set_option maxRecDepth 10000 in
theorem wayP_ok (x : Inst) (l : List Int) (hl : l.length ≤ 1048576) (hs : ∀ c ∈ l, small c) : Pure Tryz.prog 96 [.agg (instL x), L l] (I (W (wayZ x l))) := by
  refine pwe Tryz.func96 Tryz.ntmps96 Tryz.results96 fun S nx hd => ?_
  repeat refine pw_seq ?_
  refine pwn ?_
  intro v0
  repeat refine pw_seq ?_
  refine pwn ?_
  intros
  repeat refine pw_seq ?_
  refine pw_cond rfl (fun hc => ?_) (fun hc => ?_)
  · simp at hc
    subst hc
    repeat refine pw_seq ?_
    refine pwn ?_
    intros
    repeat refine pw_seq ?_
    exact pw_ret (ret_pure hd rfl rfl)
  refine pw_skip ?_
  simp at hc
  repeat refine pw_seq ?_
  refine pwn ?_
  intros
  repeat refine pw_seq ?_
  refine pwn ?_
  intros
  repeat refine pw_seq ?_
  refine pw_block (pw_loopL (fun s : Nat × Int × Int × Nat => s.1 ≤ l.length ∧ s.2.1 + wayS x s.2.2.1 (l.drop s.1) = wayS x 0 l) (fun (k, s, at', v) => [(2, .ptr nx v 0), (5, I (W s)), (6, I at'), (12, L l), (13, I l.length), (14, I k)])
    (fun (k, s, at', v) => [.cells v 25 (instL x)]) (fun s => l.length - s.1) (0, 0, 0, v0) [] (by simp) (by simp) (by simp) ?_)
  rintro ⟨k, s, at', v⟩ ⟨hk, ho⟩
  simp only at hk ho ⊢
  repeat refine pw_seq ?_
  refine pwn ?_
  intros
  repeat refine pw_seq ?_
  refine pw_cond rfl (fun hq => ?_) (fun hq => ?_)
  · simp at hq
    obtain ⟨c, tl, a1, a2, a3, e0⟩ := el1 rfl l k hq
    have hw := small_wr (hs c (List.mem_of_getElem? a1))
    rw [a2] at ho
    refine pw_skip (pw_seq (pw_block ?_))
    repeat refine pw_seq ?_
    refine pwN [] (jn2 hq e0) ?_
    intros
    repeat refine pw_seq ?_
    refine pwN [] hw ?_
    refine pwC [] (arcP_ok _ _ _) hw ?_
    intros
    repeat refine pw_seq ?_
    refine pwN [] hw ?_
    intros
    repeat refine pw_seq ?_
    refine pwn ?_
    intros
    exact again_mk (k + 1, s + arc x at' (c + 1), c + 1, v) [] (by simp only [wayS] at ho; exact ⟨by omega, by rw [← ho]; simp; omega⟩) (by simp; omega) (by simp [wrN k (by omega), W_add, hw]) rfl (by simp)
  · simp at hq
    refine pw_exit ?_
    repeat refine pw_seq ?_
    refine pwn ?_
    refine pwc (arcP_ok _ _ _) ?_
    intros
    rw [List.drop_of_length_le hq] at ho
    repeat refine pw_seq ?_
    exact pw_ret (ret_pure hd rfl (by simp only [wayZ, if_neg hc, ← ho, wayS, oneOf]; simp [W_add]))
set_option maxRecDepth 10000 in
theorem wayR_ok (x : Inst) (l : List Int) (hl : l.length ≤ 1048576) (hs : ∀ c ∈ l, small c) : Pure Tryz.prog 44 [.agg (instL x), L l] (I (W (wayZ x l))) := by
  refine pwe Tryz.func44 Tryz.ntmps44 Tryz.results44 fun S nx hd => ?_
  repeat refine pw_seq ?_
  refine pwn ?_
  intro v0
  repeat refine pw_seq ?_
  refine pwn ?_
  intros
  repeat refine pw_seq ?_
  refine pw_cond rfl (fun hc => ?_) (fun hc => ?_)
  · simp at hc
    subst hc
    repeat refine pw_seq ?_
    refine pwn ?_
    intros
    repeat refine pw_seq ?_
    exact pw_ret (ret_pure hd rfl rfl)
  refine pw_skip ?_
  simp at hc
  cases l with
  | nil => exact absurd rfl hc
  | cons c0 l0 =>
  have hw0 := small_wr (hs c0 (by simp))
  obtain ⟨cl, tl, a1, a2, a3, e0⟩ := el1 rfl (c0 :: l0) l0.length (by simp)
  simp only [List.flatMap_cons, enc_int, List.singleton_append, List.cons_append, List.nil_append] at e0
  have lt1 : (l0.length : Int) < l0.length + 1 := by omega
  have hwl := small_wr (hs cl (List.mem_of_getElem? a1))
  have wl : IntKind.i64.wrap (l0.length : Int) = (l0.length : Int) := wr _ (by omega) (by simp at hl; omega)
  repeat refine pw_seq ?_
  refine pwY none (Row.pures [0, 1, 2, 3, 4, 5, 6, 7, 8, 9, 10, 11, 12, 13, 14, 15, 16] .done) mixed (jn5 hw0 wl e0 hwl lt1) ?_
  refine pwP (arcR_ok _ _ _) (jn5 hw0 wl e0 hwl lt1) ?_
  refine pwP (arcR_ok _ _ _) (jn5 hw0 wl e0 hwl lt1) ?_
  intros
  repeat refine pw_seq ?_
  refine pwn ?_
  intros
  generalize hll : c0 :: l0 = l at *
  have hlen : l.length = l0.length + 1 := by rw [← hll]; rfl
  have hL : (PV.lst (l0.length + 1) (I c0 :: l0.flatMap Enc.enc)) = L l := by rw [← hll]; rfl
  repeat refine pw_seq ?_
  refine pw_block (pw_loopL (fun s : Nat × Int × Int × Nat => s.1 + 1 ≤ l.length ∧ l[s.1]? = some s.2.2.1 ∧ s.2.1 + wayS x (s.2.2.1 + 1) (l.drop (s.1 + 1)) = wayS x 0 l + arc x (cl + 1) 0) (fun (j, s, p, v) => [(1, L l), (2, .ptr nx v 0), (5, I (W s)), (6, I ((j + 1 : Nat) : Int))])
    (fun (j, s, p, v) => [.cells v 25 (instL x)]) (fun s => l.length - s.1) (0, arc x 0 (c0 + 1) + arc x (cl + 1) 0, c0, v0) [] (by rw [← hll]; simp [wayS]; omega) (by simp [hL]) (by simp) ?_)
  rintro ⟨j, s, p, v⟩ ⟨hk, hp, ho⟩
  simp only at hk ho hp ⊢
  repeat refine pw_seq ?_
  refine pwn ?_
  intros
  repeat refine pw_seq ?_
  refine pw_cond rfl (fun hq => ?_) (fun hq => ?_)
  · simp at hq
    have hq' : j + 1 < l.length := by omega
    obtain ⟨c, tl1, b1, b2, b3, e1⟩ := el1 rfl l (j + 1) hq'
    obtain ⟨p', tl2, d1, d2, d3, e2⟩ := el1 rfl l j (by omega)
    rw [hp] at d1; cases d1
    have hwc := small_wr (hs c (List.mem_of_getElem? b1))
    have hwp := small_wr (hs p (List.mem_of_getElem? hp))
    have wj : IntKind.i64.wrap (j : Int) = j := wr _ (by omega) (by omega)
    have g1 : (j : Int) < l.length := by omega
    have g2 : (j : Int) + 1 < l.length := by omega
    have g3 : 0 ≤ (j : Int) + 1 := by omega
    rw [b2] at ho
    refine pw_skip (pw_seq (pw_block ?_))
    repeat refine pw_seq ?_
    refine pwY none (Row.pures [0, 1, 2, 3, 4, 5, 6, 7, 8, 9, 10, 11, 12, 13, 14, 15] .done) mixed (jn6 hwc hwp wj e1 e2 (jn3 g1 g2 g3)) ?_
    refine pwP (arcR_ok _ _ _) (jn2 hwc hwp) ?_
    intros
    have w2 : IntKind.i64.wrap ((j : Int) + 1 + 1) = ((j + 1 + 1 : Nat) : Int) := by rw [wr _ (by omega) (by omega)]; omega
    repeat refine pw_seq ?_
    refine pwn ?_
    intros
    exact again_mk (j + 1, s + arc x (p + 1) (c + 1), c, v) [] (by simp only [wayS] at ho; exact ⟨by omega, b1, by rw [← ho]; simp; omega⟩) (by simp; omega) (by simp [w2, W_add]) rfl (by simp)
  · simp at hq
    refine pw_exit ?_
    repeat refine pw_seq ?_
    refine pwn ?_
    intros
    rw [List.drop_of_length_le (by omega)] at ho
    have hpc : p = cl := by
      have : j = l0.length := by omega
      subst this; rw [hp] at a1; cases a1; rfl
    subst hpc
    have hs' : s = wayS x 0 l := by simp only [wayS] at ho; omega
    repeat refine pw_seq ?_
    exact pw_ret (ret_pure hd rfl (by simp [wayZ, hc, hs']))
open Go
def goodRow (x : Inst) (n a : Nat) : List Int := (List.range (n + 1)).map fun b => if a ≠ b then rnd (arc x a b) 0 60 else 0
def goodI (x : Inst) : Inst :=
  ⟨rnd x.days 1 7, rnd x.veh 0 5, rnd x.cap 0 40, rnd x.len 0 300, (x.cust.take 6).map fun c => goodC c (rnd x.days 1 7), (List.range ((x.cust.take 6).length + 1)).map fun a => goodRow x (x.cust.take 6).length a⟩
structure InstOk (x : Inst) : Prop where
  days : I64 x.days
  veh : I64 x.veh
  cap : I64 x.cap
  len : I64 x.len
  ncust : x.cust.length ≤ 9223372036854775807
  cust : ∀ c ∈ x.cust, CustOk c
  ndist : x.dist.length ≤ 9223372036854775807
  dist : ∀ r ∈ x.dist, r.length ≤ 9223372036854775807 ∧ ∀ d ∈ r, I64 d
theorem arc_64 {x : Inst} (hx : InstOk x) (a b : Int) : I64 (arc x a b) := by
  unfold arc
  split
  · unfold I64; omega
  · rw [List.getD_eq_getElem?_getD, List.getD_eq_getElem?_getD]
    cases hr : x.dist[a.toNat]? with
    | none => simp [I64]
    | some r =>
      cases hd : r[b.toNat]? with
      | none => simp [hd, I64]
      | some d =>
        simp only [Option.getD_some, hd]
        exact (hx.dist r (List.mem_of_getElem? hr)).2 d (List.mem_of_getElem? hd)
def rowTo (x : Inst) (n a k : Nat) : List Int := (List.range (n + 1)).map fun b => if b < k then (if a ≠ b then rnd (arc x a b) 0 60 else 0) else 0
theorem rowTo_len (x : Inst) (n a k : Nat) : (rowTo x n a k).length = n + 1 := by simp [rowTo]
theorem rowTo_zero (x : Inst) (n a : Nat) : rowTo x n a 0 = List.replicate (n + 1) 0 := by
  apply List.ext_getElem
  · simp [rowTo]
  · intro i h1 h2; simp only [List.getElem_replicate]; simp [rowTo]
theorem rowTo_all (x : Inst) (n a : Nat) : rowTo x n a (n + 1) = goodRow x n a := by
  apply List.ext_getElem
  · simp [rowTo, goodRow]
  · intro i h1 h2
    simp [rowTo] at h1
    simp [rowTo, goodRow, h1]
theorem rowTo_ne (x : Inst) (n a k : Nat) (h : k ≤ n) (hne : a ≠ k) : (rowTo x n a k).set k (rnd (arc x a k) 0 60) = rowTo x n a (k + 1) := by
  apply List.ext_getElem
  · simp [rowTo]
  · intro i h1 h2
    rw [List.getElem_set]
    simp only [rowTo, List.getElem_map, List.getElem_range]
    split
    · rename_i e; subst e; simp [hne]
    · rename_i e
      by_cases q : i < k
      · simp [q, show i < k + 1 by omega]
      · simp [q, show ¬ i < k + 1 by omega]
theorem rowTo_eq (x : Inst) (n k : Nat) : rowTo x n k k = rowTo x n k (k + 1) := by
  apply List.ext_getElem
  · simp [rowTo]
  · intro i h1 h2
    simp only [rowTo, List.getElem_map, List.getElem_range]
    by_cases q : i < k
    · simp [q, show i < k + 1 by omega]
    · by_cases e : i = k
      · subst e; simp
      · simp [q, show ¬ i < k + 1 by omega]
abbrev goodObs (x : Inst) (v0 v1 v2 : Nat) (cs ds : PV) : List Ob :=
  [.cells v0 25 (instL x), .cells v1 25 [I 0, I 0, I 0, I 0, .sc (.slice none 0 0), .sc (.slice none 0 0)], .cells v2 25 [I (rnd x.days 1 7), I (rnd x.veh 0 5), I (rnd x.cap 0 40), I (rnd x.len 0 300), cs, ds]]
set_option maxRecDepth 10000 in
theorem goodI_ok (x : Inst) (hx : InstOk x) : Pure Tryz.prog 10 [.agg (instL x)] (.agg (instL (goodI x))) := by
  have hd7 := rnd_le x.days 1 7 (by omega)
  have hnc := hx.ncust
  refine pwe Tryz.func10 Tryz.ntmps10 Tryz.results10 fun S nx hd => ?_
  repeat refine pw_seq ?_
  refine pwn ?_
  intro v0 v1
  repeat refine pw_seq ?_
  refine pwY (some [nx]) (Row.pures [0, 1, 2, 3, 4, 5, 6, 7, 8, 9, 10, 11, 12] (.alt 13 (.alt 14 (.done) .stop) .stop)) mixed trivial ?_
  refine pwP (round_ok _ _ _ hx.days (by omega) (by omega) (by omega)) trivial ?_
  refine pwP (round_ok _ _ _ hx.veh (by omega) (by omega) (by omega)) trivial ?_
  refine pwP (round_ok _ _ _ hx.cap (by omega) (by omega) (by omega)) trivial ?_
  refine pwP (round_ok _ _ _ hx.len (by omega) (by omega) (by omega)) trivial ?_
  intro v2
  intros
  refine pw_seq (pw_nilObX 2 4 60 8 rfl rfl fun v3 => ?_)
  repeat refine pw_seq ?_
  refine pwn ?_
  intros
  have hdz : rnd x.days 1 7 ≤ 63 := by omega
  generalize hdy : rnd x.days 1 7 = dz at *
  refine pw_joinK (nx := nx) (σ := Nat × Nat × Nat × Nat) (fun _ => True) (fun (v0, v1, v2, v3) => [(1, .ptr nx v0 0), (2, .ptr (nx + 1) v1 0), (3, .ptr (nx + 2) v2 0)]) (fun _ => S)
    (fun (v0, v1, v2, v3) => goodObs x v0 v1 v2 (.sl (nx + 3) v3 8 0 ((x.cust.take 6).map fun c => goodC c dz).length) (.sc (.slice none 0 0)) ++ [.cells v3 60 (((x.cust.take 6).map fun c => goodC c dz).flatMap Enc.enc)]) ?_ ?_
  · repeat refine pw_seq ?_
    refine pw_block (pw_loopL (fun s : Nat × List Cust × Nat × Nat × Nat × Nat => s.1 ≤ x.cust.length ∧ s.1 ≤ 6 ∧ s.2.1 = (x.cust.take s.1).map fun c => goodC c dz) (fun (k, out, v0, v1, v2, v3) => [(1, .ptr nx v0 0), (2, .ptr (nx + 1) v1 0), (3, .ptr (nx + 2) v2 0), (4, I k)])
      (fun (k, out, v0, v1, v2, v3) => goodObs x v0 v1 v2 (.sl (nx + 3) v3 8 0 out.length) (.sc (.slice none 0 0)) ++ [.cells v3 60 (out.flatMap Enc.enc)]) (fun s => 6 - s.1) (0, [], v0, v1, v2, v3) [] (by simp) (by simp) (by simp [hdy]) ?_)
    rintro ⟨k, out, v0, v1, v2, v3⟩ ⟨hk1, hk6, ho⟩
    simp only at hk1 hk6 ho ⊢
    have hol : out.length = k := by rw [ho]; simp; omega
    have fin : (k = x.cust.length ∨ k = 6) → out = (x.cust.take 6).map fun c => goodC c dz := by
      rintro (q | q)
      · rw [ho, List.take_of_length_le (by omega), List.take_of_length_le (by omega)]
      · rw [ho, q]
    by_cases hq1 : k < x.cust.length
    · by_cases hq2 : (k : Int) < 6
      · repeat refine pw_seq ?_
        refine pwN [(5, 27)] (jn2 hq1 hq2) ?_
        intros
        repeat refine pw_seq ?_
        refine pw_ct rfl ?_
        obtain ⟨c, tl, a1, a2, a3, e1, e0⟩ := el 8 rfl x.cust k hq1
        have hc := hx.cust c (List.mem_of_getElem? a1)
        refine pw_skip (pw_seq (pw_block ?_))
        repeat refine pw_seq ?_
        refine pwY (some [nx]) (Row.pures [0, 2, 3, 4, 5, 6, 7] (.alt 1 (.alt 8 (Row.pures [9, 10] (.alt 11 (Row.pures [12] (.alt 13 (.done) .stop)) .stop)) .stop) (.alt 8 (Row.pures [9, 10] (.alt 1 (.alt 11 (Row.pures [12] (.alt 13 (.done) .stop)) .stop) .stop)) .stop))) mixed (jn3 hq1 e0 hdy) ?_
        have w1 := wrN k (by omega)
        refine ⟨?_, ?_⟩
        all_goals
          refine pwP (good_ok c dz hc (by omega) hdz) trivial ?_
          refine ⟨by omega, ?_⟩
          intros
          repeat refine pw_seq ?_
          refine pwn ?_
          intros
          exact again_mk (k + 1, out ++ [goodC c dz], v0, v1, v2, v3 + 1) [] (by simp [drop_take_map _ a3, ho]; omega) (by simp; omega) (by simp [w1]) rfl (by simp [hdy])
      · repeat refine pw_seq ?_
        refine pwN [(5, 27)] (jn2 hq1 hq2) ?_
        intros
        repeat refine pw_seq ?_
        refine pw_cf rfl ?_
        have hk := fin (.inr (by omega))
        exact pw_exit (at_mk (v0, v1, v2, v3) [] trivial (by simp) rfl (by simp only [← hk]; simp))
    · repeat refine pw_seq ?_
      refine pwN [(5, 27)] (jn2 hq1 undef_eq) ?_
      intros
      repeat refine pw_seq ?_
      refine pw_cf rfl ?_
      have hk := fin (.inl (by omega))
      exact pw_exit (at_mk (v0, v1, v2, v3) [] trivial (by simp) rfl (by simp only [← hk]; simp))
  · rintro ⟨v0, v1, v2, v3⟩ -
    simp only
    have hg : goodI x = ⟨dz, rnd x.veh 0 5, rnd x.cap 0 40, rnd x.len 0 300, (x.cust.take 6).map fun c => goodC c dz, (List.range ((x.cust.take 6).length + 1)).map fun a => goodRow x (x.cust.take 6).length a⟩ := by unfold goodI; rw [hdy]
    have hcl : ((x.cust.take 6).map fun c => goodC c dz).length = (x.cust.take 6).length := by simp
    have hn6 : (x.cust.take 6).length ≤ 6 := by simp; omega
    rw [hg]
    rw [← hcl] at hn6 ⊢
    generalize (x.cust.take 6).map (fun c => goodC c dz) = cs at *
    repeat refine pw_seq ?_
    refine pwn ?_
    intros
    refine pw_seq (pw_nilObX 2 5 62 1 rfl rfl fun v4 => ?_)
    repeat refine pw_seq ?_
    refine pwn ?_
    intros
    have w0 : IntKind.i64.wrap ((cs.length : Int) + 1) = ((cs.length + 1 : Nat) : Int) := wrN _ (by omega)
    repeat refine pw_seq ?_
    refine pw_block (pw_loopL (fun s : Nat × List (List Int) × Nat × Nat × Nat × Nat × Nat => s.1 ≤ cs.length + 1 ∧ s.2.1 = (List.range s.1).map fun a => goodRow x cs.length a) (fun (a, out, v0, v1, v2, v3, v4) => [(1, .ptr nx v0 0), (2, .ptr (nx + 1) v1 0), (3, .ptr (nx + 2) v2 0), (5, I cs.length), (6, I a)])
      (fun (a, out, v0, v1, v2, v3, v4) => goodObs x v0 v1 v2 (.sl (nx + 3) v3 8 0 cs.length) (.sl (nx + 4) v4 1 0 out.length) ++ [.cells v3 60 (cs.flatMap Enc.enc), .cells v4 62 (out.flatMap Enc.enc)]) (fun s => cs.length + 1 - s.1) (0, [], v0, v1, v2, v3, v4) [] (by simp) (by simp) (by simp [hdy]) ?_)
    rintro ⟨a, out, v0, v1, v2, v3, v4⟩ ⟨ha, ho⟩
    simp only at ha ho ⊢
    have hol : out.length = a := by rw [ho]; simp
    repeat refine pw_seq ?_
    refine pwn ?_
    intros
    repeat refine pw_seq ?_
    refine pw_cond rfl (fun hc => ?_) (fun hc => ?_)
    · simp at hc
      refine pw_skip (pw_seq (pw_block ?_))
      repeat refine pw_seq ?_
      refine pwN [] w0 ?_
      refine ⟨by omega, fun v5 => ?_⟩
      intros
      repeat refine pw_seq ?_
      refine pwn ?_
      intros
      repeat refine pw_seq ?_
      refine pw_block (pw_loopL (fun s : Nat × Nat × Nat × Nat × Nat × Nat × Nat => s.1 ≤ cs.length + 1) (fun (b, v0, v1, v2, v3, v4, v5) => [(1, .ptr nx v0 0), (2, .ptr (nx + 1) v1 0), (3, .ptr (nx + 2) v2 0), (5, I cs.length), (6, I a), (7, .sl (nx + 5) v5 1 0 (cs.length + 1)), (8, I b)])
        (fun (b, v0, v1, v2, v3, v4, v5) => goodObs x v0 v1 v2 (.sl (nx + 3) v3 8 0 cs.length) (.sl (nx + 4) v4 1 0 out.length) ++ [.cells v3 60 (cs.flatMap Enc.enc), .cells v4 62 (out.flatMap Enc.enc), .cells v5 3 ((rowTo x cs.length a b).flatMap Enc.enc)]) (fun s => cs.length + 1 - s.1) (0, v0, v1, v2, v3, v4, v5) [] (by simp) (by simp) (by simp [hdy, rowTo_zero, zeros_int]) ?_)
      rintro ⟨b, v0, v1, v2, v3, v4, v5⟩ hb
      simp only at hb ⊢
      repeat refine pw_seq ?_
      refine pwn ?_
      intros
      repeat refine pw_seq ?_
      refine pw_cond rfl (fun hc2 => ?_) (fun hc2 => ?_)
      · simp at hc2
        have hrl := rowTo_len x cs.length a b
        have hsp := splice_int (rowTo x cs.length a b) b (rnd (arc x a b) 0 60) (by omega)
        have g1 : (b : Int) < cs.length + 1 := by omega
        refine pw_skip (pw_seq (pw_block ?_))
        repeat refine pw_seq ?_
        refine pwn ?_
        intros
        by_cases hab : a = b
        · subst hab
          refine pw_cf (by simp) ?_
          refine pw_skip ?_
          repeat refine pw_seq ?_
          refine pwn ?_
          intros
          exact again_mk (a + 1, v0, v1, v2, v3, v4, v5) [] (by simp; omega) (by simp; omega) (by simp [wrN a (by omega)]) rfl (by simp [hdy, rowTo_eq])
        · have hab' : ((a : Int) != b) = true := by simp; omega
          refine pw_ct (by simp; omega) ?_
          repeat refine pw_seq ?_
          refine pwn ?_
          refine pwc (arcR_ok x a b) ?_
          refine pwC [] (round_ok _ _ _ (arc_64 hx _ _) (by omega) (by omega) (by omega)) (jn3 g1 hsp hrl) ?_
          refine ⟨by omega, ?_⟩
          intros
          repeat refine pw_seq ?_
          refine pwn ?_
          intros
          exact again_mk (b + 1, v0, v1, v2, v3, v4, v5) [] (by simp; omega) (by simp; omega) (by simp [wrN b (by omega)]) rfl (by simp [hdy, rowTo_ne x _ _ _ (show b ≤ cs.length by omega) hab])
      · simp at hc2
        have hb' : b = cs.length + 1 := by omega
        subst hb'
        refine pw_exit ?_
        have hrl := rowTo_len x cs.length a (cs.length + 1)
        refine pw_frz 5 rfl ?_
        repeat refine pw_seq ?_
        refine pwN [] hrl ?_
        refine ⟨by omega, ?_⟩
        intros
        repeat refine pw_seq ?_
        refine pwn ?_
        intros
        have hgl : (goodRow x cs.length a).length = cs.length + 1 := by rw [← rowTo_all, hrl]
        exact again_mk (a + 1, out ++ [goodRow x cs.length a], v0, v1, v2, v3, v4 + 1) [.dead] (by simp [List.range_succ, ho]; omega) (by simp; omega) (by simp [wrN a (by omega)]) rfl (by simp [hdy, rowTo_all, hgl])
    · simp at hc
      have ha' : a = cs.length + 1 := by omega
      subst ha'
      refine pw_exit ?_
      repeat refine pw_seq ?_
      refine pwn ?_
      intros
      refine pw_frz 3 rfl ?_
      refine pw_frz 4 rfl ?_
      repeat refine pw_seq ?_
      exact pw_ret (ret_pure hd (by simp; rfl) (by simp [ho, hdy]))
open Go
set_option maxRecDepth 100000
theorem opens_stop (w : World) : Opens Tryz.prog w 43 Stop StopOk := by
  intro H enc fuel cs x h
  obtain ⟨hl, n, hf⟩ := trod_fields Tryz.underlying43 h
  simp only [c43] at hl
  match cs, hl with
  | [a, b], _ =>
    obtain ⟨y0, h0⟩ := hf 0 _ rfl
    obtain ⟨y1, h1⟩ := hf 1 _ rfl
    simp at h0 h1
    obtain ⟨z0, k0, r0⟩ := opens_int Tryz.underlying3 H enc n _ _ h0
    obtain ⟨z1, k1, r1⟩ := opens_int Tryz.underlying3 H enc n _ _ h1
    exact ⟨⟨z0, z1⟩, ⟨k0, k1⟩, relL_app (vs := [a]) (us := [b]) r0 r1⟩
theorem opens_cust (w : World) : Opens Tryz.prog w 60 Cust CustOk := by
  intro H enc fuel cs x h
  obtain ⟨hl, n, hf⟩ := trod_fields Tryz.underlying60 h
  simp only [c60] at hl
  match cs, hl with
  | [v0, v1, v2, v3, v4, v5, v6, v7], _ =>
    obtain ⟨y0, h0⟩ := hf 0 _ rfl
    obtain ⟨y1, h1⟩ := hf 1 _ rfl
    obtain ⟨y2, h2⟩ := hf 2 _ rfl
    obtain ⟨y3, h3⟩ := hf 3 _ rfl
    obtain ⟨y4, h4⟩ := hf 4 _ rfl
    obtain ⟨y5, h5⟩ := hf 5 _ rfl
    obtain ⟨y6, h6⟩ := hf 6 _ rfl
    obtain ⟨y7, h7⟩ := hf 7 _ rfl
    simp at h0 h1 h2 h3 h4 h5 h6 h7
    obtain ⟨z0, k0, r0⟩ := opens_int Tryz.underlying3 H enc n _ _ h0
    obtain ⟨z1, k1, r1⟩ := opens_int Tryz.underlying3 H enc n _ _ h1
    obtain ⟨z2, k2, r2⟩ := opens_list (α := Nat) Tryz.underlying58 (by simp; rfl) (by decide) (opens_u64 Tryz.underlying70) H enc n _ _ h2
    obtain ⟨z3, k3, r3⟩ := opens_int Tryz.underlying3 H enc n _ _ h3
    obtain ⟨z4, k4, r4⟩ := opens_int Tryz.underlying3 H enc n _ _ h4
    obtain ⟨z5, k5, r5⟩ := opens_int Tryz.underlying3 H enc n _ _ h5
    obtain ⟨z6, k6, r6⟩ := opens_int Tryz.underlying3 H enc n _ _ h6
    obtain ⟨z7, k7, r7⟩ := opens_int Tryz.underlying3 H enc n _ _ h7
    exact ⟨⟨z0, z1, z2, z3, z4, z5, z6, z7⟩, ⟨k0, k1, k2.2, k2.1, k3, k4, k5, k6, k7⟩,
      relL_app (vs := [v0]) r0 (relL_app (vs := [v1]) r1 (relL_app (vs := [v2]) r2 (relL_app (vs := [v3]) r3 (relL_app (vs := [v4]) r4 (relL_app (vs := [v5]) r5 (relL_app (vs := [v6]) (us := [v7]) r6 r7))))))⟩
instance : Enc Inst := ⟨instL, 6, fun _ => rfl, fun _ => rfl⟩
theorem opens_inst (w : World) : Opens Tryz.prog w 25 Inst InstOk := by
  intro H enc fuel cs x h
  obtain ⟨hl, n, hf⟩ := trod_fields Tryz.underlying25 h
  simp only [c25] at hl
  match cs, hl with
  | [v0, v1, v2, v3, v4, v5], _ =>
    obtain ⟨y0, h0⟩ := hf 0 _ rfl
    obtain ⟨y1, h1⟩ := hf 1 _ rfl
    obtain ⟨y2, h2⟩ := hf 2 _ rfl
    obtain ⟨y3, h3⟩ := hf 3 _ rfl
    obtain ⟨y4, h4⟩ := hf 4 _ rfl
    obtain ⟨y5, h5⟩ := hf 5 _ rfl
    simp at h0 h1 h2 h3 h4 h5
    obtain ⟨z0, k0, r0⟩ := opens_int Tryz.underlying3 H enc n _ _ h0
    obtain ⟨z1, k1, r1⟩ := opens_int Tryz.underlying3 H enc n _ _ h1
    obtain ⟨z2, k2, r2⟩ := opens_int Tryz.underlying3 H enc n _ _ h2
    obtain ⟨z3, k3, r3⟩ := opens_int Tryz.underlying3 H enc n _ _ h3
    obtain ⟨z4, k4, r4⟩ := opens_list (α := Cust) Tryz.underlying22 (by simp; rfl) (by decide) (opens_cust w) H enc n _ _ h4
    obtain ⟨z5, k5, r5⟩ := opens_list (α := List Int) Tryz.underlying23 (by simp; rfl) (by decide) (opens_list (α := Int) Tryz.underlying62 (by simp; rfl) (by decide) (opens_int Tryz.underlying3)) H enc n _ _ h5
    exact ⟨⟨z0, z1, z2, z3, z4, z5⟩, ⟨k0, k1, k2, k3, k4.1, k4.2, k5.1, k5.2⟩,
      relL_app (vs := [v0]) r0 (relL_app (vs := [v1]) r1 (relL_app (vs := [v2]) r2 (relL_app (vs := [v3]) r3 (relL_app (vs := [v4]) (us := [v5]) r4 r5))))⟩
theorem opens_stops (w : World) : Opens Tryz.prog w 26 (List Stop) (fun l => l.length ≤ 9223372036854775807 ∧ ∀ s ∈ l, StopOk s) :=
  opens_list Tryz.underlying26 (by simp; rfl) (by decide) (opens_stop w)
open Go
abbrev sortZ (l : List Int) : List Int := l.mergeSort fun x y => decide (x ≤ y)
theorem sortZ_len (l : List Int) : (sortZ l).length = l.length := List.length_mergeSort l
theorem flat_int (l : List Int) : l.flatMap Enc.enc = l.map I := by induction l <;> simp_all
theorem set_self (S : Store) (o : Nat) (x : Ob) (h : S o = x) : S.set o x = S := by
  funext i; simp only [Store.set]; split
  · rename_i e; rw [e, h]
  · rfl
theorem rel_int {C : Ctx} {S : Store} {w : World} {x : Int} {v : Value} (h : Rel C S w (I x) v) : v = .int .i64 x := by cases h; rfl
theorem arr1 {vs : Array Value} (h : 1 = vs.size) : ∃ v, vs = #[v] := by
  match vs, h with
  | ⟨[v]⟩, _ => exact ⟨v, rfl⟩
theorem sort_ok {S : Store} {id ver : Nat} (zs : List Int) (hid : S id = .cells ver 3 (zs.flatMap Enc.enc)) (hn : zs.length ≤ 1048576) :
    Spec Tryz.prog 54 [.sl id ver 1 0 zs.length] S (fun p S' => S' = S.set id (.cells ver 3 ((sortZ zs).flatMap Enc.enc))) := by
  refine ⟨enters_of Tryz.func54 (by rfl) rfl, ?_⟩
  intro C w vs hS hl hr
  obtain ⟨v, rfl⟩ := arr1 hl
  have hv := hr 0 _ v rfl rfl
  cases hv with
  | sl h1 h2 h3 =>
    obtain ⟨a, cap, rfl, q1, q2, q3, q4⟩ := h1
    by_cases h0 : zs = []
    · subst h0
      refine (Tryz.slices_Sort_int_none a cap w).mono ?_
      rintro e w' ⟨rfl, rfl⟩
      exact ⟨.junk, _, S, C, rfl, by rw [show sortZ [] = [] from by simp [sortZ]]; exact (set_self S id _ hid).symm, .junk _, hS, .refl _ _ _⟩
    · have hpos : 0 < zs.length := List.length_pos_iff.2 h0
      rcases hS.cells id ver _ _ hid with ⟨hn', hnil⟩ | ⟨b, k, c, g1, g2, g3, g4, g5, g6⟩
      · rw [flat_int] at hnil; simp at hnil; exact absurd hnil h0
      · have ha : a = some ⟨b, 0, none⟩ := by
          rcases (h3 ver (by rw [hid]; rfl)).2 rfl with ⟨z1, _⟩ | ⟨b', k', a', cap', z1, z2, z3, z4⟩
          · rw [g1] at z1; cases z1
          · rw [g1] at z1; cases z1; cases z2; exact (z3 rfl).1
        subst ha
        rw [flen_int] at g4
        have hcells : ∀ i, i < zs.length → c[i]? = some (.int .i64 (zs.getD i 0)) := by
          intro i hi
          have hi' : i < c.size := by omega
          have e1 : (zs.flatMap Enc.enc)[i]? = some (I (zs.getD i 0)) := by rw [flat_int]; simp [hi]
          have e2 : c[i]? = some c[i] := by simp
          have := rel_int (g6 i _ _ e1 e2)
          rw [e2, this]
        have htake : c.toList.take zs.length = zs.map (Value.int .i64) := by
          apply List.ext_getElem?
          intro i
          by_cases hi : i < zs.length
          · rw [List.getElem?_take_of_lt hi, Array.getElem?_toList, hcells i hi]; simp [hi]
          · rw [List.getElem?_eq_none (by simp; omega), List.getElem?_eq_none (by simp; omega)]
        refine (Tryz.slices_Sort_int b 0 cap zs w (holds_of_blockI g2 htake) (lt_of_heap g2) (by omega)).mono ?_
        rintro e w' ⟨rfl, n, os, rfl⟩
        have hb' := heap_sortedI (n := n) (os := os) (sortZ zs).toArray g2
        have hlz := sortZ_len zs
        have hcs : ∀ i, (Sort.putCells (Value.int .i64) 0 (sortZ zs).toArray c)[i]? = if i < zs.length then some (.int .i64 ((sortZ zs).getD i 0)) else c[i]? := by
          intro i
          by_cases hi : i < zs.length
          · rw [if_pos hi]
            have : i < c.size := by omega
            have hi2 : i < (sortZ zs).length := by omega
            simp [Sort.putCells, hi2, this]
            intro h; omega
          · rw [if_neg hi]
            by_cases hc : i < c.size
            · have hi2 : ¬ i < (sortZ zs).length := by omega
              simp [Sort.putCells, hi2, hc]
              intro h; omega
            · rw [Array.getElem?_eq_none (by simp [Sort.putCells]; omega), Array.getElem?_eq_none (by omega)]
        obtain ⟨t1, t2⟩ := hS.turn (l := C.loc id) (ver' := ver) (cs' := (sortZ zs).flatMap Enc.enc) hid (Nat.le_refl _) (fun _ => rfl) (by rw [g1]; exact ⟨grownBy_sortedI (n := n) (os := os) (sortZ zs).toArray, Nat.le_add_right _ _⟩)
          (.inr ⟨b, k, _, g1, .inr (by rw [g1]; rfl), hb', by simp [Sort.putCells, g3], by rw [flen_int, hlz]; exact g4, fun i z hi hz => by
              rw [hcs] at hz
              rw [flen_int, hlz] at hi
              rw [if_pos hi] at hz; cases hz; rfl,
            fun i p z hp hz => by
              rw [hcs] at hz
              have hi : i < zs.length := by
                have := (List.getElem?_eq_some_iff.1 hp).1
                rw [flen_int, hlz] at this; exact this
              rw [if_pos hi] at hz; cases hz
              rw [flat_int, List.getElem?_map] at hp
              have hi2 : i < (sortZ zs).length := by omega
              rw [List.getElem?_eq_getElem hi2] at hp
              cases hp
              rw [List.getD_eq_getElem?_getD, List.getElem?_eq_getElem hi2]
              exact .sc _⟩)
        exact ⟨.junk, _, _, _, rfl, rfl, .junk _, t1, t2⟩
open Go
def valS (l : List Stop) : List Value := l.flatMap fun s => [.int .i64 s.c, .int .i64 s.q]
theorem valS_enc (l : List Stop) : l.flatMap Enc.enc = (valS l).map PV.sc := by
  unfold valS
  induction l <;> simp_all
theorem valS_len (l : List Stop) : (valS l).length = l.length * 2 := by
  unfold valS
  induction l with
  | nil => rfl
  | cons s l ih => simp at ih ⊢; omega
theorem valS_app (l m : List Stop) : valS (l ++ m) = valS l ++ valS m := by simp [valS]
theorem valS_take (l : List Stop) (i : Nat) (h : i ≤ l.length) : (valS l).take (i * 2) = valS (l.take i) := by
  conv => lhs; rw [← List.take_append_drop i l, valS_app]
  have : (valS (l.take i)).length = i * 2 := by rw [valS_len]; simp; omega
  rw [← this, List.take_left]
theorem valS_drop (l : List Stop) (i : Nat) (h : i ≤ l.length) : (valS l).drop (i * 2) = valS (l.drop i) := by
  conv => lhs; rw [← List.take_append_drop i l, valS_app]
  have : (valS (l.take i)).length = i * 2 := by rw [valS_len]; simp; omega
  rw [← this, List.drop_left]
theorem valS_one (l : List Stop) : ∀ v ∈ valS l, v.oneCell' = true := by
  intro v hv
  obtain ⟨s, _, hs⟩ := List.mem_flatMap.1 hv
  simp at hs
  rcases hs with rfl | rfl <;> rfl
theorem row_shift {V vs cur : List Value} {i n : Nat} (hi : i < n) (hV : V.length = n * 2) (hv : vs.length = 2) (hc : cur.take (n * 2) = V) (hl : n * 2 + 2 ≤ cur.length) :
    ((cur.take ((i + 1) * 2) ++ V.drop (i * 2) ++ cur.drop ((i + 1) * 2 + (V.drop (i * 2)).length)).take (i * 2) ++ vs ++ (cur.take ((i + 1) * 2) ++ V.drop (i * 2) ++ cur.drop ((i + 1) * 2 + (V.drop (i * 2)).length)).drop (i * 2 + 2)) =
      V.take (i * 2) ++ vs ++ V.drop (i * 2) ++ cur.drop ((i + 1) * 2 + (V.drop (i * 2)).length) := by
  have h1 : (cur.take ((i + 1) * 2)).length = i * 2 + 2 := by simp; omega
  have h2 : (cur.take ((i + 1) * 2) ++ V.drop (i * 2) ++ cur.drop ((i + 1) * 2 + (V.drop (i * 2)).length)).take (i * 2) = V.take (i * 2) := by
    rw [List.append_assoc, List.take_append_of_le_length (by omega), List.take_take, Nat.min_eq_left (by omega), ← hc, List.take_take, Nat.min_eq_left (by omega)]
  rw [h2, ← h1, List.append_assoc (cur.take _), List.drop_left]
  simp
theorem row_grow {V vs ROW : List Value} {i n : Nat} (hi : i < n) (hV : V.length = n * 2) (hv : vs.length = 2) (hc : ROW.take (i * 2) = V.take (i * 2)) :
    ((ROW.take (i * 2) ++ vs ++ ROW.drop (i * 2 + 2)).take ((i + 1) * 2) ++ V.drop (i * 2) ++ (ROW.take (i * 2) ++ vs ++ ROW.drop (i * 2 + 2)).drop ((i + 1) * 2 + (V.drop (i * 2)).length)) =
      V.take (i * 2) ++ vs ++ V.drop (i * 2) ++ (ROW.take (i * 2) ++ vs ++ ROW.drop (i * 2 + 2)).drop ((i + 1) * 2 + (V.drop (i * 2)).length) := by
  have h1 : (ROW.take (i * 2) ++ vs).length = (i + 1) * 2 := by rw [hc]; simp; omega
  have h2 : (ROW.take (i * 2) ++ vs ++ ROW.drop (i * 2 + 2)).take ((i + 1) * 2) = V.take (i * 2) ++ vs := by
    rw [← h1, List.take_left, hc]
  rw [h2]
theorem arr3 {vs : Array Value} (h : 3 = vs.size) : ∃ u v x, vs = #[u, v, x] := by
  match vs, h with
  | ⟨[u, v, x]⟩, _ => exact ⟨u, v, x, rfl⟩
theorem row_rel {C : Ctx} {S : Store} {w : World} {R : Array Value} {V rest : List Value} (h : R.toList = V ++ rest) (h1 : ∀ v ∈ V, v.oneCell' = true) :
    (∀ (i : Nat) (v : Value), i < (V.map PV.sc).length → R[i]? = some v → v.oneCell' = true) ∧ ∀ (i : Nat) (p : PV) (v : Value), (V.map PV.sc)[i]? = some p → R[i]? = some v → Rel C S w p v := by
  have hat : ∀ (i : Nat) (v : Value), i < V.length → R[i]? = some v → V[i]? = some v := by
    intro i v hi hv
    rw [← Array.getElem?_toList, h, List.getElem?_append_left hi] at hv
    exact hv
  refine ⟨fun i v hi hv => h1 v (List.mem_of_getElem? (hat i v (by simpa using hi) hv)), fun i p v hp hv => ?_⟩
  rw [List.getElem?_map] at hp
  obtain ⟨u, hu, rfl⟩ := Option.map_eq_some_iff.1 hp
  have := hat i v (List.getElem?_eq_some_iff.1 hu).1 hv
  rw [hu] at this
  cases this
  exact .sc _
theorem insS_ok {S : Store} {id ver : Nat} (cs : List Stop) (i : Nat) (s : Stop) (hi : i < cs.length) (hn : cs.length ≤ 1000000) (hid : S id = .cells ver 43 (cs.flatMap Enc.enc)) :
    Spec Tryz.prog 49 [.sl id ver 2 0 cs.length, I i, L [s]] S (fun p S' => p = .sl id (ver + 1) 2 0 (cs.length + 1) ∧ S' = S.set id (.cells (ver + 1) 43 ((cs.take i ++ s :: cs.drop i).flatMap Enc.enc))) := by
  refine ⟨enters_of Tryz.func49 (by rfl) rfl, ?_⟩
  intro C w vs hS hl hr
  obtain ⟨u, v, x, rfl⟩ := arr3 hl
  obtain rfl := rel_int (hr 1 _ v rfl rfl)
  have hu := hr 0 _ u rfl rfl
  have hx : Rel C S w (.lst 1 [I s.c, I s.q]) x := hr 2 _ x rfl rfl
  have hvl : (valS cs).length = cs.length * 2 := valS_len cs
  rw [valS_enc] at hid ⊢
  obtain ⟨i0, hi0⟩ := Option.isSome_iff_exists.1 i43
  have hz := z43
  have hc := c43
  have hb := b43
  simp only [Program.zeroOf, Program.cellsOf, Program.bytesOf', hi0, Option.bind_some, Option.map_some, Option.getD_some, Option.some.injEq] at hz hc hb
  cases hu with
  | sl h1 h2 h3 =>
    obtain ⟨ad, cap, rfl, q1, q2, q3, q4⟩ := h1
    have hloc := (h3 ver (by rw [hid]; rfl)).2 rfl
    rcases hS.cells id ver _ _ hid with ⟨hno, hnil⟩ | ⟨b, k, c, g1, g2, g3, g4, g5, g6⟩
    · have := congrArg List.length hnil
      simp [hvl] at this
      exfalso; omega
    rcases hloc with ⟨z1, _⟩ | ⟨b', k', ad', cap', z1, z2, z3, z4⟩
    · rw [g1] at z1; cases z1
    rw [g1] at z1; cases z1; cases z2
    obtain ⟨rfl, hcap⟩ := z3 rfl
    rw [List.length_map, hvl] at g4
    -- what stands in the block
    have hcells : ∀ (j : Nat) v, (valS cs)[j]? = some v → c[j]? = some v := by
      intro j v hj
      have hjl := (List.getElem?_eq_some_iff.1 hj).1
      have e2 : c[j]? = some c[j] := Array.getElem?_eq_getElem (by omega)
      have := g6 j (.sc v) _ (by rw [List.getElem?_map, hj]; rfl) e2
      rw [e2]
      generalize c[j] = y at this
      cases this; rfl
    have hcur : c.toList.take (cs.length * 2) = valS cs := by
      apply List.ext_getElem?
      intro j
      by_cases hj : j < cs.length * 2
      · rw [List.getElem?_take_of_lt hj, Array.getElem?_toList]
        have e : (valS cs)[j]? = some (valS cs)[j] := List.getElem?_eq_getElem (by omega)
        rw [e, hcells j _ e]
      · rw [List.getElem?_eq_none (by simp; omega), List.getElem?_eq_none (by omega)]
    have hccell : ∀ (j : Nat) v, (valS cs)[j]? = some v → w.cell? ⟨b, j, none⟩ = some v := fun j v hj => by
      simp only [World.cell?, g2]
      exact hcells j v hj
    have hnew : valS (cs.take i ++ s :: cs.drop i) = (valS cs).take (i * 2) ++ [.int .i64 s.c, .int .i64 s.q] ++ (valS cs).drop (i * 2) := by
      rw [valS_take cs i (by omega), valS_drop cs i (by omega), valS_app]
      simp [valS]
    have hnl : (valS (cs.take i ++ s :: cs.drop i)).length = (cs.length + 1) * 2 := by rw [valS_len]; simp; omega
    cases hx with
    | lst1 y1 y2 y3 y4 y5 y6 y7 =>
      rename_i vc vb vo cv ev fz
      have y5' := y5 (by simp)
      simp only [List.length_cons, List.length_nil] at y5'
      have hvcell : ∀ (j : Nat) v, ([.int .i64 s.c, .int .i64 s.q] : List Value)[j]? = some v → w.cell? ⟨vb, vo + j, none⟩ = some v := by
        intro j v hj
        have hjl := (List.getElem?_eq_some_iff.1 hj).1
        simp at hjl
        simp only [World.cell?, y3]
        have e2 : cv[vo + j]? = some (cv[vo + j]'(by omega)) := Array.getElem?_eq_getElem (by omega)
        have := y7 j (.sc v) _ (by
          match j, hj with
          | 0, hj => cases hj; rfl
          | 1, hj => cases hj; rfl) e2
        rw [if_neg (by simp), e2]
        generalize cv[vo + j]'(by omega) = y at this
        cases this; rfl
      have hvb : vb ≠ b := by
        rintro rfl
        exact y4 ⟨id, k, by rw [hid]; simp, g1⟩
      have newsl : ∀ (w' : World) (b' cap' : Nat), cs.length + 1 ≤ cap' → cap' ≤ maxLen →
          Rel (C.at id (ver + 1) (some (b', cap' * 2))) (S.set id (.cells (ver + 1) 43 ((valS (cs.take i ++ s :: cs.drop i)).map .sc))) w' (.sl id (ver + 1) 2 0 (cs.length + 1)) (.slice (some ⟨b', 0, none⟩) (cs.length + 1) cap') := by
        intro w' b' cap' hkm hcl
        refine .sl ⟨_, _, rfl, hkm, by unfold maxN; omega, hcl, fun _ => ⟨_, _, rfl⟩⟩ ⟨h2.1, by simp only [Ctx.at]; omega⟩ fun v0 hv0 => ?_
        rw [Store.set_same] at hv0; cases hv0
        exact ⟨Nat.le_refl _, fun _ => .inr ⟨b', _, _, _, by simp [Ctx.at], rfl, fun _ => ⟨rfl, rfl⟩, fun _ => rfl⟩⟩
      have hsv : ∀ v ∈ ([.int .i64 s.c, .int .i64 s.q] : List Value), v.oneCell' = true := by
        intro v hv
        simp at hv
        rcases hv with rfl | rfl <;> rfl
      by_cases hroom : cs.length + 1 ≤ cap
      · obtain ⟨R1, hR1⟩ : ∃ R1 : Array Value, R1 = (c.toList.take ((i + 1) * 2) ++ (valS cs).drop (i * 2) ++ c.toList.drop ((i + 1) * 2 + ((valS cs).drop (i * 2)).length)).toArray := ⟨_, rfl⟩
        obtain ⟨R2, hR2⟩ : ∃ R2 : Array Value, R2 = (R1.toList.take (i * 2) ++ ([.int .i64 s.c, .int .i64 s.q] : List Value) ++ R1.toList.drop (i * 2 + 2)).toArray := ⟨_, rfl⟩
        have hcsz : c.size = cap * 2 := g3.trans hcap.symm
        have hctl : c.toList.length = cap * 2 := by simpa using hcsz
        have hR2l : R2.toList = valS (cs.take i ++ s :: cs.drop i) ++ c.toList.drop ((i + 1) * 2 + ((valS cs).drop (i * 2)).length) := by
          rw [hR2, hR1, hnew]
          simp only []
          exact row_shift hi hvl rfl hcur (by omega)
        have hR2s : R2.size = cap * 2 := by
          rw [← Array.length_toList, hR2l]
          simp [hnl, hvl]
          omega
        refine (ins_shift b cs.length cap i vb vo vc (valS cs) [.int .i64 s.c, .int .i64 s.q] w (by rw [hi0]; simp [hc]) c g2 hcsz hi hroom (by unfold maxLen at q3; omega) (by omega) hvl rfl hvb hccell hvcell (valS_one cs) hsv ev (cv.size - 1) (by unfold World.shape?; rw [y3]; simp; omega) R1 R2 hR1 hR2).mono ?_
        rintro e w' ⟨rfl, rfl⟩
        obtain ⟨r1, r2⟩ := row_rel (C := C) (S := S) (w := w) hR2l (valS_one _)
        have hb1 := setRow_heap w.drew b c R1 _ _ g2
        obtain ⟨t1, t2⟩ := hS.turn (l := some (b, cap * 2)) (ver' := ver + 1) (cs' := (valS (cs.take i ++ s :: cs.drop i)).map .sc) hid (by omega) (fun h => absurd h (by omega)) (w' := (w.drew.setRow b R1).setRow b R2)
          (by
            rw [g1]
            refine ⟨⟨rfl, rfl, rfl, by simp [World.setRow], fun j hj hne => ?_⟩, Nat.le_succ _⟩
            have hjb : j ≠ b := fun e => hne (by rw [e]; rfl)
            rw [setRow_other _ _ _ _ hjb, setRow_other _ _ _ _ hjb]; rfl)
          (.inr ⟨b, cap * 2, R2, rfl, .inr (by rw [g1]; rfl), setRow_heap _ _ _ _ _ _ hb1, hR2s, by rw [List.length_map, hnl]; omega, r1, r2⟩)
        exact ⟨_, _, _, _, rfl, ⟨rfl, rfl⟩, newsl _ b cap hroom q3, t1, t2⟩
      · obtain ⟨G, hG⟩ : ∃ G, G = grownCap w (cs.length + 1) cap 43 := ⟨_, rfl⟩
        have hGn : cs.length + 1 ≤ G := by rw [hG]; exact grownCap_ge w _ _ _
        have hGm : G ≤ maxLen := by rw [hG]; exact grownCap_le_maxLen w _ _ _ (by unfold maxLen; omega)
        obtain ⟨ROW, hROW⟩ : ∃ ROW : Array Value, ROW = ((valS cs).take (i * 2)).toArray ++ Builtin.zeroCells (Value.agg #[.int .i64 0, .int .i64 0]).cells (cs.length + 1 - i) ++ Builtin.zeroCells (Value.agg #[.int .i64 0, .int .i64 0]).cells (G - (cs.length + 1)) := ⟨_, rfl⟩
        obtain ⟨R1, hR1⟩ : ∃ R1 : Array Value, R1 = (ROW.toList.take (i * 2) ++ ([.int .i64 s.c, .int .i64 s.q] : List Value) ++ ROW.toList.drop (i * 2 + 2)).toArray := ⟨_, rfl⟩
        obtain ⟨R2, hR2⟩ : ∃ R2 : Array Value, R2 = (R1.toList.take ((i + 1) * 2) ++ (valS cs).drop (i * 2) ++ R1.toList.drop ((i + 1) * 2 + ((valS cs).drop (i * 2)).length)).toArray := ⟨_, rfl⟩
        have htl : ((valS cs).take (i * 2)).length = i * 2 := by simp; omega
        have hROWs : ROW.size = G * 2 := by
          rw [hROW]
          simp only [Array.size_append, size_zeroCells, List.size_toArray, htl]
          simp [Value.cells]
          omega
        have hROWt : ROW.toList.take (i * 2) = (valS cs).take (i * 2) := by
          rw [hROW]
          simp only [Array.toList_append]
          rw [List.append_assoc]
          exact List.take_left' htl
        have hR1s : R1.size = G * 2 := by rw [hR1]; simp; omega
        have hR2l : R2.toList = valS (cs.take i ++ s :: cs.drop i) ++ R1.toList.drop ((i + 1) * 2 + ((valS cs).drop (i * 2)).length) := by
          rw [hR2, hR1, hnew]
          simp only []
          exact row_grow hi hvl rfl hROWt
        have hR2s : R2.size = G * 2 := by
          rw [← Array.length_toList, hR2l]
          simp [hnl, hvl, hR1s]
          omega
        refine (ins_grow b cs.length cap i vb vo vc (valS cs) [.int .i64 s.c, .int .i64 s.q] w i0 _ hi0 hz (by omega) hb rfl hi q1 (by omega) (by omega) hvl rfl hccell hvcell (valS_one cs) hsv G hG ROW hROW R1 R2 hR1 hR2).mono ?_
        rintro e w' ⟨rfl, rfl⟩
        obtain ⟨r1, r2⟩ := row_rel (C := C) (S := S) (w := w) hR2l (valS_one _)
        have hb0 := heap_alloc_new' w.drew (.cells ROW 43)
        have hb1 := setRow_heap (w.drew.alloc (.cells ROW 43)) w.heap.size ROW R1 _ _ hb0
        obtain ⟨t1, t2⟩ := hS.turn (l := some (w.heap.size, G * 2)) (ver' := ver + 1) (cs' := (valS (cs.take i ++ s :: cs.drop i)).map .sc) hid (by omega) (fun h => absurd h (by omega)) (w' := ((w.drew.alloc (.cells ROW 43)).setRow w.heap.size R1).drew.setRow w.heap.size R2)
          ⟨⟨rfl, rfl, rfl, by simp [World.setRow], fun j hj _ => by
            rw [setRow_other _ _ _ _ (by omega)]
            show ((w.drew.alloc (.cells ROW 43)).setRow w.heap.size R1).heap[j]? = _
            rw [setRow_other _ _ _ _ (by omega)]
            exact heap_alloc_lt w.drew _ j hj⟩, Nat.le_succ_of_le (Nat.le_succ _)⟩
          (.inr ⟨w.heap.size, G * 2, R2, rfl, .inl (Nat.le_refl _), setRow_heap _ _ _ _ _ _ hb1, hR2s, by rw [List.length_map, hnl]; omega, r1, r2⟩)
        exact ⟨_, _, _, _, rfl, ⟨rfl, rfl⟩, newsl _ w.heap.size G hGn hGm, t1, t2⟩
open Go
def loadZ (t : List Stop) : Int := (t.map (·.q)).sum
theorem loadZ_snoc (t : List Stop) (s : Stop) : loadZ (t ++ [s]) = loadZ t + s.q := by simp [loadZ]
set_option maxRecDepth 20000 in
theorem custR_ok (t : List Stop) (ht : t.length ≤ 1048576) : Pure Tryz.prog 42 [.agg [L t]] (L (t.map (·.c))) := by
  refine pwe Tryz.func42 Tryz.ntmps42 Tryz.results42 fun S nx hd => ?_
  repeat refine pw_seq ?_
  refine pwn ?_
  intro v0
  repeat refine pw_seq ?_
  refine pwn ?_
  intros
  refine pw_seq (pw_nilX 3 3 1 rfl fun v1 => ?_)
  repeat refine pw_seq ?_
  refine pwn ?_
  intros
  repeat refine pw_seq ?_
  refine pw_block (pw_loopL (fun s : Nat × List Int × Nat × Nat => s.1 ≤ t.length ∧ s.2.1 = (t.take s.1).map (·.c)) (fun (k, out, v, v2) => [(1, .ptr nx v 0), (3, .sl (nx + 1) v2 1 0 out.length), (4, I k)]) (fun (k, out, v, v2) => [.cells v 66 [L t], .cells v2 3 (out.flatMap Enc.enc)]) (fun s => t.length - s.1) (0, [], v0, v1) [] (by simp) (by simp) (by simp) ?_)
  rintro ⟨k, out, v1, v2⟩ ⟨hk, ho⟩
  simp only at hk ho ⊢
  repeat refine pw_seq ?_
  refine pwn ?_
  intros
  repeat refine pw_seq ?_
  refine pw_cond rfl (fun hc => ?_) (fun hc => ?_)
  · simp at hc
    obtain ⟨s, tl, a1, a2, a3, e1, e0⟩ := el 2 rfl t k hc
    refine pw_skip (pw_seq (pw_block ?_))
    repeat refine pw_seq ?_
    refine pwN [] (jn2 hc e0) ?_
    have hl : out.length = k := by rw [ho]; simp; omega
    refine ⟨by omega, ?_⟩
    intros
    repeat refine pw_seq ?_
    refine pwn ?_
    intros
    exact again_mk (k + 1, out ++ [s.c], v1, v2 + 1) [] (by simp [a3, ho]; omega) (by simp; omega) (by simp [wrN k (by omega)]) rfl (by simp)
  · simp at hc
    have hk' : k = t.length := by omega
    subst hk'
    refine pw_exit ?_
    repeat refine pw_seq ?_
    refine pwn ?_
    intros
    refine pw_frz 1 rfl ?_
    repeat refine pw_seq ?_
    exact pw_ret (ret_pure hd rfl (by simp [ho]))
set_option maxRecDepth 20000 in
theorem loadR_ok (t : List Stop) (ht : t.length ≤ 1048576) : Pure Tryz.prog 55 [.agg [L t]] (I (W (loadZ t))) := by
  refine pwe Tryz.func55 Tryz.ntmps55 Tryz.results55 fun S nx hd => ?_
  repeat refine pw_seq ?_
  refine pwn ?_
  intro v0
  repeat refine pw_seq ?_
  refine pwn ?_
  intros
  repeat refine pw_seq ?_
  refine pwn ?_
  intros
  repeat refine pw_seq ?_
  refine pw_block (pw_loopL (fun s : Nat × Nat => s.1 ≤ t.length) (fun (k, v) => [(1, .ptr nx v 0), (3, I (W (loadZ (t.take k)))), (4, I k)]) (fun (k, v) => [.cells v 66 [L t]]) (fun s => t.length - s.1) (0, v0) [] (by simp) (by simp [loadZ]) (by simp) ?_)
  rintro ⟨k, v1⟩ hk
  simp only at hk ⊢
  repeat refine pw_seq ?_
  refine pwn ?_
  intros
  repeat refine pw_seq ?_
  refine pw_cond rfl (fun hc => ?_) (fun hc => ?_)
  · simp at hc
    obtain ⟨s, tl, a1, a2, a3, e1, e0⟩ := el 2 rfl t k hc
    refine pw_skip (pw_seq (pw_block ?_))
    repeat refine pw_seq ?_
    refine pwN [] (jn2 hc e1) ?_
    intros
    repeat refine pw_seq ?_
    refine pwn ?_
    intros
    exact again_mk (k + 1, v1) [] hc (by simp; omega) (by simp [wrN k (by omega), a3, loadZ_snoc, W_add]) rfl (by simp)
  · simp at hc
    have hk' : k = t.length := by omega
    subst hk'
    refine pw_exit ?_
    repeat refine pw_seq ?_
    refine pwn ?_
    intros
    repeat refine pw_seq ?_
    exact pw_ret (ret_pure hd rfl (by simp))
theorem nodup_snoc (l : List Int) (c : Int) (h : l.Nodup) (hc : c ∉ l) : (l ++ [c]).Nodup := by
  rw [List.nodup_append]; exact ⟨h, by simp, fun a ha b hb e => by simp at hb; subst hb; subst e; exact hc ha⟩
theorem not_nodup_of {l : List Int} {i k : Nat} {c : Int} (hi : l[i]? = some c) (hk : l[k]? = some c) (h : k < i) : ¬ l.Nodup := by
  intro hn
  have := (List.getElem?_inj (List.getElem?_eq_some_iff.1 hi).1 hn).1 (hi.trans hk.symm)
  omega
set_option maxRecDepth 20000 in
theorem twice_ok (l : List Int) (hl : l.length ≤ 1048576) : Pure Tryz.prog 43 [L l] (B (decide (¬ l.Nodup))) := by
  refine pwe Tryz.func43 Tryz.ntmps43 Tryz.results43 fun S nx hd => ?_
  repeat refine pw_seq ?_
  refine pwn ?_
  intros
  repeat refine pw_seq ?_
  refine pwn ?_
  intros
  repeat refine pw_seq ?_
  refine pw_block (pw_loopL (fun i : Nat => i ≤ l.length ∧ (l.take i).Nodup) (fun i => [(0, L l), (3, I i)]) (fun _ => []) (fun i => l.length - i) 0 [] (by simp) (by simp) (by simp) ?_)
  rintro i ⟨hi, hn⟩
  repeat refine pw_seq ?_
  refine pwn ?_
  intros
  repeat refine pw_seq ?_
  refine pw_cond rfl (fun hc => ?_) (fun hc => ?_)
  · simp at hc
    obtain ⟨c, tl, a1, a2, a3, e0⟩ := el1 rfl l i hc
    refine pw_skip (pw_seq (pw_block ?_))
    repeat refine pw_seq ?_
    refine pwn ?_
    intros
    refine pw_block (pw_loopL (fun k : Nat => k ≤ i ∧ c ∉ l.take k) (fun k => [(0, L l), (3, I i), (4, I k)]) (fun _ => []) (fun k => i - k) 0 [] (by simp) (by simp) (by simp) ?_)
    rintro k ⟨hk, hkn⟩
    repeat refine pw_seq ?_
    refine pwn ?_
    intros
    repeat refine pw_seq ?_
    refine pw_cond rfl (fun hc2 => ?_) (fun hc2 => ?_)
    · simp at hc2
      obtain ⟨c', tl', b1, b2, b3, e1⟩ := el1 rfl l k (by omega)
      have hkl : k < l.length := by omega
      refine pw_skip (pw_seq (pw_block ?_))
      repeat refine pw_seq ?_
      refine pwY none (Row.pures [0, 1, 2, 3, 4, 5, 6, 7, 8] .done) mixed (jn4 e0 e1 hc hkl) ?_
      intros
      repeat refine pw_seq ?_
      refine pw_cond rfl (fun hq => ?_) (fun hq => ?_)
      · simp at hq
        subst hq
        repeat refine pw_seq ?_
        refine pwn ?_
        intros
        repeat refine pw_seq ?_
        exact pw_ret (ret_pure hd rfl (by simp [not_nodup_of a1 b1 hc2]))
      · simp at hq
        refine pw_skip ?_
        repeat refine pw_seq ?_
        refine pwn ?_
        intros
        exact again_mk (k + 1) [] ⟨hc2, by rw [b3]; simp [hkn, hq]⟩ (by omega) (by simp [wrN k (by omega)]) rfl (by simp)
    · simp at hc2
      have : k = i := by omega
      subst this
      refine pw_exit ?_
      repeat refine pw_seq ?_
      refine pwn ?_
      intros
      exact again_mk (k + 1) [] ⟨hc, by rw [a3]; exact nodup_snoc _ _ hn hkn⟩ (by omega) (by simp [wrN k (by omega)]) rfl (by simp)
  · simp at hc
    refine pw_exit ?_
    repeat refine pw_seq ?_
    refine pwn ?_
    intros
    rw [List.take_of_length_le hc] at hn
    repeat refine pw_seq ?_
    exact pw_ret (ret_pure hd rfl (by simp [hn]))
open Go
set_option maxRecDepth 20000 in
theorem custP_own (t : List Stop) (ht : t.length ≤ 1048576) (S : Store) (nx : Nat) (hd : DeadFrom nx S) : Spec Tryz.prog 53 [.agg [L t]] S (fun p S' => ∃ v, p = .sl (nx + 1) v 1 0 t.length ∧ S' = S.set (nx + 1) (.cells v 3 ((t.map (·.c)).flatMap Enc.enc))) := by
  refine pwea hd Tryz.func53 Tryz.ntmps53 Tryz.results53 ?_
  repeat refine pw_seq ?_
  refine pwn ?_
  intro v0
  repeat refine pw_seq ?_
  refine pwn ?_
  intros
  refine pw_seq (pw_nilX 3 3 1 rfl fun v1 => ?_)
  repeat refine pw_seq ?_
  refine pwn ?_
  intros
  repeat refine pw_seq ?_
  refine pw_block (pw_loopL (fun s : Nat × List Int × Nat × Nat => s.1 ≤ t.length ∧ s.2.1 = (t.take s.1).map (·.c)) (fun (k, out, v, v2) => [(3, .sl (nx + 1) v2 1 0 out.length), (7, L t), (8, I t.length), (9, I k)]) (fun (k, out, v, v2) => [.cells v 66 [L t], .cells v2 3 (out.flatMap Enc.enc)]) (fun s => t.length - s.1) (0, [], v0, v1) [] (by simp) (by simp) (by simp) ?_)
  rintro ⟨k, out, v1, v2⟩ ⟨hk, ho⟩
  simp only at hk ho ⊢
  repeat refine pw_seq ?_
  refine pwn ?_
  intros
  repeat refine pw_seq ?_
  refine pw_cond rfl (fun hc => ?_) (fun hc => ?_)
  · simp at hc
    obtain ⟨s, tl, a1, a2, a3, e1, e0⟩ := el 2 rfl t k hc
    refine pw_skip (pw_seq (pw_block ?_))
    repeat refine pw_seq ?_
    refine pwN [] (jn2 hc e0) ?_
    intros
    have hl : out.length = k := by rw [ho]; simp; omega
    repeat refine pw_seq ?_
    refine pwn ?_
    refine ⟨by omega, ?_⟩
    intros
    repeat refine pw_seq ?_
    refine pwn ?_
    intros
    exact again_mk (k + 1, out ++ [s.c], v1, v2 + 1) [_] (by simp [a3, ho]; omega) (by simp; omega) (by simp [wrN k (by omega)]) rfl (by simp; rfl)
  · simp at hc
    have hk' : k = t.length := by omega
    subst hk'
    refine pw_exit ?_
    repeat refine pw_seq ?_
    refine pwn ?_
    intros
    refine pw_ret ⟨_, _, rfl, ⟨v2, by simp [ho], rfl⟩, keep_one hd (by simp [ho])⟩
theorem custP_ok (t : List Stop) (ht : t.length ≤ 1048576) : Pure Tryz.prog 53 [.agg [L t]] (L (t.map (·.c))) := by
  have := own_pure 1 (fun S nx hd => custP_own t ht S nx hd) (by simp)
  rw [← List.length_map (f := (·.c))] at this
  exact this
set_option maxRecDepth 20000 in
theorem loadP_ok (t : List Stop) (ht : t.length ≤ 1048576) : Pure Tryz.prog 75 [.agg [L t]] (I (W (loadZ t))) := by
  refine pwe Tryz.func75 Tryz.ntmps75 Tryz.results75 fun S nx hd => ?_
  repeat refine pw_seq ?_
  refine pwn ?_
  intro v0
  repeat refine pw_seq ?_
  refine pwn ?_
  intros
  repeat refine pw_seq ?_
  refine pwn ?_
  intros
  repeat refine pw_seq ?_
  refine pw_block (pw_loopL (fun s : Nat × Nat => s.1 ≤ t.length) (fun (k, v) => [(3, I (W (loadZ (t.take k)))), (7, L t), (8, I t.length), (9, I k)]) (fun (k, v) => [.cells v 66 [L t]]) (fun s => t.length - s.1) (0, v0) [] (by simp) (by simp [loadZ]) (by simp) ?_)
  rintro ⟨k, v1⟩ hk
  simp only at hk ⊢
  repeat refine pw_seq ?_
  refine pwn ?_
  intros
  repeat refine pw_seq ?_
  refine pw_cond rfl (fun hc => ?_) (fun hc => ?_)
  · simp at hc
    obtain ⟨s, tl, a1, a2, a3, e1, e0⟩ := el 2 rfl t k hc
    refine pw_skip (pw_seq (pw_block ?_))
    repeat refine pw_seq ?_
    refine pwN [] (jn2 hc e0) ?_
    intros
    repeat refine pw_seq ?_
    refine pwn ?_
    intros
    repeat refine pw_seq ?_
    refine pwn ?_
    intros
    exact again_mk (k + 1, v1) [_] hc (by simp; omega) (by simp [wrN k (by omega), a3, loadZ_snoc, W_add]) rfl (by simp; rfl)
  · simp at hc
    have hk' : k = t.length := by omega
    subst hk'
    refine pw_exit ?_
    repeat refine pw_seq ?_
    refine pwn ?_
    intros
    repeat refine pw_seq ?_
    exact pw_ret (ret_pure hd rfl (by simp))
set_option maxRecDepth 20000 in
theorem lengthP_ok (x : Inst) (t : List Stop) (ht : t.length ≤ 1048576) (hs : ∀ s ∈ t, small s.c) : Pure Tryz.prog 68 [.agg (instL x), .agg [L t]] (I (W (wayZ x (t.map (·.c))))) := by
  refine pwe Tryz.func68 Tryz.ntmps68 Tryz.results68 fun S nx hd => ?_
  repeat refine pw_seq ?_
  refine pwn ?_
  intros
  repeat refine pw_seq ?_
  refine pwY none (Row.pures [0, 1, 2, 3, 4] .done) mixed trivial ?_
  refine pwP (custP_ok _ ht) trivial ?_
  refine pwP (wayP_ok _ _ (by simpa using ht) (by simpa using hs)) trivial ?_
  intros
  repeat refine pw_seq ?_
  exact pw_ret (ret_pure hd rfl rfl)
def costZ (x : Inst) (d : Day) : Int := (d.map fun t => wayZ x (t.map (·.c))).sum
theorem costZ_snoc (x : Inst) (d : Day) (t : Tour) : costZ x (d ++ [t]) = costZ x d + wayZ x (t.map (·.c)) := by simp [costZ]
structure DayOk (d : Day) : Prop where
  n : d.length ≤ 1048576
  t : ∀ t ∈ d, t.length ≤ 1048576
  s : ∀ t ∈ d, ∀ s ∈ t, small s.c
set_option maxRecDepth 20000 in
theorem costP_ok (x : Inst) (d : Day) (hd' : DayOk d) : Pure Tryz.prog 38 [.agg (instL x), .agg [L d]] (I (W (costZ x d))) := by
  have hn := hd'.n
  refine pwe Tryz.func38 Tryz.ntmps38 Tryz.results38 fun S nx hd => ?_
  repeat refine pw_seq ?_
  refine pwn ?_
  intro v0 v1
  repeat refine pw_seq ?_
  refine pwn ?_
  intros
  repeat refine pw_seq ?_
  refine pwn ?_
  intros
  repeat refine pw_seq ?_
  refine pw_block (pw_loopL (fun s : Nat × Nat × Nat => s.1 ≤ d.length) (fun (k, v, v') => [(2, .ptr nx v 0), (5, I (W (costZ x (d.take k)))), (9, L d), (10, I d.length), (11, I k)]) (fun (k, v, v') => [.cells v 25 (instL x), .cells v' 35 [L d]]) (fun s => d.length - s.1) (0, v0, v1) [] (by simp) (by simp [costZ]) (by simp) ?_)
  rintro ⟨k, v1, v2⟩ hk
  simp only at hk ⊢
  repeat refine pw_seq ?_
  refine pwn ?_
  intros
  repeat refine pw_seq ?_
  refine pw_cond rfl (fun hc => ?_) (fun hc => ?_)
  · simp at hc
    obtain ⟨t, tl, a1, a2, a3, e0⟩ := el1 rfl d k hc
    have htd := List.mem_of_getElem? a1
    refine pw_skip (pw_seq (pw_block ?_))
    repeat refine pw_seq ?_
    refine pwN [] (jn2 hc e0) ?_
    intros
    repeat refine pw_seq ?_
    refine pwn ?_
    refine pwc (lengthP_ok _ _ (hd'.t t htd) (hd'.s t htd)) ?_
    intros
    repeat refine pw_seq ?_
    refine pwn ?_
    intros
    exact again_mk (k + 1, v1, v2) [_] hc (by simp; omega) (by simp [wrN k (by omega), a3, costZ_snoc, W_add, W_add']) rfl (by simp; rfl)
  · simp at hc
    have hk' : k = d.length := by omega
    subst hk'
    refine pw_exit ?_
    repeat refine pw_seq ?_
    refine pwn ?_
    intros
    repeat refine pw_seq ?_
    exact pw_ret (ret_pure hd rfl (by simp))
set_option maxRecDepth 20000 in
theorem stopsP_ok (d : Day) (hn : d.length ≤ 1048576) (hf : d.flatten.length ≤ 1048576) : Pure Tryz.prog 67 [.agg [L d]] (L d.flatten) := by
  refine pwe Tryz.func67 Tryz.ntmps67 Tryz.results67 fun S nx hd => ?_
  repeat refine pw_seq ?_
  refine pwn ?_
  intro v0
  repeat refine pw_seq ?_
  refine pwn ?_
  intros
  refine pw_seq (pw_nilX 3 43 2 rfl fun v1 => ?_)
  repeat refine pw_seq ?_
  refine pwn ?_
  intros
  repeat refine pw_seq ?_
  refine pw_block (pw_loopL (fun s : Nat × List Stop × Nat × Nat => s.1 ≤ d.length ∧ s.2.1 = (d.take s.1).flatten) (fun (k, out, v, v2) => [(3, .sl (nx + 1) v2 2 0 out.length), (7, L d), (8, I d.length), (9, I k)]) (fun (k, out, v, v2) => [.cells v 35 [L d], .cells v2 43 (out.flatMap Enc.enc)]) (fun s => d.length - s.1) (0, [], v0, v1) [] (by simp) (by simp) (by simp) ?_)
  rintro ⟨k, out, v1, v2⟩ ⟨hk, ho⟩
  simp only at hk ho ⊢
  repeat refine pw_seq ?_
  refine pwn ?_
  intros
  repeat refine pw_seq ?_
  refine pw_cond rfl (fun hc => ?_) (fun hc => ?_)
  · simp at hc
    obtain ⟨t, tl, a1, a2, a3, e0⟩ := el1 rfl d k hc
    refine pw_skip (pw_seq (pw_block ?_))
    repeat refine pw_seq ?_
    refine pwN [] (jn2 hc e0) ?_
    intros
    have hl : out.length + t.length ≤ 1048576 := by
      have : (out ++ t).length ≤ d.flatten.length := by
        have e : d.flatten = (d.take (k + 1)).flatten ++ (d.drop (k + 1)).flatten := by rw [← List.flatten_append, List.take_append_drop]
        rw [e, a3]; simp [ho]
      simp only [List.length_append] at this; omega
    repeat refine pw_seq ?_
    refine pwn ?_
    refine ⟨by omega, ?_⟩
    intros
    repeat refine pw_seq ?_
    refine pwn ?_
    intros
    exact again_mk (k + 1, out ++ t, v1, v2 + 1) [_] (by simp [a3, ho]; omega) (by simp; omega) (by simp [wrN k (by omega)]) rfl (by simp; rfl)
  · simp at hc
    have hk' : k = d.length := by omega
    subst hk'
    refine pw_exit ?_
    repeat refine pw_seq ?_
    refine pwn ?_
    intros
    refine pw_frz 1 rfl ?_
    repeat refine pw_seq ?_
    exact pw_ret (ret_pure hd rfl (by simp [ho]))
open Go
def goodS (x : Inst) (s : Stop) : Bool := decide (0 ≤ s.c ∧ s.c < x.cust.length ∧ 1 ≤ s.q ∧ s.q ≤ 2147483648)
def stopsB (x : Inst) (t : Tour) : Bool := t.all (goodS x) && !t.isEmpty
def mayT (x : Inst) (t : Tour) : Int :=
  if stopsB x t = false then 1 else if ¬ (t.map (·.c)).Nodup then 11 else if x.cap < W (loadZ t) then 12 else if x.len < W (wayZ x (t.map (·.c))) then 13 else 0
theorem mayT_bad {x : Inst} {t : Tour} {s : Stop} {k : Nat} (h : t[k]? = some s) (hb : ¬ (0 ≤ s.c ∧ s.c < x.cust.length ∧ 1 ≤ s.q ∧ s.q ≤ 2147483648)) : mayT x t = 1 := by
  unfold mayT
  rw [if_pos]
  unfold stopsB
  have : t.all (goodS x) = false := by
    rw [List.all_eq_false]; exact ⟨s, List.mem_of_getElem? h, by simp [goodS]; omega⟩
  rw [this]; rfl
theorem all_snoc {x : Inst} {t : Tour} {k : Nat} {s : Stop} (h : (t.take k).all (goodS x) = true) (ht : t.take (k + 1) = t.take k ++ [s]) (hs : 0 ≤ s.c ∧ s.c < x.cust.length ∧ 1 ≤ s.q ∧ s.q ≤ 2147483648) : (t.take (k + 1)).all (goodS x) = true := by
  rw [ht, List.all_append, h]; simp [goodS]; omega
theorem small_of {x : Inst} {t : Tour} (hx : x.cust.length ≤ 1048576) (h : t.all (goodS x) = true) : ∀ s ∈ t, small s.c := by
  intro s hs
  have := List.all_eq_true.1 h s hs
  simp [goodS] at this
  unfold small; omega
set_option maxRecDepth 10000 in
theorem mayR_ok (x : Inst) (t : Tour) (hx : x.cust.length ≤ 1048576) (ht : t.length ≤ 1048576) : Pure Tryz.prog 35 [.agg (instL x), .agg [L t]] (I (mayT x t)) := by
  refine pwe Tryz.func35 Tryz.ntmps35 Tryz.results35 fun S nx hd => ?_
  repeat refine pw_seq ?_
  refine pwn ?_
  intro v0 v1
  by_cases he : t = []
  · subst he
    repeat refine pw_seq ?_
    refine pwn ?_
    intros
    repeat refine pw_seq ?_
    refine pw_ct rfl ?_
    repeat refine pw_seq ?_
    refine pwn ?_
    intros
    repeat refine pw_seq ?_
    exact pw_ret (ret_pure hd rfl rfl)
  have he' : ¬ t.length = 0 := by simpa using he
  repeat refine pw_seq ?_
  refine pwN [] (jn2 he he') ?_
  intros
  repeat refine pw_seq ?_
  refine pw_cf rfl ?_
  refine pw_skip ?_
  repeat refine pw_seq ?_
  refine pwn ?_
  intros
  repeat refine pw_seq ?_
  refine pw_block (pw_loopL (fun s : Nat × Nat × Nat => s.1 ≤ t.length ∧ (t.take s.1).all (goodS x) = true) (fun (k, v, v') => [(2, .ptr nx v 0), (3, .ptr (nx + 1) v' 0), (5, I k)]) (fun (k, v, v') => [.cells v 25 (instL x), .cells v' 66 [L t]]) (fun s => t.length - s.1) (0, v0, v1) [] (by simp) (by simp) (by simp) ?_)
  rintro ⟨k, v0, v1⟩ ⟨hk, ha⟩
  simp only at hk ha ⊢
  repeat refine pw_seq ?_
  refine pwn ?_
  intros
  repeat refine pw_seq ?_
  refine pw_cond rfl (fun hc => ?_) (fun hc => ?_)
  · simp at hc
    obtain ⟨s, tl, a1, a2, a3, e1, e0⟩ := el 2 rfl t k hc
    refine pw_skip (pw_seq (pw_block ?_))
    repeat refine pw_seq ?_
    refine pwN [] (jn2 hc e0) ?_
    intros
    by_cases h1 : s.c < 0
    · repeat refine pw_seq ?_
      refine pwN [(3, 27), (11, 35), (16, 40)] (jn2 h1 undef_eq) ?_
      intros
      repeat refine pw_seq ?_
      refine pw_ct rfl ?_
      repeat refine pw_seq ?_
      refine pwn ?_
      intros
      repeat refine pw_seq ?_
      exact pw_ret (ret_pure hd rfl (by rw [mayT_bad a1 (by omega)]; rfl))
    by_cases h2 : (x.cust.length : Int) ≤ s.c
    · repeat refine pw_seq ?_
      refine pwN [(3, 27), (11, 35), (16, 40)] (jn3 h2 h1 undef_eq) ?_
      intros
      repeat refine pw_seq ?_
      refine pw_ct rfl ?_
      repeat refine pw_seq ?_
      refine pwn ?_
      intros
      repeat refine pw_seq ?_
      exact pw_ret (ret_pure hd rfl (by rw [mayT_bad a1 (by omega)]; rfl))
    by_cases h3 : s.q < 1
    · repeat refine pw_seq ?_
      refine pwN [(3, 27), (11, 35), (16, 40)] (jn4 h3 h1 h2 undef_eq) ?_
      intros
      repeat refine pw_seq ?_
      refine pw_ct rfl ?_
      repeat refine pw_seq ?_
      refine pwn ?_
      intros
      repeat refine pw_seq ?_
      exact pw_ret (ret_pure hd rfl (by rw [mayT_bad a1 (by omega)]; rfl))
    by_cases h4 : 2147483648 < s.q
    · repeat refine pw_seq ?_
      refine pwN [(3, 27), (11, 35), (16, 40)] (jn5 h4 h1 h2 h3 undef_eq) ?_
      intros
      repeat refine pw_seq ?_
      refine pw_ct rfl ?_
      repeat refine pw_seq ?_
      refine pwn ?_
      intros
      repeat refine pw_seq ?_
      exact pw_ret (ret_pure hd rfl (by rw [mayT_bad a1 (by omega)]; rfl))
    repeat refine pw_seq ?_
    refine pwN [(3, 27), (11, 35), (16, 40)] (jn4 h1 h2 h3 h4) ?_
    intros
    repeat refine pw_seq ?_
    refine pw_cf rfl ?_
    refine pw_skip ?_
    repeat refine pw_seq ?_
    refine pwn ?_
    intros
    exact again_mk (k + 1, v0, v1) [_] ⟨hc, all_snoc ha a3 (by omega)⟩ (by simp; omega) (by simp [wrN k (by omega)]) rfl (by simp; rfl)
  · simp at hc
    have hk' : k = t.length := by omega
    subst hk'
    rw [List.take_length] at ha
    have hst : stopsB x t = true := by unfold stopsB; rw [ha]; simp [he]
    refine pw_exit ?_
    repeat refine pw_seq ?_
    refine pwn ?_
    refine pwc (custR_ok _ ht) ?_
    intros
    repeat refine pw_seq ?_
    refine pwn ?_
    refine pwc (twice_ok _ (by simpa using ht)) ?_
    intros
    by_cases hn : (t.map (·.c)).Nodup
    · refine pw_cf (by simp [hn]) ?_
      refine pw_skip ?_
      repeat refine pw_seq ?_
      refine pwY none (Row.pures [0, 1, 2, 3, 4] .done) mixed trivial ?_
      refine pwP (loadR_ok _ ht) trivial ?_
      intros
      repeat refine pw_seq ?_
      refine pw_cond rfl (fun h5 => ?_) (fun h5 => ?_)
      · simp at h5
        repeat refine pw_seq ?_
        refine pwn ?_
        intros
        repeat refine pw_seq ?_
        exact pw_ret (ret_pure hd rfl (by simp [mayT, hst, hn, h5]))
      · simp at h5
        refine pw_skip ?_
        repeat refine pw_seq ?_
        refine pwY none (Row.pures [0, 1, 2, 3, 4, 5] .done) mixed trivial ?_
        refine pwP (wayR_ok _ _ (by simpa using ht) (by simpa using small_of hx ha)) trivial ?_
        intros
        repeat refine pw_seq ?_
        refine pw_cond rfl (fun h6 => ?_) (fun h6 => ?_)
        · simp at h6
          repeat refine pw_seq ?_
          refine pwn ?_
          intros
          repeat refine pw_seq ?_
          exact pw_ret (ret_pure hd rfl (by simp [mayT, hst, hn, h6, Int.not_lt.2 h5]))
        · simp at h6
          refine pw_skip ?_
          repeat refine pw_seq ?_
          refine pwn ?_
          intros
          repeat refine pw_seq ?_
          exact pw_ret (ret_pure hd rfl (by simp [mayT, hst, hn, Int.not_lt.2 h6, Int.not_lt.2 h5]))
    · refine pw_ct (by simp [hn]) ?_
      repeat refine pw_seq ?_
      refine pwn ?_
      intros
      repeat refine pw_seq ?_
      exact pw_ret (ret_pure hd rfl (by simp [mayT, hst, hn]))
open Go
theorem sortZ_le (l : List Int) : (sortZ l).Pairwise (· ≤ ·) := by
  have := List.pairwise_mergeSort (le := fun x y : Int => decide (x ≤ y)) (fun a b c h1 h2 => by simp at *; omega) (fun a b => by simp; omega) l
  simpa using this
theorem sortZ_perm (l : List Int) : (sortZ l).Perm l := List.mergeSort_perm l _
theorem sortZ_nodup (l : List Int) : (sortZ l).Nodup ↔ l.Nodup := (sortZ_perm l).nodup_iff
theorem nodup_step {z : List Int} {j : Nat} {p c : Int} (hz : z.Pairwise (· ≤ ·)) (hn : (z.take (j + 1)).Nodup) (h1 : z.take (j + 1) = z.take j ++ [p]) (h2 : z.take (j + 1 + 1) = z.take (j + 1) ++ [c]) (hpc : p ≠ c) : (z.take (j + 1 + 1)).Nodup := by
  rw [h2]
  refine nodup_snoc _ _ hn fun hc => ?_
  have hs : (z.take (j + 1 + 1)).Pairwise (· ≤ ·) := hz.sublist (List.take_sublist _ _)
  rw [h2, h1, List.append_assoc, List.pairwise_append] at hs
  rw [h1, List.mem_append] at hc
  rcases hc with hc | hc
  · have a1 := hs.2.2 c hc p (by simp)
    have a2 := (List.pairwise_cons.1 hs.2.1).1 c (by simp)
    omega
  · simp at hc; exact hpc hc.symm
set_option maxRecDepth 10000 in
theorem unlike_ok {S : Store} {id ver : Nat} (zs : List Int) (hid : S id = .cells ver 3 (zs.flatMap Enc.enc)) (hn : zs.length ≤ 1048576) :
    Spec Tryz.prog 66 [.sl id ver 1 0 zs.length] S (fun p S' => p = B (decide zs.Nodup) ∧ S' = S.set id .dead) := by
  refine pwes Tryz.func66 Tryz.ntmps66 Tryz.results66 fun nx hd => ?_
  have hlt : id < nx := by
    rcases Nat.lt_or_ge id nx with h | h
    · exact h
    · rw [hd id h] at hid; cases hid
  repeat refine pw_seq ?_
  refine pwn ?_
  intros
  repeat refine pw_seq ?_
  refine pw_N [] (by rfl) (by rfl) fun K Gc Gh hK hGc hGh X hX0 hX => ?_
  simp -implicitDefEqProofs [hX0, hX]
  try clear hX0 hX X
  refine hGc _ _ _ _ _ _ _ fun hsuf => ((sort_ok zs (by rw [ext_old hlt]; exact hid) hn).mono ?_).v
  rintro p _ rfl
  refine ⟨S.set id (.cells ver 3 ((sortZ zs).flatMap Enc.enc)), [], ext_set_old _ hlt, ?_⟩
  clear hGc hGh
  clear Gc Gh
  refine xs_go hsuf (D := []) (by rfl) fun Gc Gh hGc hGh X hX0 hX => ?_
  simp -implicitDefEqProofs [hX0, hX]
  clear hX0 hX X
  intros
  refine hK _ _ _ ?_
  clear hK hGc hGh
  clear K Gc Gh
  generalize hz : sortZ zs = z
  have hzl : zs.length = z.length := by rw [← hz, sortZ_len]
  have hzs : z.Pairwise (· ≤ ·) := by rw [← hz]; exact sortZ_le zs
  have hfin : ∀ o, S.set id .dead o = ext (S.set id (.cells ver 3 (z.flatMap Enc.enc))) nx [] o ∨ S.set id .dead o = .dead := by
    intro o
    by_cases ho : o = id
    · subst ho; exact .inr (Store.set_same _ _ _)
    · rw [Store.set_other _ _ _ _ ho]
      by_cases h2 : o < nx
      · rw [ext_old h2, Store.set_other _ _ _ _ ho]; exact .inl rfl
      · exact .inr (hd o (by omega))
  have hS1 : (S.set id (.cells ver 3 (z.flatMap Enc.enc))) id = .cells ver 3 (z.flatMap Enc.enc) := Store.set_same _ _ _
  have hres : decide zs.Nodup = decide z.Nodup := by rw [← hz, decide_eq_decide, sortZ_nodup]
  rw [hres]
  have hzn : z.length ≤ 1048576 := by omega
  rw [hzl]
  generalize S.set id (.cells ver 3 (z.flatMap Enc.enc)) = S1 at *
  have hx1 := ext_old (S := S1) (obs := []) hlt
  repeat refine pw_seq ?_
  refine pwn ?_
  intros
  repeat refine pw_seq ?_
  refine pw_block (pw_loopL (fun j : Nat => (j = 0 ∨ j + 1 ≤ z.length) ∧ (z.take (j + 1)).Nodup) (fun j => [(0, .sl id ver 1 0 z.length), (3, I ((j + 1 : Nat) : Int))]) (fun _ => []) (fun j => z.length - j) 0 [] (by cases z <;> simp) (by simp) (by simp) ?_)
  rintro j ⟨hj, hjn⟩
  repeat refine pw_seq ?_
  refine pwn ?_
  intros
  repeat refine pw_seq ?_
  refine pw_cond rfl (fun hc => ?_) (fun hc => ?_)
  · simp at hc
    have hc' : j + 1 < z.length := by omega
    obtain ⟨c, tl1, b1, b2, b3, e1⟩ := el1 rfl z (j + 1) hc'
    obtain ⟨p, tl2, d1, d2, d3, e2⟩ := el1 rfl z j (by omega)
    have wj : IntKind.i64.wrap (j : Int) = j := wr _ (by omega) (by omega)
    have g1 : (j : Int) < z.length := by omega
    have g2 : (j : Int) + 1 < z.length := by omega
    have g3 : 0 ≤ (j : Int) + 1 := by omega
    refine pw_skip (pw_seq (pw_block ?_))
    repeat refine pw_seq ?_
    refine pwY none (Row.pures [0, 1, 2, 3, 4, 5, 6, 7, 8, 9] .done) mixed (jn6 hx1 hS1 wj e1 e2 (jn3 g1 g2 g3)) ?_
    intros
    repeat refine pw_seq ?_
    refine pw_cond rfl (fun hq => ?_) (fun hq => ?_)
    · simp at hq
      repeat refine pw_seq ?_
      refine pwn ?_
      intros
      exact pw_ret ⟨_, _, rfl, ⟨by simp; exact not_nodup_of b1 (by rw [d1, hq]) (by omega), rfl⟩, hfin⟩
    · simp at hq
      refine pw_skip ?_
      repeat refine pw_seq ?_
      refine pwn ?_
      intros
      have w2 : IntKind.i64.wrap ((j : Int) + 1 + 1) = ((j + 1 + 1 : Nat) : Int) := by rw [wr _ (by omega) (by omega)]; omega
      exact again_mk (j + 1) [] ⟨by omega, nodup_step hzs hjn d3 b3 (fun e => hq e.symm)⟩ (by omega) (by simp [w2]) rfl (by simp)
  · simp at hc
    refine pw_exit ?_
    repeat refine pw_seq ?_
    refine pwn ?_
    intros
    rw [List.take_of_length_le (by omega)] at hjn
    exact pw_ret ⟨_, _, rfl, ⟨by simp [hjn], rfl⟩, hfin⟩
open Go
abbrev viewL (x : Inst) (t : Tour) : List PV := [I x.days, I x.veh, I x.cap, I x.len, L x.cust, L x.dist, L t]
set_option maxRecDepth 10000 in
theorem vstops_ok (x : Inst) (t : Tour) (ht : t.length ≤ 1048576) : Pure Tryz.prog 84 [.agg (viewL x t)] (B (stopsB x t)) := by
  have bad : ∀ {k : Nat} {s : Stop}, t[k]? = some s → ¬ (0 ≤ s.c ∧ s.c < x.cust.length ∧ 1 ≤ s.q ∧ s.q ≤ 2147483648) → stopsB x t = false := by
    intro k s h hb
    unfold stopsB
    have : t.all (goodS x) = false := by
      rw [List.all_eq_false]; exact ⟨s, List.mem_of_getElem? h, by simp [goodS]; omega⟩
    rw [this]; rfl
  refine pwe Tryz.func84 Tryz.ntmps84 Tryz.results84 fun S nx hd => ?_
  repeat refine pw_seq ?_
  refine pwn ?_
  intro v0
  repeat refine pw_seq ?_
  refine pwn ?_
  intros
  repeat refine pw_seq ?_
  refine pw_block (pw_loopL (fun s : Nat × Nat => s.1 ≤ t.length ∧ (t.take s.1).all (goodS x) = true) (fun (k, v) => [(1, .ptr nx v 0), (7, L t), (8, I t.length), (9, I k)]) (fun (k, v) => [.cells v 101 (viewL x t)]) (fun s => t.length - s.1) (0, v0) [] (by simp) (by simp) (by simp) ?_)
  rintro ⟨k, v0⟩ ⟨hk, ha⟩
  simp only at hk ha ⊢
  repeat refine pw_seq ?_
  refine pwn ?_
  intros
  repeat refine pw_seq ?_
  refine pw_cond rfl (fun hc => ?_) (fun hc => ?_)
  · simp at hc
    obtain ⟨s, tl, a1, a2, a3, e1, e0⟩ := el 2 rfl t k hc
    refine pw_skip (pw_seq (pw_block ?_))
    repeat refine pw_seq ?_
    refine pwN [] (jn2 hc e0) ?_
    intros
    by_cases h1 : s.c < 0
    · repeat refine pw_seq ?_
      refine pwN [(3, 16)] (jn2 h1 undef_eq) ?_
      intros
      repeat refine pw_seq ?_
      refine pw_ct rfl ?_
      repeat refine pw_seq ?_
      refine pwn ?_
      intros
      repeat refine pw_seq ?_
      exact pw_ret (ret_pure hd rfl (by rw [bad a1 (by omega)]; rfl))
    by_cases h2 : (x.cust.length : Int) ≤ s.c
    · repeat refine pw_seq ?_
      refine pwN [(3, 16)] (jn3 h2 h1 undef_eq) ?_
      intros
      repeat refine pw_seq ?_
      refine pw_ct rfl ?_
      repeat refine pw_seq ?_
      refine pwn ?_
      intros
      repeat refine pw_seq ?_
      exact pw_ret (ret_pure hd rfl (by rw [bad a1 (by omega)]; rfl))
    repeat refine pw_seq ?_
    refine pwN [(3, 16)] (jn2 h1 h2) ?_
    intros
    repeat refine pw_seq ?_
    refine pw_cf rfl ?_
    refine pw_skip ?_
    by_cases h3 : s.q < 1
    · repeat refine pw_seq ?_
      refine pwN [(3, 28)] (jn2 h3 undef_eq) ?_
      intros
      repeat refine pw_seq ?_
      refine pw_ct rfl ?_
      repeat refine pw_seq ?_
      refine pwn ?_
      intros
      repeat refine pw_seq ?_
      exact pw_ret (ret_pure hd rfl (by rw [bad a1 (by omega)]; rfl))
    by_cases h4 : 2147483648 < s.q
    · repeat refine pw_seq ?_
      refine pwN [(3, 28)] (jn3 h4 h3 undef_eq) ?_
      intros
      repeat refine pw_seq ?_
      refine pw_ct rfl ?_
      repeat refine pw_seq ?_
      refine pwn ?_
      intros
      repeat refine pw_seq ?_
      exact pw_ret (ret_pure hd rfl (by rw [bad a1 (by omega)]; rfl))
    repeat refine pw_seq ?_
    refine pwN [(3, 28)] (jn2 h3 h4) ?_
    intros
    repeat refine pw_seq ?_
    refine pw_cf rfl ?_
    refine pw_skip ?_
    repeat refine pw_seq ?_
    refine pwn ?_
    intros
    exact again_mk (k + 1, v0) [_] ⟨hc, all_snoc ha a3 (by omega)⟩ (by simp; omega) (by simp [wrN k (by omega)]) rfl (by simp; rfl)
  · simp at hc
    have hk' : k = t.length := by omega
    subst hk'
    rw [List.take_length] at ha
    refine pw_exit ?_
    repeat refine pw_seq ?_
    refine pwn ?_
    intros
    repeat refine pw_seq ?_
    exact pw_ret (ret_pure hd rfl (by cases t with | nil => rfl | cons a t => simp [stopsB, ha]))
set_option maxRecDepth 20000 in
theorem vonce_ok (x : Inst) (t : Tour) (ht : t.length ≤ 1048576) : Pure Tryz.prog 85 [.agg (viewL x t)] (B (decide (t.map (·.c)).Nodup)) := by
  refine pwe Tryz.func85 Tryz.ntmps85 Tryz.results85 fun S nx hd => ?_
  repeat refine pw_seq ?_
  refine pwn ?_
  intro v0
  repeat refine pw_seq ?_
  refine pw_N [] (by rfl) (by rfl) fun K Gc Gh hK hGc hGh X hX0 hX => ?_
  simp -implicitDefEqProofs [hX0, hX]
  try clear hX0 hX X
  refine hGc _ _ _ _ _ _ _ fun hsuf => ((custP_own t ht _ _ ext_dead).mono ?_).v
  rintro _ _ ⟨v1, rfl, rfl⟩
  refine ⟨_, _, ext_push1 _, ?_⟩
  clear hGc hGh
  clear Gc Gh
  refine xs_go hsuf (D := []) (by rfl) fun Gc Gh hGc hGh X hX0 hX => ?_
  simp -implicitDefEqProofs [hX0, hX, Nat.add_assoc]
  clear hX0 hX X
  rw [← List.length_map (f := fun s : Stop => s.c)]
  refine hGc _ _ _ _ _ _ _ fun hsuf => ((unlike_ok _ (by simp) (by simpa using ht)).mono ?_).v
  rintro _ _ ⟨rfl, rfl⟩
  refine ⟨_, _, ext_set _ (by simp) (by simp), ?_⟩
  clear hGc hGh
  clear Gc Gh
  refine xs_go hsuf (D := []) (by rfl) fun Gc Gh hGc hGh X hX0 hX => ?_
  simp -implicitDefEqProofs [hX0, hX]
  clear hX0 hX X
  intros
  refine hK _ _ _ ?_
  clear hK hGc hGh
  clear K Gc Gh
  repeat refine pw_seq ?_
  exact pw_ret (ret_pure hd rfl rfl)
set_option maxRecDepth 20000 in
theorem vlight_ok (x : Inst) (t : Tour) (ht : t.length ≤ 1048576) : Pure Tryz.prog 86 [.agg (viewL x t)] (B (decide (W (loadZ t) ≤ x.cap))) := by
  refine pwe Tryz.func86 Tryz.ntmps86 Tryz.results86 fun S nx hd => ?_
  repeat refine pw_seq ?_
  refine pwn ?_
  intro v0
  repeat refine pw_seq ?_
  refine pwY none (Row.pures [0, 1, 2, 3, 4, 5, 6, 7] .done) mixed trivial ?_
  refine pwP (loadP_ok _ ht) trivial ?_
  intros
  repeat refine pw_seq ?_
  exact pw_ret (ret_pure hd rfl rfl)
set_option maxRecDepth 20000 in
theorem vshort_ok (x : Inst) (t : Tour) (ht : t.length ≤ 1048576) (hs : ∀ s ∈ t, small s.c) : Pure Tryz.prog 87 [.agg (viewL x t)] (B (decide (W (wayZ x (t.map (·.c))) ≤ x.len))) := by
  refine pwe Tryz.func87 Tryz.ntmps87 Tryz.results87 fun S nx hd => ?_
  repeat refine pw_seq ?_
  refine pwn ?_
  intro v0
  repeat refine pw_seq ?_
  refine pwY none (Row.pures [0, 1, 2, 3, 4, 5, 6, 7, 8, 9] .done) mixed trivial ?_
  refine pwP (lengthP_ok _ _ ht hs) trivial ?_
  intros
  repeat refine pw_seq ?_
  exact pw_ret (ret_pure hd rfl rfl)
abbrev rulesL : List PV := [.fn (.func 84) [] [], I 1, .fn (.func 85) [] [], I 11, .fn (.func 86) [] [], I 12, .fn (.func 87) [] [], I 13]
set_option maxRecDepth 20000 in
theorem rules_ok : Pure Tryz.prog 52 [] (.lst 4 rulesL) := by
  refine pwe Tryz.func52 Tryz.ntmps52 Tryz.results52 fun S nx hd => ?_
  repeat refine pw_seq ?_
  refine pwn ?_
  intros
  repeat refine pw_seq ?_
  refine pwn ?_
  intros
  repeat refine pw_seq ?_
  exact pw_ret (ret_pure hd rfl rfl)
set_option maxRecDepth 10000 in
theorem mayP_ok (x : Inst) (t : Tour) (hx : x.cust.length ≤ 1048576) (ht : t.length ≤ 1048576) : Pure Tryz.prog 31 [.agg (instL x), .agg [L t]] (I (mayT x t)) := by
  refine pwe Tryz.func31 Tryz.ntmps31 Tryz.results31 fun S nx hd => ?_
  repeat refine pw_seq ?_
  refine pwn ?_
  intro v0 v1
  repeat refine pw_seq ?_
  refine pwn ?_
  refine pwc rules_ok ?_
  intros
  repeat refine pw_seq ?_
  refine pw_block (pw_loopL (fun s : Nat × Nat × Nat => s.1 ≤ 4 ∧ (1 ≤ s.1 → stopsB x t = true) ∧ (2 ≤ s.1 → (t.map (·.c)).Nodup) ∧ (3 ≤ s.1 → W (loadZ t) ≤ x.cap) ∧ (4 ≤ s.1 → W (wayZ x (t.map (·.c))) ≤ x.len)) (fun (k, v, v') => [(2, .ptr nx v 0), (3, .ptr (nx + 1) v' 0), (7, .lst 4 rulesL), (8, I 4), (9, I k)]) (fun (k, v, v') => [.cells v 25 (instL x), .cells v' 66 [L t]]) (fun s => 4 - s.1) (0, v0, v1) [] (by simp) (by simp) (by simp) ?_)
  rintro ⟨k, v0, v1⟩ ⟨hk, i1, i2, i3, i4⟩
  simp only at hk i1 i2 i3 i4 ⊢
  have hsm : 1 ≤ k → ∀ s ∈ t, small s.c := fun h => small_of hx (by have := i1 h; unfold stopsB at this; simp only [Bool.and_eq_true] at this; exact this.1)
  match k, hk with
  | 0, _ =>
    repeat refine pw_seq ?_
    refine pwn ?_
    intros
    repeat refine pw_seq ?_
    refine pw_ct rfl ?_
    refine pw_skip (pw_seq (pw_block ?_))
    repeat refine pw_seq ?_
    refine pwn ?_
    intros
    repeat refine pw_seq ?_
    refine pwn ?_
    refine pwc (vstops_ok x t ht) ?_
    intros
    repeat refine pw_seq ?_
    refine pw_cond rfl (fun h1 => ?_) (fun h1 => ?_)
    · simp at h1
      repeat refine pw_seq ?_
      refine pwn ?_
      intros
      repeat refine pw_seq ?_
      exact pw_ret (ret_pure hd rfl (by simp [mayT, h1]))
    · simp at h1
      refine pw_skip ?_
      repeat refine pw_seq ?_
      refine pwn ?_
      intros
      exact again_mk (1, v0, v1) [_] (by simp [h1]) (by simp) (by simp; rfl) rfl (by simp; rfl)
  | 1, _ =>
    repeat refine pw_seq ?_
    refine pwn ?_
    intros
    repeat refine pw_seq ?_
    refine pw_ct rfl ?_
    refine pw_skip (pw_seq (pw_block ?_))
    repeat refine pw_seq ?_
    refine pwn ?_
    intros
    repeat refine pw_seq ?_
    refine pwn ?_
    refine pwc (vonce_ok x t ht) ?_
    intros
    repeat refine pw_seq ?_
    refine pw_cond rfl (fun h1 => ?_) (fun h1 => ?_)
    · simp at h1
      repeat refine pw_seq ?_
      refine pwn ?_
      intros
      repeat refine pw_seq ?_
      exact pw_ret (ret_pure hd rfl (by simp [mayT, h1, i1 (by omega)]))
    · simp at h1
      refine pw_skip ?_
      repeat refine pw_seq ?_
      refine pwn ?_
      intros
      exact again_mk (2, v0, v1) [_] (by simp [h1, i1 (by omega)]) (by simp) (by simp; rfl) rfl (by simp; rfl)
  | 2, _ =>
    repeat refine pw_seq ?_
    refine pwn ?_
    intros
    repeat refine pw_seq ?_
    refine pw_ct rfl ?_
    refine pw_skip (pw_seq (pw_block ?_))
    repeat refine pw_seq ?_
    refine pwn ?_
    intros
    repeat refine pw_seq ?_
    refine pwn ?_
    refine pwc (vlight_ok x t ht) ?_
    intros
    repeat refine pw_seq ?_
    refine pw_cond rfl (fun h1 => ?_) (fun h1 => ?_)
    · simp at h1
      repeat refine pw_seq ?_
      refine pwn ?_
      intros
      repeat refine pw_seq ?_
      exact pw_ret (ret_pure hd rfl (by simp [mayT, h1, i1 (by omega), i2 (by omega)]))
    · simp at h1
      refine pw_skip ?_
      repeat refine pw_seq ?_
      refine pwn ?_
      intros
      exact again_mk (3, v0, v1) [_] (by simp [h1, i1 (by omega), i2 (by omega)]) (by simp) (by simp; rfl) rfl (by simp; rfl)
  | 3, _ =>
    repeat refine pw_seq ?_
    refine pwn ?_
    intros
    repeat refine pw_seq ?_
    refine pw_ct rfl ?_
    refine pw_skip (pw_seq (pw_block ?_))
    repeat refine pw_seq ?_
    refine pwn ?_
    intros
    repeat refine pw_seq ?_
    refine pwn ?_
    refine pwc (vshort_ok x t ht (hsm (by omega))) ?_
    intros
    have h3 := Int.not_lt.2 (i3 (by omega))
    repeat refine pw_seq ?_
    refine pw_cond rfl (fun h1 => ?_) (fun h1 => ?_)
    · simp at h1
      repeat refine pw_seq ?_
      refine pwn ?_
      intros
      repeat refine pw_seq ?_
      exact pw_ret (ret_pure hd rfl (by simp [mayT, h1, i1 (by omega), i2 (by omega), h3]))
    · simp at h1
      refine pw_skip ?_
      repeat refine pw_seq ?_
      refine pwn ?_
      intros
      exact again_mk (4, v0, v1) [_] (by simp [h1, i1 (by omega), i2 (by omega), i3 (by omega)]) (by simp) (by simp; rfl) rfl (by simp; rfl)
  | 4, _ =>
    repeat refine pw_seq ?_
    refine pwn ?_
    intros
    repeat refine pw_seq ?_
    refine pw_cf rfl ?_
    refine pw_exit ?_
    repeat refine pw_seq ?_
    refine pwn ?_
    intros
    repeat refine pw_seq ?_
    exact pw_ret (ret_pure hd rfl (by simp [mayT, i1 (by omega), i2 (by omega), Int.not_lt.2 (i3 (by omega)), Int.not_lt.2 (i4 (by omega))]))
open Go
def dayT (x : Inst) (d : Day) : Int :=
  match d.find? (fun t => mayT x t != 0) with
  | some t => mayT x t
  | none => if ¬ (d.flatten.map (·.c)).Nodup then 11 else if x.veh < d.length then 14 else 0
theorem find_none_snoc {α : Type} {p : α → Bool} {l : List α} {k : Nat} {a : α} (h : (l.take k).find? p = none) (ht : l.take (k + 1) = l.take k ++ [a]) (ha : p a = false) : (l.take (k + 1)).find? p = none := by
  rw [ht, List.find?_append, h]; simp [ha]
theorem find_some_at {α : Type} {p : α → Bool} {l : List α} {k : Nat} {a : α} (h : (l.take k).find? p = none) (hd : l.drop k = a :: l.drop (k + 1)) (ha : p a = true) : l.find? p = some a := by
  have e : l = l.take k ++ a :: l.drop (k + 1) := by rw [← hd, List.take_append_drop]
  rw [e, List.find?_append, h]; simp [ha]
set_option maxRecDepth 10000 in
theorem dayP_ok (x : Inst) (d : Day) (hx : x.cust.length ≤ 1048576) (hn : d.length ≤ 1048576) (ht : ∀ t ∈ d, t.length ≤ 1048576) (hf : d.flatten.length ≤ 1048576) : Pure Tryz.prog 37 [.agg (instL x), .agg [L d]] (I (dayT x d)) := by
  refine pwe Tryz.func37 Tryz.ntmps37 Tryz.results37 fun S nx hd => ?_
  repeat refine pw_seq ?_
  refine pwn ?_
  intro v0 v1
  repeat refine pw_seq ?_
  refine pwn ?_
  intros
  repeat refine pw_seq ?_
  refine pw_block (pw_loopL (fun s : Nat × Nat × Nat => s.1 ≤ d.length ∧ (d.take s.1).find? (fun t => mayT x t != 0) = none) (fun (k, v, v') => [(2, .ptr nx v 0), (3, .ptr (nx + 1) v' 0), (9, L d), (10, I d.length), (11, I k)]) (fun (k, v, v') => [.cells v 25 (instL x), .cells v' 35 [L d]]) (fun s => d.length - s.1) (0, v0, v1) [] (by simp) (by simp) (by simp) ?_)
  rintro ⟨k, v0, v1⟩ ⟨hk, ha⟩
  simp only at hk ha ⊢
  repeat refine pw_seq ?_
  refine pwn ?_
  intros
  repeat refine pw_seq ?_
  refine pw_cond rfl (fun hc => ?_) (fun hc => ?_)
  · simp at hc
    obtain ⟨t, tl, a1, a2, a3, e0⟩ := el1 rfl d k hc
    refine pw_skip (pw_seq (pw_block ?_))
    repeat refine pw_seq ?_
    refine pwN [] (jn2 hc e0) ?_
    intros
    repeat refine pw_seq ?_
    refine pwn ?_
    refine pwc (mayP_ok x t hx (ht t (List.mem_of_getElem? a1))) ?_
    intros
    repeat refine pw_seq ?_
    refine pwn ?_
    intros
    repeat refine pw_seq ?_
    refine pw_cond rfl (fun h1 => ?_) (fun h1 => ?_)
    · simp at h1
      repeat refine pw_seq ?_
      refine pwn ?_
      intros
      repeat refine pw_seq ?_
      exact pw_ret (ret_pure hd rfl (by simp only [dayT, find_some_at ha a2 (by simpa using h1)]; simp))
    · simp at h1
      refine pw_skip ?_
      repeat refine pw_seq ?_
      refine pwn ?_
      intros
      exact again_mk (k + 1, v0, v1) [_] ⟨hc, find_none_snoc ha a3 (by simpa using h1)⟩ (by simp; omega) (by simp [wrN k (by omega)]) rfl (by simp; rfl)
  · simp at hc
    have hk' : k = d.length := by omega
    subst hk'
    rw [List.take_length] at ha
    have hst := stopsP_ok d hn hf
    have hres : dayT x d = if ¬ (d.flatten.map (·.c)).Nodup then 11 else if x.veh < d.length then 14 else 0 := by unfold dayT; rw [ha]
    generalize d.flatten = fl at *
    refine pw_exit ?_
    repeat refine pw_seq ?_
    refine pw_N [] (by rfl) (by rfl) fun K Gc Gh hK hGc hGh X hX0 hX => ?_
    simp -implicitDefEqProofs [hX0, hX]
    try clear hX0 hX X
    refine hGc _ _ _ _ _ _ _ fun hsuf => ((hst _).mono ?_).v
    rintro _ _ ⟨rfl, rfl⟩
    refine ⟨_, _, rfl, ?_⟩
    clear hGc hGh
    clear Gc Gh
    refine xs_go hsuf (D := []) (by rfl) fun Gc Gh hGc hGh X hX0 hX => ?_
    simp -implicitDefEqProofs [hX0, hX]
    try clear hX0 hX X
    refine hGc _ _ _ _ _ _ _ fun hsuf => ((custP_own fl hf _ _ ext_dead).mono ?_).v
    rintro _ _ ⟨v2, rfl, rfl⟩
    refine ⟨_, _, ext_push1 _, ?_⟩
    clear hGc hGh
    clear Gc Gh
    refine xs_go hsuf (D := []) (by rfl) fun Gc Gh hGc hGh X hX0 hX => ?_
    simp -implicitDefEqProofs [hX0, hX, Nat.add_assoc]
    clear hX0 hX X
    rw [← List.length_map (f := fun s : Stop => s.c)]
    refine hGc _ _ _ _ _ _ _ fun hsuf => ((unlike_ok _ (by simp) (by simpa using hf)).mono ?_).v
    rintro _ _ ⟨rfl, rfl⟩
    refine ⟨_, _, ext_set _ (by simp) (by simp), ?_⟩
    clear hGc hGh
    clear Gc Gh
    refine xs_go hsuf (D := []) (by rfl) fun Gc Gh hGc hGh X hX0 hX => ?_
    simp -implicitDefEqProofs [hX0, hX]
    clear hX0 hX X
    intros
    refine hK _ _ _ ?_
    clear hK hGc hGh
    clear K Gc Gh
    repeat refine pw_seq ?_
    refine pw_cond rfl (fun h2 => ?_) (fun h2 => ?_)
    · simp at h2
      repeat refine pw_seq ?_
      refine pwn ?_
      intros
      repeat refine pw_seq ?_
      exact pw_ret (ret_pure hd rfl (by simp [hres, h2]))
    · simp at h2
      refine pw_skip ?_
      repeat refine pw_seq ?_
      refine pwn ?_
      intros
      repeat refine pw_seq ?_
      refine pw_cond rfl (fun h3 => ?_) (fun h3 => ?_)
      · simp at h3
        repeat refine pw_seq ?_
        refine pwn ?_
        intros
        repeat refine pw_seq ?_
        exact pw_ret (ret_pure hd rfl (by simp [hres, h2, h3]))
      · simp at h3
        refine pw_skip ?_
        repeat refine pw_seq ?_
        refine pwn ?_
        intros
        repeat refine pw_seq ?_
        exact pw_ret (ret_pure hd rfl (by simp [hres, h2, Int.not_lt.2 h3]))
def apartD (l : List Stop) : Day := l.map fun s => [s]
set_option maxRecDepth 20000 in
theorem apartP_ok (l : List Stop) (hl : l.length ≤ 1048576) : Pure Tryz.prog 59 [L l] (.agg [L (apartD l)]) := by
  refine pwe Tryz.func59 Tryz.ntmps59 Tryz.results59 fun S nx hd => ?_
  repeat refine pw_seq ?_
  refine pwn ?_
  intro v0
  repeat refine pw_seq ?_
  refine pwn ?_
  intro v1
  refine pw_seq (pw_nilObX 1 0 66 1 rfl rfl fun v2 => ?_)
  repeat refine pw_seq ?_
  refine pwn ?_
  intros
  repeat refine pw_seq ?_
  refine pw_block (pw_loopL (fun s : Nat × Day × Nat × Nat × Nat => s.1 ≤ l.length ∧ s.2.1 = apartD (l.take s.1)) (fun (k, out, v, v', v2) => [(2, .ptr nx v 0), (3, .ptr (nx + 1) v' 0), (6, L l), (7, I l.length), (8, I k)]) (fun (k, out, v, v', v2) => [.cells v 35 [.sc (.slice none 0 0)], .cells v' 35 [.sl (nx + 2) v2 1 0 out.length], .cells v2 66 (out.flatMap Enc.enc)]) (fun s => l.length - s.1) (0, [], v0, v1, v2) [] (by simp [apartD]) (by simp) (by simp) ?_)
  rintro ⟨k, out, v0, v1, v2⟩ ⟨hk, ho⟩
  simp only at hk ho ⊢
  repeat refine pw_seq ?_
  refine pwn ?_
  intros
  repeat refine pw_seq ?_
  refine pw_cond rfl (fun hc => ?_) (fun hc => ?_)
  · simp at hc
    obtain ⟨s, tl, a1, a2, a3, e1, e0⟩ := el 2 rfl l k hc
    refine pw_skip (pw_seq (pw_block ?_))
    repeat refine pw_seq ?_
    refine pwN [] (jn2 hc e0) ?_
    intros
    have hol : out.length = k := by rw [ho]; simp [apartD]; omega
    repeat refine pw_seq ?_
    refine pwn ?_
    refine ⟨by omega, ?_⟩
    intros
    repeat refine pw_seq ?_
    refine pwn ?_
    intros
    exact again_mk (k + 1, out ++ [[s]], v0, v1, v2 + 1) [_] (by simp [a3, ho, apartD]; omega) (by simp; omega) (by simp [wrN k (by omega)]) rfl (by simp; rfl)
  · simp at hc
    have hk' : k = l.length := by omega
    subst hk'
    refine pw_exit ?_
    repeat refine pw_seq ?_
    refine pwn ?_
    intros
    refine pw_frz 2 rfl ?_
    repeat refine pw_seq ?_
    exact pw_ret (ret_pure hd (by simp; rfl) (by simp [ho]))
open Go
set_option maxRecDepth 20000 in
theorem singleP_ok (s : Stop) : Pure Tryz.prog 32 [.agg [I s.c, I s.q]] (.agg [L [s]]) := by
  refine pwe Tryz.func32 Tryz.ntmps32 Tryz.results32 fun S nx hd => ?_
  repeat refine pw_seq ?_
  refine pwn ?_
  intro v0 v1
  repeat refine pw_seq ?_
  refine pwn ?_
  intros
  repeat refine pw_seq ?_
  exact pw_ret (ret_pure hd (by simp; rfl) rfl)
set_option maxRecDepth 20000 in
theorem doubleP_ok (l : List Int) (hl : l.length ≤ 1048576) (hs : l.Pairwise (· ≤ ·)) : Pure Tryz.prog 33 [L l] (B (decide (¬ l.Nodup))) := by
  refine pwe Tryz.func33 Tryz.ntmps33 Tryz.results33 fun S nx hd => ?_
  repeat refine pw_seq ?_
  refine pwn ?_
  intros
  repeat refine pw_seq ?_
  refine pwn ?_
  intros
  repeat refine pw_seq ?_
  refine pw_block (pw_loopL (fun j : Nat => (j = 0 ∨ j + 1 ≤ l.length) ∧ (l.take (j + 1)).Nodup) (fun j => [(0, L l), (3, I ((j + 1 : Nat) : Int))]) (fun _ => []) (fun j => l.length - j) 0 [] (by cases l <;> simp) (by simp) (by simp) ?_)
  rintro j ⟨hj, hjn⟩
  repeat refine pw_seq ?_
  refine pwn ?_
  intros
  repeat refine pw_seq ?_
  refine pw_cond rfl (fun hc => ?_) (fun hc => ?_)
  · simp at hc
    have hc' : j + 1 < l.length := by omega
    obtain ⟨c, tl1, b1, b2, b3, e1⟩ := el1 rfl l (j + 1) hc'
    obtain ⟨p, tl2, d1, d2, d3, e2⟩ := el1 rfl l j (by omega)
    have wj : IntKind.i64.wrap (j : Int) = j := wr _ (by omega) (by omega)
    have g1 : (j : Int) < l.length := by omega
    have g2 : (j : Int) + 1 < l.length := by omega
    have g3 : 0 ≤ (j : Int) + 1 := by omega
    refine pw_skip (pw_seq (pw_block ?_))
    repeat refine pw_seq ?_
    refine pwY none (Row.pures [0, 1, 2, 3, 4, 5, 6, 7, 8, 9] .done) mixed (jn6 wj e1 e2 g1 g2 g3) ?_
    intros
    repeat refine pw_seq ?_
    refine pw_cond rfl (fun hq => ?_) (fun hq => ?_)
    · simp at hq
      repeat refine pw_seq ?_
      refine pwn ?_
      intros
      repeat refine pw_seq ?_
      exact pw_ret (ret_pure hd rfl (by simp; exact not_nodup_of b1 (by rw [d1, hq]) (by omega)))
    · simp at hq
      refine pw_skip ?_
      repeat refine pw_seq ?_
      refine pwn ?_
      intros
      have w2 : IntKind.i64.wrap ((j : Int) + 1 + 1) = ((j + 1 + 1 : Nat) : Int) := by rw [wr _ (by omega) (by omega)]; omega
      exact again_mk (j + 1) [] ⟨by omega, nodup_step hs hjn d3 b3 (fun e => hq e.symm)⟩ (by omega) (by simp [w2]) rfl (by simp)
  · simp at hc
    refine pw_exit ?_
    repeat refine pw_seq ?_
    refine pwn ?_
    intros
    rw [List.take_of_length_le (by omega)] at hjn
    repeat refine pw_seq ?_
    exact pw_ret (ret_pure hd rfl (by simp [hjn]))
set_option maxRecDepth 20000 in
theorem customersP_ok (ss : List Stop) (hss : ss.length ≤ 1048576) : Pure Tryz.prog 34 [L ss] (L (sortZ (ss.map (·.c)))) := by
  have hcust := fun S nx hd => custP_own ss hss S nx hd
  obtain ⟨zs, hzs⟩ : ∃ zs, zs = ss.map (·.c) := ⟨_, rfl⟩
  have hzl : ss.length = zs.length := by rw [hzs]; simp
  rw [← hzs, hzl] at hcust
  rw [← hzs]
  have hz4 := sortZ_len zs
  refine pwe Tryz.func34 Tryz.ntmps34 Tryz.results34 fun S nx hd => ?_
  repeat refine pw_seq ?_
  refine pwn ?_
  intros
  repeat refine pw_seq ?_
  refine pw_N [] (by rfl) (by rfl) fun K Gc Gh hK hGc hGh X hX0 hX => ?_
  simp -implicitDefEqProofs [hX0, hX]
  try clear hX0 hX X
  refine hGc _ _ _ _ _ _ _ fun hsuf => ((hcust _ _ ext_dead).mono ?_).v
  rintro _ _ ⟨v1, rfl, rfl⟩
  refine ⟨_, _, ext_push1 _, ?_⟩
  clear hGc hGh
  clear Gc Gh
  refine xs_go hsuf (D := []) (by rfl) fun Gc Gh hGc hGh X hX0 hX => ?_
  simp -implicitDefEqProofs [hX0, hX, Nat.add_assoc]
  clear hX0 hX X
  intros
  refine hK _ _ _ ?_
  clear hK hGc hGh
  clear K Gc Gh
  repeat refine pw_seq ?_
  refine pw_N [] (by rfl) (by rfl) fun K Gc Gh hK hGc hGh X hX0 hX => ?_
  simp -implicitDefEqProofs [hX0, hX]
  try clear hX0 hX X
  refine hGc _ _ _ _ _ _ _ fun hsuf => ((sort_ok zs (by simp) (by omega)).mono ?_).v
  rintro _ _ rfl
  refine ⟨_, _, ext_set _ (by simp) (by simp), ?_⟩
  clear hGc hGh
  clear Gc Gh
  refine xs_go hsuf (D := []) (by rfl) fun Gc Gh hGc hGh X hX0 hX => ?_
  simp -implicitDefEqProofs [hX0, hX]
  clear hX0 hX X
  intros
  refine hK _ _ _ ?_
  clear hK hGc hGh
  clear K Gc Gh
  generalize sortZ zs = c at *
  rw [← hz4]
  refine pw_frz 1 rfl ?_
  repeat refine pw_seq ?_
  refine pwn ?_
  intros
  repeat refine pw_seq ?_
  exact pw_ret (ret_pure hd (by simp; rfl) rfl)
def fitsZ (x : Inst) (l : List Stop) : Int :=
  match l.find? (fun s => mayT x [s] != 0) with
  | some s => mayT x [s]
  | none => if ¬ (l.map (·.c)).Nodup then 11 else 0
set_option maxRecDepth 20000 in
theorem fitsP_ok (x : Inst) (l : List Stop) (hx : x.cust.length ≤ 1048576) (hl : l.length ≤ 1048576) : Pure Tryz.prog 11 [.agg (instL x), L l] (I (fitsZ x l)) := by
  have hcu := customersP_ok l hl
  have hdo := doubleP_ok (sortZ (l.map (·.c))) (by rw [sortZ_len]; simpa using hl) (sortZ_le _)
  have hdd : decide (¬ (sortZ (l.map (·.c))).Nodup) = decide (¬ (l.map (·.c)).Nodup) := by rw [decide_eq_decide, sortZ_nodup]
  rw [hdd] at hdo
  refine pwe Tryz.func11 Tryz.ntmps11 Tryz.results11 fun S nx hd => ?_
  repeat refine pw_seq ?_
  refine pwn ?_
  intro v0
  repeat refine pw_seq ?_
  refine pwn ?_
  intros
  repeat refine pw_seq ?_
  refine pw_block (pw_loopL (fun k : Nat => k ≤ l.length ∧ (l.take k).find? (fun s => mayT x [s] != 0) = none) (fun k => [(1, L l), (2, .ptr nx v0 0), (8, L l), (9, I l.length), (10, I k)]) (fun _ => [.cells v0 25 (instL x)]) (fun k => l.length - k) 0 [] (by simp) (by simp) (by simp) ?_)
  rintro k ⟨hk, ha⟩
  repeat refine pw_seq ?_
  refine pwn ?_
  intros
  repeat refine pw_seq ?_
  refine pw_cond rfl (fun hc => ?_) (fun hc => ?_)
  · simp at hc
    obtain ⟨s, tl, a1, a2, a3, e1, e0⟩ := el 2 rfl l k hc
    refine pw_skip (pw_seq (pw_block ?_))
    repeat refine pw_seq ?_
    refine pwN [] (jn3 hc e1 e0) ?_
    intro v1
    repeat refine pw_seq ?_
    refine pwY none (Row.pures [0, 1, 2, 3, 4] .done) mixed trivial ?_
    refine pwP (singleP_ok s) trivial ?_
    refine pwP (mayP_ok x [s] hx (by simp)) trivial ?_
    intros
    repeat refine pw_seq ?_
    refine pwn ?_
    intros
    repeat refine pw_seq ?_
    refine pw_cond rfl (fun h1 => ?_) (fun h1 => ?_)
    · simp at h1
      repeat refine pw_seq ?_
      refine pwn ?_
      intros
      repeat refine pw_seq ?_
      exact pw_ret (ret_pure hd rfl (by simp only [fitsZ, find_some_at ha a2 (by simpa using h1)]; simp))
    · simp at h1
      refine pw_skip ?_
      repeat refine pw_seq ?_
      refine pwn ?_
      intros
      exact again_mk (k + 1) [_] ⟨hc, find_none_snoc ha a3 (by simpa using h1)⟩ (by omega) (by simp [wrN k (by omega)]) rfl (by simp; rfl)
  · simp at hc
    obtain rfl : k = l.length := by omega
    rw [List.take_length] at ha
    have hres : fitsZ x l = if ¬ (l.map (·.c)).Nodup then 11 else 0 := by unfold fitsZ; rw [ha]
    refine pw_exit ?_
    repeat refine pw_seq ?_
    refine pwn ?_
    refine pwc hcu ?_
    refine pwc hdo ?_
    intros
    by_cases h2 : (l.map (·.c)).Nodup
    · repeat refine pw_seq ?_
      refine pw_cf (by simp [h2]) ?_
      refine pw_skip ?_
      repeat refine pw_seq ?_
      refine pwn ?_
      intros
      repeat refine pw_seq ?_
      exact pw_ret (ret_pure hd (by simp; rfl) (by simp [hres, h2, oneOf]))
    · repeat refine pw_seq ?_
      refine pw_ct (by simp [h2]) ?_
      repeat refine pw_seq ?_
      refine pwn ?_
      intros
      repeat refine pw_seq ?_
      exact pw_ret (ret_pure hd (by simp; rfl) (by simp [hres, h2, oneOf]))
set_option maxRecDepth 20000 in
theorem fitsR_ok (x : Inst) (l : List Stop) (hx : x.cust.length ≤ 1048576) (hl : l.length ≤ 1048576) : Pure Tryz.prog 12 [.agg (instL x), L l] (I (fitsZ x l)) := by
  refine pwe Tryz.func12 Tryz.ntmps12 Tryz.results12 fun S nx hd => ?_
  repeat refine pw_seq ?_
  refine pwn ?_
  intro v0
  repeat refine pw_seq ?_
  refine pwn ?_
  intros
  repeat refine pw_seq ?_
  refine pw_joinK (nx := nx) (σ := Unit) (fun _ => l.find? (fun s => mayT x [s] != 0) = none) (fun _ => [(1, L l)]) (fun _ => S) (fun _ => [.cells v0 25 (instL x)]) ?_ ?_
  · refine pw_block (pw_loopL (fun k : Nat => k ≤ l.length ∧ (l.take k).find? (fun s => mayT x [s] != 0) = none) (fun k => [(1, L l), (2, .ptr nx v0 0), (5, I k)]) (fun _ => [.cells v0 25 (instL x)]) (fun k => l.length - k) 0 [] (by simp) (by simp) (by simp) ?_)
    rintro k ⟨hk, ha⟩
    repeat refine pw_seq ?_
    refine pwn ?_
    intros
    repeat refine pw_seq ?_
    refine pw_cond rfl (fun hc => ?_) (fun hc => ?_)
    · simp at hc
      obtain ⟨s, tl, a1, a2, a3, e1, e0⟩ := el 2 rfl l k hc
      have hkk : k ≤ k + 1 := by omega
      have hk1 : k + 1 ≤ l.length := by omega
      have hk2 : (0 : Int) ≤ (k : Int) + 1 := by omega
      have hk3 : k + 1 - k = 1 := by omega
      refine pw_skip (pw_seq (pw_block ?_))
      repeat refine pw_seq ?_
      refine pwY none (Row.pures [0, 1, 2, 3, 4, 5, 6, 7, 8] .done) mixed (jn6 (wrN k (by omega)) hkk hk1 hk2 hk3 e0) ?_
      refine pwP (mayR_ok x [s] hx (by simp)) trivial ?_
      intros
      repeat refine pw_seq ?_
      refine pwn ?_
      intros
      repeat refine pw_seq ?_
      refine pw_cond rfl (fun h1 => ?_) (fun h1 => ?_)
      · simp at h1
        repeat refine pw_seq ?_
        refine pwn ?_
        intros
        repeat refine pw_seq ?_
        exact pw_ret (ret_pure hd rfl (by simp only [fitsZ, find_some_at ha a2 (by simpa using h1)]; simp))
      · simp at h1
        refine pw_skip ?_
        repeat refine pw_seq ?_
        refine pwn ?_
        intros
        exact again_mk (k + 1) [] ⟨hc, find_none_snoc ha a3 (by simpa using h1)⟩ (by omega) (by simp [wrN k (by omega)]) rfl (by simp)
    · simp at hc
      obtain rfl : k = l.length := by omega
      rw [List.take_length] at ha
      refine pw_exit ?_
      exact at_mk () [] ha (by simp) rfl (by simp)
  intro _ ha
  have hres : fitsZ x l = if ¬ (l.map (·.c)).Nodup then 11 else 0 := by unfold fitsZ; rw [ha]
  repeat refine pw_seq ?_
  refine pwn ?_
  intros
  repeat refine pw_seq ?_
  refine pw_block (pw_loopL (fun i : Nat => i ≤ l.length ∧ ((l.take i).map (·.c)).Nodup) (fun i => [(1, L l), (7, I i)]) (fun _ => [.cells v0 25 (instL x)]) (fun i => l.length - i) 0 [] (by simp) (by simp) (by simp) ?_)
  rintro i ⟨hi, hn⟩
  repeat refine pw_seq ?_
  refine pwn ?_
  intros
  repeat refine pw_seq ?_
  refine pw_cond rfl (fun hc => ?_) (fun hc => ?_)
  · simp at hc
    obtain ⟨s, tl, a1, a2, a3, e1, e0⟩ := el 2 rfl l i hc
    refine pw_skip (pw_seq (pw_block ?_))
    repeat refine pw_seq ?_
    refine pwn ?_
    intros
    repeat refine pw_seq ?_
    refine pw_block (pw_loopL (fun k : Nat => k ≤ i ∧ s.c ∉ (l.take k).map (·.c)) (fun k => [(1, L l), (7, I i), (8, I k)]) (fun _ => [.cells v0 25 (instL x)]) (fun k => i - k) 0 [] (by simp) (by simp) (by simp) ?_)
    rintro k ⟨hk, hno⟩
    repeat refine pw_seq ?_
    refine pwn ?_
    intros
    repeat refine pw_seq ?_
    refine pw_cond rfl (fun hc2 => ?_) (fun hc2 => ?_)
    · simp at hc2
      obtain ⟨t, tl2, b1, b2, b3, f1, f0⟩ := el 2 rfl l k (by omega)
      have g1 : (i : Int) < l.length := by omega
      have g2 : (k : Int) < l.length := by omega
      refine pw_skip (pw_seq (pw_block ?_))
      repeat refine pw_seq ?_
      refine pwY none (Row.pures [0, 1, 2, 3, 4, 5, 6, 7, 8, 9, 10] .done) mixed (jn6 e1 e0 f1 f0 g1 g2) ?_
      intros
      repeat refine pw_seq ?_
      refine pw_cond rfl (fun hq => ?_) (fun hq => ?_)
      · simp at hq
        have hdup : ¬ (l.map (·.c)).Nodup := not_nodup_of (i := i) (k := k) (c := s.c) (by rw [List.getElem?_map, a1]; rfl) (by rw [List.getElem?_map, b1, hq]; rfl) hc2
        repeat refine pw_seq ?_
        refine pwn ?_
        intros
        repeat refine pw_seq ?_
        exact pw_ret (ret_pure hd rfl (by simp [hres, hdup]))
      · simp at hq
        refine pw_skip ?_
        repeat refine pw_seq ?_
        refine pwn ?_
        intros
        exact again_mk (k + 1) [] ⟨hc2, by rw [b3]; simp only [List.map_append, List.map_cons, List.map_nil, List.mem_append, List.mem_singleton]; rintro (h | h); exact hno h; exact hq h⟩ (by omega) (by simp [wrN k (by omega)]) rfl (by simp)
    · simp at hc2
      obtain rfl : k = i := by omega
      refine pw_exit ?_
      repeat refine pw_seq ?_
      refine pwn ?_
      intros
      exact again_mk (k + 1) [] ⟨hc, by rw [a3, List.map_append]; exact nodup_snoc _ _ hn hno⟩ (by omega) (by simp [wrN k (by omega)]) rfl (by simp)
  · simp at hc
    obtain rfl : i = l.length := by omega
    rw [List.take_length] at hn
    refine pw_exit ?_
    repeat refine pw_seq ?_
    refine pwn ?_
    intros
    repeat refine pw_seq ?_
    exact pw_ret (ret_pure hd (by simp; rfl) (by simp [hres, hn, oneOf]))
set_option maxRecDepth 20000 in
theorem dayR_ok (x : Inst) (d : Day) (hx : x.cust.length ≤ 1048576) (hn : d.length ≤ 1048576) (ht : ∀ t ∈ d, t.length ≤ 1048576) (hf : d.flatten.length ≤ 1048576) : Pure Tryz.prog 19 [.agg (instL x), .agg [L d]] (I (dayT x d)) := by
  refine pwe Tryz.func19 Tryz.ntmps19 Tryz.results19 fun S nx hd => ?_
  repeat refine pw_seq ?_
  refine pwn ?_
  intro v0 v1
  repeat refine pw_seq ?_
  refine pwn ?_
  intros
  refine pw_seq (pw_nilX 5 3 1 rfl fun v2 => ?_)
  repeat refine pw_seq ?_
  refine pwn ?_
  intros
  repeat refine pw_seq ?_
  refine pw_block (pw_loopL (fun s : Nat × List Int × Nat => s.1 ≤ d.length ∧ s.2.1 = (d.take s.1).flatten.map (·.c) ∧ (d.take s.1).find? (fun t => mayT x t != 0) = none) (fun (k, out, v2) => [(2, .ptr nx v0 0), (3, .ptr (nx + 1) v1 0), (5, .sl (nx + 2) v2 1 0 out.length), (6, I k)]) (fun (k, out, v2) => [.cells v0 25 (instL x), .cells v1 35 [L d], .cells v2 3 (out.flatMap Enc.enc)]) (fun s => d.length - s.1) (0, [], v2) [] (by simp) (by simp) (by simp) ?_)
  rintro ⟨k, out, v2⟩ ⟨hk, ho, ha⟩
  simp only at hk ho ha ⊢
  have hol : out.length = (d.take k).flatten.length := by rw [ho, List.length_map]
  repeat refine pw_seq ?_
  refine pwn ?_
  intros
  repeat refine pw_seq ?_
  refine pw_cond rfl (fun hc => ?_) (fun hc => ?_)
  · simp at hc
    obtain ⟨t, tl, a1, a2, a3, e0⟩ := el1 rfl d k hc
    have htl := ht t (List.mem_of_getElem? a1)
    have hlen : (d.take (k + 1)).flatten.length ≤ 1048576 := by
      have : (d.take (k + 1)).flatten.length + (d.drop (k + 1)).flatten.length = d.flatten.length := by rw [← List.length_append, ← List.flatten_append, List.take_append_drop]
      omega
    rw [a3, List.flatten_append, List.length_append, List.flatten_cons, List.flatten_nil, List.append_nil] at hlen
    have hol2 : out.length + t.length ≤ 1048576 := by rw [hol]; exact hlen
    refine pw_skip (pw_seq (pw_block ?_))
    repeat refine pw_seq ?_
    refine pwY (some [nx, nx + 1]) (Row.pures [0, 1, 2, 3, 4, 5, 6, 7] .done) mixed (jn2 hc e0) ?_
    refine pwP (mayR_ok x t hx htl) trivial ?_
    intros
    by_cases hm : mayT x t = 0
    · repeat refine pw_seq ?_
      refine pwN [] hm ?_
      intros
      repeat refine pw_seq ?_
      refine pw_cf (by simp) ?_
      refine pw_skip ?_
      repeat refine pw_seq ?_
      refine pwN [] (jn2 hc e0) ?_
      refine pwc (custR_ok t htl) ?_
      refine ⟨by omega, ?_⟩
      intros
      repeat refine pw_seq ?_
      refine pwn ?_
      intros
      exact again_mk (k + 1, out ++ t.map (·.c), v2 + 1) [] ⟨hc, by rw [a3, ho]; simp, by rw [a3, List.find?_append, ha]; simp [hm]⟩ (by simp; omega) (by simp [wrN k (by omega)]) rfl (by simp)
    · have hfi := find_some_at ha a2 (by simpa using hm)
      repeat refine pw_seq ?_
      refine pwN [] hm ?_
      intros
      repeat refine pw_seq ?_
      refine pw_ct (by simp [hm]) ?_
      repeat refine pw_seq ?_
      refine pwn ?_
      intros
      repeat refine pw_seq ?_
      exact pw_ret (ret_pure hd (by simp; rfl) (by simp only [dayT, hfi, oneOf]))
  · simp at hc
    obtain rfl : k = d.length := by omega
    rw [List.take_length] at ho ha hol
    have hres : dayT x d = if ¬ (d.flatten.map (·.c)).Nodup then 11 else if x.veh < d.length then 14 else 0 := by unfold dayT; rw [ha]
    have htw := twice_ok out (by omega)
    rw [← ho] at hres
    clear ho
    refine pw_exit ?_
    refine pw_frz 2 rfl ?_
    repeat refine pw_seq ?_
    refine pwn ?_
    refine pwc htw ?_
    intros
    by_cases h2 : out.Nodup
    · repeat refine pw_seq ?_
      refine pw_cf (by simp [h2]) ?_
      refine pw_skip ?_
      repeat refine pw_seq ?_
      refine pwn ?_
      intros
      by_cases h3 : x.veh < d.length
      · repeat refine pw_seq ?_
        refine pw_ct (by simp [h3]) ?_
        repeat refine pw_seq ?_
        refine pwn ?_
        intros
        repeat refine pw_seq ?_
        exact pw_ret (ret_pure hd (by simp; rfl) (by rw [hres]; simp [h2, h3, oneOf]))
      · repeat refine pw_seq ?_
        refine pw_cf (by simp; omega) ?_
        refine pw_skip ?_
        repeat refine pw_seq ?_
        refine pwn ?_
        intros
        repeat refine pw_seq ?_
        exact pw_ret (ret_pure hd (by simp; rfl) (by rw [hres]; simp [h2, h3, oneOf]))
    · repeat refine pw_seq ?_
      refine pw_ct (by simp [h2]) ?_
      repeat refine pw_seq ?_
      refine pwn ?_
      intros
      repeat refine pw_seq ?_
      exact pw_ret (ret_pure hd (by simp; rfl) (by rw [hres]; simp [h2, oneOf]))
set_option maxRecDepth 20000 in
theorem costR_ok (x : Inst) (d : Day) (hd' : DayOk d) : Pure Tryz.prog 21 [.agg (instL x), .agg [L d]] (I (W (costZ x d))) := by
  have hdn := hd'.1
  refine pwe Tryz.func21 Tryz.ntmps21 Tryz.results21 fun S nx hd => ?_
  repeat refine pw_seq ?_
  refine pwn ?_
  intro v0 v1
  repeat refine pw_seq ?_
  refine pwn ?_
  intros
  repeat refine pw_seq ?_
  refine pwn ?_
  intros
  repeat refine pw_seq ?_
  refine pw_block (pw_loopL (fun s : Nat => s ≤ d.length) (fun k => [(2, .ptr nx v0 0), (3, .ptr (nx + 1) v1 0), (5, I (W (costZ x (d.take k)))), (6, I k)]) (fun _ => [.cells v0 25 (instL x), .cells v1 35 [L d]]) (fun s => d.length - s) 0 [] (by simp) (by simp [costZ]) (by simp) ?_)
  rintro k hk
  repeat refine pw_seq ?_
  refine pwn ?_
  intros
  repeat refine pw_seq ?_
  refine pw_cond rfl (fun hc => ?_) (fun hc => ?_)
  · simp at hc
    obtain ⟨t, tl, a1, a2, a3, e0⟩ := el1 rfl d k hc
    have htm := List.mem_of_getElem? a1
    have htl := hd'.2 t htm
    have hsm := hd'.3 t htm
    refine pw_skip (pw_seq (pw_block ?_))
    repeat refine pw_seq ?_
    refine pwY none (Row.pures [0, 1, 2, 3, 4, 5, 6, 7, 8, 9, 10] .done) mixed (jn2 hc e0) ?_
    refine pwP (custR_ok t htl) trivial ?_
    refine pwP (wayR_ok x (t.map (·.c)) (by simpa using htl) (by simpa using hsm)) trivial ?_
    intros
    have hw : W (W (costZ x (d.take k)) + W (wayZ x (t.map (·.c)))) = W (costZ x (d.take (k + 1))) := by rw [a3, costZ_snoc, W_add, W_add']
    repeat refine pw_seq ?_
    refine pwn ?_
    intros
    exact again_mk (k + 1) [] hc (by omega) (by simp [wrN k (by omega)]; exact hw) rfl (by simp)
  · simp at hc
    obtain rfl : k = d.length := by omega
    rw [List.take_length]
    refine pw_exit ?_
    repeat refine pw_seq ?_
    refine pwn ?_
    intros
    repeat refine pw_seq ?_
    exact pw_ret (ret_pure hd (by simp; rfl) rfl)
open Go
structure KeyOk {α : Type} [DecidableEq α] (d : TypeDesc) (key : α → Value) : Prop where
  same : ∀ a b, Instr.sameNow d (key a) (key b) = some (decide (a = b))
theorem keyOk_int (k : IntKind) : KeyOk (.int k) (fun i : Int => Value.int k i) := ⟨fun a b => by
  simp only [Instr.sameNow]
  by_cases e : a = b <;> simp [e]⟩
def MapIs {α β : Type} (key : α → Value) (enc : β → PV) (es : List (Value × PV)) (g : α → Option β) : Prop :=
  ∃ l : List (α × β), es = l.map (fun x => (key x.1, enc x.2)) ∧ (l.map (·.1)).Nodup ∧ (∀ a b, (a, b) ∈ l ↔ g a = some b)
def updM {α β : Type} [DecidableEq α] (g : α → Option β) (a : α) (v : Option β) : α → Option β := fun x => if x = a then v else g x
theorem mapIs_nil {α β : Type} (key : α → Value) (enc : β → PV) : MapIs key enc [] (fun _ => none) := ⟨[], rfl, by simp, by simp⟩
theorem find_none {α β : Type} [DecidableEq α] {d : TypeDesc} {key : α → Value} {enc : β → PV} (hk : KeyOk d key) (a : α) : ∀ (l : List (α × β)) (i : Nat), a ∉ l.map (·.1) → findP d (key a) (l.map fun x => (key x.1, enc x.2)) i = some none
  | [], _, _ => rfl
  | x :: l, i, h => by
    simp only [List.map_cons, List.mem_cons, not_or] at h
    simp only [List.map_cons, findP, hk.same, decide_eq_false h.1]
    exact find_none hk a l (i + 1) h.2
theorem find_some {α β : Type} [DecidableEq α] {d : TypeDesc} {key : α → Value} {enc : β → PV} (hk : KeyOk d key) (a : α) (b : β) : ∀ (l : List (α × β)) (i : Nat), (l.map (·.1)).Nodup → (a, b) ∈ l →
    ∃ j, l[j]? = some (a, b) ∧ findP d (key a) (l.map fun x => (key x.1, enc x.2)) i = some (some (i + j, enc b))
  | [], _, _, h => by cases h
  | x :: l, i, hn, h => by
    simp only [List.map_cons, List.nodup_cons] at hn
    by_cases e : a = x.1
    · have hx : x = (a, b) := by
        rcases List.mem_cons.1 h with h | h
        · exact h.symm
        · exact absurd (List.mem_map.2 ⟨_, h, e⟩) hn.1
      subst hx
      exact ⟨0, rfl, by simp [findP, hk.same]⟩
    · have hm : (a, b) ∈ l := by
        rcases List.mem_cons.1 h with h | h
        · exact absurd (by rw [← h]) e
        · exact h
      obtain ⟨j, h1, h2⟩ := find_some hk a b l (i + 1) hn.2 hm
      refine ⟨j + 1, by simpa using h1, ?_⟩
      simp only [List.map_cons, findP, hk.same, decide_eq_false e]
      rw [h2, show i + 1 + j = i + (j + 1) by omega]
theorem MapIs.find {α β : Type} [DecidableEq α] {d : TypeDesc} {key : α → Value} {enc : β → PV} {es : List (Value × PV)} {g : α → Option β} (hk : KeyOk d key) (h : MapIs key enc es g) (a : α) :
    ∃ res, findP d (key a) es 0 = some res ∧ (g a = none → res = none) ∧ (∀ b, g a = some b → ∃ j, res = some (j, enc b)) ∧ (∀ b, MapIs key enc (putP (key a) (enc b) es res) (updM g a (some b))) ∧ MapIs key enc (delP es res) (updM g a none) := by
  obtain ⟨l, rfl, hn, hg⟩ := h
  cases hga : g a with
  | none =>
    have hna : a ∉ l.map (·.1) := by
      intro hm
      obtain ⟨x, hx, rfl⟩ := List.mem_map.1 hm
      have := (hg x.1 x.2).1 hx
      rw [hga] at this; cases this
    have q1 : ∀ b, MapIs key enc (putP (key a) (enc b) (l.map fun x => (key x.1, enc x.2)) none) (updM g a (some b)) := fun b => by
      refine ⟨l ++ [(a, b)], by simp [putP], ?_, fun a' b' => ?_⟩
      rotate_left
      focus
        unfold updM
        by_cases e : a' = a
        · subst e
          simp only [if_pos, List.mem_append, List.mem_singleton, hg, hga]
          simp [eq_comm]
        · simp [List.mem_append, hg, e]
      rw [List.map_append, List.nodup_append]
      refine ⟨hn, by simp, fun x hx y hy => ?_⟩
      simp at hy; subst hy
      exact fun e => hna (e ▸ hx)
    refine ⟨none, find_none hk a l 0 hna, (by intro _; rfl), (by intro b hb; cases hb), q1, l, by simp [delP], hn, fun a' b' => ?_⟩
    · unfold updM
      by_cases e : a' = a
      · subst e; simp [hg, hga]
      · simp [if_neg e, hg]
  | some b0 =>
    obtain ⟨j, h1, h2⟩ := find_some (enc := enc) hk a b0 l 0 hn ((hg a b0).2 hga)
    have hj : j < l.length := (List.getElem?_eq_some_iff.1 h1).1
    have hja : l[j] = (a, b0) := (List.getElem?_eq_some_iff.1 h1).2
    have huniq : ∀ (i : Nat) (hi : i < l.length), l[i].1 = a → i = j := by
      intro i hi he
      have hp := List.pairwise_iff_getElem.1 hn
      rcases Nat.lt_trichotomy i j with h | h | h
      · exact absurd (show (l.map (·.1))[i]'(by simpa using hi) = (l.map (·.1))[j]'(by simpa using hj) by rw [List.getElem_map, List.getElem_map, he, hja]) (hp i j (by simpa using hi) (by simpa using hj) h)
      · exact h
      · exact absurd (show (l.map (·.1))[j]'(by simpa using hj) = (l.map (·.1))[i]'(by simpa using hi) by rw [List.getElem_map, List.getElem_map, he, hja]) (hp j i (by simpa using hj) (by simpa using hi) h)
    suffices hh : (∀ b, MapIs key enc (putP (key a) (enc b) (l.map fun x => (key x.1, enc x.2)) (some (0 + j, enc b0))) (updM g a (some b))) ∧ MapIs key enc (delP (l.map fun x => (key x.1, enc x.2)) (some (0 + j, enc b0))) (updM g a none) from
      ⟨some (0 + j, enc b0), h2, (by intro h; cases h), (by intro b hb; cases hb; exact ⟨_, rfl⟩), hh.1, hh.2⟩
    refine ⟨fun b => ⟨l.set j (a, b), ?_, ?_, fun a' b' => ?_⟩, l.eraseIdx j, ?_, ?_, fun a' b' => ?_⟩
    · simp [putP, List.map_set]
    · rw [List.map_set]
      have : (l.map (·.1)).set j a = l.map (·.1) := by
        apply List.ext_getElem?
        intro i
        rw [List.getElem?_set]
        split
        · rename_i e; subst e; simp [hj, hja]
        · rfl
      rw [this]; exact hn
    · unfold updM
      rw [List.mem_iff_getElem?]
      constructor
      · rintro ⟨i, hi⟩
        rw [List.getElem?_set] at hi
        by_cases hij : j = i
        · subst hij
          simp [hj] at hi
          rw [if_pos hi.1.symm, hi.2]
        · have hne := hij
          rw [if_neg hij] at hi
          have hil := (List.getElem?_eq_some_iff.1 hi).1
          have hie := (List.getElem?_eq_some_iff.1 hi).2
          by_cases e : a' = a
          · exact absurd (huniq i hil (by rw [hie]; exact e)).symm hne
          · rw [if_neg e]; exact (hg a' b').1 (List.mem_of_getElem? hi)
      · intro h
        by_cases e : a' = a
        · rw [if_pos e] at h; cases h
          exact ⟨j, by rw [List.getElem?_set]; simp [hj, e]⟩
        · rw [if_neg e] at h
          obtain ⟨i, hi⟩ := List.mem_iff_getElem?.1 ((hg a' b').2 h)
          refine ⟨i, ?_⟩
          rw [List.getElem?_set]
          rw [if_neg]
          · exact hi
          · rintro rfl; rw [h1] at hi; cases hi; exact e rfl
    · simp only [delP, Nat.zero_add]
      apply List.ext_getElem?
      intro i
      simp only [List.getElem?_eraseIdx, List.getElem?_map]
      split <;> rfl
    · refine hn.sublist ?_
      exact (List.eraseIdx_sublist l j).map _
    · unfold updM
      by_cases e : a' = a
      · rw [if_pos e]
        refine ⟨fun h => ?_, fun h => by cases h⟩
        obtain ⟨i, hi⟩ := List.mem_iff_getElem?.1 h
        rw [List.getElem?_eraseIdx] at hi
        split at hi
        · have hil := (List.getElem?_eq_some_iff.1 hi).1
          have := huniq i hil (by rw [(List.getElem?_eq_some_iff.1 hi).2]; exact e)
          omega
        · have hil := (List.getElem?_eq_some_iff.1 hi).1
          have := huniq (i + 1) hil (by rw [(List.getElem?_eq_some_iff.1 hi).2]; exact e)
          omega
      · rw [if_neg e, ← hg]
        refine ⟨fun h => (List.eraseIdx_sublist l j).subset h, fun h => ?_⟩
        obtain ⟨i, hi⟩ := List.mem_iff_getElem?.1 h
        have hij : i ≠ j := by rintro rfl; rw [h1] at hi; cases hi; exact e rfl
        rw [List.mem_iff_getElem?]
        by_cases hlt : i < j
        · exact ⟨i, by rw [List.getElem?_eraseIdx, if_pos hlt]; exact hi⟩
        · refine ⟨i - 1, ?_⟩
          rw [List.getElem?_eraseIdx, if_neg (by omega)]
          rw [show i - 1 + 1 = i by omega]; exact hi
open Go Hp
abbrev ltI : Int → Int → Bool := fun a b => decide (a < b)
theorem ltI_str : Str ltI := ⟨fun a => by simp, fun a b c h1 h2 => by simp at *; omega, fun a b h1 h2 => by simp at *; omega⟩
def encT (x : Int × Int) : List PV := [.sc (.int .i64 x.1), .sc (.int .i64 x.2)]
theorem encT_len (x : Int × Int) : (encT x).length = 2 := rfl
abbrev keyI (x : Int) : Value := .int .i64 x
structure PosOk (g : Int → Option Nat) (l : Its Int) : Prop where
  here : ∀ i, i < l.length → g (ata l i).1 = some i
  gone : ∀ id, (∀ i, i < l.length → (ata l i).1 ≠ id) → g id = none
abbrev encN (i : Nat) : PV := .sc (.int .i64 (i : Int))
def RowIs (cs : List PV) (l : Its Int) : Prop := ∃ rest, cs = l.flatMap encT ++ rest
theorem RowIs.at {cs : List PV} {l : Its Int} (h : RowIs cs l) (i : Nat) (hi : i < l.length) : ∃ tl, cs.drop (i * 2) = .sc (.int .i64 (ata l i).1) :: .sc (.int .i64 (ata l i).2) :: tl := by
  obtain ⟨rest, rfl⟩ := h
  refine ⟨(l.drop (i + 1)).flatMap encT ++ rest, ?_⟩
  rw [List.drop_append_of_le_length (by rw [flat_len encT 2 encT_len]; omega), flat_at encT 2 encT_len l i hi]
  have : ata l i = l[i] := by unfold ata; simp [hi]
  rw [this]; rfl
theorem RowIs.big {cs : List PV} {l : Its Int} (h : RowIs cs l) : l.length * 2 ≤ cs.length := by
  obtain ⟨rest, rfl⟩ := h
  rw [List.length_append, flat_len encT 2 encT_len]; omega
theorem RowIs.put {cs : List PV} {l : Its Int} (h : RowIs cs l) (i : Nat) (hi : i < l.length) (x : Int × Int) : RowIs (splice cs (i * 2) [.sc (.int .i64 x.1), .sc (.int .i64 x.2)]) (l.set i x) := by
  obtain ⟨rest, rfl⟩ := h
  refine ⟨rest, ?_⟩
  have hl : (l.flatMap encT).length = l.length * 2 := flat_len encT 2 encT_len l
  show List.take (i * 2) (l.flatMap encT ++ rest) ++ encT x ++ List.drop (i * 2 + 2) (l.flatMap encT ++ rest) = _
  rw [List.take_append_of_le_length (by omega), flat_take encT 2 encT_len, show i * 2 + 2 = (i + 1) * 2 by omega, List.drop_append_of_le_length (by omega), flat_drop encT 2 encT_len]
  rw [List.set_eq_take_append_cons_drop, if_pos hi]
  simp
theorem RowIs.take {cs : List PV} {l : Its Int} (h : RowIs cs l) : cs.take (l.length * 2) = l.flatMap encT := by
  obtain ⟨rest, rfl⟩ := h
  rw [List.take_append_of_le_length (by rw [flat_len encT 2 encT_len]; omega), flat_take encT 2 encT_len, List.take_length]
structure HS (S : Store) (hid hv rid mid mv : Nat) (l : Its Int) (g : Int → Option Nat) : Prop where
  h : ∃ ver, S hid = .cells hv 212 [.sl rid ver 2 0 l.length, .mp mid mv] ∧ ∃ cs, S rid = .cells ver 217 cs ∧ RowIs cs l
  m : ∃ es, S mid = .map mv es ∧ MapIs keyI encN es g
  ne : hid ≠ rid ∧ hid ≠ mid ∧ rid ≠ mid
  len : l.length ≤ 2147483648
def Offd (S : Store) (ids : List Nat) (S' : Store) : Prop := ∀ o, o ∉ ids → S' o = S o ∨ S o = .dead
def Off (S : Store) (ids : List Nat) (S' : Store) : Prop := ∀ o, o ∉ ids → S' o = S o
theorem Offd.refl (S : Store) (ids : List Nat) : Offd S ids S := fun _ _ => .inl rfl
theorem Offd.set {S T : Store} {ids : List Nat} (h : Offd S ids T) {o : Nat} (ho : o ∈ ids ∨ S o = .dead) (x : Ob) : Offd S ids (T.set o x) := by
  intro i hi
  by_cases e : i = o
  · subst e; exact .inr (ho.resolve_left hi)
  · rw [set_ne _ _ _ _ e]; exact h i hi
theorem Off.offd {S T : Store} {ids : List Nat} (h : Off S ids T) : Offd S ids T := fun o ho => .inl (h o ho)
theorem Off.trans {S T U : Store} {ids : List Nat} (h : Off S ids T) (k : Off T ids U) : Off S ids U := fun o ho => (k o ho).trans (h o ho)
def cut (S : Store) (ids : List Nat) (S' : Store) : Store := fun o => if o ∈ ids then S' o else S o
theorem cut_off (S : Store) (ids : List Nat) (S' : Store) : Off S ids (cut S ids S') := fun o ho => by simp [cut, ho]
theorem cut_in (S : Store) (ids : List Nat) (S' : Store) {o : Nat} (h : o ∈ ids) : cut S ids S' o = S' o := by simp [cut, h]
theorem cut_ok {S S' : Store} {ids : List Nat} (h : Offd S ids S') : ∀ o, cut S ids S' o = S' o ∨ cut S ids S' o = .dead := by
  intro o
  unfold cut
  split
  · exact .inl rfl
  · rename_i ho
    rcases h o ho with h | h
    · exact .inl h.symm
    · exact .inr h
theorem HS.congr {S T : Store} {hid hv rid mid mv : Nat} {l : Its Int} {g : Int → Option Nat} (h : HS S hid hv rid mid mv l g) (e : ∀ o ∈ [hid, rid, mid], T o = S o) : HS T hid hv rid mid mv l g := by
  obtain ⟨ver, h1, cs, h2, hR⟩ := h.h
  obtain ⟨es, h3⟩ := h.m
  exact ⟨⟨ver, by rw [e _ (by simp)]; exact h1, cs, by rw [e _ (by simp)]; exact h2, hR⟩, ⟨es, by rw [e _ (by simp)]; exact h3⟩, h.ne, h.len⟩
theorem HS.cut {S T : Store} {hid hv rid mid mv : Nat} {l : Its Int} {g : Int → Option Nat} (h : HS T hid hv rid mid mv l g) : HS (cut S [hid, rid, mid] T) hid hv rid mid mv l g := h.congr fun _ ho => cut_in _ _ _ ho
theorem set_at (S : Store) (o : Nat) (x : Ob) (i : Nat) : S.set o x i = if i = o then x else S i := by
  split
  · rename_i h; subst h; exact Store.set_same ..
  · rename_i h; exact set_ne _ _ _ _ h
theorem dead_set {S : Store} {o i : Nat} {x : Ob} (h : S.set o x i = .dead) (hx : x ≠ .dead) : i ≠ o ∧ S i = .dead := by
  rw [set_at] at h
  split at h
  · exact absurd h hx
  · rename_i e; exact ⟨e, h⟩
theorem alive_ne {S : Store} {o i : Nat} {x : Ob} (h : S o = x) (hx : x ≠ .dead) (d : S i = .dead) : o ≠ i := by
  rintro rfl; rw [h] at d; exact hx d
theorem thingsLen_ok {S : Store} {hid hv rid mid mv : Nat} {l : Its Int} {g : Int → Option Nat} (hs : HS S hid hv rid mid mv l g) :
    PCalls Tryz.prog 195 [.ptr hid hv 0] S (fun p S' => p = pint l.length ∧ S' = S) := by
  obtain ⟨ver, h1, cs, h2, hR⟩ := hs.h
  refine pcalls_of_pw Tryz.func195 rfl Tryz.ntmps195 (congrArg Array.toList Tryz.results195) (by simp) ?_
  refine pw_seq (pw_R (by rfl) (by simp; rfl) (pw_seq (pw_L [] (by rfl) fun K hK => ?_)))
  simp [h1]
  refine hK _ _ (pw_ret ?_)
  simp [retQ, pint]
theorem thingsLess_ok {S : Store} {hid hv rid mid mv : Nat} {l : Its Int} {g : Int → Option Nat} (hs : HS S hid hv rid mid mv l g) (i j : Nat) (hi : i < l.length) (hj : j < l.length) :
    PCalls Tryz.prog 196 [.ptr hid hv 0, pint i, pint j] S (fun p S' => p = pbool (il ltI (ata l i) (ata l j)) ∧ S' = S) := by
  obtain ⟨ver, h1, cs, h2, hR⟩ := hs.h
  obtain ⟨tl1, e1⟩ := hR.at i hi
  obtain ⟨tl2, e2⟩ := hR.at j hj
  refine pcalls_of_pw Tryz.func196 rfl Tryz.ntmps196 (congrArg Array.toList Tryz.results196) (by simp) ?_
  refine pw_seq (pw_R (by rfl) (by simp; rfl) (pw_seq ?_))
  refine pw_X (some [hid, rid]) (Row.pures [0, 1, 2, 3, 4, 5, 6, 7, 8, 9, 10, 11, 12, 13] (.alt 14 (.alt 15 (.alt 16 (.alt 17 (.done) .stop) .stop) .stop) (.alt 15 (.alt 14 (.alt 16 (.alt 17 (.done) .stop) .stop) .stop) .stop))) mixed (by rfl) (by rfl) (by rfl) fun K hK => ?_
  have z1 : hid ≠ rid := hs.ne.1
  have tail : ∀ (F : Nat → PV) (T : Store) (a b : Nat), F 7 = .ptr a 0 0 → F 8 = .ptr b 0 0 → T a = .cells 0 217 (encT (ata l i)) → T b = .cells 0 217 (encT (ata l j)) → Offd S [] T → K F T := by
    intro F T a b f7 f8 ta tb hoff
    have fin : ∀ o, S o = T o ∨ S o = .dead := fun o => (hoff o (by simp)).imp Eq.symm id
    refine hK _ _ ?_
    refine pw_seq (pw_seq (pw_L [] (by rfl) fun K' hK' => ?_))
    simp [f7, f8, ta, tb, encT]
    refine hK' _ _ (pw_cond rfl (fun hc => ?_) (fun hc => ?_))
    · refine pw_seq (pw_L [] (by rfl) fun K2 hK2 => ?_)
      simp [f7, f8, ta, tb, encT]
      refine hK2 _ _ (pw_ret ⟨_, S, rfl, ⟨?_, rfl⟩, fin⟩)
      simp at hc
      simp [il, hc, pbool]
    · refine pw_skip (pw_seq (pw_L [] (by rfl) fun K2 hK2 => ?_))
      simp [f7, f8, ta, tb, encT]
      refine hK2 _ _ (pw_ret ⟨_, S, rfl, ⟨?_, rfl⟩, fin⟩)
      simp at hc
      simp [il, hc, pbool]
  simp [h1, h2, hi, hj, e1, e2, pint]
  constructor
  · refine po_alloc rfl (by simp; rfl) (by simp) fun a ha => ?_
    have n1 := alive_ne h1 (by simp) ha
    have n2 := alive_ne h2 (by simp) ha
    simp [h1, h2, set_at, n1, n2]
    refine po_alloc rfl (by simp; rfl) (by simp) fun b hb => ?_
    have n3 := dead_set hb (by simp)
    have n4 := alive_ne h1 (by simp) n3.2
    have n5 := alive_ne h2 (by simp) n3.2
    simp [h1, h2, set_at, n1, n2, n3, n4, n5, n3.1.symm]
    exact tail _ _ a b rfl rfl (by simp [set_at, n3.1, n3.1.symm, encT]) (by simp [set_at, n3.1, n3.1.symm, encT]) (by repeat (first | exact Offd.refl _ _ | refine Offd.set ?_ (by first | exact .inr ha | exact .inr n3.2) _))
  · refine po_alloc rfl (by simp; rfl) (by simp) fun a ha => ?_
    have n1 := alive_ne h1 (by simp) ha
    have n2 := alive_ne h2 (by simp) ha
    simp [h1, h2, set_at, n1, n2]
    refine po_alloc rfl (by simp; rfl) (by simp) fun b hb => ?_
    have n3 := dead_set hb (by simp)
    have n4 := alive_ne h1 (by simp) n3.2
    have n5 := alive_ne h2 (by simp) n3.2
    simp [h1, h2, set_at, n1, n2, n3, n4, n5, n3.1.symm]
    exact tail _ _ b a rfl rfl (by simp [set_at, n3.1, n3.1.symm, encT]) (by simp [set_at, n3.1, n3.1.symm, encT]) (by repeat (first | exact Offd.refl _ _ | refine Offd.set ?_ (by first | exact .inr ha | exact .inr n3.2) _))
theorem thingsSwap_ok {S : Store} {hid hv rid mid mv : Nat} {l : Its Int} {g : Int → Option Nat} (hs : HS S hid hv rid mid mv l g) (i j : Nat) (hi : i < l.length) (hj : j < l.length) :
    PCalls Tryz.prog 199 [.ptr hid hv 0, pint i, pint j] S (fun _ S' => Off S [hid, rid, mid] S' ∧ HS S' hid hv rid mid mv (swp l i j) (updM (updM g (ata (swp l i j) i).1 (some i)) (ata (swp l i j) j).1 (some j))) := by
  obtain ⟨ver, h1, cs, h2, hR⟩ := hs.h
  obtain ⟨es, h3, h4⟩ := hs.m
  obtain ⟨z1, z2, z3⟩ := hs.ne
  obtain ⟨tl1, e1⟩ := hR.at i hi
  obtain ⟨tl2, e2⟩ := hR.at j hj
  have b0 := hR.big
  have b1 : i * 2 + 2 ≤ cs.length := by omega
  have b2 : j * 2 + 2 ≤ cs.length := by omega
  refine pcalls_of_pw Tryz.func199 rfl Tryz.ntmps199 (congrArg Array.toList Tryz.results199) (by simp) ?_
  refine pw_seq (pw_X (some [hid]) (Row.pures [0, 1, 2, 3, 4, 5, 6, 7, 8, 9, 10, 11, 12, 13, 14, 15, 17, 18, 19, 20, 21, 22] (.alt 16 (.alt 23 (Row.pures [24] (.alt 25 (Row.pures [26] (.alt 27 (.done) .stop)) .stop)) .stop) (.alt 23 (.alt 16 (Row.pures [24] (.alt 25 (Row.pures [26] (.alt 27 (.done) .stop)) .stop)) .stop) .stop))) mixed (by rfl) (by rfl) (by rfl) fun K hK => ?_)
  have r1 := (hR.put i hi (ata l j)).put j (by simpa using hj) (ata l i)
  have hsw : (l.set i (ata l j)).set j (ata l i) = swp l i j := rfl
  rw [hsw] at r1
  have hsl : (swp l i j).length = l.length := swp_len l i j
  have tail : ∀ (F : Nat → PV), F 0 = .ptr hid hv 0 → F 1 = pint i → F 2 = pint j → K F (S.set rid (.cells ver 217 (splice (splice cs (i * 2) [.sc (.int .i64 (ata l j).1), .sc (.int .i64 (ata l j).2)]) (j * 2) [.sc (.int .i64 (ata l i).1), .sc (.int .i64 (ata l i).2)]))) := by
    intro F f0 f1 f2
    refine hK _ _ ?_
    generalize hcs' : splice (splice cs (i * 2) [.sc (.int .i64 (ata l j).1), .sc (.int .i64 (ata l j).2)]) (j * 2) [.sc (.int .i64 (ata l i).1), .sc (.int .i64 (ata l i).2)] = cs' at r1
    obtain ⟨tl1, e1⟩ := r1.at i (by omega)
    obtain ⟨tl2, e2⟩ := r1.at j (by omega)
    have b0 := r1.big
    have b1 : i * 2 + 2 ≤ cs'.length := by omega
    have b2 : j * 2 + 2 ≤ cs'.length := by omega
    have hT : Offd S [hid, rid, mid] (S.set rid (.cells ver 217 cs')) := (Offd.refl _ _).set (.inl (by simp)) _
    have t1 : S.set rid (.cells ver 217 cs') hid = _ := (set_ne _ _ _ _ z1).trans h1
    have t2 : S.set rid (.cells ver 217 cs') rid = _ := Store.set_same _ _ _
    have t3 : S.set rid (.cells ver 217 cs') mid = _ := (set_ne _ _ _ _ (Ne.symm z3)).trans h3
    generalize S.set rid (.cells ver 217 cs') = T at hT t1 t2 t3
    obtain ⟨res, m1, _, _, m2, _⟩ := h4.find (keyOk_int .i64) (ata (swp l i j) i).1
    refine pw_seq (pw_X (some [hid, rid]) (Row.pures [0, 1, 2, 3, 4, 5, 6, 7, 8, 9, 10, 11, 12] (.alt 13 (.done) .stop)) mixed (by rfl) (by rfl) (by rfl) fun K hK => ?_)
    simp -implicitDefEqProofs [f0, f1, f2, t1, t2, hi, hj, e1, e2, pint, b1, b2]
    refine po_mapUpdate (.inl rfl) Tryz.underlying134 Tryz.underlying3 rfl rfl rfl t3 m1 ?_
    simp -implicitDefEqProofs [set_ne, z2, z3, t1, t2]
    refine hK _ _ ?_
    clear hK
    have u1 : T.set mid (.map mv (putP (keyI (ata (swp l i j) i).1) (pint i) es res)) hid = _ := (set_ne _ _ _ _ z2).trans t1
    have u2 : T.set mid (.map mv (putP (keyI (ata (swp l i j) i).1) (pint i) es res)) rid = _ := (set_ne _ _ _ _ z3).trans t2
    have u3 : T.set mid (.map mv (putP (keyI (ata (swp l i j) i).1) (pint i) es res)) mid = _ := Store.set_same _ _ _
    have hU : Offd S [hid, rid, mid] (T.set mid (.map mv (putP (keyI (ata (swp l i j) i).1) (pint i) es res))) := hT.set (.inl (by simp)) _
    have m3 := m2 i
    obtain ⟨res2, m4, _, _, m5, _⟩ := m3.find (keyOk_int .i64) (ata (swp l i j) j).1
    show PW _ _ _ _ _ _ _ (T.set mid (.map mv (putP (keyI (ata (swp l i j) i).1) (pint i) es res)))
    change MapIs keyI encN (putP (keyI (ata (swp l i j) i).1) (pint i) es res) _ at m3
    generalize T.set mid (.map mv (putP (keyI (ata (swp l i j) i).1) (pint i) es res)) = U at u1 u2 u3 hU
    refine pw_X (some [hid, rid]) (Row.pures [0, 1, 2, 3, 4, 5, 6, 7, 8, 9, 10, 11, 12] (.alt 13 (.done) .stop)) mixed (by rfl) (by rfl) (by rfl) fun K hK => ?_
    simp -implicitDefEqProofs [f0, f1, f2, u1, u2, hi, hj, e1, e2, pint, b1, b2]
    refine po_mapUpdate (.inl rfl) Tryz.underlying134 Tryz.underlying3 rfl rfl rfl u3 m4 ?_
    simp -implicitDefEqProofs [set_ne, z2, z3, u1, u2]
    refine hK _ _ ⟨_, _, rfl, ⟨cut_off _ _ _, HS.cut ⟨⟨ver, ?_, cs', ?_, r1⟩, ⟨_, ?_, m5 j⟩, ⟨z1, z2, z3⟩, ?_⟩⟩, cut_ok (hU.set (.inl (by simp)) _)⟩
    · rw [set_ne _ _ _ _ z2, u1, hsl]
    · rw [set_ne _ _ _ _ z3, u2]
    · exact Store.set_same _ _ _
    · rw [hsl]; exact hs.len
  simp -implicitDefEqProofs [h1, h2, hi, hj, e1, e2, pint, b1, b2, set_at, z1]
  exact ⟨tail _ rfl rfl rfl, tail _ rfl rfl rfl⟩
theorem elemThing : ElemOk Tryz.prog 208 217 (.agg #[.int .i64 0, .int .i64 0]) 16 :=
  ⟨Tryz.underlying208, by simp, by simp, by simp, by simp, by omega⟩
theorem thingsPush_ok {S : Store} {hid hv rid mid mv : Nat} {l : Its Int} {g : Int → Option Nat} (hs : HS S hid hv rid mid mv l g) (x : Int × Int) (hn : l.length + 1 ≤ 2147483648) :
    PCalls Tryz.prog 198 [.ptr hid hv 0, .ifc 217 (.agg (encT x))] S (fun _ S' => Off S [hid, rid, mid] S' ∧ HS S' hid hv rid mid mv (l ++ [x]) (updM g x.1 (some l.length))) := by
  obtain ⟨ver, h1, cs, h2, hR⟩ := hs.h
  obtain ⟨es, h3, h4⟩ := hs.m
  obtain ⟨z1, z2, z3⟩ := hs.ne
  have b0 := hR.big
  refine pcalls_of_pw Tryz.func198 rfl Tryz.ntmps198 (congrArg Array.toList Tryz.results198) (by simp) ?_
  refine pw_seq (pw_L [] (by rfl) fun K hK => ?_)
  simp -implicitDefEqProofs [encT]
  refine po_assert rfl Tryz.underlying217 (by intro ms; simp) (by simp; rfl) (p := .tup [.agg (encT x), .sc (.bool true)]) (by simp [assertP, encT]) ?_
  simp -implicitDefEqProofs [encT]
  refine po_alloc rfl (by simp; rfl) (by simp) fun a ha => ?_
  simp -implicitDefEqProofs [encT]
  have n1 := alive_ne h1 (by simp) ha
  have n2 := alive_ne h2 (by simp) ha
  have n3 := alive_ne h3 (by simp) ha
  refine hK _ _ ?_
  clear hK
  have hT : Offd S [hid, rid, mid] (S.set a (.cells 0 217 (encT x))) := (Offd.refl _ _).set (.inr ha) _
  have t1 : S.set a (.cells 0 217 (encT x)) hid = _ := (set_ne _ _ _ _ n1).trans h1
  have t2 : S.set a (.cells 0 217 (encT x)) rid = _ := (set_ne _ _ _ _ n2).trans h2
  have t3 : S.set a (.cells 0 217 (encT x)) mid = _ := (set_ne _ _ _ _ n3).trans h3
  have t4 : S.set a (.cells 0 217 (encT x)) a = _ := Store.set_same _ _ _
  show PW _ _ _ _ _ _ _ (S.set a (.cells 0 217 (encT x)))
  generalize S.set a (.cells 0 217 (encT x)) = T at hT t1 t2 t3 t4
  refine pw_seq (pw_R (by rfl) (by simp; rfl) (pw_cond rfl (fun _ => ?_) (fun h => by simp at h)))
  obtain ⟨res, m1, _, _, m2, _⟩ := h4.find (keyOk_int .i64) x.1
  refine pw_seq (pw_X (some [hid, a]) (Row.pures [0, 1, 2, 3, 4, 5, 6, 7, 8, 9, 10] (.alt 11 (.done) .stop)) mixed (by rfl) (by rfl) (by rfl) fun K hK => ?_)
  simp -implicitDefEqProofs [t1, t4, encT]
  refine po_mapUpdate (.inl rfl) Tryz.underlying134 Tryz.underlying3 rfl rfl rfl t3 m1 ?_
  simp -implicitDefEqProofs [set_ne, z2, n3.symm, t1, t4, encT]
  refine hK _ _ ?_
  clear hK
  have m3 := m2 l.length
  have u1 : T.set mid (.map mv (putP (keyI x.1) (pint l.length) es res)) hid = _ := (set_ne _ _ _ _ z2).trans t1
  have u2 : T.set mid (.map mv (putP (keyI x.1) (pint l.length) es res)) rid = _ := (set_ne _ _ _ _ z3).trans t2
  have u3 : T.set mid (.map mv (putP (keyI x.1) (pint l.length) es res)) mid = _ := Store.set_same _ _ _
  have u4 : T.set mid (.map mv (putP (keyI x.1) (pint l.length) es res)) a = _ := (set_ne _ _ _ _ n3.symm).trans t4
  have hU : Offd S [hid, rid, mid] (T.set mid (.map mv (putP (keyI x.1) (pint l.length) es res))) := hT.set (.inl (by simp)) _
  show PW _ _ _ _ _ _ _ (T.set mid (.map mv (putP (keyI x.1) (pint l.length) es res)))
  change MapIs keyI encN (putP (keyI x.1) (pint l.length) es res) _ at m3
  generalize T.set mid (.map mv (putP (keyI x.1) (pint l.length) es res)) = U at u1 u2 u3 u4 hU
  refine pw_X (some [a]) (Row.pures [0, 1, 2, 3, 5, 6] (.alt 4 (.alt 7 (Row.pures [8, 9] (.alt 10 (.done) .stop)) .stop) .stop)) mixed (by rfl) (by rfl) (by rfl) fun K hK => ?_
  simp -implicitDefEqProofs [u1, u4, encT]
  refine po_append rfl elemThing (by simp; rfl) u2 (by simpa using b0) (m := 1) (ds := encT x) (by simp [encT]) (by omega) (by omega) ?_
  simp -implicitDefEqProofs [set_at, z1, n1.symm, n2.symm, u1, u4, encT]
  have r1 : RowIs (cs.take (l.length * 2) ++ encT x) (l ++ [x]) := ⟨[], by rw [hR.take]; simp⟩
  refine hK _ _ ⟨_, _, rfl, ⟨cut_off _ _ _, HS.cut ⟨⟨ver + 1, ?_, _, ?_, r1⟩, ⟨_, ?_, m3⟩, ⟨z1, z2, z3⟩, ?_⟩⟩, cut_ok ((hU.set (.inl (by simp)) _).set (.inl (by simp)) _)⟩
  · rw [set_same']; simp
  · rw [set_ne _ _ _ _ z1.symm, set_same']; simp [encT]
  · rw [set_ne _ _ _ _ z2.symm, set_ne _ _ _ _ z3.symm, u3]
  · simp; omega
theorem thingsPop_ok {S : Store} {hid hv rid mid mv : Nat} {l : Its Int} {g : Int → Option Nat} (x : Int × Int) (hs : HS S hid hv rid mid mv (l ++ [x]) g) :
    PCalls Tryz.prog 197 [.ptr hid hv 0] S (fun p S' => p = .ifc 217 (.agg (encT x)) ∧ Off S [hid, rid, mid] S' ∧ HS S' hid hv rid mid mv l (updM g x.1 none)) := by
  obtain ⟨ver, h1, cs, h2, hR⟩ := hs.h
  obtain ⟨es, h3, h4⟩ := hs.m
  obtain ⟨z1, z2, z3⟩ := hs.ne
  have b0 := hR.big
  have hlen := hs.len
  simp only [List.length_append, List.length_cons, List.length_nil, Nat.zero_add] at h1 b0 hlen
  refine pcalls_of_pw Tryz.func197 rfl Tryz.ntmps197 (congrArg Array.toList Tryz.results197) (by simp) ?_
  have hw : IntKind.i64.wrap (l.length : Int) = l.length := wrap64 _ (by omega) (by omega)
  obtain ⟨tl, e1⟩ := hR.at l.length (by simp)
  have ha : ata (l ++ [x]) l.length = x := by simp [ata]
  rw [ha] at e1
  refine pw_seq (pw_R (by rfl) (by simp; rfl) (pw_seq (pw_L [] (by rfl) fun K hK => ?_)))
  simp -implicitDefEqProofs [h1, hw]
  refine hK _ _ ?_
  clear hK
  refine pw_seq (pw_L [] (by rfl) fun K hK => ?_)
  have hlt : (l.length : Int) < l.length + 1 := by omega
  have b1 : l.length * 2 + 2 ≤ cs.length := by omega
  simp -implicitDefEqProofs [h1, h2, e1, hlt]
  refine po_alloc rfl (by simp; rfl) (by simp) fun a ha => ?_
  have n1 := alive_ne h1 (by simp) ha
  have n2 := alive_ne h2 (by simp) ha
  have n3 := alive_ne h3 (by simp) ha
  simp -implicitDefEqProofs
  refine hK _ _ ?_
  clear hK
  refine pw_seq (pw_L [] (by rfl) fun K hK => ?_)
  simp -implicitDefEqProofs [set_at, n1, n2, h1, h2, hlt, b1]
  refine hK _ _ ?_
  clear hK
  refine pw_seq (pw_L [] (by rfl) fun K hK => ?_)
  simp -implicitDefEqProofs [set_at, n1, n2, z1, h1, h2, hlt, b1]
  refine hK _ _ ?_
  clear hK
  have r1 : RowIs (splice cs (l.length * 2) [.sc (.int .i64 0), .sc (.int .i64 0)]) l := by
    obtain ⟨rest, q⟩ := hR.put l.length (by simp) (0, 0)
    exact ⟨encT (0, 0) ++ rest, by rw [q, List.set_append_right _ _ (Nat.le_refl _)]; simp⟩
  have hT : Offd S [hid, rid, mid] (((S.set a (.cells 0 217 (encT x))).set rid (.cells ver 217 (splice cs (l.length * 2) [.sc (.int .i64 0), .sc (.int .i64 0)]))).set hid (.cells hv 212 [.sl rid ver 2 0 l.length, .mp mid mv])) :=
    (((Offd.refl _ _).set (.inr ha) _).set (.inl (by simp)) _).set (.inl (by simp)) _
  have t1 : (((S.set a (.cells 0 217 (encT x))).set rid (.cells ver 217 (splice cs (l.length * 2) [.sc (.int .i64 0), .sc (.int .i64 0)]))).set hid (.cells hv 212 [.sl rid ver 2 0 l.length, .mp mid mv])) hid = .cells hv 212 [.sl rid ver 2 0 l.length, .mp mid mv] := by simp
  have t2 : (((S.set a (.cells 0 217 (encT x))).set rid (.cells ver 217 (splice cs (l.length * 2) [.sc (.int .i64 0), .sc (.int .i64 0)]))).set hid (.cells hv 212 [.sl rid ver 2 0 l.length, .mp mid mv])) rid = .cells ver 217 (splice cs (l.length * 2) [.sc (.int .i64 0), .sc (.int .i64 0)]) := by simp [set_at, z1.symm]
  have t3 : (((S.set a (.cells 0 217 (encT x))).set rid (.cells ver 217 (splice cs (l.length * 2) [.sc (.int .i64 0), .sc (.int .i64 0)]))).set hid (.cells hv 212 [.sl rid ver 2 0 l.length, .mp mid mv])) mid = .map mv es := by simp [set_at, z2.symm, z3.symm, n3, h3]
  have t4 : (((S.set a (.cells 0 217 (encT x))).set rid (.cells ver 217 (splice cs (l.length * 2) [.sc (.int .i64 0), .sc (.int .i64 0)]))).set hid (.cells hv 212 [.sl rid ver 2 0 l.length, .mp mid mv])) a = .cells 0 217 (encT x) := by simp [set_at, n1.symm, n2.symm]
  show PW _ _ _ _ _ _ _ (((S.set a (.cells 0 217 (encT x))).set rid (.cells ver 217 (splice cs (l.length * 2) [.sc (.int .i64 0), .sc (.int .i64 0)]))).set hid (.cells hv 212 [.sl rid ver 2 0 l.length, .mp mid mv]))
  generalize (((S.set a (.cells 0 217 (encT x))).set rid (.cells ver 217 (splice cs (l.length * 2) [.sc (.int .i64 0), .sc (.int .i64 0)]))).set hid (.cells hv 212 [.sl rid ver 2 0 l.length, .mp mid mv])) = T at hT t1 t2 t3 t4
  obtain ⟨res, m1, _, _, _, m2⟩ := h4.find (keyOk_int .i64) x.1
  refine pw_seq (pw_X (some [hid, a]) (Row.pures [0, 1, 2, 3, 4, 5] (.alt 6 (.done) .stop)) mixed (by rfl) (by rfl) (by rfl) fun K hK => ?_)
  simp -implicitDefEqProofs [t1, t4, encT]
  refine po_delete rfl rfl Tryz.underlying134 Tryz.underlying3 rfl rfl rfl t3 m1 ?_
  simp -implicitDefEqProofs [set_ne, z2, n3.symm, t1, t4, encT]
  refine hK _ _ ?_
  clear hK
  refine pw_seq (pw_L [] (by rfl) fun K hK => ?_)
  simp -implicitDefEqProofs [set_ne, z2, n3.symm, t1, t4, encT]
  refine hK _ _ (pw_ret ⟨_, _, rfl, ⟨rfl, cut_off _ _ _, HS.cut ⟨⟨ver, ?_, _, ?_, r1⟩, ⟨_, ?_, m2⟩, ⟨z1, z2, z3⟩, ?_⟩⟩, cut_ok (hT.set (.inl (by simp)) _)⟩)
  · rw [set_ne _ _ _ _ z2, t1]
  · rw [set_ne _ _ _ _ z3, t2]
  · exact set_same' _ _ _
  · omega
open Go Hp
def HP (S : Store) (hid hv rid mid mv : Nat) (l : Its Int) : Prop := ∃ g, HS S hid hv rid mid mv l g ∧ PosOk g l
theorem PosOk.inj {g : Int → Option Nat} {l : Its Int} (h : PosOk g l) {i j : Nat} (hi : i < l.length) (hj : j < l.length) (e : (ata l i).1 = (ata l j).1) : i = j := by
  have h1 := h.here i hi
  rw [e, h.here j hj] at h1
  exact (Option.some.inj h1).symm
theorem PosOk.swp {g : Int → Option Nat} {l : Its Int} (h : PosOk g l) (i j : Nat) (hi : i < l.length) (hj : j < l.length) : PosOk (updM (updM g (ata (swp l i j) i).1 (some i)) (ata (swp l i j) j).1 (some j)) (swp l i j) := by
  have at' := fun k => ata_swp l i j k hi hj
  have ei : (ata (Hp.swp l i j) i).1 = (ata l j).1 := by
    rw [at' i]
    by_cases e : i = j
    · rw [if_pos e, e]
    · rw [if_neg e, if_pos rfl]
  have ej : (ata (Hp.swp l i j) j).1 = (ata l i).1 := by rw [at' j, if_pos rfl]
  rw [ei, ej]
  refine ⟨fun k hk => ?_, fun id hid => ?_⟩
  · rw [swp_len] at hk
    rw [at' k]
    unfold updM
    by_cases k1 : k = j
    · rw [if_pos k1, if_pos rfl, k1]
    · rw [if_neg k1]
      by_cases k2 : k = i
      · rw [if_pos k2]
        rw [if_neg (fun e => k1 (by rw [k2]; exact (h.inj hj hi e).symm)), if_pos rfl, k2]
      · rw [if_neg k2, if_neg (fun e => k2 (h.inj hk hi e)), if_neg (fun e => k1 (h.inj hk hj e))]
        exact h.here k hk
  · unfold updM
    have q1 := hid i (by rw [swp_len]; exact hi)
    have q2 := hid j (by rw [swp_len]; exact hj)
    rw [ei] at q1; rw [ej] at q2
    rw [if_neg (Ne.symm q2), if_neg (Ne.symm q1)]
    refine h.gone id fun k hk e => ?_
    have q3 := hid k (by rw [swp_len]; exact hk)
    rw [at' k] at q3
    by_cases k1 : k = j
    · subst k1; exact q1 e
    · rw [if_neg k1] at q3
      by_cases k2 : k = i
      · subst k2; exact q2 e
      · rw [if_neg k2] at q3; exact q3 e
theorem ata_append (l : Its Int) (x : Int × Int) (k : Nat) (hk : k < l.length) : ata (l ++ [x]) k = ata l k := by
  unfold ata; rw [List.getD_eq_getElem?_getD, List.getD_eq_getElem?_getD, List.getElem?_append_left hk]
theorem ata_last (l : Its Int) (x : Int × Int) : ata (l ++ [x]) l.length = x := by simp [ata]
theorem PosOk.push {g : Int → Option Nat} {l : Its Int} (h : PosOk g l) (x : Int × Int) (hx : g x.1 = none) : PosOk (updM g x.1 (some l.length)) (l ++ [x]) := by
  refine ⟨fun k hk => ?_, fun id hid => ?_⟩
  · simp only [List.length_append, List.length_cons, List.length_nil, Nat.zero_add] at hk
    unfold updM
    by_cases k1 : k = l.length
    · subst k1; rw [ata_last, if_pos rfl]
    · have hk' : k < l.length := by omega
      rw [ata_append l x k hk', if_neg]
      · exact h.here k hk'
      · intro e
        have := h.here k hk'
        rw [e, hx] at this; cases this
  · have q := hid l.length (by simp)
    rw [ata_last] at q
    unfold updM
    rw [if_neg (Ne.symm q)]
    refine h.gone id fun k hk => ?_
    have := hid k (by simp; omega)
    rw [ata_append l x k hk] at this
    exact this
theorem PosOk.pop {g : Int → Option Nat} {l : Its Int} (x : Int × Int) (h : PosOk g (l ++ [x])) : PosOk (updM g x.1 none) l := by
  have hl : l.length < (l ++ [x]).length := by simp
  refine ⟨fun k hk => ?_, fun id hid => ?_⟩
  · have hk' : k < (l ++ [x]).length := by simp; omega
    have := h.here k hk'
    rw [ata_append l x k hk] at this
    unfold updM
    rw [if_neg]
    · exact this
    · intro e
      have := h.inj hk' hl (by rw [ata_append l x k hk, ata_last]; exact e)
      omega
  · unfold updM
    by_cases e : id = x.1
    · rw [if_pos e]
    · rw [if_neg e]
      refine h.gone id fun k hk => ?_
      simp only [List.length_append, List.length_cons, List.length_nil, Nat.zero_add] at hk
      by_cases k1 : k = l.length
      · subst k1; rw [ata_last]; exact Ne.symm e
      · have hk' : k < l.length := by omega
        rw [ata_append l x k hk']; exact hid k hk'
theorem mLen : MethodAt Tryz.prog 215 "Len" 195 := by intro v w; kernel_rfl
theorem mLess : MethodAt Tryz.prog 215 "Less" 196 := by intro v w; kernel_rfl
theorem mSwap : MethodAt Tryz.prog 215 "Swap" 199 := by intro v w; kernel_rfl
theorem mPush : MethodAt Tryz.prog 215 "Push" 198 := by intro v w; kernel_rfl
theorem mPop : MethodAt Tryz.prog 215 "Pop" 197 := by intro v w; kernel_rfl
abbrev hI (hid hv : Nat) : PV := .ifc 215 (.ptr hid hv 0)
theorem HP.len {S : Store} {hid hv rid mid mv : Nat} {l : Its Int} (h : HP S hid hv rid mid mv l) : l.length ≤ 2147483648 := by obtain ⟨g, h, _⟩ := h; exact h.len
theorem HP.cut {S T : Store} {hid hv rid mid mv : Nat} {l : Its Int} (h : HP T hid hv rid mid mv l) : HP (cut S [hid, rid, mid] T) hid hv rid mid mv l := by obtain ⟨g, h, k⟩ := h; exact ⟨g, h.cut, k⟩
theorem hpLen {S : Store} {hid hv rid mid mv : Nat} {l : Its Int} (h : HP S hid hv rid mid mv l) : PCalls Tryz.prog 195 [.ptr hid hv 0] S (fun p S' => p = pint l.length ∧ S' = S) := by
  obtain ⟨g, h, _⟩ := h; exact thingsLen_ok h
theorem hpLess {S : Store} {hid hv rid mid mv : Nat} {l : Its Int} (h : HP S hid hv rid mid mv l) (i j : Nat) (hi : i < l.length) (hj : j < l.length) : PCalls Tryz.prog 196 [.ptr hid hv 0, pint i, pint j] S (fun p S' => p = pbool (il ltI (ata l i) (ata l j)) ∧ S' = S) := by
  obtain ⟨g, h, _⟩ := h; exact thingsLess_ok h i j hi hj
theorem hpSwap {S : Store} {hid hv rid mid mv : Nat} {l : Its Int} (h : HP S hid hv rid mid mv l) (i j : Nat) (hi : i < l.length) (hj : j < l.length) : PCalls Tryz.prog 199 [.ptr hid hv 0, pint i, pint j] S (fun _ S' => Off S [hid, rid, mid] S' ∧ HP S' hid hv rid mid mv (swp l i j)) := by
  obtain ⟨g, h, k⟩ := h
  exact (thingsSwap_ok h i j hi hj).mono fun p S' q => ⟨q.1, _, q.2, k.swp i j hi hj⟩
theorem hpPush {S : Store} {hid hv rid mid mv : Nat} {l : Its Int} (h : HP S hid hv rid mid mv l) (x : Int × Int) (hx : ∀ i, i < l.length → (ata l i).1 ≠ x.1) (hn : l.length + 1 ≤ 2147483648) : PCalls Tryz.prog 198 [.ptr hid hv 0, .ifc 217 (.agg (encT x))] S (fun _ S' => Off S [hid, rid, mid] S' ∧ HP S' hid hv rid mid mv (l ++ [x])) := by
  obtain ⟨g, h, k⟩ := h
  exact (thingsPush_ok h x hn).mono fun p S' q => ⟨q.1, _, q.2, k.push x (k.gone _ hx)⟩
theorem hpPop {S : Store} {hid hv rid mid mv : Nat} {l : Its Int} (x : Int × Int) (h : HP S hid hv rid mid mv (l ++ [x])) : PCalls Tryz.prog 197 [.ptr hid hv 0] S (fun p S' => p = .ifc 217 (.agg (encT x)) ∧ Off S [hid, rid, mid] S' ∧ HP S' hid hv rid mid mv l) := by
  obtain ⟨g, h, k⟩ := h
  exact (thingsPop_ok x h).mono fun p S' q => ⟨q.1, q.2.1, _, q.2.2, k.pop x⟩
theorem par_cast (j : Nat) : ((j : Int) - 1).tdiv 2 = (par j : Nat) := by
  unfold par
  cases j with
  | zero => rfl
  | succ k => simp
theorem up_ok {S : Store} {hid hv rid mid mv : Nat} {l : Its Int} (h : HP S hid hv rid mid mv l) (j : Nat) (hj : j < l.length) :
    PCalls Tryz.prog 161 [hI hid hv, pint j] S (fun _ S' => Off S [hid, rid, mid] S' ∧ HP S' hid hv rid mid mv (upL ltI (j + 1) l j)) := by
  refine pcalls_of_pw Tryz.func161 rfl Tryz.ntmps161 (congrArg Array.toList Tryz.results161) (by simp) ?_
  refine pw_block (pw_loop (fun F S' m => ∃ (lc : Its Int) (jc : Nat), m = jc ∧ jc < lc.length ∧ F 0 = hI hid hv ∧ F 1 = pint jc ∧ Off S [hid, rid, mid] S' ∧ HP S' hid hv rid mid mv lc ∧ upL ltI (jc + 1) lc jc = upL ltI (j + 1) l j) j ⟨l, j, rfl, hj, rfl, rfl, fun _ _ => rfl, h, rfl⟩ ?_)
  rintro jc F T ⟨lc, _, rfl, hjc, f0, f1, hoff, hp, hup⟩
  have hlen := hp.len
  have w1 : IntKind.i64.wrap ((jc : Int) - 1) = (jc : Int) - 1 := wrap64 _ (by omega) (by omega)
  have hpar : par jc ≤ jc := by unfold par; omega
  have w2 : IntKind.i64.wrap (par jc : Int) = par jc := wrap64 _ (by omega) (by omega)
  refine pw_block (pw_seq (pw_L [] (by rfl) fun K hK => ?_))
  simp -implicitDefEqProofs [f0, f1, pint, w1, par_cast, w2]
  refine hK _ _ ?_
  clear hK
  by_cases hc : par jc = jc
  · refine pw_seq (pw_seq (pw_L [] (by rfl) fun K hK => ?_))
    simp -implicitDefEqProofs [f0, f1, pint, hc]
    refine hK _ _ (pw_cond rfl (fun _ => pw_exit ?_) (fun q => by simp at q))
    refine ⟨_, _, rfl, ⟨cut_off _ _ _, ?_⟩, cut_ok hoff.offd⟩
    rw [← hup]
    unfold upL
    rw [if_pos (.inl hc)]
    exact hp.cut
  · refine pw_seq (pw_seq (pw_L [] (by rfl) fun K hK => ?_))
    have hc' : ¬ ((par jc : Nat) : Int) = jc := by omega
    simp -implicitDefEqProofs [f0, f1, pint, hc, hc']
    refine po_invoke rfl rfl rfl mLess en196 (by exact hpLess hp jc (par jc) hjc (by omega)) fun p S' hq => ?_
    obtain ⟨rfl, rfl⟩ := hq
    simp -implicitDefEqProofs [pbool]
    refine hK _ _ ?_
    clear hK
    cases hl : il ltI (ata lc jc) (ata lc (par jc)) with
    | false =>
      refine pw_cond rfl (fun _ => pw_exit ?_) (fun q => by simp at q)
      refine ⟨_, _, rfl, ⟨cut_off _ _ _, ?_⟩, cut_ok hoff.offd⟩
      rw [← hup]
      unfold upL
      rw [if_pos (.inr hl)]
      exact hp.cut
    | true =>
      refine pw_cond rfl (fun q => by simp at q) (fun _ => pw_skip (pw_seq (pw_L [] (by rfl) fun K hK => ?_)))
      simp -implicitDefEqProofs [f0, f1, pint]
      refine po_invoke rfl rfl rfl mSwap en199 (by exact hpSwap hp (par jc) jc (by omega) hjc) fun p S' hq => ?_
      obtain ⟨hq1, hq2⟩ := hq
      refine hK _ _ ?_
      clear hK
      refine pw_R (by rfl) (by simp; rfl) ?_
      refine ⟨par jc, ⟨swp lc (par jc) jc, par jc, rfl, by rw [swp_len]; omega, f0, by rfl, hoff.trans hq1, hq2, ?_⟩, by omega⟩
      rw [← hup]
      conv => rhs; unfold upL
      rw [if_neg (by rintro (e | e); exact hc e; rw [hl] at e; cases e)]
      exact upL_fuel _ _ _ _ (by omega) (by unfold par at *; omega)
theorem down_ok {S : Store} {hid hv rid mid mv : Nat} {l : Its Int} (h : HP S hid hv rid mid mv l) (i n : Nat) (hi : i < n) (hn : n ≤ l.length) :
    PCalls Tryz.prog 164 [hI hid hv, pint i, pint n] S (fun p S' => p = pbool (decide (i < (downL ltI n l i n).2)) ∧ Off S [hid, rid, mid] S' ∧ HP S' hid hv rid mid mv (downL ltI n l i n).1) := by
  refine pcalls_of_pw Tryz.func164 rfl Tryz.ntmps164 (congrArg Array.toList Tryz.results164) (by simp) ?_
  refine pw_seq (pw_R (by rfl) (by simp; rfl) (pw_seq (pw_R (by rfl) (by simp; rfl) (pw_seq ?_))))
  refine pw_mono (Q := fun e F T => e = .normal ∧ F 1 = pint i ∧ F 7 = pint (downL ltI n l i n).2 ∧ Off S [hid, rid, mid] T ∧ HP T hid hv rid mid mv (downL ltI n l i n).1) (pw_block (pw_loop (fun F S' m => ∃ (lc : Its Int) (ic : Nat), m = n - ic ∧ ic < n ∧ n ≤ lc.length ∧ F 0 = hI hid hv ∧ F 1 = pint i ∧ F 2 = pint n ∧ F 7 = pint ic ∧ Off S [hid, rid, mid] S' ∧ HP S' hid hv rid mid mv lc ∧ downL ltI n lc ic n = downL ltI n l i n) (n - i) ⟨l, i, rfl, hi, hn, rfl, rfl, rfl, rfl, fun _ _ => rfl, h, rfl⟩ ?_)) ?_
  rotate_left
  · rintro e F T ⟨rfl, f1, f7, hoff, hp⟩
    refine pw_seq (pw_L [] (by rfl) fun K hK => ?_)
    simp -implicitDefEqProofs [f1, f7, pint]
    refine hK _ _ (pw_ret ⟨_, _, rfl, ⟨?_, cut_off _ _ _, hp.cut⟩, cut_ok hoff.offd⟩)
    simp [pbool]
  rintro _ F T ⟨lc, ic, rfl, hic, hnl, f0, f1, f2, f7, hoff, hp, hdown⟩
  have hlen := hp.len
  have w1 : IntKind.i64.wrap (2 * (ic : Int)) = 2 * (ic : Int) := wrap64 _ (by omega) (by omega)
  have w2 : IntKind.i64.wrap (2 * (ic : Int) + 1) = ((2 * ic + 1 : Nat) : Int) := by rw [wrap64 _ (by omega) (by omega)]; omega
  have w3 : IntKind.i64.wrap (((2 * ic + 1 : Nat) : Int) + 1) = ((2 * ic + 2 : Nat) : Int) := by rw [wrap64 _ (by omega) (by omega)]; omega
  refine pw_block (pw_seq (pw_L [] (by rfl) fun K hK => ?_))
  simp -implicitDefEqProofs only [f0, f1, f7, pint, w1, w2]
  generalize hk1 : 2 * ic + 1 = k1 at w2 w3
  simp -implicitDefEqProofs [f0, f1, f7, pint, w1, w2]
  refine hK _ _ ?_
  clear hK
  by_cases hc : n ≤ k1
  · refine pw_seq (pw_seq (pw_L [] (by rfl) fun K hK => ?_))
    have hc' : (n : Int) ≤ k1 := by omega
    simp -implicitDefEqProofs [f0, f1, f2, f7, pint, hc, hc']
    refine hK _ _ (pw_cond rfl (fun _ => pw_exit ?_) (fun q => by simp at q))
    have hd : downL ltI n lc ic n = (lc, ic) := by
      cases n with
      | zero => omega
      | succ n => unfold downL; rw [if_pos (by omega)]
    rw [hdown] at hd
    refine ⟨rfl, f1, ?_, hoff, ?_⟩
    · rw [hd]; exact f7
    · rw [hd]; exact hp
  · refine pw_seq (pw_seq (pw_L [] (by rfl) fun K hK => ?_))
    have hc' : ¬ (n : Int) ≤ k1 := by omega
    have hc2 : ¬ (k1 : Int) < 0 := by omega
    simp -implicitDefEqProofs [f0, f1, f2, f7, pint, hc', hc2]
    refine hK _ _ (pw_cond rfl (fun q => by simp at q) (fun _ => pw_skip ?_))
    clear hK
    refine pw_seq (pw_R (by rfl) (by simp; rfl) ?_)
    obtain ⟨c1, c2, c3, c4, c5⟩ := kid_spec ltI_str lc ic n (by omega)
    have hkd : kid ltI lc ic n < lc.length := by omega
    refine pw_seq (pw_mono (Q := fun e F' T' => e = .normal ∧ T' = T ∧ F' 0 = hI hid hv ∧ F' 1 = pint i ∧ F' 2 = pint n ∧ F' 7 = pint ic ∧ F' 9 = pint (kid ltI lc ic n)) ?_ ?_)
    · generalize hk2 : 2 * ic + 2 = k2 at w3
      refine pw_seq (pw_L [] (by rfl) fun K hK => ?_)
      simp -implicitDefEqProofs [f0, f1, f2, f7, pint, w3]
      refine hK _ _ ?_
      clear hK
      by_cases h2 : k2 < n
      · refine pw_seq (pw_L [] (by rfl) fun K hK => ?_)
        have h2' : (k2 : Int) < n := by omega
        simp -implicitDefEqProofs [f0, f1, f2, f7, pint, h2, h2']
        refine po_invoke rfl rfl rfl mLess en196 (by exact hpLess hp k2 k1 (by omega) (by omega)) fun p S' hq => ?_
        obtain ⟨rfl, rfl⟩ := hq
        simp -implicitDefEqProofs [pbool]
        refine hK _ _ ?_
        clear hK
        cases hl : il ltI (ata lc k2) (ata lc k1) with
        | true =>
          refine pw_cond rfl (fun _ => pw_R (by rfl) (by simp; rfl) ?_) (fun q => by simp at q)
          refine ⟨rfl, rfl, f0, f1, f2, f7, ?_⟩
          unfold kid
          rw [hk1, hk2, if_pos ⟨h2, hl⟩]; rfl
        | false =>
          refine pw_cond rfl (fun q => by simp at q) (fun _ => pw_skip ⟨rfl, rfl, f0, f1, f2, f7, ?_⟩)
          unfold kid
          rw [hk1, hk2, if_neg (by rw [hl]; simp)]; rfl
      · refine pw_seq (pw_L [] (by rfl) fun K hK => ?_)
        have h2' : ¬ (k2 : Int) < n := by omega
        simp -implicitDefEqProofs [f0, f1, f2, f7, pint, h2, h2']
        refine hK _ _ (pw_cond rfl (fun q => by simp at q) (fun _ => pw_skip ⟨rfl, rfl, f0, f1, f2, f7, ?_⟩))
        unfold kid
        rw [hk1, hk2, if_neg (fun q => h2 q.1)]; rfl
    · clear f0 f1 f2 f7 F
      rintro e F S' ⟨rfl, rfl, f0, f1, f2, f7, f9⟩
      have hstep : downL ltI n lc ic n = if il ltI (ata lc (kid ltI lc ic n)) (ata lc ic) = false then (lc, ic) else downL ltI n (swp lc ic (kid ltI lc ic n)) (kid ltI lc ic n) n := by
        cases n with
        | zero => omega
        | succ n =>
          conv => lhs; unfold downL
          rw [if_neg (by omega)]
          split
          · rfl
          · exact downL_fuel _ _ _ _ _ (by omega) (by omega)
      rw [hdown] at hstep
      generalize hkk : kid ltI lc ic n = kk at *
      refine pw_seq (pw_seq (pw_L [] (by rfl) fun K hK => ?_))
      simp -implicitDefEqProofs [f0, f1, f2, f7, f9, pint]
      refine po_invoke rfl rfl rfl mLess en196 (by exact hpLess hp kk ic (by omega) (by omega)) fun p S' hq => ?_
      obtain ⟨rfl, rfl⟩ := hq
      simp -implicitDefEqProofs [pbool]
      refine hK _ _ ?_
      clear hK
      cases hl : il ltI (ata lc kk) (ata lc ic) with
      | false =>
        rw [if_pos hl] at hstep
        refine pw_cond rfl (fun _ => pw_exit ⟨rfl, f1, ?_, hoff, ?_⟩) (fun q => by simp at q)
        · rw [hstep]; exact f7
        · rw [hstep]; exact hp
      | true =>
        rw [if_neg (by rw [hl]; simp)] at hstep
        refine pw_cond rfl (fun q => by simp at q) (fun _ => pw_skip (pw_seq (pw_L [] (by rfl) fun K hK => ?_)))
        simp -implicitDefEqProofs [f0, f1, f2, f7, f9, pint]
        refine po_invoke rfl rfl rfl mSwap en199 (by exact hpSwap hp ic kk (by omega) hkd) fun p S' hq => ?_
        obtain ⟨hq1, hq2⟩ := hq
        refine hK _ _ ?_
        clear hK
        refine pw_R (by rfl) (by simp [f9]; rfl) ?_
        refine ⟨n - kk, ⟨swp lc ic kk, kk, rfl, c2, by rw [swp_len]; exact hnl, f0, f1, f2, rfl, hoff.trans hq1, hq2, hstep.symm⟩, by omega⟩
end Go.Proofs.YtafcjklojnhbnaaGreat.Pv
namespace Go.Proofs.YtafcjklojnhbnaaGreat.Hp
section
variable {α : Type} [DecidableEq α] [Inhabited α] {lt : α → α → Bool}
def fixL (lt : α → α → Bool) (l : Its α) (i n : Nat) : Its α := if i < (downL lt n l i n).2 then (downL lt n l i n).1 else upL lt (i + 1) (downL lt n l i n).1 i
theorem fixL_spec (h : Str lt) (l : Its α) (i n : Nat) (hn : n ≤ l.length) (hi : i < n) (inv : DownInv lt l n i) : Heap lt (fixL lt l i n) n ∧ (fixL lt l i n).Perm l ∧ (fixL lt l i n).length = l.length ∧ ∀ k, n ≤ k → ata (fixL lt l i n) k = ata l k := by
  obtain ⟨q1, q2, q3, q4, q5, q6, q7⟩ := downL_spec h n l n i hn hi (by omega) inv
  unfold fixL
  split
  · rename_i hm; exact ⟨q6 hm, q1, q2, q3⟩
  · rename_i hm
    obtain ⟨r1, r2⟩ := q7 (by omega)
    rw [r1]
    exact upL_spec h (i + 1) l n i hn hi (by omega) ⟨r2, inv.kids⟩
theorem heap_push {l : Its α} (x : Int × α) (h : Heap lt l l.length) : UpInv lt (l ++ [x]) (l.length + 1) l.length := by
  have ap : ∀ k, k < l.length → ata (l ++ [x]) k = ata l k := fun k hk => by
    unfold ata; rw [List.getD_eq_getElem?_getD, List.getD_eq_getElem?_getD, List.getElem?_append_left hk]
  refine ⟨fun k k0 kn kj => ?_, fun k k0 kn kp j0 => ?_⟩
  · have := par_lt k0
    rw [ap k (by omega), ap (par k) (by omega)]
    exact h k k0 (by omega)
  · have := par_lt k0; omega
theorem heap_swap (hs : Str lt) {l : Its α} (i n : Nat) (hi : i < n) (hn : n + 1 = l.length) (h : Heap lt l l.length) : DownInv lt (swp l i n) n i := by
  have at' := fun k => ata_swp l i n k (by omega) (by omega)
  refine ⟨fun k k0 kn kp ki => ?_, fun k k0 kn kp i0 => ?_⟩
  · have := par_lt k0
    rw [at' k, at' (par k), if_neg (by omega), if_neg ki, if_neg (by omega), if_neg kp]
    exact h k k0 (by omega)
  · have := par_lt k0
    have := par_lt i0
    rw [at' k, at' (par i), if_neg (by omega), if_neg (by omega), if_neg (by omega), if_neg (by omega)]
    have e1 := h k k0 (by omega)
    rw [kp] at e1
    exact nlt_trans hs e1 (h i i0 (by omega))
theorem heap_take {l : Its α} (n : Nat) (h : Heap lt l n) : Heap lt (l.take n) n := by
  intro k k0 kn
  have := par_lt k0
  have e : ∀ j, j < n → ata (l.take n) j = ata l j := fun j hj => by
    unfold ata; rw [List.getD_eq_getElem?_getD, List.getD_eq_getElem?_getD, List.getElem?_take, if_pos hj]
  rw [e k kn, e (par k) (by omega)]
  exact h k k0 kn
end
theorem split_last {α : Type} [Inhabited α] (l : Its α) (n : Nat) (hn : n + 1 = l.length) : l = l.take n ++ [ata l n] := by
  apply List.ext_getElem?
  intro k
  rw [List.getElem?_append]
  by_cases h1 : k < n
  · rw [if_pos (by simp; omega), List.getElem?_take, if_pos h1]
  · rw [if_neg (by simp; omega)]
    by_cases h2 : k = n
    · subst h2
      have : k < l.length := by omega
      simp [ata, this, Nat.min_eq_left (Nat.le_of_lt this)]
    · rw [List.getElem?_eq_none (by omega), List.getElem?_eq_none (by simp; omega)]
end Go.Proofs.YtafcjklojnhbnaaGreat.Hp
namespace Go.Proofs.YtafcjklojnhbnaaGreat.Pv
open Go Hp
def HH (S : Store) (hid hv rid mid mv : Nat) (l : Its Int) : Prop := HP S hid hv rid mid mv l ∧ Heap ltI l l.length
theorem HH.cut {S T : Store} {hid hv rid mid mv : Nat} {l : Its Int} (h : HH T hid hv rid mid mv l) : HH (cut S [hid, rid, mid] T) hid hv rid mid mv l := ⟨h.1.cut, h.2⟩
theorem hPush_ok {S : Store} {hid hv rid mid mv : Nat} {l : Its Int} (h : HH S hid hv rid mid mv l) (x : Int × Int) (hx : ∀ i, i < l.length → (ata l i).1 ≠ x.1) (hn : l.length + 1 ≤ 2147483648) :
    PCalls Tryz.prog 145 [hI hid hv, .ifc 217 (.agg (encT x))] S (fun _ S' => Off S [hid, rid, mid] S' ∧ ∃ l', HH S' hid hv rid mid mv l' ∧ l'.Perm (x :: l)) := by
  obtain ⟨hp, hh⟩ := h
  refine pcalls_of_pw Tryz.func145 rfl Tryz.ntmps145 (congrArg Array.toList Tryz.results145) (by simp) ?_
  refine pw_seq (pw_L [] (by rfl) fun K hK => ?_)
  simp -implicitDefEqProofs
  refine po_invoke rfl rfl rfl mPush en198 (by exact hpPush hp x hx hn) fun p S1 hq => ?_
  obtain ⟨o1, p1⟩ := hq
  refine hK _ _ ?_
  clear hK
  refine pw_L [] (by rfl) fun K hK => ?_
  simp -implicitDefEqProofs
  refine po_invoke rfl rfl rfl mLen en195 (by exact hpLen p1) fun p S2 hq => ?_
  obtain ⟨rfl, rfl⟩ := hq
  have w1 : IntKind.i64.wrap (l.length : Int) = l.length := wrap64 _ (by omega) (by omega)
  simp -implicitDefEqProofs [pint, w1]
  obtain ⟨q1, q2, q3, _⟩ := upL_spec ltI_str (l.length + 1) (l ++ [x]) (l.length + 1) l.length (by simp) (by omega) (by omega) (heap_push x hh)
  refine po_call rfl rfl rfl en161 (by exact up_ok p1 l.length (by simp)) fun p S3 hq => ?_
  obtain ⟨o3, p3⟩ := hq
  refine hK _ _ ⟨_, _, rfl, ⟨cut_off _ _ _, _, HH.cut ⟨p3, ?_⟩, q2.trans (List.perm_append_comm (l₁ := l) (l₂ := [x]))⟩, cut_ok (o1.trans o3).offd⟩
  rw [q3]; simpa using q1
theorem hRemove_ok {S : Store} {hid hv rid mid mv : Nat} {l : Its Int} (h : HH S hid hv rid mid mv l) (i : Nat) (hi : i < l.length) :
    PCalls Tryz.prog 162 [hI hid hv, pint i] S (fun p S' => p = .ifc 217 (.agg (encT (ata l i))) ∧ Off S [hid, rid, mid] S' ∧ ∃ l', HH S' hid hv rid mid mv l' ∧ (ata l i :: l').Perm l) := by
  obtain ⟨hp, hh⟩ := h
  have hlen := hp.len
  obtain ⟨n, hn⟩ : ∃ n, n + 1 = l.length := ⟨l.length - 1, by omega⟩
  refine pcalls_of_pw Tryz.func162 rfl Tryz.ntmps162 (congrArg Array.toList Tryz.results162) (by simp) ?_
  refine pw_seq (pw_R (by rfl) (by simp; rfl) (pw_seq (pw_L [] (by rfl) fun K hK => ?_)))
  simp -implicitDefEqProofs
  refine po_invoke rfl rfl rfl mLen en195 (by exact hpLen hp) fun p S2 hq => ?_
  obtain ⟨rfl, rfl⟩ := hq
  have w1 : IntKind.i64.wrap ((l.length : Int) - 1) = n := by rw [wrap64 _ (by omega) (by omega)]; omega
  simp -implicitDefEqProofs [pint, w1]
  refine hK _ _ ?_
  clear hK
  refine pw_seq (pw_mono (Q := fun e F' T' => e = .normal ∧ F' 0 = hI hid hv ∧ Off S2 [hid, rid, mid] T' ∧ ∃ l3 : Its Int, HP T' hid hv rid mid mv l3 ∧ Heap ltI l3 n ∧ l3.Perm l ∧ l3.length = l.length ∧ ata l3 n = ata l i) ?_ ?_)
  · refine pw_seq (pw_R (by rfl) (by simp [pint]; rfl) ?_)
    by_cases hc : n = i
    · refine pw_cond rfl (fun q => by simp [hc] at q) (fun _ => pw_skip ⟨rfl, rfl, fun _ _ => rfl, l, hp, fun k k0 kn => hh k k0 (by omega), .refl _, rfl, by rw [hc]⟩)
    · have hc' : ¬ (n : Int) = i := by omega
      refine pw_cond rfl (fun _ => ?_) (fun q => by simp [hc'] at q)
      refine pw_seq (pw_L [] (by rfl) fun K hK => ?_)
      simp -implicitDefEqProofs [pint]
      refine po_invoke rfl rfl rfl mSwap en199 (by exact hpSwap hp i n (by omega) (by omega)) fun p S3 hq => ?_
      obtain ⟨o3, p3⟩ := hq
      refine hK _ _ ?_
      clear hK
      have inv := heap_swap ltI_str i n (by omega) hn hh
      have hsl := swp_len l i n
      obtain ⟨s1, s2, s3, s4⟩ := fixL_spec ltI_str (swp l i n) i n (by omega) (by omega) inv
      have hlast : ata (fixL ltI (swp l i n) i n) n = ata l i := by rw [s4 n (Nat.le_refl _), ata_swp l i n n hi (by omega), if_pos rfl]
      refine pw_seq (pw_L [] (by rfl) fun K hK => ?_)
      simp -implicitDefEqProofs [pint]
      refine po_call rfl rfl rfl en164 (by exact down_ok p3 i n (by omega) (by omega)) fun p S4 hq => ?_
      obtain ⟨rfl, o4, p4⟩ := hq
      simp -implicitDefEqProofs [pbool]
      refine hK _ _ ?_
      clear hK
      by_cases hm : i < (downL ltI n (swp l i n) i n).2
      · refine pw_cond rfl (fun q => by simp at q; omega) (fun _ => pw_skip ⟨rfl, rfl, o3.trans o4, fixL ltI (swp l i n) i n, ?_, s1, s2.trans (swp_perm l _ _ hi (by omega)), s3.trans hsl, hlast⟩)
        unfold fixL; rw [if_pos hm]; exact p4
      · refine pw_cond rfl (fun _ => ?_) (fun q => by simp at q; omega)
        refine pw_L [] (by rfl) fun K hK => ?_
        simp -implicitDefEqProofs [pint]
        have hdl : (downL ltI n (swp l i n) i n).1.length = l.length := ((downL_spec ltI_str n (swp l i n) n i (by omega) (by omega) (by omega) inv).2.1).trans hsl
        refine po_call rfl rfl rfl en161 (by exact up_ok p4 i (by omega)) fun p S5 hq => ?_
        obtain ⟨o5, p5⟩ := hq
        refine hK _ _ ⟨rfl, rfl, (o3.trans o4).trans o5, fixL ltI (swp l i n) i n, ?_, s1, s2.trans (swp_perm l _ _ hi (by omega)), s3.trans hsl, hlast⟩
        unfold fixL; rw [if_neg hm]; exact p5
  · rintro e F T ⟨rfl, f0, hoff, l3, p3, h3, pm, hl3, hx⟩
    have hsp := split_last l3 n (by omega)
    rw [hx] at hsp
    rw [hsp] at p3 pm
    refine pw_seq (pw_L [] (by rfl) fun K hK => ?_)
    simp -implicitDefEqProofs [f0]
    refine po_invoke rfl rfl rfl mPop en197 (by exact hpPop _ p3) fun p S4 hq => ?_
    obtain ⟨rfl, o4, p4⟩ := hq
    have hheap : Heap ltI (l3.take n) (l3.take n).length := by
      have e : (l3.take n).length = n := by simp; omega
      rw [e]; exact heap_take n h3
    refine hK _ _ (pw_ret ⟨_, _, rfl, ⟨rfl, cut_off _ _ _, _, HH.cut ⟨p4, hheap⟩, ?_⟩, cut_ok (hoff.trans o4).offd⟩)
    exact (List.perm_append_comm (l₁ := [ata l i]) (l₂ := l3.take n)).trans pm
open Go Hp
abbrev ilt (a b : Int × Int) : Bool := il ltI a b
def SortedI (r : Its Int) : Prop := r.Pairwise (fun a b => ilt a b = true)
def insI (x : Int × Int) : Its Int → Its Int
  | [] => [x]
  | y :: r => if ilt x y = true then x :: y :: r else y :: insI x r
def outI (id : Int) (r : Its Int) : Its Int := r.filter fun x => decide (x.1 ≠ id)
def hasI (id : Int) (r : Its Int) : Bool := r.any fun x => decide (x.1 = id)
theorem insI_perm (x : Int × Int) : ∀ r, (insI x r).Perm (x :: r)
  | [] => .refl _
  | y :: r => by
    unfold insI
    split
    · exact .refl _
    · exact ((insI_perm x r).cons y).trans (.swap x y r)
theorem il_tr {a b c : Int × Int} (h1 : ilt a b = true) (h2 : ilt b c = true) : ilt a c = true := (il_str ltI_str).tr _ _ _ h1 h2
theorem il_or {a b : Int × Int} (h : ilt a b = false) (hne : a.1 ≠ b.1) : ilt b a = true := by
  cases hq : ilt b a with
  | true => rfl
  | false => exact absurd (congrArg Prod.fst ((il_str ltI_str).tot _ _ h hq)) hne
theorem insI_sorted (x : Int × Int) : ∀ r, SortedI r → (∀ y ∈ r, y.1 ≠ x.1) → SortedI (insI x r)
  | [], _, _ => by simp [insI, SortedI]
  | y :: r, h, hx => by
    unfold insI
    have h' := List.pairwise_cons.1 h
    split
    · rename_i hl
      refine List.pairwise_cons.2 ⟨fun z hz => ?_, h⟩
      rcases List.mem_cons.1 hz with rfl | hz
      · exact hl
      · exact il_tr hl (h'.1 z hz)
    · rename_i hl
      have hl' : ilt x y = false := by simpa using hl
      refine List.pairwise_cons.2 ⟨fun z hz => ?_, insI_sorted x r h'.2 fun z hz => hx z (List.mem_cons_of_mem _ hz)⟩
      rcases List.mem_cons.1 ((insI_perm x r).subset hz) with rfl | hz
      · exact il_or hl' (Ne.symm (hx y (by simp)))
      · exact h'.1 z hz
theorem outI_sorted (id : Int) (r : Its Int) (h : SortedI r) : SortedI (outI id r) := List.Pairwise.filter _ h
def HM (S : Store) (hid hv rid mid mv : Nat) (r : Its Int) : Prop := ∃ l, HH S hid hv rid mid mv l ∧ l.Perm r ∧ SortedI r
theorem HM.cut {S T : Store} {hid hv rid mid mv : Nat} {r : Its Int} (h : HM T hid hv rid mid mv r) : HM (cut S [hid, rid, mid] T) hid hv rid mid mv r := by obtain ⟨l, h, k⟩ := h; exact ⟨l, h.cut, k⟩
theorem HM.len {S : Store} {hid hv rid mid mv : Nat} {r : Its Int} (h : HM S hid hv rid mid mv r) : r.length ≤ 2147483648 := by obtain ⟨l, h, k, _⟩ := h; rw [← k.length_eq]; exact h.1.len
theorem ata_mem {l : Its Int} {i : Nat} (hi : i < l.length) : ata l i ∈ l := by
  have : ata l i = l[i] := by unfold ata; simp [hi]
  rw [this]; exact List.getElem_mem hi
theorem mem_ata {l : Its Int} {x : Int × Int} (h : x ∈ l) : ∃ i, i < l.length ∧ ata l i = x := by
  obtain ⟨i, hi, rfl⟩ := List.getElem_of_mem h
  exact ⟨i, hi, by unfold ata; simp [hi]⟩
theorem HS.look {S : Store} {hid hv rid mid mv : Nat} {l : Its Int} {g : Int → Option Nat} (h : HS S hid hv rid mid mv l g) (k : PosOk g l) (id : Int) : ∃ es res, S mid = .map mv es ∧ findP (.int .i64) (keyI id) es 0 = some res ∧
    ((hasI id l = false ∧ lookP true (.int .i64 0) res = .tup [pint 0, .sc (.bool false)]) ∨ (hasI id l = true ∧ ∃ i, i < l.length ∧ (ata l i).1 = id ∧ lookP true (.int .i64 0) res = .tup [pint i, .sc (.bool true)])) := by
  obtain ⟨es, h3, h4⟩ := h.m
  obtain ⟨res, m1, m2, m3, _, _⟩ := h4.find (keyOk_int .i64) id
  refine ⟨es, res, h3, m1, ?_⟩
  by_cases hi : ∃ i, i < l.length ∧ (ata l i).1 = id
  · obtain ⟨i, hi, e⟩ := hi
    refine .inr ⟨?_, i, hi, e, ?_⟩
    · simp only [hasI, List.any_eq_true]
      exact ⟨_, ata_mem hi, by simpa using e⟩
    · obtain ⟨j, rfl⟩ := m3 i (by rw [← e]; exact k.here i hi)
      rfl
  · refine .inl ⟨?_, ?_⟩
    · simp only [hasI, List.any_eq_false]
      intro x hx
      obtain ⟨i, hi', rfl⟩ := mem_ata hx
      simp; exact fun e => hi ⟨i, hi', e⟩
    · have := m2 (k.gone id fun i hi' e => hi ⟨i, hi', e⟩)
      subst this; rfl
theorem hasI_perm {id : Int} {l r : Its Int} (h : l.Perm r) : hasI id l = hasI id r := by
  unfold hasI
  rw [Bool.eq_iff_iff, List.any_eq_true, List.any_eq_true]
  exact ⟨fun ⟨x, hx, e⟩ => ⟨x, h.subset hx, e⟩, fun ⟨x, hx, e⟩ => ⟨x, h.symm.subset hx, e⟩⟩
theorem heapPut_ok {S : Store} {hid hv rid mid mv : Nat} {r : Its Int} (h : HM S hid hv rid mid mv r) (id w : Int) (hn : r.length + 1 ≤ 2147483648) :
    PCalls Tryz.prog 127 [.ptr hid hv 0, pint id, pint w] S (fun p S' => p = pbool (!hasI id r) ∧ Off S [hid, rid, mid] S' ∧ HM S' hid hv rid mid mv (bif hasI id r then r else insI (id, w) r)) := by
  obtain ⟨l, ⟨hp, hh⟩, pm, hs⟩ := h
  have hp0 := hp
  obtain ⟨g, hS, hk⟩ := hp0
  obtain ⟨ver, h1, cs, h2, hR⟩ := hS.h
  obtain ⟨es, res, h3, h4, h5⟩ := hS.look hk id
  refine pcalls_of_pw Tryz.func127 rfl Tryz.ntmps127 (congrArg Array.toList Tryz.results127) (by simp) ?_
  refine pw_seq (pw_R (by rfl) (by simp; rfl) (pw_seq (pw_seq (pw_L [] (by rfl) fun K hK => ?_))))
  simp -implicitDefEqProofs [h1]
  refine po_lookup rfl Tryz.underlying134 Tryz.underlying3 rfl rfl rfl h3 h4 (by simp; rfl) ?_
  rcases h5 with ⟨h5, h6⟩ | ⟨h5, i, hi, hid, h6⟩
  · rw [h6]
    simp -implicitDefEqProofs
    refine hK _ _ ?_
    clear hK
    refine pw_seq (pw_R (by rfl) (by simp; rfl) (pw_cond rfl (fun q => by simp at q) (fun _ => pw_skip ?_)))
    refine pw_seq (pw_L [] (by rfl) fun K hK => ?_)
    simp -implicitDefEqProofs [pint]
    have hx : ∀ i, i < l.length → (ata l i).1 ≠ id := by
      intro i hi e
      have : hasI id l = true := by
        simp only [hasI, List.any_eq_true]; exact ⟨_, ata_mem hi, by simpa using e⟩
      rw [h5] at this; cases this
    refine po_call rfl rfl rfl en145 (by exact hPush_ok ⟨hp, hh⟩ (id, w) hx (by rw [pm.length_eq]; exact hn)) fun p S3 hq => ?_
    obtain ⟨o3, l', hh', pm'⟩ := hq
    refine hK _ _ ?_
    clear hK
    refine pw_seq (pw_R (by rfl) (by simp; rfl) (pw_ret ?_))
    rw [← hasI_perm pm, h5]
    refine ⟨_, _, rfl, ⟨rfl, cut_off _ _ _, HM.cut ⟨l', hh', pm'.trans (((List.Perm.cons _ pm)).trans (insI_perm _ _).symm), insI_sorted _ _ hs fun y hy e => ?_⟩⟩, cut_ok o3.offd⟩
    obtain ⟨j, hj, rfl⟩ := mem_ata (pm.symm.subset hy)
    exact hx j hj e
  · rw [h6]
    simp -implicitDefEqProofs
    refine hK _ _ ?_
    clear hK
    refine pw_seq (pw_R (by rfl) (by simp; rfl) (pw_cond rfl (fun _ => ?_) (fun q => by simp at q)))
    refine pw_seq (pw_R (by rfl) (by simp; rfl) (pw_ret ?_))
    rw [← hasI_perm pm, h5]
    exact ⟨_, _, rfl, ⟨rfl, fun _ _ => rfl, ⟨l, ⟨hp, hh⟩, pm, hs⟩⟩, fun o => .inl rfl⟩
open Go Hp
def Once (r : Its Int) : Prop := (r.map (·.1)).Nodup
theorem HP.once {S : Store} {hid hv rid mid mv : Nat} {l : Its Int} (h : HP S hid hv rid mid mv l) : Once l := by
  obtain ⟨g, _, k⟩ := h
  unfold Once
  refine List.pairwise_iff_getElem.2 fun i j hi hj hij e => ?_
  simp only [List.length_map] at hi hj
  simp only [List.getElem_map] at e
  have q : ∀ i (hi : i < l.length), ata l i = l[i] := fun i hi => by unfold ata; simp [hi]
  have := k.inj hi hj (by rw [q i hi, q j hj]; exact e)
  omega
theorem Once.perm {l r : Its Int} (h : l.Perm r) (k : Once l) : Once r := (List.Perm.nodup_iff (h.map fun x : Int × Int => x.1)).1 k
theorem HM.once {S : Store} {hid hv rid mid mv : Nat} {r : Its Int} (h : HM S hid hv rid mid mv r) : Once r := by
  obtain ⟨l, ⟨hp, _⟩, pm, _⟩ := h
  exact hp.once.perm pm
theorem outI_cons {x : Int × Int} {l : Its Int} (h : Once (x :: l)) : outI x.1 (x :: l) = l := by
  unfold outI
  rw [List.filter_cons, if_neg (by simp), List.filter_eq_self]
  intro y hy
  simp only [decide_eq_true_eq]
  intro e
  have := (List.nodup_cons.1 (show (x.1 :: l.map (·.1)).Nodup from h)).1
  exact this (List.mem_map.2 ⟨y, hy, e⟩)
theorem outI_perm {l r : Its Int} (id : Int) (h : l.Perm r) : (outI id l).Perm (outI id r) := h.filter _
theorem outI_none {id : Int} {l : Its Int} (h : hasI id l = false) : outI id l = l := by
  unfold outI
  rw [List.filter_eq_self]
  intro y hy
  simp only [hasI, List.any_eq_false] at h
  simpa using h y hy
theorem heapDrop_ok {S : Store} {hid hv rid mid mv : Nat} {r : Its Int} (h : HM S hid hv rid mid mv r) (id : Int) :
    PCalls Tryz.prog 147 [.ptr hid hv 0, pint id] S (fun p S' => p = pbool (hasI id r) ∧ Off S [hid, rid, mid] S' ∧ HM S' hid hv rid mid mv (outI id r)) := by
  have hM := h
  obtain ⟨l, ⟨hp, hh⟩, pm, hs⟩ := h
  have hp0 := hp
  obtain ⟨g, hS, hk⟩ := hp0
  obtain ⟨ver, h1, cs, h2, hR⟩ := hS.h
  obtain ⟨es, res, h3, h4, h5⟩ := hS.look hk id
  refine pcalls_of_pw Tryz.func147 rfl Tryz.ntmps147 (congrArg Array.toList Tryz.results147) (by simp) ?_
  refine pw_seq (pw_R (by rfl) (by simp; rfl) (pw_seq (pw_L [] (by rfl) fun K hK => ?_)))
  simp -implicitDefEqProofs [h1]
  refine po_lookup rfl Tryz.underlying134 Tryz.underlying3 rfl rfl rfl h3 h4 (by simp; rfl) ?_
  rw [hasI_perm pm] at h5
  rcases h5 with ⟨h5, h6⟩ | ⟨h5, i, hi, hid, h6⟩
  · rw [h6]
    simp -implicitDefEqProofs
    refine hK _ _ ?_
    clear hK
    refine pw_seq (pw_seq (pw_R (by rfl) (by simp; rfl) (pw_cond rfl (fun _ => ?_) (fun q => by simp at q))))
    refine pw_seq (pw_R (by rfl) (by simp; rfl) (pw_ret ?_))
    rw [h5, outI_none h5]
    exact ⟨_, _, rfl, ⟨rfl, fun _ _ => rfl, hM⟩, fun o => .inl rfl⟩
  · rw [h6]
    simp -implicitDefEqProofs [pint]
    refine hK _ _ ?_
    clear hK
    refine pw_seq (pw_seq (pw_R (by rfl) (by simp; rfl) (pw_cond rfl (fun q => by simp at q) (fun _ => pw_skip ?_))))
    refine pw_seq (pw_L [] (by rfl) fun K hK => ?_)
    simp -implicitDefEqProofs
    refine po_call rfl rfl rfl en162 (by exact hRemove_ok ⟨hp, hh⟩ i hi) fun p S3 hq => ?_
    obtain ⟨_, o3, l', hh', pm'⟩ := hq
    refine hK _ _ ?_
    clear hK
    refine pw_seq (pw_R (by rfl) (by simp; rfl) (pw_ret ?_))
    rw [h5]
    have e1 : outI id (ata l i :: l') = l' := by rw [← hid]; exact outI_cons (Once.perm pm'.symm hp.once)
    refine ⟨_, _, rfl, ⟨rfl, cut_off _ _ _, HM.cut ⟨l', hh', ?_, outI_sorted id r hs⟩⟩, cut_ok o3.offd⟩
    have := outI_perm id (pm'.trans pm)
    rw [e1] at this
    exact this
end Go.Proofs.YtafcjklojnhbnaaGreat.Pv
namespace Go.Proofs.YtafcjklojnhbnaaGreat.Hp
section
variable {α : Type} [DecidableEq α] [Inhabited α] {lt : α → α → Bool}
theorem heap_root (hs : Str lt) {l : Its α} (h : Heap lt l l.length) : ∀ k, k < l.length → il lt (ata l k) (ata l 0) = false := by
  intro k
  induction k using Nat.strongRecOn with
  | _ k ih =>
    intro hk
    rcases Nat.eq_zero_or_pos k with e | e
    · subst e; exact (il_str hs).irr _
    · have := par_lt e
      exact nlt_trans hs (h k e hk) (ih (par k) this (by omega))
end
end Go.Proofs.YtafcjklojnhbnaaGreat.Hp
namespace Go.Proofs.YtafcjklojnhbnaaGreat.Pv
open Go Hp
theorem HM.root {S : Store} {hid hv rid mid mv : Nat} {x : Int × Int} {r : Its Int} {l : Its Int} (h : HH S hid hv rid mid mv l) (pm : l.Perm (x :: r)) (hs : SortedI (x :: r)) : ata l 0 = x := by
  have hl : 0 < l.length := by rw [pm.length_eq]; simp
  obtain ⟨k, hk, e⟩ := mem_ata (pm.symm.subset (List.mem_cons_self))
  have h1 := heap_root ltI_str h.2 k hk
  rw [e] at h1
  rcases List.mem_cons.1 (pm.subset (ata_mem hl)) with h2 | h2
  · exact h2
  · have := (List.pairwise_cons.1 hs).1 _ h2
    rw [show ilt x (ata l 0) = false from h1] at this; cases this
def headP : Its Int → PV
  | [] => .tup [pint 0, pint 0, pbool false]
  | x :: _ => .tup [pint x.1, pint x.2, pbool true]
theorem heapFirst_ok {S : Store} {hid hv rid mid mv : Nat} {r : Its Int} (h : HM S hid hv rid mid mv r) :
    PCalls Tryz.prog 146 [.ptr hid hv 0] S (fun p S' => p = headP r ∧ S' = S) := by
  obtain ⟨l, hh, pm, hs⟩ := h
  have hp := hh.1
  obtain ⟨g, hS, hk⟩ := hp
  obtain ⟨ver, h1, cs, h2, hR⟩ := hS.h
  refine pcalls_of_pw Tryz.func146 rfl Tryz.ntmps146 (congrArg Array.toList Tryz.results146) (by simp) ?_
  refine pw_seq (pw_R (by rfl) (by simp; rfl) (pw_seq (pw_seq (pw_L [] (by rfl) fun K hK => ?_))))
  simp -implicitDefEqProofs [h1]
  refine hK _ _ ?_
  clear hK
  cases r with
  | nil =>
    have hl : l.length = 0 := by rw [pm.length_eq]; rfl
    refine pw_cond rfl (fun _ => ?_) (fun q => by simp at q; exact absurd (List.eq_nil_of_length_eq_zero hl) q)
    refine pw_seq (pw_R (by rfl) (by simp; rfl) (pw_seq (pw_R (by rfl) (by simp; rfl) (pw_ret ?_))))
    exact ⟨_, S, rfl, ⟨rfl, rfl⟩, fun o => .inl rfl⟩
  | cons x r =>
    have hl : 0 < l.length := by rw [pm.length_eq]; simp
    have hx := HM.root hh pm hs
    obtain ⟨tl, e1⟩ := hR.at 0 hl
    rw [hx] at e1
    simp at e1
    refine pw_cond rfl (fun q => by simp at q; subst q; simp at hl) (fun _ => pw_skip ?_)
    refine pw_seq (pw_L [] (by rfl) fun K hK => ?_)
    have hl' : 0 < l.length := hl
    simp -implicitDefEqProofs [h1, h2, hl', e1]
    refine po_alloc rfl (by simp; rfl) (by simp) fun a ha => ?_
    simp -implicitDefEqProofs
    refine hK _ _ ?_
    clear hK
    refine pw_seq (pw_D mixed (by rfl) (by rfl) (by rfl) (by simp; rfl) (pw_ret ?_))
    refine ⟨_, S, rfl, ⟨rfl, rfl⟩, fun o => ?_⟩
    by_cases e : o = a
    · exact .inr (e ▸ ha)
    · exact .inl (by rw [set_ne _ _ _ _ e])
theorem heapTake_ok {S : Store} {hid hv rid mid mv : Nat} {r : Its Int} (h : HM S hid hv rid mid mv r) :
    PCalls Tryz.prog 128 [.ptr hid hv 0] S (fun p S' => p = headP r ∧ Off S [hid, rid, mid] S' ∧ HM S' hid hv rid mid mv r.tail) := by
  refine pcalls_of_pw Tryz.func128 rfl Tryz.ntmps128 (congrArg Array.toList Tryz.results128) (by simp) ?_
  refine pw_seq (pw_R (by rfl) (by simp; rfl) (pw_seq (pw_L [] (by rfl) fun K hK => ?_)))
  simp -implicitDefEqProofs
  refine po_call rfl rfl rfl en146 (by exact heapFirst_ok h) fun p S2 hq => ?_
  obtain ⟨rfl, rfl⟩ := hq
  cases r with
  | nil =>
    simp -implicitDefEqProofs [headP]
    refine hK _ _ ?_
    clear hK
    refine pw_seq (pw_seq (pw_R (by rfl) (by simp; rfl) (pw_cond rfl (fun q => by simp at q) (fun _ => pw_skip ?_))))
    refine pw_seq (pw_R (by rfl) (by simp; rfl) (pw_ret ?_))
    exact ⟨_, S2, rfl, ⟨rfl, fun _ _ => rfl, h⟩, fun o => .inl rfl⟩
  | cons x r =>
    simp -implicitDefEqProofs [headP]
    refine hK _ _ ?_
    clear hK
    refine pw_seq (pw_seq (pw_R (by rfl) (by simp; rfl) (pw_cond rfl (fun _ => ?_) (fun q => by simp at q))))
    refine pw_L [] (by rfl) fun K hK => ?_
    simp -implicitDefEqProofs
    refine po_call rfl rfl rfl en147 (by exact heapDrop_ok h x.1) fun p S3 hq => ?_
    obtain ⟨_, o3, h3⟩ := hq
    refine hK _ _ ?_
    clear hK
    refine pw_seq (pw_R (by rfl) (by simp; rfl) (pw_ret ?_))
    rw [outI_cons h.once] at h3
    exact ⟨_, S3, rfl, ⟨rfl, o3, h3⟩, fun o => .inl rfl⟩
open Go Hp
theorem HM.congr {S T : Store} {hid hv rid mid mv : Nat} {r : Its Int} (h : HM S hid hv rid mid mv r) (e : ∀ o ∈ [hid, rid, mid], T o = S o) : HM T hid hv rid mid mv r := by
  obtain ⟨l, ⟨⟨g, h, k⟩, hh⟩, pm, hs⟩ := h
  exact ⟨l, ⟨⟨g, h.congr e, k⟩, hh⟩, pm, hs⟩
def HX (o : Ob × Ob × Ob) (a hv mv : Nat) (r : Its Int) : Prop := ∀ S : Store, S a = o.1 → S (a + 1) = o.2.1 → S (a + 2) = o.2.2 → HM S (a + 1) hv (a + 2) a mv r
def put3 (obs : List Ob) (j : Nat) (o : Ob × Ob × Ob) : List Ob := ((obs.set j o.1).set (j + 1) o.2.1).set (j + 2) o.2.2
theorem HM.hx {S : Store} {a hv mv : Nat} {r : Its Int} (h : HM S (a + 1) hv (a + 2) a mv r) : HX (S a, S (a + 1), S (a + 2)) a hv mv r := by
  intro T h1 h2 h3
  refine h.congr fun o ho => ?_
  simp at ho
  rcases ho with rfl | rfl | rfl
  · exact h2
  · exact h3
  · exact h1
theorem HX.hm {S : Store} {nx j hv mv : Nat} {obs : List Ob} {o : Ob × Ob × Ob} {r : Its Int} (h : HX o (nx + j) hv mv r) (h1 : obs[j]? = some o.1) (h2 : obs[j + 1]? = some o.2.1) (h3 : obs[j + 2]? = some o.2.2) : HM (ext S nx obs) (nx + j + 1) hv (nx + j + 2) (nx + j) mv r := by
  refine h _ ?_ ?_ ?_
  · rw [ext_at, List.getD_eq_getElem?_getD, h1]; rfl
  · rw [Nat.add_assoc, ext_at, List.getD_eq_getElem?_getD, h2]; rfl
  · rw [Nat.add_assoc, ext_at, List.getD_eq_getElem?_getD, h3]; rfl
theorem off_ext {S T : Store} {nx j : Nat} {obs : List Ob} (h : Off (ext S nx obs) [nx + j + 1, nx + j + 2, nx + j] T) (hl : j + 2 < obs.length) : T = ext S nx (put3 obs j (T (nx + j), T (nx + j + 1), T (nx + j + 2))) := by
  funext i
  by_cases h1 : i = nx + j
  · subst h1
    rw [ext_at, List.getD_eq_getElem?_getD, put3, List.getElem?_set_ne (by omega), List.getElem?_set_ne (by omega), List.getElem?_set_self (by omega)]; rfl
  by_cases h2 : i = nx + j + 1
  · subst h2
    rw [Nat.add_assoc, ext_at, List.getD_eq_getElem?_getD, put3, List.getElem?_set_ne (by omega), List.getElem?_set_self (by simp; omega)]; rfl
  by_cases h3 : i = nx + j + 2
  · subst h3
    rw [Nat.add_assoc, ext_at, List.getD_eq_getElem?_getD, put3, List.getElem?_set_self (by simp; omega)]; rfl
  rw [h i (by simp; omega)]
  simp only [ext]
  split
  · rfl
  · rw [List.getD_eq_getElem?_getD, List.getD_eq_getElem?_getD, put3, List.getElem?_set_ne (by omega), List.getElem?_set_ne (by omega), List.getElem?_set_ne (by omega)]
section
variable {S : Store} {nx j hv mv : Nat} {obs : List Ob} {o : Ob × Ob × Ob} {r : Its Int}
theorem hx_turn {f : FuncId} {args : List PV} {q : PV} {r' : Its Int} (he : Enters Tryz.prog f) (hl : j + 2 < obs.length)
    (h : PCalls Tryz.prog f args (ext S nx obs) (fun p T => p = q ∧ Off (ext S nx obs) [nx + j + 1, nx + j + 2, nx + j] T ∧ HM T (nx + j + 1) hv (nx + j + 2) (nx + j) mv r')) :
    Spec Tryz.prog f args (ext S nx obs) (fun p T => p = q ∧ ∃ o', HX o' (nx + j) hv mv r' ∧ T = ext S nx (put3 obs j o')) := by
  refine ⟨he, h.mono ?_⟩
  rintro p T ⟨h1, h2, h3⟩
  exact ⟨h1, _, h3.hx, off_ext h2 hl⟩
variable (h : HX o (nx + j) hv mv r) (h1 : obs[j]? = some o.1) (h2 : obs[j + 1]? = some o.2.1) (h3 : obs[j + 2]? = some o.2.2)
include h h1 h2 h3
theorem hxPut (id w : Int) (hn : r.length + 1 ≤ 2147483648) : Spec Tryz.prog 127 [.ptr (nx + j + 1) hv 0, I id, I w] (ext S nx obs) (fun p T => p = B (!hasI id r) ∧ ∃ o', HX o' (nx + j) hv mv (bif hasI id r then r else insI (id, w) r) ∧ T = ext S nx (put3 obs j o')) :=
  hx_turn en127 (List.getElem?_eq_some_iff.1 h3).1 (heapPut_ok (h.hm h1 h2 h3) id w hn)
theorem hxTake : Spec Tryz.prog 128 [.ptr (nx + j + 1) hv 0] (ext S nx obs) (fun p T => p = headP r ∧ ∃ o', HX o' (nx + j) hv mv r.tail ∧ T = ext S nx (put3 obs j o')) :=
  hx_turn en128 (List.getElem?_eq_some_iff.1 h3).1 (heapTake_ok (h.hm h1 h2 h3))
end
set_option maxRecDepth 20000 in
theorem hxNew {S : Store} {nx : Nat} {obs : List Ob} : Spec Tryz.prog 125 [] (ext S nx obs) (fun p T => ∃ hv mv o, p = .ptr (nx + obs.length + 1) hv 0 ∧ HX o (nx + obs.length) hv mv [] ∧ T = ext S nx (obs ++ [o.1, o.2.1, o.2.2])) := by
  have hd := ext_dead (S := S) (nx := nx) (obs := obs)
  have e : ∀ o : Ob × Ob × Ob, ext S nx (obs ++ [o.1, o.2.1, o.2.2]) = ext (ext S nx obs) (nx + obs.length) [o.1, o.2.1, o.2.2] := by
    intro o
    have p1 := ext_push (S := S) (nx := nx) (obs := obs) o.1
    have p2 := ext_push (S := S) (nx := nx) (obs := obs ++ [o.1]) o.2.1
    have p3 := ext_push (S := S) (nx := nx) (obs := obs ++ [o.1] ++ [o.2.1]) o.2.2
    have q0 := ext_nil hd
    have q1 := ext_push (S := ext S nx obs) (nx := nx + obs.length) (obs := []) o.1
    have q2 := ext_push (S := ext S nx obs) (nx := nx + obs.length) (obs := [o.1]) o.2.1
    have q3 := ext_push (S := ext S nx obs) (nx := nx + obs.length) (obs := [o.1, o.2.1]) o.2.2
    simp only [List.length_append, List.length_cons, List.length_nil, List.append_assoc, List.cons_append, List.nil_append, Nat.add_zero, Nat.zero_add] at p1 p2 p3 q1 q2 q3
    rw [← p3, ← p2, ← p1, ← q3, ← q2, ← q1, q0]
    simp only [Nat.add_assoc]
  generalize ext S nx obs = S1 at *
  generalize nx + obs.length = m at *
  refine pwea hd Tryz.func125 Tryz.ntmps125 Tryz.results125 ?_
  repeat refine pw_seq ?_
  refine pwn ?_
  intros
  repeat refine pw_seq ?_
  refine pwn ?_
  intro mv hv
  intros
  refine pw_nilObX 1 0 217 2 rfl rfl fun rv => ?_
  refine pw_ret ⟨_, _, rfl, ⟨hv, mv, (.map mv [], .cells hv 212 [.sl (m + 2) rv 2 0 0, .mp m mv], .cells rv 217 []), rfl, ?_, (e _).symm⟩, fun o => .inl (by simp)⟩
  intro T h1 h2 h3
  refine ⟨[], ⟨⟨fun _ => none, ⟨⟨rv, h2, [], h3, [], rfl⟩, ⟨[], h1, mapIs_nil _ _⟩, ⟨by omega, by omega, by omega⟩, by simp⟩, ⟨fun i hi => by simp at hi, fun _ _ => rfl⟩⟩, fun k k0 kn => by simp at kn⟩, .refl _, by simp [SortedI]⟩
open Go Hp
@[simp] theorem put3_zero (a b c : Ob) (l : List Ob) (o : Ob × Ob × Ob) : put3 (a :: b :: c :: l) 0 o = o.1 :: o.2.1 :: o.2.2 :: l := rfl
open Go Hp
instance : Enc (Int × Int) := ⟨fun x => [I x.1, I x.2], 2, fun _ => rfl, fun _ => rfl⟩
@[simp] theorem enc_item (s : Int × Int) : Enc.enc s = [I s.1, I s.2] := rfl
@[simp high] theorem flen_item (l : Its Int) : (l.flatMap Enc.enc).length = l.length * 2 := flat_length l
@[simp high] theorem ftake_item (l : Its Int) : (l.flatMap Enc.enc).take (l.length * 2) = l.flatMap Enc.enc := flat_take' l
open Go Hp
section
variable {S : Store} {nx hid hv rid mid mv : Nat} {obs : List Ob} {r : Its Int}
variable (h : HM S hid hv rid mid mv r) (hd : DeadFrom nx S)
include h hd
end
structure Deed where
  kind : Int
  id : Int
  w : Int
instance : Enc Deed := ⟨fun d => [I d.kind, I d.id, I d.w], 3, fun _ => rfl, fun _ => rfl⟩
@[simp] theorem enc_deed (d : Deed) : Enc.enc d = [I d.kind, I d.id, I d.w] := rfl
@[simp high] theorem flen_deed (l : List Deed) : (l.flatMap Enc.enc).length = l.length * 3 := flat_length l
@[simp high] theorem ftake_deed (l : List Deed) : (l.flatMap Enc.enc).take (l.length * 3) = l.flatMap Enc.enc := flat_take' l
open Go Hp Go.Sort
def cmp3 (a b : Int) : Int := if a < b then -1 else if b < a then 1 else 0
def itW (l : List Int) (i : Nat) : Int × Int := ((i : Int), l.getD i 0)
def cfW (l : List Int) (i j : Fin l.length) : Int := if cmp3 (l.getD i 0) (l.getD j 0) = 0 then cmp3 (i.val : Int) j.val else cmp3 (l.getD i 0) (l.getD j 0)
theorem lt_cfW (l : List Int) (i j : Fin l.length) : ltOf (cfW l) i j = ilt (itW l i) (itW l j) := by
  unfold ltOf cfW cmp3 ilt il itW ltI
  simp only
  generalize l.getD i.val 0 = a
  generalize l.getD j.val 0 = b
  by_cases h : a = b
  · subst h
    have e1 : (if a < a then (-1 : Int) else if a < a then 1 else 0) = 0 := by rw [if_neg (by omega), if_neg (by omega)]
    rw [e1, if_pos rfl, if_pos rfl]
    by_cases h4 : (i.val : Int) < j.val
    · rw [if_pos h4]; simp; omega
    · rw [if_neg h4]
      by_cases h5 : (j.val : Int) < i.val
      · rw [if_pos h5]; simp; omega
      · rw [if_neg h5]; simp; omega
  · rw [if_neg h]
    by_cases h2 : a < b
    · have e1 : (if a < b then (-1 : Int) else if b < a then 1 else 0) = -1 := by rw [if_pos h2]
      rw [e1, if_neg (by decide)]; simp [h2]
    · have e1 : (if a < b then (-1 : Int) else if b < a then 1 else 0) = 1 := by rw [if_neg h2, if_pos (by omega)]
      rw [e1, if_neg (by decide)]; simp [h2]
theorem swo_cfW (l : List Int) : SWO (ltOf (cfW l)) := by
  have H := il_str ltI_str
  refine ⟨fun x => ?_, fun x y z h1 h2 => ?_, fun x y z h1 h2 => ?_⟩
  · rw [lt_cfW]; exact H.irr _
  · rw [lt_cfW] at *; exact H.tr _ _ _ h1 h2
  · rw [lt_cfW] at *
    cases h : ilt (itW l x) (itW l z) with
    | false => rfl
    | true =>
      exfalso
      cases h3 : ilt (itW l y) (itW l x) with
      | true => have hh : ilt (itW l y) (itW l z) = true := H.tr _ _ _ h3 h; rw [h2] at hh; cases hh
      | false =>
        have e := H.tot _ _ h1 h3
        rw [e, h2] at h; cases h
theorem tot_cfW (l : List Int) : ∀ x y, ltOf (cfW l) x y = false → ltOf (cfW l) y x = false → x = y := by
  intro x y h1 h2
  rw [lt_cfW] at h1 h2
  have := (il_str ltI_str).tot _ _ h1 h2
  have : (x.val : Int) = y.val := congrArg Prod.fst this
  exact Fin.ext (by omega)
def sortF (l : List Int) : List (Fin l.length) := (List.finRange l.length).mergeSort fun x y => !(ltOf (cfW l)) y x
theorem sortF_perm (l : List Int) : (sortF l).Perm (List.finRange l.length) := List.mergeSort_perm _ _
theorem sortF_items (l : List Int) : ((sortF l).map fun i : Fin l.length => itW l i.val).Perm ((List.range l.length).map (itW l)) := by
  refine ((sortF_perm l).map _).trans ?_
  have e : (List.finRange l.length).map (fun i : Fin l.length => itW l i.val) = (List.range l.length).map (itW l) := by
    apply List.ext_getElem
    · simp
    · intro i h1 h2; simp
  rw [e]
theorem sortF_nodup (l : List Int) : (sortF l).Nodup := (sortF_perm l).nodup_iff.2 (List.nodup_finRange _)
theorem sortF_sorted (l : List Int) : SortedI ((sortF l).map fun i : Fin l.length => itW l i.val) := by
  have H := il_str ltI_str
  have h1 : (sortF l).Pairwise fun a b => (!(ltOf (cfW l)) b a) = true := by
    refine List.pairwise_mergeSort ?_ ?_ _
    · intro a b c h1 h2
      simp only [Bool.not_eq_true'] at *
      exact (swo_cfW l).ntrans c b a h2 h1
    · intro a b
      simp only [Bool.or_eq_true, Bool.not_eq_true']
      cases h : ltOf (cfW l) b a with
      | false => exact .inl rfl
      | true =>
        refine .inr ?_
        cases h2 : ltOf (cfW l) a b with
        | false => rfl
        | true => have := (swo_cfW l).trans _ _ _ h h2; rw [(swo_cfW l).irrefl] at this; cases this
  have h2 := List.Pairwise.and h1 (sortF_nodup l)
  unfold SortedI
  refine List.Pairwise.map _ ?_ h2
  rintro a b ⟨h3, h4⟩
  have h3' : ltOf (cfW l) b a = false := by simpa using h3
  rw [← lt_cfW]
  cases h : ltOf (cfW l) a b with
  | true => rfl
  | false => exact absurd (tot_cfW l a b h h3') h4
def sortI (l : List Int) : List Int := (sortF l).map fun i => (i.val : Int)
theorem sortI_len (l : List Int) : (sortI l).length = l.length := by
  unfold sortI; rw [List.length_map, (sortF_perm l).length_eq]; simp
theorem sortI_mem {l : List Int} {z : Int} (h : z ∈ sortI l) : 0 ≤ z ∧ z < l.length := by
  obtain ⟨i, _, rfl⟩ := List.mem_map.1 h
  have := i.isLt
  omega
end Go.Proofs.YtafcjklojnhbnaaGreat.Pv
