/- The closed facts on the types and functions of this translation that the walks rewrite with. Written by a program of the prover. -/
import Derived.Test.YtafcjklojnhbnaaGreatGs
import Derived.Test.YtafcjklojnhbnaaGreatRows
namespace Go.Proofs.YtafcjklojnhbnaaGreat.Pv
open Go
theorem mixed : Tryz.prog.follows .mixedOrders = true := by kernel_rfl
@[simp] theorem c0 : Tryz.prog.cellsOf 0 = 1 := by kernel_rfl
@[simp] theorem b0 : Program.bytesOf' Tryz.prog 0 = some 0 := by kernel_rfl
@[simp] theorem i0 : (Tryz.prog.info? 0).isSome = true := by kernel_rfl
attribute [simp] Tryz.underlying0
@[simp] theorem c1 : Tryz.prog.cellsOf 1 = 1 := by kernel_rfl
@[simp] theorem b1 : Program.bytesOf' Tryz.prog 1 = some 8 := by kernel_rfl
@[simp] theorem z1 : Program.zeroOf Tryz.prog 1 = some .nilFunc := by kernel_rfl
@[simp] theorem i1 : (Tryz.prog.info? 1).isSome = true := by kernel_rfl
attribute [simp] Tryz.underlying1
@[simp] theorem c2 : Tryz.prog.cellsOf 2 = 1 := by kernel_rfl
@[simp] theorem b2 : Program.bytesOf' Tryz.prog 2 = some 8 := by kernel_rfl
@[simp] theorem z2 : Program.zeroOf Tryz.prog 2 = some (.int .i64 0) := by kernel_rfl
@[simp] theorem i2 : (Tryz.prog.info? 2).isSome = true := by kernel_rfl
attribute [simp] Tryz.underlying2
@[simp] theorem c3 : Tryz.prog.cellsOf 3 = 1 := by kernel_rfl
@[simp] theorem b3 : Program.bytesOf' Tryz.prog 3 = some 8 := by kernel_rfl
@[simp] theorem z3 : Program.zeroOf Tryz.prog 3 = some (.int .i64 0) := by kernel_rfl
@[simp] theorem i3 : (Tryz.prog.info? 3).isSome = true := by kernel_rfl
attribute [simp] Tryz.underlying3
@[simp] theorem c4 : Tryz.prog.cellsOf 4 = 1 := by kernel_rfl
@[simp] theorem b4 : Program.bytesOf' Tryz.prog 4 = some 1 := by kernel_rfl
@[simp] theorem z4 : Program.zeroOf Tryz.prog 4 = some (.bool false) := by kernel_rfl
@[simp] theorem i4 : (Tryz.prog.info? 4).isSome = true := by kernel_rfl
attribute [simp] Tryz.underlying4
@[simp] theorem c5 : Tryz.prog.cellsOf 5 = 1 := by kernel_rfl
@[simp] theorem b5 : Program.bytesOf' Tryz.prog 5 = some 1 := by kernel_rfl
@[simp] theorem z5 : Program.zeroOf Tryz.prog 5 = some (.int .u8 0) := by kernel_rfl
@[simp] theorem i5 : (Tryz.prog.info? 5).isSome = true := by kernel_rfl
attribute [simp] Tryz.underlying5
@[simp] theorem c6 : Tryz.prog.cellsOf 6 = 1 := by kernel_rfl
@[simp] theorem b6 : Program.bytesOf' Tryz.prog 6 = some 1 := by kernel_rfl
@[simp] theorem z6 : Program.zeroOf Tryz.prog 6 = some (.int .u8 0) := by kernel_rfl
@[simp] theorem i6 : (Tryz.prog.info? 6).isSome = true := by kernel_rfl
attribute [simp] Tryz.underlying6
@[simp] theorem c7 : Tryz.prog.cellsOf 7 = 4 := by kernel_rfl
@[simp] theorem b7 : Program.bytesOf' Tryz.prog 7 = some 24 := by kernel_rfl
@[simp] theorem q7 : eqOkP Tryz.prog 7 = true := by kernel_rfl
@[simp] theorem z7 : Program.zeroOf Tryz.prog 7 = some (.agg #[(.int .i64 0), (.int .i64 0), (.bool false), (.int .u8 0)]) := by kernel_rfl
@[simp] theorem i7 : (Tryz.prog.info? 7).isSome = true := by kernel_rfl
attribute [simp] Tryz.underlying7
@[simp] theorem c8 : Tryz.prog.cellsOf 8 = 4 := by kernel_rfl
@[simp] theorem b8 : Program.bytesOf' Tryz.prog 8 = some 24 := by kernel_rfl
@[simp] theorem q8 : eqOkP Tryz.prog 8 = true := by kernel_rfl
@[simp] theorem z8 : Program.zeroOf Tryz.prog 8 = some (.agg #[(.int .i64 0), (.int .i64 0), (.bool false), (.int .u8 0)]) := by kernel_rfl
@[simp] theorem i8 : (Tryz.prog.info? 8).isSome = true := by kernel_rfl
attribute [simp] Tryz.underlying8
@[simp] theorem c9 : Tryz.prog.cellsOf 9 = 1 := by kernel_rfl
@[simp] theorem b9 : Program.bytesOf' Tryz.prog 9 = some 16 := by kernel_rfl
@[simp] theorem z9 : Program.zeroOf Tryz.prog 9 = some (.string ⟨#[]⟩) := by kernel_rfl
@[simp] theorem i9 : (Tryz.prog.info? 9).isSome = true := by kernel_rfl
attribute [simp] Tryz.underlying9
@[simp] theorem c10 : Tryz.prog.cellsOf 10 = 1 := by kernel_rfl
@[simp] theorem b10 : Program.bytesOf' Tryz.prog 10 = some 16 := by kernel_rfl
@[simp] theorem z10 : Program.zeroOf Tryz.prog 10 = some (.string ⟨#[]⟩) := by kernel_rfl
@[simp] theorem i10 : (Tryz.prog.info? 10).isSome = true := by kernel_rfl
attribute [simp] Tryz.underlying10
@[simp] theorem c11 : Tryz.prog.cellsOf 11 = 1 := by kernel_rfl
@[simp] theorem b11 : Program.bytesOf' Tryz.prog 11 = some 16 := by kernel_rfl
@[simp] theorem z11 : Program.zeroOf Tryz.prog 11 = some (.string ⟨#[]⟩) := by kernel_rfl
@[simp] theorem i11 : (Tryz.prog.info? 11).isSome = true := by kernel_rfl
attribute [simp] Tryz.underlying11
@[simp] theorem c12 : Tryz.prog.cellsOf 12 = 1 := by kernel_rfl
@[simp] theorem b12 : Program.bytesOf' Tryz.prog 12 = some 8 := by kernel_rfl
@[simp] theorem z12 : Program.zeroOf Tryz.prog 12 = some (.int .u64 0) := by kernel_rfl
@[simp] theorem i12 : (Tryz.prog.info? 12).isSome = true := by kernel_rfl
attribute [simp] Tryz.underlying12
@[simp] theorem c13 : Tryz.prog.cellsOf 13 = 2 := by kernel_rfl
@[simp] theorem b13 : Program.bytesOf' Tryz.prog 13 = some 24 := by kernel_rfl
@[simp] theorem z13 : Program.zeroOf Tryz.prog 13 = some (.agg #[(.string ⟨#[]⟩), (.int .u64 0)]) := by kernel_rfl
@[simp] theorem i13 : (Tryz.prog.info? 13).isSome = true := by kernel_rfl
attribute [simp] Tryz.underlying13
@[simp] theorem c14 : Tryz.prog.cellsOf 14 = 2 := by kernel_rfl
@[simp] theorem b14 : Program.bytesOf' Tryz.prog 14 = some 24 := by kernel_rfl
@[simp] theorem z14 : Program.zeroOf Tryz.prog 14 = some (.agg #[(.string ⟨#[]⟩), (.int .u64 0)]) := by kernel_rfl
@[simp] theorem i14 : (Tryz.prog.info? 14).isSome = true := by kernel_rfl
attribute [simp] Tryz.underlying14
@[simp] theorem c15 : Tryz.prog.cellsOf 15 = 1 := by kernel_rfl
@[simp] theorem b15 : Program.bytesOf' Tryz.prog 15 = some 8 := by kernel_rfl
@[simp] theorem z15 : Program.zeroOf Tryz.prog 15 = some (.pointer none) := by kernel_rfl
@[simp] theorem i15 : (Tryz.prog.info? 15).isSome = true := by kernel_rfl
attribute [simp] Tryz.underlying15
@[simp] theorem c16 : Tryz.prog.cellsOf 16 = 1 := by kernel_rfl
@[simp] theorem b16 : Program.bytesOf' Tryz.prog 16 = some 8 := by kernel_rfl
@[simp] theorem z16 : Program.zeroOf Tryz.prog 16 = some (.pointer none) := by kernel_rfl
@[simp] theorem i16 : (Tryz.prog.info? 16).isSome = true := by kernel_rfl
attribute [simp] Tryz.underlying16
@[simp] theorem c17 : Tryz.prog.cellsOf 17 = 1 := by kernel_rfl
@[simp] theorem b17 : Program.bytesOf' Tryz.prog 17 = some 8 := by kernel_rfl
@[simp] theorem z17 : Program.zeroOf Tryz.prog 17 = some (.pointer none) := by kernel_rfl
@[simp] theorem i17 : (Tryz.prog.info? 17).isSome = true := by kernel_rfl
attribute [simp] Tryz.underlying17
@[simp] theorem c18 : Tryz.prog.cellsOf 18 = 1 := by kernel_rfl
@[simp] theorem b18 : Program.bytesOf' Tryz.prog 18 = some 8 := by kernel_rfl
@[simp] theorem z18 : Program.zeroOf Tryz.prog 18 = some (.agg #[(.pointer none)]) := by kernel_rfl
@[simp] theorem i18 : (Tryz.prog.info? 18).isSome = true := by kernel_rfl
attribute [simp] Tryz.underlying18
@[simp] theorem c19 : Tryz.prog.cellsOf 19 = 1 := by kernel_rfl
@[simp] theorem b19 : Program.bytesOf' Tryz.prog 19 = some 8 := by kernel_rfl
@[simp] theorem z19 : Program.zeroOf Tryz.prog 19 = some (.agg #[(.pointer none)]) := by kernel_rfl
@[simp] theorem i19 : (Tryz.prog.info? 19).isSome = true := by kernel_rfl
attribute [simp] Tryz.underlying19
@[simp] theorem c20 : Tryz.prog.cellsOf 20 = 1 := by kernel_rfl
@[simp] theorem b20 : Program.bytesOf' Tryz.prog 20 = some 16 := by kernel_rfl
@[simp] theorem z20 : Program.zeroOf Tryz.prog 20 = some .nilIface := by kernel_rfl
@[simp] theorem i20 : (Tryz.prog.info? 20).isSome = true := by kernel_rfl
attribute [simp] Tryz.underlying20
@[simp] theorem c21 : Tryz.prog.cellsOf 21 = 1 := by kernel_rfl
@[simp] theorem b21 : Program.bytesOf' Tryz.prog 21 = some 4 := by kernel_rfl
@[simp] theorem z21 : Program.zeroOf Tryz.prog 21 = some (.int .i32 0) := by kernel_rfl
@[simp] theorem i21 : (Tryz.prog.info? 21).isSome = true := by kernel_rfl
attribute [simp] Tryz.underlying21
@[simp] theorem c22 : Tryz.prog.cellsOf 22 = 1 := by kernel_rfl
@[simp] theorem b22 : Program.bytesOf' Tryz.prog 22 = some 24 := by kernel_rfl
@[simp] theorem z22 : Program.zeroOf Tryz.prog 22 = some (.slice none 0 0) := by kernel_rfl
@[simp] theorem i22 : (Tryz.prog.info? 22).isSome = true := by kernel_rfl
attribute [simp] Tryz.underlying22
@[simp] theorem c23 : Tryz.prog.cellsOf 23 = 1 := by kernel_rfl
@[simp] theorem b23 : Program.bytesOf' Tryz.prog 23 = some 24 := by kernel_rfl
@[simp] theorem z23 : Program.zeroOf Tryz.prog 23 = some (.slice none 0 0) := by kernel_rfl
@[simp] theorem i23 : (Tryz.prog.info? 23).isSome = true := by kernel_rfl
attribute [simp] Tryz.underlying23
@[simp] theorem c24 : Tryz.prog.cellsOf 24 = 6 := by kernel_rfl
@[simp] theorem b24 : Program.bytesOf' Tryz.prog 24 = some 80 := by kernel_rfl
@[simp] theorem z24 : Program.zeroOf Tryz.prog 24 = some (.agg #[(.int .i64 0), (.int .i64 0), (.int .i64 0), (.int .i64 0), (.slice none 0 0), (.slice none 0 0)]) := by kernel_rfl
@[simp] theorem i24 : (Tryz.prog.info? 24).isSome = true := by kernel_rfl
attribute [simp] Tryz.underlying24
@[simp] theorem c25 : Tryz.prog.cellsOf 25 = 6 := by kernel_rfl
@[simp] theorem b25 : Program.bytesOf' Tryz.prog 25 = some 80 := by kernel_rfl
@[simp] theorem z25 : Program.zeroOf Tryz.prog 25 = some (.agg #[(.int .i64 0), (.int .i64 0), (.int .i64 0), (.int .i64 0), (.slice none 0 0), (.slice none 0 0)]) := by kernel_rfl
@[simp] theorem i25 : (Tryz.prog.info? 25).isSome = true := by kernel_rfl
attribute [simp] Tryz.underlying25
@[simp] theorem c26 : Tryz.prog.cellsOf 26 = 1 := by kernel_rfl
@[simp] theorem b26 : Program.bytesOf' Tryz.prog 26 = some 24 := by kernel_rfl
@[simp] theorem z26 : Program.zeroOf Tryz.prog 26 = some (.slice none 0 0) := by kernel_rfl
@[simp] theorem i26 : (Tryz.prog.info? 26).isSome = true := by kernel_rfl
attribute [simp] Tryz.underlying26
@[simp] theorem c27 : Tryz.prog.cellsOf 27 = 1 := by kernel_rfl
@[simp] theorem b27 : Program.bytesOf' Tryz.prog 27 = some 8 := by kernel_rfl
@[simp] theorem z27 : Program.zeroOf Tryz.prog 27 = some .nilFunc := by kernel_rfl
@[simp] theorem i27 : (Tryz.prog.info? 27).isSome = true := by kernel_rfl
attribute [simp] Tryz.underlying27
@[simp] theorem c28 : Tryz.prog.cellsOf 28 = 1 := by kernel_rfl
@[simp] theorem b28 : Program.bytesOf' Tryz.prog 28 = some 8 := by kernel_rfl
@[simp] theorem z28 : Program.zeroOf Tryz.prog 28 = some (.int .i64 0) := by kernel_rfl
@[simp] theorem i28 : (Tryz.prog.info? 28).isSome = true := by kernel_rfl
attribute [simp] Tryz.underlying28
@[simp] theorem c29 : Tryz.prog.cellsOf 29 = 1 := by kernel_rfl
@[simp] theorem b29 : Program.bytesOf' Tryz.prog 29 = some 8 := by kernel_rfl
@[simp] theorem z29 : Program.zeroOf Tryz.prog 29 = some .nilFunc := by kernel_rfl
@[simp] theorem i29 : (Tryz.prog.info? 29).isSome = true := by kernel_rfl
attribute [simp] Tryz.underlying29
@[simp] theorem c30 : Tryz.prog.cellsOf 30 = 1 := by kernel_rfl
@[simp] theorem b30 : Program.bytesOf' Tryz.prog 30 = some 8 := by kernel_rfl
@[simp] theorem z30 : Program.zeroOf Tryz.prog 30 = some .nilFunc := by kernel_rfl
@[simp] theorem i30 : (Tryz.prog.info? 30).isSome = true := by kernel_rfl
attribute [simp] Tryz.underlying30
@[simp] theorem c31 : Tryz.prog.cellsOf 31 = 1 := by kernel_rfl
@[simp] theorem b31 : Program.bytesOf' Tryz.prog 31 = some 8 := by kernel_rfl
@[simp] theorem z31 : Program.zeroOf Tryz.prog 31 = some .nilFunc := by kernel_rfl
@[simp] theorem i31 : (Tryz.prog.info? 31).isSome = true := by kernel_rfl
attribute [simp] Tryz.underlying31
@[simp] theorem c32 : Tryz.prog.cellsOf 32 = 1 := by kernel_rfl
@[simp] theorem b32 : Program.bytesOf' Tryz.prog 32 = some 8 := by kernel_rfl
@[simp] theorem z32 : Program.zeroOf Tryz.prog 32 = some .nilFunc := by kernel_rfl
@[simp] theorem i32 : (Tryz.prog.info? 32).isSome = true := by kernel_rfl
attribute [simp] Tryz.underlying32
@[simp] theorem c33 : Tryz.prog.cellsOf 33 = 1 := by kernel_rfl
@[simp] theorem b33 : Program.bytesOf' Tryz.prog 33 = some 24 := by kernel_rfl
@[simp] theorem z33 : Program.zeroOf Tryz.prog 33 = some (.slice none 0 0) := by kernel_rfl
@[simp] theorem i33 : (Tryz.prog.info? 33).isSome = true := by kernel_rfl
attribute [simp] Tryz.underlying33
@[simp] theorem c34 : Tryz.prog.cellsOf 34 = 1 := by kernel_rfl
@[simp] theorem b34 : Program.bytesOf' Tryz.prog 34 = some 24 := by kernel_rfl
@[simp] theorem z34 : Program.zeroOf Tryz.prog 34 = some (.agg #[(.slice none 0 0)]) := by kernel_rfl
@[simp] theorem i34 : (Tryz.prog.info? 34).isSome = true := by kernel_rfl
attribute [simp] Tryz.underlying34
@[simp] theorem c35 : Tryz.prog.cellsOf 35 = 1 := by kernel_rfl
@[simp] theorem b35 : Program.bytesOf' Tryz.prog 35 = some 24 := by kernel_rfl
@[simp] theorem z35 : Program.zeroOf Tryz.prog 35 = some (.agg #[(.slice none 0 0)]) := by kernel_rfl
@[simp] theorem i35 : (Tryz.prog.info? 35).isSome = true := by kernel_rfl
attribute [simp] Tryz.underlying35
@[simp] theorem c36 : Tryz.prog.cellsOf 36 = 1 := by kernel_rfl
@[simp] theorem b36 : Program.bytesOf' Tryz.prog 36 = some 0 := by kernel_rfl
@[simp] theorem i36 : (Tryz.prog.info? 36).isSome = true := by kernel_rfl
attribute [simp] Tryz.underlying36
@[simp] theorem c37 : Tryz.prog.cellsOf 37 = 1 := by kernel_rfl
@[simp] theorem b37 : Program.bytesOf' Tryz.prog 37 = some 8 := by kernel_rfl
@[simp] theorem z37 : Program.zeroOf Tryz.prog 37 = some .nilFunc := by kernel_rfl
@[simp] theorem i37 : (Tryz.prog.info? 37).isSome = true := by kernel_rfl
attribute [simp] Tryz.underlying37
@[simp] theorem c38 : Tryz.prog.cellsOf 38 = 1 := by kernel_rfl
@[simp] theorem b38 : Program.bytesOf' Tryz.prog 38 = some 8 := by kernel_rfl
@[simp] theorem z38 : Program.zeroOf Tryz.prog 38 = some .nilFunc := by kernel_rfl
@[simp] theorem i38 : (Tryz.prog.info? 38).isSome = true := by kernel_rfl
attribute [simp] Tryz.underlying38
@[simp] theorem c39 : Tryz.prog.cellsOf 39 = 1 := by kernel_rfl
@[simp] theorem b39 : Program.bytesOf' Tryz.prog 39 = some 8 := by kernel_rfl
@[simp] theorem z39 : Program.zeroOf Tryz.prog 39 = some .nilFunc := by kernel_rfl
@[simp] theorem i39 : (Tryz.prog.info? 39).isSome = true := by kernel_rfl
attribute [simp] Tryz.underlying39
@[simp] theorem c40 : Tryz.prog.cellsOf 40 = 1 := by kernel_rfl
@[simp] theorem b40 : Program.bytesOf' Tryz.prog 40 = some 8 := by kernel_rfl
@[simp] theorem z40 : Program.zeroOf Tryz.prog 40 = some .nilFunc := by kernel_rfl
@[simp] theorem i40 : (Tryz.prog.info? 40).isSome = true := by kernel_rfl
attribute [simp] Tryz.underlying40
@[simp] theorem c41 : Tryz.prog.cellsOf 41 = 1 := by kernel_rfl
@[simp] theorem b41 : Program.bytesOf' Tryz.prog 41 = some 8 := by kernel_rfl
@[simp] theorem z41 : Program.zeroOf Tryz.prog 41 = some .nilFunc := by kernel_rfl
@[simp] theorem i41 : (Tryz.prog.info? 41).isSome = true := by kernel_rfl
attribute [simp] Tryz.underlying41
@[simp] theorem c42 : Tryz.prog.cellsOf 42 = 2 := by kernel_rfl
@[simp] theorem b42 : Program.bytesOf' Tryz.prog 42 = some 16 := by kernel_rfl
@[simp] theorem q42 : eqOkP Tryz.prog 42 = true := by kernel_rfl
@[simp] theorem z42 : Program.zeroOf Tryz.prog 42 = some (.agg #[(.int .i64 0), (.int .i64 0)]) := by kernel_rfl
@[simp] theorem i42 : (Tryz.prog.info? 42).isSome = true := by kernel_rfl
attribute [simp] Tryz.underlying42
@[simp] theorem c43 : Tryz.prog.cellsOf 43 = 2 := by kernel_rfl
@[simp] theorem b43 : Program.bytesOf' Tryz.prog 43 = some 16 := by kernel_rfl
@[simp] theorem q43 : eqOkP Tryz.prog 43 = true := by kernel_rfl
@[simp] theorem z43 : Program.zeroOf Tryz.prog 43 = some (.agg #[(.int .i64 0), (.int .i64 0)]) := by kernel_rfl
@[simp] theorem i43 : (Tryz.prog.info? 43).isSome = true := by kernel_rfl
attribute [simp] Tryz.underlying43
@[simp] theorem c44 : Tryz.prog.cellsOf 44 = 1 := by kernel_rfl
@[simp] theorem b44 : Program.bytesOf' Tryz.prog 44 = some 8 := by kernel_rfl
@[simp] theorem z44 : Program.zeroOf Tryz.prog 44 = some .nilFunc := by kernel_rfl
@[simp] theorem i44 : (Tryz.prog.info? 44).isSome = true := by kernel_rfl
attribute [simp] Tryz.underlying44
@[simp] theorem c45 : Tryz.prog.cellsOf 45 = 1 := by kernel_rfl
@[simp] theorem b45 : Program.bytesOf' Tryz.prog 45 = some 8 := by kernel_rfl
@[simp] theorem z45 : Program.zeroOf Tryz.prog 45 = some .nilFunc := by kernel_rfl
@[simp] theorem i45 : (Tryz.prog.info? 45).isSome = true := by kernel_rfl
attribute [simp] Tryz.underlying45
@[simp] theorem c46 : Tryz.prog.cellsOf 46 = 1 := by kernel_rfl
@[simp] theorem b46 : Program.bytesOf' Tryz.prog 46 = some 24 := by kernel_rfl
@[simp] theorem z46 : Program.zeroOf Tryz.prog 46 = some (.slice none 0 0) := by kernel_rfl
@[simp] theorem i46 : (Tryz.prog.info? 46).isSome = true := by kernel_rfl
attribute [simp] Tryz.underlying46
@[simp] theorem c47 : Tryz.prog.cellsOf 47 = 1 := by kernel_rfl
@[simp] theorem b47 : Program.bytesOf' Tryz.prog 47 = some 8 := by kernel_rfl
@[simp] theorem z47 : Program.zeroOf Tryz.prog 47 = some .nilFunc := by kernel_rfl
@[simp] theorem i47 : (Tryz.prog.info? 47).isSome = true := by kernel_rfl
attribute [simp] Tryz.underlying47
@[simp] theorem c48 : Tryz.prog.cellsOf 48 = 1 := by kernel_rfl
@[simp] theorem b48 : Program.bytesOf' Tryz.prog 48 = some 8 := by kernel_rfl
@[simp] theorem z48 : Program.zeroOf Tryz.prog 48 = some .nilFunc := by kernel_rfl
@[simp] theorem i48 : (Tryz.prog.info? 48).isSome = true := by kernel_rfl
attribute [simp] Tryz.underlying48
@[simp] theorem c49 : Tryz.prog.cellsOf 49 = 1 := by kernel_rfl
@[simp] theorem b49 : Program.bytesOf' Tryz.prog 49 = some 8 := by kernel_rfl
@[simp] theorem z49 : Program.zeroOf Tryz.prog 49 = some .nilFunc := by kernel_rfl
@[simp] theorem i49 : (Tryz.prog.info? 49).isSome = true := by kernel_rfl
attribute [simp] Tryz.underlying49
@[simp] theorem c50 : Tryz.prog.cellsOf 50 = 1 := by kernel_rfl
@[simp] theorem b50 : Program.bytesOf' Tryz.prog 50 = some 0 := by kernel_rfl
@[simp] theorem i50 : (Tryz.prog.info? 50).isSome = true := by kernel_rfl
attribute [simp] Tryz.underlying50
@[simp] theorem c51 : Tryz.prog.cellsOf 51 = 1 := by kernel_rfl
@[simp] theorem b51 : Program.bytesOf' Tryz.prog 51 = some 8 := by kernel_rfl
@[simp] theorem z51 : Program.zeroOf Tryz.prog 51 = some .nilFunc := by kernel_rfl
@[simp] theorem i51 : (Tryz.prog.info? 51).isSome = true := by kernel_rfl
attribute [simp] Tryz.underlying51
@[simp] theorem c52 : Tryz.prog.cellsOf 52 = 1 := by kernel_rfl
@[simp] theorem b52 : Program.bytesOf' Tryz.prog 52 = some 0 := by kernel_rfl
@[simp] theorem i52 : (Tryz.prog.info? 52).isSome = true := by kernel_rfl
attribute [simp] Tryz.underlying52
@[simp] theorem c53 : Tryz.prog.cellsOf 53 = 1 := by kernel_rfl
@[simp] theorem b53 : Program.bytesOf' Tryz.prog 53 = some 8 := by kernel_rfl
@[simp] theorem z53 : Program.zeroOf Tryz.prog 53 = some .nilFunc := by kernel_rfl
@[simp] theorem i53 : (Tryz.prog.info? 53).isSome = true := by kernel_rfl
attribute [simp] Tryz.underlying53
@[simp] theorem c54 : Tryz.prog.cellsOf 54 = 1 := by kernel_rfl
@[simp] theorem b54 : Program.bytesOf' Tryz.prog 54 = some 0 := by kernel_rfl
@[simp] theorem i54 : (Tryz.prog.info? 54).isSome = true := by kernel_rfl
attribute [simp] Tryz.underlying54
@[simp] theorem c55 : Tryz.prog.cellsOf 55 = 1 := by kernel_rfl
@[simp] theorem b55 : Program.bytesOf' Tryz.prog 55 = some 8 := by kernel_rfl
@[simp] theorem z55 : Program.zeroOf Tryz.prog 55 = some .nilFunc := by kernel_rfl
@[simp] theorem i55 : (Tryz.prog.info? 55).isSome = true := by kernel_rfl
attribute [simp] Tryz.underlying55
@[simp] theorem c56 : Tryz.prog.cellsOf 56 = 1 := by kernel_rfl
@[simp] theorem b56 : Program.bytesOf' Tryz.prog 56 = some 8 := by kernel_rfl
@[simp] theorem z56 : Program.zeroOf Tryz.prog 56 = some .nilFunc := by kernel_rfl
@[simp] theorem i56 : (Tryz.prog.info? 56).isSome = true := by kernel_rfl
attribute [simp] Tryz.underlying56
@[simp] theorem c57 : Tryz.prog.cellsOf 57 = 1 := by kernel_rfl
@[simp] theorem b57 : Program.bytesOf' Tryz.prog 57 = some 8 := by kernel_rfl
@[simp] theorem z57 : Program.zeroOf Tryz.prog 57 = some .nilFunc := by kernel_rfl
@[simp] theorem i57 : (Tryz.prog.info? 57).isSome = true := by kernel_rfl
attribute [simp] Tryz.underlying57
@[simp] theorem c58 : Tryz.prog.cellsOf 58 = 1 := by kernel_rfl
@[simp] theorem b58 : Program.bytesOf' Tryz.prog 58 = some 24 := by kernel_rfl
@[simp] theorem z58 : Program.zeroOf Tryz.prog 58 = some (.slice none 0 0) := by kernel_rfl
@[simp] theorem i58 : (Tryz.prog.info? 58).isSome = true := by kernel_rfl
attribute [simp] Tryz.underlying58
@[simp] theorem c59 : Tryz.prog.cellsOf 59 = 8 := by kernel_rfl
@[simp] theorem b59 : Program.bytesOf' Tryz.prog 59 = some 80 := by kernel_rfl
@[simp] theorem z59 : Program.zeroOf Tryz.prog 59 = some (.agg #[(.int .i64 0), (.int .i64 0), (.slice none 0 0), (.int .i64 0), (.int .i64 0), (.int .i64 0), (.int .i64 0), (.int .i64 0)]) := by kernel_rfl
@[simp] theorem i59 : (Tryz.prog.info? 59).isSome = true := by kernel_rfl
attribute [simp] Tryz.underlying59
@[simp] theorem c60 : Tryz.prog.cellsOf 60 = 8 := by kernel_rfl
@[simp] theorem b60 : Program.bytesOf' Tryz.prog 60 = some 80 := by kernel_rfl
@[simp] theorem z60 : Program.zeroOf Tryz.prog 60 = some (.agg #[(.int .i64 0), (.int .i64 0), (.slice none 0 0), (.int .i64 0), (.int .i64 0), (.int .i64 0), (.int .i64 0), (.int .i64 0)]) := by kernel_rfl
@[simp] theorem i60 : (Tryz.prog.info? 60).isSome = true := by kernel_rfl
attribute [simp] Tryz.underlying60
@[simp] theorem c61 : Tryz.prog.cellsOf 61 = 1 := by kernel_rfl
@[simp] theorem b61 : Program.bytesOf' Tryz.prog 61 = some 8 := by kernel_rfl
@[simp] theorem z61 : Program.zeroOf Tryz.prog 61 = some .nilFunc := by kernel_rfl
@[simp] theorem i61 : (Tryz.prog.info? 61).isSome = true := by kernel_rfl
attribute [simp] Tryz.underlying61
@[simp] theorem c62 : Tryz.prog.cellsOf 62 = 1 := by kernel_rfl
@[simp] theorem b62 : Program.bytesOf' Tryz.prog 62 = some 24 := by kernel_rfl
@[simp] theorem z62 : Program.zeroOf Tryz.prog 62 = some (.slice none 0 0) := by kernel_rfl
@[simp] theorem i62 : (Tryz.prog.info? 62).isSome = true := by kernel_rfl
attribute [simp] Tryz.underlying62
@[simp] theorem c63 : Tryz.prog.cellsOf 63 = 1 := by kernel_rfl
@[simp] theorem b63 : Program.bytesOf' Tryz.prog 63 = some 8 := by kernel_rfl
@[simp] theorem z63 : Program.zeroOf Tryz.prog 63 = some .nilFunc := by kernel_rfl
@[simp] theorem i63 : (Tryz.prog.info? 63).isSome = true := by kernel_rfl
attribute [simp] Tryz.underlying63
@[simp] theorem c64 : Tryz.prog.cellsOf 64 = 1 := by kernel_rfl
@[simp] theorem b64 : Program.bytesOf' Tryz.prog 64 = some 8 := by kernel_rfl
@[simp] theorem z64 : Program.zeroOf Tryz.prog 64 = some .nilFunc := by kernel_rfl
@[simp] theorem i64 : (Tryz.prog.info? 64).isSome = true := by kernel_rfl
attribute [simp] Tryz.underlying64
@[simp] theorem c65 : Tryz.prog.cellsOf 65 = 1 := by kernel_rfl
@[simp] theorem b65 : Program.bytesOf' Tryz.prog 65 = some 24 := by kernel_rfl
@[simp] theorem z65 : Program.zeroOf Tryz.prog 65 = some (.agg #[(.slice none 0 0)]) := by kernel_rfl
@[simp] theorem i65 : (Tryz.prog.info? 65).isSome = true := by kernel_rfl
attribute [simp] Tryz.underlying65
@[simp] theorem c66 : Tryz.prog.cellsOf 66 = 1 := by kernel_rfl
@[simp] theorem b66 : Program.bytesOf' Tryz.prog 66 = some 24 := by kernel_rfl
@[simp] theorem z66 : Program.zeroOf Tryz.prog 66 = some (.agg #[(.slice none 0 0)]) := by kernel_rfl
@[simp] theorem i66 : (Tryz.prog.info? 66).isSome = true := by kernel_rfl
attribute [simp] Tryz.underlying66
@[simp] theorem c67 : Tryz.prog.cellsOf 67 = 1 := by kernel_rfl
@[simp] theorem b67 : Program.bytesOf' Tryz.prog 67 = some 8 := by kernel_rfl
@[simp] theorem z67 : Program.zeroOf Tryz.prog 67 = some .nilFunc := by kernel_rfl
@[simp] theorem i67 : (Tryz.prog.info? 67).isSome = true := by kernel_rfl
attribute [simp] Tryz.underlying67
@[simp] theorem c68 : Tryz.prog.cellsOf 68 = 1 := by kernel_rfl
@[simp] theorem b68 : Program.bytesOf' Tryz.prog 68 = some 8 := by kernel_rfl
@[simp] theorem z68 : Program.zeroOf Tryz.prog 68 = some .nilFunc := by kernel_rfl
@[simp] theorem i68 : (Tryz.prog.info? 68).isSome = true := by kernel_rfl
attribute [simp] Tryz.underlying68
@[simp] theorem c69 : Tryz.prog.cellsOf 69 = 1 := by kernel_rfl
@[simp] theorem b69 : Program.bytesOf' Tryz.prog 69 = some 8 := by kernel_rfl
@[simp] theorem z69 : Program.zeroOf Tryz.prog 69 = some .nilFunc := by kernel_rfl
@[simp] theorem i69 : (Tryz.prog.info? 69).isSome = true := by kernel_rfl
attribute [simp] Tryz.underlying69
@[simp] theorem c70 : Tryz.prog.cellsOf 70 = 1 := by kernel_rfl
@[simp] theorem b70 : Program.bytesOf' Tryz.prog 70 = some 8 := by kernel_rfl
@[simp] theorem z70 : Program.zeroOf Tryz.prog 70 = some (.int .u64 0) := by kernel_rfl
@[simp] theorem i70 : (Tryz.prog.info? 70).isSome = true := by kernel_rfl
attribute [simp] Tryz.underlying70
@[simp] theorem c71 : Tryz.prog.cellsOf 71 = 1 := by kernel_rfl
@[simp] theorem b71 : Program.bytesOf' Tryz.prog 71 = some 8 := by kernel_rfl
@[simp] theorem z71 : Program.zeroOf Tryz.prog 71 = some .nilFunc := by kernel_rfl
@[simp] theorem i71 : (Tryz.prog.info? 71).isSome = true := by kernel_rfl
attribute [simp] Tryz.underlying71
@[simp] theorem c72 : Tryz.prog.cellsOf 72 = 1 := by kernel_rfl
@[simp] theorem b72 : Program.bytesOf' Tryz.prog 72 = some 8 := by kernel_rfl
@[simp] theorem z72 : Program.zeroOf Tryz.prog 72 = some .nilFunc := by kernel_rfl
@[simp] theorem i72 : (Tryz.prog.info? 72).isSome = true := by kernel_rfl
attribute [simp] Tryz.underlying72
@[simp] theorem c73 : Tryz.prog.cellsOf 73 = 1 := by kernel_rfl
@[simp] theorem b73 : Program.bytesOf' Tryz.prog 73 = some 8 := by kernel_rfl
@[simp] theorem z73 : Program.zeroOf Tryz.prog 73 = some .nilFunc := by kernel_rfl
@[simp] theorem i73 : (Tryz.prog.info? 73).isSome = true := by kernel_rfl
attribute [simp] Tryz.underlying73
@[simp] theorem c74 : Tryz.prog.cellsOf 74 = 1 := by kernel_rfl
@[simp] theorem b74 : Program.bytesOf' Tryz.prog 74 = some 8 := by kernel_rfl
@[simp] theorem z74 : Program.zeroOf Tryz.prog 74 = some .nilFunc := by kernel_rfl
@[simp] theorem i74 : (Tryz.prog.info? 74).isSome = true := by kernel_rfl
attribute [simp] Tryz.underlying74
@[simp] theorem c75 : Tryz.prog.cellsOf 75 = 1 := by kernel_rfl
@[simp] theorem b75 : Program.bytesOf' Tryz.prog 75 = some 8 := by kernel_rfl
@[simp] theorem z75 : Program.zeroOf Tryz.prog 75 = some .nilFunc := by kernel_rfl
@[simp] theorem i75 : (Tryz.prog.info? 75).isSome = true := by kernel_rfl
attribute [simp] Tryz.underlying75
@[simp] theorem c76 : Tryz.prog.cellsOf 76 = 1 := by kernel_rfl
@[simp] theorem b76 : Program.bytesOf' Tryz.prog 76 = some 24 := by kernel_rfl
@[simp] theorem z76 : Program.zeroOf Tryz.prog 76 = some (.slice none 0 0) := by kernel_rfl
@[simp] theorem i76 : (Tryz.prog.info? 76).isSome = true := by kernel_rfl
attribute [simp] Tryz.underlying76
@[simp] theorem c77 : Tryz.prog.cellsOf 77 = 1 := by kernel_rfl
@[simp] theorem b77 : Program.bytesOf' Tryz.prog 77 = some 8 := by kernel_rfl
@[simp] theorem z77 : Program.zeroOf Tryz.prog 77 = some .nilFunc := by kernel_rfl
@[simp] theorem i77 : (Tryz.prog.info? 77).isSome = true := by kernel_rfl
attribute [simp] Tryz.underlying77
@[simp] theorem c78 : Tryz.prog.cellsOf 78 = 1 := by kernel_rfl
@[simp] theorem b78 : Program.bytesOf' Tryz.prog 78 = some 8 := by kernel_rfl
@[simp] theorem z78 : Program.zeroOf Tryz.prog 78 = some .nilFunc := by kernel_rfl
@[simp] theorem i78 : (Tryz.prog.info? 78).isSome = true := by kernel_rfl
attribute [simp] Tryz.underlying78
@[simp] theorem c79 : Tryz.prog.cellsOf 79 = 1 := by kernel_rfl
@[simp] theorem b79 : Program.bytesOf' Tryz.prog 79 = some 8 := by kernel_rfl
@[simp] theorem z79 : Program.zeroOf Tryz.prog 79 = some .nilFunc := by kernel_rfl
@[simp] theorem i79 : (Tryz.prog.info? 79).isSome = true := by kernel_rfl
attribute [simp] Tryz.underlying79
@[simp] theorem c80 : Tryz.prog.cellsOf 80 = 1 := by kernel_rfl
@[simp] theorem b80 : Program.bytesOf' Tryz.prog 80 = some 8 := by kernel_rfl
@[simp] theorem z80 : Program.zeroOf Tryz.prog 80 = some .nilFunc := by kernel_rfl
@[simp] theorem i80 : (Tryz.prog.info? 80).isSome = true := by kernel_rfl
attribute [simp] Tryz.underlying80
@[simp] theorem c81 : Tryz.prog.cellsOf 81 = 3 := by kernel_rfl
@[simp] theorem b81 : Program.bytesOf' Tryz.prog 81 = some 24 := by kernel_rfl
@[simp] theorem q81 : eqOkP Tryz.prog 81 = true := by kernel_rfl
@[simp] theorem z81 : Program.zeroOf Tryz.prog 81 = some (.agg #[(.int .i64 0), (.int .i64 0), (.int .i64 0)]) := by kernel_rfl
@[simp] theorem i81 : (Tryz.prog.info? 81).isSome = true := by kernel_rfl
attribute [simp] Tryz.underlying81
@[simp] theorem c82 : Tryz.prog.cellsOf 82 = 3 := by kernel_rfl
@[simp] theorem b82 : Program.bytesOf' Tryz.prog 82 = some 24 := by kernel_rfl
@[simp] theorem q82 : eqOkP Tryz.prog 82 = true := by kernel_rfl
@[simp] theorem z82 : Program.zeroOf Tryz.prog 82 = some (.agg #[(.int .i64 0), (.int .i64 0), (.int .i64 0)]) := by kernel_rfl
@[simp] theorem i82 : (Tryz.prog.info? 82).isSome = true := by kernel_rfl
attribute [simp] Tryz.underlying82
@[simp] theorem c83 : Tryz.prog.cellsOf 83 = 1 := by kernel_rfl
@[simp] theorem b83 : Program.bytesOf' Tryz.prog 83 = some 8 := by kernel_rfl
@[simp] theorem z83 : Program.zeroOf Tryz.prog 83 = some .nilFunc := by kernel_rfl
@[simp] theorem i83 : (Tryz.prog.info? 83).isSome = true := by kernel_rfl
attribute [simp] Tryz.underlying83
@[simp] theorem c84 : Tryz.prog.cellsOf 84 = 1 := by kernel_rfl
@[simp] theorem b84 : Program.bytesOf' Tryz.prog 84 = some 8 := by kernel_rfl
@[simp] theorem z84 : Program.zeroOf Tryz.prog 84 = some .nilFunc := by kernel_rfl
@[simp] theorem i84 : (Tryz.prog.info? 84).isSome = true := by kernel_rfl
attribute [simp] Tryz.underlying84
@[simp] theorem c85 : Tryz.prog.cellsOf 85 = 1 := by kernel_rfl
@[simp] theorem b85 : Program.bytesOf' Tryz.prog 85 = some 24 := by kernel_rfl
@[simp] theorem z85 : Program.zeroOf Tryz.prog 85 = some (.slice none 0 0) := by kernel_rfl
@[simp] theorem i85 : (Tryz.prog.info? 85).isSome = true := by kernel_rfl
attribute [simp] Tryz.underlying85
@[simp] theorem c86 : Tryz.prog.cellsOf 86 = 13 := by kernel_rfl
@[simp] theorem b86 : Program.bytesOf' Tryz.prog 86 = some 216 := by kernel_rfl
@[simp] theorem z86 : Program.zeroOf Tryz.prog 86 = some (.agg #[(.int .i64 0), (.int .i64 0), (.int .i64 0), (.int .i64 0), (.slice none 0 0), (.slice none 0 0), (.slice none 0 0), (.slice none 0 0), (.bool false), (.slice none 0 0), (.int .i64 0), (.slice none 0 0), (.slice none 0 0)]) := by kernel_rfl
@[simp] theorem i86 : (Tryz.prog.info? 86).isSome = true := by kernel_rfl
attribute [simp] Tryz.underlying86
@[simp] theorem c87 : Tryz.prog.cellsOf 87 = 13 := by kernel_rfl
@[simp] theorem b87 : Program.bytesOf' Tryz.prog 87 = some 216 := by kernel_rfl
@[simp] theorem z87 : Program.zeroOf Tryz.prog 87 = some (.agg #[(.int .i64 0), (.int .i64 0), (.int .i64 0), (.int .i64 0), (.slice none 0 0), (.slice none 0 0), (.slice none 0 0), (.slice none 0 0), (.bool false), (.slice none 0 0), (.int .i64 0), (.slice none 0 0), (.slice none 0 0)]) := by kernel_rfl
@[simp] theorem i87 : (Tryz.prog.info? 87).isSome = true := by kernel_rfl
attribute [simp] Tryz.underlying87
@[simp] theorem c88 : Tryz.prog.cellsOf 88 = 1 := by kernel_rfl
@[simp] theorem b88 : Program.bytesOf' Tryz.prog 88 = some 8 := by kernel_rfl
@[simp] theorem z88 : Program.zeroOf Tryz.prog 88 = some .nilFunc := by kernel_rfl
@[simp] theorem i88 : (Tryz.prog.info? 88).isSome = true := by kernel_rfl
attribute [simp] Tryz.underlying88
@[simp] theorem c89 : Tryz.prog.cellsOf 89 = 1 := by kernel_rfl
@[simp] theorem b89 : Program.bytesOf' Tryz.prog 89 = some 8 := by kernel_rfl
@[simp] theorem z89 : Program.zeroOf Tryz.prog 89 = some .nilFunc := by kernel_rfl
@[simp] theorem i89 : (Tryz.prog.info? 89).isSome = true := by kernel_rfl
attribute [simp] Tryz.underlying89
@[simp] theorem c90 : Tryz.prog.cellsOf 90 = 1 := by kernel_rfl
@[simp] theorem b90 : Program.bytesOf' Tryz.prog 90 = some 8 := by kernel_rfl
@[simp] theorem z90 : Program.zeroOf Tryz.prog 90 = some .nilFunc := by kernel_rfl
@[simp] theorem i90 : (Tryz.prog.info? 90).isSome = true := by kernel_rfl
attribute [simp] Tryz.underlying90
@[simp] theorem c91 : Tryz.prog.cellsOf 91 = 1 := by kernel_rfl
@[simp] theorem b91 : Program.bytesOf' Tryz.prog 91 = some 8 := by kernel_rfl
@[simp] theorem z91 : Program.zeroOf Tryz.prog 91 = some (.pointer none) := by kernel_rfl
@[simp] theorem i91 : (Tryz.prog.info? 91).isSome = true := by kernel_rfl
attribute [simp] Tryz.underlying91
@[simp] theorem c92 : Tryz.prog.cellsOf 92 = 1 := by kernel_rfl
@[simp] theorem b92 : Program.bytesOf' Tryz.prog 92 = some 8 := by kernel_rfl
@[simp] theorem z92 : Program.zeroOf Tryz.prog 92 = some .nilFunc := by kernel_rfl
@[simp] theorem i92 : (Tryz.prog.info? 92).isSome = true := by kernel_rfl
attribute [simp] Tryz.underlying92
@[simp] theorem c93 : Tryz.prog.cellsOf 93 = 1 := by kernel_rfl
@[simp] theorem b93 : Program.bytesOf' Tryz.prog 93 = some 8 := by kernel_rfl
@[simp] theorem z93 : Program.zeroOf Tryz.prog 93 = some .nilFunc := by kernel_rfl
@[simp] theorem i93 : (Tryz.prog.info? 93).isSome = true := by kernel_rfl
attribute [simp] Tryz.underlying93
@[simp] theorem c94 : Tryz.prog.cellsOf 94 = 1 := by kernel_rfl
@[simp] theorem b94 : Program.bytesOf' Tryz.prog 94 = some 8 := by kernel_rfl
@[simp] theorem z94 : Program.zeroOf Tryz.prog 94 = some .nilFunc := by kernel_rfl
@[simp] theorem i94 : (Tryz.prog.info? 94).isSome = true := by kernel_rfl
attribute [simp] Tryz.underlying94
@[simp] theorem c95 : Tryz.prog.cellsOf 95 = 1 := by kernel_rfl
@[simp] theorem b95 : Program.bytesOf' Tryz.prog 95 = some 24 := by kernel_rfl
@[simp] theorem z95 : Program.zeroOf Tryz.prog 95 = some (.slice none 0 0) := by kernel_rfl
@[simp] theorem i95 : (Tryz.prog.info? 95).isSome = true := by kernel_rfl
attribute [simp] Tryz.underlying95
@[simp] theorem c96 : Tryz.prog.cellsOf 96 = 1 := by kernel_rfl
@[simp] theorem b96 : Program.bytesOf' Tryz.prog 96 = some 8 := by kernel_rfl
@[simp] theorem z96 : Program.zeroOf Tryz.prog 96 = some .nilFunc := by kernel_rfl
@[simp] theorem i96 : (Tryz.prog.info? 96).isSome = true := by kernel_rfl
attribute [simp] Tryz.underlying96
@[simp] theorem c97 : Tryz.prog.cellsOf 97 = 1 := by kernel_rfl
@[simp] theorem b97 : Program.bytesOf' Tryz.prog 97 = some 8 := by kernel_rfl
@[simp] theorem z97 : Program.zeroOf Tryz.prog 97 = some .nilFunc := by kernel_rfl
@[simp] theorem i97 : (Tryz.prog.info? 97).isSome = true := by kernel_rfl
attribute [simp] Tryz.underlying97
@[simp] theorem c98 : Tryz.prog.cellsOf 98 = 2 := by kernel_rfl
@[simp] theorem b98 : Program.bytesOf' Tryz.prog 98 = some 16 := by kernel_rfl
@[simp] theorem z98 : Program.zeroOf Tryz.prog 98 = some (.agg #[.nilFunc, (.int .i64 0)]) := by kernel_rfl
@[simp] theorem i98 : (Tryz.prog.info? 98).isSome = true := by kernel_rfl
attribute [simp] Tryz.underlying98
@[simp] theorem c99 : Tryz.prog.cellsOf 99 = 2 := by kernel_rfl
@[simp] theorem b99 : Program.bytesOf' Tryz.prog 99 = some 16 := by kernel_rfl
@[simp] theorem z99 : Program.zeroOf Tryz.prog 99 = some (.agg #[.nilFunc, (.int .i64 0)]) := by kernel_rfl
@[simp] theorem i99 : (Tryz.prog.info? 99).isSome = true := by kernel_rfl
attribute [simp] Tryz.underlying99
@[simp] theorem c100 : Tryz.prog.cellsOf 100 = 7 := by kernel_rfl
@[simp] theorem b100 : Program.bytesOf' Tryz.prog 100 = some 104 := by kernel_rfl
@[simp] theorem z100 : Program.zeroOf Tryz.prog 100 = some (.agg #[(.int .i64 0), (.int .i64 0), (.int .i64 0), (.int .i64 0), (.slice none 0 0), (.slice none 0 0), (.slice none 0 0)]) := by kernel_rfl
@[simp] theorem i100 : (Tryz.prog.info? 100).isSome = true := by kernel_rfl
attribute [simp] Tryz.underlying100
@[simp] theorem c101 : Tryz.prog.cellsOf 101 = 7 := by kernel_rfl
@[simp] theorem b101 : Program.bytesOf' Tryz.prog 101 = some 104 := by kernel_rfl
@[simp] theorem z101 : Program.zeroOf Tryz.prog 101 = some (.agg #[(.int .i64 0), (.int .i64 0), (.int .i64 0), (.int .i64 0), (.slice none 0 0), (.slice none 0 0), (.slice none 0 0)]) := by kernel_rfl
@[simp] theorem i101 : (Tryz.prog.info? 101).isSome = true := by kernel_rfl
attribute [simp] Tryz.underlying101
@[simp] theorem c102 : Tryz.prog.cellsOf 102 = 1 := by kernel_rfl
@[simp] theorem b102 : Program.bytesOf' Tryz.prog 102 = some 8 := by kernel_rfl
@[simp] theorem z102 : Program.zeroOf Tryz.prog 102 = some .nilFunc := by kernel_rfl
@[simp] theorem i102 : (Tryz.prog.info? 102).isSome = true := by kernel_rfl
attribute [simp] Tryz.underlying102
@[simp] theorem c103 : Tryz.prog.cellsOf 103 = 1 := by kernel_rfl
@[simp] theorem b103 : Program.bytesOf' Tryz.prog 103 = some 8 := by kernel_rfl
@[simp] theorem z103 : Program.zeroOf Tryz.prog 103 = some .nilFunc := by kernel_rfl
@[simp] theorem i103 : (Tryz.prog.info? 103).isSome = true := by kernel_rfl
attribute [simp] Tryz.underlying103
@[simp] theorem c104 : Tryz.prog.cellsOf 104 = 1 := by kernel_rfl
@[simp] theorem b104 : Program.bytesOf' Tryz.prog 104 = some 8 := by kernel_rfl
@[simp] theorem z104 : Program.zeroOf Tryz.prog 104 = some .nilFunc := by kernel_rfl
@[simp] theorem i104 : (Tryz.prog.info? 104).isSome = true := by kernel_rfl
attribute [simp] Tryz.underlying104
@[simp] theorem c105 : Tryz.prog.cellsOf 105 = 1 := by kernel_rfl
@[simp] theorem b105 : Program.bytesOf' Tryz.prog 105 = some 8 := by kernel_rfl
@[simp] theorem z105 : Program.zeroOf Tryz.prog 105 = some .nilFunc := by kernel_rfl
@[simp] theorem i105 : (Tryz.prog.info? 105).isSome = true := by kernel_rfl
attribute [simp] Tryz.underlying105
@[simp] theorem c106 : Tryz.prog.cellsOf 106 = 1 := by kernel_rfl
@[simp] theorem b106 : Program.bytesOf' Tryz.prog 106 = some 24 := by kernel_rfl
@[simp] theorem z106 : Program.zeroOf Tryz.prog 106 = some (.slice none 0 0) := by kernel_rfl
@[simp] theorem i106 : (Tryz.prog.info? 106).isSome = true := by kernel_rfl
attribute [simp] Tryz.underlying106
@[simp] theorem c107 : Tryz.prog.cellsOf 107 = 1 := by kernel_rfl
@[simp] theorem b107 : Program.bytesOf' Tryz.prog 107 = some 8 := by kernel_rfl
@[simp] theorem z107 : Program.zeroOf Tryz.prog 107 = some .nilFunc := by kernel_rfl
@[simp] theorem i107 : (Tryz.prog.info? 107).isSome = true := by kernel_rfl
attribute [simp] Tryz.underlying107
@[simp] theorem c108 : Tryz.prog.cellsOf 108 = 1 := by kernel_rfl
@[simp] theorem b108 : Program.bytesOf' Tryz.prog 108 = some 8 := by kernel_rfl
@[simp] theorem z108 : Program.zeroOf Tryz.prog 108 = some .nilFunc := by kernel_rfl
@[simp] theorem i108 : (Tryz.prog.info? 108).isSome = true := by kernel_rfl
attribute [simp] Tryz.underlying108
@[simp] theorem c109 : Tryz.prog.cellsOf 109 = 5 := by kernel_rfl
@[simp] theorem b109 : Program.bytesOf' Tryz.prog 109 = some 40 := by kernel_rfl
@[simp] theorem q109 : eqOkP Tryz.prog 109 = true := by kernel_rfl
@[simp] theorem z109 : Program.zeroOf Tryz.prog 109 = some (.agg #[(.int .i64 0), (.int .i64 0), (.int .i64 0), (.int .i64 0), (.int .i64 0)]) := by kernel_rfl
@[simp] theorem i109 : (Tryz.prog.info? 109).isSome = true := by kernel_rfl
attribute [simp] Tryz.underlying109
@[simp] theorem c110 : Tryz.prog.cellsOf 110 = 5 := by kernel_rfl
@[simp] theorem b110 : Program.bytesOf' Tryz.prog 110 = some 40 := by kernel_rfl
@[simp] theorem q110 : eqOkP Tryz.prog 110 = true := by kernel_rfl
@[simp] theorem z110 : Program.zeroOf Tryz.prog 110 = some (.agg #[(.int .i64 0), (.int .i64 0), (.int .i64 0), (.int .i64 0), (.int .i64 0)]) := by kernel_rfl
@[simp] theorem i110 : (Tryz.prog.info? 110).isSome = true := by kernel_rfl
attribute [simp] Tryz.underlying110
@[simp] theorem c111 : Tryz.prog.cellsOf 111 = 1 := by kernel_rfl
@[simp] theorem b111 : Program.bytesOf' Tryz.prog 111 = some 0 := by kernel_rfl
@[simp] theorem i111 : (Tryz.prog.info? 111).isSome = true := by kernel_rfl
attribute [simp] Tryz.underlying111
@[simp] theorem c112 : Tryz.prog.cellsOf 112 = 1 := by kernel_rfl
@[simp] theorem b112 : Program.bytesOf' Tryz.prog 112 = some 8 := by kernel_rfl
@[simp] theorem z112 : Program.zeroOf Tryz.prog 112 = some .nilFunc := by kernel_rfl
@[simp] theorem i112 : (Tryz.prog.info? 112).isSome = true := by kernel_rfl
attribute [simp] Tryz.underlying112
@[simp] theorem c113 : Tryz.prog.cellsOf 113 = 1 := by kernel_rfl
@[simp] theorem b113 : Program.bytesOf' Tryz.prog 113 = some 8 := by kernel_rfl
@[simp] theorem z113 : Program.zeroOf Tryz.prog 113 = some .nilFunc := by kernel_rfl
@[simp] theorem i113 : (Tryz.prog.info? 113).isSome = true := by kernel_rfl
attribute [simp] Tryz.underlying113
@[simp] theorem c114 : Tryz.prog.cellsOf 114 = 1 := by kernel_rfl
@[simp] theorem b114 : Program.bytesOf' Tryz.prog 114 = some 24 := by kernel_rfl
@[simp] theorem z114 : Program.zeroOf Tryz.prog 114 = some (.slice none 0 0) := by kernel_rfl
@[simp] theorem i114 : (Tryz.prog.info? 114).isSome = true := by kernel_rfl
attribute [simp] Tryz.underlying114
@[simp] theorem c115 : Tryz.prog.cellsOf 115 = 1 := by kernel_rfl
@[simp] theorem b115 : Program.bytesOf' Tryz.prog 115 = some 8 := by kernel_rfl
@[simp] theorem z115 : Program.zeroOf Tryz.prog 115 = some .nilFunc := by kernel_rfl
@[simp] theorem i115 : (Tryz.prog.info? 115).isSome = true := by kernel_rfl
attribute [simp] Tryz.underlying115
@[simp] theorem c116 : Tryz.prog.cellsOf 116 = 3 := by kernel_rfl
@[simp] theorem b116 : Program.bytesOf' Tryz.prog 116 = some 24 := by kernel_rfl
@[simp] theorem q116 : eqOkP Tryz.prog 116 = true := by kernel_rfl
@[simp] theorem z116 : Program.zeroOf Tryz.prog 116 = some (.agg #[(.int .i64 0), (.int .i64 0), (.int .i64 0)]) := by kernel_rfl
@[simp] theorem i116 : (Tryz.prog.info? 116).isSome = true := by kernel_rfl
attribute [simp] Tryz.underlying116
@[simp] theorem c117 : Tryz.prog.cellsOf 117 = 3 := by kernel_rfl
@[simp] theorem b117 : Program.bytesOf' Tryz.prog 117 = some 24 := by kernel_rfl
@[simp] theorem q117 : eqOkP Tryz.prog 117 = true := by kernel_rfl
@[simp] theorem z117 : Program.zeroOf Tryz.prog 117 = some (.agg #[(.int .i64 0), (.int .i64 0), (.int .i64 0)]) := by kernel_rfl
@[simp] theorem i117 : (Tryz.prog.info? 117).isSome = true := by kernel_rfl
attribute [simp] Tryz.underlying117
@[simp] theorem c118 : Tryz.prog.cellsOf 118 = 1 := by kernel_rfl
@[simp] theorem b118 : Program.bytesOf' Tryz.prog 118 = some 8 := by kernel_rfl
@[simp] theorem z118 : Program.zeroOf Tryz.prog 118 = some .nilFunc := by kernel_rfl
@[simp] theorem i118 : (Tryz.prog.info? 118).isSome = true := by kernel_rfl
attribute [simp] Tryz.underlying118
@[simp] theorem c119 : Tryz.prog.cellsOf 119 = 1 := by kernel_rfl
@[simp] theorem b119 : Program.bytesOf' Tryz.prog 119 = some 24 := by kernel_rfl
@[simp] theorem z119 : Program.zeroOf Tryz.prog 119 = some (.slice none 0 0) := by kernel_rfl
@[simp] theorem i119 : (Tryz.prog.info? 119).isSome = true := by kernel_rfl
attribute [simp] Tryz.underlying119
@[simp] theorem c120 : Tryz.prog.cellsOf 120 = 1 := by kernel_rfl
@[simp] theorem b120 : Program.bytesOf' Tryz.prog 120 = some 8 := by kernel_rfl
@[simp] theorem z120 : Program.zeroOf Tryz.prog 120 = some .nilFunc := by kernel_rfl
@[simp] theorem i120 : (Tryz.prog.info? 120).isSome = true := by kernel_rfl
attribute [simp] Tryz.underlying120
@[simp] theorem c121 : Tryz.prog.cellsOf 121 = 1 := by kernel_rfl
@[simp] theorem b121 : Program.bytesOf' Tryz.prog 121 = some 8 := by kernel_rfl
@[simp] theorem z121 : Program.zeroOf Tryz.prog 121 = some .nilFunc := by kernel_rfl
@[simp] theorem i121 : (Tryz.prog.info? 121).isSome = true := by kernel_rfl
attribute [simp] Tryz.underlying121
@[simp] theorem c122 : Tryz.prog.cellsOf 122 = 1 := by kernel_rfl
@[simp] theorem b122 : Program.bytesOf' Tryz.prog 122 = some 8 := by kernel_rfl
@[simp] theorem z122 : Program.zeroOf Tryz.prog 122 = some .nilFunc := by kernel_rfl
@[simp] theorem i122 : (Tryz.prog.info? 122).isSome = true := by kernel_rfl
attribute [simp] Tryz.underlying122
@[simp] theorem c123 : Tryz.prog.cellsOf 123 = 1 := by kernel_rfl
@[simp] theorem b123 : Program.bytesOf' Tryz.prog 123 = some 8 := by kernel_rfl
@[simp] theorem z123 : Program.zeroOf Tryz.prog 123 = some .nilFunc := by kernel_rfl
@[simp] theorem i123 : (Tryz.prog.info? 123).isSome = true := by kernel_rfl
attribute [simp] Tryz.underlying123
@[simp] theorem c124 : Tryz.prog.cellsOf 124 = 1 := by kernel_rfl
@[simp] theorem b124 : Program.bytesOf' Tryz.prog 124 = some 8 := by kernel_rfl
@[simp] theorem z124 : Program.zeroOf Tryz.prog 124 = some .nilFunc := by kernel_rfl
@[simp] theorem i124 : (Tryz.prog.info? 124).isSome = true := by kernel_rfl
attribute [simp] Tryz.underlying124
@[simp] theorem c125 : Tryz.prog.cellsOf 125 = 1 := by kernel_rfl
@[simp] theorem b125 : Program.bytesOf' Tryz.prog 125 = some 8 := by kernel_rfl
@[simp] theorem z125 : Program.zeroOf Tryz.prog 125 = some .nilFunc := by kernel_rfl
@[simp] theorem i125 : (Tryz.prog.info? 125).isSome = true := by kernel_rfl
attribute [simp] Tryz.underlying125
@[simp] theorem c126 : Tryz.prog.cellsOf 126 = 1 := by kernel_rfl
@[simp] theorem b126 : Program.bytesOf' Tryz.prog 126 = some 8 := by kernel_rfl
@[simp] theorem z126 : Program.zeroOf Tryz.prog 126 = some .nilFunc := by kernel_rfl
@[simp] theorem i126 : (Tryz.prog.info? 126).isSome = true := by kernel_rfl
attribute [simp] Tryz.underlying126
@[simp] theorem c127 : Tryz.prog.cellsOf 127 = 1 := by kernel_rfl
@[simp] theorem b127 : Program.bytesOf' Tryz.prog 127 = some 8 := by kernel_rfl
@[simp] theorem z127 : Program.zeroOf Tryz.prog 127 = some .nilFunc := by kernel_rfl
@[simp] theorem i127 : (Tryz.prog.info? 127).isSome = true := by kernel_rfl
attribute [simp] Tryz.underlying127
@[simp] theorem c128 : Tryz.prog.cellsOf 128 = 1 := by kernel_rfl
@[simp] theorem b128 : Program.bytesOf' Tryz.prog 128 = some 8 := by kernel_rfl
@[simp] theorem z128 : Program.zeroOf Tryz.prog 128 = some .nilFunc := by kernel_rfl
@[simp] theorem i128 : (Tryz.prog.info? 128).isSome = true := by kernel_rfl
attribute [simp] Tryz.underlying128
@[simp] theorem c129 : Tryz.prog.cellsOf 129 = 1 := by kernel_rfl
@[simp] theorem b129 : Program.bytesOf' Tryz.prog 129 = some 8 := by kernel_rfl
@[simp] theorem z129 : Program.zeroOf Tryz.prog 129 = some .nilFunc := by kernel_rfl
@[simp] theorem i129 : (Tryz.prog.info? 129).isSome = true := by kernel_rfl
attribute [simp] Tryz.underlying129
@[simp] theorem c130 : Tryz.prog.cellsOf 130 = 1 := by kernel_rfl
@[simp] theorem b130 : Program.bytesOf' Tryz.prog 130 = some 8 := by kernel_rfl
@[simp] theorem z130 : Program.zeroOf Tryz.prog 130 = some .nilFunc := by kernel_rfl
@[simp] theorem i130 : (Tryz.prog.info? 130).isSome = true := by kernel_rfl
attribute [simp] Tryz.underlying130
@[simp] theorem c131 : Tryz.prog.cellsOf 131 = 1 := by kernel_rfl
@[simp] theorem b131 : Program.bytesOf' Tryz.prog 131 = some 8 := by kernel_rfl
@[simp] theorem z131 : Program.zeroOf Tryz.prog 131 = some (.int .u64 0) := by kernel_rfl
@[simp] theorem i131 : (Tryz.prog.info? 131).isSome = true := by kernel_rfl
attribute [simp] Tryz.underlying131
@[simp] theorem c132 : Tryz.prog.cellsOf 132 = 1 := by kernel_rfl
@[simp] theorem b132 : Program.bytesOf' Tryz.prog 132 = some 8 := by kernel_rfl
@[simp] theorem z132 : Program.zeroOf Tryz.prog 132 = some .nilFunc := by kernel_rfl
@[simp] theorem i132 : (Tryz.prog.info? 132).isSome = true := by kernel_rfl
attribute [simp] Tryz.underlying132
@[simp] theorem c133 : Tryz.prog.cellsOf 133 = 1 := by kernel_rfl
@[simp] theorem b133 : Program.bytesOf' Tryz.prog 133 = some 8 := by kernel_rfl
@[simp] theorem z133 : Program.zeroOf Tryz.prog 133 = some (.pointer none) := by kernel_rfl
@[simp] theorem i133 : (Tryz.prog.info? 133).isSome = true := by kernel_rfl
attribute [simp] Tryz.underlying133
@[simp] theorem c134 : Tryz.prog.cellsOf 134 = 1 := by kernel_rfl
@[simp] theorem b134 : Program.bytesOf' Tryz.prog 134 = some 8 := by kernel_rfl
@[simp] theorem z134 : Program.zeroOf Tryz.prog 134 = some (.map none) := by kernel_rfl
@[simp] theorem i134 : (Tryz.prog.info? 134).isSome = true := by kernel_rfl
attribute [simp] Tryz.underlying134
@[simp] theorem c135 : Tryz.prog.cellsOf 135 = 9 := by kernel_rfl
@[simp] theorem b135 : Program.bytesOf' Tryz.prog 135 = some 120 := by kernel_rfl
@[simp] theorem z135 : Program.zeroOf Tryz.prog 135 = some (.agg #[(.int .i64 0), (.int .i64 0), (.int .i64 0), (.int .i64 0), (.slice none 0 0), (.slice none 0 0), (.slice none 0 0), (.int .i64 0), (.map none)]) := by kernel_rfl
@[simp] theorem i135 : (Tryz.prog.info? 135).isSome = true := by kernel_rfl
attribute [simp] Tryz.underlying135
@[simp] theorem c136 : Tryz.prog.cellsOf 136 = 9 := by kernel_rfl
@[simp] theorem b136 : Program.bytesOf' Tryz.prog 136 = some 120 := by kernel_rfl
@[simp] theorem z136 : Program.zeroOf Tryz.prog 136 = some (.agg #[(.int .i64 0), (.int .i64 0), (.int .i64 0), (.int .i64 0), (.slice none 0 0), (.slice none 0 0), (.slice none 0 0), (.int .i64 0), (.map none)]) := by kernel_rfl
@[simp] theorem i136 : (Tryz.prog.info? 136).isSome = true := by kernel_rfl
attribute [simp] Tryz.underlying136
@[simp] theorem c137 : Tryz.prog.cellsOf 137 = 1 := by kernel_rfl
@[simp] theorem b137 : Program.bytesOf' Tryz.prog 137 = some 8 := by kernel_rfl
@[simp] theorem z137 : Program.zeroOf Tryz.prog 137 = some .nilFunc := by kernel_rfl
@[simp] theorem i137 : (Tryz.prog.info? 137).isSome = true := by kernel_rfl
attribute [simp] Tryz.underlying137
@[simp] theorem c138 : Tryz.prog.cellsOf 138 = 1 := by kernel_rfl
@[simp] theorem b138 : Program.bytesOf' Tryz.prog 138 = some 8 := by kernel_rfl
@[simp] theorem z138 : Program.zeroOf Tryz.prog 138 = some .nilFunc := by kernel_rfl
@[simp] theorem i138 : (Tryz.prog.info? 138).isSome = true := by kernel_rfl
attribute [simp] Tryz.underlying138
@[simp] theorem c139 : Tryz.prog.cellsOf 139 = 1 := by kernel_rfl
@[simp] theorem b139 : Program.bytesOf' Tryz.prog 139 = some 8 := by kernel_rfl
@[simp] theorem z139 : Program.zeroOf Tryz.prog 139 = some .nilFunc := by kernel_rfl
@[simp] theorem i139 : (Tryz.prog.info? 139).isSome = true := by kernel_rfl
attribute [simp] Tryz.underlying139
@[simp] theorem c140 : Tryz.prog.cellsOf 140 = 1 := by kernel_rfl
@[simp] theorem b140 : Program.bytesOf' Tryz.prog 140 = some 8 := by kernel_rfl
@[simp] theorem z140 : Program.zeroOf Tryz.prog 140 = some .nilFunc := by kernel_rfl
@[simp] theorem i140 : (Tryz.prog.info? 140).isSome = true := by kernel_rfl
attribute [simp] Tryz.underlying140
@[simp] theorem c141 : Tryz.prog.cellsOf 141 = 1 := by kernel_rfl
@[simp] theorem b141 : Program.bytesOf' Tryz.prog 141 = some 8 := by kernel_rfl
@[simp] theorem z141 : Program.zeroOf Tryz.prog 141 = some .nilFunc := by kernel_rfl
@[simp] theorem i141 : (Tryz.prog.info? 141).isSome = true := by kernel_rfl
attribute [simp] Tryz.underlying141
@[simp] theorem c142 : Tryz.prog.cellsOf 142 = 1 := by kernel_rfl
@[simp] theorem b142 : Program.bytesOf' Tryz.prog 142 = some 8 := by kernel_rfl
@[simp] theorem z142 : Program.zeroOf Tryz.prog 142 = some .nilFunc := by kernel_rfl
@[simp] theorem i142 : (Tryz.prog.info? 142).isSome = true := by kernel_rfl
attribute [simp] Tryz.underlying142
@[simp] theorem c143 : Tryz.prog.cellsOf 143 = 1 := by kernel_rfl
@[simp] theorem b143 : Program.bytesOf' Tryz.prog 143 = some 24 := by kernel_rfl
@[simp] theorem z143 : Program.zeroOf Tryz.prog 143 = some (.slice none 0 0) := by kernel_rfl
@[simp] theorem i143 : (Tryz.prog.info? 143).isSome = true := by kernel_rfl
attribute [simp] Tryz.underlying143
@[simp] theorem c144 : Tryz.prog.cellsOf 144 = 1 := by kernel_rfl
@[simp] theorem b144 : Program.bytesOf' Tryz.prog 144 = some 8 := by kernel_rfl
@[simp] theorem z144 : Program.zeroOf Tryz.prog 144 = some .nilFunc := by kernel_rfl
@[simp] theorem i144 : (Tryz.prog.info? 144).isSome = true := by kernel_rfl
attribute [simp] Tryz.underlying144
@[simp] theorem c145 : Tryz.prog.cellsOf 145 = 1 := by kernel_rfl
@[simp] theorem b145 : Program.bytesOf' Tryz.prog 145 = some 8 := by kernel_rfl
@[simp] theorem z145 : Program.zeroOf Tryz.prog 145 = some .nilFunc := by kernel_rfl
@[simp] theorem i145 : (Tryz.prog.info? 145).isSome = true := by kernel_rfl
attribute [simp] Tryz.underlying145
@[simp] theorem c146 : Tryz.prog.cellsOf 146 = 1 := by kernel_rfl
@[simp] theorem b146 : Program.bytesOf' Tryz.prog 146 = some 8 := by kernel_rfl
@[simp] theorem z146 : Program.zeroOf Tryz.prog 146 = some .nilFunc := by kernel_rfl
@[simp] theorem i146 : (Tryz.prog.info? 146).isSome = true := by kernel_rfl
attribute [simp] Tryz.underlying146
@[simp] theorem c147 : Tryz.prog.cellsOf 147 = 1 := by kernel_rfl
@[simp] theorem b147 : Program.bytesOf' Tryz.prog 147 = some 8 := by kernel_rfl
@[simp] theorem z147 : Program.zeroOf Tryz.prog 147 = some .nilFunc := by kernel_rfl
@[simp] theorem i147 : (Tryz.prog.info? 147).isSome = true := by kernel_rfl
attribute [simp] Tryz.underlying147
@[simp] theorem c148 : Tryz.prog.cellsOf 148 = 1 := by kernel_rfl
@[simp] theorem b148 : Program.bytesOf' Tryz.prog 148 = some 8 := by kernel_rfl
@[simp] theorem z148 : Program.zeroOf Tryz.prog 148 = some .nilFunc := by kernel_rfl
@[simp] theorem i148 : (Tryz.prog.info? 148).isSome = true := by kernel_rfl
attribute [simp] Tryz.underlying148
@[simp] theorem c149 : Tryz.prog.cellsOf 149 = 1 := by kernel_rfl
@[simp] theorem b149 : Program.bytesOf' Tryz.prog 149 = some 8 := by kernel_rfl
@[simp] theorem z149 : Program.zeroOf Tryz.prog 149 = some .nilFunc := by kernel_rfl
@[simp] theorem i149 : (Tryz.prog.info? 149).isSome = true := by kernel_rfl
attribute [simp] Tryz.underlying149
@[simp] theorem c150 : Tryz.prog.cellsOf 150 = 1 := by kernel_rfl
@[simp] theorem b150 : Program.bytesOf' Tryz.prog 150 = some 8 := by kernel_rfl
@[simp] theorem z150 : Program.zeroOf Tryz.prog 150 = some .nilFunc := by kernel_rfl
@[simp] theorem i150 : (Tryz.prog.info? 150).isSome = true := by kernel_rfl
attribute [simp] Tryz.underlying150
@[simp] theorem c151 : Tryz.prog.cellsOf 151 = 1 := by kernel_rfl
@[simp] theorem b151 : Program.bytesOf' Tryz.prog 151 = some 8 := by kernel_rfl
@[simp] theorem z151 : Program.zeroOf Tryz.prog 151 = some (.int .i64 0) := by kernel_rfl
@[simp] theorem i151 : (Tryz.prog.info? 151).isSome = true := by kernel_rfl
attribute [simp] Tryz.underlying151
@[simp] theorem c152 : Tryz.prog.cellsOf 152 = 1 := by kernel_rfl
@[simp] theorem b152 : Program.bytesOf' Tryz.prog 152 = some 0 := by kernel_rfl
@[simp] theorem i152 : (Tryz.prog.info? 152).isSome = true := by kernel_rfl
attribute [simp] Tryz.underlying152
@[simp] theorem c153 : Tryz.prog.cellsOf 153 = 1 := by kernel_rfl
@[simp] theorem b153 : Program.bytesOf' Tryz.prog 153 = some 8 := by kernel_rfl
@[simp] theorem z153 : Program.zeroOf Tryz.prog 153 = some .nilFunc := by kernel_rfl
@[simp] theorem i153 : (Tryz.prog.info? 153).isSome = true := by kernel_rfl
attribute [simp] Tryz.underlying153
@[simp] theorem c154 : Tryz.prog.cellsOf 154 = 1 := by kernel_rfl
@[simp] theorem b154 : Program.bytesOf' Tryz.prog 154 = some 8 := by kernel_rfl
@[simp] theorem z154 : Program.zeroOf Tryz.prog 154 = some .nilFunc := by kernel_rfl
@[simp] theorem i154 : (Tryz.prog.info? 154).isSome = true := by kernel_rfl
attribute [simp] Tryz.underlying154
@[simp] theorem c155 : Tryz.prog.cellsOf 155 = 1 := by kernel_rfl
@[simp] theorem b155 : Program.bytesOf' Tryz.prog 155 = some 8 := by kernel_rfl
@[simp] theorem z155 : Program.zeroOf Tryz.prog 155 = some .nilFunc := by kernel_rfl
@[simp] theorem i155 : (Tryz.prog.info? 155).isSome = true := by kernel_rfl
attribute [simp] Tryz.underlying155
@[simp] theorem c156 : Tryz.prog.cellsOf 156 = 1 := by kernel_rfl
@[simp] theorem b156 : Program.bytesOf' Tryz.prog 156 = some 8 := by kernel_rfl
@[simp] theorem z156 : Program.zeroOf Tryz.prog 156 = some .nilFunc := by kernel_rfl
@[simp] theorem i156 : (Tryz.prog.info? 156).isSome = true := by kernel_rfl
attribute [simp] Tryz.underlying156
@[simp] theorem c157 : Tryz.prog.cellsOf 157 = 1 := by kernel_rfl
@[simp] theorem b157 : Program.bytesOf' Tryz.prog 157 = some 8 := by kernel_rfl
@[simp] theorem z157 : Program.zeroOf Tryz.prog 157 = some .nilFunc := by kernel_rfl
@[simp] theorem i157 : (Tryz.prog.info? 157).isSome = true := by kernel_rfl
attribute [simp] Tryz.underlying157
@[simp] theorem c158 : Tryz.prog.cellsOf 158 = 1 := by kernel_rfl
@[simp] theorem b158 : Program.bytesOf' Tryz.prog 158 = some 4 := by kernel_rfl
@[simp] theorem z158 : Program.zeroOf Tryz.prog 158 = some (.int .u32 0) := by kernel_rfl
@[simp] theorem i158 : (Tryz.prog.info? 158).isSome = true := by kernel_rfl
attribute [simp] Tryz.underlying158
@[simp] theorem c159 : Tryz.prog.cellsOf 159 = 1 := by kernel_rfl
@[simp] theorem b159 : Program.bytesOf' Tryz.prog 159 = some 8 := by kernel_rfl
@[simp] theorem z159 : Program.zeroOf Tryz.prog 159 = some .nilFunc := by kernel_rfl
@[simp] theorem i159 : (Tryz.prog.info? 159).isSome = true := by kernel_rfl
attribute [simp] Tryz.underlying159
@[simp] theorem c160 : Tryz.prog.cellsOf 160 = 1 := by kernel_rfl
@[simp] theorem b160 : Program.bytesOf' Tryz.prog 160 = some 8 := by kernel_rfl
@[simp] theorem z160 : Program.zeroOf Tryz.prog 160 = some (.pointer none) := by kernel_rfl
@[simp] theorem i160 : (Tryz.prog.info? 160).isSome = true := by kernel_rfl
attribute [simp] Tryz.underlying160
@[simp] theorem c161 : Tryz.prog.cellsOf 161 = 1 := by kernel_rfl
@[simp] theorem b161 : Program.bytesOf' Tryz.prog 161 = some 8 := by kernel_rfl
@[simp] theorem z161 : Program.zeroOf Tryz.prog 161 = some .nilFunc := by kernel_rfl
@[simp] theorem i161 : (Tryz.prog.info? 161).isSome = true := by kernel_rfl
attribute [simp] Tryz.underlying161
@[simp] theorem c162 : Tryz.prog.cellsOf 162 = 1 := by kernel_rfl
@[simp] theorem b162 : Program.bytesOf' Tryz.prog 162 = some 8 := by kernel_rfl
@[simp] theorem z162 : Program.zeroOf Tryz.prog 162 = some .nilFunc := by kernel_rfl
@[simp] theorem i162 : (Tryz.prog.info? 162).isSome = true := by kernel_rfl
attribute [simp] Tryz.underlying162
@[simp] theorem c163 : Tryz.prog.cellsOf 163 = 1 := by kernel_rfl
@[simp] theorem b163 : Program.bytesOf' Tryz.prog 163 = some 8 := by kernel_rfl
@[simp] theorem z163 : Program.zeroOf Tryz.prog 163 = some .nilFunc := by kernel_rfl
@[simp] theorem i163 : (Tryz.prog.info? 163).isSome = true := by kernel_rfl
attribute [simp] Tryz.underlying163
@[simp] theorem c164 : Tryz.prog.cellsOf 164 = 1 := by kernel_rfl
@[simp] theorem b164 : Program.bytesOf' Tryz.prog 164 = some 8 := by kernel_rfl
@[simp] theorem z164 : Program.zeroOf Tryz.prog 164 = some .nilFunc := by kernel_rfl
@[simp] theorem i164 : (Tryz.prog.info? 164).isSome = true := by kernel_rfl
attribute [simp] Tryz.underlying164
@[simp] theorem c165 : Tryz.prog.cellsOf 165 = 4 := by kernel_rfl
@[simp] theorem b165 : Program.bytesOf' Tryz.prog 165 = some 32 := by kernel_rfl
@[simp] theorem q165 : eqOkP Tryz.prog 165 = true := by kernel_rfl
@[simp] theorem z165 : Program.zeroOf Tryz.prog 165 = some (.agg #[(.int .i64 0), (.int .i64 0), (.int .i64 0), (.bool false)]) := by kernel_rfl
@[simp] theorem i165 : (Tryz.prog.info? 165).isSome = true := by kernel_rfl
attribute [simp] Tryz.underlying165
@[simp] theorem c166 : Tryz.prog.cellsOf 166 = 4 := by kernel_rfl
@[simp] theorem b166 : Program.bytesOf' Tryz.prog 166 = some 32 := by kernel_rfl
@[simp] theorem q166 : eqOkP Tryz.prog 166 = true := by kernel_rfl
@[simp] theorem z166 : Program.zeroOf Tryz.prog 166 = some (.agg #[(.int .i64 0), (.int .i64 0), (.int .i64 0), (.bool false)]) := by kernel_rfl
@[simp] theorem i166 : (Tryz.prog.info? 166).isSome = true := by kernel_rfl
attribute [simp] Tryz.underlying166
@[simp] theorem c167 : Tryz.prog.cellsOf 167 = 20 := by kernel_rfl
@[simp] theorem b167 : Program.bytesOf' Tryz.prog 167 = some 160 := by kernel_rfl
@[simp] theorem z167 : Program.zeroOf Tryz.prog 167 = some (.agg #[(.int .i64 0), (.int .i64 0), (.int .i64 0), (.bool false), (.int .i64 0), (.int .i64 0), (.int .i64 0), (.bool false), (.int .i64 0), (.int .i64 0), (.int .i64 0), (.bool false), (.int .i64 0), (.int .i64 0), (.int .i64 0), (.bool false), (.int .i64 0), (.int .i64 0), (.int .i64 0), (.bool false)]) := by kernel_rfl
@[simp] theorem i167 : (Tryz.prog.info? 167).isSome = true := by kernel_rfl
attribute [simp] Tryz.underlying167
@[simp] theorem c168 : Tryz.prog.cellsOf 168 = 20 := by kernel_rfl
@[simp] theorem b168 : Program.bytesOf' Tryz.prog 168 = some 160 := by kernel_rfl
@[simp] theorem z168 : Program.zeroOf Tryz.prog 168 = some (.agg #[(.int .i64 0), (.int .i64 0), (.int .i64 0), (.bool false), (.int .i64 0), (.int .i64 0), (.int .i64 0), (.bool false), (.int .i64 0), (.int .i64 0), (.int .i64 0), (.bool false), (.int .i64 0), (.int .i64 0), (.int .i64 0), (.bool false), (.int .i64 0), (.int .i64 0), (.int .i64 0), (.bool false)]) := by kernel_rfl
@[simp] theorem i168 : (Tryz.prog.info? 168).isSome = true := by kernel_rfl
attribute [simp] Tryz.underlying168
@[simp] theorem c169 : Tryz.prog.cellsOf 169 = 1 := by kernel_rfl
@[simp] theorem b169 : Program.bytesOf' Tryz.prog 169 = some 0 := by kernel_rfl
@[simp] theorem i169 : (Tryz.prog.info? 169).isSome = true := by kernel_rfl
attribute [simp] Tryz.underlying169
@[simp] theorem c170 : Tryz.prog.cellsOf 170 = 1 := by kernel_rfl
@[simp] theorem b170 : Program.bytesOf' Tryz.prog 170 = some 8 := by kernel_rfl
@[simp] theorem z170 : Program.zeroOf Tryz.prog 170 = some .nilFunc := by kernel_rfl
@[simp] theorem i170 : (Tryz.prog.info? 170).isSome = true := by kernel_rfl
attribute [simp] Tryz.underlying170
@[simp] theorem c171 : Tryz.prog.cellsOf 171 = 1 := by kernel_rfl
@[simp] theorem b171 : Program.bytesOf' Tryz.prog 171 = some 8 := by kernel_rfl
@[simp] theorem z171 : Program.zeroOf Tryz.prog 171 = some .nilFunc := by kernel_rfl
@[simp] theorem i171 : (Tryz.prog.info? 171).isSome = true := by kernel_rfl
attribute [simp] Tryz.underlying171
@[simp] theorem c172 : Tryz.prog.cellsOf 172 = 1 := by kernel_rfl
@[simp] theorem b172 : Program.bytesOf' Tryz.prog 172 = some 8 := by kernel_rfl
@[simp] theorem z172 : Program.zeroOf Tryz.prog 172 = some .nilFunc := by kernel_rfl
@[simp] theorem i172 : (Tryz.prog.info? 172).isSome = true := by kernel_rfl
attribute [simp] Tryz.underlying172
@[simp] theorem c173 : Tryz.prog.cellsOf 173 = 1 := by kernel_rfl
@[simp] theorem b173 : Program.bytesOf' Tryz.prog 173 = some 8 := by kernel_rfl
@[simp] theorem z173 : Program.zeroOf Tryz.prog 173 = some .nilFunc := by kernel_rfl
@[simp] theorem i173 : (Tryz.prog.info? 173).isSome = true := by kernel_rfl
attribute [simp] Tryz.underlying173
@[simp] theorem c174 : Tryz.prog.cellsOf 174 = 1 := by kernel_rfl
@[simp] theorem b174 : Program.bytesOf' Tryz.prog 174 = some 8 := by kernel_rfl
@[simp] theorem z174 : Program.zeroOf Tryz.prog 174 = some .nilFunc := by kernel_rfl
@[simp] theorem i174 : (Tryz.prog.info? 174).isSome = true := by kernel_rfl
attribute [simp] Tryz.underlying174
@[simp] theorem c175 : Tryz.prog.cellsOf 175 = 1 := by kernel_rfl
@[simp] theorem b175 : Program.bytesOf' Tryz.prog 175 = some 8 := by kernel_rfl
@[simp] theorem z175 : Program.zeroOf Tryz.prog 175 = some (.pointer none) := by kernel_rfl
@[simp] theorem i175 : (Tryz.prog.info? 175).isSome = true := by kernel_rfl
attribute [simp] Tryz.underlying175
@[simp] theorem c176 : Tryz.prog.cellsOf 176 = 1 := by kernel_rfl
@[simp] theorem b176 : Program.bytesOf' Tryz.prog 176 = some 8 := by kernel_rfl
@[simp] theorem z176 : Program.zeroOf Tryz.prog 176 = some .nilFunc := by kernel_rfl
@[simp] theorem i176 : (Tryz.prog.info? 176).isSome = true := by kernel_rfl
attribute [simp] Tryz.underlying176
@[simp] theorem c177 : Tryz.prog.cellsOf 177 = 1 := by kernel_rfl
@[simp] theorem b177 : Program.bytesOf' Tryz.prog 177 = some 24 := by kernel_rfl
@[simp] theorem z177 : Program.zeroOf Tryz.prog 177 = some (.slice none 0 0) := by kernel_rfl
@[simp] theorem i177 : (Tryz.prog.info? 177).isSome = true := by kernel_rfl
attribute [simp] Tryz.underlying177
@[simp] theorem c178 : Tryz.prog.cellsOf 178 = 1 := by kernel_rfl
@[simp] theorem b178 : Program.bytesOf' Tryz.prog 178 = some 24 := by kernel_rfl
@[simp] theorem z178 : Program.zeroOf Tryz.prog 178 = some (.slice none 0 0) := by kernel_rfl
@[simp] theorem i178 : (Tryz.prog.info? 178).isSome = true := by kernel_rfl
attribute [simp] Tryz.underlying178
@[simp] theorem c179 : Tryz.prog.cellsOf 179 = 1 := by kernel_rfl
@[simp] theorem b179 : Program.bytesOf' Tryz.prog 179 = some 8 := by kernel_rfl
@[simp] theorem z179 : Program.zeroOf Tryz.prog 179 = some .nilFunc := by kernel_rfl
@[simp] theorem i179 : (Tryz.prog.info? 179).isSome = true := by kernel_rfl
attribute [simp] Tryz.underlying179
@[simp] theorem c180 : Tryz.prog.cellsOf 180 = 1 := by kernel_rfl
@[simp] theorem b180 : Program.bytesOf' Tryz.prog 180 = some 0 := by kernel_rfl
@[simp] theorem i180 : (Tryz.prog.info? 180).isSome = true := by kernel_rfl
attribute [simp] Tryz.underlying180
@[simp] theorem c181 : Tryz.prog.cellsOf 181 = 1 := by kernel_rfl
@[simp] theorem b181 : Program.bytesOf' Tryz.prog 181 = some 8 := by kernel_rfl
@[simp] theorem z181 : Program.zeroOf Tryz.prog 181 = some .nilFunc := by kernel_rfl
@[simp] theorem i181 : (Tryz.prog.info? 181).isSome = true := by kernel_rfl
attribute [simp] Tryz.underlying181
@[simp] theorem c182 : Tryz.prog.cellsOf 182 = 1 := by kernel_rfl
@[simp] theorem b182 : Program.bytesOf' Tryz.prog 182 = some 8 := by kernel_rfl
@[simp] theorem z182 : Program.zeroOf Tryz.prog 182 = some .nilFunc := by kernel_rfl
@[simp] theorem i182 : (Tryz.prog.info? 182).isSome = true := by kernel_rfl
attribute [simp] Tryz.underlying182
@[simp] theorem c183 : Tryz.prog.cellsOf 183 = 1 := by kernel_rfl
@[simp] theorem b183 : Program.bytesOf' Tryz.prog 183 = some 8 := by kernel_rfl
@[simp] theorem z183 : Program.zeroOf Tryz.prog 183 = some .nilFunc := by kernel_rfl
@[simp] theorem i183 : (Tryz.prog.info? 183).isSome = true := by kernel_rfl
attribute [simp] Tryz.underlying183
@[simp] theorem c184 : Tryz.prog.cellsOf 184 = 1 := by kernel_rfl
@[simp] theorem b184 : Program.bytesOf' Tryz.prog 184 = some 8 := by kernel_rfl
@[simp] theorem z184 : Program.zeroOf Tryz.prog 184 = some .nilFunc := by kernel_rfl
@[simp] theorem i184 : (Tryz.prog.info? 184).isSome = true := by kernel_rfl
attribute [simp] Tryz.underlying184
@[simp] theorem c185 : Tryz.prog.cellsOf 185 = 1 := by kernel_rfl
@[simp] theorem b185 : Program.bytesOf' Tryz.prog 185 = some 8 := by kernel_rfl
@[simp] theorem z185 : Program.zeroOf Tryz.prog 185 = some (.int .u64 0) := by kernel_rfl
@[simp] theorem i185 : (Tryz.prog.info? 185).isSome = true := by kernel_rfl
attribute [simp] Tryz.underlying185
@[simp] theorem c186 : Tryz.prog.cellsOf 186 = 1 := by kernel_rfl
@[simp] theorem b186 : Program.bytesOf' Tryz.prog 186 = some 8 := by kernel_rfl
@[simp] theorem z186 : Program.zeroOf Tryz.prog 186 = some .nilFunc := by kernel_rfl
@[simp] theorem i186 : (Tryz.prog.info? 186).isSome = true := by kernel_rfl
attribute [simp] Tryz.underlying186
@[simp] theorem c187 : Tryz.prog.cellsOf 187 = 1 := by kernel_rfl
@[simp] theorem b187 : Program.bytesOf' Tryz.prog 187 = some 8 := by kernel_rfl
@[simp] theorem z187 : Program.zeroOf Tryz.prog 187 = some .nilFunc := by kernel_rfl
@[simp] theorem i187 : (Tryz.prog.info? 187).isSome = true := by kernel_rfl
attribute [simp] Tryz.underlying187
@[simp] theorem c188 : Tryz.prog.cellsOf 188 = 1 := by kernel_rfl
@[simp] theorem b188 : Program.bytesOf' Tryz.prog 188 = some 8 := by kernel_rfl
@[simp] theorem z188 : Program.zeroOf Tryz.prog 188 = some .nilFunc := by kernel_rfl
@[simp] theorem i188 : (Tryz.prog.info? 188).isSome = true := by kernel_rfl
attribute [simp] Tryz.underlying188
@[simp] theorem c189 : Tryz.prog.cellsOf 189 = 1 := by kernel_rfl
@[simp] theorem b189 : Program.bytesOf' Tryz.prog 189 = some 8 := by kernel_rfl
@[simp] theorem z189 : Program.zeroOf Tryz.prog 189 = some (.pointer none) := by kernel_rfl
@[simp] theorem i189 : (Tryz.prog.info? 189).isSome = true := by kernel_rfl
attribute [simp] Tryz.underlying189
@[simp] theorem c190 : Tryz.prog.cellsOf 190 = 1 := by kernel_rfl
@[simp] theorem b190 : Program.bytesOf' Tryz.prog 190 = some 8 := by kernel_rfl
@[simp] theorem z190 : Program.zeroOf Tryz.prog 190 = some .nilFunc := by kernel_rfl
@[simp] theorem i190 : (Tryz.prog.info? 190).isSome = true := by kernel_rfl
attribute [simp] Tryz.underlying190
@[simp] theorem c191 : Tryz.prog.cellsOf 191 = 1 := by kernel_rfl
@[simp] theorem b191 : Program.bytesOf' Tryz.prog 191 = some 24 := by kernel_rfl
@[simp] theorem z191 : Program.zeroOf Tryz.prog 191 = some (.slice none 0 0) := by kernel_rfl
@[simp] theorem i191 : (Tryz.prog.info? 191).isSome = true := by kernel_rfl
attribute [simp] Tryz.underlying191
@[simp] theorem c192 : Tryz.prog.cellsOf 192 = 8 := by kernel_rfl
@[simp] theorem b192 : Program.bytesOf' Tryz.prog 192 = some 128 := by kernel_rfl
@[simp] theorem z192 : Program.zeroOf Tryz.prog 192 = some (.agg #[(.int .i64 0), (.int .i64 0), (.int .i64 0), (.int .i64 0), (.slice none 0 0), (.slice none 0 0), (.slice none 0 0), (.slice none 0 0)]) := by kernel_rfl
@[simp] theorem i192 : (Tryz.prog.info? 192).isSome = true := by kernel_rfl
attribute [simp] Tryz.underlying192
@[simp] theorem c193 : Tryz.prog.cellsOf 193 = 8 := by kernel_rfl
@[simp] theorem b193 : Program.bytesOf' Tryz.prog 193 = some 128 := by kernel_rfl
@[simp] theorem z193 : Program.zeroOf Tryz.prog 193 = some (.agg #[(.int .i64 0), (.int .i64 0), (.int .i64 0), (.int .i64 0), (.slice none 0 0), (.slice none 0 0), (.slice none 0 0), (.slice none 0 0)]) := by kernel_rfl
@[simp] theorem i193 : (Tryz.prog.info? 193).isSome = true := by kernel_rfl
attribute [simp] Tryz.underlying193
@[simp] theorem c194 : Tryz.prog.cellsOf 194 = 4 := by kernel_rfl
@[simp] theorem b194 : Program.bytesOf' Tryz.prog 194 = some 80 := by kernel_rfl
@[simp] theorem z194 : Program.zeroOf Tryz.prog 194 = some (.agg #[(.slice none 0 0), (.slice none 0 0), (.slice none 0 0), (.int .i64 0)]) := by kernel_rfl
@[simp] theorem i194 : (Tryz.prog.info? 194).isSome = true := by kernel_rfl
attribute [simp] Tryz.underlying194
@[simp] theorem c195 : Tryz.prog.cellsOf 195 = 4 := by kernel_rfl
@[simp] theorem b195 : Program.bytesOf' Tryz.prog 195 = some 80 := by kernel_rfl
@[simp] theorem z195 : Program.zeroOf Tryz.prog 195 = some (.agg #[(.slice none 0 0), (.slice none 0 0), (.slice none 0 0), (.int .i64 0)]) := by kernel_rfl
@[simp] theorem i195 : (Tryz.prog.info? 195).isSome = true := by kernel_rfl
attribute [simp] Tryz.underlying195
@[simp] theorem c196 : Tryz.prog.cellsOf 196 = 1 := by kernel_rfl
@[simp] theorem b196 : Program.bytesOf' Tryz.prog 196 = some 8 := by kernel_rfl
@[simp] theorem z196 : Program.zeroOf Tryz.prog 196 = some .nilFunc := by kernel_rfl
@[simp] theorem i196 : (Tryz.prog.info? 196).isSome = true := by kernel_rfl
attribute [simp] Tryz.underlying196
@[simp] theorem c197 : Tryz.prog.cellsOf 197 = 1 := by kernel_rfl
@[simp] theorem b197 : Program.bytesOf' Tryz.prog 197 = some 8 := by kernel_rfl
@[simp] theorem z197 : Program.zeroOf Tryz.prog 197 = some .nilFunc := by kernel_rfl
@[simp] theorem i197 : (Tryz.prog.info? 197).isSome = true := by kernel_rfl
attribute [simp] Tryz.underlying197
@[simp] theorem c198 : Tryz.prog.cellsOf 198 = 1 := by kernel_rfl
@[simp] theorem b198 : Program.bytesOf' Tryz.prog 198 = some 8 := by kernel_rfl
@[simp] theorem z198 : Program.zeroOf Tryz.prog 198 = some .nilFunc := by kernel_rfl
@[simp] theorem i198 : (Tryz.prog.info? 198).isSome = true := by kernel_rfl
attribute [simp] Tryz.underlying198
@[simp] theorem c199 : Tryz.prog.cellsOf 199 = 2 := by kernel_rfl
@[simp] theorem b199 : Program.bytesOf' Tryz.prog 199 = some 16 := by kernel_rfl
@[simp] theorem z199 : Program.zeroOf Tryz.prog 199 = some (.agg #[.nilFunc, .nilFunc]) := by kernel_rfl
@[simp] theorem i199 : (Tryz.prog.info? 199).isSome = true := by kernel_rfl
attribute [simp] Tryz.underlying199
@[simp] theorem c200 : Tryz.prog.cellsOf 200 = 2 := by kernel_rfl
@[simp] theorem b200 : Program.bytesOf' Tryz.prog 200 = some 16 := by kernel_rfl
@[simp] theorem z200 : Program.zeroOf Tryz.prog 200 = some (.agg #[.nilFunc, .nilFunc]) := by kernel_rfl
@[simp] theorem i200 : (Tryz.prog.info? 200).isSome = true := by kernel_rfl
attribute [simp] Tryz.underlying200
@[simp] theorem c201 : Tryz.prog.cellsOf 201 = 8 := by kernel_rfl
@[simp] theorem b201 : Program.bytesOf' Tryz.prog 201 = some 64 := by kernel_rfl
@[simp] theorem z201 : Program.zeroOf Tryz.prog 201 = some (.agg #[.nilFunc, .nilFunc, .nilFunc, .nilFunc, .nilFunc, .nilFunc, .nilFunc, .nilFunc]) := by kernel_rfl
@[simp] theorem i201 : (Tryz.prog.info? 201).isSome = true := by kernel_rfl
attribute [simp] Tryz.underlying201
@[simp] theorem c202 : Tryz.prog.cellsOf 202 = 1 := by kernel_rfl
@[simp] theorem b202 : Program.bytesOf' Tryz.prog 202 = some 8 := by kernel_rfl
@[simp] theorem z202 : Program.zeroOf Tryz.prog 202 = some .nilFunc := by kernel_rfl
@[simp] theorem i202 : (Tryz.prog.info? 202).isSome = true := by kernel_rfl
attribute [simp] Tryz.underlying202
@[simp] theorem c203 : Tryz.prog.cellsOf 203 = 1 := by kernel_rfl
@[simp] theorem b203 : Program.bytesOf' Tryz.prog 203 = some 8 := by kernel_rfl
@[simp] theorem z203 : Program.zeroOf Tryz.prog 203 = some .nilFunc := by kernel_rfl
@[simp] theorem i203 : (Tryz.prog.info? 203).isSome = true := by kernel_rfl
attribute [simp] Tryz.underlying203
@[simp] theorem c204 : Tryz.prog.cellsOf 204 = 7 := by kernel_rfl
@[simp] theorem b204 : Program.bytesOf' Tryz.prog 204 = some 56 := by kernel_rfl
@[simp] theorem z204 : Program.zeroOf Tryz.prog 204 = some (.agg #[(.int .i64 0), (.int .i64 0), (.int .i64 0), (.int .i64 0), (.int .i64 0), (.int .i64 0), (.int .i64 0)]) := by kernel_rfl
@[simp] theorem i204 : (Tryz.prog.info? 204).isSome = true := by kernel_rfl
attribute [simp] Tryz.underlying204
@[simp] theorem c205 : Tryz.prog.cellsOf 205 = 7 := by kernel_rfl
@[simp] theorem b205 : Program.bytesOf' Tryz.prog 205 = some 56 := by kernel_rfl
@[simp] theorem z205 : Program.zeroOf Tryz.prog 205 = some (.agg #[(.int .i64 0), (.int .i64 0), (.int .i64 0), (.int .i64 0), (.int .i64 0), (.int .i64 0), (.int .i64 0)]) := by kernel_rfl
@[simp] theorem i205 : (Tryz.prog.info? 205).isSome = true := by kernel_rfl
attribute [simp] Tryz.underlying205
@[simp] theorem c206 : Tryz.prog.cellsOf 206 = 1 := by kernel_rfl
@[simp] theorem b206 : Program.bytesOf' Tryz.prog 206 = some 0 := by kernel_rfl
@[simp] theorem i206 : (Tryz.prog.info? 206).isSome = true := by kernel_rfl
attribute [simp] Tryz.underlying206
@[simp] theorem c207 : Tryz.prog.cellsOf 207 = 1 := by kernel_rfl
@[simp] theorem b207 : Program.bytesOf' Tryz.prog 207 = some 8 := by kernel_rfl
@[simp] theorem z207 : Program.zeroOf Tryz.prog 207 = some .nilFunc := by kernel_rfl
@[simp] theorem i207 : (Tryz.prog.info? 207).isSome = true := by kernel_rfl
attribute [simp] Tryz.underlying207
@[simp] theorem c208 : Tryz.prog.cellsOf 208 = 1 := by kernel_rfl
@[simp] theorem b208 : Program.bytesOf' Tryz.prog 208 = some 24 := by kernel_rfl
@[simp] theorem z208 : Program.zeroOf Tryz.prog 208 = some (.slice none 0 0) := by kernel_rfl
@[simp] theorem i208 : (Tryz.prog.info? 208).isSome = true := by kernel_rfl
attribute [simp] Tryz.underlying208
@[simp] theorem c209 : Tryz.prog.cellsOf 209 = 2 := by kernel_rfl
@[simp] theorem b209 : Program.bytesOf' Tryz.prog 209 = some 32 := by kernel_rfl
@[simp] theorem z209 : Program.zeroOf Tryz.prog 209 = some (.agg #[(.slice none 0 0), (.map none)]) := by kernel_rfl
@[simp] theorem i209 : (Tryz.prog.info? 209).isSome = true := by kernel_rfl
attribute [simp] Tryz.underlying209
@[simp] theorem c210 : Tryz.prog.cellsOf 210 = 2 := by kernel_rfl
@[simp] theorem b210 : Program.bytesOf' Tryz.prog 210 = some 32 := by kernel_rfl
@[simp] theorem z210 : Program.zeroOf Tryz.prog 210 = some (.agg #[(.slice none 0 0), (.map none)]) := by kernel_rfl
@[simp] theorem i210 : (Tryz.prog.info? 210).isSome = true := by kernel_rfl
attribute [simp] Tryz.underlying210
@[simp] theorem c211 : Tryz.prog.cellsOf 211 = 2 := by kernel_rfl
@[simp] theorem b211 : Program.bytesOf' Tryz.prog 211 = some 32 := by kernel_rfl
@[simp] theorem z211 : Program.zeroOf Tryz.prog 211 = some (.agg #[(.slice none 0 0), (.map none)]) := by kernel_rfl
@[simp] theorem i211 : (Tryz.prog.info? 211).isSome = true := by kernel_rfl
attribute [simp] Tryz.underlying211
@[simp] theorem c212 : Tryz.prog.cellsOf 212 = 2 := by kernel_rfl
@[simp] theorem b212 : Program.bytesOf' Tryz.prog 212 = some 32 := by kernel_rfl
@[simp] theorem z212 : Program.zeroOf Tryz.prog 212 = some (.agg #[(.slice none 0 0), (.map none)]) := by kernel_rfl
@[simp] theorem i212 : (Tryz.prog.info? 212).isSome = true := by kernel_rfl
attribute [simp] Tryz.underlying212
@[simp] theorem c213 : Tryz.prog.cellsOf 213 = 1 := by kernel_rfl
@[simp] theorem b213 : Program.bytesOf' Tryz.prog 213 = some 8 := by kernel_rfl
@[simp] theorem z213 : Program.zeroOf Tryz.prog 213 = some .nilFunc := by kernel_rfl
@[simp] theorem i213 : (Tryz.prog.info? 213).isSome = true := by kernel_rfl
attribute [simp] Tryz.underlying213
@[simp] theorem c214 : Tryz.prog.cellsOf 214 = 1 := by kernel_rfl
@[simp] theorem b214 : Program.bytesOf' Tryz.prog 214 = some 8 := by kernel_rfl
@[simp] theorem z214 : Program.zeroOf Tryz.prog 214 = some .nilFunc := by kernel_rfl
@[simp] theorem i214 : (Tryz.prog.info? 214).isSome = true := by kernel_rfl
attribute [simp] Tryz.underlying214
@[simp] theorem c215 : Tryz.prog.cellsOf 215 = 1 := by kernel_rfl
@[simp] theorem b215 : Program.bytesOf' Tryz.prog 215 = some 8 := by kernel_rfl
@[simp] theorem z215 : Program.zeroOf Tryz.prog 215 = some (.pointer none) := by kernel_rfl
@[simp] theorem i215 : (Tryz.prog.info? 215).isSome = true := by kernel_rfl
attribute [simp] Tryz.underlying215
@[simp] theorem c216 : Tryz.prog.cellsOf 216 = 2 := by kernel_rfl
@[simp] theorem b216 : Program.bytesOf' Tryz.prog 216 = some 16 := by kernel_rfl
@[simp] theorem q216 : eqOkP Tryz.prog 216 = true := by kernel_rfl
@[simp] theorem z216 : Program.zeroOf Tryz.prog 216 = some (.agg #[(.int .i64 0), (.int .i64 0)]) := by kernel_rfl
@[simp] theorem i216 : (Tryz.prog.info? 216).isSome = true := by kernel_rfl
attribute [simp] Tryz.underlying216
@[simp] theorem c217 : Tryz.prog.cellsOf 217 = 2 := by kernel_rfl
@[simp] theorem b217 : Program.bytesOf' Tryz.prog 217 = some 16 := by kernel_rfl
@[simp] theorem q217 : eqOkP Tryz.prog 217 = true := by kernel_rfl
@[simp] theorem z217 : Program.zeroOf Tryz.prog 217 = some (.agg #[(.int .i64 0), (.int .i64 0)]) := by kernel_rfl
@[simp] theorem i217 : (Tryz.prog.info? 217).isSome = true := by kernel_rfl
attribute [simp] Tryz.underlying217
@[simp] theorem c218 : Tryz.prog.cellsOf 218 = 1 := by kernel_rfl
@[simp] theorem b218 : Program.bytesOf' Tryz.prog 218 = some 8 := by kernel_rfl
@[simp] theorem z218 : Program.zeroOf Tryz.prog 218 = some (.pointer none) := by kernel_rfl
@[simp] theorem i218 : (Tryz.prog.info? 218).isSome = true := by kernel_rfl
attribute [simp] Tryz.underlying218
@[simp] theorem c219 : Tryz.prog.cellsOf 219 = 1 := by kernel_rfl
@[simp] theorem b219 : Program.bytesOf' Tryz.prog 219 = some 0 := by kernel_rfl
@[simp] theorem i219 : (Tryz.prog.info? 219).isSome = true := by kernel_rfl
attribute [simp] Tryz.underlying219
@[simp] theorem c220 : Tryz.prog.cellsOf 220 = 1 := by kernel_rfl
@[simp] theorem b220 : Program.bytesOf' Tryz.prog 220 = some 8 := by kernel_rfl
@[simp] theorem z220 : Program.zeroOf Tryz.prog 220 = some .nilFunc := by kernel_rfl
@[simp] theorem i220 : (Tryz.prog.info? 220).isSome = true := by kernel_rfl
attribute [simp] Tryz.underlying220
@[simp] theorem c221 : Tryz.prog.cellsOf 221 = 1 := by kernel_rfl
@[simp] theorem b221 : Program.bytesOf' Tryz.prog 221 = some 8 := by kernel_rfl
@[simp] theorem z221 : Program.zeroOf Tryz.prog 221 = some .nilFunc := by kernel_rfl
@[simp] theorem i221 : (Tryz.prog.info? 221).isSome = true := by kernel_rfl
attribute [simp] Tryz.underlying221
@[simp] theorem c222 : Tryz.prog.cellsOf 222 = 1 := by kernel_rfl
@[simp] theorem b222 : Program.bytesOf' Tryz.prog 222 = some 8 := by kernel_rfl
@[simp] theorem z222 : Program.zeroOf Tryz.prog 222 = some .nilFunc := by kernel_rfl
@[simp] theorem i222 : (Tryz.prog.info? 222).isSome = true := by kernel_rfl
attribute [simp] Tryz.underlying222
@[simp] theorem c223 : Tryz.prog.cellsOf 223 = 1 := by kernel_rfl
@[simp] theorem b223 : Program.bytesOf' Tryz.prog 223 = some 8 := by kernel_rfl
@[simp] theorem z223 : Program.zeroOf Tryz.prog 223 = some .nilFunc := by kernel_rfl
@[simp] theorem i223 : (Tryz.prog.info? 223).isSome = true := by kernel_rfl
attribute [simp] Tryz.underlying223
@[simp] theorem c224 : Tryz.prog.cellsOf 224 = 1 := by kernel_rfl
@[simp] theorem b224 : Program.bytesOf' Tryz.prog 224 = some 8 := by kernel_rfl
@[simp] theorem z224 : Program.zeroOf Tryz.prog 224 = some .nilFunc := by kernel_rfl
@[simp] theorem i224 : (Tryz.prog.info? 224).isSome = true := by kernel_rfl
attribute [simp] Tryz.underlying224
@[simp] theorem c225 : Tryz.prog.cellsOf 225 = 1 := by kernel_rfl
@[simp] theorem b225 : Program.bytesOf' Tryz.prog 225 = some 16 := by kernel_rfl
@[simp] theorem z225 : Program.zeroOf Tryz.prog 225 = some .nilIface := by kernel_rfl
@[simp] theorem i225 : (Tryz.prog.info? 225).isSome = true := by kernel_rfl
attribute [simp] Tryz.underlying225
@[simp] theorem c226 : Tryz.prog.cellsOf 226 = 1 := by kernel_rfl
@[simp] theorem b226 : Program.bytesOf' Tryz.prog 226 = some 16 := by kernel_rfl
@[simp] theorem z226 : Program.zeroOf Tryz.prog 226 = some .nilIface := by kernel_rfl
@[simp] theorem i226 : (Tryz.prog.info? 226).isSome = true := by kernel_rfl
attribute [simp] Tryz.underlying226
@[simp] theorem c227 : Tryz.prog.cellsOf 227 = 1 := by kernel_rfl
@[simp] theorem b227 : Program.bytesOf' Tryz.prog 227 = some 8 := by kernel_rfl
@[simp] theorem z227 : Program.zeroOf Tryz.prog 227 = some .nilFunc := by kernel_rfl
@[simp] theorem i227 : (Tryz.prog.info? 227).isSome = true := by kernel_rfl
attribute [simp] Tryz.underlying227
@[simp] theorem c228 : Tryz.prog.cellsOf 228 = 1 := by kernel_rfl
@[simp] theorem b228 : Program.bytesOf' Tryz.prog 228 = some 8 := by kernel_rfl
@[simp] theorem z228 : Program.zeroOf Tryz.prog 228 = some .nilFunc := by kernel_rfl
@[simp] theorem i228 : (Tryz.prog.info? 228).isSome = true := by kernel_rfl
attribute [simp] Tryz.underlying228
@[simp] theorem c229 : Tryz.prog.cellsOf 229 = 1 := by kernel_rfl
@[simp] theorem b229 : Program.bytesOf' Tryz.prog 229 = some 8 := by kernel_rfl
@[simp] theorem z229 : Program.zeroOf Tryz.prog 229 = some .nilFunc := by kernel_rfl
@[simp] theorem i229 : (Tryz.prog.info? 229).isSome = true := by kernel_rfl
attribute [simp] Tryz.underlying229
@[simp] theorem c230 : Tryz.prog.cellsOf 230 = 1 := by kernel_rfl
@[simp] theorem b230 : Program.bytesOf' Tryz.prog 230 = some 8 := by kernel_rfl
@[simp] theorem z230 : Program.zeroOf Tryz.prog 230 = some .nilFunc := by kernel_rfl
@[simp] theorem i230 : (Tryz.prog.info? 230).isSome = true := by kernel_rfl
attribute [simp] Tryz.underlying230
@[simp] theorem c231 : Tryz.prog.cellsOf 231 = 1 := by kernel_rfl
@[simp] theorem b231 : Program.bytesOf' Tryz.prog 231 = some 8 := by kernel_rfl
@[simp] theorem z231 : Program.zeroOf Tryz.prog 231 = some .nilFunc := by kernel_rfl
@[simp] theorem i231 : (Tryz.prog.info? 231).isSome = true := by kernel_rfl
attribute [simp] Tryz.underlying231
@[simp] theorem c232 : Tryz.prog.cellsOf 232 = 1 := by kernel_rfl
@[simp] theorem b232 : Program.bytesOf' Tryz.prog 232 = some 8 := by kernel_rfl
@[simp] theorem z232 : Program.zeroOf Tryz.prog 232 = some .nilFunc := by kernel_rfl
@[simp] theorem i232 : (Tryz.prog.info? 232).isSome = true := by kernel_rfl
attribute [simp] Tryz.underlying232
@[simp] theorem c233 : Tryz.prog.cellsOf 233 = 1 := by kernel_rfl
@[simp] theorem b233 : Program.bytesOf' Tryz.prog 233 = some 8 := by kernel_rfl
@[simp] theorem z233 : Program.zeroOf Tryz.prog 233 = some .nilFunc := by kernel_rfl
@[simp] theorem i233 : (Tryz.prog.info? 233).isSome = true := by kernel_rfl
attribute [simp] Tryz.underlying233
@[simp] theorem c234 : Tryz.prog.cellsOf 234 = 1 := by kernel_rfl
@[simp] theorem b234 : Program.bytesOf' Tryz.prog 234 = some 8 := by kernel_rfl
@[simp] theorem z234 : Program.zeroOf Tryz.prog 234 = some .nilFunc := by kernel_rfl
@[simp] theorem i234 : (Tryz.prog.info? 234).isSome = true := by kernel_rfl
attribute [simp] Tryz.underlying234
@[simp] theorem c235 : Tryz.prog.cellsOf 235 = 1 := by kernel_rfl
@[simp] theorem b235 : Program.bytesOf' Tryz.prog 235 = some 8 := by kernel_rfl
@[simp] theorem z235 : Program.zeroOf Tryz.prog 235 = some .nilFunc := by kernel_rfl
@[simp] theorem i235 : (Tryz.prog.info? 235).isSome = true := by kernel_rfl
attribute [simp] Tryz.underlying235
@[simp] theorem c236 : Tryz.prog.cellsOf 236 = 1 := by kernel_rfl
@[simp] theorem b236 : Program.bytesOf' Tryz.prog 236 = some 8 := by kernel_rfl
@[simp] theorem z236 : Program.zeroOf Tryz.prog 236 = some .nilFunc := by kernel_rfl
@[simp] theorem i236 : (Tryz.prog.info? 236).isSome = true := by kernel_rfl
attribute [simp] Tryz.underlying236
@[simp] theorem c237 : Tryz.prog.cellsOf 237 = 1 := by kernel_rfl
@[simp] theorem b237 : Program.bytesOf' Tryz.prog 237 = some 8 := by kernel_rfl
@[simp] theorem z237 : Program.zeroOf Tryz.prog 237 = some .nilFunc := by kernel_rfl
@[simp] theorem i237 : (Tryz.prog.info? 237).isSome = true := by kernel_rfl
attribute [simp] Tryz.underlying237
@[simp] theorem c238 : Tryz.prog.cellsOf 238 = 1 := by kernel_rfl
@[simp] theorem b238 : Program.bytesOf' Tryz.prog 238 = some 8 := by kernel_rfl
@[simp] theorem z238 : Program.zeroOf Tryz.prog 238 = some .nilFunc := by kernel_rfl
@[simp] theorem i238 : (Tryz.prog.info? 238).isSome = true := by kernel_rfl
attribute [simp] Tryz.underlying238
@[simp] theorem c239 : Tryz.prog.cellsOf 239 = 1 := by kernel_rfl
@[simp] theorem b239 : Program.bytesOf' Tryz.prog 239 = some 8 := by kernel_rfl
@[simp] theorem z239 : Program.zeroOf Tryz.prog 239 = some .nilFunc := by kernel_rfl
@[simp] theorem i239 : (Tryz.prog.info? 239).isSome = true := by kernel_rfl
attribute [simp] Tryz.underlying239
@[simp] theorem c240 : Tryz.prog.cellsOf 240 = 1 := by kernel_rfl
@[simp] theorem b240 : Program.bytesOf' Tryz.prog 240 = some 8 := by kernel_rfl
@[simp] theorem z240 : Program.zeroOf Tryz.prog 240 = some .nilFunc := by kernel_rfl
@[simp] theorem i240 : (Tryz.prog.info? 240).isSome = true := by kernel_rfl
attribute [simp] Tryz.underlying240
@[simp] theorem c241 : Tryz.prog.cellsOf 241 = 1 := by kernel_rfl
@[simp] theorem b241 : Program.bytesOf' Tryz.prog 241 = some 8 := by kernel_rfl
@[simp] theorem z241 : Program.zeroOf Tryz.prog 241 = some .nilFunc := by kernel_rfl
@[simp] theorem i241 : (Tryz.prog.info? 241).isSome = true := by kernel_rfl
attribute [simp] Tryz.underlying241
@[simp] theorem c242 : Tryz.prog.cellsOf 242 = 1 := by kernel_rfl
@[simp] theorem b242 : Program.bytesOf' Tryz.prog 242 = some 8 := by kernel_rfl
@[simp] theorem z242 : Program.zeroOf Tryz.prog 242 = some .nilFunc := by kernel_rfl
@[simp] theorem i242 : (Tryz.prog.info? 242).isSome = true := by kernel_rfl
attribute [simp] Tryz.underlying242
@[simp] theorem c243 : Tryz.prog.cellsOf 243 = 1 := by kernel_rfl
@[simp] theorem b243 : Program.bytesOf' Tryz.prog 243 = some 8 := by kernel_rfl
@[simp] theorem z243 : Program.zeroOf Tryz.prog 243 = some .nilFunc := by kernel_rfl
@[simp] theorem i243 : (Tryz.prog.info? 243).isSome = true := by kernel_rfl
attribute [simp] Tryz.underlying243
@[simp] theorem c244 : Tryz.prog.cellsOf 244 = 4 := by kernel_rfl
@[simp] theorem b244 : Program.bytesOf' Tryz.prog 244 = some 40 := by kernel_rfl
@[simp] theorem z244 : Program.zeroOf Tryz.prog 244 = some (.agg #[(.pointer none), (.pointer none), (.pointer none), (.string ⟨#[]⟩)]) := by kernel_rfl
@[simp] theorem i244 : (Tryz.prog.info? 244).isSome = true := by kernel_rfl
attribute [simp] Tryz.underlying244
@[simp] theorem c245 : Tryz.prog.cellsOf 245 = 4 := by kernel_rfl
@[simp] theorem b245 : Program.bytesOf' Tryz.prog 245 = some 40 := by kernel_rfl
@[simp] theorem z245 : Program.zeroOf Tryz.prog 245 = some (.agg #[(.pointer none), (.pointer none), (.pointer none), (.string ⟨#[]⟩)]) := by kernel_rfl
@[simp] theorem i245 : (Tryz.prog.info? 245).isSome = true := by kernel_rfl
attribute [simp] Tryz.underlying245
@[simp] theorem c246 : Tryz.prog.cellsOf 246 = 0 := by kernel_rfl
@[simp] theorem b246 : Program.bytesOf' Tryz.prog 246 = some 0 := by kernel_rfl
@[simp] theorem z246 : Program.zeroOf Tryz.prog 246 = some (.agg #[]) := by kernel_rfl
@[simp] theorem i246 : (Tryz.prog.info? 246).isSome = true := by kernel_rfl
attribute [simp] Tryz.underlying246
@[simp] theorem c247 : Tryz.prog.cellsOf 247 = 0 := by kernel_rfl
@[simp] theorem b247 : Program.bytesOf' Tryz.prog 247 = some 0 := by kernel_rfl
@[simp] theorem z247 : Program.zeroOf Tryz.prog 247 = some (.agg #[]) := by kernel_rfl
@[simp] theorem i247 : (Tryz.prog.info? 247).isSome = true := by kernel_rfl
attribute [simp] Tryz.underlying247
@[simp] theorem c248 : Tryz.prog.cellsOf 248 = 0 := by kernel_rfl
@[simp] theorem b248 : Program.bytesOf' Tryz.prog 248 = some 0 := by kernel_rfl
@[simp] theorem z248 : Program.zeroOf Tryz.prog 248 = some (.agg #[]) := by kernel_rfl
@[simp] theorem i248 : (Tryz.prog.info? 248).isSome = true := by kernel_rfl
attribute [simp] Tryz.underlying248
@[simp] theorem c249 : Tryz.prog.cellsOf 249 = 1 := by kernel_rfl
@[simp] theorem b249 : Program.bytesOf' Tryz.prog 249 = some 1 := by kernel_rfl
@[simp] theorem z249 : Program.zeroOf Tryz.prog 249 = some (.int .u8 0) := by kernel_rfl
@[simp] theorem i249 : (Tryz.prog.info? 249).isSome = true := by kernel_rfl
attribute [simp] Tryz.underlying249
@[simp] theorem c250 : Tryz.prog.cellsOf 250 = 1 := by kernel_rfl
@[simp] theorem b250 : Program.bytesOf' Tryz.prog 250 = some 1 := by kernel_rfl
@[simp] theorem z250 : Program.zeroOf Tryz.prog 250 = some (.int .u8 0) := by kernel_rfl
@[simp] theorem i250 : (Tryz.prog.info? 250).isSome = true := by kernel_rfl
attribute [simp] Tryz.underlying250
@[simp] theorem c251 : Tryz.prog.cellsOf 251 = 1 := by kernel_rfl
@[simp] theorem b251 : Program.bytesOf' Tryz.prog 251 = some 8 := by kernel_rfl
@[simp] theorem z251 : Program.zeroOf Tryz.prog 251 = some .nilFunc := by kernel_rfl
@[simp] theorem i251 : (Tryz.prog.info? 251).isSome = true := by kernel_rfl
attribute [simp] Tryz.underlying251
@[simp] theorem c252 : Tryz.prog.cellsOf 252 = 1 := by kernel_rfl
@[simp] theorem b252 : Program.bytesOf' Tryz.prog 252 = some 8 := by kernel_rfl
@[simp] theorem z252 : Program.zeroOf Tryz.prog 252 = some (.pointer none) := by kernel_rfl
@[simp] theorem i252 : (Tryz.prog.info? 252).isSome = true := by kernel_rfl
attribute [simp] Tryz.underlying252
@[simp] theorem c253 : Tryz.prog.cellsOf 253 = 1 := by kernel_rfl
@[simp] theorem b253 : Program.bytesOf' Tryz.prog 253 = some 4 := by kernel_rfl
@[simp] theorem z253 : Program.zeroOf Tryz.prog 253 = some (.int .i32 0) := by kernel_rfl
@[simp] theorem i253 : (Tryz.prog.info? 253).isSome = true := by kernel_rfl
attribute [simp] Tryz.underlying253
@[simp] theorem c254 : Tryz.prog.cellsOf 254 = 1 := by kernel_rfl
@[simp] theorem b254 : Program.bytesOf' Tryz.prog 254 = some 4 := by kernel_rfl
@[simp] theorem z254 : Program.zeroOf Tryz.prog 254 = some (.int .i32 0) := by kernel_rfl
@[simp] theorem i254 : (Tryz.prog.info? 254).isSome = true := by kernel_rfl
attribute [simp] Tryz.underlying254
@[simp] theorem c255 : Tryz.prog.cellsOf 255 = 11 := by kernel_rfl
@[simp] theorem b255 : Program.bytesOf' Tryz.prog 255 = some 48 := by kernel_rfl
@[simp] theorem z255 : Program.zeroOf Tryz.prog 255 = some (.agg #[(.int .u64 0), (.int .u64 0), (.int .u32 0), (.int .u8 0), (.int .u8 0), (.int .u8 0), (.int .u8 0), .nilFunc, (.pointer none), (.int .i32 0), (.int .i32 0)]) := by kernel_rfl
@[simp] theorem i255 : (Tryz.prog.info? 255).isSome = true := by kernel_rfl
attribute [simp] Tryz.underlying255
@[simp] theorem c256 : Tryz.prog.cellsOf 256 = 11 := by kernel_rfl
@[simp] theorem b256 : Program.bytesOf' Tryz.prog 256 = some 48 := by kernel_rfl
@[simp] theorem z256 : Program.zeroOf Tryz.prog 256 = some (.agg #[(.int .u64 0), (.int .u64 0), (.int .u32 0), (.int .u8 0), (.int .u8 0), (.int .u8 0), (.int .u8 0), .nilFunc, (.pointer none), (.int .i32 0), (.int .i32 0)]) := by kernel_rfl
@[simp] theorem i256 : (Tryz.prog.info? 256).isSome = true := by kernel_rfl
attribute [simp] Tryz.underlying256
@[simp] theorem c257 : Tryz.prog.cellsOf 257 = 1 := by kernel_rfl
@[simp] theorem b257 : Program.bytesOf' Tryz.prog 257 = some 0 := by kernel_rfl
@[simp] theorem i257 : (Tryz.prog.info? 257).isSome = true := by kernel_rfl
attribute [simp] Tryz.underlying257
@[simp] theorem c258 : Tryz.prog.cellsOf 258 = 1 := by kernel_rfl
@[simp] theorem b258 : Program.bytesOf' Tryz.prog 258 = some 8 := by kernel_rfl
@[simp] theorem z258 : Program.zeroOf Tryz.prog 258 = some (.pointer none) := by kernel_rfl
@[simp] theorem i258 : (Tryz.prog.info? 258).isSome = true := by kernel_rfl
attribute [simp] Tryz.underlying258
theorem en2 : Enters Tryz.prog 2 := enters_of Tryz.func2 (by kernel_rfl) rfl
theorem en3 : Enters Tryz.prog 3 := enters_of Tryz.func3 (by kernel_rfl) rfl
theorem en4 : Enters Tryz.prog 4 := enters_of Tryz.func4 (by kernel_rfl) rfl
theorem en5 : Enters Tryz.prog 5 := enters_of Tryz.func5 (by kernel_rfl) rfl
theorem en6 : Enters Tryz.prog 6 := enters_of Tryz.func6 (by kernel_rfl) rfl
theorem en7 : Enters Tryz.prog 7 := enters_of Tryz.func7 (by kernel_rfl) rfl
theorem en8 : Enters Tryz.prog 8 := enters_of Tryz.func8 (by kernel_rfl) rfl
theorem en9 : Enters Tryz.prog 9 := enters_of Tryz.func9 (by kernel_rfl) rfl
theorem en10 : Enters Tryz.prog 10 := enters_of Tryz.func10 (by kernel_rfl) rfl
theorem en11 : Enters Tryz.prog 11 := enters_of Tryz.func11 (by kernel_rfl) rfl
theorem en12 : Enters Tryz.prog 12 := enters_of Tryz.func12 (by kernel_rfl) rfl
theorem en13 : Enters Tryz.prog 13 := enters_of Tryz.func13 (by kernel_rfl) rfl
theorem en14 : Enters Tryz.prog 14 := enters_of Tryz.func14 (by kernel_rfl) rfl
theorem en15 : Enters Tryz.prog 15 := enters_of Tryz.func15 (by kernel_rfl) rfl
theorem en16 : Enters Tryz.prog 16 := enters_of Tryz.func16 (by kernel_rfl) rfl
theorem en17 : Enters Tryz.prog 17 := enters_of Tryz.func17 (by kernel_rfl) rfl
theorem en18 : Enters Tryz.prog 18 := enters_of Tryz.func18 (by kernel_rfl) rfl
theorem en19 : Enters Tryz.prog 19 := enters_of Tryz.func19 (by kernel_rfl) rfl
theorem en20 : Enters Tryz.prog 20 := enters_of Tryz.func20 (by kernel_rfl) rfl
theorem en21 : Enters Tryz.prog 21 := enters_of Tryz.func21 (by kernel_rfl) rfl
theorem en22 : Enters Tryz.prog 22 := enters_of Tryz.func22 (by kernel_rfl) rfl
theorem en23 : Enters Tryz.prog 23 := enters_of Tryz.func23 (by kernel_rfl) rfl
theorem en24 : Enters Tryz.prog 24 := enters_of Tryz.func24 (by kernel_rfl) rfl
theorem en25 : Enters Tryz.prog 25 := enters_of Tryz.func25 (by kernel_rfl) rfl
theorem en26 : Enters Tryz.prog 26 := enters_of Tryz.func26 (by kernel_rfl) rfl
theorem en27 : Enters Tryz.prog 27 := enters_of Tryz.func27 (by kernel_rfl) rfl
theorem en28 : Enters Tryz.prog 28 := enters_of Tryz.func28 (by kernel_rfl) rfl
theorem en29 : Enters Tryz.prog 29 := enters_of Tryz.func29 (by kernel_rfl) rfl
theorem en30 : Enters Tryz.prog 30 := enters_of Tryz.func30 (by kernel_rfl) rfl
theorem en31 : Enters Tryz.prog 31 := enters_of Tryz.func31 (by kernel_rfl) rfl
theorem en32 : Enters Tryz.prog 32 := enters_of Tryz.func32 (by kernel_rfl) rfl
theorem en33 : Enters Tryz.prog 33 := enters_of Tryz.func33 (by kernel_rfl) rfl
theorem en34 : Enters Tryz.prog 34 := enters_of Tryz.func34 (by kernel_rfl) rfl
theorem en35 : Enters Tryz.prog 35 := enters_of Tryz.func35 (by kernel_rfl) rfl
theorem en36 : Enters Tryz.prog 36 := enters_of Tryz.func36 (by kernel_rfl) rfl
theorem en37 : Enters Tryz.prog 37 := enters_of Tryz.func37 (by kernel_rfl) rfl
theorem en38 : Enters Tryz.prog 38 := enters_of Tryz.func38 (by kernel_rfl) rfl
theorem en39 : Enters Tryz.prog 39 := enters_of Tryz.func39 (by kernel_rfl) rfl
theorem en40 : Enters Tryz.prog 40 := enters_of Tryz.func40 (by kernel_rfl) rfl
theorem en41 : Enters Tryz.prog 41 := enters_of Tryz.func41 (by kernel_rfl) rfl
theorem en42 : Enters Tryz.prog 42 := enters_of Tryz.func42 (by kernel_rfl) rfl
theorem en43 : Enters Tryz.prog 43 := enters_of Tryz.func43 (by kernel_rfl) rfl
theorem en44 : Enters Tryz.prog 44 := enters_of Tryz.func44 (by kernel_rfl) rfl
theorem en45 : Enters Tryz.prog 45 := enters_of Tryz.func45 (by kernel_rfl) rfl
theorem en46 : Enters Tryz.prog 46 := enters_of Tryz.func46 (by kernel_rfl) rfl
theorem en47 : Enters Tryz.prog 47 := enters_of Tryz.func47 (by kernel_rfl) rfl
theorem en48 : Enters Tryz.prog 48 := enters_of Tryz.func48 (by kernel_rfl) rfl
theorem en49 : Enters Tryz.prog 49 := enters_of Tryz.func49 (by kernel_rfl) rfl
theorem en50 : Enters Tryz.prog 50 := enters_of Tryz.func50 (by kernel_rfl) rfl
theorem en51 : Enters Tryz.prog 51 := enters_of Tryz.func51 (by kernel_rfl) rfl
theorem en52 : Enters Tryz.prog 52 := enters_of Tryz.func52 (by kernel_rfl) rfl
theorem en53 : Enters Tryz.prog 53 := enters_of Tryz.func53 (by kernel_rfl) rfl
theorem en54 : Enters Tryz.prog 54 := enters_of Tryz.func54 (by kernel_rfl) rfl
theorem en55 : Enters Tryz.prog 55 := enters_of Tryz.func55 (by kernel_rfl) rfl
theorem en56 : Enters Tryz.prog 56 := enters_of Tryz.func56 (by kernel_rfl) rfl
theorem en57 : Enters Tryz.prog 57 := enters_of Tryz.func57 (by kernel_rfl) rfl
theorem en58 : Enters Tryz.prog 58 := enters_of Tryz.func58 (by kernel_rfl) rfl
theorem en59 : Enters Tryz.prog 59 := enters_of Tryz.func59 (by kernel_rfl) rfl
theorem en60 : Enters Tryz.prog 60 := enters_of Tryz.func60 (by kernel_rfl) rfl
theorem en61 : Enters Tryz.prog 61 := enters_of Tryz.func61 (by kernel_rfl) rfl
theorem en62 : Enters Tryz.prog 62 := enters_of Tryz.func62 (by kernel_rfl) rfl
theorem en63 : Enters Tryz.prog 63 := enters_of Tryz.func63 (by kernel_rfl) rfl
theorem en64 : Enters Tryz.prog 64 := enters_of Tryz.func64 (by kernel_rfl) rfl
theorem en65 : Enters Tryz.prog 65 := enters_of Tryz.func65 (by kernel_rfl) rfl
theorem en66 : Enters Tryz.prog 66 := enters_of Tryz.func66 (by kernel_rfl) rfl
theorem en67 : Enters Tryz.prog 67 := enters_of Tryz.func67 (by kernel_rfl) rfl
theorem en68 : Enters Tryz.prog 68 := enters_of Tryz.func68 (by kernel_rfl) rfl
theorem en69 : Enters Tryz.prog 69 := enters_of Tryz.func69 (by kernel_rfl) rfl
theorem en70 : Enters Tryz.prog 70 := enters_of Tryz.func70 (by kernel_rfl) rfl
theorem en71 : Enters Tryz.prog 71 := enters_of Tryz.func71 (by kernel_rfl) rfl
theorem en72 : Enters Tryz.prog 72 := enters_of Tryz.func72 (by kernel_rfl) rfl
theorem en73 : Enters Tryz.prog 73 := enters_of Tryz.func73 (by kernel_rfl) rfl
theorem en74 : Enters Tryz.prog 74 := enters_of Tryz.func74 (by kernel_rfl) rfl
theorem en75 : Enters Tryz.prog 75 := enters_of Tryz.func75 (by kernel_rfl) rfl
theorem en76 : Enters Tryz.prog 76 := enters_of Tryz.func76 (by kernel_rfl) rfl
theorem en77 : Enters Tryz.prog 77 := enters_of Tryz.func77 (by kernel_rfl) rfl
theorem en78 : Enters Tryz.prog 78 := enters_of Tryz.func78 (by kernel_rfl) rfl
theorem en79 : Enters Tryz.prog 79 := enters_of Tryz.func79 (by kernel_rfl) rfl
theorem en81 : Enters Tryz.prog 81 := enters_of Tryz.func81 (by kernel_rfl) rfl
theorem en82 : Enters Tryz.prog 82 := enters_of Tryz.func82 (by kernel_rfl) rfl
theorem en83 : Enters Tryz.prog 83 := enters_of Tryz.func83 (by kernel_rfl) rfl
theorem en84 : Enters Tryz.prog 84 := enters_of Tryz.func84 (by kernel_rfl) rfl
theorem en85 : Enters Tryz.prog 85 := enters_of Tryz.func85 (by kernel_rfl) rfl
theorem en86 : Enters Tryz.prog 86 := enters_of Tryz.func86 (by kernel_rfl) rfl
theorem en87 : Enters Tryz.prog 87 := enters_of Tryz.func87 (by kernel_rfl) rfl
theorem en88 : Enters Tryz.prog 88 := enters_of Tryz.func88 (by kernel_rfl) rfl
theorem en89 : Enters Tryz.prog 89 := enters_of Tryz.func89 (by kernel_rfl) rfl
theorem en90 : Enters Tryz.prog 90 := enters_of Tryz.func90 (by kernel_rfl) rfl
theorem en91 : Enters Tryz.prog 91 := enters_of Tryz.func91 (by kernel_rfl) rfl
theorem en92 : Enters Tryz.prog 92 := enters_of Tryz.func92 (by kernel_rfl) rfl
theorem en93 : Enters Tryz.prog 93 := enters_of Tryz.func93 (by kernel_rfl) rfl
theorem en94 : Enters Tryz.prog 94 := enters_of Tryz.func94 (by kernel_rfl) rfl
theorem en95 : Enters Tryz.prog 95 := enters_of Tryz.func95 (by kernel_rfl) rfl
theorem en96 : Enters Tryz.prog 96 := enters_of Tryz.func96 (by kernel_rfl) rfl
theorem en97 : Enters Tryz.prog 97 := enters_of Tryz.func97 (by kernel_rfl) rfl
theorem en98 : Enters Tryz.prog 98 := enters_of Tryz.func98 (by kernel_rfl) rfl
theorem en99 : Enters Tryz.prog 99 := enters_of Tryz.func99 (by kernel_rfl) rfl
theorem en100 : Enters Tryz.prog 100 := enters_of Tryz.func100 (by kernel_rfl) rfl
theorem en101 : Enters Tryz.prog 101 := enters_of Tryz.func101 (by kernel_rfl) rfl
theorem en102 : Enters Tryz.prog 102 := enters_of Tryz.func102 (by kernel_rfl) rfl
theorem en103 : Enters Tryz.prog 103 := enters_of Tryz.func103 (by kernel_rfl) rfl
theorem en104 : Enters Tryz.prog 104 := enters_of Tryz.func104 (by kernel_rfl) rfl
theorem en105 : Enters Tryz.prog 105 := enters_of Tryz.func105 (by kernel_rfl) rfl
theorem en106 : Enters Tryz.prog 106 := enters_of Tryz.func106 (by kernel_rfl) rfl
theorem en107 : Enters Tryz.prog 107 := enters_of Tryz.func107 (by kernel_rfl) rfl
theorem en108 : Enters Tryz.prog 108 := enters_of Tryz.func108 (by kernel_rfl) rfl
theorem en109 : Enters Tryz.prog 109 := enters_of Tryz.func109 (by kernel_rfl) rfl
theorem en110 : Enters Tryz.prog 110 := enters_of Tryz.func110 (by kernel_rfl) rfl
theorem en111 : Enters Tryz.prog 111 := enters_of Tryz.func111 (by kernel_rfl) rfl
theorem en112 : Enters Tryz.prog 112 := enters_of Tryz.func112 (by kernel_rfl) rfl
theorem en113 : Enters Tryz.prog 113 := enters_of Tryz.func113 (by kernel_rfl) rfl
theorem en114 : Enters Tryz.prog 114 := enters_of Tryz.func114 (by kernel_rfl) rfl
theorem en115 : Enters Tryz.prog 115 := enters_of Tryz.func115 (by kernel_rfl) rfl
theorem en116 : Enters Tryz.prog 116 := enters_of Tryz.func116 (by kernel_rfl) rfl
theorem en117 : Enters Tryz.prog 117 := enters_of Tryz.func117 (by kernel_rfl) rfl
theorem en118 : Enters Tryz.prog 118 := enters_of Tryz.func118 (by kernel_rfl) rfl
theorem en119 : Enters Tryz.prog 119 := enters_of Tryz.func119 (by kernel_rfl) rfl
theorem en120 : Enters Tryz.prog 120 := enters_of Tryz.func120 (by kernel_rfl) rfl
theorem en121 : Enters Tryz.prog 121 := enters_of Tryz.func121 (by kernel_rfl) rfl
theorem en122 : Enters Tryz.prog 122 := enters_of Tryz.func122 (by kernel_rfl) rfl
theorem en123 : Enters Tryz.prog 123 := enters_of Tryz.func123 (by kernel_rfl) rfl
theorem en124 : Enters Tryz.prog 124 := enters_of Tryz.func124 (by kernel_rfl) rfl
theorem en125 : Enters Tryz.prog 125 := enters_of Tryz.func125 (by kernel_rfl) rfl
theorem en126 : Enters Tryz.prog 126 := enters_of Tryz.func126 (by kernel_rfl) rfl
theorem en127 : Enters Tryz.prog 127 := enters_of Tryz.func127 (by kernel_rfl) rfl
theorem en128 : Enters Tryz.prog 128 := enters_of Tryz.func128 (by kernel_rfl) rfl
theorem en129 : Enters Tryz.prog 129 := enters_of Tryz.func129 (by kernel_rfl) rfl
theorem en130 : Enters Tryz.prog 130 := enters_of Tryz.func130 (by kernel_rfl) rfl
theorem en131 : Enters Tryz.prog 131 := enters_of Tryz.func131 (by kernel_rfl) rfl
theorem en132 : Enters Tryz.prog 132 := enters_of Tryz.func132 (by kernel_rfl) rfl
theorem en133 : Enters Tryz.prog 133 := enters_of Tryz.func133 (by kernel_rfl) rfl
theorem en134 : Enters Tryz.prog 134 := enters_of Tryz.func134 (by kernel_rfl) rfl
theorem en135 : Enters Tryz.prog 135 := enters_of Tryz.func135 (by kernel_rfl) rfl
theorem en136 : Enters Tryz.prog 136 := enters_of Tryz.func136 (by kernel_rfl) rfl
theorem en137 : Enters Tryz.prog 137 := enters_of Tryz.func137 (by kernel_rfl) rfl
theorem en138 : Enters Tryz.prog 138 := enters_of Tryz.func138 (by kernel_rfl) rfl
theorem en139 : Enters Tryz.prog 139 := enters_of Tryz.func139 (by kernel_rfl) rfl
theorem en140 : Enters Tryz.prog 140 := enters_of Tryz.func140 (by kernel_rfl) rfl
theorem en141 : Enters Tryz.prog 141 := enters_of Tryz.func141 (by kernel_rfl) rfl
theorem en142 : Enters Tryz.prog 142 := enters_of Tryz.func142 (by kernel_rfl) rfl
theorem en143 : Enters Tryz.prog 143 := enters_of Tryz.func143 (by kernel_rfl) rfl
theorem en144 : Enters Tryz.prog 144 := enters_of Tryz.func144 (by kernel_rfl) rfl
theorem en145 : Enters Tryz.prog 145 := enters_of Tryz.func145 (by kernel_rfl) rfl
theorem en146 : Enters Tryz.prog 146 := enters_of Tryz.func146 (by kernel_rfl) rfl
theorem en147 : Enters Tryz.prog 147 := enters_of Tryz.func147 (by kernel_rfl) rfl
theorem en148 : Enters Tryz.prog 148 := enters_of Tryz.func148 (by kernel_rfl) rfl
theorem en149 : Enters Tryz.prog 149 := enters_of Tryz.func149 (by kernel_rfl) rfl
theorem en150 : Enters Tryz.prog 150 := enters_of Tryz.func150 (by kernel_rfl) rfl
theorem en151 : Enters Tryz.prog 151 := enters_of Tryz.func151 (by kernel_rfl) rfl
theorem en152 : Enters Tryz.prog 152 := enters_of Tryz.func152 (by kernel_rfl) rfl
theorem en153 : Enters Tryz.prog 153 := enters_of Tryz.func153 (by kernel_rfl) rfl
theorem en154 : Enters Tryz.prog 154 := enters_of Tryz.func154 (by kernel_rfl) rfl
theorem en155 : Enters Tryz.prog 155 := enters_of Tryz.func155 (by kernel_rfl) rfl
theorem en156 : Enters Tryz.prog 156 := enters_of Tryz.func156 (by kernel_rfl) rfl
theorem en157 : Enters Tryz.prog 157 := enters_of Tryz.func157 (by kernel_rfl) rfl
theorem en158 : Enters Tryz.prog 158 := enters_of Tryz.func158 (by kernel_rfl) rfl
theorem en159 : Enters Tryz.prog 159 := enters_of Tryz.func159 (by kernel_rfl) rfl
theorem en160 : Enters Tryz.prog 160 := enters_of Tryz.func160 (by kernel_rfl) rfl
theorem en161 : Enters Tryz.prog 161 := enters_of Tryz.func161 (by kernel_rfl) rfl
theorem en162 : Enters Tryz.prog 162 := enters_of Tryz.func162 (by kernel_rfl) rfl
theorem en163 : Enters Tryz.prog 163 := enters_of Tryz.func163 (by kernel_rfl) rfl
theorem en164 : Enters Tryz.prog 164 := enters_of Tryz.func164 (by kernel_rfl) rfl
theorem en165 : Enters Tryz.prog 165 := enters_of Tryz.func165 (by kernel_rfl) rfl
theorem en166 : Enters Tryz.prog 166 := enters_of Tryz.func166 (by kernel_rfl) rfl
theorem en167 : Enters Tryz.prog 167 := enters_of Tryz.func167 (by kernel_rfl) rfl
theorem en168 : Enters Tryz.prog 168 := enters_of Tryz.func168 (by kernel_rfl) rfl
theorem en169 : Enters Tryz.prog 169 := enters_of Tryz.func169 (by kernel_rfl) rfl
theorem en170 : Enters Tryz.prog 170 := enters_of Tryz.func170 (by kernel_rfl) rfl
theorem en171 : Enters Tryz.prog 171 := enters_of Tryz.func171 (by kernel_rfl) rfl
theorem en172 : Enters Tryz.prog 172 := enters_of Tryz.func172 (by kernel_rfl) rfl
theorem en173 : Enters Tryz.prog 173 := enters_of Tryz.func173 (by kernel_rfl) rfl
theorem en174 : Enters Tryz.prog 174 := enters_of Tryz.func174 (by kernel_rfl) rfl
theorem en175 : Enters Tryz.prog 175 := enters_of Tryz.func175 (by kernel_rfl) rfl
theorem en176 : Enters Tryz.prog 176 := enters_of Tryz.func176 (by kernel_rfl) rfl
theorem en194 : Enters Tryz.prog 194 := enters_of Tryz.func194 (by kernel_rfl) rfl
theorem en195 : Enters Tryz.prog 195 := enters_of Tryz.func195 (by kernel_rfl) rfl
theorem en196 : Enters Tryz.prog 196 := enters_of Tryz.func196 (by kernel_rfl) rfl
theorem en197 : Enters Tryz.prog 197 := enters_of Tryz.func197 (by kernel_rfl) rfl
theorem en198 : Enters Tryz.prog 198 := enters_of Tryz.func198 (by kernel_rfl) rfl
theorem en199 : Enters Tryz.prog 199 := enters_of Tryz.func199 (by kernel_rfl) rfl
end Go.Proofs.YtafcjklojnhbnaaGreat.Pv
