/- The closed facts on the types and functions of this translation that the walks rewrite with. Written by a program of the prover. -/
import Derived.Test.YtpifkibgplnnkaaGs
import Derived.Test.YtpifkibgplnnkaaRows
namespace Go.Proofs.Ytpifkibgplnnkaa.Pv
open Go
theorem mixed : Try.prog.follows .mixedOrders = true := by kernel_rfl
@[simp] theorem c0 : Try.prog.cellsOf 0 = 1 := by kernel_rfl
@[simp] theorem b0 : Program.bytesOf' Try.prog 0 = some 0 := by kernel_rfl
@[simp] theorem i0 : (Try.prog.info? 0).isSome = true := by kernel_rfl
attribute [simp] Try.underlying0
@[simp] theorem c1 : Try.prog.cellsOf 1 = 1 := by kernel_rfl
@[simp] theorem b1 : Program.bytesOf' Try.prog 1 = some 8 := by kernel_rfl
@[simp] theorem z1 : Program.zeroOf Try.prog 1 = some .nilFunc := by kernel_rfl
@[simp] theorem i1 : (Try.prog.info? 1).isSome = true := by kernel_rfl
attribute [simp] Try.underlying1
@[simp] theorem c2 : Try.prog.cellsOf 2 = 1 := by kernel_rfl
@[simp] theorem b2 : Program.bytesOf' Try.prog 2 = some 8 := by kernel_rfl
@[simp] theorem z2 : Program.zeroOf Try.prog 2 = some (.int .i64 0) := by kernel_rfl
@[simp] theorem i2 : (Try.prog.info? 2).isSome = true := by kernel_rfl
attribute [simp] Try.underlying2
@[simp] theorem c3 : Try.prog.cellsOf 3 = 1 := by kernel_rfl
@[simp] theorem b3 : Program.bytesOf' Try.prog 3 = some 8 := by kernel_rfl
@[simp] theorem z3 : Program.zeroOf Try.prog 3 = some (.int .i64 0) := by kernel_rfl
@[simp] theorem i3 : (Try.prog.info? 3).isSome = true := by kernel_rfl
attribute [simp] Try.underlying3
@[simp] theorem c4 : Try.prog.cellsOf 4 = 1 := by kernel_rfl
@[simp] theorem b4 : Program.bytesOf' Try.prog 4 = some 1 := by kernel_rfl
@[simp] theorem z4 : Program.zeroOf Try.prog 4 = some (.bool false) := by kernel_rfl
@[simp] theorem i4 : (Try.prog.info? 4).isSome = true := by kernel_rfl
attribute [simp] Try.underlying4
@[simp] theorem c5 : Try.prog.cellsOf 5 = 1 := by kernel_rfl
@[simp] theorem b5 : Program.bytesOf' Try.prog 5 = some 1 := by kernel_rfl
@[simp] theorem z5 : Program.zeroOf Try.prog 5 = some (.int .u8 0) := by kernel_rfl
@[simp] theorem i5 : (Try.prog.info? 5).isSome = true := by kernel_rfl
attribute [simp] Try.underlying5
@[simp] theorem c6 : Try.prog.cellsOf 6 = 1 := by kernel_rfl
@[simp] theorem b6 : Program.bytesOf' Try.prog 6 = some 1 := by kernel_rfl
@[simp] theorem z6 : Program.zeroOf Try.prog 6 = some (.int .u8 0) := by kernel_rfl
@[simp] theorem i6 : (Try.prog.info? 6).isSome = true := by kernel_rfl
attribute [simp] Try.underlying6
@[simp] theorem c7 : Try.prog.cellsOf 7 = 4 := by kernel_rfl
@[simp] theorem b7 : Program.bytesOf' Try.prog 7 = some 24 := by kernel_rfl
@[simp] theorem q7 : eqOkP Try.prog 7 = true := by kernel_rfl
@[simp] theorem z7 : Program.zeroOf Try.prog 7 = some (.agg #[(.int .i64 0), (.int .i64 0), (.bool false), (.int .u8 0)]) := by kernel_rfl
@[simp] theorem i7 : (Try.prog.info? 7).isSome = true := by kernel_rfl
attribute [simp] Try.underlying7
@[simp] theorem c8 : Try.prog.cellsOf 8 = 4 := by kernel_rfl
@[simp] theorem b8 : Program.bytesOf' Try.prog 8 = some 24 := by kernel_rfl
@[simp] theorem q8 : eqOkP Try.prog 8 = true := by kernel_rfl
@[simp] theorem z8 : Program.zeroOf Try.prog 8 = some (.agg #[(.int .i64 0), (.int .i64 0), (.bool false), (.int .u8 0)]) := by kernel_rfl
@[simp] theorem i8 : (Try.prog.info? 8).isSome = true := by kernel_rfl
attribute [simp] Try.underlying8
@[simp] theorem c9 : Try.prog.cellsOf 9 = 1 := by kernel_rfl
@[simp] theorem b9 : Program.bytesOf' Try.prog 9 = some 16 := by kernel_rfl
@[simp] theorem z9 : Program.zeroOf Try.prog 9 = some (.string ⟨#[]⟩) := by kernel_rfl
@[simp] theorem i9 : (Try.prog.info? 9).isSome = true := by kernel_rfl
attribute [simp] Try.underlying9
@[simp] theorem c10 : Try.prog.cellsOf 10 = 1 := by kernel_rfl
@[simp] theorem b10 : Program.bytesOf' Try.prog 10 = some 16 := by kernel_rfl
@[simp] theorem z10 : Program.zeroOf Try.prog 10 = some (.string ⟨#[]⟩) := by kernel_rfl
@[simp] theorem i10 : (Try.prog.info? 10).isSome = true := by kernel_rfl
attribute [simp] Try.underlying10
@[simp] theorem c11 : Try.prog.cellsOf 11 = 1 := by kernel_rfl
@[simp] theorem b11 : Program.bytesOf' Try.prog 11 = some 16 := by kernel_rfl
@[simp] theorem z11 : Program.zeroOf Try.prog 11 = some (.string ⟨#[]⟩) := by kernel_rfl
@[simp] theorem i11 : (Try.prog.info? 11).isSome = true := by kernel_rfl
attribute [simp] Try.underlying11
@[simp] theorem c12 : Try.prog.cellsOf 12 = 1 := by kernel_rfl
@[simp] theorem b12 : Program.bytesOf' Try.prog 12 = some 8 := by kernel_rfl
@[simp] theorem z12 : Program.zeroOf Try.prog 12 = some (.int .u64 0) := by kernel_rfl
@[simp] theorem i12 : (Try.prog.info? 12).isSome = true := by kernel_rfl
attribute [simp] Try.underlying12
@[simp] theorem c13 : Try.prog.cellsOf 13 = 2 := by kernel_rfl
@[simp] theorem b13 : Program.bytesOf' Try.prog 13 = some 24 := by kernel_rfl
@[simp] theorem z13 : Program.zeroOf Try.prog 13 = some (.agg #[(.string ⟨#[]⟩), (.int .u64 0)]) := by kernel_rfl
@[simp] theorem i13 : (Try.prog.info? 13).isSome = true := by kernel_rfl
attribute [simp] Try.underlying13
@[simp] theorem c14 : Try.prog.cellsOf 14 = 2 := by kernel_rfl
@[simp] theorem b14 : Program.bytesOf' Try.prog 14 = some 24 := by kernel_rfl
@[simp] theorem z14 : Program.zeroOf Try.prog 14 = some (.agg #[(.string ⟨#[]⟩), (.int .u64 0)]) := by kernel_rfl
@[simp] theorem i14 : (Try.prog.info? 14).isSome = true := by kernel_rfl
attribute [simp] Try.underlying14
@[simp] theorem c15 : Try.prog.cellsOf 15 = 1 := by kernel_rfl
@[simp] theorem b15 : Program.bytesOf' Try.prog 15 = some 8 := by kernel_rfl
@[simp] theorem z15 : Program.zeroOf Try.prog 15 = some (.pointer none) := by kernel_rfl
@[simp] theorem i15 : (Try.prog.info? 15).isSome = true := by kernel_rfl
attribute [simp] Try.underlying15
@[simp] theorem c16 : Try.prog.cellsOf 16 = 1 := by kernel_rfl
@[simp] theorem b16 : Program.bytesOf' Try.prog 16 = some 8 := by kernel_rfl
@[simp] theorem z16 : Program.zeroOf Try.prog 16 = some (.pointer none) := by kernel_rfl
@[simp] theorem i16 : (Try.prog.info? 16).isSome = true := by kernel_rfl
attribute [simp] Try.underlying16
@[simp] theorem c17 : Try.prog.cellsOf 17 = 1 := by kernel_rfl
@[simp] theorem b17 : Program.bytesOf' Try.prog 17 = some 8 := by kernel_rfl
@[simp] theorem z17 : Program.zeroOf Try.prog 17 = some (.pointer none) := by kernel_rfl
@[simp] theorem i17 : (Try.prog.info? 17).isSome = true := by kernel_rfl
attribute [simp] Try.underlying17
@[simp] theorem c18 : Try.prog.cellsOf 18 = 1 := by kernel_rfl
@[simp] theorem b18 : Program.bytesOf' Try.prog 18 = some 8 := by kernel_rfl
@[simp] theorem z18 : Program.zeroOf Try.prog 18 = some (.agg #[(.pointer none)]) := by kernel_rfl
@[simp] theorem i18 : (Try.prog.info? 18).isSome = true := by kernel_rfl
attribute [simp] Try.underlying18
@[simp] theorem c19 : Try.prog.cellsOf 19 = 1 := by kernel_rfl
@[simp] theorem b19 : Program.bytesOf' Try.prog 19 = some 8 := by kernel_rfl
@[simp] theorem z19 : Program.zeroOf Try.prog 19 = some (.agg #[(.pointer none)]) := by kernel_rfl
@[simp] theorem i19 : (Try.prog.info? 19).isSome = true := by kernel_rfl
attribute [simp] Try.underlying19
@[simp] theorem c20 : Try.prog.cellsOf 20 = 1 := by kernel_rfl
@[simp] theorem b20 : Program.bytesOf' Try.prog 20 = some 16 := by kernel_rfl
@[simp] theorem z20 : Program.zeroOf Try.prog 20 = some .nilIface := by kernel_rfl
@[simp] theorem i20 : (Try.prog.info? 20).isSome = true := by kernel_rfl
attribute [simp] Try.underlying20
@[simp] theorem c21 : Try.prog.cellsOf 21 = 1 := by kernel_rfl
@[simp] theorem b21 : Program.bytesOf' Try.prog 21 = some 4 := by kernel_rfl
@[simp] theorem z21 : Program.zeroOf Try.prog 21 = some (.int .i32 0) := by kernel_rfl
@[simp] theorem i21 : (Try.prog.info? 21).isSome = true := by kernel_rfl
attribute [simp] Try.underlying21
@[simp] theorem c22 : Try.prog.cellsOf 22 = 1 := by kernel_rfl
@[simp] theorem b22 : Program.bytesOf' Try.prog 22 = some 24 := by kernel_rfl
@[simp] theorem z22 : Program.zeroOf Try.prog 22 = some (.slice none 0 0) := by kernel_rfl
@[simp] theorem i22 : (Try.prog.info? 22).isSome = true := by kernel_rfl
attribute [simp] Try.underlying22
@[simp] theorem c23 : Try.prog.cellsOf 23 = 1 := by kernel_rfl
@[simp] theorem b23 : Program.bytesOf' Try.prog 23 = some 8 := by kernel_rfl
@[simp] theorem z23 : Program.zeroOf Try.prog 23 = some .nilFunc := by kernel_rfl
@[simp] theorem i23 : (Try.prog.info? 23).isSome = true := by kernel_rfl
attribute [simp] Try.underlying23
@[simp] theorem c24 : Try.prog.cellsOf 24 = 1 := by kernel_rfl
@[simp] theorem b24 : Program.bytesOf' Try.prog 24 = some 8 := by kernel_rfl
@[simp] theorem z24 : Program.zeroOf Try.prog 24 = some .nilFunc := by kernel_rfl
@[simp] theorem i24 : (Try.prog.info? 24).isSome = true := by kernel_rfl
attribute [simp] Try.underlying24
@[simp] theorem c25 : Try.prog.cellsOf 25 = 1 := by kernel_rfl
@[simp] theorem b25 : Program.bytesOf' Try.prog 25 = some 8 := by kernel_rfl
@[simp] theorem z25 : Program.zeroOf Try.prog 25 = some .nilFunc := by kernel_rfl
@[simp] theorem i25 : (Try.prog.info? 25).isSome = true := by kernel_rfl
attribute [simp] Try.underlying25
@[simp] theorem c26 : Try.prog.cellsOf 26 = 1 := by kernel_rfl
@[simp] theorem b26 : Program.bytesOf' Try.prog 26 = some 8 := by kernel_rfl
@[simp] theorem z26 : Program.zeroOf Try.prog 26 = some .nilFunc := by kernel_rfl
@[simp] theorem i26 : (Try.prog.info? 26).isSome = true := by kernel_rfl
attribute [simp] Try.underlying26
@[simp] theorem c27 : Try.prog.cellsOf 27 = 1 := by kernel_rfl
@[simp] theorem b27 : Program.bytesOf' Try.prog 27 = some 24 := by kernel_rfl
@[simp] theorem z27 : Program.zeroOf Try.prog 27 = some (.slice none 0 0) := by kernel_rfl
@[simp] theorem i27 : (Try.prog.info? 27).isSome = true := by kernel_rfl
attribute [simp] Try.underlying27
@[simp] theorem c28 : Try.prog.cellsOf 28 = 1 := by kernel_rfl
@[simp] theorem b28 : Program.bytesOf' Try.prog 28 = some 24 := by kernel_rfl
@[simp] theorem z28 : Program.zeroOf Try.prog 28 = some (.slice none 0 0) := by kernel_rfl
@[simp] theorem i28 : (Try.prog.info? 28).isSome = true := by kernel_rfl
attribute [simp] Try.underlying28
@[simp] theorem c29 : Try.prog.cellsOf 29 = 1 := by kernel_rfl
@[simp] theorem b29 : Program.bytesOf' Try.prog 29 = some 24 := by kernel_rfl
@[simp] theorem z29 : Program.zeroOf Try.prog 29 = some (.slice none 0 0) := by kernel_rfl
@[simp] theorem i29 : (Try.prog.info? 29).isSome = true := by kernel_rfl
attribute [simp] Try.underlying29
@[simp] theorem c30 : Try.prog.cellsOf 30 = 6 := by kernel_rfl
@[simp] theorem b30 : Program.bytesOf' Try.prog 30 = some 80 := by kernel_rfl
@[simp] theorem z30 : Program.zeroOf Try.prog 30 = some (.agg #[(.int .i64 0), (.int .i64 0), (.int .i64 0), (.int .i64 0), (.slice none 0 0), (.slice none 0 0)]) := by kernel_rfl
@[simp] theorem i30 : (Try.prog.info? 30).isSome = true := by kernel_rfl
attribute [simp] Try.underlying30
@[simp] theorem c31 : Try.prog.cellsOf 31 = 6 := by kernel_rfl
@[simp] theorem b31 : Program.bytesOf' Try.prog 31 = some 80 := by kernel_rfl
@[simp] theorem z31 : Program.zeroOf Try.prog 31 = some (.agg #[(.int .i64 0), (.int .i64 0), (.int .i64 0), (.int .i64 0), (.slice none 0 0), (.slice none 0 0)]) := by kernel_rfl
@[simp] theorem i31 : (Try.prog.info? 31).isSome = true := by kernel_rfl
attribute [simp] Try.underlying31
@[simp] theorem c32 : Try.prog.cellsOf 32 = 1 := by kernel_rfl
@[simp] theorem b32 : Program.bytesOf' Try.prog 32 = some 24 := by kernel_rfl
@[simp] theorem z32 : Program.zeroOf Try.prog 32 = some (.slice none 0 0) := by kernel_rfl
@[simp] theorem i32 : (Try.prog.info? 32).isSome = true := by kernel_rfl
attribute [simp] Try.underlying32
@[simp] theorem c33 : Try.prog.cellsOf 33 = 1 := by kernel_rfl
@[simp] theorem b33 : Program.bytesOf' Try.prog 33 = some 8 := by kernel_rfl
@[simp] theorem z33 : Program.zeroOf Try.prog 33 = some .nilFunc := by kernel_rfl
@[simp] theorem i33 : (Try.prog.info? 33).isSome = true := by kernel_rfl
attribute [simp] Try.underlying33
@[simp] theorem c34 : Try.prog.cellsOf 34 = 1 := by kernel_rfl
@[simp] theorem b34 : Program.bytesOf' Try.prog 34 = some 8 := by kernel_rfl
@[simp] theorem z34 : Program.zeroOf Try.prog 34 = some .nilFunc := by kernel_rfl
@[simp] theorem i34 : (Try.prog.info? 34).isSome = true := by kernel_rfl
attribute [simp] Try.underlying34
@[simp] theorem c35 : Try.prog.cellsOf 35 = 1 := by kernel_rfl
@[simp] theorem b35 : Program.bytesOf' Try.prog 35 = some 24 := by kernel_rfl
@[simp] theorem z35 : Program.zeroOf Try.prog 35 = some (.slice none 0 0) := by kernel_rfl
@[simp] theorem i35 : (Try.prog.info? 35).isSome = true := by kernel_rfl
attribute [simp] Try.underlying35
@[simp] theorem c36 : Try.prog.cellsOf 36 = 1 := by kernel_rfl
@[simp] theorem b36 : Program.bytesOf' Try.prog 36 = some 24 := by kernel_rfl
@[simp] theorem z36 : Program.zeroOf Try.prog 36 = some (.agg #[(.slice none 0 0)]) := by kernel_rfl
@[simp] theorem i36 : (Try.prog.info? 36).isSome = true := by kernel_rfl
attribute [simp] Try.underlying36
@[simp] theorem c37 : Try.prog.cellsOf 37 = 1 := by kernel_rfl
@[simp] theorem b37 : Program.bytesOf' Try.prog 37 = some 24 := by kernel_rfl
@[simp] theorem z37 : Program.zeroOf Try.prog 37 = some (.agg #[(.slice none 0 0)]) := by kernel_rfl
@[simp] theorem i37 : (Try.prog.info? 37).isSome = true := by kernel_rfl
attribute [simp] Try.underlying37
@[simp] theorem c38 : Try.prog.cellsOf 38 = 1 := by kernel_rfl
@[simp] theorem b38 : Program.bytesOf' Try.prog 38 = some 8 := by kernel_rfl
@[simp] theorem z38 : Program.zeroOf Try.prog 38 = some .nilFunc := by kernel_rfl
@[simp] theorem i38 : (Try.prog.info? 38).isSome = true := by kernel_rfl
attribute [simp] Try.underlying38
@[simp] theorem c39 : Try.prog.cellsOf 39 = 1 := by kernel_rfl
@[simp] theorem b39 : Program.bytesOf' Try.prog 39 = some 8 := by kernel_rfl
@[simp] theorem z39 : Program.zeroOf Try.prog 39 = some .nilFunc := by kernel_rfl
@[simp] theorem i39 : (Try.prog.info? 39).isSome = true := by kernel_rfl
attribute [simp] Try.underlying39
@[simp] theorem c40 : Try.prog.cellsOf 40 = 2 := by kernel_rfl
@[simp] theorem b40 : Program.bytesOf' Try.prog 40 = some 16 := by kernel_rfl
@[simp] theorem q40 : eqOkP Try.prog 40 = true := by kernel_rfl
@[simp] theorem z40 : Program.zeroOf Try.prog 40 = some (.agg #[(.int .i64 0), (.int .i64 0)]) := by kernel_rfl
@[simp] theorem i40 : (Try.prog.info? 40).isSome = true := by kernel_rfl
attribute [simp] Try.underlying40
@[simp] theorem c41 : Try.prog.cellsOf 41 = 2 := by kernel_rfl
@[simp] theorem b41 : Program.bytesOf' Try.prog 41 = some 16 := by kernel_rfl
@[simp] theorem q41 : eqOkP Try.prog 41 = true := by kernel_rfl
@[simp] theorem z41 : Program.zeroOf Try.prog 41 = some (.agg #[(.int .i64 0), (.int .i64 0)]) := by kernel_rfl
@[simp] theorem i41 : (Try.prog.info? 41).isSome = true := by kernel_rfl
attribute [simp] Try.underlying41
@[simp] theorem c42 : Try.prog.cellsOf 42 = 1 := by kernel_rfl
@[simp] theorem b42 : Program.bytesOf' Try.prog 42 = some 8 := by kernel_rfl
@[simp] theorem z42 : Program.zeroOf Try.prog 42 = some .nilFunc := by kernel_rfl
@[simp] theorem i42 : (Try.prog.info? 42).isSome = true := by kernel_rfl
attribute [simp] Try.underlying42
@[simp] theorem c43 : Try.prog.cellsOf 43 = 1 := by kernel_rfl
@[simp] theorem b43 : Program.bytesOf' Try.prog 43 = some 24 := by kernel_rfl
@[simp] theorem z43 : Program.zeroOf Try.prog 43 = some (.agg #[(.slice none 0 0)]) := by kernel_rfl
@[simp] theorem i43 : (Try.prog.info? 43).isSome = true := by kernel_rfl
attribute [simp] Try.underlying43
@[simp] theorem c44 : Try.prog.cellsOf 44 = 1 := by kernel_rfl
@[simp] theorem b44 : Program.bytesOf' Try.prog 44 = some 24 := by kernel_rfl
@[simp] theorem z44 : Program.zeroOf Try.prog 44 = some (.agg #[(.slice none 0 0)]) := by kernel_rfl
@[simp] theorem i44 : (Try.prog.info? 44).isSome = true := by kernel_rfl
attribute [simp] Try.underlying44
@[simp] theorem c45 : Try.prog.cellsOf 45 = 1 := by kernel_rfl
@[simp] theorem b45 : Program.bytesOf' Try.prog 45 = some 8 := by kernel_rfl
@[simp] theorem z45 : Program.zeroOf Try.prog 45 = some (.int .i64 0) := by kernel_rfl
@[simp] theorem i45 : (Try.prog.info? 45).isSome = true := by kernel_rfl
attribute [simp] Try.underlying45
@[simp] theorem c46 : Try.prog.cellsOf 46 = 1 := by kernel_rfl
@[simp] theorem b46 : Program.bytesOf' Try.prog 46 = some 8 := by kernel_rfl
@[simp] theorem z46 : Program.zeroOf Try.prog 46 = some .nilFunc := by kernel_rfl
@[simp] theorem i46 : (Try.prog.info? 46).isSome = true := by kernel_rfl
attribute [simp] Try.underlying46
@[simp] theorem c47 : Try.prog.cellsOf 47 = 1 := by kernel_rfl
@[simp] theorem b47 : Program.bytesOf' Try.prog 47 = some 8 := by kernel_rfl
@[simp] theorem z47 : Program.zeroOf Try.prog 47 = some .nilFunc := by kernel_rfl
@[simp] theorem i47 : (Try.prog.info? 47).isSome = true := by kernel_rfl
attribute [simp] Try.underlying47
@[simp] theorem c48 : Try.prog.cellsOf 48 = 1 := by kernel_rfl
@[simp] theorem b48 : Program.bytesOf' Try.prog 48 = some 8 := by kernel_rfl
@[simp] theorem z48 : Program.zeroOf Try.prog 48 = some .nilFunc := by kernel_rfl
@[simp] theorem i48 : (Try.prog.info? 48).isSome = true := by kernel_rfl
attribute [simp] Try.underlying48
@[simp] theorem c49 : Try.prog.cellsOf 49 = 1 := by kernel_rfl
@[simp] theorem b49 : Program.bytesOf' Try.prog 49 = some 8 := by kernel_rfl
@[simp] theorem z49 : Program.zeroOf Try.prog 49 = some .nilFunc := by kernel_rfl
@[simp] theorem i49 : (Try.prog.info? 49).isSome = true := by kernel_rfl
attribute [simp] Try.underlying49
@[simp] theorem c50 : Try.prog.cellsOf 50 = 1 := by kernel_rfl
@[simp] theorem b50 : Program.bytesOf' Try.prog 50 = some 8 := by kernel_rfl
@[simp] theorem z50 : Program.zeroOf Try.prog 50 = some .nilFunc := by kernel_rfl
@[simp] theorem i50 : (Try.prog.info? 50).isSome = true := by kernel_rfl
attribute [simp] Try.underlying50
@[simp] theorem c51 : Try.prog.cellsOf 51 = 1 := by kernel_rfl
@[simp] theorem b51 : Program.bytesOf' Try.prog 51 = some 8 := by kernel_rfl
@[simp] theorem z51 : Program.zeroOf Try.prog 51 = some .nilFunc := by kernel_rfl
@[simp] theorem i51 : (Try.prog.info? 51).isSome = true := by kernel_rfl
attribute [simp] Try.underlying51
@[simp] theorem c52 : Try.prog.cellsOf 52 = 1 := by kernel_rfl
@[simp] theorem b52 : Program.bytesOf' Try.prog 52 = some 24 := by kernel_rfl
@[simp] theorem z52 : Program.zeroOf Try.prog 52 = some (.slice none 0 0) := by kernel_rfl
@[simp] theorem i52 : (Try.prog.info? 52).isSome = true := by kernel_rfl
attribute [simp] Try.underlying52
@[simp] theorem c53 : Try.prog.cellsOf 53 = 1 := by kernel_rfl
@[simp] theorem b53 : Program.bytesOf' Try.prog 53 = some 8 := by kernel_rfl
@[simp] theorem z53 : Program.zeroOf Try.prog 53 = some .nilFunc := by kernel_rfl
@[simp] theorem i53 : (Try.prog.info? 53).isSome = true := by kernel_rfl
attribute [simp] Try.underlying53
@[simp] theorem c54 : Try.prog.cellsOf 54 = 3 := by kernel_rfl
@[simp] theorem b54 : Program.bytesOf' Try.prog 54 = some 24 := by kernel_rfl
@[simp] theorem q54 : eqOkP Try.prog 54 = true := by kernel_rfl
@[simp] theorem z54 : Program.zeroOf Try.prog 54 = some (.agg #[(.int .i64 0), (.int .i64 0), (.int .i64 0)]) := by kernel_rfl
@[simp] theorem i54 : (Try.prog.info? 54).isSome = true := by kernel_rfl
attribute [simp] Try.underlying54
@[simp] theorem c55 : Try.prog.cellsOf 55 = 3 := by kernel_rfl
@[simp] theorem b55 : Program.bytesOf' Try.prog 55 = some 24 := by kernel_rfl
@[simp] theorem q55 : eqOkP Try.prog 55 = true := by kernel_rfl
@[simp] theorem z55 : Program.zeroOf Try.prog 55 = some (.agg #[(.int .i64 0), (.int .i64 0), (.int .i64 0)]) := by kernel_rfl
@[simp] theorem i55 : (Try.prog.info? 55).isSome = true := by kernel_rfl
attribute [simp] Try.underlying55
@[simp] theorem c56 : Try.prog.cellsOf 56 = 1 := by kernel_rfl
@[simp] theorem b56 : Program.bytesOf' Try.prog 56 = some 8 := by kernel_rfl
@[simp] theorem z56 : Program.zeroOf Try.prog 56 = some .nilFunc := by kernel_rfl
@[simp] theorem i56 : (Try.prog.info? 56).isSome = true := by kernel_rfl
attribute [simp] Try.underlying56
@[simp] theorem c57 : Try.prog.cellsOf 57 = 1 := by kernel_rfl
@[simp] theorem b57 : Program.bytesOf' Try.prog 57 = some 8 := by kernel_rfl
@[simp] theorem z57 : Program.zeroOf Try.prog 57 = some .nilFunc := by kernel_rfl
@[simp] theorem i57 : (Try.prog.info? 57).isSome = true := by kernel_rfl
attribute [simp] Try.underlying57
@[simp] theorem c58 : Try.prog.cellsOf 58 = 1 := by kernel_rfl
@[simp] theorem b58 : Program.bytesOf' Try.prog 58 = some 8 := by kernel_rfl
@[simp] theorem z58 : Program.zeroOf Try.prog 58 = some .nilFunc := by kernel_rfl
@[simp] theorem i58 : (Try.prog.info? 58).isSome = true := by kernel_rfl
attribute [simp] Try.underlying58
@[simp] theorem c59 : Try.prog.cellsOf 59 = 1 := by kernel_rfl
@[simp] theorem b59 : Program.bytesOf' Try.prog 59 = some 24 := by kernel_rfl
@[simp] theorem z59 : Program.zeroOf Try.prog 59 = some (.slice none 0 0) := by kernel_rfl
@[simp] theorem i59 : (Try.prog.info? 59).isSome = true := by kernel_rfl
attribute [simp] Try.underlying59
@[simp] theorem c60 : Try.prog.cellsOf 60 = 1 := by kernel_rfl
@[simp] theorem b60 : Program.bytesOf' Try.prog 60 = some 0 := by kernel_rfl
@[simp] theorem i60 : (Try.prog.info? 60).isSome = true := by kernel_rfl
attribute [simp] Try.underlying60
@[simp] theorem c61 : Try.prog.cellsOf 61 = 1 := by kernel_rfl
@[simp] theorem b61 : Program.bytesOf' Try.prog 61 = some 8 := by kernel_rfl
@[simp] theorem z61 : Program.zeroOf Try.prog 61 = some .nilFunc := by kernel_rfl
@[simp] theorem i61 : (Try.prog.info? 61).isSome = true := by kernel_rfl
attribute [simp] Try.underlying61
@[simp] theorem c62 : Try.prog.cellsOf 62 = 2 := by kernel_rfl
@[simp] theorem b62 : Program.bytesOf' Try.prog 62 = some 16 := by kernel_rfl
@[simp] theorem q62 : eqOkP Try.prog 62 = true := by kernel_rfl
@[simp] theorem z62 : Program.zeroOf Try.prog 62 = some (.agg #[(.int .i64 0), (.int .i64 0)]) := by kernel_rfl
@[simp] theorem i62 : (Try.prog.info? 62).isSome = true := by kernel_rfl
attribute [simp] Try.underlying62
@[simp] theorem c63 : Try.prog.cellsOf 63 = 2 := by kernel_rfl
@[simp] theorem b63 : Program.bytesOf' Try.prog 63 = some 16 := by kernel_rfl
@[simp] theorem q63 : eqOkP Try.prog 63 = true := by kernel_rfl
@[simp] theorem z63 : Program.zeroOf Try.prog 63 = some (.agg #[(.int .i64 0), (.int .i64 0)]) := by kernel_rfl
@[simp] theorem i63 : (Try.prog.info? 63).isSome = true := by kernel_rfl
attribute [simp] Try.underlying63
@[simp] theorem c64 : Try.prog.cellsOf 64 = 1 := by kernel_rfl
@[simp] theorem b64 : Program.bytesOf' Try.prog 64 = some 8 := by kernel_rfl
@[simp] theorem z64 : Program.zeroOf Try.prog 64 = some (.pointer none) := by kernel_rfl
@[simp] theorem i64 : (Try.prog.info? 64).isSome = true := by kernel_rfl
attribute [simp] Try.underlying64
@[simp] theorem c65 : Try.prog.cellsOf 65 = 1 := by kernel_rfl
@[simp] theorem b65 : Program.bytesOf' Try.prog 65 = some 8 := by kernel_rfl
@[simp] theorem z65 : Program.zeroOf Try.prog 65 = some .nilFunc := by kernel_rfl
@[simp] theorem i65 : (Try.prog.info? 65).isSome = true := by kernel_rfl
attribute [simp] Try.underlying65
@[simp] theorem c66 : Try.prog.cellsOf 66 = 1 := by kernel_rfl
@[simp] theorem b66 : Program.bytesOf' Try.prog 66 = some 8 := by kernel_rfl
@[simp] theorem z66 : Program.zeroOf Try.prog 66 = some .nilFunc := by kernel_rfl
@[simp] theorem i66 : (Try.prog.info? 66).isSome = true := by kernel_rfl
attribute [simp] Try.underlying66
@[simp] theorem c67 : Try.prog.cellsOf 67 = 1 := by kernel_rfl
@[simp] theorem b67 : Program.bytesOf' Try.prog 67 = some 0 := by kernel_rfl
@[simp] theorem i67 : (Try.prog.info? 67).isSome = true := by kernel_rfl
attribute [simp] Try.underlying67
@[simp] theorem c68 : Try.prog.cellsOf 68 = 1 := by kernel_rfl
@[simp] theorem b68 : Program.bytesOf' Try.prog 68 = some 8 := by kernel_rfl
@[simp] theorem z68 : Program.zeroOf Try.prog 68 = some .nilFunc := by kernel_rfl
@[simp] theorem i68 : (Try.prog.info? 68).isSome = true := by kernel_rfl
attribute [simp] Try.underlying68
@[simp] theorem c69 : Try.prog.cellsOf 69 = 1 := by kernel_rfl
@[simp] theorem b69 : Program.bytesOf' Try.prog 69 = some 8 := by kernel_rfl
@[simp] theorem z69 : Program.zeroOf Try.prog 69 = some .nilFunc := by kernel_rfl
@[simp] theorem i69 : (Try.prog.info? 69).isSome = true := by kernel_rfl
attribute [simp] Try.underlying69
@[simp] theorem c70 : Try.prog.cellsOf 70 = 1 := by kernel_rfl
@[simp] theorem b70 : Program.bytesOf' Try.prog 70 = some 8 := by kernel_rfl
@[simp] theorem z70 : Program.zeroOf Try.prog 70 = some .nilFunc := by kernel_rfl
@[simp] theorem i70 : (Try.prog.info? 70).isSome = true := by kernel_rfl
attribute [simp] Try.underlying70
@[simp] theorem c71 : Try.prog.cellsOf 71 = 1 := by kernel_rfl
@[simp] theorem b71 : Program.bytesOf' Try.prog 71 = some 24 := by kernel_rfl
@[simp] theorem z71 : Program.zeroOf Try.prog 71 = some (.slice none 0 0) := by kernel_rfl
@[simp] theorem i71 : (Try.prog.info? 71).isSome = true := by kernel_rfl
attribute [simp] Try.underlying71
@[simp] theorem c72 : Try.prog.cellsOf 72 = 8 := by kernel_rfl
@[simp] theorem b72 : Program.bytesOf' Try.prog 72 = some 80 := by kernel_rfl
@[simp] theorem z72 : Program.zeroOf Try.prog 72 = some (.agg #[(.int .i64 0), (.int .i64 0), (.slice none 0 0), (.int .i64 0), (.int .i64 0), (.int .i64 0), (.int .i64 0), (.int .i64 0)]) := by kernel_rfl
@[simp] theorem i72 : (Try.prog.info? 72).isSome = true := by kernel_rfl
attribute [simp] Try.underlying72
@[simp] theorem c73 : Try.prog.cellsOf 73 = 8 := by kernel_rfl
@[simp] theorem b73 : Program.bytesOf' Try.prog 73 = some 80 := by kernel_rfl
@[simp] theorem z73 : Program.zeroOf Try.prog 73 = some (.agg #[(.int .i64 0), (.int .i64 0), (.slice none 0 0), (.int .i64 0), (.int .i64 0), (.int .i64 0), (.int .i64 0), (.int .i64 0)]) := by kernel_rfl
@[simp] theorem i73 : (Try.prog.info? 73).isSome = true := by kernel_rfl
attribute [simp] Try.underlying73
@[simp] theorem c74 : Try.prog.cellsOf 74 = 1 := by kernel_rfl
@[simp] theorem b74 : Program.bytesOf' Try.prog 74 = some 8 := by kernel_rfl
@[simp] theorem z74 : Program.zeroOf Try.prog 74 = some .nilFunc := by kernel_rfl
@[simp] theorem i74 : (Try.prog.info? 74).isSome = true := by kernel_rfl
attribute [simp] Try.underlying74
@[simp] theorem c75 : Try.prog.cellsOf 75 = 1 := by kernel_rfl
@[simp] theorem b75 : Program.bytesOf' Try.prog 75 = some 8 := by kernel_rfl
@[simp] theorem z75 : Program.zeroOf Try.prog 75 = some (.pointer none) := by kernel_rfl
@[simp] theorem i75 : (Try.prog.info? 75).isSome = true := by kernel_rfl
attribute [simp] Try.underlying75
@[simp] theorem c76 : Try.prog.cellsOf 76 = 1 := by kernel_rfl
@[simp] theorem b76 : Program.bytesOf' Try.prog 76 = some 8 := by kernel_rfl
@[simp] theorem z76 : Program.zeroOf Try.prog 76 = some (.map none) := by kernel_rfl
@[simp] theorem i76 : (Try.prog.info? 76).isSome = true := by kernel_rfl
attribute [simp] Try.underlying76
@[simp] theorem c77 : Try.prog.cellsOf 77 = 1 := by kernel_rfl
@[simp] theorem b77 : Program.bytesOf' Try.prog 77 = some 24 := by kernel_rfl
@[simp] theorem z77 : Program.zeroOf Try.prog 77 = some (.slice none 0 0) := by kernel_rfl
@[simp] theorem i77 : (Try.prog.info? 77).isSome = true := by kernel_rfl
attribute [simp] Try.underlying77
@[simp] theorem c78 : Try.prog.cellsOf 78 = 9 := by kernel_rfl
@[simp] theorem b78 : Program.bytesOf' Try.prog 78 = some 120 := by kernel_rfl
@[simp] theorem z78 : Program.zeroOf Try.prog 78 = some (.agg #[(.int .i64 0), (.int .i64 0), (.int .i64 0), (.int .i64 0), (.slice none 0 0), (.slice none 0 0), (.slice none 0 0), (.int .i64 0), (.map none)]) := by kernel_rfl
@[simp] theorem i78 : (Try.prog.info? 78).isSome = true := by kernel_rfl
attribute [simp] Try.underlying78
@[simp] theorem c79 : Try.prog.cellsOf 79 = 9 := by kernel_rfl
@[simp] theorem b79 : Program.bytesOf' Try.prog 79 = some 120 := by kernel_rfl
@[simp] theorem z79 : Program.zeroOf Try.prog 79 = some (.agg #[(.int .i64 0), (.int .i64 0), (.int .i64 0), (.int .i64 0), (.slice none 0 0), (.slice none 0 0), (.slice none 0 0), (.int .i64 0), (.map none)]) := by kernel_rfl
@[simp] theorem i79 : (Try.prog.info? 79).isSome = true := by kernel_rfl
attribute [simp] Try.underlying79
@[simp] theorem c80 : Try.prog.cellsOf 80 = 1 := by kernel_rfl
@[simp] theorem b80 : Program.bytesOf' Try.prog 80 = some 8 := by kernel_rfl
@[simp] theorem z80 : Program.zeroOf Try.prog 80 = some .nilFunc := by kernel_rfl
@[simp] theorem i80 : (Try.prog.info? 80).isSome = true := by kernel_rfl
attribute [simp] Try.underlying80
@[simp] theorem c81 : Try.prog.cellsOf 81 = 1 := by kernel_rfl
@[simp] theorem b81 : Program.bytesOf' Try.prog 81 = some 8 := by kernel_rfl
@[simp] theorem z81 : Program.zeroOf Try.prog 81 = some .nilFunc := by kernel_rfl
@[simp] theorem i81 : (Try.prog.info? 81).isSome = true := by kernel_rfl
attribute [simp] Try.underlying81
@[simp] theorem c82 : Try.prog.cellsOf 82 = 1 := by kernel_rfl
@[simp] theorem b82 : Program.bytesOf' Try.prog 82 = some 8 := by kernel_rfl
@[simp] theorem z82 : Program.zeroOf Try.prog 82 = some .nilFunc := by kernel_rfl
@[simp] theorem i82 : (Try.prog.info? 82).isSome = true := by kernel_rfl
attribute [simp] Try.underlying82
@[simp] theorem c83 : Try.prog.cellsOf 83 = 1 := by kernel_rfl
@[simp] theorem b83 : Program.bytesOf' Try.prog 83 = some 8 := by kernel_rfl
@[simp] theorem z83 : Program.zeroOf Try.prog 83 = some .nilFunc := by kernel_rfl
@[simp] theorem i83 : (Try.prog.info? 83).isSome = true := by kernel_rfl
attribute [simp] Try.underlying83
@[simp] theorem c84 : Try.prog.cellsOf 84 = 1 := by kernel_rfl
@[simp] theorem b84 : Program.bytesOf' Try.prog 84 = some 8 := by kernel_rfl
@[simp] theorem z84 : Program.zeroOf Try.prog 84 = some .nilFunc := by kernel_rfl
@[simp] theorem i84 : (Try.prog.info? 84).isSome = true := by kernel_rfl
attribute [simp] Try.underlying84
@[simp] theorem c85 : Try.prog.cellsOf 85 = 1 := by kernel_rfl
@[simp] theorem b85 : Program.bytesOf' Try.prog 85 = some 8 := by kernel_rfl
@[simp] theorem z85 : Program.zeroOf Try.prog 85 = some (.int .u64 0) := by kernel_rfl
@[simp] theorem i85 : (Try.prog.info? 85).isSome = true := by kernel_rfl
attribute [simp] Try.underlying85
@[simp] theorem c86 : Try.prog.cellsOf 86 = 1 := by kernel_rfl
@[simp] theorem b86 : Program.bytesOf' Try.prog 86 = some 8 := by kernel_rfl
@[simp] theorem z86 : Program.zeroOf Try.prog 86 = some .nilFunc := by kernel_rfl
@[simp] theorem i86 : (Try.prog.info? 86).isSome = true := by kernel_rfl
attribute [simp] Try.underlying86
@[simp] theorem c87 : Try.prog.cellsOf 87 = 1 := by kernel_rfl
@[simp] theorem b87 : Program.bytesOf' Try.prog 87 = some 8 := by kernel_rfl
@[simp] theorem z87 : Program.zeroOf Try.prog 87 = some .nilFunc := by kernel_rfl
@[simp] theorem i87 : (Try.prog.info? 87).isSome = true := by kernel_rfl
attribute [simp] Try.underlying87
@[simp] theorem c88 : Try.prog.cellsOf 88 = 1 := by kernel_rfl
@[simp] theorem b88 : Program.bytesOf' Try.prog 88 = some 8 := by kernel_rfl
@[simp] theorem z88 : Program.zeroOf Try.prog 88 = some .nilFunc := by kernel_rfl
@[simp] theorem i88 : (Try.prog.info? 88).isSome = true := by kernel_rfl
attribute [simp] Try.underlying88
@[simp] theorem c89 : Try.prog.cellsOf 89 = 1 := by kernel_rfl
@[simp] theorem b89 : Program.bytesOf' Try.prog 89 = some 8 := by kernel_rfl
@[simp] theorem z89 : Program.zeroOf Try.prog 89 = some .nilFunc := by kernel_rfl
@[simp] theorem i89 : (Try.prog.info? 89).isSome = true := by kernel_rfl
attribute [simp] Try.underlying89
@[simp] theorem c90 : Try.prog.cellsOf 90 = 1 := by kernel_rfl
@[simp] theorem b90 : Program.bytesOf' Try.prog 90 = some 8 := by kernel_rfl
@[simp] theorem z90 : Program.zeroOf Try.prog 90 = some (.int .u64 0) := by kernel_rfl
@[simp] theorem i90 : (Try.prog.info? 90).isSome = true := by kernel_rfl
attribute [simp] Try.underlying90
@[simp] theorem c91 : Try.prog.cellsOf 91 = 1 := by kernel_rfl
@[simp] theorem b91 : Program.bytesOf' Try.prog 91 = some 8 := by kernel_rfl
@[simp] theorem z91 : Program.zeroOf Try.prog 91 = some .nilFunc := by kernel_rfl
@[simp] theorem i91 : (Try.prog.info? 91).isSome = true := by kernel_rfl
attribute [simp] Try.underlying91
@[simp] theorem c92 : Try.prog.cellsOf 92 = 1 := by kernel_rfl
@[simp] theorem b92 : Program.bytesOf' Try.prog 92 = some 24 := by kernel_rfl
@[simp] theorem z92 : Program.zeroOf Try.prog 92 = some (.slice none 0 0) := by kernel_rfl
@[simp] theorem i92 : (Try.prog.info? 92).isSome = true := by kernel_rfl
attribute [simp] Try.underlying92
@[simp] theorem c93 : Try.prog.cellsOf 93 = 2 := by kernel_rfl
@[simp] theorem b93 : Program.bytesOf' Try.prog 93 = some 32 := by kernel_rfl
@[simp] theorem z93 : Program.zeroOf Try.prog 93 = some (.agg #[(.slice none 0 0), (.map none)]) := by kernel_rfl
@[simp] theorem i93 : (Try.prog.info? 93).isSome = true := by kernel_rfl
attribute [simp] Try.underlying93
@[simp] theorem c94 : Try.prog.cellsOf 94 = 2 := by kernel_rfl
@[simp] theorem b94 : Program.bytesOf' Try.prog 94 = some 32 := by kernel_rfl
@[simp] theorem z94 : Program.zeroOf Try.prog 94 = some (.agg #[(.slice none 0 0), (.map none)]) := by kernel_rfl
@[simp] theorem i94 : (Try.prog.info? 94).isSome = true := by kernel_rfl
attribute [simp] Try.underlying94
@[simp] theorem c95 : Try.prog.cellsOf 95 = 2 := by kernel_rfl
@[simp] theorem b95 : Program.bytesOf' Try.prog 95 = some 32 := by kernel_rfl
@[simp] theorem z95 : Program.zeroOf Try.prog 95 = some (.agg #[(.slice none 0 0), (.map none)]) := by kernel_rfl
@[simp] theorem i95 : (Try.prog.info? 95).isSome = true := by kernel_rfl
attribute [simp] Try.underlying95
@[simp] theorem c96 : Try.prog.cellsOf 96 = 2 := by kernel_rfl
@[simp] theorem b96 : Program.bytesOf' Try.prog 96 = some 32 := by kernel_rfl
@[simp] theorem z96 : Program.zeroOf Try.prog 96 = some (.agg #[(.slice none 0 0), (.map none)]) := by kernel_rfl
@[simp] theorem i96 : (Try.prog.info? 96).isSome = true := by kernel_rfl
attribute [simp] Try.underlying96
@[simp] theorem c97 : Try.prog.cellsOf 97 = 1 := by kernel_rfl
@[simp] theorem b97 : Program.bytesOf' Try.prog 97 = some 0 := by kernel_rfl
@[simp] theorem i97 : (Try.prog.info? 97).isSome = true := by kernel_rfl
attribute [simp] Try.underlying97
@[simp] theorem c98 : Try.prog.cellsOf 98 = 1 := by kernel_rfl
@[simp] theorem b98 : Program.bytesOf' Try.prog 98 = some 8 := by kernel_rfl
@[simp] theorem z98 : Program.zeroOf Try.prog 98 = some .nilFunc := by kernel_rfl
@[simp] theorem i98 : (Try.prog.info? 98).isSome = true := by kernel_rfl
attribute [simp] Try.underlying98
@[simp] theorem c99 : Try.prog.cellsOf 99 = 1 := by kernel_rfl
@[simp] theorem b99 : Program.bytesOf' Try.prog 99 = some 8 := by kernel_rfl
@[simp] theorem z99 : Program.zeroOf Try.prog 99 = some (.pointer none) := by kernel_rfl
@[simp] theorem i99 : (Try.prog.info? 99).isSome = true := by kernel_rfl
attribute [simp] Try.underlying99
@[simp] theorem c100 : Try.prog.cellsOf 100 = 2 := by kernel_rfl
@[simp] theorem b100 : Program.bytesOf' Try.prog 100 = some 16 := by kernel_rfl
@[simp] theorem q100 : eqOkP Try.prog 100 = true := by kernel_rfl
@[simp] theorem z100 : Program.zeroOf Try.prog 100 = some (.agg #[(.int .i64 0), (.int .i64 0)]) := by kernel_rfl
@[simp] theorem i100 : (Try.prog.info? 100).isSome = true := by kernel_rfl
attribute [simp] Try.underlying100
@[simp] theorem c101 : Try.prog.cellsOf 101 = 2 := by kernel_rfl
@[simp] theorem b101 : Program.bytesOf' Try.prog 101 = some 16 := by kernel_rfl
@[simp] theorem q101 : eqOkP Try.prog 101 = true := by kernel_rfl
@[simp] theorem z101 : Program.zeroOf Try.prog 101 = some (.agg #[(.int .i64 0), (.int .i64 0)]) := by kernel_rfl
@[simp] theorem i101 : (Try.prog.info? 101).isSome = true := by kernel_rfl
attribute [simp] Try.underlying101
@[simp] theorem c102 : Try.prog.cellsOf 102 = 1 := by kernel_rfl
@[simp] theorem b102 : Program.bytesOf' Try.prog 102 = some 8 := by kernel_rfl
@[simp] theorem z102 : Program.zeroOf Try.prog 102 = some .nilFunc := by kernel_rfl
@[simp] theorem i102 : (Try.prog.info? 102).isSome = true := by kernel_rfl
attribute [simp] Try.underlying102
@[simp] theorem c103 : Try.prog.cellsOf 103 = 1 := by kernel_rfl
@[simp] theorem b103 : Program.bytesOf' Try.prog 103 = some 8 := by kernel_rfl
@[simp] theorem z103 : Program.zeroOf Try.prog 103 = some .nilFunc := by kernel_rfl
@[simp] theorem i103 : (Try.prog.info? 103).isSome = true := by kernel_rfl
attribute [simp] Try.underlying103
@[simp] theorem c104 : Try.prog.cellsOf 104 = 1 := by kernel_rfl
@[simp] theorem b104 : Program.bytesOf' Try.prog 104 = some 8 := by kernel_rfl
@[simp] theorem z104 : Program.zeroOf Try.prog 104 = some .nilFunc := by kernel_rfl
@[simp] theorem i104 : (Try.prog.info? 104).isSome = true := by kernel_rfl
attribute [simp] Try.underlying104
@[simp] theorem c105 : Try.prog.cellsOf 105 = 1 := by kernel_rfl
@[simp] theorem b105 : Program.bytesOf' Try.prog 105 = some 8 := by kernel_rfl
@[simp] theorem z105 : Program.zeroOf Try.prog 105 = some .nilFunc := by kernel_rfl
@[simp] theorem i105 : (Try.prog.info? 105).isSome = true := by kernel_rfl
attribute [simp] Try.underlying105
@[simp] theorem c106 : Try.prog.cellsOf 106 = 1 := by kernel_rfl
@[simp] theorem b106 : Program.bytesOf' Try.prog 106 = some 24 := by kernel_rfl
@[simp] theorem z106 : Program.zeroOf Try.prog 106 = some (.slice none 0 0) := by kernel_rfl
@[simp] theorem i106 : (Try.prog.info? 106).isSome = true := by kernel_rfl
attribute [simp] Try.underlying106
@[simp] theorem c107 : Try.prog.cellsOf 107 = 1 := by kernel_rfl
@[simp] theorem b107 : Program.bytesOf' Try.prog 107 = some 24 := by kernel_rfl
@[simp] theorem z107 : Program.zeroOf Try.prog 107 = some (.slice none 0 0) := by kernel_rfl
@[simp] theorem i107 : (Try.prog.info? 107).isSome = true := by kernel_rfl
attribute [simp] Try.underlying107
@[simp] theorem c108 : Try.prog.cellsOf 108 = 1 := by kernel_rfl
@[simp] theorem b108 : Program.bytesOf' Try.prog 108 = some 8 := by kernel_rfl
@[simp] theorem z108 : Program.zeroOf Try.prog 108 = some .nilFunc := by kernel_rfl
@[simp] theorem i108 : (Try.prog.info? 108).isSome = true := by kernel_rfl
attribute [simp] Try.underlying108
@[simp] theorem c109 : Try.prog.cellsOf 109 = 1 := by kernel_rfl
@[simp] theorem b109 : Program.bytesOf' Try.prog 109 = some 8 := by kernel_rfl
@[simp] theorem z109 : Program.zeroOf Try.prog 109 = some .nilFunc := by kernel_rfl
@[simp] theorem i109 : (Try.prog.info? 109).isSome = true := by kernel_rfl
attribute [simp] Try.underlying109
@[simp] theorem c110 : Try.prog.cellsOf 110 = 1 := by kernel_rfl
@[simp] theorem b110 : Program.bytesOf' Try.prog 110 = some 8 := by kernel_rfl
@[simp] theorem z110 : Program.zeroOf Try.prog 110 = some .nilFunc := by kernel_rfl
@[simp] theorem i110 : (Try.prog.info? 110).isSome = true := by kernel_rfl
attribute [simp] Try.underlying110
@[simp] theorem c111 : Try.prog.cellsOf 111 = 1 := by kernel_rfl
@[simp] theorem b111 : Program.bytesOf' Try.prog 111 = some 8 := by kernel_rfl
@[simp] theorem z111 : Program.zeroOf Try.prog 111 = some .nilFunc := by kernel_rfl
@[simp] theorem i111 : (Try.prog.info? 111).isSome = true := by kernel_rfl
attribute [simp] Try.underlying111
@[simp] theorem c112 : Try.prog.cellsOf 112 = 1 := by kernel_rfl
@[simp] theorem b112 : Program.bytesOf' Try.prog 112 = some 8 := by kernel_rfl
@[simp] theorem z112 : Program.zeroOf Try.prog 112 = some (.int .i64 0) := by kernel_rfl
@[simp] theorem i112 : (Try.prog.info? 112).isSome = true := by kernel_rfl
attribute [simp] Try.underlying112
@[simp] theorem c113 : Try.prog.cellsOf 113 = 1 := by kernel_rfl
@[simp] theorem b113 : Program.bytesOf' Try.prog 113 = some 0 := by kernel_rfl
@[simp] theorem i113 : (Try.prog.info? 113).isSome = true := by kernel_rfl
attribute [simp] Try.underlying113
@[simp] theorem c114 : Try.prog.cellsOf 114 = 1 := by kernel_rfl
@[simp] theorem b114 : Program.bytesOf' Try.prog 114 = some 8 := by kernel_rfl
@[simp] theorem z114 : Program.zeroOf Try.prog 114 = some .nilFunc := by kernel_rfl
@[simp] theorem i114 : (Try.prog.info? 114).isSome = true := by kernel_rfl
attribute [simp] Try.underlying114
@[simp] theorem c115 : Try.prog.cellsOf 115 = 1 := by kernel_rfl
@[simp] theorem b115 : Program.bytesOf' Try.prog 115 = some 8 := by kernel_rfl
@[simp] theorem z115 : Program.zeroOf Try.prog 115 = some .nilFunc := by kernel_rfl
@[simp] theorem i115 : (Try.prog.info? 115).isSome = true := by kernel_rfl
attribute [simp] Try.underlying115
@[simp] theorem c116 : Try.prog.cellsOf 116 = 1 := by kernel_rfl
@[simp] theorem b116 : Program.bytesOf' Try.prog 116 = some 8 := by kernel_rfl
@[simp] theorem z116 : Program.zeroOf Try.prog 116 = some .nilFunc := by kernel_rfl
@[simp] theorem i116 : (Try.prog.info? 116).isSome = true := by kernel_rfl
attribute [simp] Try.underlying116
@[simp] theorem c117 : Try.prog.cellsOf 117 = 1 := by kernel_rfl
@[simp] theorem b117 : Program.bytesOf' Try.prog 117 = some 8 := by kernel_rfl
@[simp] theorem z117 : Program.zeroOf Try.prog 117 = some .nilFunc := by kernel_rfl
@[simp] theorem i117 : (Try.prog.info? 117).isSome = true := by kernel_rfl
attribute [simp] Try.underlying117
@[simp] theorem c118 : Try.prog.cellsOf 118 = 1 := by kernel_rfl
@[simp] theorem b118 : Program.bytesOf' Try.prog 118 = some 8 := by kernel_rfl
@[simp] theorem z118 : Program.zeroOf Try.prog 118 = some .nilFunc := by kernel_rfl
@[simp] theorem i118 : (Try.prog.info? 118).isSome = true := by kernel_rfl
attribute [simp] Try.underlying118
@[simp] theorem c119 : Try.prog.cellsOf 119 = 1 := by kernel_rfl
@[simp] theorem b119 : Program.bytesOf' Try.prog 119 = some 4 := by kernel_rfl
@[simp] theorem z119 : Program.zeroOf Try.prog 119 = some (.int .u32 0) := by kernel_rfl
@[simp] theorem i119 : (Try.prog.info? 119).isSome = true := by kernel_rfl
attribute [simp] Try.underlying119
@[simp] theorem c120 : Try.prog.cellsOf 120 = 1 := by kernel_rfl
@[simp] theorem b120 : Program.bytesOf' Try.prog 120 = some 8 := by kernel_rfl
@[simp] theorem z120 : Program.zeroOf Try.prog 120 = some .nilFunc := by kernel_rfl
@[simp] theorem i120 : (Try.prog.info? 120).isSome = true := by kernel_rfl
attribute [simp] Try.underlying120
@[simp] theorem c121 : Try.prog.cellsOf 121 = 1 := by kernel_rfl
@[simp] theorem b121 : Program.bytesOf' Try.prog 121 = some 16 := by kernel_rfl
@[simp] theorem z121 : Program.zeroOf Try.prog 121 = some .nilIface := by kernel_rfl
@[simp] theorem i121 : (Try.prog.info? 121).isSome = true := by kernel_rfl
attribute [simp] Try.underlying121
@[simp] theorem c122 : Try.prog.cellsOf 122 = 1 := by kernel_rfl
@[simp] theorem b122 : Program.bytesOf' Try.prog 122 = some 16 := by kernel_rfl
@[simp] theorem z122 : Program.zeroOf Try.prog 122 = some .nilIface := by kernel_rfl
@[simp] theorem i122 : (Try.prog.info? 122).isSome = true := by kernel_rfl
attribute [simp] Try.underlying122
@[simp] theorem c123 : Try.prog.cellsOf 123 = 1 := by kernel_rfl
@[simp] theorem b123 : Program.bytesOf' Try.prog 123 = some 8 := by kernel_rfl
@[simp] theorem z123 : Program.zeroOf Try.prog 123 = some .nilFunc := by kernel_rfl
@[simp] theorem i123 : (Try.prog.info? 123).isSome = true := by kernel_rfl
attribute [simp] Try.underlying123
@[simp] theorem c124 : Try.prog.cellsOf 124 = 1 := by kernel_rfl
@[simp] theorem b124 : Program.bytesOf' Try.prog 124 = some 8 := by kernel_rfl
@[simp] theorem z124 : Program.zeroOf Try.prog 124 = some .nilFunc := by kernel_rfl
@[simp] theorem i124 : (Try.prog.info? 124).isSome = true := by kernel_rfl
attribute [simp] Try.underlying124
@[simp] theorem c125 : Try.prog.cellsOf 125 = 1 := by kernel_rfl
@[simp] theorem b125 : Program.bytesOf' Try.prog 125 = some 8 := by kernel_rfl
@[simp] theorem z125 : Program.zeroOf Try.prog 125 = some .nilFunc := by kernel_rfl
@[simp] theorem i125 : (Try.prog.info? 125).isSome = true := by kernel_rfl
attribute [simp] Try.underlying125
@[simp] theorem c126 : Try.prog.cellsOf 126 = 1 := by kernel_rfl
@[simp] theorem b126 : Program.bytesOf' Try.prog 126 = some 8 := by kernel_rfl
@[simp] theorem z126 : Program.zeroOf Try.prog 126 = some .nilFunc := by kernel_rfl
@[simp] theorem i126 : (Try.prog.info? 126).isSome = true := by kernel_rfl
attribute [simp] Try.underlying126
@[simp] theorem c127 : Try.prog.cellsOf 127 = 1 := by kernel_rfl
@[simp] theorem b127 : Program.bytesOf' Try.prog 127 = some 8 := by kernel_rfl
@[simp] theorem z127 : Program.zeroOf Try.prog 127 = some .nilFunc := by kernel_rfl
@[simp] theorem i127 : (Try.prog.info? 127).isSome = true := by kernel_rfl
attribute [simp] Try.underlying127
@[simp] theorem c128 : Try.prog.cellsOf 128 = 1 := by kernel_rfl
@[simp] theorem b128 : Program.bytesOf' Try.prog 128 = some 8 := by kernel_rfl
@[simp] theorem z128 : Program.zeroOf Try.prog 128 = some .nilFunc := by kernel_rfl
@[simp] theorem i128 : (Try.prog.info? 128).isSome = true := by kernel_rfl
attribute [simp] Try.underlying128
@[simp] theorem c129 : Try.prog.cellsOf 129 = 1 := by kernel_rfl
@[simp] theorem b129 : Program.bytesOf' Try.prog 129 = some 8 := by kernel_rfl
@[simp] theorem z129 : Program.zeroOf Try.prog 129 = some .nilFunc := by kernel_rfl
@[simp] theorem i129 : (Try.prog.info? 129).isSome = true := by kernel_rfl
attribute [simp] Try.underlying129
@[simp] theorem c130 : Try.prog.cellsOf 130 = 1 := by kernel_rfl
@[simp] theorem b130 : Program.bytesOf' Try.prog 130 = some 24 := by kernel_rfl
@[simp] theorem z130 : Program.zeroOf Try.prog 130 = some (.slice none 0 0) := by kernel_rfl
@[simp] theorem i130 : (Try.prog.info? 130).isSome = true := by kernel_rfl
attribute [simp] Try.underlying130
@[simp] theorem c131 : Try.prog.cellsOf 131 = 1 := by kernel_rfl
@[simp] theorem b131 : Program.bytesOf' Try.prog 131 = some 8 := by kernel_rfl
@[simp] theorem z131 : Program.zeroOf Try.prog 131 = some .nilFunc := by kernel_rfl
@[simp] theorem i131 : (Try.prog.info? 131).isSome = true := by kernel_rfl
attribute [simp] Try.underlying131
@[simp] theorem c132 : Try.prog.cellsOf 132 = 1 := by kernel_rfl
@[simp] theorem b132 : Program.bytesOf' Try.prog 132 = some 8 := by kernel_rfl
@[simp] theorem z132 : Program.zeroOf Try.prog 132 = some .nilFunc := by kernel_rfl
@[simp] theorem i132 : (Try.prog.info? 132).isSome = true := by kernel_rfl
attribute [simp] Try.underlying132
@[simp] theorem c133 : Try.prog.cellsOf 133 = 2 := by kernel_rfl
@[simp] theorem b133 : Program.bytesOf' Try.prog 133 = some 16 := by kernel_rfl
@[simp] theorem z133 : Program.zeroOf Try.prog 133 = some (.agg #[.nilFunc, (.int .i64 0)]) := by kernel_rfl
@[simp] theorem i133 : (Try.prog.info? 133).isSome = true := by kernel_rfl
attribute [simp] Try.underlying133
@[simp] theorem c134 : Try.prog.cellsOf 134 = 2 := by kernel_rfl
@[simp] theorem b134 : Program.bytesOf' Try.prog 134 = some 16 := by kernel_rfl
@[simp] theorem z134 : Program.zeroOf Try.prog 134 = some (.agg #[.nilFunc, (.int .i64 0)]) := by kernel_rfl
@[simp] theorem i134 : (Try.prog.info? 134).isSome = true := by kernel_rfl
attribute [simp] Try.underlying134
@[simp] theorem c135 : Try.prog.cellsOf 135 = 7 := by kernel_rfl
@[simp] theorem b135 : Program.bytesOf' Try.prog 135 = some 104 := by kernel_rfl
@[simp] theorem z135 : Program.zeroOf Try.prog 135 = some (.agg #[(.int .i64 0), (.int .i64 0), (.int .i64 0), (.int .i64 0), (.slice none 0 0), (.slice none 0 0), (.slice none 0 0)]) := by kernel_rfl
@[simp] theorem i135 : (Try.prog.info? 135).isSome = true := by kernel_rfl
attribute [simp] Try.underlying135
@[simp] theorem c136 : Try.prog.cellsOf 136 = 7 := by kernel_rfl
@[simp] theorem b136 : Program.bytesOf' Try.prog 136 = some 104 := by kernel_rfl
@[simp] theorem z136 : Program.zeroOf Try.prog 136 = some (.agg #[(.int .i64 0), (.int .i64 0), (.int .i64 0), (.int .i64 0), (.slice none 0 0), (.slice none 0 0), (.slice none 0 0)]) := by kernel_rfl
@[simp] theorem i136 : (Try.prog.info? 136).isSome = true := by kernel_rfl
attribute [simp] Try.underlying136
@[simp] theorem c137 : Try.prog.cellsOf 137 = 1 := by kernel_rfl
@[simp] theorem b137 : Program.bytesOf' Try.prog 137 = some 8 := by kernel_rfl
@[simp] theorem z137 : Program.zeroOf Try.prog 137 = some (.int .u64 0) := by kernel_rfl
@[simp] theorem i137 : (Try.prog.info? 137).isSome = true := by kernel_rfl
attribute [simp] Try.underlying137
@[simp] theorem c138 : Try.prog.cellsOf 138 = 1 := by kernel_rfl
@[simp] theorem b138 : Program.bytesOf' Try.prog 138 = some 8 := by kernel_rfl
@[simp] theorem z138 : Program.zeroOf Try.prog 138 = some .nilFunc := by kernel_rfl
@[simp] theorem i138 : (Try.prog.info? 138).isSome = true := by kernel_rfl
attribute [simp] Try.underlying138
@[simp] theorem c139 : Try.prog.cellsOf 139 = 1 := by kernel_rfl
@[simp] theorem b139 : Program.bytesOf' Try.prog 139 = some 8 := by kernel_rfl
@[simp] theorem z139 : Program.zeroOf Try.prog 139 = some .nilFunc := by kernel_rfl
@[simp] theorem i139 : (Try.prog.info? 139).isSome = true := by kernel_rfl
attribute [simp] Try.underlying139
@[simp] theorem c140 : Try.prog.cellsOf 140 = 1 := by kernel_rfl
@[simp] theorem b140 : Program.bytesOf' Try.prog 140 = some 8 := by kernel_rfl
@[simp] theorem z140 : Program.zeroOf Try.prog 140 = some .nilFunc := by kernel_rfl
@[simp] theorem i140 : (Try.prog.info? 140).isSome = true := by kernel_rfl
attribute [simp] Try.underlying140
@[simp] theorem c141 : Try.prog.cellsOf 141 = 1 := by kernel_rfl
@[simp] theorem b141 : Program.bytesOf' Try.prog 141 = some 8 := by kernel_rfl
@[simp] theorem z141 : Program.zeroOf Try.prog 141 = some (.pointer none) := by kernel_rfl
@[simp] theorem i141 : (Try.prog.info? 141).isSome = true := by kernel_rfl
attribute [simp] Try.underlying141
@[simp] theorem c142 : Try.prog.cellsOf 142 = 1 := by kernel_rfl
@[simp] theorem b142 : Program.bytesOf' Try.prog 142 = some 8 := by kernel_rfl
@[simp] theorem z142 : Program.zeroOf Try.prog 142 = some .nilFunc := by kernel_rfl
@[simp] theorem i142 : (Try.prog.info? 142).isSome = true := by kernel_rfl
attribute [simp] Try.underlying142
@[simp] theorem c143 : Try.prog.cellsOf 143 = 1 := by kernel_rfl
@[simp] theorem b143 : Program.bytesOf' Try.prog 143 = some 8 := by kernel_rfl
@[simp] theorem z143 : Program.zeroOf Try.prog 143 = some .nilFunc := by kernel_rfl
@[simp] theorem i143 : (Try.prog.info? 143).isSome = true := by kernel_rfl
attribute [simp] Try.underlying143
@[simp] theorem c144 : Try.prog.cellsOf 144 = 1 := by kernel_rfl
@[simp] theorem b144 : Program.bytesOf' Try.prog 144 = some 8 := by kernel_rfl
@[simp] theorem z144 : Program.zeroOf Try.prog 144 = some .nilFunc := by kernel_rfl
@[simp] theorem i144 : (Try.prog.info? 144).isSome = true := by kernel_rfl
attribute [simp] Try.underlying144
@[simp] theorem c145 : Try.prog.cellsOf 145 = 1 := by kernel_rfl
@[simp] theorem b145 : Program.bytesOf' Try.prog 145 = some 8 := by kernel_rfl
@[simp] theorem z145 : Program.zeroOf Try.prog 145 = some .nilFunc := by kernel_rfl
@[simp] theorem i145 : (Try.prog.info? 145).isSome = true := by kernel_rfl
attribute [simp] Try.underlying145
@[simp] theorem c146 : Try.prog.cellsOf 146 = 1 := by kernel_rfl
@[simp] theorem b146 : Program.bytesOf' Try.prog 146 = some 8 := by kernel_rfl
@[simp] theorem z146 : Program.zeroOf Try.prog 146 = some .nilFunc := by kernel_rfl
@[simp] theorem i146 : (Try.prog.info? 146).isSome = true := by kernel_rfl
attribute [simp] Try.underlying146
@[simp] theorem c147 : Try.prog.cellsOf 147 = 1 := by kernel_rfl
@[simp] theorem b147 : Program.bytesOf' Try.prog 147 = some 8 := by kernel_rfl
@[simp] theorem z147 : Program.zeroOf Try.prog 147 = some .nilFunc := by kernel_rfl
@[simp] theorem i147 : (Try.prog.info? 147).isSome = true := by kernel_rfl
attribute [simp] Try.underlying147
@[simp] theorem c148 : Try.prog.cellsOf 148 = 1 := by kernel_rfl
@[simp] theorem b148 : Program.bytesOf' Try.prog 148 = some 8 := by kernel_rfl
@[simp] theorem z148 : Program.zeroOf Try.prog 148 = some .nilFunc := by kernel_rfl
@[simp] theorem i148 : (Try.prog.info? 148).isSome = true := by kernel_rfl
attribute [simp] Try.underlying148
@[simp] theorem c149 : Try.prog.cellsOf 149 = 1 := by kernel_rfl
@[simp] theorem b149 : Program.bytesOf' Try.prog 149 = some 8 := by kernel_rfl
@[simp] theorem z149 : Program.zeroOf Try.prog 149 = some .nilFunc := by kernel_rfl
@[simp] theorem i149 : (Try.prog.info? 149).isSome = true := by kernel_rfl
attribute [simp] Try.underlying149
@[simp] theorem c150 : Try.prog.cellsOf 150 = 1 := by kernel_rfl
@[simp] theorem b150 : Program.bytesOf' Try.prog 150 = some 8 := by kernel_rfl
@[simp] theorem z150 : Program.zeroOf Try.prog 150 = some .nilFunc := by kernel_rfl
@[simp] theorem i150 : (Try.prog.info? 150).isSome = true := by kernel_rfl
attribute [simp] Try.underlying150
@[simp] theorem c151 : Try.prog.cellsOf 151 = 1 := by kernel_rfl
@[simp] theorem b151 : Program.bytesOf' Try.prog 151 = some 8 := by kernel_rfl
@[simp] theorem z151 : Program.zeroOf Try.prog 151 = some (.pointer none) := by kernel_rfl
@[simp] theorem i151 : (Try.prog.info? 151).isSome = true := by kernel_rfl
attribute [simp] Try.underlying151
@[simp] theorem c152 : Try.prog.cellsOf 152 = 1 := by kernel_rfl
@[simp] theorem b152 : Program.bytesOf' Try.prog 152 = some 0 := by kernel_rfl
@[simp] theorem i152 : (Try.prog.info? 152).isSome = true := by kernel_rfl
attribute [simp] Try.underlying152
@[simp] theorem c153 : Try.prog.cellsOf 153 = 1 := by kernel_rfl
@[simp] theorem b153 : Program.bytesOf' Try.prog 153 = some 8 := by kernel_rfl
@[simp] theorem z153 : Program.zeroOf Try.prog 153 = some .nilFunc := by kernel_rfl
@[simp] theorem i153 : (Try.prog.info? 153).isSome = true := by kernel_rfl
attribute [simp] Try.underlying153
@[simp] theorem c154 : Try.prog.cellsOf 154 = 1 := by kernel_rfl
@[simp] theorem b154 : Program.bytesOf' Try.prog 154 = some 8 := by kernel_rfl
@[simp] theorem z154 : Program.zeroOf Try.prog 154 = some .nilFunc := by kernel_rfl
@[simp] theorem i154 : (Try.prog.info? 154).isSome = true := by kernel_rfl
attribute [simp] Try.underlying154
@[simp] theorem c155 : Try.prog.cellsOf 155 = 1 := by kernel_rfl
@[simp] theorem b155 : Program.bytesOf' Try.prog 155 = some 8 := by kernel_rfl
@[simp] theorem z155 : Program.zeroOf Try.prog 155 = some .nilFunc := by kernel_rfl
@[simp] theorem i155 : (Try.prog.info? 155).isSome = true := by kernel_rfl
attribute [simp] Try.underlying155
@[simp] theorem c156 : Try.prog.cellsOf 156 = 1 := by kernel_rfl
@[simp] theorem b156 : Program.bytesOf' Try.prog 156 = some 8 := by kernel_rfl
@[simp] theorem z156 : Program.zeroOf Try.prog 156 = some .nilFunc := by kernel_rfl
@[simp] theorem i156 : (Try.prog.info? 156).isSome = true := by kernel_rfl
attribute [simp] Try.underlying156
@[simp] theorem c157 : Try.prog.cellsOf 157 = 1 := by kernel_rfl
@[simp] theorem b157 : Program.bytesOf' Try.prog 157 = some 8 := by kernel_rfl
@[simp] theorem z157 : Program.zeroOf Try.prog 157 = some .nilFunc := by kernel_rfl
@[simp] theorem i157 : (Try.prog.info? 157).isSome = true := by kernel_rfl
attribute [simp] Try.underlying157
@[simp] theorem c158 : Try.prog.cellsOf 158 = 1 := by kernel_rfl
@[simp] theorem b158 : Program.bytesOf' Try.prog 158 = some 8 := by kernel_rfl
@[simp] theorem z158 : Program.zeroOf Try.prog 158 = some .nilFunc := by kernel_rfl
@[simp] theorem i158 : (Try.prog.info? 158).isSome = true := by kernel_rfl
attribute [simp] Try.underlying158
@[simp] theorem c159 : Try.prog.cellsOf 159 = 4 := by kernel_rfl
@[simp] theorem b159 : Program.bytesOf' Try.prog 159 = some 40 := by kernel_rfl
@[simp] theorem z159 : Program.zeroOf Try.prog 159 = some (.agg #[(.pointer none), (.pointer none), (.pointer none), (.string ⟨#[]⟩)]) := by kernel_rfl
@[simp] theorem i159 : (Try.prog.info? 159).isSome = true := by kernel_rfl
attribute [simp] Try.underlying159
@[simp] theorem c160 : Try.prog.cellsOf 160 = 4 := by kernel_rfl
@[simp] theorem b160 : Program.bytesOf' Try.prog 160 = some 40 := by kernel_rfl
@[simp] theorem z160 : Program.zeroOf Try.prog 160 = some (.agg #[(.pointer none), (.pointer none), (.pointer none), (.string ⟨#[]⟩)]) := by kernel_rfl
@[simp] theorem i160 : (Try.prog.info? 160).isSome = true := by kernel_rfl
attribute [simp] Try.underlying160
@[simp] theorem c161 : Try.prog.cellsOf 161 = 0 := by kernel_rfl
@[simp] theorem b161 : Program.bytesOf' Try.prog 161 = some 0 := by kernel_rfl
@[simp] theorem z161 : Program.zeroOf Try.prog 161 = some (.agg #[]) := by kernel_rfl
@[simp] theorem i161 : (Try.prog.info? 161).isSome = true := by kernel_rfl
attribute [simp] Try.underlying161
@[simp] theorem c162 : Try.prog.cellsOf 162 = 0 := by kernel_rfl
@[simp] theorem b162 : Program.bytesOf' Try.prog 162 = some 0 := by kernel_rfl
@[simp] theorem z162 : Program.zeroOf Try.prog 162 = some (.agg #[]) := by kernel_rfl
@[simp] theorem i162 : (Try.prog.info? 162).isSome = true := by kernel_rfl
attribute [simp] Try.underlying162
@[simp] theorem c163 : Try.prog.cellsOf 163 = 0 := by kernel_rfl
@[simp] theorem b163 : Program.bytesOf' Try.prog 163 = some 0 := by kernel_rfl
@[simp] theorem z163 : Program.zeroOf Try.prog 163 = some (.agg #[]) := by kernel_rfl
@[simp] theorem i163 : (Try.prog.info? 163).isSome = true := by kernel_rfl
attribute [simp] Try.underlying163
@[simp] theorem c164 : Try.prog.cellsOf 164 = 1 := by kernel_rfl
@[simp] theorem b164 : Program.bytesOf' Try.prog 164 = some 1 := by kernel_rfl
@[simp] theorem z164 : Program.zeroOf Try.prog 164 = some (.int .u8 0) := by kernel_rfl
@[simp] theorem i164 : (Try.prog.info? 164).isSome = true := by kernel_rfl
attribute [simp] Try.underlying164
@[simp] theorem c165 : Try.prog.cellsOf 165 = 1 := by kernel_rfl
@[simp] theorem b165 : Program.bytesOf' Try.prog 165 = some 1 := by kernel_rfl
@[simp] theorem z165 : Program.zeroOf Try.prog 165 = some (.int .u8 0) := by kernel_rfl
@[simp] theorem i165 : (Try.prog.info? 165).isSome = true := by kernel_rfl
attribute [simp] Try.underlying165
@[simp] theorem c166 : Try.prog.cellsOf 166 = 1 := by kernel_rfl
@[simp] theorem b166 : Program.bytesOf' Try.prog 166 = some 8 := by kernel_rfl
@[simp] theorem z166 : Program.zeroOf Try.prog 166 = some .nilFunc := by kernel_rfl
@[simp] theorem i166 : (Try.prog.info? 166).isSome = true := by kernel_rfl
attribute [simp] Try.underlying166
@[simp] theorem c167 : Try.prog.cellsOf 167 = 1 := by kernel_rfl
@[simp] theorem b167 : Program.bytesOf' Try.prog 167 = some 8 := by kernel_rfl
@[simp] theorem z167 : Program.zeroOf Try.prog 167 = some (.pointer none) := by kernel_rfl
@[simp] theorem i167 : (Try.prog.info? 167).isSome = true := by kernel_rfl
attribute [simp] Try.underlying167
@[simp] theorem c168 : Try.prog.cellsOf 168 = 1 := by kernel_rfl
@[simp] theorem b168 : Program.bytesOf' Try.prog 168 = some 4 := by kernel_rfl
@[simp] theorem z168 : Program.zeroOf Try.prog 168 = some (.int .i32 0) := by kernel_rfl
@[simp] theorem i168 : (Try.prog.info? 168).isSome = true := by kernel_rfl
attribute [simp] Try.underlying168
@[simp] theorem c169 : Try.prog.cellsOf 169 = 1 := by kernel_rfl
@[simp] theorem b169 : Program.bytesOf' Try.prog 169 = some 4 := by kernel_rfl
@[simp] theorem z169 : Program.zeroOf Try.prog 169 = some (.int .i32 0) := by kernel_rfl
@[simp] theorem i169 : (Try.prog.info? 169).isSome = true := by kernel_rfl
attribute [simp] Try.underlying169
@[simp] theorem c170 : Try.prog.cellsOf 170 = 11 := by kernel_rfl
@[simp] theorem b170 : Program.bytesOf' Try.prog 170 = some 48 := by kernel_rfl
@[simp] theorem z170 : Program.zeroOf Try.prog 170 = some (.agg #[(.int .u64 0), (.int .u64 0), (.int .u32 0), (.int .u8 0), (.int .u8 0), (.int .u8 0), (.int .u8 0), .nilFunc, (.pointer none), (.int .i32 0), (.int .i32 0)]) := by kernel_rfl
@[simp] theorem i170 : (Try.prog.info? 170).isSome = true := by kernel_rfl
attribute [simp] Try.underlying170
@[simp] theorem c171 : Try.prog.cellsOf 171 = 11 := by kernel_rfl
@[simp] theorem b171 : Program.bytesOf' Try.prog 171 = some 48 := by kernel_rfl
@[simp] theorem z171 : Program.zeroOf Try.prog 171 = some (.agg #[(.int .u64 0), (.int .u64 0), (.int .u32 0), (.int .u8 0), (.int .u8 0), (.int .u8 0), (.int .u8 0), .nilFunc, (.pointer none), (.int .i32 0), (.int .i32 0)]) := by kernel_rfl
@[simp] theorem i171 : (Try.prog.info? 171).isSome = true := by kernel_rfl
attribute [simp] Try.underlying171
@[simp] theorem c172 : Try.prog.cellsOf 172 = 1 := by kernel_rfl
@[simp] theorem b172 : Program.bytesOf' Try.prog 172 = some 0 := by kernel_rfl
@[simp] theorem i172 : (Try.prog.info? 172).isSome = true := by kernel_rfl
attribute [simp] Try.underlying172
@[simp] theorem c173 : Try.prog.cellsOf 173 = 1 := by kernel_rfl
@[simp] theorem b173 : Program.bytesOf' Try.prog 173 = some 8 := by kernel_rfl
@[simp] theorem z173 : Program.zeroOf Try.prog 173 = some (.pointer none) := by kernel_rfl
@[simp] theorem i173 : (Try.prog.info? 173).isSome = true := by kernel_rfl
attribute [simp] Try.underlying173
theorem en2 : Enters Try.prog 2 := enters_of Try.func2 (by kernel_rfl) rfl
theorem en3 : Enters Try.prog 3 := enters_of Try.func3 (by kernel_rfl) rfl
theorem en4 : Enters Try.prog 4 := enters_of Try.func4 (by kernel_rfl) rfl
theorem en5 : Enters Try.prog 5 := enters_of Try.func5 (by kernel_rfl) rfl
theorem en6 : Enters Try.prog 6 := enters_of Try.func6 (by kernel_rfl) rfl
theorem en7 : Enters Try.prog 7 := enters_of Try.func7 (by kernel_rfl) rfl
theorem en8 : Enters Try.prog 8 := enters_of Try.func8 (by kernel_rfl) rfl
theorem en9 : Enters Try.prog 9 := enters_of Try.func9 (by kernel_rfl) rfl
theorem en10 : Enters Try.prog 10 := enters_of Try.func10 (by kernel_rfl) rfl
theorem en11 : Enters Try.prog 11 := enters_of Try.func11 (by kernel_rfl) rfl
theorem en12 : Enters Try.prog 12 := enters_of Try.func12 (by kernel_rfl) rfl
theorem en13 : Enters Try.prog 13 := enters_of Try.func13 (by kernel_rfl) rfl
theorem en14 : Enters Try.prog 14 := enters_of Try.func14 (by kernel_rfl) rfl
theorem en15 : Enters Try.prog 15 := enters_of Try.func15 (by kernel_rfl) rfl
theorem en16 : Enters Try.prog 16 := enters_of Try.func16 (by kernel_rfl) rfl
theorem en17 : Enters Try.prog 17 := enters_of Try.func17 (by kernel_rfl) rfl
theorem en18 : Enters Try.prog 18 := enters_of Try.func18 (by kernel_rfl) rfl
theorem en19 : Enters Try.prog 19 := enters_of Try.func19 (by kernel_rfl) rfl
theorem en20 : Enters Try.prog 20 := enters_of Try.func20 (by kernel_rfl) rfl
theorem en21 : Enters Try.prog 21 := enters_of Try.func21 (by kernel_rfl) rfl
theorem en22 : Enters Try.prog 22 := enters_of Try.func22 (by kernel_rfl) rfl
theorem en23 : Enters Try.prog 23 := enters_of Try.func23 (by kernel_rfl) rfl
theorem en24 : Enters Try.prog 24 := enters_of Try.func24 (by kernel_rfl) rfl
theorem en25 : Enters Try.prog 25 := enters_of Try.func25 (by kernel_rfl) rfl
theorem en26 : Enters Try.prog 26 := enters_of Try.func26 (by kernel_rfl) rfl
theorem en27 : Enters Try.prog 27 := enters_of Try.func27 (by kernel_rfl) rfl
theorem en28 : Enters Try.prog 28 := enters_of Try.func28 (by kernel_rfl) rfl
theorem en29 : Enters Try.prog 29 := enters_of Try.func29 (by kernel_rfl) rfl
theorem en30 : Enters Try.prog 30 := enters_of Try.func30 (by kernel_rfl) rfl
theorem en31 : Enters Try.prog 31 := enters_of Try.func31 (by kernel_rfl) rfl
theorem en32 : Enters Try.prog 32 := enters_of Try.func32 (by kernel_rfl) rfl
theorem en33 : Enters Try.prog 33 := enters_of Try.func33 (by kernel_rfl) rfl
theorem en34 : Enters Try.prog 34 := enters_of Try.func34 (by kernel_rfl) rfl
theorem en35 : Enters Try.prog 35 := enters_of Try.func35 (by kernel_rfl) rfl
theorem en36 : Enters Try.prog 36 := enters_of Try.func36 (by kernel_rfl) rfl
theorem en37 : Enters Try.prog 37 := enters_of Try.func37 (by kernel_rfl) rfl
theorem en38 : Enters Try.prog 38 := enters_of Try.func38 (by kernel_rfl) rfl
theorem en39 : Enters Try.prog 39 := enters_of Try.func39 (by kernel_rfl) rfl
theorem en40 : Enters Try.prog 40 := enters_of Try.func40 (by kernel_rfl) rfl
theorem en41 : Enters Try.prog 41 := enters_of Try.func41 (by kernel_rfl) rfl
theorem en42 : Enters Try.prog 42 := enters_of Try.func42 (by kernel_rfl) rfl
theorem en43 : Enters Try.prog 43 := enters_of Try.func43 (by kernel_rfl) rfl
theorem en44 : Enters Try.prog 44 := enters_of Try.func44 (by kernel_rfl) rfl
theorem en45 : Enters Try.prog 45 := enters_of Try.func45 (by kernel_rfl) rfl
theorem en46 : Enters Try.prog 46 := enters_of Try.func46 (by kernel_rfl) rfl
theorem en47 : Enters Try.prog 47 := enters_of Try.func47 (by kernel_rfl) rfl
theorem en48 : Enters Try.prog 48 := enters_of Try.func48 (by kernel_rfl) rfl
theorem en49 : Enters Try.prog 49 := enters_of Try.func49 (by kernel_rfl) rfl
theorem en50 : Enters Try.prog 50 := enters_of Try.func50 (by kernel_rfl) rfl
theorem en51 : Enters Try.prog 51 := enters_of Try.func51 (by kernel_rfl) rfl
theorem en52 : Enters Try.prog 52 := enters_of Try.func52 (by kernel_rfl) rfl
theorem en53 : Enters Try.prog 53 := enters_of Try.func53 (by kernel_rfl) rfl
theorem en54 : Enters Try.prog 54 := enters_of Try.func54 (by kernel_rfl) rfl
theorem en55 : Enters Try.prog 55 := enters_of Try.func55 (by kernel_rfl) rfl
theorem en56 : Enters Try.prog 56 := enters_of Try.func56 (by kernel_rfl) rfl
theorem en57 : Enters Try.prog 57 := enters_of Try.func57 (by kernel_rfl) rfl
theorem en58 : Enters Try.prog 58 := enters_of Try.func58 (by kernel_rfl) rfl
theorem en59 : Enters Try.prog 59 := enters_of Try.func59 (by kernel_rfl) rfl
theorem en60 : Enters Try.prog 60 := enters_of Try.func60 (by kernel_rfl) rfl
theorem en61 : Enters Try.prog 61 := enters_of Try.func61 (by kernel_rfl) rfl
theorem en62 : Enters Try.prog 62 := enters_of Try.func62 (by kernel_rfl) rfl
theorem en63 : Enters Try.prog 63 := enters_of Try.func63 (by kernel_rfl) rfl
theorem en64 : Enters Try.prog 64 := enters_of Try.func64 (by kernel_rfl) rfl
theorem en65 : Enters Try.prog 65 := enters_of Try.func65 (by kernel_rfl) rfl
theorem en66 : Enters Try.prog 66 := enters_of Try.func66 (by kernel_rfl) rfl
theorem en67 : Enters Try.prog 67 := enters_of Try.func67 (by kernel_rfl) rfl
theorem en68 : Enters Try.prog 68 := enters_of Try.func68 (by kernel_rfl) rfl
theorem en69 : Enters Try.prog 69 := enters_of Try.func69 (by kernel_rfl) rfl
theorem en70 : Enters Try.prog 70 := enters_of Try.func70 (by kernel_rfl) rfl
theorem en71 : Enters Try.prog 71 := enters_of Try.func71 (by kernel_rfl) rfl
theorem en72 : Enters Try.prog 72 := enters_of Try.func72 (by kernel_rfl) rfl
theorem en73 : Enters Try.prog 73 := enters_of Try.func73 (by kernel_rfl) rfl
theorem en74 : Enters Try.prog 74 := enters_of Try.func74 (by kernel_rfl) rfl
theorem en75 : Enters Try.prog 75 := enters_of Try.func75 (by kernel_rfl) rfl
theorem en76 : Enters Try.prog 76 := enters_of Try.func76 (by kernel_rfl) rfl
theorem en77 : Enters Try.prog 77 := enters_of Try.func77 (by kernel_rfl) rfl
theorem en78 : Enters Try.prog 78 := enters_of Try.func78 (by kernel_rfl) rfl
theorem en79 : Enters Try.prog 79 := enters_of Try.func79 (by kernel_rfl) rfl
theorem en80 : Enters Try.prog 80 := enters_of Try.func80 (by kernel_rfl) rfl
theorem en81 : Enters Try.prog 81 := enters_of Try.func81 (by kernel_rfl) rfl
theorem en82 : Enters Try.prog 82 := enters_of Try.func82 (by kernel_rfl) rfl
theorem en83 : Enters Try.prog 83 := enters_of Try.func83 (by kernel_rfl) rfl
theorem en84 : Enters Try.prog 84 := enters_of Try.func84 (by kernel_rfl) rfl
theorem en85 : Enters Try.prog 85 := enters_of Try.func85 (by kernel_rfl) rfl
theorem en86 : Enters Try.prog 86 := enters_of Try.func86 (by kernel_rfl) rfl
theorem en87 : Enters Try.prog 87 := enters_of Try.func87 (by kernel_rfl) rfl
theorem en88 : Enters Try.prog 88 := enters_of Try.func88 (by kernel_rfl) rfl
theorem en89 : Enters Try.prog 89 := enters_of Try.func89 (by kernel_rfl) rfl
theorem en90 : Enters Try.prog 90 := enters_of Try.func90 (by kernel_rfl) rfl
theorem en91 : Enters Try.prog 91 := enters_of Try.func91 (by kernel_rfl) rfl
theorem en92 : Enters Try.prog 92 := enters_of Try.func92 (by kernel_rfl) rfl
theorem en93 : Enters Try.prog 93 := enters_of Try.func93 (by kernel_rfl) rfl
theorem en94 : Enters Try.prog 94 := enters_of Try.func94 (by kernel_rfl) rfl
theorem en95 : Enters Try.prog 95 := enters_of Try.func95 (by kernel_rfl) rfl
theorem en96 : Enters Try.prog 96 := enters_of Try.func96 (by kernel_rfl) rfl
theorem en97 : Enters Try.prog 97 := enters_of Try.func97 (by kernel_rfl) rfl
theorem en98 : Enters Try.prog 98 := enters_of Try.func98 (by kernel_rfl) rfl
theorem en99 : Enters Try.prog 99 := enters_of Try.func99 (by kernel_rfl) rfl
theorem en100 : Enters Try.prog 100 := enters_of Try.func100 (by kernel_rfl) rfl
theorem en101 : Enters Try.prog 101 := enters_of Try.func101 (by kernel_rfl) rfl
theorem en102 : Enters Try.prog 102 := enters_of Try.func102 (by kernel_rfl) rfl
theorem en103 : Enters Try.prog 103 := enters_of Try.func103 (by kernel_rfl) rfl
theorem en104 : Enters Try.prog 104 := enters_of Try.func104 (by kernel_rfl) rfl
theorem en105 : Enters Try.prog 105 := enters_of Try.func105 (by kernel_rfl) rfl
theorem en123 : Enters Try.prog 123 := enters_of Try.func123 (by kernel_rfl) rfl
theorem en124 : Enters Try.prog 124 := enters_of Try.func124 (by kernel_rfl) rfl
theorem en125 : Enters Try.prog 125 := enters_of Try.func125 (by kernel_rfl) rfl
theorem en126 : Enters Try.prog 126 := enters_of Try.func126 (by kernel_rfl) rfl
end Go.Proofs.Ytpifkibgplnnkaa.Pv
