/- The functions of the seat as steps. -/
import Derived.Test.YtpabofkomhffgaaGreatAgsFin
import Derived.Test.YtpabofkomhffgaaGreatRows
set_option linter.unusedVariables false
set_option linter.unusedSimpArgs false
namespace Go.Proofs.YtpabofkomhffgaaGreat
open Go.Ags

theorem noCounter : (Tryz.prog.funcs.all fun fn => !(fn.name == "runtime.NumGoroutine")) = true := by kernel_rfl
theorem plainNames (f : FuncId) (fn : Func) (h : Tryz.prog.funcs[f]? = some fn) : (fn.name == "runtime.NumGoroutine") = false := by
  have h1 := noCounter
  rw [Array.all_eq_true'] at h1
  have h2 := h1 fn (Array.mem_of_getElem? h)
  simpa using h2

def FU : Nat := 4611686018427387904
noncomputable def R0 : Rec := extR Tryz.prog empty FU
theorem R0_good : GoodRec Tryz.prog R0 := extR_good plainNames (empty_good _) FU

-- (*garboard/model.Model).ok
noncomputable def F77 : Value → AH → M := fun v0 h1 => pGen Tryz.prog R0 (Op.binOp BinOp.neq 28 (Operand.tmp 3) (Operand.const (Value.pointer none)) 28) 4 [(3, v0)] h1 (fun v2 h3 => jn (fun (v4 : Value) (h5 : AH) => pPick v2 v4 (Value.bool Bool.false) (fun v6 => some (v6, h5))) (fun j7 => pG v2 Bool.true (pNil v0 (fun v8 => pFad 6 v8 (fun v9 => pLd v9 h3 (fun v10 => pLen v10 (fun v11 => pGt v11 (Value.int IntKind.i64 (Int.ofNat 0)) (fun v12 => j7 v12 h3)))))) (j7 (Value.tuple #[]) h3)))
theorem F77_eq : (F77 : Cur 1) = cur 1 (cFn Tryz.prog R0 FU 77) := by kernel_rfl
noncomputable def R1 : Rec := ext R0 77 1 F77
theorem R1_good : GoodRec Tryz.prog R1 := ext_ok plainNames R0_good F77_eq

-- (*garboard/model.Model).Config
noncomputable def F46 : Value → AH → M := fun v0 h1 => pNew 24 [Value.int IntKind.u64 (Int.ofNat 0), Value.int IntKind.i64 (Int.ofNat 0), Value.int IntKind.i64 (Int.ofNat 0), Value.int IntKind.i64 (Int.ofNat 0), Value.int IntKind.i64 (Int.ofNat 0), Value.int IntKind.i64 (Int.ofNat 0)] h1 (fun v2 h3 => jn (fun (h4 : AH) => pNil v0 (fun v5 => pFad 0 v5 (fun v6 => pLdN 6 v6 h4 (fun v7 => pStN 6 v2 v7 h4 (fun h8 => pLdN 6 v2 h8 (fun v9 => some (v9, h8))))))) (fun j10 => pR (F77 v0 h3) (fun v11 h12 => pNot v11 (fun v13 => pIf v13 (pGen Tryz.prog R1 (Op.build 24 #[]) 24 [] h12 (fun v14 h15 => pStN 6 v2 v14 h15 (fun h16 => pLdN 6 v2 h16 (fun v17 => some (v17, h16))))) (j10 h12)))))
theorem F46_eq : (F46 : Cur 1) = cur 1 (cFn Tryz.prog R1 FU 46) := by kernel_rfl
noncomputable def R2 : Rec := ext R1 46 1 F46
theorem R2_good : GoodRec Tryz.prog R2 := ext_ok plainNames R1_good F46_eq

-- garboard/page.New
noncomputable def F56 : Value → AH → M := fun v0 h1 => jn (fun (v2 : Value) (v3 : Value) (h4 : AH) => pGen Tryz.prog R2 (Op.makeSlice 25 (Operand.tmp 12) (Operand.tmp 12)) 25 [(12, v0), (12, v0)] h4 (fun v5 h6 => pGen Tryz.prog R2 (Op.build 150 #[(0, Operand.tmp 13)]) 150 [(13, v5)] h6 (fun v7 h8 => pBox 150 v7 h8 (fun v9 h10 => jn (fun (h11 : AH) => some (Value.tuple #[v9, Value.int IntKind.i64 (Int.ofNat 0)], h11)) (fun j12 => lp 1 (fun j13 v14 h15 => pLt v14 v0 (fun v16 => jn (fun (h17 : AH) => jn (fun (h18 : AH) => pAdd v14 (Value.int IntKind.i64 (Int.ofNat 1)) (fun v19 => j13 v19 h18)) (fun j20 => pNil v9 (fun v21 => pFad 1 v21 (fun v22 => pLd v22 h17 (fun v23 => pGen Tryz.prog R2 (Op.buildSlice 148 1 #[(0, Operand.tmp 25)]) 148 [(25, v14)] h17 (fun v24 h25 => pGen Tryz.prog R2 (Op.call (Call.mk (Callee.builtin Builtin.append) #[Operand.tmp 24, Operand.tmp 26] #[148, 148])) 148 [(24, v23), (26, v24)] h25 (fun v26 h27 => pNil v9 (fun v28 => pFad 1 v28 (fun v29 => pSt v29 v26 h27 (fun h30 => j20 h30)))))))))) (fun j31 => pIf v16 (j31 h15) (j12 h15)))) FU (Value.int IntKind.i64 (Int.ofNat 0)) h10))))) (fun j32 => pLt v0 (Value.int IntKind.i64 (Int.ofNat 1)) (fun v33 => jn (fun (v34 : Value) (h35 : AH) => pPick v33 (Value.bool Bool.true) v34 (fun v36 => pIf v36 (some (Value.tuple #[Value.pointer none, Value.int IntKind.i64 (Int.ofNat 1)], h35)) (j32 (Value.pointer none) (Value.int IntKind.i64 (Int.ofNat 0)) h35))) (fun j37 => pG v33 Bool.false (pGt v0 (Value.int IntKind.i64 (Int.ofNat 256)) (fun v38 => j37 v38 h1)) (j37 (Value.tuple #[]) h1))))
theorem F56_eq : (F56 : Cur 1) = cur 1 (cFn Tryz.prog R2 FU 56) := by kernel_rfl
noncomputable def R3 : Rec := ext R2 56 1 F56
theorem R3_good : GoodRec Tryz.prog R3 := ext_ok plainNames R2_good F56_eq

-- garboard/kv.grow
noncomputable def F57 : AH → M := fun h0 => pMkMap h0 (fun v1 h2 => pGen Tryz.prog R3 (Op.build 121 #[(5, Operand.tmp 1)]) 121 [(1, v1)] h2 (fun v3 h4 => pBox 121 v3 h4 (fun v5 h6 => some (v5, h6))))
theorem F57_eq : (F57 : Cur 0) = cur 0 (cFn Tryz.prog R3 FU 57) := by kernel_rfl
noncomputable def R4 : Rec := ext R3 57 0 F57
theorem R4_good : GoodRec Tryz.prog R4 := ext_ok plainNames R3_good F57_eq

-- garboard/kv.New
noncomputable def F24 : Value → Value → Value → AH → M := fun v0 v1 v2 h3 => jn (fun (h4 : AH) => pR (F56 v1 h4) (fun v5 h6 => pExt 0 v5 (fun v7 => pExt 1 v5 (fun v8 => jn (fun (h9 : AH) => pR (F57 h9) (fun v10 h11 => pGen Tryz.prog R4 (Op.build 74 #[(0, Operand.tmp 29), (1, Operand.tmp 30), (2, Operand.tmp 31), (4, Operand.tmp 32)]) 74 [(29, v0), (30, v7), (31, v2), (32, v10)] h11 (fun v12 h13 => pBox 74 v12 h13 (fun v14 h15 => some (Value.tuple #[v14, Value.int IntKind.i64 (Int.ofNat 0)], h15))))) (fun j16 => pNe v8 (Value.int IntKind.i64 (Int.ofNat 0)) (fun v17 => jn (fun (v18 : Value) (h19 : AH) => pPick v17 (Value.bool Bool.true) v18 (fun v20 => jn (fun (v21 : Value) (h22 : AH) => pPick v20 (Value.bool Bool.true) v21 (fun v23 => pIf v23 (some (Value.tuple #[Value.pointer none, Value.int IntKind.i64 (Int.ofNat 1)], h22)) (j16 h22))) (fun j24 => pG v20 Bool.false (pGt v2 (Value.int IntKind.i64 (Int.ofNat 16)) (fun v25 => j24 v25 h19)) (j24 (Value.tuple #[]) h19)))) (fun j26 => pG v17 Bool.false (pLt v2 (Value.int IntKind.i64 (Int.ofNat 1)) (fun v27 => j26 v27 h6)) (j26 (Value.tuple #[]) h6)))))))) (fun j28 => pR (F46 v0 h3) (fun v29 h30 => pFl 3 v29 (fun v31 => pEq v31 (Value.int IntKind.i64 (Int.ofNat 0)) (fun v32 => pIf v32 (some (Value.tuple #[Value.pointer none, Value.int IntKind.i64 (Int.ofNat 2)], h30)) (j28 h30)))))
theorem F24_eq : (F24 : Cur 3) = cur 3 (cFn Tryz.prog R4 FU 24) := by kernel_rfl
noncomputable def R5 : Rec := ext R4 24 3 F24
theorem R5_good : GoodRec Tryz.prog R5 := ext_ok plainNames R4_good F24_eq

-- (*garboard/page.free).Swap
noncomputable def F191 : Value → Value → Value → AH → M := fun v0 v1 v2 h3 => pNil v0 (fun v4 => pLd v4 h3 (fun v5 => pNil v0 (fun v6 => pLd v6 h3 (fun v7 => pNil v0 (fun v8 => pLd v8 h3 (fun v9 => pIx 1 v9 v2 (fun v10 => pLd v10 h3 (fun v11 => pNil v0 (fun v12 => pLd v12 h3 (fun v13 => pIx 1 v13 v1 (fun v14 => pLd v14 h3 (fun v15 => pIx 1 v5 v1 (fun v16 => pSt v16 v11 h3 (fun h17 => pIx 1 v7 v2 (fun v18 => pSt v18 v15 h17 (fun h19 => some (Value.tuple #[], h19)))))))))))))))))
theorem F191_eq : (F191 : Cur 3) = cur 3 (cFn Tryz.prog R5 FU 191) := by kernel_rfl
noncomputable def R6 : Rec := ext R5 191 3 F191
theorem R6_good : GoodRec Tryz.prog R6 := ext_ok plainNames R5_good F191_eq

-- (*garboard/page.free).Push
noncomputable def F190 : Value → Value → AH → M := fun v0 v1 h2 => pGen Tryz.prog R6 (Op.typeAssert (Operand.tmp 7) 20 3 Bool.true) 45 [(7, v1)] h2 (fun v3 h4 => pExt 0 v3 (fun v5 => pExt 1 v3 (fun v6 => pIf v6 (pNil v0 (fun v7 => pLd v7 h4 (fun v8 => pGen Tryz.prog R6 (Op.buildSlice 148 1 #[(0, Operand.tmp 16)]) 148 [(16, v5)] h4 (fun v9 h10 => pGen Tryz.prog R6 (Op.call (Call.mk (Callee.builtin Builtin.append) #[Operand.tmp 15, Operand.tmp 17] #[148, 148])) 148 [(15, v8), (17, v9)] h10 (fun v11 h12 => pNil v0 (fun v13 => pSt v13 v11 h12 (fun h14 => some (Value.tuple #[], h14)))))))) (some (Value.tuple #[], h4)))))
theorem F190_eq : (F190 : Cur 2) = cur 2 (cFn Tryz.prog R6 FU 190) := by kernel_rfl
noncomputable def R7 : Rec := ext R6 190 2 F190
theorem R7_good : GoodRec Tryz.prog R7 := ext_ok plainNames R6_good F190_eq

-- (*garboard/page.free).Pop
noncomputable def F189 : Value → AH → M := fun v0 h1 => pNil v0 (fun v2 => pLd v2 h1 (fun v3 => pLen v3 (fun v4 => pSub v4 (Value.int IntKind.i64 (Int.ofNat 1)) (fun v5 => pNil v0 (fun v6 => pLd v6 h1 (fun v7 => pIx 1 v7 v5 (fun v8 => pLd v8 h1 (fun v9 => pNil v0 (fun v10 => pLd v10 h1 (fun v11 => pSl 1 v11 none (some v5) none h1 (fun v12 => pNil v0 (fun v13 => pSt v13 v12 h1 (fun h14 => some (Value.iface 3 v9, h14))))))))))))))
theorem F189_eq : (F189 : Cur 1) = cur 1 (cFn Tryz.prog R7 FU 189) := by kernel_rfl
noncomputable def R8 : Rec := ext R7 189 1 F189
theorem R8_good : GoodRec Tryz.prog R8 := ext_ok plainNames R7_good F189_eq

-- (*garboard/page.free).Less
noncomputable def F188 : Value → Value → Value → AH → M := fun v0 v1 v2 h3 => pNil v0 (fun v4 => pLd v4 h3 (fun v5 => pIx 1 v5 v1 (fun v6 => pLd v6 h3 (fun v7 => pNil v0 (fun v8 => pLd v8 h3 (fun v9 => pIx 1 v9 v2 (fun v10 => pLd v10 h3 (fun v11 => pLt v7 v11 (fun v12 => some (v12, h3))))))))))
theorem F188_eq : (F188 : Cur 3) = cur 3 (cFn Tryz.prog R8 FU 188) := by kernel_rfl
noncomputable def R9 : Rec := ext R8 188 3 F188
theorem R9_good : GoodRec Tryz.prog R9 := ext_ok plainNames R8_good F188_eq

-- (*garboard/page.free).Len
noncomputable def F187 : Value → AH → M := fun v0 h1 => pNil v0 (fun v2 => pLd v2 h1 (fun v3 => pLen v3 (fun v4 => some (v4, h1))))
theorem F187_eq : (F187 : Cur 1) = cur 1 (cFn Tryz.prog R9 FU 187) := by kernel_rfl
noncomputable def R10 : Rec := ext R9 187 1 F187
theorem R10_good : GoodRec Tryz.prog R10 := ext_ok plainNames R9_good F187_eq

-- (*garboard/page.Pool).ok
noncomputable def F95 : Value → AH → M := fun v0 h1 => pGen Tryz.prog R10 (Op.binOp BinOp.neq 71 (Operand.tmp 3) (Operand.const (Value.pointer none)) 71) 4 [(3, v0)] h1 (fun v2 h3 => jn (fun (v4 : Value) (h5 : AH) => pPick v2 v4 (Value.bool Bool.false) (fun v6 => some (v6, h5))) (fun j7 => pG v2 Bool.true (pNil v0 (fun v8 => pFad 0 v8 (fun v9 => pLd v9 h3 (fun v10 => pLen v10 (fun v11 => pGt v11 (Value.int IntKind.i64 (Int.ofNat 0)) (fun v12 => j7 v12 h3)))))) (j7 (Value.tuple #[]) h3)))
theorem F95_eq : (F95 : Cur 1) = cur 1 (cFn Tryz.prog R10 FU 95) := by kernel_rfl
noncomputable def R11 : Rec := ext R10 95 1 F95
theorem R11_good : GoodRec Tryz.prog R11 := ext_ok plainNames R10_good F95_eq

-- (*garboard/page.Pool).Held
noncomputable def F96 : Value → Value → AH → M := fun v0 v1 h2 => jn (fun (h3 : AH) => pNil v0 (fun v4 => pFad 0 v4 (fun v5 => pLd v5 h3 (fun v6 => pIx 1 v6 v1 (fun v7 => pLd v7 h3 (fun v8 => some (v8, h3))))))) (fun j9 => pGen Tryz.prog R11 (Op.binOp BinOp.eql 71 (Operand.tmp 5) (Operand.const (Value.pointer none)) 71) 4 [(5, v0)] h2 (fun v10 h11 => jn (fun (v12 : Value) (h13 : AH) => pPick v10 (Value.bool Bool.true) v12 (fun v14 => jn (fun (v15 : Value) (h16 : AH) => pPick v14 (Value.bool Bool.true) v15 (fun v17 => pIf v17 (some (Value.int IntKind.i64 (Int.ofNat 0), h16)) (j9 h16))) (fun j18 => pG v14 Bool.false (pNil v0 (fun v19 => pFad 0 v19 (fun v20 => pLd v20 h13 (fun v21 => pLen v21 (fun v22 => pGe v1 v22 (fun v23 => j18 v23 h13)))))) (j18 (Value.tuple #[]) h13)))) (fun j24 => pG v10 Bool.false (pLt v1 (Value.int IntKind.i64 (Int.ofNat 0)) (fun v25 => j24 v25 h11)) (j24 (Value.tuple #[]) h11))))
theorem F96_eq : (F96 : Cur 2) = cur 2 (cFn Tryz.prog R11 FU 96) := by kernel_rfl
noncomputable def R12 : Rec := ext R11 96 2 F96
theorem R12_good : GoodRec Tryz.prog R12 := ext_ok plainNames R11_good F96_eq

-- garboard/decode.May$1
noncomputable def F44 : Value → Value → AH → M := fun v0 v1 h2 => pLt v0 (Value.int IntKind.i64 (Int.ofNat 0)) (fun v3 => jn (fun (v4 : Value) (h5 : AH) => pPick v3 (Value.bool Bool.true) v4 (fun v6 => some (v6, h5))) (fun j7 => pG v3 Bool.false (pFad 1 v1 (fun v8 => pLd v8 h2 (fun v9 => pGe v0 v9 (fun v10 => j7 v10 h2)))) (j7 (Value.tuple #[]) h2)))
theorem F44_eq : (F44 : Cur 2) = cur 2 (cFn Tryz.prog R12 FU 44) := by kernel_rfl
noncomputable def R13 : Rec := ext R12 44 2 F44
theorem R13_good : GoodRec Tryz.prog R13 := ext_ok plainNames R12_good F44_eq

-- garboard/fixed.between[int64]
noncomputable def F100 : Value → Value → Value → AH → M := fun v0 v1 v2 h3 => pMin v0 v2 (fun v4 => pMax v4 v1 (fun v5 => some (v5, h3)))
theorem F100_eq : (F100 : Cur 3) = cur 3 (cFn Tryz.prog R13 FU 100) := by kernel_rfl
noncomputable def R14 : Rec := ext R13 100 3 F100
theorem R14_good : GoodRec Tryz.prog R14 := ext_ok plainNames R13_good F100_eq

-- garboard/fixed.Within
noncomputable def F74 : Value → AH → M := fun v0 h1 => pR (F100 v0 (Value.int IntKind.i64 (Int.negSucc 2147483647)) (Value.int IntKind.i64 (Int.ofNat 2147483647)) h1) (fun v2 h3 => some (v2, h3))
theorem F74_eq : (F74 : Cur 1) = cur 1 (cFn Tryz.prog R14 FU 74) := by kernel_rfl
noncomputable def R15 : Rec := ext R14 74 1 F74
theorem R15_good : GoodRec Tryz.prog R15 := ext_ok plainNames R14_good F74_eq

-- garboard/vec.Relu$1
noncomputable def F164 : Value → AH → M := fun v0 h1 => pR (F74 v0 h1) (fun v2 h3 => pMax v2 (Value.int IntKind.i64 (Int.ofNat 0)) (fun v4 => some (v4, h3)))
theorem F164_eq : (F164 : Cur 1) = cur 1 (cFn Tryz.prog R15 FU 164) := by kernel_rfl
noncomputable def R16 : Rec := ext R15 164 1 F164
theorem R16_good : GoodRec Tryz.prog R16 := ext_ok plainNames R15_good F164_eq

-- garboard/fixed.Mul
noncomputable def F41 : Value → Value → AH → M := fun v0 v1 h2 => pR (F74 v0 h2) (fun v3 h4 => pR (F74 v1 h4) (fun v5 h6 => pMul v3 v5 (fun v7 => pShr v7 (Value.int IntKind.u64 (Int.ofNat 16)) (fun v8 => pR (F74 v8 h6) (fun v9 h10 => some (v9, h10))))))
theorem F41_eq : (F41 : Cur 2) = cur 2 (cFn Tryz.prog R16 FU 41) := by kernel_rfl
noncomputable def R17 : Rec := ext R16 41 2 F41
theorem R17_good : GoodRec Tryz.prog R17 := ext_ok plainNames R16_good F41_eq

-- garboard/vec.Scale$1
noncomputable def F168 : Value → Value → AH → M := fun v0 v1 h2 => pLd v1 h2 (fun v3 => pR (F41 v0 v3 h2) (fun v4 h5 => some (v4, h5)))
theorem F168_eq : (F168 : Cur 2) = cur 2 (cFn Tryz.prog R17 FU 168) := by kernel_rfl
noncomputable def R18 : Rec := ext R17 168 2 F168
theorem R18_good : GoodRec Tryz.prog R18 := ext_ok plainNames R17_good F168_eq

-- garboard/fixed.Add
noncomputable def F107 : Value → Value → AH → M := fun v0 v1 h2 => pR (F74 v0 h2) (fun v3 h4 => pR (F74 v1 h4) (fun v5 h6 => pAdd v3 v5 (fun v7 => pR (F74 v7 h6) (fun v8 h9 => some (v8, h9)))))
theorem F107_eq : (F107 : Cur 2) = cur 2 (cFn Tryz.prog R18 FU 107) := by kernel_rfl
noncomputable def R19 : Rec := ext R18 107 2 F107
theorem R19_good : GoodRec Tryz.prog R19 := ext_ok plainNames R18_good F107_eq

-- garboard/fixed.Exp
noncomputable def F154 : Value → AH → M := fun v0 h1 => pR (F74 v0 h1) (fun v2 h3 => pMul v2 (Value.int IntKind.i64 (Int.ofNat 94548)) (fun v4 => pShr v4 (Value.int IntKind.u64 (Int.ofNat 16)) (fun v5 => pShr v5 (Value.int IntKind.u64 (Int.ofNat 16)) (fun v6 => pAnd v5 (Value.int IntKind.i64 (Int.ofNat 65535)) (fun v7 => pMul v7 (Value.int IntKind.i64 (Int.ofNat 21845)) (fun v8 => pShr v8 (Value.int IntKind.u64 (Int.ofNat 16)) (fun v9 => pAdd (Value.int IntKind.i64 (Int.ofNat 43691)) v9 (fun v10 => pMul v7 v10 (fun v11 => pShr v11 (Value.int IntKind.u64 (Int.ofNat 16)) (fun v12 => pAdd (Value.int IntKind.i64 (Int.ofNat 65536)) v12 (fun v13 => jn (fun (h14 : AH) => pGen Tryz.prog R19 (Op.unOp UnOp.neg 2 (Operand.tmp 34)) 2 [(34, v6)] h14 (fun v15 h16 => pMin v15 (Value.int IntKind.i64 (Int.ofNat 62)) (fun v17 => pShr v13 v17 (fun v18 => some (v18, h16))))) (fun j19 => pGe v6 (Value.int IntKind.i64 (Int.ofNat 16)) (fun v20 => pIf v20 (some (Value.int IntKind.i64 (Int.ofNat 2147483647), h3)) (pGe v6 (Value.int IntKind.i64 (Int.ofNat 0)) (fun v21 => pIf v21 (pShl v13 v6 (fun v22 => pR (F74 v22 h3) (fun v23 h24 => some (v23, h24)))) (j19 h3))))))))))))))))
theorem F154_eq : (F154 : Cur 1) = cur 1 (cFn Tryz.prog R19 FU 154) := by kernel_rfl
noncomputable def R20 : Rec := ext R19 154 1 F154
theorem R20_good : GoodRec Tryz.prog R20 := ext_ok plainNames R19_good F154_eq

-- garboard/vec.Soft$1
noncomputable def F153 : Value → Value → Value → AH → M := fun v0 v1 v2 h3 => pLd v1 h3 (fun v4 => pGen Tryz.prog R20 (Op.unOp UnOp.neg 2 (Operand.tmp 7)) 2 [(7, v4)] h3 (fun v5 h6 => pR (F107 v0 v5 h6) (fun v7 h8 => pR (F154 v7 h8) (fun v9 h10 => pLd v2 h10 (fun v11 => pR (F107 v11 v9 h10) (fun v12 h13 => pSt v2 v12 h13 (fun h14 => some (v9, h14))))))))
theorem F153_eq : (F153 : Cur 3) = cur 3 (cFn Tryz.prog R20 FU 153) := by kernel_rfl
noncomputable def R21 : Rec := ext R20 153 3 F153
theorem R21_good : GoodRec Tryz.prog R21 := ext_ok plainNames R20_good F153_eq

-- garboard/fixed.floored
noncomputable def F147 : Value → Value → AH → M := fun v0 v1 h2 => pQuo v0 v1 (fun v3 => jn (fun (v4 : Value) (h5 : AH) => some (v4, h5)) (fun j6 => pRem v0 v1 (fun v7 => pNe v7 (Value.int IntKind.i64 (Int.ofNat 0)) (fun v8 => jn (fun (v9 : Value) (h10 : AH) => pPick v8 v9 (Value.bool Bool.false) (fun v11 => pIf v11 (pSub v3 (Value.int IntKind.i64 (Int.ofNat 1)) (fun v12 => j6 v12 h10)) (j6 v3 h10))) (fun j13 => pG v8 Bool.true (pLt v0 (Value.int IntKind.i64 (Int.ofNat 0)) (fun v14 => pLt v1 (Value.int IntKind.i64 (Int.ofNat 0)) (fun v15 => pGen Tryz.prog R21 (Op.binOp BinOp.neq 4 (Operand.tmp 15) (Operand.tmp 17) 4) 4 [(15, v14), (17, v15)] h2 (fun v16 h17 => j13 v16 h17)))) (j13 (Value.tuple #[]) h2))))))
theorem F147_eq : (F147 : Cur 2) = cur 2 (cFn Tryz.prog R21 FU 147) := by kernel_rfl
noncomputable def R22 : Rec := ext R21 147 2 F147
theorem R22_good : GoodRec Tryz.prog R22 := ext_ok plainNames R21_good F147_eq

-- garboard/fixed.Div
noncomputable def F111 : Value → Value → AH → M := fun v0 v1 h2 => pR (F74 v0 h2) (fun v3 h4 => pR (F74 v1 h4) (fun v5 h6 => jn (fun (h7 : AH) => some (Value.int IntKind.i64 (Int.ofNat 0), h7)) (fun j8 => pNe v5 (Value.int IntKind.i64 (Int.ofNat 0)) (fun v9 => pIf v9 (pShl v3 (Value.int IntKind.u64 (Int.ofNat 16)) (fun v10 => pR (F147 v10 v5 h6) (fun v11 h12 => pR (F74 v11 h12) (fun v13 h14 => some (v13, h14))))) (pGt v3 (Value.int IntKind.i64 (Int.ofNat 0)) (fun v15 => pIf v15 (some (Value.int IntKind.i64 (Int.ofNat 2147483647), h6)) (pLt v3 (Value.int IntKind.i64 (Int.ofNat 0)) (fun v16 => pIf v16 (some (Value.int IntKind.i64 (Int.negSucc 2147483647), h6)) (j8 h6)))))))))
theorem F111_eq : (F111 : Cur 2) = cur 2 (cFn Tryz.prog R22 FU 111) := by kernel_rfl
noncomputable def R23 : Rec := ext R22 111 2 F111
theorem R23_good : GoodRec Tryz.prog R23 := ext_ok plainNames R22_good F111_eq

-- garboard/vec.Soft$2
noncomputable def F155 : Value → Value → AH → M := fun v0 v1 h2 => pLd v1 h2 (fun v3 => pR (F111 v0 v3 h2) (fun v4 h5 => some (v4, h5)))
theorem F155_eq : (F155 : Cur 2) = cur 2 (cFn Tryz.prog R23 FU 155) := by kernel_rfl
noncomputable def R24 : Rec := ext R23 155 2 F155
theorem R24_good : GoodRec Tryz.prog R24 := ext_ok plainNames R23_good F155_eq

-- garboard/vec.Norm$1
noncomputable def F156 : Value → Value → AH → M := fun v0 v1 h2 => pLd v1 h2 (fun v3 => pR (F111 v0 v3 h2) (fun v4 h5 => some (v4, h5)))
theorem F156_eq : (F156 : Cur 2) = cur 2 (cFn Tryz.prog R24 FU 156) := by kernel_rfl
noncomputable def R25 : Rec := ext R24 156 2 F156
theorem R25_good : GoodRec Tryz.prog R25 := ext_ok plainNames R24_good F156_eq

-- garboard/model.in
noncomputable def F71 : Value → Value → Value → AH → M := fun v0 v1 v2 h3 => pLe v1 v0 (fun v4 => jn (fun (v5 : Value) (h6 : AH) => pPick v4 v5 (Value.bool Bool.false) (fun v7 => some (v7, h6))) (fun j8 => pG v4 Bool.true (pLe v0 v2 (fun v9 => j8 v9 h3)) (j8 (Value.tuple #[]) h3)))
theorem F71_eq : (F71 : Cur 3) = cur 3 (cFn Tryz.prog R25 FU 71) := by kernel_rfl
noncomputable def R26 : Rec := ext R25 71 3 F71
theorem R26_good : GoodRec Tryz.prog R26 := ext_ok plainNames R25_good F71_eq

-- slices.Clone[[]int64,int64]
noncomputable def F105 : Value → AH → M := fun v0 h1 => jn (fun (h2 : AH) => pGen Tryz.prog R26 (Op.buildSlice 85 0 #[]) 85 [] h2 (fun v3 h4 => pGen Tryz.prog R26 (Op.call (Call.mk (Callee.builtin Builtin.append) #[Operand.tmp 5, Operand.tmp 6] #[85, 85])) 85 [(5, v3), (6, v0)] h4 (fun v5 h6 => some (v5, h6)))) (fun j7 => pGen Tryz.prog R26 (Op.binOp BinOp.eql 85 (Operand.tmp 3) (Operand.const (Value.slice none 0 0)) 85) 4 [(3, v0)] h1 (fun v8 h9 => pIf v8 (some (Value.slice none 0 0, h9)) (j7 h9)))
theorem F105_eq : (F105 : Cur 1) = cur 1 (cFn Tryz.prog R26 FU 105) := by kernel_rfl
noncomputable def R27 : Rec := ext R26 105 1 F105
theorem R27_good : GoodRec Tryz.prog R27 := ext_ok plainNames R26_good F105_eq

-- (*garboard/model.Model).Rows
noncomputable def F141 : Value → Value → Value → AH → M := fun v0 v1 v2 h3 => jn (fun (v4 : Value) (h5 : AH) => jn (fun (v6 : Value) (h7 : AH) => some (v6, h7)) (fun j8 => pNil v0 (fun v9 => pFad 6 v9 (fun v10 => pLd v10 h5 (fun v11 => pMul (Value.int IntKind.i64 (Int.ofNat 6)) v1 (fun v12 => pAdd (Value.int IntKind.i64 (Int.ofNat 2)) v12 (fun v13 => pAdd v13 v2 (fun v14 => pIx 1 v11 v14 (fun v15 => pLd v15 h5 (fun v16 => pLen v16 (fun v17 => lp 2 (fun j18 v19 v20 h21 => pLt v20 v17 (fun v22 => jn (fun (h23 : AH) => jn (fun (v24 : Value) (h25 : AH) => pAdd v20 (Value.int IntKind.i64 (Int.ofNat 1)) (fun v26 => j18 v24 v26 h25)) (fun j27 => pIx 1 v16 v20 (fun v28 => pLd v28 h23 (fun v29 => pR (F105 v29 h23) (fun v30 h31 => pGen Tryz.prog R27 (Op.buildSlice 84 1 #[(0, Operand.tmp 47)]) 84 [(47, v30)] h31 (fun v32 h33 => pGen Tryz.prog R27 (Op.call (Call.mk (Callee.builtin Builtin.append) #[Operand.tmp 45, Operand.tmp 48] #[84, 84])) 84 [(45, v19), (48, v32)] h33 (fun v34 h35 => j27 v34 h35))))))) (fun j36 => pIf v22 (j36 h21) (j8 v19 h21)))) FU (Value.slice none 0 0) (Value.int IntKind.i64 (Int.ofNat 0)) h5))))))))))) (fun j37 => pR (F77 v0 h3) (fun v38 h39 => pNot v38 (fun v40 => jn (fun (v41 : Value) (h42 : AH) => pPick v40 (Value.bool Bool.true) v41 (fun v43 => jn (fun (v44 : Value) (h45 : AH) => pPick v43 (Value.bool Bool.true) v44 (fun v46 => pIf v46 (some (Value.slice none 0 0, h45)) (j37 (Value.slice none 0 0) h45))) (fun j47 => pG v43 Bool.false (pR (F71 v2 (Value.int IntKind.i64 (Int.ofNat 0)) (Value.int IntKind.i64 (Int.ofNat 5)) h42) (fun v48 h49 => pNot v48 (fun v50 => j47 v50 h49))) (j47 (Value.tuple #[]) h42)))) (fun j51 => pG v40 Bool.false (pNil v0 (fun v52 => pFad 0 v52 (fun v53 => pFad 3 v53 (fun v54 => pLd v54 h39 (fun v55 => pSub v55 (Value.int IntKind.i64 (Int.ofNat 1)) (fun v56 => pR (F71 v1 (Value.int IntKind.i64 (Int.ofNat 0)) v56 h39) (fun v57 h58 => pNot v57 (fun v59 => j51 v59 h58)))))))) (j51 (Value.tuple #[]) h39)))))
theorem F141_eq : (F141 : Cur 3) = cur 3 (cFn Tryz.prog R27 FU 141) := by kernel_rfl
noncomputable def R28 : Rec := ext R27 141 3 F141
theorem R28_good : GoodRec Tryz.prog R28 := ext_ok plainNames R27_good F141_eq

-- garboard/attn.Step$1
noncomputable def F140 : Value → Value → Value → AH → M := fun v0 v1 v2 h3 => pLd v1 h3 (fun v4 => pLd v2 h3 (fun v5 => pR (F141 v4 v5 v0 h3) (fun v6 h7 => some (v6, h7))))
theorem F140_eq : (F140 : Cur 3) = cur 3 (cFn Tryz.prog R28 FU 140) := by kernel_rfl
noncomputable def R29 : Rec := ext R28 140 3 F140
theorem R29_good : GoodRec Tryz.prog R29 := ext_ok plainNames R28_good F140_eq

-- garboard/rand.Mix
noncomputable def F138 : Value → AH → M := fun v0 h1 => pShr v0 (Value.int IntKind.u64 (Int.ofNat 30)) (fun v2 => pXor v0 v2 (fun v3 => pMul v3 (Value.int IntKind.u64 (Int.ofNat 13787848793156543929)) (fun v4 => pShr v4 (Value.int IntKind.u64 (Int.ofNat 27)) (fun v5 => pXor v4 v5 (fun v6 => pMul v6 (Value.int IntKind.u64 (Int.ofNat 10723151780598845931)) (fun v7 => pShr v7 (Value.int IntKind.u64 (Int.ofNat 31)) (fun v8 => pXor v7 v8 (fun v9 => some (v9, h1)))))))))
theorem F138_eq : (F138 : Cur 1) = cur 1 (cFn Tryz.prog R29 FU 138) := by kernel_rfl
noncomputable def R30 : Rec := ext R29 138 1 F138
theorem R30_good : GoodRec Tryz.prog R30 := ext_ok plainNames R29_good F138_eq

-- garboard/rand.At
noncomputable def F98 : Value → Value → AH → M := fun v0 v1 h2 => pAdd v1 (Value.int IntKind.u64 (Int.ofNat 1)) (fun v3 => pMul v3 (Value.int IntKind.u64 (Int.ofNat 11400714819323198485)) (fun v4 => pAdd v0 v4 (fun v5 => pR (F138 v5 h2) (fun v6 h7 => some (v6, h7)))))
theorem F98_eq : (F98 : Cur 2) = cur 2 (cFn Tryz.prog R30 FU 98) := by kernel_rfl
noncomputable def R31 : Rec := ext R30 98 2 F98
theorem R31_good : GoodRec Tryz.prog R31 := ext_ok plainNames R30_good F98_eq

-- garboard/rand.Derive
noncomputable def F72 : Value → Value → AH → M := fun v0 v1 h2 => jn (fun (v3 : Value) (h4 : AH) => some (v3, h4)) (fun j5 => pLen v1 (fun v6 => lp 2 (fun j7 v8 v9 h10 => pLt v9 v6 (fun v11 => jn (fun (h12 : AH) => jn (fun (v13 : Value) (h14 : AH) => pAdd v9 (Value.int IntKind.i64 (Int.ofNat 1)) (fun v15 => j7 v13 v15 h14)) (fun j16 => pIx 1 v1 v9 (fun v17 => pLd v17 h12 (fun v18 => pR (F98 v8 v18 h12) (fun v19 h20 => j16 v19 h20))))) (fun j21 => pIf v11 (j21 h10) (j5 v8 h10)))) FU v0 (Value.int IntKind.i64 (Int.ofNat 0)) h2))
theorem F72_eq : (F72 : Cur 2) = cur 2 (cFn Tryz.prog R31 FU 72) := by kernel_rfl
noncomputable def R32 : Rec := ext R31 72 2 F72
theorem R32_good : GoodRec Tryz.prog R32 := ext_ok plainNames R31_good F72_eq

-- math/bits.Mul64
noncomputable def F139 : Value → Value → AH → M := fun v0 v1 h2 => pAnd v0 (Value.int IntKind.u64 (Int.ofNat 4294967295)) (fun v3 => pShr v0 (Value.int IntKind.u64 (Int.ofNat 32)) (fun v4 => pAnd v1 (Value.int IntKind.u64 (Int.ofNat 4294967295)) (fun v5 => pShr v1 (Value.int IntKind.u64 (Int.ofNat 32)) (fun v6 => pMul v3 v5 (fun v7 => pMul v4 v5 (fun v8 => pShr v7 (Value.int IntKind.u64 (Int.ofNat 32)) (fun v9 => pAdd v8 v9 (fun v10 => pAnd v10 (Value.int IntKind.u64 (Int.ofNat 4294967295)) (fun v11 => pShr v10 (Value.int IntKind.u64 (Int.ofNat 32)) (fun v12 => pMul v3 v6 (fun v13 => pAdd v11 v13 (fun v14 => pMul v4 v6 (fun v15 => pAdd v15 v12 (fun v16 => pShr v14 (Value.int IntKind.u64 (Int.ofNat 32)) (fun v17 => pAdd v16 v17 (fun v18 => pMul v0 v1 (fun v19 => some (Value.tuple #[v18, v19], h2))))))))))))))))))
theorem F139_eq : (F139 : Cur 2) = cur 2 (cFn Tryz.prog R32 FU 139) := by kernel_rfl
noncomputable def R33 : Rec := ext R32 139 2 F139
theorem R33_good : GoodRec Tryz.prog R33 := ext_ok plainNames R32_good F139_eq

-- garboard/rand.Below
noncomputable def F99 : Value → Value → Value → AH → M := fun v0 v1 v2 h3 => pR (F98 v0 v1 h3) (fun v4 h5 => pR (F139 v4 v2 h5) (fun v6 h7 => pExt 0 v6 (fun v8 => pExt 1 v6 (fun v9 => some (v8, h7)))))
theorem F99_eq : (F99 : Cur 3) = cur 3 (cFn Tryz.prog R33 FU 99) := by kernel_rfl
noncomputable def R34 : Rec := ext R33 99 3 F99
theorem R34_good : GoodRec Tryz.prog R34 := ext_ok plainNames R33_good F99_eq

-- garboard/model.weight
noncomputable def F73 : Value → Value → Value → AH → M := fun v0 v1 v2 h3 => pMul (Value.int IntKind.i64 (Int.ofNat 64)) v1 (fun v4 => pAdd v4 v2 (fun v5 => pCv IntKind.u64 v5 (fun v6 => pR (F99 v0 v6 (Value.int IntKind.u64 (Int.ofNat 131073)) h3) (fun v7 h8 => pCv IntKind.i64 v7 (fun v9 => pSub v9 (Value.int IntKind.i64 (Int.ofNat 65536)) (fun v10 => some (v10, h8)))))))
theorem F73_eq : (F73 : Cur 3) = cur 3 (cFn Tryz.prog R34 FU 73) := by kernel_rfl
noncomputable def R35 : Rec := ext R34 73 3 F73
theorem R35_good : GoodRec Tryz.prog R35 := ext_ok plainNames R34_good F73_eq

-- (*garboard/model.Model).table
noncomputable def F40 : Value → Value → Value → AH → M := fun v0 v1 v2 h3 => pNil v0 (fun v4 => pFad 0 v4 (fun v5 => pFad 0 v5 (fun v6 => pLd v6 h3 (fun v7 => pCv IntKind.u64 v1 (fun v8 => pGen Tryz.prog R35 (Op.buildSlice 156 1 #[(0, Operand.tmp 17)]) 156 [(17, v8)] h3 (fun v9 h10 => pR (F72 v7 v9 h10) (fun v11 h12 => pGen Tryz.prog R35 (Op.makeSlice 84 (Operand.tmp 20) (Operand.tmp 20)) 84 [(20, v2), (20, v2)] h12 (fun v13 h14 => jn (fun (h15 : AH) => some (v13, h15)) (fun j16 => pLen v13 (fun v17 => lp 1 (fun j18 v19 h20 => pLt v19 v17 (fun v21 => jn (fun (h22 : AH) => jn (fun (h23 : AH) => pAdd v19 (Value.int IntKind.i64 (Int.ofNat 1)) (fun v24 => j18 v24 h23)) (fun j25 => pNil v0 (fun v26 => pFad 0 v26 (fun v27 => pFad 2 v27 (fun v28 => pLd v28 h22 (fun v29 => lp 1 (fun j30 v31 h32 => pLt v31 v29 (fun v33 => jn (fun (h34 : AH) => jn (fun (h35 : AH) => pAdd v31 (Value.int IntKind.i64 (Int.ofNat 1)) (fun v36 => j30 v36 h35)) (fun j37 => pIx 1 v13 v19 (fun v38 => pLd v38 h34 (fun v39 => pR (F73 v11 v19 v31 h34) (fun v40 h41 => pChk [Tr.mk 28 (some (blkOf v38)) [] h34] (Tr.mk 448 none (since h34 h41) h34) (pGen Tryz.prog R35 (Op.buildSlice 85 1 #[(0, Operand.tmp 44)]) 85 [(44, v40)] h41 (fun v42 h43 => pChk [Tr.mk 28 (some (blkOf v38)) [] h34] (Tr.mk 960 (some []) (since h41 h43) h41) (pGen Tryz.prog R35 (Op.call (Call.mk (Callee.builtin Builtin.append) #[Operand.tmp 40, Operand.tmp 45] #[85, 85])) 85 [(40, v39), (45, v42)] h43 (fun v44 h45 => pIx 1 v13 v19 (fun v46 => pSt v46 v44 h45 (fun h47 => j37 h47))))))))))) (fun j48 => pIf v33 (j48 h32) (j25 h32)))) FU (Value.int IntKind.i64 (Int.ofNat 0)) h22)))))) (fun j49 => pIf v21 (j49 h20) (j16 h20)))) FU (Value.int IntKind.i64 (Int.ofNat 0)) h14))))))))))
theorem F40_eq : (F40 : Cur 3) = cur 3 (cFn Tryz.prog R35 FU 40) := by kernel_rfl
noncomputable def R36 : Rec := ext R35 40 3 F40
theorem R36_good : GoodRec Tryz.prog R36 := ext_ok plainNames R35_good F40_eq

-- (*garboard/kv.node).isLeaf
noncomputable def F134 : Value → AH → M := fun v0 h1 => pNil v0 (fun v2 => pFad 20 v2 (fun v3 => pLd v3 h1 (fun v4 => pGen Tryz.prog R36 (Op.call (Call.mk (Callee.builtin Builtin.len) #[Operand.tmp 6] #[119])) 3 [(6, v4)] h1 (fun v5 h6 => pEq v5 (Value.int IntKind.i64 (Int.ofNat 0)) (fun v7 => some (v7, h6))))))
theorem F134_eq : (F134 : Cur 1) = cur 1 (cFn Tryz.prog R36 FU 134) := by kernel_rfl
noncomputable def R37 : Rec := ext R36 134 1 F134
theorem R37_good : GoodRec Tryz.prog R37 := ext_ok plainNames R36_good F134_eq

-- (*garboard/kv.Cache).oldest$1
noncomputable def F135 : Value → Value → Value → Value → AH → M := fun v0 v1 v2 v3 h4 => pLd v1 h4 (fun v5 => pR (aCallV R37 v5 #[v0] h4) (fun v6 h7 => jn (fun (v8 : Value) (h9 : AH) => pPick v6 v8 (Value.bool Bool.false) (fun v10 => jn (fun (v11 : Value) (h12 : AH) => jn (fun (v13 : Value) (h14 : AH) => jn (fun (v15 : Value) (h16 : AH) => pPick v10 v15 (Value.bool Bool.false) (fun v17 => pIf v17 (pSt v3 v0 h16 (fun h18 => some (Value.tuple #[], h18))) (some (Value.tuple #[], h16)))) (fun j19 => pG v10 Bool.true (pPick v11 (Value.bool Bool.true) v13 (fun v20 => j19 v20 h14)) (j19 (Value.tuple #[]) h14))) (fun j21 => pG v11 Bool.false (pNil v0 (fun v22 => pFad 19 v22 (fun v23 => pLd v23 h12 (fun v24 => pLd v3 h12 (fun v25 => pNil v25 (fun v26 => pFad 19 v26 (fun v27 => pLd v27 h12 (fun v28 => pLt v24 v28 (fun v29 => j21 v29 h12))))))))) (j21 (Value.tuple #[]) h12))) (fun j30 => pG v10 Bool.true (pLd v3 h9 (fun v31 => pGen Tryz.prog R37 (Op.binOp BinOp.eql 72 (Operand.tmp 20) (Operand.const (Value.pointer none)) 72) 4 [(20, v31)] h9 (fun v32 h33 => j30 v32 h33))) (j30 (Value.tuple #[]) h9)))) (fun j34 => pG v6 Bool.true (pNil v0 (fun v35 => pFad 19 v35 (fun v36 => pLd v36 h7 (fun v37 => pLd v2 h7 (fun v38 => pNil v38 (fun v39 => pFad 3 v39 (fun v40 => pLd v40 h7 (fun v41 => pLt v37 v41 (fun v42 => j34 v42 h7))))))))) (j34 (Value.tuple #[]) h7))))
theorem F135_eq : (F135 : Cur 4) = cur 4 (cFn Tryz.prog R37 FU 135) := by kernel_rfl
noncomputable def R38 : Rec := ext R37 135 4 F135
theorem R38_good : GoodRec Tryz.prog R38 := ext_ok plainNames R37_good F135_eq

-- container/heap.up
noncomputable def F137 : Value → Value → AH → M := fun v0 v1 h2 => lp 1 (fun j3 v4 h5 => pSub v4 (Value.int IntKind.i64 (Int.ofNat 1)) (fun v6 => pQuo v6 (Value.int IntKind.i64 (Int.ofNat 2)) (fun v7 => jn (fun (h8 : AH) => pGen Tryz.prog R38 (Op.call (Call.mk (Callee.invoke (Operand.tmp 18) "Swap") #[Operand.tmp 19, Operand.tmp 20] #[3, 3])) 0 [(18, v0), (19, v7), (20, v4)] h8 (fun v9 h10 => j3 v7 h10)) (fun j11 => pEq v7 v4 (fun v12 => jn (fun (v13 : Value) (h14 : AH) => pPick v12 (Value.bool Bool.true) v13 (fun v15 => pIf v15 (some (Value.tuple #[], h14)) (j11 h14))) (fun j16 => pG v12 Bool.false (pGen Tryz.prog R38 (Op.call (Call.mk (Callee.invoke (Operand.tmp 12) "Less") #[Operand.tmp 13, Operand.tmp 14] #[3, 3])) 4 [(12, v0), (13, v4), (14, v7)] h5 (fun v17 h18 => pNot v17 (fun v19 => j16 v19 h18))) (j16 (Value.tuple #[]) h5))))))) FU v1 h2
theorem F137_eq : (F137 : Cur 2) = cur 2 (cFn Tryz.prog R38 FU 137) := by kernel_rfl
noncomputable def R39 : Rec := ext R38 137 2 F137
theorem R39_good : GoodRec Tryz.prog R39 := ext_ok plainNames R38_good F137_eq

-- container/heap.Push
noncomputable def F97 : Value → Value → AH → M := fun v0 v1 h2 => pGen Tryz.prog R39 (Op.call (Call.mk (Callee.invoke (Operand.tmp 4) "Push") #[Operand.tmp 5] #[20])) 0 [(4, v0), (5, v1)] h2 (fun v3 h4 => pGen Tryz.prog R39 (Op.call (Call.mk (Callee.invoke (Operand.tmp 8) "Len") #[] #[])) 3 [(8, v0)] h4 (fun v5 h6 => pSub v5 (Value.int IntKind.i64 (Int.ofNat 1)) (fun v7 => pR (F137 v0 v7 h6) (fun v8 h9 => some (Value.tuple #[], h9)))))
theorem F97_eq : (F97 : Cur 2) = cur 2 (cFn Tryz.prog R39 FU 97) := by kernel_rfl
noncomputable def R40 : Rec := ext R39 97 2 F97
theorem R40_good : GoodRec Tryz.prog R40 := ext_ok plainNames R39_good F97_eq

-- (*garboard/page.Pool).Drop
noncomputable def F67 : Value → Value → AH → M := fun v0 v1 h2 => jn (fun (h3 : AH) => pNil v0 (fun v4 => pFad 0 v4 (fun v5 => pLd v5 h3 (fun v6 => pIx 1 v6 v1 (fun v7 => pLd v7 h3 (fun v8 => pSub v8 (Value.int IntKind.i64 (Int.ofNat 1)) (fun v9 => pIx 1 v6 v1 (fun v10 => pSt v10 v9 h3 (fun h11 => jn (fun (h12 : AH) => pNil v0 (fun v13 => pFad 1 v13 (fun v14 => pR (F97 (Value.iface 155 v14) (Value.iface 3 v1) h12) (fun v15 h16 => some (Value.tuple #[Value.bool Bool.true, Value.int IntKind.i64 (Int.ofNat 0)], h16))))) (fun j17 => pNil v0 (fun v18 => pFad 0 v18 (fun v19 => pLd v19 h11 (fun v20 => pIx 1 v20 v1 (fun v21 => pLd v21 h11 (fun v22 => pGt v22 (Value.int IntKind.i64 (Int.ofNat 0)) (fun v23 => pIf v23 (some (Value.tuple #[Value.bool Bool.false, Value.int IntKind.i64 (Int.ofNat 0)], h11)) (j17 h11))))))))))))))))) (fun j24 => pR (F95 v0 h2) (fun v25 h26 => pNot v25 (fun v27 => pIf v27 (some (Value.tuple #[Value.bool Bool.false, Value.int IntKind.i64 (Int.ofNat 2)], h26)) (pR (F96 v0 v1 h26) (fun v28 h29 => pEq v28 (Value.int IntKind.i64 (Int.ofNat 0)) (fun v30 => pIf v30 (some (Value.tuple #[Value.bool Bool.false, Value.int IntKind.i64 (Int.ofNat 1)], h29)) (j24 h29)))))))
theorem F67_eq : (F67 : Cur 2) = cur 2 (cFn Tryz.prog R40 FU 67) := by kernel_rfl
noncomputable def R41 : Rec := ext R40 67 2 F67
theorem R41_good : GoodRec Tryz.prog R41 := ext_ok plainNames R40_good F67_eq

-- (*garboard/kv.Cache).Clear$1
noncomputable def F66 : Value → Value → AH → M := fun v0 v1 h2 => pLd v1 h2 (fun v3 => pNil v3 (fun v4 => pFad 1 v4 (fun v5 => pLd v5 h2 (fun v6 => pNil v0 (fun v7 => pFad 18 v7 (fun v8 => pLd v8 h2 (fun v9 => pR (F67 v6 v9 h2) (fun v10 h11 => some (Value.tuple #[], h11)))))))))
theorem F66_eq : (F66 : Cur 2) = cur 2 (cFn Tryz.prog R41 FU 66) := by kernel_rfl
noncomputable def R42 : Rec := ext R41 66 2 F66
theorem R42_good : GoodRec Tryz.prog R42 := ext_ok plainNames R41_good F66_eq

-- (*garboard/kv.Cache).ok
noncomputable def F58 : Value → AH → M := fun v0 h1 => pGen Tryz.prog R42 (Op.binOp BinOp.neq 51 (Operand.tmp 3) (Operand.const (Value.pointer none)) 51) 4 [(3, v0)] h1 (fun v2 h3 => jn (fun (v4 : Value) (h5 : AH) => pPick v2 v4 (Value.bool Bool.false) (fun v6 => some (v6, h5))) (fun j7 => pG v2 Bool.true (pNil v0 (fun v8 => pFad 4 v8 (fun v9 => pLd v9 h3 (fun v10 => pGen Tryz.prog R42 (Op.binOp BinOp.neq 72 (Operand.tmp 9) (Operand.const (Value.pointer none)) 72) 4 [(9, v10)] h3 (fun v11 h12 => j7 v11 h12))))) (j7 (Value.tuple #[]) h3)))
theorem F58_eq : (F58 : Cur 1) = cur 1 (cFn Tryz.prog R42 FU 58) := by kernel_rfl
noncomputable def R43 : Rec := ext R42 58 1 F58
theorem R43_good : GoodRec Tryz.prog R43 := ext_ok plainNames R42_good F58_eq

-- (*garboard/kv.node).each
noncomputable def F65 : Value → Value → AH → M := fun v0 v1 h2 => pNil v0 (fun v3 => pFad 20 v3 (fun v4 => pLd v4 h2 (fun v5 => pGen Tryz.prog R43 (Op.range 119 (Operand.tmp 9)) 0 [(9, v5)] h2 (fun v6 h7 => lp 0 (fun j8 h9 => pGen Tryz.prog R43 (Op.next (Operand.tmp 10) Bool.false) 0 [(10, v6)] h9 (fun v10 h11 => pExt 0 v10 (fun v12 => jn (fun (h13 : AH) => pGen Tryz.prog R43 (Op.entry (Operand.tmp 10)) 0 [(10, v6)] h13 (fun v14 h15 => pExt 1 v14 (fun v16 => pR (R43.call 65 #[v16, v1] h15) (fun v17 h18 => pR (aCallV R43 v1 #[v16] h18) (fun v19 h20 => j8 h20))))) (fun j21 => pIf v12 (j21 h11) (some (Value.tuple #[], h11)))))) FU h7))))
theorem F65_eq : (F65 : Cur 2) = cur 2 (cFn Tryz.prog R43 FU 65) := by kernel_rfl
noncomputable def R44 : Rec := ext R43 65 2 F65
theorem R44_good : GoodRec Tryz.prog R44 := ext_ok plainNames R43_good F65_eq

-- (*garboard/kv.Cache).Clear
noncomputable def F35 : Value → AH → M := fun v0 h1 => pBox 51 v0 h1 (fun v2 h3 => jn (fun (h4 : AH) => pLd v2 h4 (fun v5 => pNil v5 (fun v6 => pFad 4 v6 (fun v7 => pLd v7 h4 (fun v8 => pR (F65 v8 (Value.func (Fn.func 66) #[] #[v2]) h4) (fun v9 h10 => pLd v2 h10 (fun v11 => pR (F57 h10) (fun v12 h13 => pChk [Tr.mk 0 (some (blkOf v2)) [] h10] (Tr.mk 0 none (since h10 h13) h10) (pNil v11 (fun v14 => pFad 4 v14 (fun v15 => pSt v15 v12 h13 (fun h16 => some (Value.tuple #[], h16))))))))))))) (fun j17 => pLd v2 h3 (fun v18 => pR (F58 v18 h3) (fun v19 h20 => pNot v19 (fun v21 => pIf v21 (some (Value.tuple #[], h20)) (j17 h20))))))
theorem F35_eq : (F35 : Cur 1) = cur 1 (cFn Tryz.prog R44 FU 35) := by kernel_rfl
noncomputable def R45 : Rec := ext R44 35 1 F35
theorem R45_good : GoodRec Tryz.prog R45 := ext_ok plainNames R44_good F35_eq

-- (*garboard/kv.Cache).cut
noncomputable def F61 : Value → Value → Value → AH → M := fun v0 v1 v2 h3 => pNew 115 [Value.int IntKind.i64 (Int.ofNat 0), Value.int IntKind.i64 (Int.ofNat 0), Value.int IntKind.i64 (Int.ofNat 0), Value.int IntKind.i64 (Int.ofNat 0), Value.int IntKind.i64 (Int.ofNat 0), Value.int IntKind.i64 (Int.ofNat 0), Value.int IntKind.i64 (Int.ofNat 0), Value.int IntKind.i64 (Int.ofNat 0), Value.int IntKind.i64 (Int.ofNat 0), Value.int IntKind.i64 (Int.ofNat 0), Value.int IntKind.i64 (Int.ofNat 0), Value.int IntKind.i64 (Int.ofNat 0), Value.int IntKind.i64 (Int.ofNat 0), Value.int IntKind.i64 (Int.ofNat 0), Value.int IntKind.i64 (Int.ofNat 0), Value.int IntKind.i64 (Int.ofNat 0)] h3 (fun v4 h5 => pNew 115 [Value.int IntKind.i64 (Int.ofNat 0), Value.int IntKind.i64 (Int.ofNat 0), Value.int IntKind.i64 (Int.ofNat 0), Value.int IntKind.i64 (Int.ofNat 0), Value.int IntKind.i64 (Int.ofNat 0), Value.int IntKind.i64 (Int.ofNat 0), Value.int IntKind.i64 (Int.ofNat 0), Value.int IntKind.i64 (Int.ofNat 0), Value.int IntKind.i64 (Int.ofNat 0), Value.int IntKind.i64 (Int.ofNat 0), Value.int IntKind.i64 (Int.ofNat 0), Value.int IntKind.i64 (Int.ofNat 0), Value.int IntKind.i64 (Int.ofNat 0), Value.int IntKind.i64 (Int.ofNat 0), Value.int IntKind.i64 (Int.ofNat 0), Value.int IntKind.i64 (Int.ofNat 0)] h5 (fun v6 h7 => jn (fun (h8 : AH) => pGen Tryz.prog R45 (Op.slice 115 (Operand.tmp 8) none none none) 25 [(8, v6)] h8 (fun v9 h10 => pNil v0 (fun v11 => pFad 2 v11 (fun v12 => pLd v12 h10 (fun v13 => pMul v2 v13 (fun v14 => pAdd v2 (Value.int IntKind.i64 (Int.ofNat 1)) (fun v15 => pNil v0 (fun v16 => pFad 2 v16 (fun v17 => pLd v17 h10 (fun v18 => pMul v15 v18 (fun v19 => pSl 1 v1 (some v14) (some v19) none h10 (fun v20 => pGen Tryz.prog R45 (Op.call (Call.mk (Callee.builtin Builtin.copy) #[Operand.tmp 20, Operand.tmp 35] #[25, 25])) 3 [(20, v9), (35, v20)] h10 (fun v21 h22 => pLdN 16 v6 h22 (fun v23 => pStN 16 v4 v23 h22 (fun h24 => pLdN 16 v4 h24 (fun v25 => some (Value.tuple #[v25, Value.bool Bool.true], h24))))))))))))))))) (fun j26 => pAdd v2 (Value.int IntKind.i64 (Int.ofNat 1)) (fun v27 => pNil v0 (fun v28 => pFad 2 v28 (fun v29 => pLd v29 h7 (fun v30 => pMul v27 v30 (fun v31 => pLen v1 (fun v32 => pGt v31 v32 (fun v33 => pIf v33 (pLdN 16 v6 h7 (fun v34 => pStN 16 v4 v34 h7 (fun h35 => pLdN 16 v4 h35 (fun v36 => some (Value.tuple #[v36, Value.bool Bool.false], h35))))) (j26 h7)))))))))))
theorem F61_eq : (F61 : Cur 3) = cur 3 (cFn Tryz.prog R45 FU 61) := by kernel_rfl
noncomputable def R46 : Rec := ext R45 61 3 F61
theorem R46_good : GoodRec Tryz.prog R46 := ext_ok plainNames R45_good F61_eq

-- (*garboard/kv.Cache).walk
noncomputable def F59 : Value → Value → AH → M := fun v0 v1 h2 => pNil v0 (fun v3 => pFad 4 v3 (fun v4 => pLd v4 h2 (fun v5 => pGen Tryz.prog R46 (Op.buildSlice 111 1 #[(0, Operand.tmp 13)]) 111 [(13, v5)] h2 (fun v6 h7 => lp 2 (fun j8 v9 v10 h11 => jn (fun (v12 : Value) (h13 : AH) => pAdd v10 (Value.int IntKind.i64 (Int.ofNat 1)) (fun v14 => j8 v12 v14 h13)) (fun j15 => pR (F61 v0 v1 v10 h11) (fun v16 h17 => pExt 0 v16 (fun v18 => pExt 1 v16 (fun v19 => pNew 115 [Value.int IntKind.i64 (Int.ofNat 0), Value.int IntKind.i64 (Int.ofNat 0), Value.int IntKind.i64 (Int.ofNat 0), Value.int IntKind.i64 (Int.ofNat 0), Value.int IntKind.i64 (Int.ofNat 0), Value.int IntKind.i64 (Int.ofNat 0), Value.int IntKind.i64 (Int.ofNat 0), Value.int IntKind.i64 (Int.ofNat 0), Value.int IntKind.i64 (Int.ofNat 0), Value.int IntKind.i64 (Int.ofNat 0), Value.int IntKind.i64 (Int.ofNat 0), Value.int IntKind.i64 (Int.ofNat 0), Value.int IntKind.i64 (Int.ofNat 0), Value.int IntKind.i64 (Int.ofNat 0), Value.int IntKind.i64 (Int.ofNat 0), Value.int IntKind.i64 (Int.ofNat 0)] h17 (fun v20 h21 => pStN 16 v20 v18 h21 (fun h22 => pIx 1 v9 v10 (fun v23 => pLd v23 h22 (fun v24 => pNil v24 (fun v25 => pFad 20 v25 (fun v26 => pLd v26 h22 (fun v27 => pLdN 16 v20 h22 (fun v28 => pGen Tryz.prog R46 (Op.lookup 119 (Operand.tmp 30) (Operand.tmp 31) Bool.false) 72 [(30, v27), (31, v28)] h22 (fun v29 h30 => jn (fun (h31 : AH) => pGen Tryz.prog R46 (Op.buildSlice 111 1 #[(0, Operand.tmp 41)]) 111 [(41, v29)] h31 (fun v32 h33 => pGen Tryz.prog R46 (Op.call (Call.mk (Callee.builtin Builtin.append) #[Operand.tmp 40, Operand.tmp 42] #[111, 111])) 111 [(40, v9), (42, v32)] h33 (fun v34 h35 => j15 v34 h35))) (fun j36 => pNot v19 (fun v37 => jn (fun (v38 : Value) (h39 : AH) => pPick v37 (Value.bool Bool.true) v38 (fun v40 => pIf v40 (some (v9, h39)) (j36 h39))) (fun j41 => pG v37 Bool.false (pGen Tryz.prog R46 (Op.binOp BinOp.eql 72 (Operand.tmp 36) (Operand.const (Value.pointer none)) 72) 4 [(36, v29)] h30 (fun v42 h43 => j41 v42 h43)) (j41 (Value.tuple #[]) h30)))))))))))))))))) FU v6 (Value.int IntKind.i64 (Int.ofNat 0)) h7))))
theorem F59_eq : (F59 : Cur 2) = cur 2 (cFn Tryz.prog R46 FU 59) := by kernel_rfl
noncomputable def R47 : Rec := ext R46 59 2 F59
theorem R47_good : GoodRec Tryz.prog R47 := ext_ok plainNames R46_good F59_eq

-- (*garboard/kv.Cache).tick
noncomputable def F60 : Value → Value → AH → M := fun v0 v1 h2 => pNil v0 (fun v3 => pFad 3 v3 (fun v4 => pLd v4 h2 (fun v5 => pAdd v5 (Value.int IntKind.i64 (Int.ofNat 1)) (fun v6 => pNil v0 (fun v7 => pFad 3 v7 (fun v8 => pSt v8 v6 h2 (fun h9 => pLen v1 (fun v10 => lp 1 (fun j11 v12 h13 => pLt v12 v10 (fun v14 => jn (fun (h15 : AH) => jn (fun (h16 : AH) => pAdd v12 (Value.int IntKind.i64 (Int.ofNat 1)) (fun v17 => j11 v17 h16)) (fun j18 => pIx 1 v1 v12 (fun v19 => pLd v19 h15 (fun v20 => pNil v0 (fun v21 => pFad 3 v21 (fun v22 => pLd v22 h15 (fun v23 => pNil v20 (fun v24 => pFad 19 v24 (fun v25 => pSt v25 v23 h15 (fun h26 => j18 h26)))))))))) (fun j27 => pIf v14 (j27 h13) (some (Value.tuple #[], h13))))) FU (Value.int IntKind.i64 (Int.ofNat 0)) h9))))))))
theorem F60_eq : (F60 : Cur 2) = cur 2 (cFn Tryz.prog R47 FU 60) := by kernel_rfl
noncomputable def R48 : Rec := ext R47 60 2 F60
theorem R48_good : GoodRec Tryz.prog R48 := ext_ok plainNames R47_good F60_eq

-- (*garboard/kv.Cache).Find
noncomputable def F30 : Value → Value → AH → M := fun v0 v1 h2 => jn (fun (h3 : AH) => pR (F59 v0 v1 h3) (fun v4 h5 => pR (F60 v0 v4 h5) (fun v6 h7 => pLen v4 (fun v8 => pSub v8 (Value.int IntKind.i64 (Int.ofNat 1)) (fun v9 => pIx 1 v4 v9 (fun v10 => pLd v10 h7 (fun v11 => pNil v11 (fun v12 => pFad 17 v12 (fun v13 => pLd v13 h7 (fun v14 => pLen v4 (fun v15 => pSub v15 (Value.int IntKind.i64 (Int.ofNat 1)) (fun v16 => pNil v0 (fun v17 => pFad 2 v17 (fun v18 => pLd v18 h7 (fun v19 => pMul v16 v19 (fun v20 => some (Value.tuple #[v14, v20], h7))))))))))))))))) (fun j21 => pR (F58 v0 h2) (fun v22 h23 => pNot v22 (fun v24 => pIf v24 (some (Value.tuple #[Value.pointer none, Value.int IntKind.i64 (Int.ofNat 0)], h23)) (j21 h23))))
theorem F30_eq : (F30 : Cur 2) = cur 2 (cFn Tryz.prog R48 FU 30) := by kernel_rfl
noncomputable def R49 : Rec := ext R48 30 2 F30
theorem R49_good : GoodRec Tryz.prog R49 := ext_ok plainNames R48_good F30_eq

-- slices.Clone[[]int,int]
noncomputable def F49 : Value → AH → M := fun v0 h1 => jn (fun (h2 : AH) => pGen Tryz.prog R49 (Op.buildSlice 25 0 #[]) 25 [] h2 (fun v3 h4 => pGen Tryz.prog R49 (Op.call (Call.mk (Callee.builtin Builtin.append) #[Operand.tmp 5, Operand.tmp 6] #[25, 25])) 25 [(5, v3), (6, v0)] h4 (fun v5 h6 => some (v5, h6)))) (fun j7 => pGen Tryz.prog R49 (Op.binOp BinOp.eql 25 (Operand.tmp 3) (Operand.const (Value.slice none 0 0)) 25) 4 [(3, v0)] h1 (fun v8 h9 => pIf v8 (some (Value.slice none 0 0, h9)) (j7 h9)))
theorem F49_eq : (F49 : Cur 1) = cur 1 (cFn Tryz.prog R49 FU 49) := by kernel_rfl
noncomputable def R50 : Rec := ext R49 49 1 F49
theorem R50_good : GoodRec Tryz.prog R50 := ext_ok plainNames R49_good F49_eq

-- (*garboard/decode.State).Tokens
noncomputable def F20 : Value → AH → M := fun v0 h1 => jn (fun (h2 : AH) => pNil v0 (fun v3 => pFad 1 v3 (fun v4 => pLd v4 h2 (fun v5 => pR (F49 v5 h2) (fun v6 h7 => some (v6, h7)))))) (fun j8 => pGen Tryz.prog R50 (Op.binOp BinOp.eql 39 (Operand.tmp 3) (Operand.const (Value.pointer none)) 39) 4 [(3, v0)] h1 (fun v9 h10 => pIf v9 (some (Value.slice none 0 0, h10)) (j8 h10)))
theorem F20_eq : (F20 : Cur 1) = cur 1 (cFn Tryz.prog R50 FU 20) := by kernel_rfl
noncomputable def R51 : Rec := ext R50 20 1 F20
theorem R51_good : GoodRec Tryz.prog R51 := ext_ok plainNames R50_good F20_eq

-- (*garboard/page.Pool).Free
noncomputable def F91 : Value → AH → M := fun v0 h1 => jn (fun (h2 : AH) => pNil v0 (fun v3 => pFad 1 v3 (fun v4 => pLd v4 h2 (fun v5 => pLen v5 (fun v6 => some (v6, h2)))))) (fun j7 => pR (F95 v0 h1) (fun v8 h9 => pNot v8 (fun v10 => pIf v10 (some (Value.int IntKind.i64 (Int.ofNat 0), h9)) (j7 h9))))
theorem F91_eq : (F91 : Cur 1) = cur 1 (cFn Tryz.prog R51 FU 91) := by kernel_rfl
noncomputable def R52 : Rec := ext R51 91 1 F91
theorem R52_good : GoodRec Tryz.prog R52 := ext_ok plainNames R51_good F91_eq

-- (*garboard/kv.Cache).oldest
noncomputable def F92 : Value → AH → M := fun v0 h1 => pBox 51 v0 h1 (fun v2 h3 => pNew 179 [Value.nilFunc] h3 (fun v4 h5 => pSt v4 (Value.func (Fn.func 134) #[] #[]) h5 (fun h6 => pNew 72 [Value.pointer none] h6 (fun v7 h8 => pLd v2 h8 (fun v9 => pNil v9 (fun v10 => pFad 4 v10 (fun v11 => pLd v11 h8 (fun v12 => pR (F65 v12 (Value.func (Fn.func 135) #[] #[v4, v2, v7]) h8) (fun v13 h14 => pLd v7 h14 (fun v15 => some (v15, h14)))))))))))
theorem F92_eq : (F92 : Cur 1) = cur 1 (cFn Tryz.prog R52 FU 92) := by kernel_rfl
noncomputable def R53 : Rec := ext R52 92 1 F92
theorem R53_good : GoodRec Tryz.prog R53 := ext_ok plainNames R52_good F92_eq

-- container/heap.down
noncomputable def F162 : Value → Value → Value → AH → M := fun v0 v1 v2 h3 => jn (fun (v4 : Value) (h5 : AH) => pGt v4 v1 (fun v6 => some (v6, h5))) (fun j7 => lp 1 (fun j8 v9 h10 => pMul (Value.int IntKind.i64 (Int.ofNat 2)) v9 (fun v11 => pAdd v11 (Value.int IntKind.i64 (Int.ofNat 1)) (fun v12 => jn (fun (h13 : AH) => jn (fun (v14 : Value) (h15 : AH) => jn (fun (h16 : AH) => pGen Tryz.prog R53 (Op.call (Call.mk (Callee.invoke (Operand.tmp 40) "Swap") #[Operand.tmp 41, Operand.tmp 42] #[3, 3])) 0 [(40, v0), (41, v9), (42, v14)] h16 (fun v17 h18 => j8 v14 h18)) (fun j19 => pGen Tryz.prog R53 (Op.call (Call.mk (Callee.invoke (Operand.tmp 35) "Less") #[Operand.tmp 36, Operand.tmp 37] #[3, 3])) 4 [(35, v0), (36, v14), (37, v9)] h15 (fun v20 h21 => pNot v20 (fun v22 => pIf v22 (j7 v9 h21) (j19 h21))))) (fun j23 => pAdd v12 (Value.int IntKind.i64 (Int.ofNat 1)) (fun v24 => pLt v24 v2 (fun v25 => jn (fun (v26 : Value) (h27 : AH) => pPick v25 v26 (Value.bool Bool.false) (fun v28 => pIf v28 (j23 v24 h27) (j23 v12 h27))) (fun j29 => pG v25 Bool.true (pGen Tryz.prog R53 (Op.call (Call.mk (Callee.invoke (Operand.tmp 29) "Less") #[Operand.tmp 30, Operand.tmp 31] #[3, 3])) 4 [(29, v0), (30, v24), (31, v12)] h13 (fun v30 h31 => j29 v30 h31)) (j29 (Value.tuple #[]) h13)))))) (fun j32 => pGe v12 v2 (fun v33 => jn (fun (v34 : Value) (h35 : AH) => pPick v33 (Value.bool Bool.true) v34 (fun v36 => pIf v36 (j7 v9 h35) (j32 h35))) (fun j37 => pG v33 Bool.false (pLt v12 (Value.int IntKind.i64 (Int.ofNat 0)) (fun v38 => j37 v38 h10)) (j37 (Value.tuple #[]) h10))))))) FU v1 h3)
theorem F162_eq : (F162 : Cur 3) = cur 3 (cFn Tryz.prog R53 FU 162) := by kernel_rfl
noncomputable def R54 : Rec := ext R53 162 3 F162
theorem R54_good : GoodRec Tryz.prog R54 := ext_ok plainNames R53_good F162_eq

-- container/heap.Pop
noncomputable def F136 : Value → AH → M := fun v0 h1 => pGen Tryz.prog R54 (Op.call (Call.mk (Callee.invoke (Operand.tmp 4) "Len") #[] #[])) 3 [(4, v0)] h1 (fun v2 h3 => pSub v2 (Value.int IntKind.i64 (Int.ofNat 1)) (fun v4 => pGen Tryz.prog R54 (Op.call (Call.mk (Callee.invoke (Operand.tmp 7) "Swap") #[Operand.const (Value.int IntKind.i64 (Int.ofNat 0)), Operand.tmp 8] #[3, 3])) 0 [(7, v0), (8, v4)] h3 (fun v5 h6 => pR (F162 v0 (Value.int IntKind.i64 (Int.ofNat 0)) v4 h6) (fun v7 h8 => pGen Tryz.prog R54 (Op.call (Call.mk (Callee.invoke (Operand.tmp 13) "Pop") #[] #[])) 20 [(13, v0)] h8 (fun v9 h10 => some (v9, h10))))))
theorem F136_eq : (F136 : Cur 1) = cur 1 (cFn Tryz.prog R54 FU 136) := by kernel_rfl
noncomputable def R55 : Rec := ext R54 136 1 F136
theorem R55_good : GoodRec Tryz.prog R55 := ext_ok plainNames R54_good F136_eq

-- (*garboard/page.Pool).Take
noncomputable def F93 : Value → AH → M := fun v0 h1 => jn (fun (h2 : AH) => pNil v0 (fun v3 => pFad 1 v3 (fun v4 => pR (F136 (Value.iface 155 v4) h2) (fun v5 h6 => pGen Tryz.prog R55 (Op.typeAssert (Operand.tmp 22) 20 3 Bool.true) 45 [(22, v5)] h6 (fun v7 h8 => pExt 0 v7 (fun v9 => pExt 1 v7 (fun v10 => jn (fun (h11 : AH) => pNil v0 (fun v12 => pFad 0 v12 (fun v13 => pLd v13 h11 (fun v14 => pIx 1 v14 v9 (fun v15 => pSt v15 (Value.int IntKind.i64 (Int.ofNat 1)) h11 (fun h16 => some (Value.tuple #[v9, Value.int IntKind.i64 (Int.ofNat 0)], h16))))))) (fun j17 => pNot v10 (fun v18 => pIf v18 (some (Value.tuple #[Value.int IntKind.i64 (Int.ofNat 0), Value.int IntKind.i64 (Int.ofNat 9)], h8)) (j17 h8)))))))))) (fun j19 => pR (F95 v0 h1) (fun v20 h21 => pNot v20 (fun v22 => pIf v22 (some (Value.tuple #[Value.int IntKind.i64 (Int.ofNat 0), Value.int IntKind.i64 (Int.ofNat 2)], h21)) (pNil v0 (fun v23 => pFad 1 v23 (fun v24 => pLd v24 h21 (fun v25 => pLen v25 (fun v26 => pEq v26 (Value.int IntKind.i64 (Int.ofNat 0)) (fun v27 => pIf v27 (some (Value.tuple #[Value.int IntKind.i64 (Int.ofNat 0), Value.int IntKind.i64 (Int.ofNat 9)], h21)) (j19 h21))))))))))
theorem F93_eq : (F93 : Cur 1) = cur 1 (cFn Tryz.prog R55 FU 93) := by kernel_rfl
noncomputable def R56 : Rec := ext R55 93 1 F93
theorem R56_good : GoodRec Tryz.prog R56 := ext_ok plainNames R55_good F93_eq

-- (*garboard/kv.Cache).take
noncomputable def F62 : Value → AH → M := fun v0 h1 => jn (fun (h2 : AH) => pNil v0 (fun v3 => pFad 1 v3 (fun v4 => pLd v4 h2 (fun v5 => pR (F93 v5 h2) (fun v6 h7 => pExt 0 v6 (fun v8 => pExt 1 v6 (fun v9 => pEq v9 (Value.int IntKind.i64 (Int.ofNat 0)) (fun v10 => some (Value.tuple #[v8, v10], h7))))))))) (fun j11 => pNil v0 (fun v12 => pFad 1 v12 (fun v13 => pLd v13 h1 (fun v14 => pR (F91 v14 h1) (fun v15 h16 => pEq v15 (Value.int IntKind.i64 (Int.ofNat 0)) (fun v17 => pIf v17 (pR (F92 v0 h16) (fun v18 h19 => jn (fun (h20 : AH) => pNil v18 (fun v21 => pFad 0 v21 (fun v22 => pLd v22 h20 (fun v23 => pNil v23 (fun v24 => pFad 20 v24 (fun v25 => pLd v25 h20 (fun v26 => pNil v18 (fun v27 => pFad 1 v27 (fun v28 => pLdN 16 v28 h20 (fun v29 => pGen Tryz.prog R56 (Op.call (Call.mk (Callee.builtin Builtin.delete) #[Operand.tmp 23, Operand.tmp 27] #[119, 115])) 0 [(23, v26), (27, v29)] h20 (fun v30 h31 => pNil v0 (fun v32 => pFad 1 v32 (fun v33 => pLd v33 h31 (fun v34 => pNil v18 (fun v35 => pFad 18 v35 (fun v36 => pLd v36 h31 (fun v37 => pR (F67 v34 v37 h31) (fun v38 h39 => j11 h39)))))))))))))))))) (fun j40 => pGen Tryz.prog R56 (Op.binOp BinOp.eql 72 (Operand.tmp 15) (Operand.const (Value.pointer none)) 72) 4 [(15, v18)] h19 (fun v41 h42 => pIf v41 (some (Value.tuple #[Value.int IntKind.i64 (Int.ofNat 0), Value.bool Bool.false], h42)) (j40 h42))))) (j11 h16)))))))
theorem F62_eq : (F62 : Cur 1) = cur 1 (cFn Tryz.prog R56 FU 62) := by kernel_rfl
noncomputable def R57 : Rec := ext R56 62 1 F62
theorem R57_good : GoodRec Tryz.prog R57 := ext_ok plainNames R56_good F62_eq

-- (*garboard/decode.State).Len
noncomputable def F18 : Value → AH → M := fun v0 h1 => jn (fun (h2 : AH) => pNil v0 (fun v3 => pFad 1 v3 (fun v4 => pLd v4 h2 (fun v5 => pLen v5 (fun v6 => some (v6, h2)))))) (fun j7 => pGen Tryz.prog R57 (Op.binOp BinOp.eql 39 (Operand.tmp 3) (Operand.const (Value.pointer none)) 39) 4 [(3, v0)] h1 (fun v8 h9 => pIf v8 (some (Value.int IntKind.i64 (Int.ofNat 0), h9)) (j7 h9)))
theorem F18_eq : (F18 : Cur 1) = cur 1 (cFn Tryz.prog R57 FU 18) := by kernel_rfl
noncomputable def R58 : Rec := ext R57 18 1 F18
theorem R58_good : GoodRec Tryz.prog R58 := ext_ok plainNames R57_good F18_eq

-- garboard/attn.New
noncomputable def F47 : Value → AH → M := fun v0 h1 => pMax v0 (Value.int IntKind.i64 (Int.ofNat 0)) (fun v2 => pMin v2 (Value.int IntKind.i64 (Int.ofNat 4)) (fun v3 => pGen Tryz.prog R58 (Op.build 136 #[(0, Operand.tmp 5)]) 136 [(5, v3)] h1 (fun v4 h5 => pBox 136 v4 h5 (fun v6 h7 => some (v6, h7)))))
theorem F47_eq : (F47 : Cur 1) = cur 1 (cFn Tryz.prog R58 FU 47) := by kernel_rfl
noncomputable def R59 : Rec := ext R58 47 1 F47
theorem R59_good : GoodRec Tryz.prog R59 := ext_ok plainNames R58_good F47_eq

-- (*garboard/attn.Memory).Cut
noncomputable def F94 : Value → Value → AH → M := fun v0 v1 h2 => jn (fun (h3 : AH) => pMax v1 (Value.int IntKind.i64 (Int.ofNat 0)) (fun v4 => pNil v0 (fun v5 => pFad 1 v5 (fun v6 => pLd v6 h3 (fun v7 => pLen v7 (fun v8 => pMin v4 v8 (fun v9 => pNil v0 (fun v10 => pFad 0 v10 (fun v11 => pLd v11 h3 (fun v12 => pNil v0 (fun v13 => pFad 1 v13 (fun v14 => pLd v14 h3 (fun v15 => pSl 2 v15 none (some v9) (some v9) h3 (fun v16 => pGen Tryz.prog R59 (Op.build 136 #[(0, Operand.tmp 19), (1, Operand.tmp 26)]) 136 [(19, v12), (26, v16)] h3 (fun v17 h18 => pBox 136 v17 h18 (fun v19 h20 => some (v19, h20))))))))))))))))) (fun j21 => pGen Tryz.prog R59 (Op.binOp BinOp.eql 93 (Operand.tmp 5) (Operand.const (Value.pointer none)) 93) 4 [(5, v0)] h2 (fun v22 h23 => pIf v22 (pR (F47 (Value.int IntKind.i64 (Int.ofNat 0)) h23) (fun v24 h25 => some (v24, h25))) (j21 h23)))
theorem F94_eq : (F94 : Cur 2) = cur 2 (cFn Tryz.prog R59 FU 94) := by kernel_rfl
noncomputable def R60 : Rec := ext R59 94 2 F94
theorem R60_good : GoodRec Tryz.prog R60 := ext_ok plainNames R59_good F94_eq

-- (*garboard/decode.State).Cut
noncomputable def F63 : Value → Value → AH → M := fun v0 v1 h2 => jn (fun (h3 : AH) => pMax v1 (Value.int IntKind.i64 (Int.ofNat 1)) (fun v4 => pNil v0 (fun v5 => pFad 1 v5 (fun v6 => pLd v6 h3 (fun v7 => pLen v7 (fun v8 => pMin v4 v8 (fun v9 => pNil v0 (fun v10 => pFad 0 v10 (fun v11 => pLd v11 h3 (fun v12 => pNil v0 (fun v13 => pFad 1 v13 (fun v14 => pLd v14 h3 (fun v15 => pSl 1 v15 none (some v9) (some v9) h3 (fun v16 => pNil v0 (fun v17 => pFad 2 v17 (fun v18 => pLd v18 h3 (fun v19 => pSl 1 v19 none (some v9) (some v9) h3 (fun v20 => pNil v0 (fun v21 => pFad 3 v21 (fun v22 => pLd v22 h3 (fun v23 => pR (F94 v23 v9 h3) (fun v24 h25 => pChk [Tr.mk 7 (some (blkOf v11)) [] h3, Tr.mk 112 (some (blkOf v14)) [] h3, Tr.mk 1008 (some (blkS v15)) [] h3, Tr.mk 14336 (some (blkOf v18)) [] h3, Tr.mk 129024 (some (blkS v19)) [] h3] (Tr.mk 8126464 none (since h3 h25) h3) (pGen Tryz.prog R60 (Op.build 96 #[(0, Operand.tmp 19), (1, Operand.tmp 26), (2, Operand.tmp 33), (3, Operand.tmp 39)]) 96 [(19, v12), (26, v16), (33, v20), (39, v24)] h25 (fun v26 h27 => pBox 96 v26 h27 (fun v28 h29 => some (v28, h29)))))))))))))))))))))))))) (fun j30 => pR (F18 v0 h2) (fun v31 h32 => pEq v31 (Value.int IntKind.i64 (Int.ofNat 0)) (fun v33 => pIf v33 (some (Value.pointer none, h32)) (j30 h32))))
theorem F63_eq : (F63 : Cur 2) = cur 2 (cFn Tryz.prog R60 FU 63) := by kernel_rfl
noncomputable def R61 : Rec := ext R60 63 2 F63
theorem R61_good : GoodRec Tryz.prog R61 := ext_ok plainNames R60_good F63_eq

-- (*garboard/kv.Cache).Put
noncomputable def F28 : Value → Value → AH → M := fun v0 v1 h2 => jn (fun (h3 : AH) => pR (F20 v1 h3) (fun v4 h5 => pR (F59 v0 v4 h5) (fun v6 h7 => pR (F60 v0 v6 h7) (fun v8 h9 => pLen v6 (fun v10 => pSub v10 (Value.int IntKind.i64 (Int.ofNat 1)) (fun v11 => pIx 1 v6 v11 (fun v12 => pLd v12 h9 (fun v13 => lp 2 (fun j14 v15 v16 h17 => jn (fun (v18 : Value) (h19 : AH) => pAdd v15 (Value.int IntKind.i64 (Int.ofNat 1)) (fun v20 => j14 v20 v18 h19)) (fun j21 => pLen v6 (fun v22 => pSub v22 (Value.int IntKind.i64 (Int.ofNat 1)) (fun v23 => pAdd v23 v15 (fun v24 => pR (F61 v0 v4 v24 h17) (fun v25 h26 => pExt 0 v25 (fun v27 => pExt 1 v25 (fun v28 => pNew 115 [Value.int IntKind.i64 (Int.ofNat 0), Value.int IntKind.i64 (Int.ofNat 0), Value.int IntKind.i64 (Int.ofNat 0), Value.int IntKind.i64 (Int.ofNat 0), Value.int IntKind.i64 (Int.ofNat 0), Value.int IntKind.i64 (Int.ofNat 0), Value.int IntKind.i64 (Int.ofNat 0), Value.int IntKind.i64 (Int.ofNat 0), Value.int IntKind.i64 (Int.ofNat 0), Value.int IntKind.i64 (Int.ofNat 0), Value.int IntKind.i64 (Int.ofNat 0), Value.int IntKind.i64 (Int.ofNat 0), Value.int IntKind.i64 (Int.ofNat 0), Value.int IntKind.i64 (Int.ofNat 0), Value.int IntKind.i64 (Int.ofNat 0), Value.int IntKind.i64 (Int.ofNat 0)] h26 (fun v29 h30 => pStN 16 v29 v27 h30 (fun h31 => jn (fun (h32 : AH) => pR (F62 v0 h32) (fun v33 h34 => pExt 0 v33 (fun v35 => pExt 1 v33 (fun v36 => jn (fun (h37 : AH) => pR (F57 h37) (fun v38 h39 => pLdN 16 v29 h39 (fun v40 => pNil v0 (fun v41 => pFad 3 v41 (fun v42 => pLd v42 h39 (fun v43 => pNil v38 (fun v44 => pFad 0 v44 (fun v45 => pSt v45 v16 h39 (fun h46 => pChk [Tr.mk 0 (some (blkOf v29)) [] h39] (Tr.mk 8081 (some (blkOf v45)) (since h39 h46) h39) (pNil v38 (fun v47 => pFad 1 v47 (fun v48 => pStN 16 v48 v40 h46 (fun h49 => pNil v38 (fun v50 => pFad 18 v50 (fun v51 => pSt v51 v35 h49 (fun h52 => pNil v38 (fun v53 => pFad 19 v53 (fun v54 => pSt v54 v43 h52 (fun h55 => pAdd v24 (Value.int IntKind.i64 (Int.ofNat 1)) (fun v56 => pNil v0 (fun v57 => pFad 2 v57 (fun v58 => pLd v58 h55 (fun v59 => pMul v56 v59 (fun v60 => pR (F63 v1 v60 h55) (fun v61 h62 => pNil v38 (fun v63 => pFad 17 v63 (fun v64 => pSt v64 v61 h62 (fun h65 => pNil v16 (fun v66 => pFad 20 v66 (fun v67 => pLd v67 h65 (fun v68 => pLdN 16 v29 h65 (fun v69 => pGen Tryz.prog R61 (Op.mapUpdate 119 (Operand.tmp 92) (Operand.tmp 93) (Operand.tmp 94)) 0 [(92, v68), (93, v69), (94, v38)] h65 (fun v70 h71 => j21 v38 h71))))))))))))))))))))))))))))))))) (fun j72 => pNot v36 (fun v73 => pIf v73 (some (v15, h34)) (j72 h34))))))) (fun j74 => pNot v28 (fun v75 => pIf v75 (some (v15, h31)) (j74 h31))))))))))))) FU (Value.int IntKind.i64 (Int.ofNat 0)) v13 h9)))))))) (fun j76 => pR (F58 v0 h2) (fun v77 h78 => pNot v77 (fun v79 => pIf v79 (some (Value.int IntKind.i64 (Int.ofNat 0), h78)) (j76 h78))))
theorem F28_eq : (F28 : Cur 2) = cur 2 (cFn Tryz.prog R61 FU 28) := by kernel_rfl
noncomputable def R62 : Rec := ext R61 28 2 F28
theorem R62_good : GoodRec Tryz.prog R62 := ext_ok plainNames R61_good F28_eq

-- (*garboard/page.Pool).Used
noncomputable def F70 : Value → AH → M := fun v0 h1 => jn (fun (v2 : Value) (h3 : AH) => jn (fun (v4 : Value) (h5 : AH) => some (v4, h5)) (fun j6 => pNil v0 (fun v7 => pFad 0 v7 (fun v8 => pLd v8 h3 (fun v9 => pLen v9 (fun v10 => lp 2 (fun j11 v12 v13 h14 => pLt v13 v10 (fun v15 => jn (fun (h16 : AH) => jn (fun (v17 : Value) (h18 : AH) => pAdd v13 (Value.int IntKind.i64 (Int.ofNat 1)) (fun v19 => j11 v17 v19 h18)) (fun j20 => pIx 1 v9 v13 (fun v21 => pLd v21 h16 (fun v22 => pGt v22 (Value.int IntKind.i64 (Int.ofNat 0)) (fun v23 => pIf v23 (pGen Tryz.prog R62 (Op.buildSlice 25 1 #[(0, Operand.tmp 22)]) 25 [(22, v13)] h16 (fun v24 h25 => pGen Tryz.prog R62 (Op.call (Call.mk (Callee.builtin Builtin.append) #[Operand.tmp 21, Operand.tmp 23] #[25, 25])) 25 [(21, v12), (23, v24)] h25 (fun v26 h27 => j20 v26 h27))) (j20 v12 h16)))))) (fun j28 => pIf v15 (j28 h14) (j6 v12 h14)))) FU (Value.slice none 0 0) (Value.int IntKind.i64 (Int.ofNat 0)) h3)))))) (fun j29 => pR (F95 v0 h1) (fun v30 h31 => pNot v30 (fun v32 => pIf v32 (some (Value.slice none 0 0, h31)) (j29 (Value.slice none 0 0) h31))))
theorem F70_eq : (F70 : Cur 1) = cur 1 (cFn Tryz.prog R62 FU 70) := by kernel_rfl
noncomputable def R63 : Rec := ext R62 70 1 F70
theorem R63_good : GoodRec Tryz.prog R63 := ext_ok plainNames R62_good F70_eq

-- (*garboard/kv.Cache).Pages
noncomputable def F38 : Value → AH → M := fun v0 h1 => jn (fun (h2 : AH) => pNil v0 (fun v3 => pFad 1 v3 (fun v4 => pLd v4 h2 (fun v5 => pR (F70 v5 h2) (fun v6 h7 => some (v6, h7)))))) (fun j8 => pR (F58 v0 h1) (fun v9 h10 => pNot v9 (fun v11 => pIf v11 (some (Value.slice none 0 0, h10)) (j8 h10))))
theorem F38_eq : (F38 : Cur 1) = cur 1 (cFn Tryz.prog R63 FU 38) := by kernel_rfl
noncomputable def R64 : Rec := ext R63 38 1 F38
theorem R64_good : GoodRec Tryz.prog R64 := ext_ok plainNames R63_good F38_eq

-- (*garboard/kv.Cache).Len
noncomputable def F31 : Value → AH → M := fun v0 h1 => pR (F38 v0 h1) (fun v2 h3 => pLen v2 (fun v4 => some (v4, h3)))
theorem F31_eq : (F31 : Cur 1) = cur 1 (cFn Tryz.prog R64 FU 31) := by kernel_rfl
noncomputable def R65 : Rec := ext R64 31 1 F31
theorem R65_good : GoodRec Tryz.prog R65 := ext_ok plainNames R64_good F31_eq

-- (*garboard/kv.Cache).Has
noncomputable def F27 : Value → Value → AH → M := fun v0 v1 h2 => pR (F58 v0 h2) (fun v3 h4 => jn (fun (v5 : Value) (h6 : AH) => pPick v3 v5 (Value.bool Bool.false) (fun v7 => jn (fun (v8 : Value) (h9 : AH) => pPick v7 v8 (Value.bool Bool.false) (fun v10 => some (v10, h9))) (fun j11 => pG v7 Bool.true (pR (F59 v0 v1 h6) (fun v12 h13 => pLen v12 (fun v14 => pSub v14 (Value.int IntKind.i64 (Int.ofNat 1)) (fun v15 => pNil v0 (fun v16 => pFad 2 v16 (fun v17 => pLd v17 h13 (fun v18 => pChk [Tr.mk 1023 none (since h6 h13) h6] (Tr.mk 57599 (some (blkOf v17)) [] h13) (pMul v15 v18 (fun v19 => pLen v1 (fun v20 => pChk [Tr.mk 1023 none (since h6 h13) h6] (Tr.mk 262399 (some (blkOf v1)) [] h13) (pEq v19 v20 (fun v21 => j11 v21 h13)))))))))))) (j11 (Value.tuple #[]) h6)))) (fun j22 => pG v3 Bool.true (pLen v1 (fun v23 => pGt v23 (Value.int IntKind.i64 (Int.ofNat 0)) (fun v24 => j22 v24 h4))) (j22 (Value.tuple #[]) h4)))
theorem F27_eq : (F27 : Cur 2) = cur 2 (cFn Tryz.prog R65 FU 27) := by kernel_rfl
noncomputable def R66 : Rec := ext R65 27 2 F27
theorem R66_good : GoodRec Tryz.prog R66 := ext_ok plainNames R65_good F27_eq

-- garboard/model.May
noncomputable def F39 : Value → AH → M := fun v0 h1 => pBox 24 v0 h1 (fun v2 h3 => pFad 1 v2 (fun v4 => pLd v4 h3 (fun v5 => pR (F71 v5 (Value.int IntKind.i64 (Int.ofNat 2)) (Value.int IntKind.i64 (Int.ofNat 64)) h3) (fun v6 h7 => jn (fun (v8 : Value) (h9 : AH) => pPick v6 v8 (Value.bool Bool.false) (fun v10 => jn (fun (v11 : Value) (h12 : AH) => pPick v10 v11 (Value.bool Bool.false) (fun v13 => jn (fun (v14 : Value) (h15 : AH) => pPick v13 v14 (Value.bool Bool.false) (fun v16 => jn (fun (v17 : Value) (h18 : AH) => pPick v16 v17 (Value.bool Bool.false) (fun v19 => some (v19, h18))) (fun j20 => pG v16 Bool.true (pFad 5 v2 (fun v21 => pLd v21 h15 (fun v22 => pR (F71 v22 (Value.int IntKind.i64 (Int.ofNat 0)) (Value.int IntKind.i64 (Int.ofNat 8)) h15) (fun v23 h24 => j20 v23 h24)))) (j20 (Value.tuple #[]) h15)))) (fun j25 => pG v13 Bool.true (pFad 4 v2 (fun v26 => pLd v26 h12 (fun v27 => pFad 1 v2 (fun v28 => pLd v28 h12 (fun v29 => pR (F71 v27 (Value.int IntKind.i64 (Int.ofNat 1)) v29 h12) (fun v30 h31 => j25 v30 h31)))))) (j25 (Value.tuple #[]) h12)))) (fun j32 => pG v10 Bool.true (pFad 3 v2 (fun v33 => pLd v33 h9 (fun v34 => pR (F71 v34 (Value.int IntKind.i64 (Int.ofNat 1)) (Value.int IntKind.i64 (Int.ofNat 4)) h9) (fun v35 h36 => j32 v35 h36)))) (j32 (Value.tuple #[]) h9)))) (fun j37 => pG v6 Bool.true (pFad 2 v2 (fun v38 => pLd v38 h7 (fun v39 => pR (F71 v39 (Value.int IntKind.i64 (Int.ofNat 1)) (Value.int IntKind.i64 (Int.ofNat 16)) h7) (fun v40 h41 => j37 v40 h41)))) (j37 (Value.tuple #[]) h7))))))
theorem F39_eq : (F39 : Cur 1) = cur 1 (cFn Tryz.prog R66 FU 39) := by kernel_rfl
noncomputable def R67 : Rec := ext R66 39 1 F39
theorem R67_good : GoodRec Tryz.prog R67 := ext_ok plainNames R66_good F39_eq

-- garboard/model.New
noncomputable def F9 : Value → AH → M := fun v0 h1 => pBox 24 v0 h1 (fun v2 h3 => jn (fun (v4 : Value) (v5 : Value) (h6 : AH) => pLdN 6 v2 h6 (fun v7 => pGen Tryz.prog R67 (Op.build 82 #[(0, Operand.tmp 15)]) 82 [(15, v7)] h6 (fun v8 h9 => pBox 82 v8 h9 (fun v10 h11 => pR (aCallV R67 (Value.func (Fn.func 40) #[v10] #[]) #[Value.int IntKind.i64 (Int.ofNat 1), Value.int IntKind.i64 (Int.ofNat 256)] h11) (fun v12 h13 => jn (fun (h14 : AH) => pNil v10 (fun v15 => pFad 6 v15 (fun v16 => pLd v16 h14 (fun v17 => pFad 1 v2 (fun v18 => pLd v18 h14 (fun v19 => pR (aCallV R67 (Value.func (Fn.func 40) #[v10] #[]) #[Value.int IntKind.i64 (Int.ofNat 0), v19] h14) (fun v20 h21 => pChk [Tr.mk 14 (some (blkOf v16)) [] h14] (Tr.mk 224 none (since h14 h21) h14) (pGen Tryz.prog R67 (Op.buildSlice 80 2 #[(0, Operand.tmp 50), (1, Operand.tmp 51)]) 80 [(50, v20), (51, v12)] h21 (fun v22 h23 => pChk [Tr.mk 14 (some (blkOf v16)) [] h14] (Tr.mk 992 (some []) (since h21 h23) h21) (pGen Tryz.prog R67 (Op.call (Call.mk (Callee.builtin Builtin.append) #[Operand.tmp 46, Operand.tmp 52] #[80, 80])) 80 [(46, v17), (52, v22)] h23 (fun v24 h25 => pNil v10 (fun v26 => pFad 6 v26 (fun v27 => pSt v27 v24 h25 (fun h28 => jn (fun (h29 : AH) => some (Value.tuple #[v10, Value.int IntKind.i64 (Int.ofNat 0)], h29)) (fun j30 => pFad 3 v2 (fun v31 => pLd v31 h28 (fun v32 => pMul (Value.int IntKind.i64 (Int.ofNat 6)) v32 (fun v33 => lp 1 (fun j34 v35 h36 => pLt v35 v33 (fun v37 => jn (fun (h38 : AH) => jn (fun (h39 : AH) => pAdd v35 (Value.int IntKind.i64 (Int.ofNat 1)) (fun v40 => j34 v40 h39)) (fun j41 => pNil v10 (fun v42 => pFad 6 v42 (fun v43 => pLd v43 h38 (fun v44 => pAdd (Value.int IntKind.i64 (Int.ofNat 2)) v35 (fun v45 => pFad 2 v2 (fun v46 => pLd v46 h38 (fun v47 => pR (aCallV R67 (Value.func (Fn.func 40) #[v10] #[]) #[v45, v47] h38) (fun v48 h49 => pChk [Tr.mk 14 (some (blkOf v43)) [] h38] (Tr.mk 992 none (since h38 h49) h38) (pGen Tryz.prog R67 (Op.buildSlice 80 1 #[(0, Operand.tmp 72)]) 80 [(72, v48)] h49 (fun v50 h51 => pChk [Tr.mk 14 (some (blkOf v43)) [] h38] (Tr.mk 2016 (some []) (since h49 h51) h49) (pGen Tryz.prog R67 (Op.call (Call.mk (Callee.builtin Builtin.append) #[Operand.tmp 66, Operand.tmp 73] #[80, 80])) 80 [(66, v44), (73, v50)] h51 (fun v52 h53 => pNil v10 (fun v54 => pFad 6 v54 (fun v55 => pSt v55 v52 h53 (fun h56 => j41 h56)))))))))))))))) (fun j57 => pIf v37 (j57 h36) (j30 h36)))) FU (Value.int IntKind.i64 (Int.ofNat 0)) h28)))))))))))))))))) (fun j58 => pLen v12 (fun v59 => lp 1 (fun j60 v61 h62 => pLt v61 v59 (fun v63 => jn (fun (h64 : AH) => jn (fun (h65 : AH) => pAdd v61 (Value.int IntKind.i64 (Int.ofNat 1)) (fun v66 => j60 v66 h65)) (fun j67 => pIx 1 v12 v61 (fun v68 => pLd v68 h64 (fun v69 => pLen v69 (fun v70 => lp 1 (fun j71 v72 h73 => pLt v72 v70 (fun v74 => jn (fun (h75 : AH) => jn (fun (h76 : AH) => pAdd v72 (Value.int IntKind.i64 (Int.ofNat 1)) (fun v77 => j71 v77 h76)) (fun j78 => pIx 1 v69 v72 (fun v79 => pLd v79 h75 (fun v80 => pR (F41 v80 (Value.int IntKind.i64 (Int.ofNat 16384)) h75) (fun v81 h82 => pIx 1 v69 v72 (fun v83 => pSt v83 v81 h82 (fun h84 => j78 h84))))))) (fun j85 => pIf v74 (j85 h73) (j67 h73)))) FU (Value.int IntKind.i64 (Int.ofNat 0)) h64))))) (fun j86 => pIf v63 (j86 h62) (j58 h62)))) FU (Value.int IntKind.i64 (Int.ofNat 0)) h13))))))) (fun j87 => pLdN 6 v2 h3 (fun v88 => pR (F39 v88 h3) (fun v89 h90 => pNot v89 (fun v91 => pIf v91 (some (Value.tuple #[Value.pointer none, Value.int IntKind.i64 (Int.ofNat 1)], h90)) (j87 (Value.pointer none) (Value.int IntKind.i64 (Int.ofNat 0)) h90))))))
theorem F9_eq : (F9 : Cur 1) = cur 1 (cFn Tryz.prog R67 FU 9) := by kernel_rfl
noncomputable def R68 : Rec := ext R67 9 1 F9
theorem R68_good : GoodRec Tryz.prog R68 := ext_ok plainNames R67_good F9_eq

-- garboard/garboardlaw14.small
noncomputable def F23 : AH → M := fun h0 => pGen Tryz.prog R68 (Op.build 24 #[(0, Operand.const (Value.int IntKind.u64 (Int.ofNat 9))), (1, Operand.const (Value.int IntKind.i64 (Int.ofNat 4))), (2, Operand.const (Value.int IntKind.i64 (Int.ofNat 2))), (3, Operand.const (Value.int IntKind.i64 (Int.ofNat 1))), (4, Operand.const (Value.int IntKind.i64 (Int.ofNat 4))), (5, Operand.const (Value.int IntKind.i64 (Int.ofNat 4)))]) 24 [] h0 (fun v1 h2 => pR (F9 v1 h2) (fun v3 h4 => pExt 0 v3 (fun v5 => pExt 1 v3 (fun v6 => some (v5, h4)))))
theorem F23_eq : (F23 : Cur 0) = cur 0 (cFn Tryz.prog R68 FU 23) := by kernel_rfl
noncomputable def R69 : Rec := ext R68 23 0 F23
theorem R69_good : GoodRec Tryz.prog R69 := ext_ok plainNames R68_good F23_eq

-- (*garboard/model.Model).row
noncomputable def F108 : Value → Value → Value → AH → M := fun v0 v1 v2 h3 => jn (fun (h4 : AH) => pNil v0 (fun v5 => pFad 6 v5 (fun v6 => pLd v6 h4 (fun v7 => pIx 1 v7 v1 (fun v8 => pLd v8 h4 (fun v9 => pIx 1 v9 v2 (fun v10 => pLd v10 h4 (fun v11 => pR (F105 v11 h4) (fun v12 h13 => some (v12, h13)))))))))) (fun j14 => pR (F77 v0 h3) (fun v15 h16 => pNot v15 (fun v17 => jn (fun (v18 : Value) (h19 : AH) => pPick v17 (Value.bool Bool.true) v18 (fun v20 => jn (fun (v21 : Value) (h22 : AH) => pPick v20 (Value.bool Bool.true) v21 (fun v23 => pIf v23 (some (Value.slice none 0 0, h22)) (j14 h22))) (fun j24 => pG v20 Bool.false (pNil v0 (fun v25 => pFad 6 v25 (fun v26 => pLd v26 h19 (fun v27 => pIx 1 v27 v1 (fun v28 => pLd v28 h19 (fun v29 => pLen v29 (fun v30 => pGe v2 v30 (fun v31 => j24 v31 h19)))))))) (j24 (Value.tuple #[]) h19)))) (fun j32 => pG v17 Bool.false (pLt v2 (Value.int IntKind.i64 (Int.ofNat 0)) (fun v33 => j32 v33 h16)) (j32 (Value.tuple #[]) h16)))))
theorem F108_eq : (F108 : Cur 3) = cur 3 (cFn Tryz.prog R69 FU 108) := by kernel_rfl
noncomputable def R70 : Rec := ext R69 108 3 F108
theorem R70_good : GoodRec Tryz.prog R70 := ext_ok plainNames R69_good F108_eq

-- (*garboard/model.Model).Token
noncomputable def F80 : Value → Value → AH → M := fun v0 v1 h2 => pR (F108 v0 (Value.int IntKind.i64 (Int.ofNat 0)) v1 h2) (fun v3 h4 => some (v3, h4))
theorem F80_eq : (F80 : Cur 2) = cur 2 (cFn Tryz.prog R70 FU 80) := by kernel_rfl
noncomputable def R71 : Rec := ext R70 80 2 F80
theorem R71_good : GoodRec Tryz.prog R71 := ext_ok plainNames R70_good F80_eq

-- (*garboard/model.Model).Place
noncomputable def F81 : Value → Value → AH → M := fun v0 v1 h2 => pR (F108 v0 (Value.int IntKind.i64 (Int.ofNat 1)) v1 h2) (fun v3 h4 => some (v3, h4))
theorem F81_eq : (F81 : Cur 2) = cur 2 (cFn Tryz.prog R71 FU 81) := by kernel_rfl
noncomputable def R72 : Rec := ext R71 81 2 F81
theorem R72_good : GoodRec Tryz.prog R72 := ext_ok plainNames R71_good F81_eq

-- garboard/vec.pair
noncomputable def F106 : Value → Value → AH → M := fun v0 v1 h2 => pLen v0 (fun v3 => pLen v1 (fun v4 => pGen Tryz.prog R72 (Op.call (Call.mk (Callee.builtin Builtin.min) #[Operand.tmp 8, Operand.tmp 10, Operand.const (Value.int IntKind.i64 (Int.ofNat 4096))] #[3, 3, 3])) 3 [(8, v3), (10, v4)] h2 (fun v5 h6 => pSl 1 v0 none (some v5) none h6 (fun v7 => pSl 1 v1 none (some v5) none h6 (fun v8 => some (Value.tuple #[v7, v8], h6))))))
theorem F106_eq : (F106 : Cur 2) = cur 2 (cFn Tryz.prog R72 FU 106) := by kernel_rfl
noncomputable def R73 : Rec := ext R72 106 2 F106
theorem R73_good : GoodRec Tryz.prog R73 := ext_ok plainNames R72_good F106_eq

-- garboard/vec.Add
noncomputable def F79 : Value → Value → AH → M := fun v0 v1 h2 => pR (F106 v0 v1 h2) (fun v3 h4 => pExt 0 v3 (fun v5 => pExt 1 v3 (fun v6 => pR (F105 v5 h4) (fun v7 h8 => jn (fun (h9 : AH) => some (v7, h9)) (fun j10 => pLen v6 (fun v11 => lp 1 (fun j12 v13 h14 => pLt v13 v11 (fun v15 => jn (fun (h16 : AH) => jn (fun (h17 : AH) => pAdd v13 (Value.int IntKind.i64 (Int.ofNat 1)) (fun v18 => j12 v18 h17)) (fun j19 => pIx 1 v6 v13 (fun v20 => pLd v20 h16 (fun v21 => pIx 1 v7 v13 (fun v22 => pLd v22 h16 (fun v23 => pR (F107 v23 v21 h16) (fun v24 h25 => pIx 1 v7 v13 (fun v26 => pSt v26 v24 h25 (fun h27 => j19 h27))))))))) (fun j28 => pIf v15 (j28 h14) (j10 h14)))) FU (Value.int IntKind.i64 (Int.ofNat 0)) h8))))))
theorem F79_eq : (F79 : Cur 2) = cur 2 (cFn Tryz.prog R73 FU 79) := by kernel_rfl
noncomputable def R74 : Rec := ext R73 79 2 F79
theorem R74_good : GoodRec Tryz.prog R74 := ext_ok plainNames R73_good F79_eq

-- (*garboard/attn.Memory).Layers
noncomputable def F102 : Value → AH → M := fun v0 h1 => jn (fun (h2 : AH) => pNil v0 (fun v3 => pFad 0 v3 (fun v4 => pLd v4 h2 (fun v5 => some (v5, h2))))) (fun j6 => pGen Tryz.prog R74 (Op.binOp BinOp.eql 93 (Operand.tmp 3) (Operand.const (Value.pointer none)) 93) 4 [(3, v0)] h1 (fun v7 h8 => pIf v7 (some (Value.int IntKind.i64 (Int.ofNat 0), h8)) (j6 h8)))
theorem F102_eq : (F102 : Cur 1) = cur 1 (cFn Tryz.prog R74 FU 102) := by kernel_rfl
noncomputable def R75 : Rec := ext R74 102 1 F102
theorem R75_good : GoodRec Tryz.prog R75 := ext_ok plainNames R74_good F102_eq

-- (*garboard/attn.Memory).column
noncomputable def F103 : Value → Value → AH → M := fun v0 v1 h2 => jn (fun (v3 : Value) (v4 : Value) (h5 : AH) => some (Value.tuple #[v3, v4], h5)) (fun j6 => pNil v0 (fun v7 => pFad 1 v7 (fun v8 => pLd v8 h2 (fun v9 => pLen v9 (fun v10 => lp 3 (fun j11 v12 v13 v14 h15 => pLt v14 v10 (fun v16 => jn (fun (h17 : AH) => jn (fun (v18 : Value) (v19 : Value) (h20 : AH) => pAdd v14 (Value.int IntKind.i64 (Int.ofNat 1)) (fun v21 => j11 v18 v19 v21 h20)) (fun j22 => pIx 2 v9 v14 (fun v23 => pLdN 2 v23 h17 (fun v24 => pNew 162 [Value.slice none 0 0, Value.slice none 0 0] h17 (fun v25 h26 => pStN 2 v25 v24 h26 (fun h27 => pFad 0 v25 (fun v28 => pLd v28 h27 (fun v29 => pIx 1 v29 v1 (fun v30 => pLd v30 h27 (fun v31 => pGen Tryz.prog R75 (Op.buildSlice 84 1 #[(0, Operand.tmp 24)]) 84 [(24, v31)] h27 (fun v32 h33 => pGen Tryz.prog R75 (Op.call (Call.mk (Callee.builtin Builtin.append) #[Operand.tmp 19, Operand.tmp 25] #[84, 84])) 84 [(19, v12), (25, v32)] h33 (fun v34 h35 => pFad 1 v25 (fun v36 => pLd v36 h35 (fun v37 => pChk [Tr.mk 62 (some []) (since h27 h33) h27, Tr.mk 127 none (since h33 h35) h33] (Tr.mk 512 (some (blkOf v36)) [] h35) (pIx 1 v37 v1 (fun v38 => pLd v38 h35 (fun v39 => pChk [Tr.mk 62 (some []) (since h27 h33) h27, Tr.mk 127 none (since h33 h35) h33] (Tr.mk 7680 (some (blkOf v38)) [] h35) (pGen Tryz.prog R75 (Op.buildSlice 84 1 #[(0, Operand.tmp 32)]) 84 [(32, v39)] h35 (fun v40 h41 => pChk [Tr.mk 2 (some (blkOf v28)) [] h27, Tr.mk 30 (some (blkOf v30)) [] h27, Tr.mk 62 (some []) (since h27 h33) h27, Tr.mk 127 none (since h33 h35) h33] (Tr.mk 15872 (some []) (since h35 h41) h35) (pGen Tryz.prog R75 (Op.call (Call.mk (Callee.builtin Builtin.append) #[Operand.tmp 27, Operand.tmp 33] #[84, 84])) 84 [(27, v13), (33, v40)] h41 (fun v42 h43 => j22 v34 v42 h43))))))))))))))))))))) (fun j44 => pIf v16 (j44 h15) (j6 v12 v13 h15)))) FU (Value.slice none 0 0) (Value.slice none 0 0) (Value.int IntKind.i64 (Int.ofNat 0)) h2)))))
theorem F103_eq : (F103 : Cur 2) = cur 2 (cFn Tryz.prog R75 FU 103) := by kernel_rfl
noncomputable def R76 : Rec := ext R75 103 2 F103
theorem R76_good : GoodRec Tryz.prog R76 := ext_ok plainNames R75_good F103_eq

-- garboard/vec.Dot
noncomputable def F116 : Value → Value → AH → M := fun v0 v1 h2 => pR (F106 v0 v1 h2) (fun v3 h4 => pExt 0 v3 (fun v5 => pExt 1 v3 (fun v6 => jn (fun (v7 : Value) (h8 : AH) => some (v7, h8)) (fun j9 => pLen v5 (fun v10 => lp 2 (fun j11 v12 v13 h14 => pLt v13 v10 (fun v15 => jn (fun (h16 : AH) => jn (fun (v17 : Value) (h18 : AH) => pAdd v13 (Value.int IntKind.i64 (Int.ofNat 1)) (fun v19 => j11 v17 v19 h18)) (fun j20 => pIx 1 v5 v13 (fun v21 => pLd v21 h16 (fun v22 => pIx 1 v6 v13 (fun v23 => pLd v23 h16 (fun v24 => pR (F41 v22 v24 h16) (fun v25 h26 => pR (F107 v12 v25 h26) (fun v27 h28 => j20 v27 h28)))))))) (fun j29 => pIf v15 (j29 h14) (j9 v12 h14)))) FU (Value.int IntKind.i64 (Int.ofNat 0)) (Value.int IntKind.i64 (Int.ofNat 0)) h4)))))
theorem F116_eq : (F116 : Cur 2) = cur 2 (cFn Tryz.prog R76 FU 116) := by kernel_rfl
noncomputable def R77 : Rec := ext R76 116 2 F116
theorem R77_good : GoodRec Tryz.prog R77 := ext_ok plainNames R76_good F116_eq

-- garboard/vec.cut
noncomputable def F149 : Value → AH → M := fun v0 h1 => pLen v0 (fun v2 => pMin v2 (Value.int IntKind.i64 (Int.ofNat 4096)) (fun v3 => pSl 1 v0 none (some v3) none h1 (fun v4 => some (v4, h1))))
theorem F149_eq : (F149 : Cur 1) = cur 1 (cFn Tryz.prog R77 FU 149) := by kernel_rfl
noncomputable def R78 : Rec := ext R77 149 1 F149
theorem R78_good : GoodRec Tryz.prog R78 := ext_ok plainNames R77_good F149_eq

-- garboard/sat.plain
noncomputable def F165 : Value → AH → M := fun v0 h1 => jn (fun (h2 : AH) => pCv IntKind.u64 v0 (fun v3 => some (v3, h2))) (fun j4 => pLt v0 (Value.int IntKind.i64 (Int.ofNat 0)) (fun v5 => pIf v5 (pCv IntKind.u64 v0 (fun v6 => pGen Tryz.prog R78 (Op.unOp UnOp.neg 22 (Operand.tmp 6)) 22 [(6, v6)] h1 (fun v7 h8 => some (v7, h8)))) (j4 h1)))
theorem F165_eq : (F165 : Cur 1) = cur 1 (cFn Tryz.prog R78 FU 165) := by kernel_rfl
noncomputable def R79 : Rec := ext R78 165 1 F165
theorem R79_good : GoodRec Tryz.prog R79 := ext_ok plainNames R78_good F165_eq

-- garboard/sat.Mul
noncomputable def F148 : Value → Value → AH → M := fun v0 v1 h2 => pLt v0 (Value.int IntKind.i64 (Int.ofNat 0)) (fun v3 => pLt v1 (Value.int IntKind.i64 (Int.ofNat 0)) (fun v4 => pGen Tryz.prog R79 (Op.binOp BinOp.neq 4 (Operand.tmp 9) (Operand.tmp 11) 4) 4 [(9, v3), (11, v4)] h2 (fun v5 h6 => pR (F165 v0 h6) (fun v7 h8 => pR (F165 v1 h8) (fun v9 h10 => pR (F139 v7 v9 h10) (fun v11 h12 => pExt 0 v11 (fun v13 => pExt 1 v11 (fun v14 => jn (fun (h15 : AH) => pCv IntKind.i64 v14 (fun v16 => some (v16, h15))) (fun j17 => jn (fun (v18 : Value) (h19 : AH) => jn (fun (v20 : Value) (h21 : AH) => jn (fun (v22 : Value) (h23 : AH) => pPick v5 v22 (Value.bool Bool.false) (fun v24 => pIf v24 (some (Value.int IntKind.i64 (Int.negSucc 9223372036854775807), h23)) (pNot v5 (fun v25 => jn (fun (v26 : Value) (h27 : AH) => jn (fun (v28 : Value) (h29 : AH) => jn (fun (v30 : Value) (h31 : AH) => pPick v25 v30 (Value.bool Bool.false) (fun v32 => pIf v32 (some (Value.int IntKind.i64 (Int.ofNat 9223372036854775807), h31)) (pIf v5 (pGen Tryz.prog R79 (Op.unOp UnOp.neg 22 (Operand.tmp 44)) 22 [(44, v14)] h31 (fun v33 h34 => pCv IntKind.i64 v33 (fun v35 => some (v35, h34)))) (j17 h31)))) (fun j36 => pG v25 Bool.true (pPick v26 (Value.bool Bool.true) v28 (fun v37 => j36 v37 h29)) (j36 (Value.tuple #[]) h29))) (fun j38 => pG v26 Bool.false (pGt v14 (Value.int IntKind.u64 (Int.ofNat 9223372036854775807)) (fun v39 => j38 v39 h27)) (j38 (Value.tuple #[]) h27))) (fun j40 => pG v25 Bool.true (pGt v13 (Value.int IntKind.u64 (Int.ofNat 0)) (fun v41 => j40 v41 h23)) (j40 (Value.tuple #[]) h23)))))) (fun j42 => pG v5 Bool.true (pPick v18 (Value.bool Bool.true) v20 (fun v43 => j42 v43 h21)) (j42 (Value.tuple #[]) h21))) (fun j44 => pG v18 Bool.false (pGt v14 (Value.int IntKind.u64 (Int.ofNat 9223372036854775808)) (fun v45 => j44 v45 h19)) (j44 (Value.tuple #[]) h19))) (fun j46 => pG v5 Bool.true (pGt v13 (Value.int IntKind.u64 (Int.ofNat 0)) (fun v47 => j46 v47 h12)) (j46 (Value.tuple #[]) h12)))))))))))
theorem F148_eq : (F148 : Cur 2) = cur 2 (cFn Tryz.prog R79 FU 148) := by kernel_rfl
noncomputable def R80 : Rec := ext R79 148 2 F148
theorem R80_good : GoodRec Tryz.prog R80 := ext_ok plainNames R79_good F148_eq

-- garboard/fixed.FromInt
noncomputable def F112 : Value → AH → M := fun v0 h1 => pR (F148 v0 (Value.int IntKind.i64 (Int.ofNat 65536)) h1) (fun v2 h3 => pR (F74 v2 h3) (fun v4 h5 => some (v4, h5)))
theorem F112_eq : (F112 : Cur 1) = cur 1 (cFn Tryz.prog R80 FU 112) := by kernel_rfl
noncomputable def R81 : Rec := ext R80 112 1 F112
theorem R81_good : GoodRec Tryz.prog R81 := ext_ok plainNames R80_good F112_eq

-- garboard/fixed.Sqrt
noncomputable def F143 : Value → AH → M := fun v0 h1 => pR (F74 v0 h1) (fun v2 h3 => pShl v2 (Value.int IntKind.u64 (Int.ofNat 16)) (fun v4 => jn (fun (h5 : AH) => lp 1 (fun j6 v7 h8 => pQuo v4 v7 (fun v9 => pAdd v7 v9 (fun v10 => pQuo v10 (Value.int IntKind.i64 (Int.ofNat 2)) (fun v11 => jn (fun (h12 : AH) => j6 v11 h12) (fun j13 => pGe v11 v7 (fun v14 => pIf v14 (some (v7, h8)) (j13 h8))))))) FU (Value.int IntKind.i64 (Int.ofNat 4294967296)) h5) (fun j15 => pLe v4 (Value.int IntKind.i64 (Int.ofNat 0)) (fun v16 => pIf v16 (some (Value.int IntKind.i64 (Int.ofNat 0), h3)) (j15 h3)))))
theorem F143_eq : (F143 : Cur 1) = cur 1 (cFn Tryz.prog R81 FU 143) := by kernel_rfl
noncomputable def R82 : Rec := ext R81 143 1 F143
theorem R82_good : GoodRec Tryz.prog R82 := ext_ok plainNames R81_good F143_eq

-- garboard/vec.each
noncomputable def F152 : Value → Value → AH → M := fun v0 v1 h2 => pR (F149 v0 h2) (fun v3 h4 => pR (F105 v3 h4) (fun v5 h6 => jn (fun (h7 : AH) => some (v5, h7)) (fun j8 => pLen v5 (fun v9 => lp 1 (fun j10 v11 h12 => pLt v11 v9 (fun v13 => jn (fun (h14 : AH) => jn (fun (h15 : AH) => pAdd v11 (Value.int IntKind.i64 (Int.ofNat 1)) (fun v16 => j10 v16 h15)) (fun j17 => pIx 1 v5 v11 (fun v18 => pLd v18 h14 (fun v19 => pR (aCallV R82 v1 #[v19] h14) (fun v20 h21 => pIx 1 v5 v11 (fun v22 => pSt v22 v20 h21 (fun h23 => j17 h23))))))) (fun j24 => pIf v13 (j24 h12) (j8 h12)))) FU (Value.int IntKind.i64 (Int.ofNat 0)) h6))))
theorem F152_eq : (F152 : Cur 2) = cur 2 (cFn Tryz.prog R82 FU 152) := by kernel_rfl
noncomputable def R83 : Rec := ext R82 152 2 F152
theorem R83_good : GoodRec Tryz.prog R83 := ext_ok plainNames R82_good F152_eq

-- garboard/vec.Norm
noncomputable def F115 : Value → AH → M := fun v0 h1 => pR (F116 v0 v0 h1) (fun v2 h3 => pR (F149 v0 h3) (fun v4 h5 => pLen v4 (fun v6 => pR (F112 v6 h5) (fun v7 h8 => pR (F111 v2 v7 h8) (fun v9 h10 => pR (F107 v9 (Value.int IntKind.i64 (Int.ofNat 1)) h10) (fun v11 h12 => pR (F143 v11 h12) (fun v13 h14 => pNew 2 [Value.int IntKind.i64 (Int.ofNat 0)] h14 (fun v15 h16 => pSt v15 v13 h16 (fun h17 => pR (F152 v0 (Value.func (Fn.func 156) #[] #[v15]) h17) (fun v18 h19 => some (v18, h19)))))))))))
theorem F115_eq : (F115 : Cur 1) = cur 1 (cFn Tryz.prog R83 FU 115) := by kernel_rfl
noncomputable def R84 : Rec := ext R83 115 1 F115
theorem R84_good : GoodRec Tryz.prog R84 := ext_ok plainNames R83_good F115_eq

-- garboard/vec.Mul
noncomputable def F142 : Value → Value → AH → M := fun v0 v1 h2 => jn (fun (v3 : Value) (h4 : AH) => some (v3, h4)) (fun j5 => pLen v0 (fun v6 => pMin v6 (Value.int IntKind.i64 (Int.ofNat 4096)) (fun v7 => pSl 1 v0 none (some v7) none h2 (fun v8 => pLen v8 (fun v9 => lp 2 (fun j10 v11 v12 h13 => pLt v12 v9 (fun v14 => jn (fun (h15 : AH) => jn (fun (v16 : Value) (h17 : AH) => pAdd v12 (Value.int IntKind.i64 (Int.ofNat 1)) (fun v18 => j10 v16 v18 h17)) (fun j19 => pIx 1 v8 v12 (fun v20 => pLd v20 h15 (fun v21 => pR (F116 v21 v1 h15) (fun v22 h23 => pGen Tryz.prog R84 (Op.buildSlice 85 1 #[(0, Operand.tmp 21)]) 85 [(21, v22)] h23 (fun v24 h25 => pGen Tryz.prog R84 (Op.call (Call.mk (Callee.builtin Builtin.append) #[Operand.tmp 18, Operand.tmp 22] #[85, 85])) 85 [(18, v11), (22, v24)] h25 (fun v26 h27 => j19 v26 h27))))))) (fun j28 => pIf v14 (j28 h13) (j5 v11 h13)))) FU (Value.slice none 0 0) (Value.int IntKind.i64 (Int.ofNat 0)) h2)))))
theorem F142_eq : (F142 : Cur 2) = cur 2 (cFn Tryz.prog R84 FU 142) := by kernel_rfl
noncomputable def R85 : Rec := ext R84 142 2 F142
theorem R85_good : GoodRec Tryz.prog R85 := ext_ok plainNames R84_good F142_eq

-- slices.Clone[[][]int64,[]int64]
noncomputable def F144 : Value → AH → M := fun v0 h1 => jn (fun (h2 : AH) => pGen Tryz.prog R85 (Op.buildSlice 84 0 #[]) 84 [] h2 (fun v3 h4 => pGen Tryz.prog R85 (Op.call (Call.mk (Callee.builtin Builtin.append) #[Operand.tmp 5, Operand.tmp 6] #[84, 84])) 84 [(5, v3), (6, v0)] h4 (fun v5 h6 => some (v5, h6)))) (fun j7 => pGen Tryz.prog R85 (Op.binOp BinOp.eql 84 (Operand.tmp 3) (Operand.const (Value.slice none 0 0)) 84) 4 [(3, v0)] h1 (fun v8 h9 => pIf v8 (some (Value.slice none 0 0, h9)) (j7 h9)))
theorem F144_eq : (F144 : Cur 1) = cur 1 (cFn Tryz.prog R85 FU 144) := by kernel_rfl
noncomputable def R86 : Rec := ext R85 144 1 F144
theorem R86_good : GoodRec Tryz.prog R86 := ext_ok plainNames R85_good F144_eq

-- slices.Max[[]int64,int64]
noncomputable def F151 : Value → AH → M := fun v0 h1 => jn (fun (h2 : AH) => pIx 1 v0 (Value.int IntKind.i64 (Int.ofNat 0)) (fun v3 => pLd v3 h2 (fun v4 => jn (fun (v5 : Value) (h6 : AH) => some (v5, h6)) (fun j7 => lp 2 (fun j8 v9 v10 h11 => jn (fun (h12 : AH) => jn (fun (v13 : Value) (h14 : AH) => pAdd v10 (Value.int IntKind.i64 (Int.ofNat 1)) (fun v15 => j8 v13 v15 h14)) (fun j16 => pIx 1 v0 v10 (fun v17 => pLd v17 h12 (fun v18 => pMax v9 v18 (fun v19 => j16 v19 h12))))) (fun j20 => pLen v0 (fun v21 => pLt v10 v21 (fun v22 => pIf v22 (j20 h11) (j7 v9 h11))))) FU v4 (Value.int IntKind.i64 (Int.ofNat 1)) h2)))) (fun j23 => pLen v0 (fun v24 => pLt v24 (Value.int IntKind.i64 (Int.ofNat 1)) (fun v25 => pIf v25 (pGen Tryz.prog R86 (Op.panic (Operand.tmp 8)) 0 [(8, Value.iface 9 (Value.string (ByteArray.mk #[115, 108, 105, 99, 101, 115, 46, 77, 97, 120, 58, 32, 101, 109, 112, 116, 121, 32, 108, 105, 115, 116])))] h1 (fun v26 h27 => j23 h27)) (j23 h1))))
theorem F151_eq : (F151 : Cur 1) = cur 1 (cFn Tryz.prog R86 FU 151) := by kernel_rfl
noncomputable def R87 : Rec := ext R86 151 1 F151
theorem R87_good : GoodRec Tryz.prog R87 := ext_ok plainNames R86_good F151_eq

-- garboard/vec.Soft
noncomputable def F114 : Value → AH → M := fun v0 h1 => jn (fun (h2 : AH) => pR (F149 v0 h2) (fun v3 h4 => pR (F151 v3 h4) (fun v5 h6 => pR (F74 v5 h6) (fun v7 h8 => pNew 2 [Value.int IntKind.i64 (Int.ofNat 0)] h8 (fun v9 h10 => pSt v9 v7 h10 (fun h11 => pNew 2 [Value.int IntKind.i64 (Int.ofNat 0)] h11 (fun v12 h13 => pSt v12 (Value.int IntKind.i64 (Int.ofNat 0)) h13 (fun h14 => pR (F152 v0 (Value.func (Fn.func 153) #[] #[v9, v12]) h14) (fun v15 h16 => pR (F152 v15 (Value.func (Fn.func 155) #[] #[v12]) h16) (fun v17 h18 => some (v17, h18))))))))))) (fun j19 => pLen v0 (fun v20 => pEq v20 (Value.int IntKind.i64 (Int.ofNat 0)) (fun v21 => pIf v21 (some (Value.slice none 0 0, h1)) (j19 h1))))
theorem F114_eq : (F114 : Cur 1) = cur 1 (cFn Tryz.prog R87 FU 114) := by kernel_rfl
noncomputable def R88 : Rec := ext R87 114 1 F114
theorem R88_good : GoodRec Tryz.prog R88 := ext_ok plainNames R87_good F114_eq

-- garboard/vec.Scale
noncomputable def F163 : Value → Value → AH → M := fun v0 v1 h2 => pBox 2 v1 h2 (fun v3 h4 => pR (F152 v0 (Value.func (Fn.func 168) #[] #[v3]) h4) (fun v5 h6 => some (v5, h6)))
theorem F163_eq : (F163 : Cur 2) = cur 2 (cFn Tryz.prog R88 FU 163) := by kernel_rfl
noncomputable def R89 : Rec := ext R88 163 2 F163
theorem R89_good : GoodRec Tryz.prog R89 := ext_ok plainNames R88_good F163_eq

-- garboard/vec.Mix
noncomputable def F145 : Value → Value → AH → M := fun v0 v1 h2 => jn (fun (v3 : Value) (h4 : AH) => pIx 1 v1 (Value.int IntKind.i64 (Int.ofNat 0)) (fun v5 => pLd v5 h4 (fun v6 => pR (F149 v6 h4) (fun v7 h8 => pLen v7 (fun v9 => pGen Tryz.prog R89 (Op.makeSlice 85 (Operand.tmp 15) (Operand.tmp 15)) 85 [(15, v9), (15, v9)] h8 (fun v10 h11 => jn (fun (v12 : Value) (h13 : AH) => some (v12, h13)) (fun j14 => pR (F149 v0 h11) (fun v15 h16 => pLen v0 (fun v17 => pLen v1 (fun v18 => pGen Tryz.prog R89 (Op.call (Call.mk (Callee.builtin Builtin.min) #[Operand.tmp 20, Operand.tmp 22, Operand.const (Value.int IntKind.i64 (Int.ofNat 4096))] #[3, 3, 3])) 3 [(20, v17), (22, v18)] h16 (fun v19 h20 => pSl 1 v15 none (some v19) none h20 (fun v21 => pLen v21 (fun v22 => lp 2 (fun j23 v24 v25 h26 => pLt v25 v22 (fun v27 => jn (fun (h28 : AH) => jn (fun (v29 : Value) (h30 : AH) => pAdd v25 (Value.int IntKind.i64 (Int.ofNat 1)) (fun v31 => j23 v29 v31 h30)) (fun j32 => pIx 1 v21 v25 (fun v33 => pLd v33 h28 (fun v34 => pIx 1 v1 v25 (fun v35 => pLd v35 h28 (fun v36 => pR (F163 v36 v34 h28) (fun v37 h38 => pR (F79 v24 v37 h38) (fun v39 h40 => j32 v39 h40)))))))) (fun j41 => pIf v27 (j41 h26) (j14 v24 h26)))) FU v10 (Value.int IntKind.i64 (Int.ofNat 0)) h20))))))))))))) (fun j42 => pLen v1 (fun v43 => pEq v43 (Value.int IntKind.i64 (Int.ofNat 0)) (fun v44 => pIf v44 (some (Value.slice none 0 0, h2)) (j42 (Value.slice none 0 0) h2))))
theorem F145_eq : (F145 : Cur 2) = cur 2 (cFn Tryz.prog R89 FU 145) := by kernel_rfl
noncomputable def R90 : Rec := ext R89 145 2 F145
theorem R90_good : GoodRec Tryz.prog R90 := ext_ok plainNames R89_good F145_eq

-- garboard/vec.Relu
noncomputable def F146 : Value → AH → M := fun v0 h1 => pR (F152 v0 (Value.func (Fn.func 164) #[] #[]) h1) (fun v2 h3 => some (v2, h3))
theorem F146_eq : (F146 : Cur 1) = cur 1 (cFn Tryz.prog R90 FU 146) := by kernel_rfl
noncomputable def R91 : Rec := ext R90 146 1 F146
theorem R91_good : GoodRec Tryz.prog R91 := ext_ok plainNames R90_good F146_eq

-- garboard/attn.Step
noncomputable def F104 : Value → Value → Value → Value → Value → AH → M := fun v0 v1 v2 v3 v4 h5 => pBox 28 v0 h5 (fun v6 h7 => pBox 3 v1 h7 (fun v8 h9 => jn (fun (v10 : Value) (v11 : Value) (v12 : Value) (h13 : AH) => pR (F115 v2 h13) (fun v14 h15 => pR (aCallV R91 (Value.func (Fn.func 140) #[] #[v6, v8]) #[Value.int IntKind.i64 (Int.ofNat 0)] h15) (fun v16 h17 => pR (F142 v16 v14 h17) (fun v18 h19 => pR (aCallV R91 (Value.func (Fn.func 140) #[] #[v6, v8]) #[Value.int IntKind.i64 (Int.ofNat 1)] h19) (fun v20 h21 => pR (F142 v20 v14 h21) (fun v22 h23 => pR (aCallV R91 (Value.func (Fn.func 140) #[] #[v6, v8]) #[Value.int IntKind.i64 (Int.ofNat 2)] h23) (fun v24 h25 => pR (F142 v24 v14 h25) (fun v26 h27 => pLd v6 h27 (fun v28 => pR (F46 v28 h27) (fun v29 h30 => pFl 2 v29 (fun v31 => pR (F112 v31 h30) (fun v32 h33 => pR (F143 v32 h33) (fun v34 h35 => pLen v3 (fun v36 => pLen v4 (fun v37 => pMin v36 v37 (fun v38 => jn (fun (v39 : Value) (h40 : AH) => pR (F114 v39 h40) (fun v41 h42 => pSl 1 v4 none (some v38) none h42 (fun v43 => pChk [Tr.mk 1 none (since h40 h42) h40] (Tr.mk 12 (some (blkS v4)) [] h42) (pR (F144 v43 h42) (fun v44 h45 => pGen Tryz.prog R91 (Op.buildSlice 84 1 #[(0, Operand.tmp 84)]) 84 [(84, v26)] h45 (fun v46 h47 => pChk [Tr.mk 1 none (since h40 h42) h40, Tr.mk 12 (some (blkS v4)) [] h42, Tr.mk 31 none (since h42 h45) h42] (Tr.mk 64 (some []) (since h45 h47) h45) (pGen Tryz.prog R91 (Op.call (Call.mk (Callee.builtin Builtin.append) #[Operand.tmp 83, Operand.tmp 85] #[84, 84])) 84 [(83, v44), (85, v46)] h47 (fun v48 h49 => pR (F145 v41 v48 h49) (fun v50 h51 => pR (aCallV R91 (Value.func (Fn.func 140) #[] #[v6, v8]) #[Value.int IntKind.i64 (Int.ofNat 3)] h51) (fun v52 h53 => pR (F142 v52 v50 h53) (fun v54 h55 => pR (F79 v2 v54 h55) (fun v56 h57 => pR (aCallV R91 (Value.func (Fn.func 140) #[] #[v6, v8]) #[Value.int IntKind.i64 (Int.ofNat 4)] h57) (fun v58 h59 => pR (F115 v56 h59) (fun v60 h61 => pR (F142 v58 v60 h61) (fun v62 h63 => pR (F146 v62 h63) (fun v64 h65 => pR (aCallV R91 (Value.func (Fn.func 140) #[] #[v6, v8]) #[Value.int IntKind.i64 (Int.ofNat 5)] h65) (fun v66 h67 => pR (F142 v66 v64 h67) (fun v68 h69 => pR (F79 v56 v68 h69) (fun v70 h71 => some (Value.tuple #[v70, v22, v26], h71)))))))))))))))))))) (fun j72 => pSl 1 v3 none (some v38) none h35 (fun v73 => pR (F144 v73 h35) (fun v74 h75 => pGen Tryz.prog R91 (Op.buildSlice 84 1 #[(0, Operand.tmp 61)]) 84 [(61, v22)] h75 (fun v76 h77 => pGen Tryz.prog R91 (Op.call (Call.mk (Callee.builtin Builtin.append) #[Operand.tmp 60, Operand.tmp 62] #[84, 84])) 84 [(60, v74), (62, v76)] h77 (fun v78 h79 => pLen v78 (fun v80 => lp 2 (fun j81 v82 v83 h84 => pLt v83 v80 (fun v85 => jn (fun (h86 : AH) => jn (fun (v87 : Value) (h88 : AH) => pAdd v83 (Value.int IntKind.i64 (Int.ofNat 1)) (fun v89 => j81 v87 v89 h88)) (fun j90 => pIx 1 v78 v83 (fun v91 => pLd v91 h86 (fun v92 => pR (F116 v18 v92 h86) (fun v93 h94 => pR (F111 v93 v34 h94) (fun v95 h96 => pGen Tryz.prog R91 (Op.buildSlice 85 1 #[(0, Operand.tmp 74)]) 85 [(74, v95)] h96 (fun v97 h98 => pGen Tryz.prog R91 (Op.call (Call.mk (Callee.builtin Builtin.append) #[Operand.tmp 69, Operand.tmp 75] #[85, 85])) 85 [(69, v82), (75, v97)] h98 (fun v99 h100 => j90 v99 h100)))))))) (fun j101 => pIf v85 (j101 h84) (j72 v82 h84)))) FU (Value.slice none 0 0) (Value.int IntKind.i64 (Int.ofNat 0)) h79)))))))))))))))))))))) (fun j102 => pR (aCallV R91 (Value.func (Fn.func 140) #[] #[v6, v8]) #[Value.int IntKind.i64 (Int.ofNat 0)] h9) (fun v103 h104 => pLen v103 (fun v105 => pEq v105 (Value.int IntKind.i64 (Int.ofNat 0)) (fun v106 => pIf v106 (pR (F105 v2 h104) (fun v107 h108 => some (Value.tuple #[v107, Value.slice none 0 0, Value.slice none 0 0], h108))) (j102 (Value.slice none 0 0) (Value.slice none 0 0) (Value.slice none 0 0) h104)))))))
theorem F104_eq : (F104 : Cur 5) = cur 5 (cFn Tryz.prog R91 FU 104) := by kernel_rfl
noncomputable def R92 : Rec := ext R91 104 5 F104
theorem R92_good : GoodRec Tryz.prog R92 := ext_ok plainNames R91_good F104_eq

-- garboard/attn.Through
noncomputable def F78 : Value → Value → Value → AH → M := fun v0 v1 v2 h3 => pR (F46 v0 h3) (fun v4 h5 => pFl 3 v4 (fun v6 => jn (fun (v7 : Value) (h8 : AH) => pNew 162 [Value.slice none 0 0, Value.slice none 0 0] h8 (fun v9 h10 => jn (fun (v11 : Value) (h12 : AH) => pNil v7 (fun v13 => pFad 1 v13 (fun v14 => pLd v14 h12 (fun v15 => pLen v15 (fun v16 => pR (F105 v11 h12) (fun v17 h18 => pNil v7 (fun v19 => pFad 1 v19 (fun v20 => pLd v20 h18 (fun v21 => pChk [Tr.mk 1 none (since h12 h18) h12] (Tr.mk 56 (some (blkOf v20)) [] h18) (pSl 2 v21 none (some v16) (some v16) h18 (fun v22 => pChk [Tr.mk 1 none (since h12 h18) h12] (Tr.mk 504 (some (blkS v21)) [] h18) (pLdN 2 v9 h18 (fun v23 => pChk [Tr.mk 1 none (since h12 h18) h12] (Tr.mk 0 (some (blkOf v9)) [] h18) (pGen Tryz.prog R92 (Op.buildSlice 134 1 #[(0, Operand.tmp 75)]) 134 [(75, v23)] h18 (fun v24 h25 => pChk [Tr.mk 1 none (since h12 h18) h12, Tr.mk 56 (some (blkOf v20)) [] h18, Tr.mk 504 (some (blkS v21)) [] h18] (Tr.mk 1024 (some []) (since h18 h25) h18) (pGen Tryz.prog R92 (Op.call (Call.mk (Callee.builtin Builtin.append) #[Operand.tmp 74, Operand.tmp 76] #[134, 134])) 134 [(74, v22), (76, v24)] h25 (fun v26 h27 => pGen Tryz.prog R92 (Op.build 136 #[(0, Operand.tmp 67), (1, Operand.tmp 77)]) 136 [(67, v6), (77, v26)] h27 (fun v28 h29 => pBox 136 v28 h29 (fun v30 h31 => some (Value.tuple #[v17, v30], h31)))))))))))))))))))) (fun j32 => lp 2 (fun j33 v34 v35 h36 => pLt v35 v6 (fun v37 => jn (fun (h38 : AH) => jn (fun (v39 : Value) (h40 : AH) => pAdd v35 (Value.int IntKind.i64 (Int.ofNat 1)) (fun v41 => j33 v39 v41 h40)) (fun j42 => pR (F103 v7 v35 h38) (fun v43 h44 => pExt 0 v43 (fun v45 => pExt 1 v43 (fun v46 => pR (F104 v0 v35 v34 v45 v46 h44) (fun v47 h48 => pExt 0 v47 (fun v49 => pExt 1 v47 (fun v50 => pExt 2 v47 (fun v51 => pFad 0 v9 (fun v52 => pLd v52 h48 (fun v53 => pGen Tryz.prog R92 (Op.buildSlice 84 1 #[(0, Operand.tmp 48)]) 84 [(48, v50)] h48 (fun v54 h55 => pChk [Tr.mk 1 (some (blkOf v52)) [] h48] (Tr.mk 4 (some []) (since h48 h55) h48) (pGen Tryz.prog R92 (Op.call (Call.mk (Callee.builtin Builtin.append) #[Operand.tmp 47, Operand.tmp 49] #[84, 84])) 84 [(47, v53), (49, v54)] h55 (fun v56 h57 => pFad 1 v9 (fun v58 => pLd v58 h57 (fun v59 => pChk [Tr.mk 4 (some []) (since h48 h55) h48, Tr.mk 15 none (since h55 h57) h55] (Tr.mk 32 (some (blkOf v58)) [] h57) (pGen Tryz.prog R92 (Op.buildSlice 84 1 #[(0, Operand.tmp 53)]) 84 [(53, v51)] h57 (fun v60 h61 => pChk [Tr.mk 1 (some (blkOf v52)) [] h48, Tr.mk 4 (some []) (since h48 h55) h48, Tr.mk 15 none (since h55 h57) h55, Tr.mk 32 (some (blkOf v58)) [] h57] (Tr.mk 128 (some []) (since h57 h61) h57) (pGen Tryz.prog R92 (Op.call (Call.mk (Callee.builtin Builtin.append) #[Operand.tmp 52, Operand.tmp 54] #[84, 84])) 84 [(52, v59), (54, v60)] h61 (fun v62 h63 => pFad 0 v9 (fun v64 => pSt v64 v56 h63 (fun h65 => pFad 1 v9 (fun v66 => pSt v66 v62 h65 (fun h67 => j42 v49 h67)))))))))))))))))))))))) (fun j68 => pIf v37 (j68 h36) (j32 v34 h36)))) FU v2 (Value.int IntKind.i64 (Int.ofNat 0)) h10))) (fun j69 => pR (F102 v1 h5) (fun v70 h71 => pNe v70 v6 (fun v72 => pIf v72 (pR (F47 v6 h71) (fun v73 h74 => j69 v73 h74)) (j69 v1 h71))))))
theorem F78_eq : (F78 : Cur 3) = cur 3 (cFn Tryz.prog R92 FU 78) := by kernel_rfl
noncomputable def R93 : Rec := ext R92 78 3 F78
theorem R93_good : GoodRec Tryz.prog R93 := ext_ok plainNames R92_good F78_eq

-- (*garboard/decode.State).add
noncomputable def F48 : Value → Value → AH → M := fun v0 v1 h2 => pNil v0 (fun v3 => pFad 1 v3 (fun v4 => pLd v4 h2 (fun v5 => pLen v5 (fun v6 => pNil v0 (fun v7 => pFad 0 v7 (fun v8 => pLd v8 h2 (fun v9 => pNil v0 (fun v10 => pFad 3 v10 (fun v11 => pLd v11 h2 (fun v12 => pNil v0 (fun v13 => pFad 0 v13 (fun v14 => pLd v14 h2 (fun v15 => pR (F80 v15 v1 h2) (fun v16 h17 => pChk [Tr.mk 7 (some (blkOf v8)) [] h2, Tr.mk 112 (some (blkOf v11)) [] h2] (Tr.mk 7936 none (since h2 h17) h2) (pNil v0 (fun v18 => pFad 0 v18 (fun v19 => pLd v19 h17 (fun v20 => pChk [Tr.mk 7936 none (since h2 h17) h2] (Tr.mk 114688 (some (blkOf v19)) [] h17) (pR (F81 v20 v6 h17) (fun v21 h22 => pChk [Tr.mk 7 (some (blkOf v8)) [] h2, Tr.mk 112 (some (blkOf v11)) [] h2] (Tr.mk 524032 none (since h17 h22) h17) (pR (F79 v16 v21 h22) (fun v23 h24 => pChk [Tr.mk 7 (some (blkOf v8)) [] h2, Tr.mk 112 (some (blkOf v11)) [] h2] (Tr.mk 1048320 none (since h22 h24) h22) (pR (F78 v9 v12 v23 h24) (fun v25 h26 => pExt 0 v25 (fun v27 => pExt 1 v25 (fun v28 => pNil v0 (fun v29 => pFad 0 v29 (fun v30 => pLd v30 h26 (fun v31 => pNil v0 (fun v32 => pFad 1 v32 (fun v33 => pLd v33 h26 (fun v34 => pSl 1 v34 none (some v6) (some v6) h26 (fun v35 => pGen Tryz.prog R93 (Op.buildSlice 25 1 #[(0, Operand.tmp 49)]) 25 [(49, v1)] h26 (fun v36 h37 => pChk [Tr.mk 7 (some (blkOf v30)) [] h26, Tr.mk 112 (some (blkOf v33)) [] h26, Tr.mk 1008 (some (blkS v34)) [] h26] (Tr.mk 2048 (some []) (since h26 h37) h26) (pGen Tryz.prog R93 (Op.call (Call.mk (Callee.builtin Builtin.append) #[Operand.tmp 48, Operand.tmp 50] #[25, 25])) 25 [(48, v35), (50, v36)] h37 (fun v38 h39 => pChk [Tr.mk 7 (some (blkOf v30)) [] h26] (Tr.mk 8176 none (since h37 h39) h37) (pNil v0 (fun v40 => pFad 2 v40 (fun v41 => pLd v41 h39 (fun v42 => pChk [Tr.mk 2048 (some []) (since h26 h37) h26, Tr.mk 8176 none (since h37 h39) h37] (Tr.mk 114688 (some (blkOf v41)) [] h39) (pSl 1 v42 none (some v6) (some v6) h39 (fun v43 => pChk [Tr.mk 2048 (some []) (since h26 h37) h26, Tr.mk 8176 none (since h37 h39) h37] (Tr.mk 1032192 (some (blkS v42)) [] h39) (pGen Tryz.prog R93 (Op.buildSlice 84 1 #[(0, Operand.tmp 59)]) 84 [(59, v27)] h39 (fun v44 h45 => pChk [Tr.mk 7 (some (blkOf v30)) [] h26, Tr.mk 112 (some (blkOf v33)) [] h26, Tr.mk 1008 (some (blkS v34)) [] h26, Tr.mk 2048 (some []) (since h26 h37) h26, Tr.mk 8176 none (since h37 h39) h37, Tr.mk 114688 (some (blkOf v41)) [] h39, Tr.mk 1032192 (some (blkS v42)) [] h39] (Tr.mk 2097152 (some []) (since h39 h45) h39) (pGen Tryz.prog R93 (Op.call (Call.mk (Callee.builtin Builtin.append) #[Operand.tmp 58, Operand.tmp 60] #[84, 84])) 84 [(58, v43), (60, v44)] h45 (fun v46 h47 => pChk [Tr.mk 7 (some (blkOf v30)) [] h26] (Tr.mk 8388592 none (since h45 h47) h45) (pGen Tryz.prog R93 (Op.build 96 #[(0, Operand.tmp 41), (1, Operand.tmp 51), (2, Operand.tmp 61), (3, Operand.tmp 62)]) 96 [(41, v31), (51, v38), (61, v46), (62, v28)] h47 (fun v48 h49 => pBox 96 v48 h49 (fun v50 h51 => some (v50, h51))))))))))))))))))))))))))))))))))))))))))))))))))
theorem F48_eq : (F48 : Cur 2) = cur 2 (cFn Tryz.prog R93 FU 48) := by kernel_rfl
noncomputable def R94 : Rec := ext R93 48 2 F48
theorem R94_good : GoodRec Tryz.prog R94 := ext_ok plainNames R93_good F48_eq

-- garboard/decode.New
noncomputable def F17 : Value → AH → M := fun v0 h1 => pR (F46 v0 h1) (fun v2 h3 => pFl 3 v2 (fun v4 => jn (fun (h5 : AH) => pR (F47 v4 h5) (fun v6 h7 => pGen Tryz.prog R94 (Op.build 96 #[(0, Operand.tmp 11), (3, Operand.tmp 13)]) 96 [(11, v0), (13, v6)] h7 (fun v8 h9 => pBox 96 v8 h9 (fun v10 h11 => pR (F48 v10 (Value.int IntKind.i64 (Int.ofNat 0)) h11) (fun v12 h13 => some (Value.tuple #[v12, Value.int IntKind.i64 (Int.ofNat 0)], h13)))))) (fun j14 => pEq v4 (Value.int IntKind.i64 (Int.ofNat 0)) (fun v15 => pIf v15 (some (Value.tuple #[Value.pointer none, Value.int IntKind.i64 (Int.ofNat 2)], h3)) (j14 h3)))))
theorem F17_eq : (F17 : Cur 1) = cur 1 (cFn Tryz.prog R94 FU 17) := by kernel_rfl
noncomputable def R95 : Rec := ext R94 17 1 F17
theorem R95_good : GoodRec Tryz.prog R95 := ext_ok plainNames R94_good F17_eq

-- slices.IndexFunc[[]int,int]
noncomputable def F76 : Value → Value → AH → M := fun v0 v1 h2 => jn (fun (h3 : AH) => some (Value.int IntKind.i64 (Int.negSucc 0), h3)) (fun j4 => pLen v0 (fun v5 => lp 2 (fun j6 v7 v8 h9 => pLt v8 v5 (fun v10 => jn (fun (h11 : AH) => jn (fun (v12 : Value) (h13 : AH) => pAdd v8 (Value.int IntKind.i64 (Int.ofNat 1)) (fun v14 => j6 v12 v14 h13)) (fun j15 => pIx 1 v0 v8 (fun v16 => pLd v16 h11 (fun v17 => pR (aCallV R95 v1 #[v17] h11) (fun v18 h19 => pIf v18 (some (v8, h19)) (j15 v7 h19)))))) (fun j20 => pIf v10 (j20 h9) (j4 h9)))) FU (Value.int IntKind.i64 (Int.ofNat 0)) (Value.int IntKind.i64 (Int.ofNat 0)) h2))
theorem F76_eq : (F76 : Cur 2) = cur 2 (cFn Tryz.prog R95 FU 76) := by kernel_rfl
noncomputable def R96 : Rec := ext R95 76 2 F76
theorem R96_good : GoodRec Tryz.prog R96 := ext_ok plainNames R95_good F76_eq

-- slices.ContainsFunc[[]int,int]
noncomputable def F45 : Value → Value → AH → M := fun v0 v1 h2 => pR (F76 v0 v1 h2) (fun v3 h4 => pGe v3 (Value.int IntKind.i64 (Int.ofNat 0)) (fun v5 => some (v5, h4)))
theorem F45_eq : (F45 : Cur 2) = cur 2 (cFn Tryz.prog R96 FU 45) := by kernel_rfl
noncomputable def R97 : Rec := ext R96 45 2 F45
theorem R97_good : GoodRec Tryz.prog R97 := ext_ok plainNames R96_good F45_eq

-- garboard/decode.May
noncomputable def F14 : Value → Value → AH → M := fun v0 v1 h2 => pBox 24 v0 h2 (fun v3 h4 => pBox 27 v1 h4 (fun v5 h6 => pFad 2 v5 (fun v7 => pLd v7 h6 (fun v8 => pGe v8 (Value.int IntKind.i64 (Int.ofNat 0)) (fun v9 => jn (fun (v10 : Value) (h11 : AH) => pPick v9 v10 (Value.bool Bool.false) (fun v12 => jn (fun (v13 : Value) (h14 : AH) => pPick v12 v13 (Value.bool Bool.false) (fun v15 => jn (fun (v16 : Value) (h17 : AH) => pPick v15 v16 (Value.bool Bool.false) (fun v18 => some (v18, h17))) (fun j19 => pG v15 Bool.true (pFad 1 v5 (fun v20 => pLd v20 h14 (fun v21 => pR (F45 v21 (Value.func (Fn.func 44) #[] #[v3]) h14) (fun v22 h23 => pNot v22 (fun v24 => j19 v24 h23))))) (j19 (Value.tuple #[]) h14)))) (fun j25 => pG v12 Bool.true (pFad 1 v5 (fun v26 => pLd v26 h11 (fun v27 => pLen v27 (fun v28 => pLt v28 (Value.int IntKind.i64 (Int.ofNat 256)) (fun v29 => j25 v29 h11))))) (j25 (Value.tuple #[]) h11)))) (fun j30 => pG v9 Bool.true (pFad 2 v5 (fun v31 => pLd v31 h6 (fun v32 => pLe v32 (Value.int IntKind.i64 (Int.ofNat 256)) (fun v33 => j30 v33 h6)))) (j30 (Value.tuple #[]) h6)))))))
theorem F14_eq : (F14 : Cur 2) = cur 2 (cFn Tryz.prog R97 FU 14) := by kernel_rfl
noncomputable def R98 : Rec := ext R97 14 2 F14
theorem R98_good : GoodRec Tryz.prog R98 := ext_ok plainNames R97_good F14_eq

-- slices.Grow[[]int,int]
noncomputable def F101 : Value → Value → AH → M := fun v0 v1 h2 => jn (fun (h3 : AH) => jn (fun (v4 : Value) (h5 : AH) => some (v4, h5)) (fun j6 => pGen Tryz.prog R98 (Op.call (Call.mk (Callee.builtin Builtin.cap) #[Operand.tmp 9] #[25])) 3 [(9, v0)] h3 (fun v7 h8 => pLen v0 (fun v9 => pSub v7 v9 (fun v10 => pSub v1 v10 (fun v11 => pGt v11 (Value.int IntKind.i64 (Int.ofNat 0)) (fun v12 => pIf v12 (pGen Tryz.prog R98 (Op.call (Call.mk (Callee.builtin Builtin.cap) #[Operand.tmp 18] #[25])) 3 [(18, v0)] h8 (fun v13 h14 => pSl 1 v0 none (some v13) none h14 (fun v15 => pGen Tryz.prog R98 (Op.call (Call.mk (Callee.builtin Builtin.append) #[Operand.tmp 20, Operand.tmp 21] #[25, 3])) 25 [(20, v15), (21, v11)] h14 (fun v16 h17 => pLen v0 (fun v18 => pSl 1 v16 none (some v18) none h17 (fun v19 => j6 v19 h17)))))) (j6 v0 h8)))))))) (fun j20 => pLt v1 (Value.int IntKind.i64 (Int.ofNat 0)) (fun v21 => pIf v21 (pGen Tryz.prog R98 (Op.panic (Operand.tmp 7)) 0 [(7, Value.iface 9 (Value.string (ByteArray.mk #[99, 97, 110, 110, 111, 116, 32, 98, 101, 32, 110, 101, 103, 97, 116, 105, 118, 101])))] h2 (fun v22 h23 => j20 h23)) (j20 h2)))
theorem F101_eq : (F101 : Cur 2) = cur 2 (cFn Tryz.prog R98 FU 101) := by kernel_rfl
noncomputable def R99 : Rec := ext R98 101 2 F101
theorem R99_good : GoodRec Tryz.prog R99 := ext_ok plainNames R98_good F101_eq

-- slices.Concat[[]int,int]
noncomputable def F75 : Value → AH → M := fun v0 h1 => jn (fun (v2 : Value) (h3 : AH) => pR (F101 (Value.slice none 0 0) v2 h3) (fun v4 h5 => jn (fun (v6 : Value) (h7 : AH) => some (v6, h7)) (fun j8 => pLen v0 (fun v9 => lp 2 (fun j10 v11 v12 h13 => pLt v12 v9 (fun v14 => jn (fun (h15 : AH) => jn (fun (v16 : Value) (h17 : AH) => pAdd v12 (Value.int IntKind.i64 (Int.ofNat 1)) (fun v18 => j10 v16 v18 h17)) (fun j19 => pIx 1 v0 v12 (fun v20 => pLd v20 h15 (fun v21 => pGen Tryz.prog R99 (Op.call (Call.mk (Callee.builtin Builtin.append) #[Operand.tmp 31, Operand.tmp 32] #[25, 25])) 25 [(31, v11), (32, v21)] h15 (fun v22 h23 => j19 v22 h23))))) (fun j24 => pIf v14 (j24 h13) (j8 v11 h13)))) FU v4 (Value.int IntKind.i64 (Int.ofNat 0)) h5)))) (fun j25 => pLen v0 (fun v26 => lp 2 (fun j27 v28 v29 h30 => pLt v29 v26 (fun v31 => jn (fun (h32 : AH) => jn (fun (v33 : Value) (h34 : AH) => pAdd v29 (Value.int IntKind.i64 (Int.ofNat 1)) (fun v35 => j27 v33 v35 h34)) (fun j36 => pIx 1 v0 v29 (fun v37 => pLd v37 h32 (fun v38 => pLen v38 (fun v39 => pAdd v28 v39 (fun v40 => pLt v40 (Value.int IntKind.i64 (Int.ofNat 0)) (fun v41 => pIf v41 (pGen Tryz.prog R99 (Op.panic (Operand.tmp 21)) 0 [(21, Value.iface 9 (Value.string (ByteArray.mk #[108, 101, 110, 32, 111, 117, 116, 32, 111, 102, 32, 114, 97, 110, 103, 101])))] h32 (fun v42 h43 => j36 v40 h43)) (j36 v40 h32)))))))) (fun j44 => pIf v31 (j44 h30) (j25 v28 h30)))) FU (Value.int IntKind.i64 (Int.ofNat 0)) (Value.int IntKind.i64 (Int.ofNat 0)) h1))
theorem F75_eq : (F75 : Cur 1) = cur 1 (cFn Tryz.prog R99 FU 75) := by kernel_rfl
noncomputable def R100 : Rec := ext R99 75 1 F75
theorem R100_good : GoodRec Tryz.prog R100 := ext_ok plainNames R99_good F75_eq

-- (*garboard/decode.State).Feed
noncomputable def F19 : Value → Value → AH → M := fun v0 v1 h2 => jn (fun (h3 : AH) => pR (F48 v0 v1 h3) (fun v4 h5 => some (Value.tuple #[v4, Value.int IntKind.i64 (Int.ofNat 0)], h5))) (fun j6 => pR (F18 v0 h2) (fun v7 h8 => pEq v7 (Value.int IntKind.i64 (Int.ofNat 0)) (fun v9 => pIf v9 (some (Value.tuple #[Value.pointer none, Value.int IntKind.i64 (Int.ofNat 2)], h8)) (pLt v1 (Value.int IntKind.i64 (Int.ofNat 0)) (fun v10 => jn (fun (v11 : Value) (h12 : AH) => pPick v10 (Value.bool Bool.true) v11 (fun v13 => pIf v13 (some (Value.tuple #[Value.pointer none, Value.int IntKind.i64 (Int.ofNat 1)], h12)) (pR (F18 v0 h12) (fun v14 h15 => pGe v14 (Value.int IntKind.i64 (Int.ofNat 256)) (fun v16 => pIf v16 (some (Value.tuple #[Value.pointer none, Value.int IntKind.i64 (Int.ofNat 5)], h15)) (j6 h15)))))) (fun j17 => pG v10 Bool.false (pNil v0 (fun v18 => pFad 0 v18 (fun v19 => pLd v19 h8 (fun v20 => pR (F46 v20 h8) (fun v21 h22 => pFl 1 v21 (fun v23 => pGe v1 v23 (fun v24 => j17 v24 h22))))))) (j17 (Value.tuple #[]) h8)))))))
theorem F19_eq : (F19 : Cur 2) = cur 2 (cFn Tryz.prog R100 FU 19) := by kernel_rfl
noncomputable def R101 : Rec := ext R100 19 2 F19
theorem R101_good : GoodRec Tryz.prog R101 := ext_ok plainNames R100_good F19_eq

-- garboard/decode.Start
noncomputable def F42 : Value → Value → Value → AH → M := fun v0 v1 v2 h3 => pBox 27 v1 h3 (fun v4 h5 => pR (F17 v0 h5) (fun v6 h7 => pExt 0 v6 (fun v8 => pExt 1 v6 (fun v9 => jn (fun (v10 : Value) (v11 : Value) (h12 : AH) => jn (fun (v13 : Value) (h14 : AH) => some (Value.tuple #[v13, Value.int IntKind.i64 (Int.ofNat 0)], h14)) (fun j15 => pFad 1 v4 (fun v16 => pLd v16 h12 (fun v17 => pGen Tryz.prog R101 (Op.buildSlice 54 2 #[(0, Operand.tmp 43), (1, Operand.tmp 44)]) 54 [(43, v17), (44, v2)] h12 (fun v18 h19 => pR (F75 v18 h19) (fun v20 h21 => pLen v20 (fun v22 => lp 4 (fun j23 v24 v25 v26 v27 h28 => pLt v27 v22 (fun v29 => jn (fun (h30 : AH) => jn (fun (v31 : Value) (v32 : Value) (v33 : Value) (h34 : AH) => pAdd v27 (Value.int IntKind.i64 (Int.ofNat 1)) (fun v35 => j23 v31 v32 v33 v35 h34)) (fun j36 => pIx 1 v20 v27 (fun v37 => pLd v37 h30 (fun v38 => pR (F19 v26 v38 h30) (fun v39 h40 => pExt 0 v39 (fun v41 => pExt 1 v39 (fun v42 => pNe v42 (Value.int IntKind.i64 (Int.ofNat 0)) (fun v43 => pIf v43 (some (Value.tuple #[Value.pointer none, v42], h40)) (j36 v24 v25 v41 h40))))))))) (fun j44 => pIf v29 (j44 h28) (j15 v26 h28)))) FU v10 v11 v8 (Value.int IntKind.i64 (Int.ofNat 0)) h21))))))) (fun j45 => pNe v9 (Value.int IntKind.i64 (Int.ofNat 0)) (fun v46 => pIf v46 (some (Value.tuple #[Value.pointer none, v9], h7)) (pR (F46 v0 h7) (fun v47 h48 => pLdN 3 v4 h48 (fun v49 => pChk [Tr.mk 1 none (since h7 h48) h7] (Tr.mk 0 (some (blkOf v4)) [] h48) (pR (F14 v47 v49 h48) (fun v50 h51 => pNot v50 (fun v52 => pIf v52 (some (Value.tuple #[Value.pointer none, Value.int IntKind.i64 (Int.ofNat 1)], h51)) (pLen v2 (fun v53 => pFad 2 v4 (fun v54 => pLd v54 h51 (fun v55 => pGt v53 v55 (fun v56 => jn (fun (v57 : Value) (h58 : AH) => pPick v56 (Value.bool Bool.true) v57 (fun v59 => pIf v59 (some (Value.tuple #[Value.pointer none, Value.int IntKind.i64 (Int.ofNat 5)], h58)) (j45 (Value.pointer none) (Value.int IntKind.i64 (Int.ofNat 0)) h58))) (fun j60 => pG v56 Bool.false (pLen v2 (fun v61 => pFad 1 v4 (fun v62 => pLd v62 h51 (fun v63 => pLen v63 (fun v64 => pSub (Value.int IntKind.i64 (Int.ofNat 255)) v64 (fun v65 => pGt v61 v65 (fun v66 => j60 v66 h51))))))) (j60 (Value.tuple #[]) h51)))))))))))))))))))
theorem F42_eq : (F42 : Cur 3) = cur 3 (cFn Tryz.prog R101 FU 42) := by kernel_rfl
noncomputable def R102 : Rec := ext R101 42 3 F42
theorem R102_good : GoodRec Tryz.prog R102 := ext_ok plainNames R101_good F42_eq

-- garboard/garboardlaw14.state
noncomputable def F29 : Value → Value → AH → M := fun v0 v1 h2 => pGen Tryz.prog R102 (Op.build 27 #[(1, Operand.tmp 9)]) 27 [(9, v1)] h2 (fun v3 h4 => pR (F42 v0 v3 (Value.slice none 0 0) h4) (fun v5 h6 => pExt 0 v5 (fun v7 => pExt 1 v5 (fun v8 => some (v7, h6)))))
theorem F29_eq : (F29 : Cur 2) = cur 2 (cFn Tryz.prog R102 FU 29) := by kernel_rfl
noncomputable def R103 : Rec := ext R102 29 2 F29
theorem R103_good : GoodRec Tryz.prog R103 := ext_ok plainNames R102_good F29_eq

-- garboard/garboardlaw14.alive
noncomputable def F32 : AH → M := fun h0 => pR (F23 h0) (fun v1 h2 => pR (F24 v1 (Value.int IntKind.i64 (Int.ofNat 2)) (Value.int IntKind.i64 (Int.ofNat 2)) h2) (fun v3 h4 => pExt 0 v3 (fun v5 => pExt 1 v3 (fun v6 => pGen Tryz.prog R103 (Op.buildSlice 25 3 #[(0, Operand.const (Value.int IntKind.i64 (Int.ofNat 1))), (1, Operand.const (Value.int IntKind.i64 (Int.ofNat 2))), (2, Operand.const (Value.int IntKind.i64 (Int.ofNat 3)))]) 25 [] h4 (fun v7 h8 => pR (F29 v1 v7 h8) (fun v9 h10 => jn (fun (h11 : AH) => pGen Tryz.prog R103 (Op.buildSlice 25 4 #[(0, Operand.const (Value.int IntKind.i64 (Int.ofNat 0))), (1, Operand.const (Value.int IntKind.i64 (Int.ofNat 1))), (2, Operand.const (Value.int IntKind.i64 (Int.ofNat 2))), (3, Operand.const (Value.int IntKind.i64 (Int.ofNat 1)))]) 25 [] h11 (fun v12 h13 => pR (F30 v5 v12 h13) (fun v14 h15 => pExt 0 v14 (fun v16 => pExt 1 v14 (fun v17 => pEq v17 (Value.int IntKind.i64 (Int.ofNat 2)) (fun v18 => jn (fun (v19 : Value) (h20 : AH) => pPick v18 v19 (Value.bool Bool.false) (fun v21 => jn (fun (v22 : Value) (h23 : AH) => pPick v21 v22 (Value.bool Bool.false) (fun v24 => jn (fun (v25 : Value) (h26 : AH) => pPick v24 v25 (Value.bool Bool.false) (fun v27 => jn (fun (v28 : Value) (h29 : AH) => pPick v27 v28 (Value.bool Bool.false) (fun v30 => some (v30, h29))) (fun j31 => pG v27 Bool.true (pGen Tryz.prog R103 (Op.buildSlice 25 1 #[(0, Operand.const (Value.int IntKind.i64 (Int.ofNat 0)))]) 25 [] h26 (fun v32 h33 => pR (F27 v5 v32 h33) (fun v34 h35 => pNot v34 (fun v36 => j31 v36 h35)))) (j31 (Value.tuple #[]) h26)))) (fun j37 => pG v24 Bool.true (pGen Tryz.prog R103 (Op.buildSlice 25 4 #[(0, Operand.const (Value.int IntKind.i64 (Int.ofNat 0))), (1, Operand.const (Value.int IntKind.i64 (Int.ofNat 1))), (2, Operand.const (Value.int IntKind.i64 (Int.ofNat 2))), (3, Operand.const (Value.int IntKind.i64 (Int.ofNat 3)))]) 25 [] h23 (fun v38 h39 => pR (F27 v5 v38 h39) (fun v40 h41 => j37 v40 h41))) (j37 (Value.tuple #[]) h23)))) (fun j42 => pG v21 Bool.true (pR (F31 v5 h20) (fun v43 h44 => pEq v43 (Value.int IntKind.i64 (Int.ofNat 2)) (fun v45 => j42 v45 h44))) (j42 (Value.tuple #[]) h20)))) (fun j46 => pG v18 Bool.true (pR (F18 v16 h15) (fun v47 h48 => pEq v47 (Value.int IntKind.i64 (Int.ofNat 2)) (fun v49 => j46 v49 h48))) (j46 (Value.tuple #[]) h15)))))))) (fun j50 => pGen Tryz.prog R103 (Op.binOp BinOp.eql 51 (Operand.tmp 16) (Operand.const (Value.pointer none)) 51) 4 [(16, v5)] h10 (fun v51 h52 => jn (fun (v53 : Value) (h54 : AH) => pPick v51 (Value.bool Bool.true) v53 (fun v55 => jn (fun (v56 : Value) (h57 : AH) => pPick v55 (Value.bool Bool.true) v56 (fun v58 => pIf v58 (some (Value.bool Bool.false, h57)) (j50 h57))) (fun j59 => pG v55 Bool.false (pR (F28 v5 v9 h54) (fun v60 h61 => pNe v60 (Value.int IntKind.i64 (Int.ofNat 2)) (fun v62 => j59 v62 h61))) (j59 (Value.tuple #[]) h54)))) (fun j63 => pG v51 Bool.false (pNe v6 (Value.int IntKind.i64 (Int.ofNat 0)) (fun v64 => j63 v64 h52)) (j63 (Value.tuple #[]) h52))))))))))
theorem F32_eq : (F32 : Cur 0) = cur 0 (cFn Tryz.prog R103 FU 32) := by kernel_rfl
noncomputable def R104 : Rec := ext R103 32 0 F32
theorem R104_good : GoodRec Tryz.prog R104 := ext_ok plainNames R103_good F32_eq
theorem F32_runs : yes (R104.call 32 #[] (Go.Ags.blank (0 : Nat))) = true := by kernel_rfl
noncomputable def R105 : Rec := known R104 32 (.bool true)
theorem R105_good : GoodRec Tryz.prog R105 := known_ok plainNames R104_good Tryz.func32 rfl F32_runs

-- garboard/garboardlaw14.KvNobody
noncomputable def F7 : Value → Value → Value → AH → M := fun v0 v1 v2 h3 => pR (F24 (Value.pointer none) v1 v2 h3) (fun v4 h5 => pExt 0 v4 (fun v6 => pExt 1 v4 (fun v7 => jn (fun (v8 : Value) (h9 : AH) => jn (fun (h10 : AH) => pR (F23 h10) (fun v11 h12 => pR (F24 v11 (Value.int IntKind.i64 (Int.ofNat 2)) (Value.int IntKind.i64 (Int.ofNat 2)) h12) (fun v13 h14 => pExt 0 v13 (fun v15 => pExt 1 v13 (fun v16 => pGen Tryz.prog R105 (Op.binOp BinOp.neq 51 (Operand.tmp 76) (Operand.const (Value.pointer none)) 51) 4 [(76, v15)] h14 (fun v17 h18 => jn (fun (v19 : Value) (h20 : AH) => pPick v17 v19 (Value.bool Bool.false) (fun v21 => jn (fun (v22 : Value) (h23 : AH) => pPick v21 v22 (Value.bool Bool.false) (fun v24 => some (v24, h23))) (fun j25 => pG v21 Bool.true (pR (R105.call 32 #[] h20) (fun v26 h27 => j25 v26 h27)) (j25 (Value.tuple #[]) h20)))) (fun j28 => pG v17 Bool.true (pR (F28 v15 (Value.pointer none) h18) (fun v29 h30 => pEq v29 (Value.int IntKind.i64 (Int.ofNat 0)) (fun v31 => j28 v31 h30))) (j28 (Value.tuple #[]) h18)))))))) (fun j32 => pGen Tryz.prog R105 (Op.build 74 #[]) 74 [] h9 (fun v33 h34 => pBox 74 v33 h34 (fun v35 h36 => pGen Tryz.prog R105 (Op.buildSlice 75 2 #[(0, Operand.const (Value.pointer none)), (1, Operand.tmp 28)]) 75 [(28, v35)] h36 (fun v37 h38 => pLen v37 (fun v39 => lp 2 (fun j40 v41 v42 h43 => pLt v42 v39 (fun v44 => jn (fun (h45 : AH) => jn (fun (v46 : Value) (h47 : AH) => pAdd v42 (Value.int IntKind.i64 (Int.ofNat 1)) (fun v48 => j40 v46 v48 h47)) (fun j49 => pIx 1 v37 v42 (fun v50 => pLd v50 h45 (fun v51 => pR (F35 v51 h45) (fun v52 h53 => pR (F30 v51 v0 h53) (fun v54 h55 => pExt 0 v54 (fun v56 => pExt 1 v54 (fun v57 => pGen Tryz.prog R105 (Op.binOp BinOp.neq 39 (Operand.tmp 43) (Operand.const (Value.pointer none)) 39) 4 [(43, v56)] h55 (fun v58 h59 => jn (fun (v60 : Value) (h61 : AH) => pPick v58 (Value.bool Bool.true) v60 (fun v62 => jn (fun (v63 : Value) (h64 : AH) => pPick v62 (Value.bool Bool.true) v63 (fun v65 => jn (fun (v66 : Value) (h67 : AH) => pPick v65 (Value.bool Bool.true) v66 (fun v68 => jn (fun (v69 : Value) (h70 : AH) => pPick v68 (Value.bool Bool.true) v69 (fun v71 => jn (fun (v72 : Value) (h73 : AH) => pPick v71 (Value.bool Bool.true) v72 (fun v74 => pIf v74 (some (Value.bool Bool.false, h73)) (j49 v41 h73))) (fun j75 => pG v71 Bool.false (pR (F38 v51 h70) (fun v76 h77 => pLen v76 (fun v78 => pNe v78 (Value.int IntKind.i64 (Int.ofNat 0)) (fun v79 => j75 v79 h77)))) (j75 (Value.tuple #[]) h70)))) (fun j80 => pG v68 Bool.false (pR (F27 v51 v0 h67) (fun v81 h82 => j80 v81 h82)) (j80 (Value.tuple #[]) h67)))) (fun j83 => pG v65 Bool.false (pR (F31 v51 h64) (fun v84 h85 => pNe v84 (Value.int IntKind.i64 (Int.ofNat 0)) (fun v86 => j83 v86 h85))) (j83 (Value.tuple #[]) h64)))) (fun j87 => pG v62 Bool.false (pR (F28 v51 (Value.pointer none) h61) (fun v88 h89 => pNe v88 (Value.int IntKind.i64 (Int.ofNat 0)) (fun v90 => j87 v90 h89))) (j87 (Value.tuple #[]) h61)))) (fun j91 => pG v58 Bool.false (pNe v57 (Value.int IntKind.i64 (Int.ofNat 0)) (fun v92 => j91 v92 h59)) (j91 (Value.tuple #[]) h59))))))))))) (fun j93 => pIf v44 (j93 h43) (j32 h43)))) FU v8 (Value.int IntKind.i64 (Int.ofNat 0)) h38)))))) (fun j94 => pGen Tryz.prog R105 (Op.binOp BinOp.neq 51 (Operand.tmp 21) (Operand.const (Value.pointer none)) 51) 4 [(21, v6)] h5 (fun v95 h96 => jn (fun (v97 : Value) (h98 : AH) => pPick v95 (Value.bool Bool.true) v97 (fun v99 => pIf v99 (some (Value.bool Bool.false, h98)) (j94 (Value.bool Bool.false) h98))) (fun j100 => pG v95 Bool.false (pNe v7 (Value.int IntKind.i64 (Int.ofNat 2)) (fun v101 => j100 v101 h96)) (j100 (Value.tuple #[]) h96)))))))
theorem F7_eq : (F7 : Cur 3) = cur 3 (cFn Tryz.prog R105 FU 7) := by kernel_rfl
noncomputable def R106 : Rec := ext R105 7 3 F7
theorem R106_good : GoodRec Tryz.prog R106 := ext_ok plainNames R105_good F7_eq


end Go.Proofs.YtpabofkomhffgaaGreat
