import Derived.Test.YtilnmikgcbcmcaaGreatF2
import Derived.Test.YtilnmikgcbcmcaaGreatProg
set_option linter.unusedVariables false
set_option linter.unusedSimpArgs false
set_option linter.unusedSectionVars false
set_option maxRecDepth 100000
namespace Go.Proofs
open Go Go.Sx
variable {g : Gh} {a0 a1 a2 a3 a4 a5 a6 a7 a8 a9 a10 a11 a12 a13 a14 a15 : Value} {H : Hp} {R : Rt}
def L70 (g : Gh) (a0 : Value) (H : Hp) (R : Rt) : Prop :=
Bin .ptr .eql a0 (.pointer none) fun v1 =>
Br v1 (
R (.returned (.slice none 0 0)) H) (
Nil a0 fun v2 =>
FAddr 0 v2 fun v3 =>
FAddr 3 v3 fun v4 =>
Ld H v4 fun v5 =>
LenS v5 fun v6 =>
∃ (I7 : Jt) (m8 : Mt), JE I7 [(.slice none 0 0), (Value.int .i64 0)] H ∧ ∀ w11 w12 : Value, ∀ H10 : Hp, I7 [w11, w12] H10 → ∀ gs9 : Fr,
Bin .num .lss w12 v6 fun v13 =>
Br v13 (
∀ J14 : Jt, (∀ w17 : Value, ∀ H16 : Hp, (∀ gs15 : Fr,
Bin .num .add w12 (Value.int .i64 1) fun v18 =>
Back I7 m8 [w17, v18] H16 [w11, w12] H10) → J14 [w17] H16) →
IAddr 1 v5 w12 fun v19 =>
Ld H10 v19 fun v20 =>
Bin .num .gtr v20 (Value.int .i32 0) fun v21 =>
Br v21 (
ConvI .u32 w12 fun v22 =>
BuildSl Tryz.prog 48 1 [(0, v22)] H10 fun v23 H24 =>
App Tryz.prog 31 1 4 (Value.int .u32 0) H24 w11 v23 fun v27 H28 =>
JE J14 [v27] H28) (
JE J14 [w11] H10)) (
R (.returned w11) H10))
theorem L70_sound (h : L70 g a0 H R) : SCalls Tryz.prog g 70 #[a0] H R :=
  soundF (hn := (.n .e (.n .e (.n .e (.n (.n .e (.n (.h 0 [3, 14] [12, 13] (.n .e (.n .e (.h 1 [3] [12, 13, 14] .e .e))) .e) .e)) .e))))) Tryz.func70 h (by kernel_rfl)
def L72 (g : Gh) (a0 a1 : Value) (H : Hp) (R : Rt) : Prop :=
New H (.cells (Value.cells a0) 55 (0, 0)) fun b1 H2 =>
New H2 (.cells (Value.cells a1) 55 (0, 0)) fun b3 H4 =>
FAddr 0 (.pointer (some ⟨b1, 0, none⟩)) fun v5 =>
Ld H4 v5 fun v6 =>
FAddr 0 (.pointer (some ⟨b3, 0, none⟩)) fun v7 =>
Ld H4 v7 fun v8 =>
Bin .num .neq v6 v8 fun v9 =>
Grp v9 false (fun t10 =>
FAddr 1 (.pointer (some ⟨b1, 0, none⟩)) fun v11 =>
Ld H4 v11 fun v12 =>
LenS v12 fun v13 =>
FAddr 1 (.pointer (some ⟨b3, 0, none⟩)) fun v14 =>
Ld H4 v14 fun v15 =>
LenS v15 fun v16 =>
Bin .num .neq v13 v16 fun v17 =>
(H4 = H4 ∧ v17 = Value.bool t10)) (fun t10 => (Value.bool true) = Value.bool t10) fun t10 => ∀ gs18 : Fr,
Br (Value.bool t10) (
R (.returned (Value.bool false)) H4) (
∃ (I19 : Jt) (m20 : Mt), JE I19 [(Value.int .i64 0)] H4 ∧ ∀ w23 : Value, ∀ H22 : Hp, I19 [w23] H22 → ∀ gs21 : Fr,
FAddr 1 (.pointer (some ⟨b1, 0, none⟩)) fun v24 =>
Ld H22 v24 fun v25 =>
LenS v25 fun v26 =>
Bin .num .lss w23 v26 fun v27 =>
Br v27 (
FAddr 1 (.pointer (some ⟨b1, 0, none⟩)) fun v28 =>
Ld H22 v28 fun v29 =>
IAddr 1 v29 w23 fun v30 =>
Ld H22 v30 fun v31 =>
FAddr 1 (.pointer (some ⟨b3, 0, none⟩)) fun v32 =>
Ld H22 v32 fun v33 =>
IAddr 1 v33 w23 fun v34 =>
Ld H22 v34 fun v35 =>
Bin .num .neq v31 v35 fun v36 =>
Br v36 (
R (.returned (Value.bool false)) H22) (
Bin .num .add w23 (Value.int .i64 1) fun v37 =>
Back I19 m20 [v37] H22 [w23] H22)) (
R (.returned (Value.bool true)) H22))
theorem L72_sound (h : L72 g a0 a1 H R) : SCalls Tryz.prog g 72 #[a0, a1] H R :=
  soundF (hn := (.n .e (.n (.n (.h 0 [] [1] .e .e) .e) (.n (.n .e (.n (.h 0 [5] [2, 3] .e .e) .e)) .e)))) Tryz.func72 h (by kernel_rfl)
def L73 (g : Gh) (a0 a1 : Value) (H : Hp) (R : Rt) : Prop :=
New H (.cells (Value.cells a1) 55 (0, 0)) fun b1 H2 =>
Nil a0 fun v3 =>
FAddr 3 v3 fun v4 =>
Ld H2 v4 fun v5 =>
LenS v5 fun v6 =>
∃ (I7 : Jt) (m8 : Mt), JE I7 [(Value.int .i64 0)] H2 ∧ ∀ w11 : Value, ∀ H10 : Hp, I7 [w11] H10 → ∀ gs9 : Fr,
Bin .num .lss w11 v6 fun v12 =>
Br v12 (
IAddr 3 v5 w11 fun v13 =>
LdA 3 H10 v13 fun v14 =>
New H10 (.cells #[(Value.int .i64 0), (.slice none 0 0), (Value.int .i64 0)] 173 (0, 0)) fun b15 H16 =>
St 3 H16 (.pointer (some ⟨b15, 0, none⟩)) v14 fun H17 =>
FAddr 0 (.pointer (some ⟨b15, 0, none⟩)) fun v18 =>
LdA 2 H17 v18 fun v19 =>
LdA 2 H17 (.pointer (some ⟨b1, 0, none⟩)) fun v20 =>
CallF Tryz.prog g 72 #[v19, v20] H17 (fun v21 H22 =>
Br v21 (
FAddr 2 (.pointer (some ⟨b15, 0, none⟩)) fun v23 =>
Ld H22 v23 fun v24 =>
R (.returned v24) H22) (
Bin .num .add w11 (Value.int .i64 1) fun v25 =>
Back I7 m8 [v25] H22 [w11] H10)) (PanR R)) (
R (.returned (Value.int .i64 0)) H10)
theorem L73_sound (h : L73 g a0 a1 H R) : SCalls Tryz.prog g 73 #[a0, a1] H R :=
  soundF (hn := (.n .e (.n (.n .e (.n (.h 0 [12] [3, 10, 11] .e .e) .e)) .e))) Tryz.func73 h (by kernel_rfl)
def L76 (g : Gh) (a0 a1 : Value) (H : Hp) (R : Rt) : Prop :=
Nil a0 fun v1 =>
FAddr 5 v1 fun v2 =>
Ld H v2 fun v3 =>
IAddr 1 v3 a1 fun v4 =>
Ld H v4 fun v5 =>
Nil a0 fun v6 =>
FAddr 5 v6 fun v7 =>
Ld H v7 fun v8 =>
Bin .num .add a1 (Value.int .i64 1) fun v9 =>
IAddr 1 v8 v9 fun v10 =>
Ld H v10 fun v11 =>
CallF Tryz.prog g 126 #[a0, v5, v11] H (fun v12 H13 =>
DR H13 fun R14 =>
Nil a0 fun v15 =>
FAddr 0 v15 fun v16 =>
CallF Tryz.prog g 127 #[a0, v5, v12] H13 (fun v17 H18 =>
CallF Tryz.prog g 49 #[v16, v17] H18 (fun v19 H20 =>
Un .not v19 fun v21 =>
Br v21 (
R (.returned (Value.bool false)) H20) (
LenS v12 fun v22 =>
∃ (I23 : Jt) (m24 : Mt), JE I23 [(Value.int .i64 0)] H20 ∧ ∀ w27 : Value, ∀ H26 : Hp, I23 [w27] H26 → ∀ gs25 : Fr,
Bin .num .lss w27 v22 fun v28 =>
Br v28 (
IAddr 8 v12 w27 fun v29 =>
LdA 8 H26 v29 fun v30 =>
New H26 (.cells #[(Value.int .u32 0), (Value.int .i64 0), (Value.int .u32 0), (Value.int .u32 0), (Value.int .u32 0), (Value.int .u32 0), (Value.int .u32 0), (Value.int .u32 0)] 186 (0, 0)) fun b31 H32 =>
St 8 H32 (.pointer (some ⟨b31, 0, none⟩)) v30 fun H33 =>
DR H33 fun R34 =>
Nil a0 fun v35 =>
FAddr 0 v35 fun v36 =>
FAddr 1 v36 fun v37 =>
Ld R34 v37 fun v38 =>
FAddr 1 (.pointer (some ⟨b31, 0, none⟩)) fun v39 =>
LdA 3 R34 v39 fun v40 =>
CallF Tryz.prog g 105 #[v38, v40] H33 (fun v41 H42 =>
Bin .num .add w27 (Value.int .i64 1) fun v43 =>
Back I23 m24 [v43] H42 [w27] H26) NoKP) (
LenS v12 fun v44 =>
∃ (I45 : Jt) (m46 : Mt), JE I45 [(Value.int .i64 0)] H26 ∧ ∀ w49 : Value, ∀ H48 : Hp, I45 [w49] H48 → ∀ gs47 : Fr,
Bin .num .lss w49 v44 fun v50 =>
Br v50 (
IAddr 8 v12 w49 fun v51 =>
LdA 8 H48 v51 fun v52 =>
New H48 (.cells #[(Value.int .u32 0), (Value.int .i64 0), (Value.int .u32 0), (Value.int .u32 0), (Value.int .u32 0), (Value.int .u32 0), (Value.int .u32 0), (Value.int .u32 0)] 186 (0, 0)) fun b53 H54 =>
St 8 H54 (.pointer (some ⟨b53, 0, none⟩)) v52 fun H55 =>
DR H55 fun R56 =>
Nil a0 fun v57 =>
FAddr 0 v57 fun v58 =>
FAddr 4 (.pointer (some ⟨b53, 0, none⟩)) fun v59 =>
Ld R56 v59 fun v60 =>
FAddr 6 (.pointer (some ⟨b53, 0, none⟩)) fun v61 =>
Ld R56 v61 fun v62 =>
CallF Tryz.prog g 128 #[v58, v5, v60, v62] H55 (fun v63 H64 =>
Nil a0 fun v65 =>
FAddr 0 v65 fun v66 =>
CallF Tryz.prog g 102 #[v66, v63] H64 (fun v67 H68 =>
DR H68 fun R69 =>
Nil a0 fun v70 =>
FAddr 0 v70 fun v71 =>
FAddr 5 (.pointer (some ⟨b53, 0, none⟩)) fun v72 =>
Ld R69 v72 fun v73 =>
FAddr 7 (.pointer (some ⟨b53, 0, none⟩)) fun v74 =>
Ld R69 v74 fun v75 =>
CallF Tryz.prog g 128 #[v71, v5, v73, v75] H68 (fun v76 H77 =>
Nil a0 fun v78 =>
FAddr 0 v78 fun v79 =>
CallF Tryz.prog g 102 #[v79, v76] H77 (fun v80 H81 =>
Build Tryz.prog 103 [(0, v11), (1, v63), (2, v76)] fun v82 =>
New H81 (.cells #[(Value.int .i64 0), (Value.int .u32 0), (Value.int .u32 0)] 103 (0, 0)) fun b83 H84 =>
St 3 H84 (.pointer (some ⟨b83, 0, none⟩)) v82 fun H85 =>
DR H85 fun R86 =>
Nil a0 fun v87 =>
FAddr 0 v87 fun v88 =>
FAddr 0 v88 fun v89 =>
Ld R86 v89 fun v90 =>
FAddr 0 (.pointer (some ⟨b53, 0, none⟩)) fun v91 =>
Ld R86 v91 fun v92 =>
LdA 3 R86 (.pointer (some ⟨b83, 0, none⟩)) fun v93 =>
CallF Tryz.prog g 129 #[v90, v92, v93] H85 (fun v94 H95 =>
DR H95 fun R96 =>
Nil a0 fun v97 =>
FAddr 0 v97 fun v98 =>
FAddr 1 v98 fun v99 =>
Ld R96 v99 fun v100 =>
LdA 3 R96 (.pointer (some ⟨b83, 0, none⟩)) fun v101 =>
FAddr 0 (.pointer (some ⟨b53, 0, none⟩)) fun v102 =>
Ld R96 v102 fun v103 =>
CallF Tryz.prog g 103 #[v100, v101, v103] H95 (fun v104 H105 =>
Bin .num .add w49 (Value.int .i64 1) fun v106 =>
Back I45 m46 [v106] H105 [w49] H48) NoKP) NoKP) (PanR R)) NoKP) (PanR R)) NoKP) (
LenS v12 fun v107 =>
∃ (I108 : Jt) (m109 : Mt), JE I108 [(Value.int .i64 0)] H48 ∧ ∀ w112 : Value, ∀ H111 : Hp, I108 [w112] H111 → ∀ gs110 : Fr,
Bin .num .lss w112 v107 fun v113 =>
Br v113 (
IAddr 8 v12 w112 fun v114 =>
LdA 8 H111 v114 fun v115 =>
New H111 (.cells #[(Value.int .u32 0), (Value.int .i64 0), (Value.int .u32 0), (Value.int .u32 0), (Value.int .u32 0), (Value.int .u32 0), (Value.int .u32 0), (Value.int .u32 0)] 186 (0, 0)) fun b116 H117 =>
St 8 H117 (.pointer (some ⟨b116, 0, none⟩)) v115 fun H118 =>
DR H118 fun R119 =>
Nil a0 fun v120 =>
FAddr 0 v120 fun v121 =>
FAddr 1 (.pointer (some ⟨b116, 0, none⟩)) fun v122 =>
FAddr 1 v122 fun v123 =>
Ld R119 v123 fun v124 =>
CallF Tryz.prog g 53 #[v121, v124] H118 (fun v125 H126 =>
DR H126 fun R127 =>
Nil a0 fun v128 =>
FAddr 0 v128 fun v129 =>
FAddr 1 (.pointer (some ⟨b116, 0, none⟩)) fun v130 =>
FAddr 2 v130 fun v131 =>
Ld R127 v131 fun v132 =>
CallF Tryz.prog g 53 #[v129, v132] H126 (fun v133 H134 =>
Bin .num .add w112 (Value.int .i64 1) fun v135 =>
Back I108 m109 [v135] H134 [w112] H111) NoKP) NoKP) (
DR H111 fun R136 =>
Nil a0 fun v137 =>
FAddr 5 v137 fun v138 =>
Ld R136 v138 fun v139 =>
Nil a0 fun v140 =>
FAddr 5 v140 fun v141 =>
Ld R136 v141 fun v142 =>
Bin .num .add a1 (Value.int .i64 1) fun v143 =>
IAddr 1 v139 a1 fun v144 =>
St 1 H111 v144 v11 fun H145 =>
IAddr 1 v142 v143 fun v146 =>
St 1 H145 v146 v5 fun H147 =>
DR H147 fun R148 =>
Nil a0 fun v149 =>
FAddr 6 v149 fun v150 =>
Ld R148 v150 fun v151 =>
Nil a0 fun v152 =>
FAddr 6 v152 fun v153 =>
Ld R148 v153 fun v154 =>
Bin .num .add a1 (Value.int .i64 1) fun v155 =>
IAddr 1 v151 v5 fun v156 =>
St 1 H147 v156 v155 fun H157 =>
IAddr 1 v154 v11 fun v158 =>
St 1 H157 v158 a1 fun H159 =>
R (.returned (Value.bool true)) H159))))) NoKP) NoKP) (PanR R)
theorem L76_sound (h : L76 g a0 a1 H R) : SCalls Tryz.prog g 76 #[a0, a1] H R :=
  soundF (hn := (.n .e (.n .e (.n .e (.n (.n (.h 0 [0, 1, 2, 3, 4, 5, 6, 7, 8] [] .e .e) .e) (.n (.n .e (.n (.h 0 [47] [0, 1, 5, 6, 7, 45, 46] (.n .e (.n .e (.n (.n (.n .e (.h 0 [0, 1, 2, 3, 4, 5, 6, 7] [] .e .e)) .e) .e))) .e) .e)) (.n (.n .e (.n (.h 0 [62] [0, 1, 5, 6, 7, 60, 61] (.n .e (.n .e (.n (.n (.n .e (.n (.h 0 [0, 1, 2, 3, 4, 5, 6, 7, 8, 9] [] .e .e) (.n .e (.n (.h 0 [0, 1, 2, 3, 4, 5, 6, 7, 8, 9] [] .e .e) (.n .e (.n .e (.n (.h 0 [0, 1, 2, 3, 4, 5, 6, 7, 8] [] .e .e) (.h 0 [0, 1, 2, 3, 4, 5, 6, 7, 8] [] .e .e)))))))) .e) .e))) .e) .e)) (.n (.n .e (.n (.h 0 [119] [0, 1, 5, 6, 117, 118] (.n .e (.n .e (.n (.n (.n .e (.n (.h 0 [0, 1, 2, 3, 4, 5, 6] [] .e .e) (.h 0 [0, 1, 2, 3, 4, 5, 6] [] .e .e))) .e) .e))) .e) .e)) (.n (.h 0 [0, 1, 2, 3, 4, 5, 6, 7, 8, 9, 10, 11, 12, 13, 14, 15, 16] [] .e .e) (.n (.h 0 [0, 1, 2, 3, 4, 5, 6, 7, 8, 9, 10, 11, 12, 13, 14, 15, 16] [] .e .e) .e)))))))))) Tryz.func76 h (by kernel_rfl)
def L81 (g : Gh) (H : Hp) (R : Rt) : Prop :=
New H (.cells #[(Value.int .i64 0), (.slice none 0 0)] 55 (0, 0)) fun b1 H2 =>
∃ (I3 : Jt) (m4 : Mt), JE I3 [(.slice none 0 0), (Value.int .i64 0)] H2 ∧ ∀ w7 w8 : Value, ∀ H6 : Hp, I3 [w7, w8] H6 → ∀ gs5 : Fr,
Bin .num .lss w8 (Value.int .i64 16) fun v9 =>
Br v9 (
Bin .num .and w8 (Value.int .i64 3) fun v10 =>
Bin .num .eql v10 (Value.int .i64 3) fun v11 =>
Grp v11 false (fun t12 =>
Bin .num .and w8 (Value.int .i64 12) fun v13 =>
Bin .num .eql v13 (Value.int .i64 12) fun v14 =>
(H6 = H6 ∧ v14 = Value.bool t12)) (fun t12 => (Value.bool true) = Value.bool t12) fun t12 => ∀ gs15 : Fr,
BuildSl Tryz.prog 76 1 [(0, (Value.bool t12))] H6 fun v16 H17 =>
App Tryz.prog 4 1 1 (Value.bool false) H17 w7 v16 fun v20 H21 =>
Bin .num .add w8 (Value.int .i64 1) fun v22 =>
Back I3 m4 [v20, v22] H21 [w7, w8] H6) (
CallF Tryz.prog g 37 #[(Value.int .i64 4), w7] H6 (fun v23 H24 =>
St 2 H24 (.pointer (some ⟨b1, 0, none⟩)) v23 fun H25 =>
LdA 2 H25 (.pointer (some ⟨b1, 0, none⟩)) fun v26 =>
R (.returned v26) H25) (PanR R))
theorem L81_sound (h : L81 g H R) : SCalls Tryz.prog g 81 #[] H R :=
  soundF (hn := (.n .e (.n .e (.n (.n .e (.n (.h 0 [1, 2] [0] (.n .e (.n (.n (.h 0 [] [1] .e .e) .e) .e)) .e) .e)) .e)))) Tryz.func81 h (by kernel_rfl)
def L82 (g : Gh) (a0 a1 : Value) (H : Hp) (R : Rt) : Prop :=
New H (.cells #[(Value.int .i64 0)] 3 (0, 0)) fun b1 H2 =>
CallF Tryz.prog g 89 #[a0] H2 (fun v3 H4 =>
New H4 (.cells #[(.pointer none)] 141 (0, 0)) fun b5 H6 =>
St 1 H6 (.pointer (some ⟨b5, 0, none⟩)) v3 fun H7 =>
LenS a1 fun v8 =>
∃ (I9 : Jt) (m10 : Mt), JE I9 [(Value.int .i64 0)] H7 ∧ ∀ w13 : Value, ∀ H12 : Hp, I9 [w13] H12 → ∀ gs11 : Fr,
Bin .num .lss w13 v8 fun v14 =>
Br v14 (
IAddr 1 a1 w13 fun v15 =>
Ld H12 v15 fun v16 =>
Ld H12 (.pointer (some ⟨b5, 0, none⟩)) fun v17 =>
CallF Tryz.prog g 91 #[v17, v16] H12 (fun v18 H19 =>
Bin .num .neq v18 (Value.int .i64 0) fun v20 =>
Br v20 (
St 1 H19 (.pointer (some ⟨b1, 0, none⟩)) (Value.int .i64 0) fun H21 =>
DefF Tryz.prog g 134 #[(.pointer (some ⟨b5, 0, none⟩)), (.pointer (some ⟨b1, 0, none⟩))] H21 fun H22 =>
Ld H22 (.pointer (some ⟨b1, 0, none⟩)) fun v23 =>
R (.returned (.tuple #[v23, v18])) H22) (
Bin .num .add w13 (Value.int .i64 1) fun v24 =>
Back I9 m10 [v24] H19 [w13] H12)) NoP) (
Ld H12 (.pointer (some ⟨b5, 0, none⟩)) fun v25 =>
Nil v25 fun v26 =>
FAddr 3 v26 fun v27 =>
St 1 H12 v27 (Value.bool true) fun H28 =>
St 1 H28 (.pointer (some ⟨b1, 0, none⟩)) (Value.int .i64 0) fun H29 =>
DefF Tryz.prog g 134 #[(.pointer (some ⟨b5, 0, none⟩)), (.pointer (some ⟨b1, 0, none⟩))] H29 fun H30 =>
Ld H30 (.pointer (some ⟨b1, 0, none⟩)) fun v31 =>
R (.returned (.tuple #[v31, (Value.int .i64 0)])) H30)) NoP
theorem L82_sound (h : L82 g a0 a1 H R) : SCalls Tryz.prog g 82 #[a0, a1] H R :=
  soundT (hn := (.n .e (.n .e (.n .e (.n (.n .e (.n (.h 0 [14] [4, 6, 12, 13] .e .e) .e)) .e))))) Tryz.func82 h (by kernel_rfl)
def L83 (g : Gh) (a0 a1 : Value) (H : Hp) (R : Rt) : Prop :=
∃ (I1 : Jt) (m2 : Mt), JE I1 [a0, (.slice none 0 0)] H ∧ ∀ w5 w6 : Value, ∀ H4 : Hp, I1 [w5, w6] H4 → ∀ gs3 : Fr,
Bin .num .lss w5 a1 fun v7 =>
Br v7 (
BuildSl Tryz.prog 22 1 [(0, w5)] H4 fun v8 H9 =>
App Tryz.prog 3 1 8 (Value.int .i64 0) H9 w6 v8 fun v12 H13 =>
Bin .num .add w5 (Value.int .i64 1) fun v14 =>
Back I1 m2 [v14, v12] H13 [w5, w6] H4) (
∃ (I15 : Jt) (m16 : Mt), JE I15 [w5, w6] H4 ∧ ∀ w19 w20 : Value, ∀ H18 : Hp, I15 [w19, w20] H18 → ∀ gs17 : Fr,
Bin .num .gtr w19 a1 fun v21 =>
Br v21 (
Bin .num .sub w19 (Value.int .i64 1) fun v22 =>
BuildSl Tryz.prog 22 1 [(0, v22)] H18 fun v23 H24 =>
App Tryz.prog 3 1 8 (Value.int .i64 0) H24 w20 v23 fun v27 H28 =>
Bin .num .sub w19 (Value.int .i64 1) fun v29 =>
Back I15 m16 [v29, v27] H28 [w19, w20] H18) (
R (.returned w20) H18))
theorem L83_sound (h : L83 g a0 a1 H R) : SCalls Tryz.prog g 83 #[a0, a1] H R :=
  soundF (hn := (.n .e (.n .e (.n (.n (.h 0 [0, 5] [1] .e .e) .e) (.n (.n (.h 0 [0, 5] [1] .e .e) .e) .e))))) Tryz.func83 h (by kernel_rfl)
def L84 (g : Gh) (a0 : Value) (H : Hp) (R : Rt) : Prop :=
LenS a0 fun v1 =>
MkSlice 4 1 1 (Value.bool false) H v1 v1 fun v2 H3 =>
LenS a0 fun v4 =>
∃ (I5 : Jt) (m6 : Mt), JE I5 [(Value.int .i64 0)] H3 ∧ ∀ w9 : Value, ∀ H8 : Hp, I5 [w9] H8 → ∀ gs7 : Fr,
Bin .num .lss w9 v4 fun v10 =>
Br v10 (
IAddr 1 a0 w9 fun v11 =>
Ld H8 v11 fun v12 =>
Bin .num .lss v12 (Value.int .i64 0) fun v13 =>
Grp v13 false (fun t14 =>
LenS a0 fun v15 =>
Bin .num .geq v12 v15 fun v16 =>
(H8 = H8 ∧ v16 = Value.bool t14)) (fun t14 => (Value.bool true) = Value.bool t14) fun t14 => ∀ gs17 : Fr,
Grp (Value.bool t14) false (fun t18 =>
IAddr 1 v2 v12 fun v19 =>
Ld H8 v19 fun v20 =>
(H8 = H8 ∧ v20 = Value.bool t18)) (fun t18 => (Value.bool true) = Value.bool t18) fun t18 => ∀ gs21 : Fr,
Br (Value.bool t18) (
R (.returned (Value.int .i64 4)) H8) (
IAddr 1 v2 v12 fun v22 =>
St 1 H8 v22 (Value.bool true) fun H23 =>
Bin .num .add w9 (Value.int .i64 1) fun v24 =>
Back I5 m6 [v24] H23 [w9] H8)) (
LenS a0 fun v25 =>
Bin .num .gtr v25 (Value.int .i64 64) fun v26 =>
Br v26 (
R (.returned (Value.int .i64 13)) H8) (
R (.returned (Value.int .i64 0)) H8))
theorem L84_sound (h : L84 g a0 H R) : SCalls Tryz.prog g 84 #[a0] H R :=
  soundF (hn := (.n .e (.n .e (.n (.n .e (.n (.h 0 [11] [0, 3, 9, 10] (.n .e (.n .e (.n (.n (.n .e (.n (.n (.h 0 [] [1] .e .e) .e) .e)) .e) .e))) .e) .e)) .e)))) Tryz.func84 h (by kernel_rfl)
def L85 (g : Gh) (a0 a1 : Value) (H : Hp) (R : Rt) : Prop :=
CallF Tryz.prog g 135 #[a0, a1] H (fun v1 H2 =>
Bin .num .neq v1 (Value.int .i64 0) fun v3 =>
Br v3 (
R (.returned (.tuple #[(.slice none 0 0), v1])) H2) (
CallF Tryz.prog g 46 #[a0] H2 (fun v4 H5 =>
LenS a1 fun v6 =>
∃ (I7 : Jt) (m8 : Mt), JE I7 [(.slice none 0 0), (Value.int .i64 0)] H5 ∧ ∀ w11 w12 : Value, ∀ H10 : Hp, I7 [w11, w12] H10 → ∀ gs9 : Fr,
Bin .num .lss w12 v6 fun v13 =>
Br v13 (
IAddr 1 a1 w12 fun v14 =>
Ld H10 v14 fun v15 =>
CallF Tryz.prog g 136 #[v4, v15] H10 (fun v16 H17 =>
∃ (I18 : Jt) (m19 : Mt), JE I18 [w11, v16] H17 ∧ ∀ w22 w23 : Value, ∀ H21 : Hp, I18 [w22, w23] H21 → ∀ gs20 : Fr,
Bin .num .gtr w23 w12 fun v24 =>
Br v24 (
DR H21 fun R25 =>
Bin .num .sub w23 (Value.int .i64 1) fun v26 =>
IAddr 1 v4 w23 fun v27 =>
Ld R25 v27 fun v28 =>
Bin .num .sub w23 (Value.int .i64 1) fun v29 =>
IAddr 1 v4 v29 fun v30 =>
Ld R25 v30 fun v31 =>
IAddr 1 v4 v26 fun v32 =>
St 1 H21 v32 v28 fun H33 =>
IAddr 1 v4 w23 fun v34 =>
St 1 H33 v34 v31 fun H35 =>
Bin .num .sub w23 (Value.int .i64 1) fun v36 =>
BuildSl Tryz.prog 22 1 [(0, v36)] H35 fun v37 H38 =>
App Tryz.prog 3 1 8 (Value.int .i64 0) H38 w22 v37 fun v41 H42 =>
Bin .num .sub w23 (Value.int .i64 1) fun v43 =>
Back I18 m19 [v41, v43] H42 [w22, w23] H21) (
Bin .num .add w12 (Value.int .i64 1) fun v44 =>
Back I7 m8 [w22, v44] H21 [w11, w12] H10)) (PanR R)) (
R (.returned (.tuple #[w11, (Value.int .i64 0)])) H10)) (PanR R))) (PanR R)
theorem L85_sound (h : L85 g a0 a1 H R) : SCalls Tryz.prog g 85 #[a0, a1] H R :=
  soundF (hn := (.n .e (.n .e (.n .e (.n .e (.n (.n .e (.n (.h 0 [8, 22] [7, 20, 21] (.n .e (.n .e (.n (.n (.n .e (.n .e (.n (.h 0 [8, 11] [7, 9, 20, 21, 22] (.n .e (.n (.n (.n (.h 0 [0, 1, 2, 3, 4, 5, 6, 7, 8, 9, 10, 11, 12, 13, 14, 15, 16, 17] [] .e .e) .e) .e) .e)) .e) .e))) .e) .e))) .e) .e)) .e)))))) Tryz.func85 h (by kernel_rfl)
def L86 (g : Gh) (a0 a1 : Value) (H : Hp) (R : Rt) : Prop :=
LenS a0 fun v1 =>
∃ (I2 : Jt) (m3 : Mt), JE I2 [(Value.int .i64 0)] H ∧ ∀ w6 : Value, ∀ H5 : Hp, I2 [w6] H5 → ∀ gs4 : Fr,
Bin .num .lss w6 v1 fun v7 =>
Br v7 (
IAddr 1 a0 w6 fun v8 =>
Ld H5 v8 fun v9 =>
Bin .num .eql v9 a1 fun v10 =>
Br v10 (
R (.returned w6) H5) (
Bin .num .add w6 (Value.int .i64 1) fun v11 =>
Back I2 m3 [v11] H5 [w6] H5)) (
R (.returned (Value.int .i64 (-1))) H5)
theorem L86_sound (h : L86 g a0 a1 H R) : SCalls Tryz.prog g 86 #[a0, a1] H R :=
  soundF (hn := (.n .e (.n (.n .e (.n (.h 0 [9] [1, 7, 8] .e .e) .e)) .e))) Tryz.func86 h (by kernel_rfl)
def L87 (g : Gh) (a0 : Value) (H : Hp) (R : Rt) : Prop :=
Bin .num .leq a0 (Value.int .i64 6) fun v1 =>
Br v1 (
R (.returned (Value.int .i64 1)) H) (
Bin .num .sub a0 (Value.int .i64 6) fun v2 =>
Bin .num .shl (Value.int .i64 1) v2 fun v3 =>
R (.returned v3) H)
theorem L87_sound (h : L87 g a0 H R) : SCalls Tryz.prog g 87 #[a0] H R :=
  soundF (hn := .e) Tryz.func87 h (by kernel_rfl)
def L88 (g : Gh) (a0 a1 a2 a3 : Value) (H : Hp) (R : Rt) : Prop :=
New H (.cells (Value.cells a2) 55 (0, 0)) fun b1 H2 =>
LdA 2 H2 (.pointer (some ⟨b1, 0, none⟩)) fun v3 =>
CallF Tryz.prog g 116 #[v3] H2 (fun v4 H5 =>
Br v4 (
LdA 2 H5 (.pointer (some ⟨b1, 0, none⟩)) fun v6 =>
CallF Tryz.prog g 117 #[v6, (Value.int .i64 0)] H5 (fun v7 H8 =>
Br v7 (
R (.returned (.tuple #[(Value.int .u32 1), (Value.int .i64 0)])) H8) (
R (.returned (.tuple #[(Value.int .u32 0), (Value.int .i64 0)])) H8)) (PanR R)) (
∃ (I9 : Jt) (m10 : Mt), JE I9 [a3] H5 ∧ ∀ w13 : Value, ∀ H12 : Hp, I9 [w13] H12 → ∀ gs11 : Fr,
DR H12 fun R14 =>
LdA 2 R14 (.pointer (some ⟨b1, 0, none⟩)) fun v15 =>
IAddr 1 a1 w13 fun v16 =>
Ld R14 v16 fun v17 =>
CallF Tryz.prog g 118 #[v15, v17] H12 (fun v18 H19 =>
Un .not v18 fun v20 =>
Br v20 (
Bin .num .add w13 (Value.int .i64 1) fun v21 =>
Back I9 m10 [v21] H19 [w13] H12) (
DR H19 fun R22 =>
LdA 2 R22 (.pointer (some ⟨b1, 0, none⟩)) fun v23 =>
IAddr 1 a1 w13 fun v24 =>
Ld R22 v24 fun v25 =>
Bin .num .add w13 (Value.int .i64 1) fun v26 =>
CallF Tryz.prog g 119 #[v23, v25, (Value.bool false)] H19 (fun v27 H28 =>
Ent H28 R22 ∧
CallF Tryz.prog g 88 #[a0, a1, v27, v26] H28 (fun v29 H30 =>
Ent H30 R22 ∧
Ext 0 v29 fun v31 =>
Ext 1 v29 fun v32 =>
Bin .num .neq v32 (Value.int .i64 0) fun v33 =>
Br v33 (
R (.returned (.tuple #[(Value.int .u32 0), v32])) H30) (
DR H30 fun R34 =>
LdA 2 R34 (.pointer (some ⟨b1, 0, none⟩)) fun v35 =>
IAddr 1 a1 w13 fun v36 =>
Ld R34 v36 fun v37 =>
Bin .num .add w13 (Value.int .i64 1) fun v38 =>
CallF Tryz.prog g 119 #[v35, v37, (Value.bool true)] H30 (fun v39 H40 =>
Ent H40 R34 ∧
CallF Tryz.prog g 88 #[a0, a1, v39, v38] H40 (fun v41 H42 =>
Ent H42 R34 ∧
Ext 0 v41 fun v43 =>
Ext 1 v41 fun v44 =>
Bin .num .neq v44 (Value.int .i64 0) fun v45 =>
Br v45 (
CallF Tryz.prog g 12 #[a0, v31] H42 (fun v46 H47 =>
R (.returned (.tuple #[(Value.int .u32 0), v44])) H47) (PanR R)) (
IAddr 1 a1 w13 fun v48 =>
Ld H42 v48 fun v49 =>
CallF Tryz.prog g 11 #[a0, v49, v31, v43] H42 (fun v50 H51 =>
Ext 0 v50 fun v52 =>
Ext 1 v50 fun v53 =>
CallF Tryz.prog g 12 #[a0, v31] H51 (fun v54 H55 =>
CallF Tryz.prog g 12 #[a0, v43] H55 (fun v56 H57 =>
R (.returned (.tuple #[v52, v53])) H57) (PanR R)) (PanR R)) (PanR R))) NoKP) NoKP)) NoKP) NoKP)) NoKP)) (PanR R)
theorem L88_sound (h : L88 g a0 a1 a2 a3 H R) : SCalls Tryz.prog g 88 #[a0, a1, a2, a3] H R :=
  soundF (hn := (.n .e (.n .e (.n (.n (.h 0 [3] [0, 1, 6] (.n (.n (.h 0 [0, 1, 2, 3, 4, 5, 6] [] .e .e) .e) .e) .e) .e) (.n (.h 0 [0, 1, 2, 3, 4, 5, 6, 8, 9, 7, 10, 11, 12, 13, 14, 15] [] .e .e) (.n .e (.n (.h 0 [0, 1, 2, 3, 4, 5, 6, 8, 9, 7, 10, 11, 12, 13, 14, 15] [] .e .e) .e))))))) Tryz.func88 h (by kernel_rfl)
def L89 (g : Gh) (a0 : Value) (H : Hp) (R : Rt) : Prop :=
CallF Tryz.prog g 15 #[a0] H (fun v1 H2 =>
Build Tryz.prog 194 [(0, a0), (1, v1)] fun v3 =>
New H2 (.cells (Value.cells v3) 194 (0, 0)) fun b4 H5 =>
R (.returned (.pointer (some ⟨b4, 0, none⟩))) H5) (PanR R)
theorem L89_sound (h : L89 g a0 H R) : SCalls Tryz.prog g 89 #[a0] H R :=
  soundF (hn := .e) Tryz.func89 h (by kernel_rfl)
def L90 (g : Gh) (a0 : Value) (H : Hp) (R : Rt) : Prop :=
Nil a0 fun v1 =>
FAddr 3 v1 fun v2 =>
Ld H v2 fun v3 =>
Un .not v3 fun v4 =>
Br v4 (
CallF Tryz.prog g 92 #[a0] H (fun v5 H6 =>
R (.returned (.tuple #[])) H6) (PanR R)) (
R (.returned (.tuple #[])) H)
theorem L90_sound (h : L90 g a0 H R) : SCalls Tryz.prog g 90 #[a0] H R :=
  soundF (hn := .e) Tryz.func90 h (by kernel_rfl)
theorem L90_soundD (h : L90 g a0 H R) : SCallsD Tryz.prog g 90 #[a0] H R :=
  soundD (hn := .e) Tryz.func90 h (by kernel_rfl)
def L91 (g : Gh) (a0 a1 : Value) (H : Hp) (R : Rt) : Prop :=
Nil a0 fun v1 =>
FAddr 0 v1 fun v2 =>
Ld H v2 fun v3 =>
CallF Tryz.prog g 28 #[v3, a1] H (fun v4 H5 =>
∀ J6 : Jt, (∀ H8 : Hp, (∀ gs7 : Fr,
R (.returned v4) H8) → J6 [] H8) →
Bin .num .eql v4 (Value.int .i64 0) fun v9 =>
Br v9 (
Nil a0 fun v10 =>
FAddr 2 v10 fun v11 =>
Ld H5 v11 fun v12 =>
Bin .num .add v12 (Value.int .i64 1) fun v13 =>
Nil a0 fun v14 =>
FAddr 2 v14 fun v15 =>
St 1 H5 v15 v13 fun H16 =>
JE J6 [] H16) (
JE J6 [] H5)) (PanR R)
theorem L91_sound (h : L91 g a0 a1 H R) : SCalls Tryz.prog g 91 #[a0, a1] H R :=
  soundF (hn := (.n .e (.n .e (.h 1 [] [5] .e .e)))) Tryz.func91 h (by kernel_rfl)
def L92 (g : Gh) (a0 : Value) (H : Hp) (R : Rt) : Prop :=
DR H fun R1 =>
Nil a0 fun v2 =>
FAddr 0 v2 fun v3 =>
Ld R1 v3 fun v4 =>
Nil a0 fun v5 =>
FAddr 1 v5 fun v6 =>
Ld R1 v6 fun v7 =>
CallF Tryz.prog g 109 #[v4, v7] H (fun v8 H9 =>
Ent H9 R1 ∧
Ext 0 v8 fun v10 =>
Ext 1 v8 fun v11 =>
Nil a0 fun v12 =>
FAddr 2 v12 fun v13 =>
Ld H9 v13 fun v14 =>
Bin .num .add v14 v10 fun v15 =>
Nil a0 fun v16 =>
FAddr 2 v16 fun v17 =>
St 1 H9 v17 v15 fun H18 =>
R (.returned (.tuple #[])) H18) NoKP
theorem L92_sound (h : L92 g a0 H R) : SCalls Tryz.prog g 92 #[a0] H R :=
  soundF (hn := (.n (.h 0 [0, 1, 2, 3, 4, 5, 6, 7, 8, 9, 10, 11, 12, 13] [] .e .e) .e)) Tryz.func92 h (by kernel_rfl)
def L93 (g : Gh) (a0 a1 a2 a3 : Value) (H : Hp) (R : Rt) : Prop :=
New H (.cells #[(Value.int .i64 0), (.slice none 0 0)] 55 (0, 0)) fun b1 H2 =>
Bin .num .eql a1 (Value.int .u32 0) fun v3 =>
Grp v3 false (fun t4 =>
Bin .num .eql a1 (Value.int .u32 1) fun v5 =>
(H2 = H2 ∧ v5 = Value.bool t4)) (fun t4 => (Value.bool true) = Value.bool t4) fun t4 => ∀ gs6 : Fr,
Br (Value.bool t4) (
Bin .num .eql a1 (Value.int .u32 1) fun v7 =>
CallF Tryz.prog g 120 #[a2, v7] H2 (fun v8 H9 =>
St 2 H9 (.pointer (some ⟨b1, 0, none⟩)) v8 fun H10 =>
LdA 2 H10 (.pointer (some ⟨b1, 0, none⟩)) fun v11 =>
R (.returned (.tuple #[v11, (Value.bool true)])) H10) (PanR R)) (
CallF Tryz.prog g 60 #[a0, a1] H2 (fun v12 H13 =>
Ext 0 v12 fun v14 =>
Ext 1 v12 fun v15 =>
New H13 (.cells #[(Value.int .i64 0), (Value.int .u32 0), (Value.int .u32 0)] 103 (0, 0)) fun b16 H17 =>
St 3 H17 (.pointer (some ⟨b16, 0, none⟩)) v14 fun H18 =>
Bin .num .neq v15 (Value.int .i64 0) fun v19 =>
Grp v19 false (fun t20 =>
Bin .num .gtr a3 a2 fun v21 =>
(H18 = H18 ∧ v21 = Value.bool t20)) (fun t20 => (Value.bool true) = Value.bool t20) fun t20 => ∀ gs22 : Fr,
Grp (Value.bool t20) false (fun t23 =>
FAddr 0 (.pointer (some ⟨b16, 0, none⟩)) fun v24 =>
Ld H18 v24 fun v25 =>
Bin .num .lss v25 (Value.int .i64 0) fun v26 =>
(H18 = H18 ∧ v26 = Value.bool t23)) (fun t23 => (Value.bool true) = Value.bool t23) fun t23 => ∀ gs27 : Fr,
Grp (Value.bool t23) false (fun t28 =>
FAddr 0 (.pointer (some ⟨b16, 0, none⟩)) fun v29 =>
Ld H18 v29 fun v30 =>
Bin .num .geq v30 a2 fun v31 =>
(H18 = H18 ∧ v31 = Value.bool t28)) (fun t28 => (Value.bool true) = Value.bool t28) fun t28 => ∀ gs32 : Fr,
Br (Value.bool t28) (
Build Tryz.prog 55 [] fun v33 =>
St 2 H18 (.pointer (some ⟨b1, 0, none⟩)) v33 fun H34 =>
LdA 2 H34 (.pointer (some ⟨b1, 0, none⟩)) fun v35 =>
R (.returned (.tuple #[v35, (Value.bool false)])) H34) (
FAddr 1 (.pointer (some ⟨b16, 0, none⟩)) fun v36 =>
Ld H18 v36 fun v37 =>
Bin .num .add a3 (Value.int .i64 1) fun v38 =>
CallF Tryz.prog g 93 #[a0, v37, a2, v38] H18 (fun v39 H40 =>
Ext 0 v39 fun v41 =>
Ext 1 v39 fun v42 =>
New H40 (.cells #[(Value.int .i64 0), (.slice none 0 0)] 55 (0, 0)) fun b43 H44 =>
St 2 H44 (.pointer (some ⟨b43, 0, none⟩)) v41 fun H45 =>
FAddr 2 (.pointer (some ⟨b16, 0, none⟩)) fun v46 =>
Ld H45 v46 fun v47 =>
Bin .num .add a3 (Value.int .i64 1) fun v48 =>
CallF Tryz.prog g 93 #[a0, v47, a2, v48] H45 (fun v49 H50 =>
Ext 0 v49 fun v51 =>
Ext 1 v49 fun v52 =>
New H50 (.cells #[(Value.int .i64 0), (.slice none 0 0)] 55 (0, 0)) fun b53 H54 =>
St 2 H54 (.pointer (some ⟨b53, 0, none⟩)) v51 fun H55 =>
Un .not v42 fun v56 =>
Grp v56 false (fun t57 =>
Un .not v52 fun v58 =>
(H55 = H55 ∧ v58 = Value.bool t57)) (fun t57 => (Value.bool true) = Value.bool t57) fun t57 => ∀ gs59 : Fr,
Br (Value.bool t57) (
Build Tryz.prog 55 [] fun v60 =>
St 2 H55 (.pointer (some ⟨b1, 0, none⟩)) v60 fun H61 =>
LdA 2 H61 (.pointer (some ⟨b1, 0, none⟩)) fun v62 =>
R (.returned (.tuple #[v62, (Value.bool false)])) H61) (
FAddr 0 (.pointer (some ⟨b16, 0, none⟩)) fun v63 =>
Ld H55 v63 fun v64 =>
LdA 2 H55 (.pointer (some ⟨b43, 0, none⟩)) fun v65 =>
LdA 2 H55 (.pointer (some ⟨b53, 0, none⟩)) fun v66 =>
CallF Tryz.prog g 121 #[v64, v65, v66] H55 (fun v67 H68 =>
St 2 H68 (.pointer (some ⟨b1, 0, none⟩)) v67 fun H69 =>
LdA 2 H69 (.pointer (some ⟨b1, 0, none⟩)) fun v70 =>
R (.returned (.tuple #[v70, (Value.bool true)])) H69) (PanR R))) (PanR R)) (PanR R))) (PanR R))
theorem L93_sound (h : L93 g a0 a1 a2 a3 H R) : SCalls Tryz.prog g 93 #[a0, a1, a2, a3] H R :=
  soundF (hn := (.n .e (.n (.n (.h 0 [] [1] .e .e) .e) (.n .e (.n (.n (.h 0 [] [1] .e .e) .e) (.n .e (.n .e (.n (.n (.h 0 [] [1] .e .e) .e) .e)))))))) Tryz.func93 h (by kernel_rfl)
def L94 (g : Gh) (a0 a1 : Value) (H : Hp) (R : Rt) : Prop :=
Bin .num .geq a1 (Value.int .i64 0) fun v1 =>
Grp v1 true (fun t2 =>
Nil a0 fun v3 =>
FAddr 4 v3 fun v4 =>
Ld H v4 fun v5 =>
Bin .num .lss a1 v5 fun v6 =>
(H = H ∧ v6 = Value.bool t2)) (fun t2 => (Value.bool false) = Value.bool t2) fun t2 => ∀ gs7 : Fr,
R (.returned (Value.bool t2)) H
theorem L94_sound (h : L94 g a0 a1 H R) : SCalls Tryz.prog g 94 #[a0, a1] H R :=
  soundF (hn := (.n .e (.n (.h 0 [] [1] .e .e) .e))) Tryz.func94 h (by kernel_rfl)
def L95 (g : Gh) (a0 : Value) (H : Hp) (R : Rt) : Prop :=
MkSlice 3 1 8 (Value.int .i64 0) H a0 a0 fun v1 H2 =>
∃ (I3 : Jt) (m4 : Mt), JE I3 [(Value.int .i64 0)] H2 ∧ ∀ w7 : Value, ∀ H6 : Hp, I3 [w7] H6 → ∀ gs5 : Fr,
Bin .num .lss w7 a0 fun v8 =>
Br v8 (
IAddr 1 v1 w7 fun v9 =>
St 1 H6 v9 w7 fun H10 =>
Bin .num .add w7 (Value.int .i64 1) fun v11 =>
Back I3 m4 [v11] H10 [w7] H6) (
R (.returned v1) H6)
theorem L95_sound (h : L95 g a0 H R) : SCalls Tryz.prog g 95 #[a0] H R :=
  soundF (hn := (.n .e (.n .e (.n (.n .e (.n (.h 0 [8] [3, 7] .e .e) .e)) .e)))) Tryz.func95 h (by kernel_rfl)
def L96 (g : Gh) (a0 : Value) (H : Hp) (R : Rt) : Prop :=
Bin .num .lss a0 (Value.int .i64 2) fun v1 =>
Grp v1 false (fun t2 =>
Bin .num .gtr a0 (Value.int .i64 1048576) fun v3 =>
(H = H ∧ v3 = Value.bool t2)) (fun t2 => (Value.bool true) = Value.bool t2) fun t2 => ∀ gs4 : Fr,
Br (Value.bool t2) (
R (.returned (.tuple #[(.pointer none), (Value.int .i64 1)])) H) (
Build Tryz.prog 159 [(0, a0), (3, (Value.int .i64 2))] fun v5 =>
New H (.cells (Value.cells v5) 159 (0, 0)) fun b6 H7 =>
∃ (I8 : Jt) (m9 : Mt), JE I8 [(Value.int .u32 0)] H7 ∧ ∀ w12 : Value, ∀ H11 : Hp, I8 [w12] H11 → ∀ gs10 : Fr,
Bin .num .lss w12 (Value.int .u32 2) fun v13 =>
Br v13 (
Nil (.pointer (some ⟨b6, 0, none⟩)) fun v14 =>
FAddr 1 v14 fun v15 =>
Ld H11 v15 fun v16 =>
Build Tryz.prog 103 [(0, (Value.int .i64 (-1))), (1, w12), (2, w12)] fun v17 =>
Build Tryz.prog 197 [(0, v17), (1, (Value.bool true)), (2, (Value.int .u8 255))] fun v18 =>
BuildSl Tryz.prog 157 1 [(0, v18)] H11 fun v19 H20 =>
App Tryz.prog 197 5 24 (.agg #[(Value.int .i64 0), (Value.int .u32 0), (Value.int .u32 0), (Value.bool false), (Value.int .u8 0)]) H20 v16 v19 fun v23 H24 =>
Nil (.pointer (some ⟨b6, 0, none⟩)) fun v25 =>
FAddr 1 v25 fun v26 =>
St 1 H24 v26 v23 fun H27 =>
Bin .num .add w12 (Value.int .u32 1) fun v28 =>
Back I8 m9 [v28] H27 [w12] H11) (
R (.returned (.tuple #[(.pointer (some ⟨b6, 0, none⟩)), (Value.int .i64 0)])) H11))
theorem L96_sound (h : L96 g a0 H R) : SCalls Tryz.prog g 96 #[a0] H R :=
  soundF (hn := (.n .e (.n (.n (.h 0 [] [1] .e .e) .e) (.n .e (.n (.n .e (.n (.h 0 [15] [4] .e .e) .e)) .e))))) Tryz.func96 h (by kernel_rfl)
def L97 (g : Gh) (a0 a1 : Value) (H : Hp) (R : Rt) : Prop :=
Nil a0 fun v1 =>
FAddr 0 v1 fun v2 =>
Ld H v2 fun v3 =>
CallF Tryz.prog g 137 #[v3, a1] H (fun v4 H5 =>
Ext 0 v4 fun v6 =>
Ext 1 v4 fun v7 =>
New H5 (.cells #[(Value.int .i64 0), (Value.int .u32 0), (Value.int .u32 0)] 103 (0, 0)) fun b8 H9 =>
St 3 H9 (.pointer (some ⟨b8, 0, none⟩)) v6 fun H10 =>
Bin .num .eql v7 (Value.int .i64 0) fun v11 =>
R (.returned v11) H10) (PanR R)
theorem L97_sound (h : L97 g a0 a1 H R) : SCalls Tryz.prog g 97 #[a0, a1] H R :=
  soundF (hn := .e) Tryz.func97 h (by kernel_rfl)
def L98 (g : Gh) (a0 a1 : Value) (H : Hp) (R : Rt) : Prop :=
Nil a0 fun v1 =>
FAddr 0 v1 fun v2 =>
CallF Tryz.prog g 104 #[v2, a1] H (fun v3 H4 =>
New H4 (.cells #[(Value.int .i64 0), (Value.int .u32 0), (Value.int .u32 0)] 103 (0, 0)) fun b5 H6 =>
St 3 H6 (.pointer (some ⟨b5, 0, none⟩)) v3 fun H7 =>
FAddr 0 (.pointer (some ⟨b5, 0, none⟩)) fun v8 =>
Ld H7 v8 fun v9 =>
Bin .num .geq v9 (Value.int .i64 0) fun v10 =>
Br v10 (
Nil a0 fun v11 =>
FAddr 6 v11 fun v12 =>
Ld H7 v12 fun v13 =>
FAddr 0 (.pointer (some ⟨b5, 0, none⟩)) fun v14 =>
Ld H7 v14 fun v15 =>
IAddr 1 v13 v15 fun v16 =>
Ld H7 v16 fun v17 =>
R (.returned v17) H7) (
Nil a0 fun v18 =>
FAddr 4 v18 fun v19 =>
Ld H7 v19 fun v20 =>
R (.returned v20) H7)) (PanR R)
theorem L98_sound (h : L98 g a0 a1 H R) : SCalls Tryz.prog g 98 #[a0, a1] H R :=
  soundF (hn := .e) Tryz.func98 h (by kernel_rfl)
def L99 (g : Gh) (a0 a1 : Value) (H : Hp) (R : Rt) : Prop :=
New H (.cells (Value.cells a1) 103 (0, 0)) fun b1 H2 =>
FAddr 0 (.pointer (some ⟨b1, 0, none⟩)) fun v3 =>
Ld H2 v3 fun v4 =>
CallF Tryz.prog g 138 #[a0, v4] H2 (fun v5 H6 =>
Bin .num .neq v5 (Value.int .i64 0) fun v7 =>
Br v7 (
R (.returned (.tuple #[(Value.int .u32 0), (Value.bool false)])) H6) (
Nil a0 fun v8 =>
FAddr 0 v8 fun v9 =>
Ld H6 v9 fun v10 =>
FAddr 0 (.pointer (some ⟨b1, 0, none⟩)) fun v11 =>
Ld H6 v11 fun v12 =>
IAddr 1 v10 v12 fun v13 =>
Ld H6 v13 fun v14 =>
LdA 3 H6 (.pointer (some ⟨b1, 0, none⟩)) fun v15 =>
LookS Tryz.prog 103 (Value.int .u32 0) true H6 v14 v15 fun v16 =>
Ext 0 v16 fun v17 =>
Ext 1 v16 fun v18 =>
R (.returned (.tuple #[v17, v18])) H6)) (PanR R)
theorem L99_sound (h : L99 g a0 a1 H R) : SCalls Tryz.prog g 99 #[a0, a1] H R :=
  soundF (hn := .e) Tryz.func99 h (by kernel_rfl)
def L100 (g : Gh) (a0 : Value) (H : Hp) (R : Rt) : Prop :=
Bin .ptr .eql a0 (.pointer none) fun v1 =>
Br v1 (
R (.returned (Value.int .i64 0)) H) (
Nil a0 fun v2 =>
FAddr 0 v2 fun v3 =>
Ld H v3 fun v4 =>
R (.returned v4) H)
theorem L100_sound (h : L100 g a0 H R) : SCalls Tryz.prog g 100 #[a0] H R :=
  soundF (hn := .e) Tryz.func100 h (by kernel_rfl)
def L101 (g : Gh) (a0 a1 : Value) (H : Hp) (R : Rt) : Prop :=
New H (.cells (Value.cells a1) 103 (0, 0)) fun b1 H2 =>
Bin .ptr .eql a0 (.pointer none) fun v3 =>
Br v3 (
R (.returned (.tuple #[(Value.int .u32 0), (Value.int .i64 10)])) H2) (
LdA 3 H2 (.pointer (some ⟨b1, 0, none⟩)) fun v4 =>
CallF Tryz.prog g 139 #[a0, v4] H2 (fun v5 H6 =>
Bin .num .neq v5 (Value.int .i64 0) fun v7 =>
Br v7 (
R (.returned (.tuple #[(Value.int .u32 0), v5])) H6) (
Nil a0 fun v8 =>
FAddr 2 v8 fun v9 =>
Ld H6 v9 fun v10 =>
LenS v10 fun v11 =>
Bin .num .gtr v11 (Value.int .i64 0) fun v12 =>
Br v12 (
Nil a0 fun v13 =>
FAddr 2 v13 fun v14 =>
Ld H6 v14 fun v15 =>
Bin .num .sub v11 (Value.int .i64 1) fun v16 =>
IAddr 1 v15 v16 fun v17 =>
Ld H6 v17 fun v18 =>
Nil a0 fun v19 =>
FAddr 2 v19 fun v20 =>
Ld H6 v20 fun v21 =>
Bin .num .sub v11 (Value.int .i64 1) fun v22 =>
SliceE 1 v21 none (some v22) fun v23 =>
Nil a0 fun v24 =>
FAddr 2 v24 fun v25 =>
St 1 H6 v25 v23 fun H26 =>
DR H26 fun R27 =>
Nil a0 fun v28 =>
FAddr 1 v28 fun v29 =>
Ld R27 v29 fun v30 =>
LdA 3 R27 (.pointer (some ⟨b1, 0, none⟩)) fun v31 =>
Build Tryz.prog 197 [(0, v31), (1, (Value.bool true))] fun v32 =>
IAddr 5 v30 v18 fun v33 =>
St 5 H26 v33 v32 fun H34 =>
Nil a0 fun v35 =>
FAddr 3 v35 fun v36 =>
Ld H34 v36 fun v37 =>
Bin .num .add v37 (Value.int .i64 1) fun v38 =>
Nil a0 fun v39 =>
FAddr 3 v39 fun v40 =>
St 1 H34 v40 v38 fun H41 =>
R (.returned (.tuple #[v18, (Value.int .i64 0)])) H41) (
Nil a0 fun v42 =>
FAddr 1 v42 fun v43 =>
Ld H6 v43 fun v44 =>
LenS v44 fun v45 =>
Nil a0 fun v46 =>
FAddr 0 v46 fun v47 =>
Ld H6 v47 fun v48 =>
Bin .num .geq v45 v48 fun v49 =>
Br v49 (
R (.returned (.tuple #[(Value.int .u32 0), (Value.int .i64 9)])) H6) (
DR H6 fun R50 =>
Nil a0 fun v51 =>
FAddr 1 v51 fun v52 =>
Ld R50 v52 fun v53 =>
LdA 3 R50 (.pointer (some ⟨b1, 0, none⟩)) fun v54 =>
Build Tryz.prog 197 [(0, v54), (1, (Value.bool true))] fun v55 =>
BuildSl Tryz.prog 157 1 [(0, v55)] H6 fun v56 H57 =>
Ent H57 R50 ∧
App Tryz.prog 197 5 24 (.agg #[(Value.int .i64 0), (Value.int .u32 0), (Value.int .u32 0), (Value.bool false), (Value.int .u8 0)]) H57 v53 v56 fun v60 H61 =>
Ent H61 R50 ∧
Nil a0 fun v62 =>
FAddr 1 v62 fun v63 =>
St 1 H61 v63 v60 fun H64 =>
Nil a0 fun v65 =>
FAddr 3 v65 fun v66 =>
Ld H64 v66 fun v67 =>
Bin .num .add v67 (Value.int .i64 1) fun v68 =>
Nil a0 fun v69 =>
FAddr 3 v69 fun v70 =>
St 1 H64 v70 v68 fun H71 =>
Nil a0 fun v72 =>
FAddr 1 v72 fun v73 =>
Ld H71 v73 fun v74 =>
LenS v74 fun v75 =>
Bin .num .sub v75 (Value.int .i64 1) fun v76 =>
ConvI .u32 v76 fun v77 =>
R (.returned (.tuple #[v77, (Value.int .i64 0)])) H71)))) (PanR R))
theorem L101_sound (h : L101 g a0 a1 H R) : SCalls Tryz.prog g 101 #[a0, a1] H R :=
  soundF (hn := (.n .e (.n .e (.n .e (.n (.n .e (.n .e (.n (.n .e (.n .e (.n (.h 0 [0, 1, 2, 3, 4, 5, 6, 7, 8] [] .e .e) .e))) .e))) (.n .e (.n (.h 0 [0, 1, 2, 3, 4, 5, 6, 7, 8, 9, 10, 11] [] .e .e) .e))))))) Tryz.func101 h (by kernel_rfl)
def L102 (g : Gh) (a0 a1 : Value) (H : Hp) (R : Rt) : Prop :=
Bin .num .gtr a1 (Value.int .u32 1) fun v1 =>
Br v1 (
Nil a0 fun v2 =>
FAddr 2 v2 fun v3 =>
Ld H v3 fun v4 =>
IAddr 1 v4 a1 fun v5 =>
Ld H v5 fun v6 =>
Bin .num .add v6 (Value.int .i32 1) fun v7 =>
IAddr 1 v4 a1 fun v8 =>
St 1 H v8 v7 fun H9 =>
R (.returned (.tuple #[])) H9) (
R (.returned (.tuple #[])) H)
theorem L102_sound (h : L102 g a0 a1 H R) : SCalls Tryz.prog g 102 #[a0, a1] H R :=
  soundF (hn := .e) Tryz.func102 h (by kernel_rfl)
def L103 (g : Gh) (a0 a1 a2 : Value) (H : Hp) (R : Rt) : Prop :=
New H (.cells (Value.cells a1) 103 (0, 0)) fun b1 H2 =>
FAddr 0 (.pointer (some ⟨b1, 0, none⟩)) fun v3 =>
Ld H2 v3 fun v4 =>
CallF Tryz.prog g 138 #[a0, v4] H2 (fun v5 H6 =>
Bin .num .neq v5 (Value.int .i64 0) fun v7 =>
Br v7 (
R (.returned v5) H6) (
Nil a0 fun v8 =>
FAddr 0 v8 fun v9 =>
Ld H6 v9 fun v10 =>
FAddr 0 (.pointer (some ⟨b1, 0, none⟩)) fun v11 =>
Ld H6 v11 fun v12 =>
IAddr 1 v10 v12 fun v13 =>
Ld H6 v13 fun v14 =>
LdA 3 H6 (.pointer (some ⟨b1, 0, none⟩)) fun v15 =>
LookS Tryz.prog 103 (Value.int .u32 0) true H6 v14 v15 fun v16 =>
Ext 0 v16 fun v17 =>
Ext 1 v16 fun v18 =>
Br v18 (
R (.returned (Value.int .i64 11)) H6) (
DR H6 fun R19 =>
Nil a0 fun v20 =>
FAddr 0 v20 fun v21 =>
Ld R19 v21 fun v22 =>
FAddr 0 (.pointer (some ⟨b1, 0, none⟩)) fun v23 =>
Ld R19 v23 fun v24 =>
IAddr 1 v22 v24 fun v25 =>
Ld R19 v25 fun v26 =>
LdA 3 R19 (.pointer (some ⟨b1, 0, none⟩)) fun v27 =>
MapUpdS Tryz.prog 103 H6 v26 v27 a2 fun H28 =>
R (.returned (Value.int .i64 0)) H28))) (PanR R)
theorem L103_sound (h : L103 g a0 a1 a2 H R) : SCalls Tryz.prog g 103 #[a0, a1, a2] H R :=
  soundF (hn := (.n .e (.n .e (.n .e (.n (.h 0 [0, 1, 2, 3, 4, 5, 6, 7, 8, 9, 10] [] .e .e) .e))))) Tryz.func103 h (by kernel_rfl)
def L104 (g : Gh) (a0 a1 : Value) (H : Hp) (R : Rt) : Prop :=
New H (.cells #[(Value.int .i64 0), (Value.int .u32 0), (Value.int .u32 0)] 103 (0, 0)) fun b1 H2 =>
Nil a0 fun v3 =>
FAddr 0 v3 fun v4 =>
Ld H2 v4 fun v5 =>
CallF Tryz.prog g 137 #[v5, a1] H2 (fun v6 H7 =>
Ext 0 v6 fun v8 =>
Ext 1 v6 fun v9 =>
New H7 (.cells #[(Value.int .i64 0), (Value.int .u32 0), (Value.int .u32 0)] 103 (0, 0)) fun b10 H11 =>
St 3 H11 (.pointer (some ⟨b10, 0, none⟩)) v8 fun H12 =>
LdA 3 H12 (.pointer (some ⟨b10, 0, none⟩)) fun v13 =>
St 3 H12 (.pointer (some ⟨b1, 0, none⟩)) v13 fun H14 =>
LdA 3 H14 (.pointer (some ⟨b1, 0, none⟩)) fun v15 =>
R (.returned v15) H14) (PanR R)
theorem L104_sound (h : L104 g a0 a1 H R) : SCalls Tryz.prog g 104 #[a0, a1] H R :=
  soundF (hn := .e) Tryz.func104 h (by kernel_rfl)
def L105 (g : Gh) (a0 a1 : Value) (H : Hp) (R : Rt) : Prop :=
New H (.cells (Value.cells a1) 103 (0, 0)) fun b1 H2 =>
FAddr 0 (.pointer (some ⟨b1, 0, none⟩)) fun v3 =>
Ld H2 v3 fun v4 =>
CallF Tryz.prog g 138 #[a0, v4] H2 (fun v5 H6 =>
Bin .num .neq v5 (Value.int .i64 0) fun v7 =>
Br v7 (
R (.returned v5) H6) (
Nil a0 fun v8 =>
FAddr 0 v8 fun v9 =>
Ld H6 v9 fun v10 =>
FAddr 0 (.pointer (some ⟨b1, 0, none⟩)) fun v11 =>
Ld H6 v11 fun v12 =>
IAddr 1 v10 v12 fun v13 =>
Ld H6 v13 fun v14 =>
LdA 3 H6 (.pointer (some ⟨b1, 0, none⟩)) fun v15 =>
LookS Tryz.prog 103 (Value.int .u32 0) true H6 v14 v15 fun v16 =>
Ext 0 v16 fun v17 =>
Ext 1 v16 fun v18 =>
Un .not v18 fun v19 =>
Br v19 (
R (.returned (Value.int .i64 10)) H6) (
DR H6 fun R20 =>
Nil a0 fun v21 =>
FAddr 0 v21 fun v22 =>
Ld R20 v22 fun v23 =>
FAddr 0 (.pointer (some ⟨b1, 0, none⟩)) fun v24 =>
Ld R20 v24 fun v25 =>
IAddr 1 v23 v25 fun v26 =>
Ld R20 v26 fun v27 =>
LdA 3 R20 (.pointer (some ⟨b1, 0, none⟩)) fun v28 =>
MapDelS Tryz.prog 103 H6 v27 v28 fun H31 =>
Ent H31 R20 ∧
R (.returned (Value.int .i64 0)) H31))) (PanR R)
theorem L105_sound (h : L105 g a0 a1 H R) : SCalls Tryz.prog g 105 #[a0, a1] H R :=
  soundF (hn := (.n .e (.n .e (.n .e (.n (.h 0 [0, 1, 2, 3, 4, 5, 6, 7, 8, 9] [] .e .e) .e))))) Tryz.func105 h (by kernel_rfl)
def L106 (g : Gh) (a0 a1 : Value) (H : Hp) (R : Rt) : Prop :=
Bin .ptr .eql a0 (.pointer none) fun v1 =>
Br v1 (
R (.returned (Value.int .i64 10)) H) (
CallF Tryz.prog g 140 #[a0, a1] H (fun v2 H3 =>
Bin .num .neq v2 (Value.int .i64 0) fun v4 =>
Br v4 (
R (.returned v2) H3) (
Nil a0 fun v5 =>
FAddr 1 v5 fun v6 =>
Ld H3 v6 fun v7 =>
Build Tryz.prog 197 [] fun v8 =>
IAddr 5 v7 a1 fun v9 =>
St 5 H3 v9 v8 fun H10 =>
Nil a0 fun v11 =>
FAddr 2 v11 fun v12 =>
Ld H10 v12 fun v13 =>
BuildSl Tryz.prog 48 1 [(0, a1)] H10 fun v14 H15 =>
App Tryz.prog 31 1 4 (Value.int .u32 0) H15 v13 v14 fun v18 H19 =>
Nil a0 fun v20 =>
FAddr 2 v20 fun v21 =>
St 1 H19 v21 v18 fun H22 =>
Nil a0 fun v23 =>
FAddr 3 v23 fun v24 =>
Ld H22 v24 fun v25 =>
Bin .num .sub v25 (Value.int .i64 1) fun v26 =>
Nil a0 fun v27 =>
FAddr 3 v27 fun v28 =>
St 1 H22 v28 v26 fun H29 =>
R (.returned (Value.int .i64 0)) H29)) (PanR R))
theorem L106_sound (h : L106 g a0 a1 H R) : SCalls Tryz.prog g 106 #[a0, a1] H R :=
  soundF (hn := .e) Tryz.func106 h (by kernel_rfl)
def L109 (g : Gh) (a0 a1 : Value) (H : Hp) (R : Rt) : Prop :=
Bin .ptr .eql a0 (.pointer none) fun v1 =>
Br v1 (
R (.returned (.tuple #[(Value.int .i64 0), (Value.int .i64 10)])) H) (
∀ J2 : Jt, (∀ w5 : Value, ∀ H4 : Hp, (∀ gs3 : Fr,
Br w5 (
R (.returned (.tuple #[(Value.int .i64 0), (Value.int .i64 1)])) H4) (
∃ (I6 : Jt) (m7 : Mt), JE I6 [(Value.int .i64 0)] H4 ∧ ∀ w10 : Value, ∀ H9 : Hp, I6 [w10] H9 → ∀ gs8 : Fr,
CallF Tryz.prog g 15 #[a0] H9 (fun v11 H12 =>
Bin .num .gtr v11 a1 fun v13 =>
Br v13 (
CallF Tryz.prog g 29 #[a0] H12 (fun v14 H15 =>
Bin .num .add w10 (Value.int .i64 1) fun v16 =>
Back I6 m7 [v16] H15 [w10] H9) (PanR R)) (
R (.returned (.tuple #[w10, (Value.int .i64 0)])) H12)) (PanR R))) → J2 [w5] H4) →
Bin .num .lss a1 (Value.int .i64 0) fun v17 =>
Split v17 false (
CallF Tryz.prog g 15 #[a0] H (fun v18 H19 =>
Bin .num .gtr a1 v18 fun v20 =>
Pick (Value.bool false) (Value.bool true) v20 fun v21 =>
JE J2 [v21] H19) (PanR R)) (
Pick (Value.bool true) (Value.bool true) undef fun v22 =>
JE J2 [v22] H))
theorem L109_sound (h : L109 g a0 a1 H R) : SCalls Tryz.prog g 109 #[a0, a1] H R :=
  soundF (hn := (.n .e (.n .e (.n (.h 1 [16] [0, 1] .e .e) (.n .e (.n (.n (.h 0 [6] [0, 1] .e .e) .e) .e)))))) Tryz.func109 h (by kernel_rfl)
def L110 (g : Gh) (a0 a1 : Value) (H : Hp) (R : Rt) : Prop :=
CallF Tryz.prog g 35 #[a0] H (fun v1 H2 =>
CallF Tryz.prog g 35 #[a1] H2 (fun v3 H4 =>
Bin .num .eql v1 (Value.int .i64 4) fun v5 =>
Grp v5 false (fun t6 =>
Bin .num .eql v3 (Value.int .i64 4) fun v7 =>
(H4 = H4 ∧ v7 = Value.bool t6)) (fun t6 => (Value.bool true) = Value.bool t6) fun t6 => ∀ gs8 : Fr,
Grp (Value.bool t6) false (fun t9 =>
LenS a0 fun v10 =>
LenS a1 fun v11 =>
Bin .num .neq v10 v11 fun v12 =>
(H4 = H4 ∧ v12 = Value.bool t9)) (fun t9 => (Value.bool true) = Value.bool t9) fun t9 => ∀ gs13 : Fr,
Br (Value.bool t9) (
R (.returned (Value.int .i64 4)) H4) (
Bin .num .neq v1 (Value.int .i64 0) fun v14 =>
Br v14 (
R (.returned v1) H4) (
R (.returned v3) H4))) (PanR R)) (PanR R)
theorem L110_sound (h : L110 g a0 a1 H R) : SCalls Tryz.prog g 110 #[a0, a1] H R :=
  soundF (hn := (.n .e (.n .e (.n (.n (.n (.h 0 [] [1] .e .e) .e) .e) .e)))) Tryz.func110 h (by kernel_rfl)
def L111 (g : Gh) (a0 a1 : Value) (H : Hp) (R : Rt) : Prop :=
App Tryz.prog 3 1 8 (Value.int .i64 0) H (.slice none 0 0) a0 fun v3 H4 =>
DR H4 fun R5 =>
Bin .num .add a1 (Value.int .i64 1) fun v6 =>
Bin .num .add a1 (Value.int .i64 1) fun v7 =>
IAddr 1 v3 v7 fun v8 =>
Ld R5 v8 fun v9 =>
IAddr 1 v3 a1 fun v10 =>
Ld R5 v10 fun v11 =>
IAddr 1 v3 a1 fun v12 =>
St 1 H4 v12 v9 fun H13 =>
IAddr 1 v3 v6 fun v14 =>
St 1 H13 v14 v11 fun H15 =>
R (.returned v3) H15
theorem L111_sound (h : L111 g a0 a1 H R) : SCalls Tryz.prog g 111 #[a0, a1] H R :=
  soundF (hn := (.n .e (.n .e (.n .e (.n (.h 0 [0, 1, 2, 3, 4, 5, 6, 7, 8, 9, 10, 11, 12, 13, 14, 15, 16, 17] [] .e .e) .e))))) Tryz.func111 h (by kernel_rfl)
def L112 (g : Gh) (a0 a1 : Value) (H : Hp) (R : Rt) : Prop :=
CallF Tryz.prog g 141 #[a0] H (fun v1 H2 =>
LenS v1 fun v3 =>
∃ (I4 : Jt) (m5 : Mt), JE I4 [(.slice none 0 0), (Value.int .i64 0)] H2 ∧ ∀ w8 w9 : Value, ∀ H7 : Hp, I4 [w8, w9] H7 → ∀ gs6 : Fr,
Bin .num .lss w9 v3 fun v10 =>
Br v10 (
IAddr 1 v1 w9 fun v11 =>
Ld H7 v11 fun v12 =>
App Tryz.prog 55 2 32 (.agg #[(Value.int .i64 0), (.slice none 0 0)]) H7 w8 v12 fun v15 H16 =>
Bin .num .add w9 (Value.int .i64 1) fun v17 =>
Back I4 m5 [v15, v17] H16 [w8, w9] H7) (
DR H7 fun R18 =>
Nil a0 fun v19 =>
FAddr 2 v19 fun v20 =>
Ld R18 v20 fun v21 =>
CallF Tryz.prog g 114 #[a0] H7 (fun v22 H23 =>
Ent H23 R18 ∧
CallF Tryz.prog g 113 #[v21, a1] H23 (fun v24 H25 =>
Ent H25 R18 ∧
CallF Tryz.prog g 142 #[v22, v24] H25 (fun v26 H27 =>
Ent H27 R18 ∧
LenS v26 fun v28 =>
∃ (I29 : Jt) (m30 : Mt), JE I29 [w8, (Value.int .i64 0)] H27 ∧ ∀ w33 w34 : Value, ∀ H32 : Hp, I29 [w33, w34] H32 → ∀ gs31 : Fr,
Bin .num .lss w34 v28 fun v35 =>
Br v35 (
IAddr 1 v26 w34 fun v36 =>
Ld H32 v36 fun v37 =>
App Tryz.prog 55 2 32 (.agg #[(Value.int .i64 0), (.slice none 0 0)]) H32 w33 v37 fun v40 H41 =>
Bin .num .add w34 (Value.int .i64 1) fun v42 =>
Back I29 m30 [v40, v42] H41 [w33, w34] H32) (
CallF Tryz.prog g 143 #[w33] H32 (fun v43 H44 =>
LenS v43 fun v45 =>
R (.returned v45) H44) (PanR R))) NoKP) NoKP) NoKP)) (PanR R)
theorem L112_sound (h : L112 g a0 a1 H R) : SCalls Tryz.prog g 112 #[a0, a1] H R :=
  soundF (hn := (.n .e (.n .e (.n (.n .e (.n (.h 0 [5, 13] [0, 1, 11, 12] .e .e) .e)) (.n (.n (.h 0 [0, 2, 3, 4, 5, 6, 10, 1, 7, 8, 9] [] .e .e) (.n (.h 0 [5, 31] [29, 30] .e .e) .e)) .e))))) Tryz.func112 h (by kernel_rfl)
def L113 (g : Gh) (a0 a1 : Value) (H : Hp) (R : Rt) : Prop :=
App Tryz.prog 3 1 8 (Value.int .i64 0) H (.slice none 0 0) a0 fun v3 H4 =>
DR H4 fun R5 =>
Bin .num .add a1 (Value.int .i64 1) fun v6 =>
Bin .num .add a1 (Value.int .i64 1) fun v7 =>
IAddr 1 v3 v7 fun v8 =>
Ld R5 v8 fun v9 =>
IAddr 1 v3 a1 fun v10 =>
Ld R5 v10 fun v11 =>
IAddr 1 v3 a1 fun v12 =>
St 1 H4 v12 v9 fun H13 =>
IAddr 1 v3 v6 fun v14 =>
St 1 H13 v14 v11 fun H15 =>
R (.returned v3) H15
theorem L113_sound (h : L113 g a0 a1 H R) : SCalls Tryz.prog g 113 #[a0, a1] H R :=
  soundF (hn := (.n .e (.n .e (.n .e (.n (.h 0 [0, 1, 2, 3, 4, 5, 6, 7, 8, 9, 10, 11, 12, 13, 14, 15, 16, 17] [] .e .e) .e))))) Tryz.func113 h (by kernel_rfl)
def L114 (g : Gh) (a0 : Value) (H : Hp) (R : Rt) : Prop :=
Nil a0 fun v1 =>
FAddr 3 v1 fun v2 =>
Ld H v2 fun v3 =>
LenS v3 fun v4 =>
∃ (I5 : Jt) (m6 : Mt), JE I5 [(.slice none 0 0), (Value.int .i64 0)] H ∧ ∀ w9 w10 : Value, ∀ H8 : Hp, I5 [w9, w10] H8 → ∀ gs7 : Fr,
Bin .num .lss w10 v4 fun v11 =>
Br v11 (
IAddr 3 v3 w10 fun v12 =>
LdA 3 H8 v12 fun v13 =>
New H8 (.cells #[(Value.int .i64 0), (.slice none 0 0), (Value.int .i64 0)] 173 (0, 0)) fun b14 H15 =>
St 3 H15 (.pointer (some ⟨b14, 0, none⟩)) v13 fun H16 =>
FAddr 0 (.pointer (some ⟨b14, 0, none⟩)) fun v17 =>
LdA 2 H16 v17 fun v18 =>
BuildSl Tryz.prog 49 1 [(0, v18)] H16 fun v19 H20 =>
App Tryz.prog 55 2 32 (.agg #[(Value.int .i64 0), (.slice none 0 0)]) H20 w9 v19 fun v23 H24 =>
Bin .num .add w10 (Value.int .i64 1) fun v25 =>
Back I5 m6 [v23, v25] H24 [w9, w10] H8) (
R (.returned w9) H8)
theorem L114_sound (h : L114 g a0 H R) : SCalls Tryz.prog g 114 #[a0] H R :=
  soundF (hn := (.n .e (.n .e (.n (.n .e (.n (.h 0 [3, 11] [9, 10] .e .e) .e)) .e)))) Tryz.func114 h (by kernel_rfl)
def L115 (g : Gh) (a0 a1 : Value) (H : Hp) (R : Rt) : Prop :=
Nil a0 fun v1 =>
FAddr 2 v1 fun v2 =>
Ld H v2 fun v3 =>
CallF Tryz.prog g 144 #[a1, v3] H (fun v4 H5 =>
R (.returned v4) H5) (PanR R)
theorem L115_sound (h : L115 g a0 a1 H R) : SCalls Tryz.prog g 115 #[a0, a1] H R :=
  soundF (hn := .e) Tryz.func115 h (by kernel_rfl)
def L116 (g : Gh) (a0 : Value) (H : Hp) (R : Rt) : Prop :=
New H (.cells (Value.cells a0) 55 (0, 0)) fun b1 H2 =>
∀ J3 : Jt, (∀ w6 : Value, ∀ H5 : Hp, (∀ gs4 : Fr,
R (.returned w6) H5) → J3 [w6] H5) →
DR H2 fun R7 =>
LdA 2 R7 (.pointer (some ⟨b1, 0, none⟩)) fun v8 =>
FAddr 0 (.pointer (some ⟨b1, 0, none⟩)) fun v9 =>
Ld R7 v9 fun v10 =>
∀ F11 : Hp,
CallF Tryz.prog (g.add F11) 120 #[v10, (Value.bool false)] H2 (fun v12 H13 =>
Ent H13 R7 ∧
∀ F14 : Hp,
CallF Tryz.prog (g.add F14) 72 #[v8, v12] H13 (fun v15 H16 =>
Ent H16 R7 ∧
Br v15 (
JE J3 [(Value.bool true)] H16) (
LdA 2 R7 (.pointer (some ⟨b1, 0, none⟩)) fun v17 =>
FAddr 0 (.pointer (some ⟨b1, 0, none⟩)) fun v18 =>
Ld R7 v18 fun v19 =>
∀ F20 : Hp,
CallF Tryz.prog (g.add F20) 120 #[v19, (Value.bool true)] H16 (fun v21 H22 =>
Ent H22 R7 ∧
∀ F23 : Hp,
CallF Tryz.prog (g.add F23) 72 #[v17, v21] H22 (fun v24 H25 =>
Ent H25 R7 ∧
Pick (Value.bool false) (Value.bool true) v24 fun v26 =>
JE J3 [v26] H25) NoKP) NoKP)) NoKP) NoKP
theorem L116_sound (h : L116 g a0 H R) : SCalls Tryz.prog g 116 #[a0] H R :=
  soundF (hn := (.n .e (.h 1 [2] [] (.h 1 [] [] (.h 0 [0] [] (.h 0 [1] [] (.h 0 [2] [] (.h 0 [3] [] (.h 0 [4] [] (.h 2 [5] [] (.h 0 [6] [] (.h 0 [7] [] (.h 0 [8] [] (.h 0 [9] [] (.h 0 [10] [] (.h 3 [11] [] (.h 3 [12] [] .e .e) .e) .e) .e) .e) .e) .e) (.h 0 [6] [] (.h 0 [7] [] (.h 0 [8] [] (.h 0 [9] [] (.h 0 [10] [] (.h 0 [11] [] (.h 0 [12] [] .e .e) .e) .e) .e) .e) .e) .e)) .e) .e) .e) .e) .e) .e) .e))) Tryz.func116 h (by kernel_rfl)
def L117 (g : Gh) (a0 a1 : Value) (H : Hp) (R : Rt) : Prop :=
New H (.cells (Value.cells a0) 55 (0, 0)) fun b1 H2 =>
FAddr 1 (.pointer (some ⟨b1, 0, none⟩)) fun v3 =>
Ld H2 v3 fun v4 =>
Bin .num .quo a1 (Value.int .i64 64) fun v5 =>
IAddr 1 v4 v5 fun v6 =>
Ld H2 v6 fun v7 =>
Bin .num .rem a1 (Value.int .i64 64) fun v8 =>
Bin .num .shr v7 v8 fun v9 =>
Bin .num .rem v9 (Value.int .u64 2) fun v10 =>
Bin .num .eql v10 (Value.int .u64 1) fun v11 =>
R (.returned v11) H2
theorem L117_sound (h : L117 g a0 a1 H R) : SCalls Tryz.prog g 117 #[a0, a1] H R :=
  soundF (hn := .e) Tryz.func117 h (by kernel_rfl)
def L118 (g : Gh) (a0 a1 : Value) (H : Hp) (R : Rt) : Prop :=
New H (.cells (Value.cells a0) 55 (0, 0)) fun b1 H2 =>
DR H2 fun R3 =>
LdA 2 R3 (.pointer (some ⟨b1, 0, none⟩)) fun v4 =>
LdA 2 R3 (.pointer (some ⟨b1, 0, none⟩)) fun v5 =>
CallF Tryz.prog g 119 #[v4, a1, (Value.bool false)] H2 (fun v6 H7 =>
Ent H7 R3 ∧
CallF Tryz.prog g 119 #[v5, a1, (Value.bool true)] H7 (fun v8 H9 =>
Ent H9 R3 ∧
CallF Tryz.prog g 72 #[v6, v8] H9 (fun v10 H11 =>
Ent H11 R3 ∧
Un .not v10 fun v12 =>
R (.returned v12) H11) NoKP) NoKP) NoKP
theorem L118_sound (h : L118 g a0 a1 H R) : SCalls Tryz.prog g 118 #[a0, a1] H R :=
  soundF (hn := (.n .e (.n (.h 0 [0, 1, 3, 4, 2, 5, 6, 7, 8] [] .e .e) .e))) Tryz.func118 h (by kernel_rfl)
def L119 (g : Gh) (a0 a1 a2 : Value) (H : Hp) (R : Rt) : Prop :=
New H (.cells (Value.cells a0) 55 (0, 0)) fun b1 H2 =>
New H2 (.cells #[(Value.int .i64 0), (.slice none 0 0)] 55 (0, 0)) fun b3 H4 =>
DR H4 fun R5 =>
FAddr 0 (.pointer (some ⟨b1, 0, none⟩)) fun v6 =>
Ld R5 v6 fun v7 =>
FAddr 1 (.pointer (some ⟨b1, 0, none⟩)) fun v8 =>
Ld R5 v8 fun v9 =>
LenS v9 fun v10 =>
∀ F11 : Hp,
MkSlice 29 1 8 (Value.int .u64 0) H4 v10 v10 fun v12 H13 =>
Ent H13 R5 ∧
Build Tryz.prog 55 [(0, v7), (1, v12)] fun v14 =>
New H13 (.cells #[(Value.int .i64 0), (.slice none 0 0)] 55 (0, 0)) fun b15 H16 =>
∀ F17 : Hp,
St 2 H16 (.pointer (some ⟨b15, 0, none⟩)) v14 fun H18 =>
Bin .num .geq a1 (Value.int .i64 6) fun v19 =>
Br v19 (
Bin .num .sub a1 (Value.int .i64 6) fun v20 =>
Bin .num .shl (Value.int .i64 1) v20 fun v21 =>
∃ (I22 : Jt) (m23 : Mt), JE I22 [(Value.int .i64 0)] H18 ∧ ∀ w26 : Value, ∀ H25 : Hp, I22 [w26] H25 → ∀ gs24 : Fr,
FAddr 1 (.pointer (some ⟨b1, 0, none⟩)) fun v27 =>
Ld H25 v27 fun v28 =>
LenS v28 fun v29 =>
Bin .num .lss w26 v29 fun v30 =>
Br v30 (
Bin .num .quo w26 v21 fun v31 =>
Bin .num .rem v31 (Value.int .i64 2) fun v32 =>
Bin .num .mul v32 v21 fun v33 =>
Bin .num .sub w26 v33 fun v34 =>
∀ J35 : Jt, (∀ w38 : Value, ∀ H37 : Hp, (∀ gs36 : Fr,
DR H37 fun R39 =>
FAddr 1 (.pointer (some ⟨b15, 0, none⟩)) fun v40 =>
Ld R39 v40 fun v41 =>
FAddr 1 (.pointer (some ⟨b1, 0, none⟩)) fun v42 =>
Ld R39 v42 fun v43 =>
IAddr 1 v43 w38 fun v44 =>
Ld R39 v44 fun v45 =>
IAddr 1 v41 w26 fun v46 =>
St 1 H37 v46 v45 fun H47 =>
Bin .num .add w26 (Value.int .i64 1) fun v48 =>
Back I22 m23 [v48] H47 [w26] H25) → J35 [w38] H37) →
Br a2 (
Bin .num .add v34 v21 fun v49 =>
JE J35 [v49] H25) (
JE J35 [v34] H25)) (
LdA 2 H25 (.pointer (some ⟨b15, 0, none⟩)) fun v50 =>
St 2 H25 (.pointer (some ⟨b3, 0, none⟩)) v50 fun H51 =>
LdA 2 H51 (.pointer (some ⟨b3, 0, none⟩)) fun v52 =>
R (.returned v52) H51)) (
CallF Tryz.prog g 145 #[(Value.int .i64 6), a1] H18 (fun v53 H54 =>
Fld 1 v53 fun v55 =>
IAddr 1 v55 (Value.int .i64 0) fun v56 =>
Ld H54 v56 fun v57 =>
∃ (I58 : Jt) (m59 : Mt), JE I58 [(Value.int .i64 0)] H54 ∧ ∀ w62 : Value, ∀ H61 : Hp, I58 [w62] H61 → ∀ gs60 : Fr,
FAddr 1 (.pointer (some ⟨b1, 0, none⟩)) fun v63 =>
Ld H61 v63 fun v64 =>
LenS v64 fun v65 =>
Bin .num .lss w62 v65 fun v66 =>
Br v66 (
∀ J67 : Jt, (∀ H69 : Hp, (∀ gs68 : Fr,
Bin .num .add w62 (Value.int .i64 1) fun v70 =>
Back I58 m59 [v70] H69 [w62] H61) → J67 [] H69) →
Br a2 (
FAddr 1 (.pointer (some ⟨b1, 0, none⟩)) fun v71 =>
Ld H61 v71 fun v72 =>
IAddr 1 v72 w62 fun v73 =>
Ld H61 v73 fun v74 =>
Bin .num .and v74 v57 fun v75 =>
DR H61 fun R76 =>
FAddr 1 (.pointer (some ⟨b15, 0, none⟩)) fun v77 =>
Ld R76 v77 fun v78 =>
Bin .num .shl (Value.int .u64 1) a1 fun v79 =>
Bin .num .shr v75 v79 fun v80 =>
Bin .num .or v75 v80 fun v81 =>
IAddr 1 v78 w62 fun v82 =>
St 1 H61 v82 v81 fun H83 =>
JE J67 [] H83) (
FAddr 1 (.pointer (some ⟨b1, 0, none⟩)) fun v84 =>
Ld H61 v84 fun v85 =>
IAddr 1 v85 w62 fun v86 =>
Ld H61 v86 fun v87 =>
Bin .num .andNot v87 v57 fun v88 =>
DR H61 fun R89 =>
FAddr 1 (.pointer (some ⟨b15, 0, none⟩)) fun v90 =>
Ld R89 v90 fun v91 =>
Bin .num .shl (Value.int .u64 1) a1 fun v92 =>
Bin .num .shl v88 v92 fun v93 =>
Bin .num .or v88 v93 fun v94 =>
IAddr 1 v91 w62 fun v95 =>
St 1 H61 v95 v94 fun H96 =>
JE J67 [] H96)) (
LdA 2 H61 (.pointer (some ⟨b15, 0, none⟩)) fun v97 =>
St 2 H61 (.pointer (some ⟨b3, 0, none⟩)) v97 fun H98 =>
LdA 2 H98 (.pointer (some ⟨b3, 0, none⟩)) fun v99 =>
R (.returned v99) H98)) (PanR R))
theorem L119_sound (h : L119 g a0 a1 a2 H R) : SCalls Tryz.prog g 119 #[a0, a1, a2] H R :=
  soundF (hn := (.n .e (.n (.h 1 [] [] (.h 0 [0] [] (.h 0 [1] [] (.h 0 [2] [] (.h 0 [3] [] (.h 0 [4] [] (.h 1 [7] [] (.h 0 [5] [] (.h 0 [6] [] (.h 0 [7] [] (.h 0 [8] [] .e .e) .e) .e) .e) .e) .e) .e) .e) .e) .e) .e) (.n (.n .e (.n (.n .e (.n (.n .e (.n (.h 0 [9] [2, 3, 6, 7, 8] (.n .e (.n (.n (.n .e (.h 1 [10] [2, 3, 6, 7, 8, 9] .e (.h 0 [0, 1, 2, 3, 4, 5, 6, 7, 8, 9] [] .e .e))) .e) .e)) .e) .e)) .e)) .e)) (.n .e (.n (.n .e (.n (.h 0 [12] [1, 2, 3, 6, 7, 11] (.n .e (.h 1 [] [1, 2, 3, 6, 7, 11, 12] (.n (.n .e (.n (.n .e (.h 0 [0, 1, 2, 3, 4, 5, 6, 7, 8, 9, 10] [] .e .e)) (.n .e (.h 0 [0, 1, 2, 3, 4, 5, 6, 7, 8, 9, 10] [] .e .e)))) .e) .e)) .e) .e)) .e)))))) Tryz.func119 h (by kernel_rfl)
def L120 (g : Gh) (a0 a1 : Value) (H : Hp) (R : Rt) : Prop :=
New H (.cells #[(Value.int .i64 0), (.slice none 0 0)] 55 (0, 0)) fun b1 H2 =>
Bin .num .shl (Value.int .i64 1) a0 fun v3 =>
MkSlice 4 1 1 (Value.bool false) H2 v3 v3 fun v4 H5 =>
∃ (I6 : Jt) (m7 : Mt), JE I6 [(Value.int .i64 0)] H5 ∧ ∀ w10 : Value, ∀ H9 : Hp, I6 [w10] H9 → ∀ gs8 : Fr,
LenS v4 fun v11 =>
Bin .num .lss w10 v11 fun v12 =>
Br v12 (
IAddr 1 v4 w10 fun v13 =>
St 1 H9 v13 a1 fun H14 =>
Bin .num .add w10 (Value.int .i64 1) fun v15 =>
Back I6 m7 [v15] H14 [w10] H9) (
CallF Tryz.prog g 37 #[a0, v4] H9 (fun v16 H17 =>
St 2 H17 (.pointer (some ⟨b1, 0, none⟩)) v16 fun H18 =>
LdA 2 H18 (.pointer (some ⟨b1, 0, none⟩)) fun v19 =>
R (.returned v19) H18) (PanR R))
theorem L120_sound (h : L120 g a0 a1 H R) : SCalls Tryz.prog g 120 #[a0, a1] H R :=
  soundF (hn := (.n .e (.n .e (.n (.n .e (.n (.h 0 [6] [0, 1, 4, 5] .e .e) .e)) .e)))) Tryz.func120 h (by kernel_rfl)
def L121 (g : Gh) (a0 a1 a2 : Value) (H : Hp) (R : Rt) : Prop :=
New H (.cells (Value.cells a1) 55 (0, 0)) fun b1 H2 =>
New H2 (.cells (Value.cells a2) 55 (0, 0)) fun b3 H4 =>
New H4 (.cells #[(Value.int .i64 0), (.slice none 0 0)] 55 (0, 0)) fun b5 H6 =>
FAddr 0 (.pointer (some ⟨b1, 0, none⟩)) fun v7 =>
Ld H6 v7 fun v8 =>
Bin .num .shl (Value.int .i64 1) v8 fun v9 =>
MkSlice 4 1 1 (Value.bool false) H6 v9 v9 fun v10 H11 =>
∃ (I12 : Jt) (m13 : Mt), JE I12 [(Value.int .i64 0)] H11 ∧ ∀ w16 : Value, ∀ H15 : Hp, I12 [w16] H15 → ∀ gs14 : Fr,
LenS v10 fun v17 =>
Bin .num .lss w16 v17 fun v18 =>
Br v18 (
∀ J19 : Jt, (∀ H21 : Hp, (∀ gs20 : Fr,
Bin .num .add w16 (Value.int .i64 1) fun v22 =>
Back I12 m13 [v22] H21 [w16] H15) → J19 [] H21) →
Bin .num .shr w16 a0 fun v23 =>
Bin .num .rem v23 (Value.int .i64 2) fun v24 =>
Bin .num .eql v24 (Value.int .i64 1) fun v25 =>
Br v25 (
LdA 2 H15 (.pointer (some ⟨b3, 0, none⟩)) fun v26 =>
CallF Tryz.prog g 117 #[v26, w16] H15 (fun v27 H28 =>
IAddr 1 v10 w16 fun v29 =>
St 1 H28 v29 v27 fun H30 =>
JE J19 [] H30) (PanR R)) (
LdA 2 H15 (.pointer (some ⟨b1, 0, none⟩)) fun v31 =>
CallF Tryz.prog g 117 #[v31, w16] H15 (fun v32 H33 =>
IAddr 1 v10 w16 fun v34 =>
St 1 H33 v34 v32 fun H35 =>
JE J19 [] H35) (PanR R))) (
FAddr 0 (.pointer (some ⟨b1, 0, none⟩)) fun v36 =>
Ld H15 v36 fun v37 =>
CallF Tryz.prog g 37 #[v37, v10] H15 (fun v38 H39 =>
St 2 H39 (.pointer (some ⟨b5, 0, none⟩)) v38 fun H40 =>
LdA 2 H40 (.pointer (some ⟨b5, 0, none⟩)) fun v41 =>
R (.returned v41) H40) (PanR R))
theorem L121_sound (h : L121 g a0 a1 a2 H R) : SCalls Tryz.prog g 121 #[a0, a1, a2] H R :=
  soundF (hn := (.n .e (.n .e (.n (.n .e (.n (.h 0 [8] [0, 4, 5, 6, 7] (.n .e (.h 1 [] [0, 4, 5, 6, 7, 8] .e .e)) .e) .e)) .e)))) Tryz.func121 h (by kernel_rfl)
def L126 (g : Gh) (a0 a1 a2 : Value) (H : Hp) (R : Rt) : Prop :=
Nil a0 fun v1 =>
FAddr 0 v1 fun v2 =>
FAddr 1 v2 fun v3 =>
Ld H v3 fun v4 =>
CallF Tryz.prog g 158 #[v4, a1] H (fun v5 H6 =>
Ext 0 v5 fun v7 =>
Ext 1 v5 fun v8 =>
LenS v7 fun v9 =>
∃ (I10 : Jt) (m11 : Mt), JE I10 [(.slice none 0 0), (Value.int .i64 0)] H6 ∧ ∀ w14 w15 : Value, ∀ H13 : Hp, I10 [w14, w15] H13 → ∀ gs12 : Fr,
Bin .num .lss w15 v9 fun v16 =>
Br v16 (
∀ J17 : Jt, (∀ w20 : Value, ∀ H19 : Hp, (∀ gs18 : Fr,
Bin .num .add w15 (Value.int .i64 1) fun v21 =>
Back I10 m11 [w20, v21] H19 [w14, w15] H13) → J17 [w20] H19) →
IAddr 1 v7 w15 fun v22 =>
Ld H13 v22 fun v23 =>
Nil a0 fun v24 =>
FAddr 0 v24 fun v25 =>
CallF Tryz.prog g 104 #[v25, v23] H13 (fun v26 H27 =>
New H27 (.cells #[(Value.int .i64 0), (Value.int .u32 0), (Value.int .u32 0)] 103 (0, 0)) fun b28 H29 =>
St 3 H29 (.pointer (some ⟨b28, 0, none⟩)) v26 fun H30 =>
∀ J31 : Jt, (∀ w34 : Value, ∀ H33 : Hp, (∀ gs32 : Fr,
Br w34 (
JE J17 [w14] H33) (
LdA 3 H33 (.pointer (some ⟨b28, 0, none⟩)) fun v35 =>
Build Tryz.prog 186 [(0, v23), (1, v35)] fun v36 =>
New H33 (.cells #[(Value.int .u32 0), (Value.int .i64 0), (Value.int .u32 0), (Value.int .u32 0), (Value.int .u32 0), (Value.int .u32 0), (Value.int .u32 0), (Value.int .u32 0)] 186 (0, 0)) fun b37 H38 =>
St 8 H38 (.pointer (some ⟨b37, 0, none⟩)) v36 fun H39 =>
FAddr 1 (.pointer (some ⟨b28, 0, none⟩)) fun v40 =>
Ld H39 v40 fun v41 =>
CallF Tryz.prog g 159 #[a0, v41, a2] H39 (fun v42 H43 =>
Ext 0 v42 fun v44 =>
Ext 1 v42 fun v45 =>
FAddr 4 (.pointer (some ⟨b37, 0, none⟩)) fun v46 =>
St 1 H43 v46 v44 fun H47 =>
FAddr 5 (.pointer (some ⟨b37, 0, none⟩)) fun v48 =>
St 1 H47 v48 v45 fun H49 =>
FAddr 2 (.pointer (some ⟨b28, 0, none⟩)) fun v50 =>
Ld H49 v50 fun v51 =>
CallF Tryz.prog g 159 #[a0, v51, a2] H49 (fun v52 H53 =>
Ext 0 v52 fun v54 =>
Ext 1 v52 fun v55 =>
FAddr 6 (.pointer (some ⟨b37, 0, none⟩)) fun v56 =>
St 1 H53 v56 v54 fun H57 =>
FAddr 7 (.pointer (some ⟨b37, 0, none⟩)) fun v58 =>
St 1 H57 v58 v55 fun H59 =>
LdA 8 H59 (.pointer (some ⟨b37, 0, none⟩)) fun v60 =>
BuildSl Tryz.prog 182 1 [(0, v60)] H59 fun v61 H62 =>
App Tryz.prog 186 8 40 (.agg #[(Value.int .u32 0), (Value.int .i64 0), (Value.int .u32 0), (Value.int .u32 0), (Value.int .u32 0), (Value.int .u32 0), (Value.int .u32 0), (Value.int .u32 0)]) H62 w14 v61 fun v65 H66 =>
JE J17 [v65] H66) (PanR R)) (PanR R))) → J31 [w34] H33) →
DR H30 fun R67 =>
Nil a0 fun v68 =>
FAddr 0 v68 fun v69 =>
FAddr 1 (.pointer (some ⟨b28, 0, none⟩)) fun v70 =>
Ld R67 v70 fun v71 =>
∀ F72 : Hp,
CallF Tryz.prog (g.add F72) 104 #[v69, v71] H30 (fun v73 H74 =>
Ent H74 R67 ∧
Fld 0 v73 fun v75 =>
Bin .num .neq v75 a2 fun v76 =>
Br v76 (
Nil a0 fun v77 =>
FAddr 0 v77 fun v78 =>
FAddr 2 (.pointer (some ⟨b28, 0, none⟩)) fun v79 =>
Ld R67 v79 fun v80 =>
∀ F81 : Hp,
CallF Tryz.prog (g.add F81) 104 #[v78, v80] H74 (fun v82 H83 =>
Ent H83 R67 ∧
Fld 0 v82 fun v84 =>
Bin .num .neq v84 a2 fun v85 =>
Pick (Value.bool true) v85 (Value.bool false) fun v86 =>
JE J31 [v86] H83) NoKP) (
JE J31 [(Value.bool false)] H74)) NoKP) (PanR R)) (
R (.returned w14) H13)) (PanR R)
theorem L126_sound (h : L126 g a0 a1 a2 H R) : SCalls Tryz.prog g 126 #[a0, a1, a2] H R :=
  soundF (hn := (.n .e (.n .e (.n .e (.n (.n .e (.n (.h 0 [7, 26] [0, 2, 24, 25] (.n .e (.n .e (.h 1 [7] [0, 2, 24, 25, 26] (.n (.n .e (.n .e (.n (.h 1 [54] [0, 2, 7, 11, 12, 24, 25, 26] (.h 1 [] [] (.h 0 [0] [] (.h 0 [1] [] (.h 0 [2] [] (.h 0 [3] [] (.h 0 [4] [] (.h 0 [7] [] (.h 0 [5] [] (.h 0 [6] [] (.h 0 [8] [] (.h 2 [9] [] (.h 0 [10] [] (.h 0 [11] [] (.h 0 [12] [] (.h 0 [13] [] (.h 0 [14] [] (.h 0 [17] [] (.h 0 [15] [] (.h 0 [16] [] (.h 0 [18] [] (.h 0 [19] [] .e .e) .e) .e) .e) .e) .e) .e) .e) .e) .e) (.h 0 [10] [] (.h 0 [11] [] (.h 0 [12] [] (.h 0 [13] [] (.h 0 [14] [] (.h 0 [15] [] (.h 0 [16] [] (.h 0 [17] [] (.h 0 [18] [] (.h 3 [19] [] .e .e) .e) .e) .e) .e) .e) .e) .e) .e) .e)) .e) .e) .e) .e) .e) .e) .e) .e) .e) .e) .e) .e))) .e) .e))) .e) .e)) .e))))) Tryz.func126 h (by kernel_rfl)
def L127 (g : Gh) (a0 a1 a2 : Value) (H : Hp) (R : Rt) : Prop :=
MkMap H fun v1 H2 =>
LenS a2 fun v3 =>
∃ (I4 : Jt) (m5 : Mt), JE I4 [(Value.int .i64 0)] H2 ∧ ∀ w8 : Value, ∀ H7 : Hp, I4 [w8] H7 → ∀ gs6 : Fr,
Bin .num .lss w8 v3 fun v9 =>
Br v9 (
IAddr 8 a2 w8 fun v10 =>
LdA 8 H7 v10 fun v11 =>
New H7 (.cells #[(Value.int .u32 0), (Value.int .i64 0), (Value.int .u32 0), (Value.int .u32 0), (Value.int .u32 0), (Value.int .u32 0), (Value.int .u32 0), (Value.int .u32 0)] 186 (0, 0)) fun b12 H13 =>
St 8 H13 (.pointer (some ⟨b12, 0, none⟩)) v11 fun H14 =>
FAddr 4 (.pointer (some ⟨b12, 0, none⟩)) fun v15 =>
Ld H14 v15 fun v16 =>
FAddr 6 (.pointer (some ⟨b12, 0, none⟩)) fun v17 =>
Ld H14 v17 fun v18 =>
Build Tryz.prog 103 [(0, a1), (1, v16), (2, v18)] fun v19 =>
FAddr 5 (.pointer (some ⟨b12, 0, none⟩)) fun v20 =>
Ld H14 v20 fun v21 =>
FAddr 7 (.pointer (some ⟨b12, 0, none⟩)) fun v22 =>
Ld H14 v22 fun v23 =>
Build Tryz.prog 103 [(0, a1), (1, v21), (2, v23)] fun v24 =>
BuildSl Tryz.prog 220 2 [(0, v19), (1, v24)] H14 fun v25 H26 =>
LenS v25 fun v27 =>
∃ (I28 : Jt) (m29 : Mt), JE I28 [(Value.int .i64 0)] H26 ∧ ∀ w32 : Value, ∀ H31 : Hp, I28 [w32] H31 → ∀ gs30 : Fr,
Bin .num .lss w32 v27 fun v33 =>
Br v33 (
∀ J34 : Jt, (∀ H36 : Hp, (∀ gs35 : Fr,
Bin .num .add w32 (Value.int .i64 1) fun v37 =>
Back I28 m29 [v37] H36 [w32] H31) → J34 [] H36) →
IAddr 3 v25 w32 fun v38 =>
LdA 3 H31 v38 fun v39 =>
New H31 (.cells #[(Value.int .i64 0), (Value.int .u32 0), (Value.int .u32 0)] 103 (0, 0)) fun b40 H41 =>
St 3 H41 (.pointer (some ⟨b40, 0, none⟩)) v39 fun H42 =>
DR H42 fun R43 =>
Nil a0 fun v44 =>
FAddr 0 v44 fun v45 =>
FAddr 1 v45 fun v46 =>
Ld R43 v46 fun v47 =>
LdA 3 R43 (.pointer (some ⟨b40, 0, none⟩)) fun v48 =>
CallF Tryz.prog g 99 #[v47, v48] H42 (fun v49 H50 =>
Ent H50 R43 ∧
Ext 0 v49 fun v51 =>
Ext 1 v49 fun v52 =>
Un .not v52 fun v53 =>
Grp v53 true (fun t54 =>
FAddr 1 (.pointer (some ⟨b40, 0, none⟩)) fun v55 =>
Ld H50 v55 fun v56 =>
FAddr 2 (.pointer (some ⟨b40, 0, none⟩)) fun v57 =>
Ld H50 v57 fun v58 =>
Bin .num .neq v56 v58 fun v59 =>
(H50 = H50 ∧ v59 = Value.bool t54)) (fun t54 => (Value.bool false) = Value.bool t54) fun t54 => ∀ gs60 : Fr,
Br (Value.bool t54) (
RawR Tryz.prog g 10 (regO Tryz.f127 10) [7, 11] [v1, (.pointer (some ⟨b40, 0, none⟩))] H50 fun H62 => ∀ gs61 : Fr,
JE J34 [] H62) (
JE J34 [] H50)) NoKP) (
Bin .num .add w8 (Value.int .i64 1) fun v63 =>
Back I4 m5 [v63] H31 [w8] H7)) (
LenM H7 v1 fun v64 =>
R (.returned v64) H7)
theorem L127_sound (h : L127 g a0 a1 a2 H R) : SCalls Tryz.prog g 127 #[a0, a1, a2] H R :=
  soundF (hn := (.n .e (.n .e (.n (.n .e (.n (.h 0 [17] [0, 1, 7, 15, 16] (.n .e (.n .e (.n (.n (.n .e (.n .e (.n (.h 0 [35] [0, 1, 7, 15, 16, 17, 33, 34] (.n .e (.n .e (.h 1 [] [0, 1, 7, 15, 16, 17, 33, 34, 35] (.n (.n .e (.n (.h 0 [0, 1, 2, 3, 4, 5, 6, 7, 8, 9, 10, 11] [] .e .e) (.n (.h 0 [] [1] .e .e) (.n (.h 9 [7, 11] [] .e .e) .e)))) .e) .e))) .e) .e))) .e) .e))) .e) .e)) .e)))) Tryz.func127 h (by kernel_rfl)
def L128 (g : Gh) (a0 a1 a2 a3 : Value) (H : Hp) (R : Rt) : Prop :=
Bin .num .eql a2 a3 fun v1 =>
Br v1 (
R (.returned a2) H) (
Build Tryz.prog 103 [(0, a1), (1, a2), (2, a3)] fun v2 =>
New H (.cells #[(Value.int .i64 0), (Value.int .u32 0), (Value.int .u32 0)] 103 (0, 0)) fun b3 H4 =>
St 3 H4 (.pointer (some ⟨b3, 0, none⟩)) v2 fun H5 =>
DR H5 fun R6 =>
Nil a0 fun v7 =>
FAddr 1 v7 fun v8 =>
Ld R6 v8 fun v9 =>
LdA 3 R6 (.pointer (some ⟨b3, 0, none⟩)) fun v10 =>
CallF Tryz.prog g 99 #[v9, v10] H5 (fun v11 H12 =>
Ent H12 R6 ∧
Ext 0 v11 fun v13 =>
Ext 1 v11 fun v14 =>
Br v14 (
R (.returned v13) H12) (
LdA 3 H12 (.pointer (some ⟨b3, 0, none⟩)) fun v15 =>
CallF Tryz.prog g 50 #[a0, v15] H12 (fun v16 H17 =>
R (.returned v16) H17) (PanR R))) NoKP)
theorem L128_sound (h : L128 g a0 a1 a2 a3 H R) : SCalls Tryz.prog g 128 #[a0, a1, a2, a3] H R :=
  soundF (hn := (.n .e (.n .e (.n .e (.n (.n (.h 0 [0, 1, 2, 3, 4, 5, 6, 7, 8, 9, 10] [] .e .e) .e) .e))))) Tryz.func128 h (by kernel_rfl)
def L129 (g : Gh) (a0 a1 a2 : Value) (H : Hp) (R : Rt) : Prop :=
New H (.cells (Value.cells a2) 103 (0, 0)) fun b1 H2 =>
Bin .ptr .eql a0 (.pointer none) fun v3 =>
Br v3 (
R (.returned (Value.int .i64 10)) H2) (
LdA 3 H2 (.pointer (some ⟨b1, 0, none⟩)) fun v4 =>
CallF Tryz.prog g 139 #[a0, v4] H2 (fun v5 H6 =>
Bin .num .neq v5 (Value.int .i64 0) fun v7 =>
Br v7 (
R (.returned v5) H6) (
CallF Tryz.prog g 140 #[a0, a1] H6 (fun v8 H9 =>
Bin .num .neq v8 (Value.int .i64 0) fun v10 =>
Br v10 (
R (.returned v8) H9) (
DR H9 fun R11 =>
Nil a0 fun v12 =>
FAddr 1 v12 fun v13 =>
Ld R11 v13 fun v14 =>
LdA 3 R11 (.pointer (some ⟨b1, 0, none⟩)) fun v15 =>
IAddr 5 v14 a1 fun v16 =>
FAddr 0 v16 fun v17 =>
St 3 H9 v17 v15 fun H18 =>
R (.returned (Value.int .i64 0)) H18)) (PanR R))) (PanR R))
theorem L129_sound (h : L129 g a0 a1 a2 H R) : SCalls Tryz.prog g 129 #[a0, a1, a2] H R :=
  soundF (hn := (.n .e (.n .e (.n .e (.n .e (.n (.h 0 [0, 1, 2, 3, 4, 5, 6, 7, 8] [] .e .e) .e)))))) Tryz.func129 h (by kernel_rfl)
def L134 (g : Gh) (a0 a1 : Value) (H : Hp) (R : Rt) : Prop :=
Ld H a0 fun v1 =>
CallF Tryz.prog g 90 #[v1] H (fun v2 H3 =>
Ld H3 a0 fun v4 =>
Nil v4 fun v5 =>
FAddr 2 v5 fun v6 =>
Ld H3 v6 fun v7 =>
St 1 H3 a1 v7 fun H8 =>
R (.returned (.tuple #[])) H8) (PanR R)
theorem L134_soundD (h : L134 g a0 a1 H R) : SCallsD Tryz.prog g 134 #[a0, a1] H R :=
  soundD (hn := .e) Tryz.func134 h (by kernel_rfl)
def L135 (g : Gh) (a0 a1 : Value) (H : Hp) (R : Rt) : Prop :=
CallF Tryz.prog g 84 #[a0] H (fun v1 H2 =>
CallF Tryz.prog g 84 #[a1] H2 (fun v3 H4 =>
Bin .num .eql v1 (Value.int .i64 4) fun v5 =>
Grp v5 false (fun t6 =>
Bin .num .eql v3 (Value.int .i64 4) fun v7 =>
(H4 = H4 ∧ v7 = Value.bool t6)) (fun t6 => (Value.bool true) = Value.bool t6) fun t6 => ∀ gs8 : Fr,
Grp (Value.bool t6) false (fun t9 =>
LenS a0 fun v10 =>
LenS a1 fun v11 =>
Bin .num .neq v10 v11 fun v12 =>
(H4 = H4 ∧ v12 = Value.bool t9)) (fun t9 => (Value.bool true) = Value.bool t9) fun t9 => ∀ gs13 : Fr,
Br (Value.bool t9) (
R (.returned (Value.int .i64 4)) H4) (
MaxI v1 v3 fun v14 =>
R (.returned v14) H4)) (PanR R)) (PanR R)
theorem L135_sound (h : L135 g a0 a1 H R) : SCalls Tryz.prog g 135 #[a0, a1] H R :=
  soundF (hn := (.n .e (.n .e (.n (.n (.h 0 [] [1] .e .e) .e) .e)))) Tryz.func135 h (by kernel_rfl)
def L136 (g : Gh) (a0 a1 : Value) (H : Hp) (R : Rt) : Prop :=
LenS a0 fun v1 =>
∃ (I2 : Jt) (m3 : Mt), JE I2 [(Value.int .i64 0)] H ∧ ∀ w6 : Value, ∀ H5 : Hp, I2 [w6] H5 → ∀ gs4 : Fr,
Bin .num .lss w6 v1 fun v7 =>
Br v7 (
IAddr 1 a0 w6 fun v8 =>
Ld H5 v8 fun v9 =>
Bin .num .eql a1 v9 fun v10 =>
Br v10 (
R (.returned w6) H5) (
Bin .num .add w6 (Value.int .i64 1) fun v11 =>
Back I2 m3 [v11] H5 [w6] H5)) (
R (.returned (Value.int .i64 (-1))) H5)
theorem L136_sound (h : L136 g a0 a1 H R) : SCalls Tryz.prog g 136 #[a0, a1] H R :=
  soundF (hn := (.n .e (.n (.n .e (.n (.h 0 [8] [0, 1, 7] .e .e) .e)) .e))) Tryz.func136 h (by kernel_rfl)
def L137 (g : Gh) (a0 a1 : Value) (H : Hp) (R : Rt) : Prop :=
New H (.cells #[(Value.int .i64 0), (Value.int .u32 0), (Value.int .u32 0)] 103 (0, 0)) fun b1 H2 =>
Bin .ptr .eql a0 (.pointer none) fun v3 =>
Br v3 (
Build Tryz.prog 103 [] fun v4 =>
St 3 H2 (.pointer (some ⟨b1, 0, none⟩)) v4 fun H5 =>
LdA 3 H5 (.pointer (some ⟨b1, 0, none⟩)) fun v6 =>
R (.returned (.tuple #[v6, (Value.int .i64 10)])) H5) (
CallF Tryz.prog g 166 #[a0, a1] H2 (fun v7 H8 =>
Un .not v7 fun v9 =>
Br v9 (
Build Tryz.prog 103 [] fun v10 =>
St 3 H8 (.pointer (some ⟨b1, 0, none⟩)) v10 fun H11 =>
LdA 3 H11 (.pointer (some ⟨b1, 0, none⟩)) fun v12 =>
R (.returned (.tuple #[v12, (Value.int .i64 3)])) H11) (
Nil a0 fun v13 =>
FAddr 1 v13 fun v14 =>
Ld H8 v14 fun v15 =>
IAddr 5 v15 a1 fun v16 =>
FAddr 0 v16 fun v17 =>
LdA 3 H8 v17 fun v18 =>
St 3 H8 (.pointer (some ⟨b1, 0, none⟩)) v18 fun H19 =>
LdA 3 H19 (.pointer (some ⟨b1, 0, none⟩)) fun v20 =>
R (.returned (.tuple #[v20, (Value.int .i64 0)])) H19)) (PanR R))
theorem L137_sound (h : L137 g a0 a1 H R) : SCalls Tryz.prog g 137 #[a0, a1] H R :=
  soundF (hn := .e) Tryz.func137 h (by kernel_rfl)
def L138 (g : Gh) (a0 a1 : Value) (H : Hp) (R : Rt) : Prop :=
Bin .ptr .eql a0 (.pointer none) fun v1 =>
Br v1 (
R (.returned (Value.int .i64 10)) H) (
Bin .num .lss a1 (Value.int .i64 0) fun v2 =>
Grp v2 false (fun t3 =>
Nil a0 fun v4 =>
FAddr 0 v4 fun v5 =>
Ld H v5 fun v6 =>
LenS v6 fun v7 =>
Bin .num .geq a1 v7 fun v8 =>
(H = H ∧ v8 = Value.bool t3)) (fun t3 => (Value.bool true) = Value.bool t3) fun t3 => ∀ gs9 : Fr,
Br (Value.bool t3) (
R (.returned (Value.int .i64 2)) H) (
R (.returned (Value.int .i64 0)) H))
theorem L138_sound (h : L138 g a0 a1 H R) : SCalls Tryz.prog g 138 #[a0, a1] H R :=
  soundF (hn := (.n .e (.n (.n (.n .e (.n .e (.n (.h 0 [] [1] .e .e) .e))) .e) .e))) Tryz.func138 h (by kernel_rfl)
def L139 (g : Gh) (a0 a1 : Value) (H : Hp) (R : Rt) : Prop :=
New H (.cells (Value.cells a1) 103 (0, 0)) fun b1 H2 =>
FAddr 0 (.pointer (some ⟨b1, 0, none⟩)) fun v3 =>
Ld H2 v3 fun v4 =>
Bin .num .lss v4 (Value.int .i64 0) fun v5 =>
Grp v5 false (fun t6 =>
FAddr 0 (.pointer (some ⟨b1, 0, none⟩)) fun v7 =>
Ld H2 v7 fun v8 =>
Bin .num .geq v8 (Value.int .i64 64) fun v9 =>
(H2 = H2 ∧ v9 = Value.bool t6)) (fun t6 => (Value.bool true) = Value.bool t6) fun t6 => ∀ gs10 : Fr,
Br (Value.bool t6) (
R (.returned (Value.int .i64 2)) H2) (
∀ J11 : Jt, (∀ w14 : Value, ∀ H13 : Hp, (∀ gs12 : Fr,
Br w14 (
R (.returned (Value.int .i64 3)) H13) (
R (.returned (Value.int .i64 0)) H13)) → J11 [w14] H13) →
FAddr 1 (.pointer (some ⟨b1, 0, none⟩)) fun v15 =>
Ld H2 v15 fun v16 =>
CallF Tryz.prog g 166 #[a0, v16] H2 (fun v17 H18 =>
Un .not v17 fun v19 =>
Split v19 false (
FAddr 2 (.pointer (some ⟨b1, 0, none⟩)) fun v20 =>
Ld H18 v20 fun v21 =>
CallF Tryz.prog g 166 #[a0, v21] H18 (fun v22 H23 =>
Un .not v22 fun v24 =>
Pick (Value.bool false) (Value.bool true) v24 fun v25 =>
JE J11 [v25] H23) (PanR R)) (
Pick (Value.bool true) (Value.bool true) undef fun v26 =>
JE J11 [v26] H18)) (PanR R))
theorem L139_sound (h : L139 g a0 a1 H R) : SCalls Tryz.prog g 139 #[a0, a1] H R :=
  soundF (hn := (.n .e (.n (.n (.n (.h 0 [] [1] .e .e) (.n .e (.h 1 [14] [] .e .e))) .e) .e))) Tryz.func139 h (by kernel_rfl)
def L140 (g : Gh) (a0 a1 : Value) (H : Hp) (R : Rt) : Prop :=
∀ J1 : Jt, (∀ w4 : Value, ∀ H3 : Hp, (∀ gs2 : Fr,
Br w4 (
R (.returned (Value.int .i64 3)) H3) (
R (.returned (Value.int .i64 0)) H3)) → J1 [w4] H3) →
Bin .num .leq a1 (Value.int .u32 1) fun v5 =>
Split v5 false (
CallF Tryz.prog g 166 #[a0, a1] H (fun v6 H7 =>
Un .not v6 fun v8 =>
Pick (Value.bool false) (Value.bool true) v8 fun v9 =>
JE J1 [v9] H7) (PanR R)) (
Pick (Value.bool true) (Value.bool true) undef fun v10 =>
JE J1 [v10] H)
theorem L140_sound (h : L140 g a0 a1 H R) : SCalls Tryz.prog g 140 #[a0, a1] H R :=
  soundF (hn := (.n .e (.n (.h 1 [12] [] .e .e) .e))) Tryz.func140 h (by kernel_rfl)
def L141 (g : Gh) (a0 : Value) (H : Hp) (R : Rt) : Prop :=
DR H fun R1 =>
Nil a0 fun v2 =>
FAddr 2 v2 fun v3 =>
Ld R1 v3 fun v4 =>
CallF Tryz.prog g 114 #[a0] H (fun v5 H6 =>
Ent H6 R1 ∧
CallF Tryz.prog g 142 #[v5, v4] H6 (fun v7 H8 =>
R (.returned v7) H8) NoKP) NoKP
theorem L141_sound (h : L141 g a0 H R) : SCalls Tryz.prog g 141 #[a0] H R :=
  soundF (hn := (.n .e (.n (.h 0 [0, 2, 3, 4, 5, 1, 6, 7] [] .e .e) .e))) Tryz.func141 h (by kernel_rfl)
def L142 (g : Gh) (a0 a1 : Value) (H : Hp) (R : Rt) : Prop :=
CallF Tryz.prog g 143 #[a0] H (fun v1 H2 =>
LenS a1 fun v3 =>
∃ (I4 : Jt) (m5 : Mt), JE I4 [(.slice none 0 0), v1, (Value.int .i64 0)] H2 ∧ ∀ w8 w9 w10 : Value, ∀ H7 : Hp, I4 [w8, w9, w10] H7 → ∀ gs6 : Fr,
Bin .num .lss w10 v3 fun v11 =>
Br v11 (
IAddr 1 a1 w10 fun v12 =>
Ld H7 v12 fun v13 =>
CallF Tryz.prog g 167 #[w9, v13] H7 (fun v14 H15 =>
BuildSl Tryz.prog 198 1 [(0, v14)] H15 fun v16 H17 =>
App Tryz.prog 49 1 24 (.slice none 0 0) H17 w8 v16 fun v20 H21 =>
CallF Tryz.prog g 168 #[w9, v13] H21 (fun v22 H23 =>
Bin .num .add w10 (Value.int .i64 1) fun v24 =>
Back I4 m5 [v20, v22, v24] H23 [w8, w9, w10] H7) (PanR R)) (PanR R)) (
R (.returned w8) H7)) (PanR R)
theorem L142_sound (h : L142 g a0 a1 H R) : SCalls Tryz.prog g 142 #[a0, a1] H R :=
  soundF (hn := (.n .e (.n .e (.n .e (.n (.n .e (.n (.h 0 [5, 6, 13] [11, 12] .e .e) .e)) .e))))) Tryz.func142 h (by kernel_rfl)
def L143 (g : Gh) (a0 : Value) (H : Hp) (R : Rt) : Prop :=
LenS a0 fun v1 =>
∃ (I2 : Jt) (m3 : Mt), JE I2 [(.slice none 0 0), (Value.int .i64 0)] H ∧ ∀ w6 w7 : Value, ∀ H5 : Hp, I2 [w6, w7] H5 → ∀ gs4 : Fr,
Bin .num .lss w7 v1 fun v8 =>
Br v8 (
∀ J9 : Jt, (∀ w12 : Value, ∀ H11 : Hp, (∀ gs10 : Fr,
Bin .num .add w7 (Value.int .i64 1) fun v13 =>
Back I2 m3 [w12, v13] H11 [w6, w7] H5) → J9 [w12] H11) →
IAddr 2 a0 w7 fun v14 =>
LdA 2 H5 v14 fun v15 =>
New H5 (.cells #[(Value.int .i64 0), (.slice none 0 0)] 55 (0, 0)) fun b16 H17 =>
St 2 H17 (.pointer (some ⟨b16, 0, none⟩)) v15 fun H18 =>
LdA 2 H18 (.pointer (some ⟨b16, 0, none⟩)) fun v19 =>
CallF Tryz.prog g 169 #[w6, v19] H18 (fun v20 H21 =>
Un .not v20 fun v22 =>
Br v22 (
LdA 2 H21 (.pointer (some ⟨b16, 0, none⟩)) fun v23 =>
BuildSl Tryz.prog 49 1 [(0, v23)] H21 fun v24 H25 =>
App Tryz.prog 55 2 32 (.agg #[(Value.int .i64 0), (.slice none 0 0)]) H25 w6 v24 fun v28 H29 =>
JE J9 [v28] H29) (
JE J9 [w6] H21)) (PanR R)) (
R (.returned w6) H5)
theorem L143_sound (h : L143 g a0 H R) : SCalls Tryz.prog g 143 #[a0] H R :=
  soundF (hn := (.n .e (.n .e (.n (.n .e (.n (.h 0 [3, 8] [6, 7] (.n .e (.n .e (.h 1 [3] [6, 7, 8] .e .e))) .e) .e)) .e)))) Tryz.func143 h (by kernel_rfl)
def L144 (g : Gh) (a0 a1 : Value) (H : Hp) (R : Rt) : Prop :=
CallF Tryz.prog g 142 #[a0, a1] H (fun v1 H2 =>
LenS v1 fun v3 =>
∃ (I4 : Jt) (m5 : Mt), JE I4 [(Value.int .i64 0), (Value.int .i64 0)] H2 ∧ ∀ w8 w9 : Value, ∀ H7 : Hp, I4 [w8, w9] H7 → ∀ gs6 : Fr,
Bin .num .lss w9 v3 fun v10 =>
Br v10 (
IAddr 1 v1 w9 fun v11 =>
Ld H7 v11 fun v12 =>
LenS v12 fun v13 =>
Bin .num .add w8 v13 fun v14 =>
Bin .num .add w9 (Value.int .i64 1) fun v15 =>
Back I4 m5 [v14, v15] H7 [w8, w9] H7) (
R (.returned w8) H7)) (PanR R)
theorem L144_sound (h : L144 g a0 a1 H R) : SCalls Tryz.prog g 144 #[a0, a1] H R :=
  soundF (hn := (.n .e (.n .e (.n (.n .e (.n (.h 0 [5, 12] [10, 11] .e .e) .e)) .e)))) Tryz.func144 h (by kernel_rfl)
def L145 (g : Gh) (a0 a1 : Value) (H : Hp) (R : Rt) : Prop :=
New H (.cells #[(Value.int .i64 0), (.slice none 0 0)] 55 (0, 0)) fun b1 H2 =>
Bin .num .shl (Value.int .i64 1) a0 fun v3 =>
MkSlice 4 1 1 (Value.bool false) H2 v3 v3 fun v4 H5 =>
∃ (I6 : Jt) (m7 : Mt), JE I6 [(Value.int .i64 0)] H5 ∧ ∀ w10 : Value, ∀ H9 : Hp, I6 [w10] H9 → ∀ gs8 : Fr,
LenS v4 fun v11 =>
Bin .num .lss w10 v11 fun v12 =>
Br v12 (
Bin .num .shr w10 a1 fun v13 =>
Bin .num .rem v13 (Value.int .i64 2) fun v14 =>
Bin .num .eql v14 (Value.int .i64 1) fun v15 =>
IAddr 1 v4 w10 fun v16 =>
St 1 H9 v16 v15 fun H17 =>
Bin .num .add w10 (Value.int .i64 1) fun v18 =>
Back I6 m7 [v18] H17 [w10] H9) (
CallF Tryz.prog g 37 #[a0, v4] H9 (fun v19 H20 =>
St 2 H20 (.pointer (some ⟨b1, 0, none⟩)) v19 fun H21 =>
LdA 2 H21 (.pointer (some ⟨b1, 0, none⟩)) fun v22 =>
R (.returned v22) H21) (PanR R))
theorem L145_sound (h : L145 g a0 a1 H R) : SCalls Tryz.prog g 145 #[a0, a1] H R :=
  soundF (hn := (.n .e (.n .e (.n (.n .e (.n (.h 0 [6] [0, 1, 4, 5] .e .e) .e)) .e)))) Tryz.func145 h (by kernel_rfl)
def L158 (g : Gh) (a0 a1 : Value) (H : Hp) (R : Rt) : Prop :=
CallF Tryz.prog g 138 #[a0, a1] H (fun v1 H2 =>
Bin .num .neq v1 (Value.int .i64 0) fun v3 =>
Br v3 (
R (.returned (.tuple #[(.slice none 0 0), v1])) H2) (
Nil a0 fun v4 =>
FAddr 0 v4 fun v5 =>
Ld H2 v5 fun v6 =>
IAddr 1 v6 a1 fun v7 =>
Ld H2 v7 fun v8 =>
CallF Tryz.prog g 187 #[v8] H2 (fun v9 H10 =>
CallF Tryz.prog g 186 #[v9] H10 (fun v11 H12 =>
R (.returned (.tuple #[v11, (Value.int .i64 0)])) H12) (PanR R)) (PanR R))) (PanR R)
theorem L158_sound (h : L158 g a0 a1 H R) : SCalls Tryz.prog g 158 #[a0, a1] H R :=
  soundF (hn := .e) Tryz.func158 h (by kernel_rfl)
def L159 (g : Gh) (a0 a1 a2 : Value) (H : Hp) (R : Rt) : Prop :=
Nil a0 fun v1 =>
FAddr 0 v1 fun v2 =>
CallF Tryz.prog g 104 #[v2, a1] H (fun v3 H4 =>
New H4 (.cells #[(Value.int .i64 0), (Value.int .u32 0), (Value.int .u32 0)] 103 (0, 0)) fun b5 H6 =>
St 3 H6 (.pointer (some ⟨b5, 0, none⟩)) v3 fun H7 =>
FAddr 0 (.pointer (some ⟨b5, 0, none⟩)) fun v8 =>
Ld H7 v8 fun v9 =>
Bin .num .eql v9 a2 fun v10 =>
Br v10 (
FAddr 1 (.pointer (some ⟨b5, 0, none⟩)) fun v11 =>
Ld H7 v11 fun v12 =>
FAddr 2 (.pointer (some ⟨b5, 0, none⟩)) fun v13 =>
Ld H7 v13 fun v14 =>
R (.returned (.tuple #[v12, v14])) H7) (
R (.returned (.tuple #[a1, a1])) H7)) (PanR R)
theorem L159_sound (h : L159 g a0 a1 a2 H R) : SCalls Tryz.prog g 159 #[a0, a1, a2] H R :=
  soundF (hn := .e) Tryz.func159 h (by kernel_rfl)
def L166 (g : Gh) (a0 a1 : Value) (H : Hp) (R : Rt) : Prop :=
ConvI .i64 a1 fun v1 =>
Nil a0 fun v2 =>
FAddr 1 v2 fun v3 =>
Ld H v3 fun v4 =>
LenS v4 fun v5 =>
Bin .num .lss v1 v5 fun v6 =>
Grp v6 true (fun t7 =>
Nil a0 fun v8 =>
FAddr 1 v8 fun v9 =>
Ld H v9 fun v10 =>
IAddr 5 v10 a1 fun v11 =>
FAddr 3 v11 fun v12 =>
Ld H v12 fun v13 =>
(H = H ∧ v13 = Value.bool t7)) (fun t7 => (Value.bool false) = Value.bool t7) fun t7 => ∀ gs14 : Fr,
R (.returned (Value.bool t7)) H
theorem L166_sound (h : L166 g a0 a1 H R) : SCalls Tryz.prog g 166 #[a0, a1] H R :=
  soundF (hn := (.n .e (.n (.h 0 [] [1] .e .e) .e))) Tryz.func166 h (by kernel_rfl)
def L167 (g : Gh) (a0 a1 : Value) (H : Hp) (R : Rt) : Prop :=
LenS a0 fun v1 =>
∃ (I2 : Jt) (m3 : Mt), JE I2 [(.slice none 0 0), (Value.int .i64 0)] H ∧ ∀ w6 w7 : Value, ∀ H5 : Hp, I2 [w6, w7] H5 → ∀ gs4 : Fr,
Bin .num .lss w7 v1 fun v8 =>
Br v8 (
∀ J9 : Jt, (∀ w12 : Value, ∀ H11 : Hp, (∀ gs10 : Fr,
Bin .num .add w7 (Value.int .i64 1) fun v13 =>
Back I2 m3 [w12, v13] H11 [w6, w7] H5) → J9 [w12] H11) →
IAddr 2 a0 w7 fun v14 =>
LdA 2 H5 v14 fun v15 =>
New H5 (.cells #[(Value.int .i64 0), (.slice none 0 0)] 55 (0, 0)) fun b16 H17 =>
St 2 H17 (.pointer (some ⟨b16, 0, none⟩)) v15 fun H18 =>
LdA 2 H18 (.pointer (some ⟨b16, 0, none⟩)) fun v19 =>
CallF Tryz.prog g 118 #[v19, a1] H18 (fun v20 H21 =>
Br v20 (
LdA 2 H21 (.pointer (some ⟨b16, 0, none⟩)) fun v22 =>
BuildSl Tryz.prog 49 1 [(0, v22)] H21 fun v23 H24 =>
App Tryz.prog 55 2 32 (.agg #[(Value.int .i64 0), (.slice none 0 0)]) H24 w6 v23 fun v27 H28 =>
JE J9 [v27] H28) (
JE J9 [w6] H21)) (PanR R)) (
R (.returned w6) H5)
theorem L167_sound (h : L167 g a0 a1 H R) : SCalls Tryz.prog g 167 #[a0, a1] H R :=
  soundF (hn := (.n .e (.n .e (.n (.n .e (.n (.h 0 [5, 10] [1, 8, 9] (.n .e (.n .e (.h 1 [5] [1, 8, 9, 10] .e .e))) .e) .e)) .e)))) Tryz.func167 h (by kernel_rfl)
def L168 (g : Gh) (a0 a1 : Value) (H : Hp) (R : Rt) : Prop :=
LenS a0 fun v1 =>
∃ (I2 : Jt) (m3 : Mt), JE I2 [(.slice none 0 0), (Value.int .i64 0)] H ∧ ∀ w6 w7 : Value, ∀ H5 : Hp, I2 [w6, w7] H5 → ∀ gs4 : Fr,
Bin .num .lss w7 v1 fun v8 =>
Br v8 (
∀ J9 : Jt, (∀ w12 : Value, ∀ H11 : Hp, (∀ gs10 : Fr,
Bin .num .add w7 (Value.int .i64 1) fun v13 =>
Back I2 m3 [w12, v13] H11 [w6, w7] H5) → J9 [w12] H11) →
IAddr 2 a0 w7 fun v14 =>
LdA 2 H5 v14 fun v15 =>
New H5 (.cells #[(Value.int .i64 0), (.slice none 0 0)] 55 (0, 0)) fun b16 H17 =>
St 2 H17 (.pointer (some ⟨b16, 0, none⟩)) v15 fun H18 =>
DR H18 fun R19 =>
LdA 2 R19 (.pointer (some ⟨b16, 0, none⟩)) fun v20 =>
LdA 2 R19 (.pointer (some ⟨b16, 0, none⟩)) fun v21 =>
∀ F22 : Hp,
CallF Tryz.prog (g.add F22) 119 #[v20, a1, (Value.bool false)] H18 (fun v23 H24 =>
Ent H24 R19 ∧
∀ F25 : Hp,
CallF Tryz.prog (g.add F25) 119 #[v21, a1, (Value.bool true)] H24 (fun v26 H27 =>
Ent H27 R19 ∧
New H27 (.cells #[(Value.int .i64 0), (.slice none 0 0)] 55 (0, 0)) fun b28 H29 =>
New H29 (.cells #[(Value.int .i64 0), (.slice none 0 0)] 55 (0, 0)) fun b30 H31 =>
∀ F32 : Hp,
St 2 H31 (.pointer (some ⟨b28, 0, none⟩)) v23 fun H33 =>
Ent H33 R19 ∧
∀ F34 : Hp,
St 2 H33 (.pointer (some ⟨b30, 0, none⟩)) v26 fun H35 =>
∀ J36 : Jt, (∀ w39 : Value, ∀ H38 : Hp, (∀ gs37 : Fr,
LdA 2 H38 (.pointer (some ⟨b30, 0, none⟩)) fun v40 =>
CallF Tryz.prog g 169 #[w39, v40] H38 (fun v41 H42 =>
Un .not v41 fun v43 =>
Br v43 (
LdA 2 H42 (.pointer (some ⟨b30, 0, none⟩)) fun v44 =>
BuildSl Tryz.prog 49 1 [(0, v44)] H42 fun v45 H46 =>
App Tryz.prog 55 2 32 (.agg #[(Value.int .i64 0), (.slice none 0 0)]) H46 w39 v45 fun v49 H50 =>
JE J9 [v49] H50) (
JE J9 [w39] H42)) (PanR R)) → J36 [w39] H38) →
LdA 2 H35 (.pointer (some ⟨b28, 0, none⟩)) fun v51 =>
CallF Tryz.prog g 169 #[w6, v51] H35 (fun v52 H53 =>
Un .not v52 fun v54 =>
Br v54 (
LdA 2 H53 (.pointer (some ⟨b28, 0, none⟩)) fun v55 =>
BuildSl Tryz.prog 49 1 [(0, v55)] H53 fun v56 H57 =>
App Tryz.prog 55 2 32 (.agg #[(Value.int .i64 0), (.slice none 0 0)]) H57 w6 v56 fun v60 H61 =>
JE J36 [v60] H61) (
JE J36 [w6] H53)) (PanR R)) NoKP) NoKP) (
R (.returned w6) H5)
theorem L168_sound (h : L168 g a0 a1 H R) : SCalls Tryz.prog g 168 #[a0, a1] H R :=
  soundF (hn := (.n .e (.n .e (.n (.n .e (.n (.h 0 [5, 12] [1, 10, 11] (.n .e (.n .e (.h 1 [5] [1, 10, 11, 12] (.n (.n .e (.n (.h 1 [] [] (.h 0 [0] [] (.h 0 [1] [] (.h 0 [3] [] (.h 0 [4] [] (.h 1 [6] [] (.h 1 [7] [] (.h 0 [2] [] (.h 0 [5] [] (.h 0 [6] [] (.h 0 [7] [] (.h 0 [8] [] (.h 0 [9] [] .e .e) .e) .e) .e) .e) .e) .e) .e) .e) .e) .e) .e) .e) (.h 1 [5] [1, 9, 10, 11, 12] .e .e))) .e) .e))) .e) .e)) .e)))) Tryz.func168 h (by kernel_rfl)
def L169 (g : Gh) (a0 a1 : Value) (H : Hp) (R : Rt) : Prop :=
New H (.cells (Value.cells a1) 55 (0, 0)) fun b1 H2 =>
LenS a0 fun v3 =>
∃ (I4 : Jt) (m5 : Mt), JE I4 [(Value.int .i64 0)] H2 ∧ ∀ w8 : Value, ∀ H7 : Hp, I4 [w8] H7 → ∀ gs6 : Fr,
Bin .num .lss w8 v3 fun v9 =>
Br v9 (
IAddr 2 a0 w8 fun v10 =>
LdA 2 H7 v10 fun v11 =>
New H7 (.cells #[(Value.int .i64 0), (.slice none 0 0)] 55 (0, 0)) fun b12 H13 =>
St 2 H13 (.pointer (some ⟨b12, 0, none⟩)) v11 fun H14 =>
LdA 2 H14 (.pointer (some ⟨b1, 0, none⟩)) fun v15 =>
LdA 2 H14 (.pointer (some ⟨b12, 0, none⟩)) fun v16 =>
CallF Tryz.prog g 72 #[v15, v16] H14 (fun v17 H18 =>
Br v17 (
R (.returned (Value.bool true)) H18) (
Bin .num .add w8 (Value.int .i64 1) fun v19 =>
Back I4 m5 [v19] H18 [w8] H7)) (PanR R)) (
R (.returned (Value.bool false)) H7)
theorem L169_sound (h : L169 g a0 a1 H R) : SCalls Tryz.prog g 169 #[a0, a1] H R :=
  soundF (hn := (.n .e (.n (.n .e (.n (.h 0 [9] [3, 7, 8] .e .e) .e)) .e))) Tryz.func169 h (by kernel_rfl)
def L186 (g : Gh) (a0 : Value) (H : Hp) (R : Rt) : Prop :=
CallF Tryz.prog g 206 #[a0] H (fun v1 H2 =>
CallF Tryz.prog g 207 #[v1] H2 (fun v3 H4 =>
R (.returned v1) H4) (PanR R)) (PanR R)
theorem L186_sound (h : L186 g a0 H R) : SCalls Tryz.prog g 186 #[a0] H R :=
  soundF (hn := .e) Tryz.func186 h (by kernel_rfl)
def L187 (g : Gh) (a0 : Value) (H : Hp) (R : Rt) : Prop :=
New H (.cells (Value.cells a0) 147 (0, 0)) fun b1 H2 =>
R (.returned (.func (.func 208) #[] #[(.pointer (some ⟨b1, 0, none⟩))])) H2
theorem L187_sound (h : L187 g a0 H R) : SCalls Tryz.prog g 187 #[a0] H R :=
  soundF (hn := .e) Tryz.func187 h (by kernel_rfl)
def L206 (g : Gh) (a0 : Value) (H : Hp) (R : Rt) : Prop :=
CallF Tryz.prog g 219 #[(.slice none 0 0), a0] H (fun v1 H2 =>
R (.returned v1) H2) (PanR R)
theorem L206_sound (h : L206 g a0 H R) : SCalls Tryz.prog g 206 #[a0] H R :=
  soundF (hn := .e) Tryz.func206 h (by kernel_rfl)
def L207 (g : Gh) (a0 : Value) (H : Hp) (R : Rt) : Prop :=
LenS a0 fun v1 =>
ConvI .u64 v1 fun v2 =>
CallF Tryz.prog g 221 #[v2] H (fun v3 H4 =>
CallF Tryz.prog g 220 #[a0, (Value.int .i64 0), v1, v3] H4 (fun v5 H6 =>
R (.returned (.tuple #[])) H6) (PanR R)) (PanR R)
theorem L207_sound (h : L207 g a0 H R) : SCalls Tryz.prog g 207 #[a0] H R :=
  soundF (hn := .e) Tryz.func207 h (by kernel_rfl)
def L220 (g : Gh) (a0 a1 a2 a3 : Value) (H : Hp) (R : Rt) : Prop :=
∃ (I1 : Jt) (m2 : Mt), JE I1 [a1, a2, a3, (Value.bool true), (Value.bool true)] H ∧ ∀ w5 w6 w7 w8 w9 : Value, ∀ H4 : Hp, I1 [w5, w6, w7, w8, w9] H4 → ∀ gs3 : Fr,
Bin .num .sub w6 w5 fun v10 =>
Bin .num .leq v10 (Value.int .i64 12) fun v11 =>
Br v11 (
CallF Tryz.prog g 224 #[a0, w5, w6] H4 (fun v12 H13 =>
R (.returned (.tuple #[])) H13) (PanR R)) (
Bin .num .eql w7 (Value.int .i64 0) fun v14 =>
Br v14 (
CallF Tryz.prog g 225 #[a0, w5, w6] H4 (fun v15 H16 =>
R (.returned (.tuple #[])) H16) (PanR R)) (
∀ J17 : Jt, (∀ w20 : Value, ∀ H19 : Hp, (∀ gs18 : Fr,
CallF Tryz.prog g 227 #[a0, w5, w6] H19 (fun v21 H22 =>
Ext 0 v21 fun v23 =>
Ext 1 v21 fun v24 =>
∀ J25 : Jt, (∀ w28 w29 : Value, ∀ H27 : Hp, (∀ gs26 : Fr,
∀ J30 : Jt, (∀ H32 : Hp, (∀ gs31 : Fr,
∀ J33 : Jt, (∀ w36 : Value, ∀ H35 : Hp, (∀ gs34 : Fr,
Br w36 (
CallF Tryz.prog g 231 #[a0, w5, w6, w28] H35 (fun v37 H38 =>
Back I1 m2 [v37, w6, w20, w8, w9] H38 [w5, w6, w7, w8, w9] H4) (PanR R)) (
CallF Tryz.prog g 232 #[a0, w5, w6, w28] H35 (fun v39 H40 =>
Ext 0 v39 fun v41 =>
Ext 1 v39 fun v42 =>
Bin .num .sub v41 w5 fun v43 =>
Bin .num .sub w6 v41 fun v44 =>
Bin .num .quo v10 (Value.int .i64 8) fun v45 =>
Bin .num .lss v43 v44 fun v46 =>
Br v46 (
Bin .num .geq v43 v45 fun v47 =>
CallF Tryz.prog g 220 #[a0, w5, v41, w20] H40 (fun v48 H49 =>
Bin .num .add v41 (Value.int .i64 1) fun v50 =>
Back I1 m2 [v50, w6, w20, v47, v42] H49 [w5, w6, w7, w8, w9] H4) (PanR R)) (
Bin .num .geq v44 v45 fun v51 =>
Bin .num .add v41 (Value.int .i64 1) fun v52 =>
CallF Tryz.prog g 220 #[a0, v52, w6, w20] H40 (fun v53 H54 =>
Back I1 m2 [w5, v41, w20, v51, v42] H54 [w5, w6, w7, w8, w9] H4) (PanR R))) (PanR R))) → J33 [w36] H35) →
DR H32 fun R55 =>
Bin .num .gtr w5 (Value.int .i64 0) fun v56 =>
Br v56 (
Bin .num .sub w5 (Value.int .i64 1) fun v57 =>
IAddr 1 a0 v57 fun v58 =>
Ld R55 v58 fun v59 =>
IAddr 1 a0 w28 fun v60 =>
Ld R55 v60 fun v61 =>
∀ F62 : Hp,
CallF Tryz.prog (g.add F62) 230 #[v59, v61] H32 (fun v63 H64 =>
Un .not v63 fun v65 =>
Pick (Value.bool true) v65 (Value.bool false) fun v66 =>
JE J33 [v66] H64) NoKP) (
JE J33 [(Value.bool false)] H32)) → J30 [] H32) →
Grp w8 true (fun t67 =>
(H27 = H27 ∧ w9 = Value.bool t67)) (fun t67 => (Value.bool false) = Value.bool t67) fun t67 => ∀ gs68 : Fr,
Grp (Value.bool t67) true (fun t69 =>
Bin .num .eql w29 (Value.int .i64 1) fun v70 =>
(H27 = H27 ∧ v70 = Value.bool t69)) (fun t69 => (Value.bool false) = Value.bool t69) fun t69 => ∀ gs71 : Fr,
Br (Value.bool t69) (
CallF Tryz.prog g 229 #[a0, w5, w6] H27 (fun v72 H73 =>
Br v72 (
R (.returned (.tuple #[])) H73) (
JE J30 [] H73)) (PanR R)) (
JE J30 [] H27)) → J25 [w28, w29] H27) →
Bin .num .eql v24 (Value.int .i64 2) fun v74 =>
Br v74 (
CallF Tryz.prog g 228 #[a0, w5, w6] H22 (fun v75 H76 =>
Bin .num .sub w6 (Value.int .i64 1) fun v77 =>
Bin .num .sub v23 w5 fun v78 =>
Bin .num .sub v77 v78 fun v79 =>
JE J25 [v79, (Value.int .i64 1)] H76) (PanR R)) (
JE J25 [v23, v24] H22)) (PanR R)) → J17 [w20] H19) →
Un .not w8 fun v80 =>
Br v80 (
CallF Tryz.prog g 226 #[a0, w5, w6] H4 (fun v81 H82 =>
Bin .num .sub w7 (Value.int .i64 1) fun v83 =>
JE J17 [v83] H82) (PanR R)) (
JE J17 [w7] H4)))
theorem L220_sound (h : L220 g a0 a1 a2 a3 H R) : SCalls Tryz.prog g 220 #[a0, a1, a2, a3] H R :=
  soundF (hn := (.n .e (.n .e (.n (.h 0 [1, 2, 3, 8, 9] [0] (.n (.n .e (.n .e (.n .e (.h 1 [3] [0, 1, 2, 8, 9, 10] .e (.n .e (.h 1 [11, 12] [0, 1, 2, 3, 8, 9, 10] .e (.h 1 [] [0, 1, 2, 3, 8, 9, 10, 11] (.n (.h 0 [] [1] .e .e) .e) (.n (.h 1 [87] [0, 1, 2, 3, 8, 9, 10, 11] (.h 1 [] [] (.h 0 [0] [] (.h 0 [1] [] (.h 2 [2] [] (.h 0 [3] [] (.h 0 [4] [] (.h 0 [5] [] (.h 0 [6] [] (.h 0 [7] [] (.h 0 [8] [] (.h 0 [9] [] (.h 0 [10] [] (.h 0 [11] [] (.h 0 [12] [] (.h 0 [13] [] (.h 0 [14] [] .e .e) .e) .e) .e) .e) .e) .e) .e) .e) .e) .e) .e) (.h 0 [3] [] (.h 0 [4] [] (.h 0 [5] [] (.h 0 [6] [] (.h 0 [7] [] (.h 0 [8] [] (.h 0 [9] [] (.h 0 [10] [] (.h 0 [11] [] (.h 0 [12] [] (.h 0 [13] [] (.h 3 [14] [] .e .e) .e) .e) .e) .e) .e) .e) .e) .e) .e) .e) .e)) .e) .e) .e) .e) .e)))))))) .e) .e) .e)))) Tryz.func220 h (by kernel_rfl)
def L221 (g : Gh) (a0 : Value) (H : Hp) (R : Rt) : Prop :=
Br (Value.bool false) (
ConvI .u32 a0 fun v1 =>
CallF Tryz.prog g 233 #[v1] H (fun v2 H3 =>
R (.returned v2) H3) (PanR R)) (
CallF Tryz.prog g 234 #[a0] H (fun v4 H5 =>
R (.returned v4) H5) (PanR R))
theorem L221_sound (h : L221 g a0 H R) : SCalls Tryz.prog g 221 #[a0] H R :=
  soundF (hn := .e) Tryz.func221 h (by kernel_rfl)
def L224 (g : Gh) (a0 a1 a2 : Value) (H : Hp) (R : Rt) : Prop :=
Bin .num .add a1 (Value.int .i64 1) fun v1 =>
∃ (I2 : Jt) (m3 : Mt), JE I2 [v1] H ∧ ∀ w6 : Value, ∀ H5 : Hp, I2 [w6] H5 → ∀ gs4 : Fr,
Bin .num .lss w6 a2 fun v7 =>
Br v7 (
∃ (I8 : Jt) (m9 : Mt), JE I8 [w6] H5 ∧ ∀ w12 : Value, ∀ H11 : Hp, I8 [w12] H11 → ∀ gs10 : Fr,
∀ J13 : Jt, (∀ w16 : Value, ∀ H15 : Hp, (∀ gs14 : Fr,
Br w16 (
DR H15 fun R17 =>
Bin .num .sub w12 (Value.int .i64 1) fun v18 =>
Bin .num .sub w12 (Value.int .i64 1) fun v19 =>
IAddr 1 a0 v19 fun v20 =>
Ld R17 v20 fun v21 =>
IAddr 1 a0 w12 fun v22 =>
Ld R17 v22 fun v23 =>
IAddr 1 a0 w12 fun v24 =>
St 1 H15 v24 v21 fun H25 =>
IAddr 1 a0 v18 fun v26 =>
St 1 H25 v26 v23 fun H27 =>
Bin .num .sub w12 (Value.int .i64 1) fun v28 =>
Back I8 m9 [v28] H27 [w12] H11) (
Bin .num .add w6 (Value.int .i64 1) fun v29 =>
Back I2 m3 [v29] H15 [w6] H5)) → J13 [w16] H15) →
DR H11 fun R30 =>
Bin .num .gtr w12 a1 fun v31 =>
Br v31 (
IAddr 1 a0 w12 fun v32 =>
Ld R30 v32 fun v33 =>
Bin .num .sub w12 (Value.int .i64 1) fun v34 =>
IAddr 1 a0 v34 fun v35 =>
Ld R30 v35 fun v36 =>
∀ F37 : Hp,
CallF Tryz.prog (g.add F37) 230 #[v33, v36] H11 (fun v38 H39 =>
Pick (Value.bool true) v38 (Value.bool false) fun v40 =>
JE J13 [v40] H39) NoKP) (
JE J13 [(Value.bool false)] H11)) (
R (.returned (.tuple #[])) H5)
theorem L224_sound (h : L224 g a0 a1 a2 H R) : SCalls Tryz.prog g 224 #[a0, a1, a2] H R :=
  soundF (hn := (.n .e (.n (.h 0 [6] [0, 1, 2] (.n .e (.n (.n (.n .e (.n (.h 0 [7] [0, 1, 2, 6] (.n (.h 1 [30] [0, 1, 2, 6, 7] (.h 1 [] [] (.h 0 [0] [] (.h 0 [1] [] (.h 0 [2] [] (.h 2 [3] [] (.h 0 [4] [] (.h 0 [5] [] (.h 0 [6] [] (.h 0 [7] [] (.h 0 [8] [] (.h 0 [9] [] (.h 0 [10] [] (.h 0 [11] [] (.h 0 [12] [] (.h 0 [13] [] (.h 0 [14] [] .e .e) .e) .e) .e) .e) .e) .e) .e) .e) .e) .e) (.h 0 [4] [] (.h 0 [5] [] (.h 0 [6] [] (.h 0 [7] [] (.h 0 [8] [] (.h 0 [9] [] (.h 0 [10] [] (.h 0 [11] [] (.h 0 [12] [] (.h 0 [13] [] (.h 3 [14] [] .e .e) .e) .e) .e) .e) .e) .e) .e) .e) .e) .e)) .e) .e) .e) .e) .e) (.n (.n (.h 0 [0, 1, 2, 3, 4, 5, 6, 7, 8, 9, 10, 11, 12, 13, 14, 15, 16, 17] [] .e .e) .e) .e)) .e) .e)) .e) .e)) .e) .e))) Tryz.func224 h (by kernel_rfl)
def L225 (g : Gh) (a0 a1 a2 : Value) (H : Hp) (R : Rt) : Prop :=
Bin .num .sub a2 a1 fun v1 =>
Bin .num .sub v1 (Value.int .i64 1) fun v2 =>
Bin .num .quo v2 (Value.int .i64 2) fun v3 =>
∃ (I4 : Jt) (m5 : Mt), JE I4 [v3] H ∧ ∀ w8 : Value, ∀ H7 : Hp, I4 [w8] H7 → ∀ gs6 : Fr,
Bin .num .geq w8 (Value.int .i64 0) fun v9 =>
Br v9 (
CallF Tryz.prog g 235 #[a0, w8, v1, a1] H7 (fun v10 H11 =>
Bin .num .sub w8 (Value.int .i64 1) fun v12 =>
Back I4 m5 [v12] H11 [w8] H7) (PanR R)) (
Bin .num .sub v1 (Value.int .i64 1) fun v13 =>
∃ (I14 : Jt) (m15 : Mt), JE I14 [v13] H7 ∧ ∀ w18 : Value, ∀ H17 : Hp, I14 [w18] H17 → ∀ gs16 : Fr,
Bin .num .geq w18 (Value.int .i64 0) fun v19 =>
Br v19 (
DR H17 fun R20 =>
Bin .num .add a1 w18 fun v21 =>
Bin .num .add a1 w18 fun v22 =>
IAddr 1 a0 v22 fun v23 =>
Ld R20 v23 fun v24 =>
IAddr 1 a0 a1 fun v25 =>
Ld R20 v25 fun v26 =>
IAddr 1 a0 a1 fun v27 =>
St 1 H17 v27 v24 fun H28 =>
IAddr 1 a0 v21 fun v29 =>
St 1 H28 v29 v26 fun H30 =>
CallF Tryz.prog g 235 #[a0, (Value.int .i64 0), w18, a1] H30 (fun v31 H32 =>
Bin .num .sub w18 (Value.int .i64 1) fun v33 =>
Back I14 m15 [v33] H32 [w18] H17) (PanR R)) (
R (.returned (.tuple #[])) H17))
theorem L225_sound (h : L225 g a0 a1 a2 H R) : SCalls Tryz.prog g 225 #[a0, a1, a2] H R :=
  soundF (hn := (.n .e (.n .e (.n .e (.n (.n .e (.n (.h 0 [9] [0, 6, 7, 8] .e .e) .e)) (.n .e (.n (.h 0 [10] [0, 6, 7] (.n .e (.n (.n (.n (.h 0 [0, 1, 2, 3, 4, 5, 6, 7, 8, 9, 10, 11, 12, 13, 14, 15, 16, 17, 18, 19] [] .e .e) .e) .e) .e)) .e) .e))))))) Tryz.func225 h (by kernel_rfl)
def L226 (g : Gh) (a0 a1 a2 : Value) (H : Hp) (R : Rt) : Prop :=
Bin .num .sub a2 a1 fun v1 =>
Bin .num .geq v1 (Value.int .i64 8) fun v2 =>
Br v2 (
ConvI .u64 v1 fun v3 =>
New H (.cells #[(Value.int .u64 0)] 295 (0, 0)) fun b4 H5 =>
St 1 H5 (.pointer (some ⟨b4, 0, none⟩)) v3 fun H6 =>
CallF Tryz.prog g 236 #[v1] H6 (fun v7 H8 =>
Bin .num .quo v1 (Value.int .i64 4) fun v9 =>
Bin .num .mul v9 (Value.int .i64 2) fun v10 =>
Bin .num .add a1 v10 fun v11 =>
Bin .num .sub v11 (Value.int .i64 1) fun v12 =>
∃ (I13 : Jt) (m14 : Mt), JE I13 [v12] H8 ∧ ∀ w17 : Value, ∀ H16 : Hp, I13 [w17] H16 → ∀ gs15 : Fr,
Bin .num .quo v1 (Value.int .i64 4) fun v18 =>
Bin .num .mul v18 (Value.int .i64 2) fun v19 =>
Bin .num .add a1 v19 fun v20 =>
Bin .num .add v20 (Value.int .i64 1) fun v21 =>
Bin .num .leq w17 v21 fun v22 =>
Br v22 (
CallF Tryz.prog g 237 #[(.pointer (some ⟨b4, 0, none⟩))] H16 (fun v23 H24 =>
Bin .num .sub v7 (Value.int .u64 1) fun v25 =>
Bin .num .and v23 v25 fun v26 =>
ConvI .i64 v26 fun v27 =>
∀ J28 : Jt, (∀ w31 : Value, ∀ H30 : Hp, (∀ gs29 : Fr,
DR H30 fun R32 =>
Bin .num .add a1 w31 fun v33 =>
Bin .num .add a1 w31 fun v34 =>
IAddr 1 a0 v34 fun v35 =>
Ld R32 v35 fun v36 =>
IAddr 1 a0 w17 fun v37 =>
Ld R32 v37 fun v38 =>
IAddr 1 a0 w17 fun v39 =>
St 1 H30 v39 v36 fun H40 =>
IAddr 1 a0 v33 fun v41 =>
St 1 H40 v41 v38 fun H42 =>
Bin .num .add w17 (Value.int .i64 1) fun v43 =>
Back I13 m14 [v43] H42 [w17] H16) → J28 [w31] H30) →
Bin .num .geq v27 v1 fun v44 =>
Br v44 (
Bin .num .sub v27 v1 fun v45 =>
JE J28 [v45] H24) (
JE J28 [v27] H24)) (PanR R)) (
R (.returned (.tuple #[])) H16)) (PanR R)) (
R (.returned (.tuple #[])) H)
theorem L226_sound (h : L226 g a0 a1 a2 H R) : SCalls Tryz.prog g 226 #[a0, a1, a2] H R :=
  soundF (hn := (.n .e (.n .e (.n (.n .e (.n .e (.n .e (.n (.h 0 [9] [0, 1, 6, 7, 8] (.n .e (.n (.n (.n .e (.h 1 [10] [0, 1, 6, 7, 8, 9] .e (.h 0 [0, 1, 2, 3, 4, 5, 6, 7, 8, 9, 10, 11, 12, 13, 14, 15, 16, 17, 18, 19] [] .e .e))) .e) .e)) .e) .e)))) .e)))) Tryz.func226 h (by kernel_rfl)
def L227 (g : Gh) (a0 a1 a2 : Value) (H : Hp) (R : Rt) : Prop :=
Bin .num .sub a2 a1 fun v1 =>
New H (.cells #[(Value.int .i64 0)] 3 (0, 0)) fun b2 H3 =>
Bin .num .quo v1 (Value.int .i64 4) fun v4 =>
Bin .num .mul v4 (Value.int .i64 1) fun v5 =>
Bin .num .add a1 v5 fun v6 =>
Bin .num .quo v1 (Value.int .i64 4) fun v7 =>
Bin .num .mul v7 (Value.int .i64 2) fun v8 =>
Bin .num .add a1 v8 fun v9 =>
Bin .num .quo v1 (Value.int .i64 4) fun v10 =>
Bin .num .mul v10 (Value.int .i64 3) fun v11 =>
Bin .num .add a1 v11 fun v12 =>
∀ J13 : Jt, (∀ w16 : Value, ∀ H15 : Hp, (∀ gs14 : Fr,
Ld H15 (.pointer (some ⟨b2, 0, none⟩)) fun v17 =>
Bin .num .eql v17 (Value.int .i64 0) fun v18 =>
Br v18 (
R (.returned (.tuple #[w16, (Value.int .i64 1)])) H15) (
Bin .num .eql v17 (Value.int .i64 12) fun v19 =>
Br v19 (
R (.returned (.tuple #[w16, (Value.int .i64 2)])) H15) (
R (.returned (.tuple #[w16, (Value.int .i64 0)])) H15))) → J13 [w16] H15) →
Bin .num .geq v1 (Value.int .i64 8) fun v20 =>
Br v20 (
∀ J21 : Jt, (∀ w24 w25 w26 : Value, ∀ H23 : Hp, (∀ gs22 : Fr,
CallF Tryz.prog g 239 #[a0, w24, w25, w26, (.pointer (some ⟨b2, 0, none⟩))] H23 (fun v27 H28 =>
JE J13 [v27] H28) (PanR R)) → J21 [w24, w25, w26] H23) →
Bin .num .geq v1 (Value.int .i64 50) fun v29 =>
Br v29 (
CallF Tryz.prog g 238 #[a0, v6, (.pointer (some ⟨b2, 0, none⟩))] H3 (fun v30 H31 =>
CallF Tryz.prog g 238 #[a0, v9, (.pointer (some ⟨b2, 0, none⟩))] H31 (fun v32 H33 =>
CallF Tryz.prog g 238 #[a0, v12, (.pointer (some ⟨b2, 0, none⟩))] H33 (fun v34 H35 =>
JE J21 [v30, v32, v34] H35) (PanR R)) (PanR R)) (PanR R)) (
JE J21 [v6, v9, v12] H3)) (
JE J13 [v9] H3)
theorem L227_sound (h : L227 g a0 a1 a2 H R) : SCalls Tryz.prog g 227 #[a0, a1, a2] H R :=
  soundF (hn := (.n .e (.n .e (.n .e (.n .e (.n .e (.n .e (.h 1 [11] [9] (.n .e (.n (.h 1 [10, 11, 12] [0, 9] .e .e) .e)) .e)))))))) Tryz.func227 h (by kernel_rfl)
def L228 (g : Gh) (a0 a1 a2 : Value) (H : Hp) (R : Rt) : Prop :=
Bin .num .sub a2 (Value.int .i64 1) fun v1 =>
∃ (I2 : Jt) (m3 : Mt), JE I2 [a1, v1] H ∧ ∀ w6 w7 : Value, ∀ H5 : Hp, I2 [w6, w7] H5 → ∀ gs4 : Fr,
Bin .num .lss w6 w7 fun v8 =>
Br v8 (
DR H5 fun R9 =>
IAddr 1 a0 w7 fun v10 =>
Ld R9 v10 fun v11 =>
IAddr 1 a0 w6 fun v12 =>
Ld R9 v12 fun v13 =>
IAddr 1 a0 w6 fun v14 =>
St 1 H5 v14 v11 fun H15 =>
IAddr 1 a0 w7 fun v16 =>
St 1 H15 v16 v13 fun H17 =>
Bin .num .add w6 (Value.int .i64 1) fun v18 =>
Bin .num .sub w7 (Value.int .i64 1) fun v19 =>
Back I2 m3 [v18, v19] H17 [w6, w7] H5) (
R (.returned (.tuple #[])) H5)
theorem L228_sound (h : L228 g a0 a1 a2 H R) : SCalls Tryz.prog g 228 #[a0, a1, a2] H R :=
  soundF (hn := (.n .e (.n .e (.n (.h 0 [6, 7] [0] (.n .e (.n (.n (.h 0 [0, 1, 2, 3, 4, 5, 6, 7, 8, 9, 10, 11, 12, 13, 14, 15] [] .e .e) .e) .e)) .e) .e)))) Tryz.func228 h (by kernel_rfl)
def L229 (g : Gh) (a0 a1 a2 : Value) (H : Hp) (R : Rt) : Prop :=
Bin .num .add a1 (Value.int .i64 1) fun v1 =>
∃ (I2 : Jt) (m3 : Mt), JE I2 [v1, (Value.int .i64 0)] H ∧ ∀ w6 w7 : Value, ∀ H5 : Hp, I2 [w6, w7] H5 → ∀ gs4 : Fr,
Bin .num .lss w7 (Value.int .i64 5) fun v8 =>
Br v8 (
∀ J9 : Jt, (∀ w12 : Value, ∀ H11 : Hp, (∀ gs10 : Fr,
Bin .num .add w7 (Value.int .i64 1) fun v13 =>
Back I2 m3 [w12, v13] H11 [w6, w7] H5) → J9 [w12] H11) →
∃ (I14 : Jt) (m15 : Mt), JE I14 [w6] H5 ∧ ∀ w18 : Value, ∀ H17 : Hp, I14 [w18] H17 → ∀ gs16 : Fr,
∀ J19 : Jt, (∀ w22 : Value, ∀ H21 : Hp, (∀ gs20 : Fr,
Br w22 (
Bin .num .add w18 (Value.int .i64 1) fun v23 =>
Back I14 m15 [v23] H21 [w18] H17) (
Bin .num .eql w18 a2 fun v24 =>
Br v24 (
R (.returned (Value.bool true)) H21) (
Bin .num .sub a2 a1 fun v25 =>
Bin .num .lss v25 (Value.int .i64 50) fun v26 =>
Br v26 (
R (.returned (Value.bool false)) H21) (
DR H21 fun R27 =>
Bin .num .sub w18 (Value.int .i64 1) fun v28 =>
Bin .num .sub w18 (Value.int .i64 1) fun v29 =>
IAddr 1 a0 v29 fun v30 =>
Ld R27 v30 fun v31 =>
IAddr 1 a0 w18 fun v32 =>
Ld R27 v32 fun v33 =>
IAddr 1 a0 w18 fun v34 =>
St 1 H21 v34 v31 fun H35 =>
IAddr 1 a0 v28 fun v36 =>
St 1 H35 v36 v33 fun H37 =>
∀ J38 : Jt, (∀ H40 : Hp, (∀ gs39 : Fr,
Bin .num .sub a2 w18 fun v41 =>
Bin .num .geq v41 (Value.int .i64 2) fun v42 =>
Br v42 (
Bin .num .add w18 (Value.int .i64 1) fun v43 =>
∃ (I44 : Jt) (m45 : Mt), JE I44 [v43] H40 ∧ ∀ w48 : Value, ∀ H47 : Hp, I44 [w48] H47 → ∀ gs46 : Fr,
Bin .num .lss w48 a2 fun v49 =>
Br v49 (
DR H47 fun R50 =>
IAddr 1 a0 w48 fun v51 =>
Ld R50 v51 fun v52 =>
Bin .num .sub w48 (Value.int .i64 1) fun v53 =>
IAddr 1 a0 v53 fun v54 =>
Ld R50 v54 fun v55 =>
CallF Tryz.prog g 230 #[v52, v55] H47 (fun v56 H57 =>
Un .not v56 fun v58 =>
Br v58 (
JE J9 [w18] H57) (
DR H57 fun R59 =>
Bin .num .sub w48 (Value.int .i64 1) fun v60 =>
Bin .num .sub w48 (Value.int .i64 1) fun v61 =>
IAddr 1 a0 v61 fun v62 =>
Ld R59 v62 fun v63 =>
IAddr 1 a0 w48 fun v64 =>
Ld R59 v64 fun v65 =>
IAddr 1 a0 w48 fun v66 =>
St 1 H57 v66 v63 fun H67 =>
IAddr 1 a0 v60 fun v68 =>
St 1 H67 v68 v65 fun H69 =>
Bin .num .add w48 (Value.int .i64 1) fun v70 =>
Back I44 m45 [v70] H69 [w48] H47)) NoKP) (
JE J9 [w18] H47)) (
JE J9 [w18] H40)) → J38 [] H40) →
Bin .num .sub w18 a1 fun v71 =>
Bin .num .geq v71 (Value.int .i64 2) fun v72 =>
Br v72 (
Bin .num .sub w18 (Value.int .i64 1) fun v73 =>
∃ (I74 : Jt) (m75 : Mt), JE I74 [v73] H37 ∧ ∀ w78 : Value, ∀ H77 : Hp, I74 [w78] H77 → ∀ gs76 : Fr,
Bin .num .geq w78 (Value.int .i64 1) fun v79 =>
Br v79 (
DR H77 fun R80 =>
IAddr 1 a0 w78 fun v81 =>
Ld R80 v81 fun v82 =>
Bin .num .sub w78 (Value.int .i64 1) fun v83 =>
IAddr 1 a0 v83 fun v84 =>
Ld R80 v84 fun v85 =>
CallF Tryz.prog g 230 #[v82, v85] H77 (fun v86 H87 =>
Un .not v86 fun v88 =>
Br v88 (
JE J38 [] H87) (
DR H87 fun R89 =>
Bin .num .sub w78 (Value.int .i64 1) fun v90 =>
Bin .num .sub w78 (Value.int .i64 1) fun v91 =>
IAddr 1 a0 v91 fun v92 =>
Ld R89 v92 fun v93 =>
IAddr 1 a0 w78 fun v94 =>
Ld R89 v94 fun v95 =>
IAddr 1 a0 w78 fun v96 =>
St 1 H87 v96 v93 fun H97 =>
IAddr 1 a0 v90 fun v98 =>
St 1 H97 v98 v95 fun H99 =>
Bin .num .sub w78 (Value.int .i64 1) fun v100 =>
Back I74 m75 [v100] H99 [w78] H77)) NoKP) (
JE J38 [] H77)) (
JE J38 [] H37))))) → J19 [w22] H21) →
DR H17 fun R101 =>
Bin .num .lss w18 a2 fun v102 =>
Br v102 (
IAddr 1 a0 w18 fun v103 =>
Ld R101 v103 fun v104 =>
Bin .num .sub w18 (Value.int .i64 1) fun v105 =>
IAddr 1 a0 v105 fun v106 =>
Ld R101 v106 fun v107 =>
∀ F108 : Hp,
CallF Tryz.prog (g.add F108) 230 #[v104, v107] H17 (fun v109 H110 =>
Un .not v109 fun v111 =>
Pick (Value.bool true) v111 (Value.bool false) fun v112 =>
JE J19 [v112] H110) NoKP) (
JE J19 [(Value.bool false)] H17)) (
R (.returned (Value.bool false)) H5)
theorem L229_sound (h : L229 g a0 a1 a2 H R) : SCalls Tryz.prog g 229 #[a0, a1, a2] H R :=
  soundF (hn := (.n .e (.n .e (.n (.n .e (.n (.h 0 [7, 8] [0, 1, 2] (.n .e (.h 1 [7] [0, 1, 2, 8] (.n (.n (.n (.h 0 [7] [0, 1, 2, 8] (.n (.h 1 [32] [0, 1, 2, 7, 8] (.h 1 [] [] (.h 0 [0] [] (.h 0 [1] [] (.h 0 [2] [] (.h 2 [3] [] (.h 0 [4] [] (.h 0 [5] [] (.h 0 [6] [] (.h 0 [7] [] (.h 0 [8] [] (.h 0 [9] [] (.h 0 [10] [] (.h 0 [11] [] (.h 0 [12] [] (.h 0 [13] [] (.h 0 [14] [] (.h 0 [15] [] .e .e) .e) .e) .e) .e) .e) .e) .e) .e) .e) .e) .e) (.h 0 [4] [] (.h 0 [5] [] (.h 0 [6] [] (.h 0 [7] [] (.h 0 [8] [] (.h 0 [9] [] (.h 0 [10] [] (.h 0 [11] [] (.h 0 [12] [] (.h 0 [13] [] (.h 0 [14] [] (.h 3 [15] [] .e .e) .e) .e) .e) .e) .e) .e) .e) .e) .e) .e) .e)) .e) .e) .e) .e) .e) .e) .e) .e) (.n .e (.n .e (.n (.h 0 [0, 1, 2, 3, 4, 5, 6, 7, 8, 9, 10, 11, 12, 13, 14, 15, 16, 17] [] .e .e) (.h 1 [] [0, 1, 2, 7, 8] (.n .e (.n (.n .e (.n (.h 0 [9] [0, 1, 2, 7, 8] (.n .e (.n (.n (.n (.n (.h 0 [0, 1, 2, 3, 4, 5, 6, 7, 8, 9, 10] [] .e .e) .e) (.h 0 [0, 1, 2, 3, 4, 5, 6, 7, 8, 9, 10, 11, 12, 13, 14, 15, 16, 17] [] .e .e)) .e) .e)) .e) .e)) .e)) (.n .e (.n (.n .e (.n (.h 0 [10] [0, 1, 2, 7, 8] (.n .e (.n (.n (.n (.n (.h 0 [0, 1, 2, 3, 4, 5, 6, 7, 8, 9, 10] [] .e .e) .e) (.h 0 [0, 1, 2, 3, 4, 5, 6, 7, 8, 9, 10, 11, 12, 13, 14, 15, 16, 17] [] .e .e)) .e) .e)) .e) .e)) .e))))))) .e) .e)) .e) .e)) .e)))) Tryz.func229 h (by kernel_rfl)
def L230 (g : Gh) (a0 a1 : Value) (H : Hp) (R : Rt) : Prop :=
∀ J1 : Jt, (∀ w4 : Value, ∀ H3 : Hp, (∀ gs2 : Fr,
R (.returned w4) H3) → J1 [w4] H3) →
CallF Tryz.prog g 240 #[a0] H (fun v5 H6 =>
Split v5 true (
CallF Tryz.prog g 240 #[a1] H6 (fun v7 H8 =>
Un .not v7 fun v9 =>
Pick (Value.bool true) v9 (Value.bool false) fun v10 =>
Split v10 false (
Bin .num .lss a0 a1 fun v11 =>
Pick (Value.bool false) (Value.bool true) v11 fun v12 =>
JE J1 [v12] H8) (
Pick (Value.bool true) (Value.bool true) undef fun v13 =>
JE J1 [v13] H8)) (PanR R)) (
Pick (Value.bool false) undef (Value.bool false) fun v14 =>
Bin .num .lss a0 a1 fun v15 =>
Pick v14 (Value.bool true) v15 fun v16 =>
JE J1 [v16] H6)) (PanR R)
theorem L230_sound (h : L230 g a0 a1 H R) : SCalls Tryz.prog g 230 #[a0, a1] H R :=
  soundF (hn := (.n .e (.h 1 [4] [] .e .e))) Tryz.func230 h (by kernel_rfl)
def L231 (g : Gh) (a0 a1 a2 a3 : Value) (H : Hp) (R : Rt) : Prop :=
DR H fun R1 =>
IAddr 1 a0 a3 fun v2 =>
Ld R1 v2 fun v3 =>
IAddr 1 a0 a1 fun v4 =>
Ld R1 v4 fun v5 =>
IAddr 1 a0 a1 fun v6 =>
St 1 H v6 v3 fun H7 =>
IAddr 1 a0 a3 fun v8 =>
St 1 H7 v8 v5 fun H9 =>
Bin .num .add a1 (Value.int .i64 1) fun v10 =>
Bin .num .sub a2 (Value.int .i64 1) fun v11 =>
∃ (I12 : Jt) (m13 : Mt), JE I12 [v10, v11] H9 ∧ ∀ w16 w17 : Value, ∀ H15 : Hp, I12 [w16, w17] H15 → ∀ gs14 : Fr,
∃ (I18 : Jt) (m19 : Mt), JE I18 [w16] H15 ∧ ∀ w22 : Value, ∀ H21 : Hp, I18 [w22] H21 → ∀ gs20 : Fr,
∀ J23 : Jt, (∀ w26 : Value, ∀ H25 : Hp, (∀ gs24 : Fr,
Br w26 (
Bin .num .add w22 (Value.int .i64 1) fun v27 =>
Back I18 m19 [v27] H25 [w22] H21) (
∃ (I28 : Jt) (m29 : Mt), JE I28 [w17] H25 ∧ ∀ w32 : Value, ∀ H31 : Hp, I28 [w32] H31 → ∀ gs30 : Fr,
∀ J33 : Jt, (∀ w36 : Value, ∀ H35 : Hp, (∀ gs34 : Fr,
Br w36 (
Bin .num .sub w32 (Value.int .i64 1) fun v37 =>
Back I28 m29 [v37] H35 [w32] H31) (
Bin .num .gtr w22 w32 fun v38 =>
Br v38 (
R (.returned w22) H35) (
DR H35 fun R39 =>
IAddr 1 a0 w32 fun v40 =>
Ld R39 v40 fun v41 =>
IAddr 1 a0 w22 fun v42 =>
Ld R39 v42 fun v43 =>
IAddr 1 a0 w22 fun v44 =>
St 1 H35 v44 v41 fun H45 =>
IAddr 1 a0 w32 fun v46 =>
St 1 H45 v46 v43 fun H47 =>
Bin .num .add w22 (Value.int .i64 1) fun v48 =>
Bin .num .sub w32 (Value.int .i64 1) fun v49 =>
Back I12 m13 [v48, v49] H47 [w16, w17] H15))) → J33 [w36] H35) →
DR H31 fun R50 =>
Bin .num .leq w22 w32 fun v51 =>
Br v51 (
IAddr 1 a0 a1 fun v52 =>
Ld R50 v52 fun v53 =>
IAddr 1 a0 w32 fun v54 =>
Ld R50 v54 fun v55 =>
∀ F56 : Hp,
CallF Tryz.prog (g.add F56) 230 #[v53, v55] H31 (fun v57 H58 =>
Pick (Value.bool true) v57 (Value.bool false) fun v59 =>
JE J33 [v59] H58) NoKP) (
JE J33 [(Value.bool false)] H31))) → J23 [w26] H25) →
DR H21 fun R60 =>
Bin .num .leq w22 w17 fun v61 =>
Br v61 (
IAddr 1 a0 a1 fun v62 =>
Ld R60 v62 fun v63 =>
IAddr 1 a0 w22 fun v64 =>
Ld R60 v64 fun v65 =>
∀ F66 : Hp,
CallF Tryz.prog (g.add F66) 230 #[v63, v65] H21 (fun v67 H68 =>
Un .not v67 fun v69 =>
Pick (Value.bool true) v69 (Value.bool false) fun v70 =>
JE J23 [v70] H68) NoKP) (
JE J23 [(Value.bool false)] H21)
theorem L231_sound (h : L231 g a0 a1 a2 a3 H R) : SCalls Tryz.prog g 231 #[a0, a1, a2, a3] H R :=
  soundF (hn := (.n .e (.n (.h 0 [0, 1, 2, 3, 4, 5, 6, 7, 8, 9, 10, 11, 12, 13, 14, 15] [] .e .e) (.n .e (.n (.n (.h 0 [9, 10] [0, 1] (.n (.n (.n (.h 0 [9] [0, 1, 10] (.n (.h 1 [43] [0, 1, 9, 10] (.h 1 [] [] (.h 0 [0] [] (.h 0 [1] [] (.h 0 [2] [] (.h 2 [3] [] (.h 0 [4] [] (.h 0 [5] [] (.h 0 [6] [] (.h 0 [7] [] (.h 0 [8] [] (.h 0 [9] [] (.h 0 [10] [] (.h 0 [11] [] (.h 0 [12] [] (.h 0 [13] [] (.h 0 [14] [] .e .e) .e) .e) .e) .e) .e) .e) .e) .e) .e) .e) (.h 0 [4] [] (.h 0 [5] [] (.h 0 [6] [] (.h 0 [7] [] (.h 0 [8] [] (.h 0 [9] [] (.h 0 [10] [] (.h 0 [11] [] (.h 0 [12] [] (.h 0 [13] [] (.h 3 [14] [] .e .e) .e) .e) .e) .e) .e) .e) .e) .e) .e) .e)) .e) .e) .e) .e) .e) .e) .e) .e) (.n (.n (.h 0 [10] [0, 1, 9] (.n (.h 1 [59] [0, 1, 9, 10] (.h 1 [] [] (.h 0 [0] [] (.h 0 [1] [] (.h 0 [2] [] (.h 2 [3] [] (.h 0 [4] [] (.h 0 [5] [] (.h 0 [6] [] (.h 0 [7] [] (.h 0 [8] [] (.h 0 [9] [] (.h 0 [10] [] (.h 0 [11] [] (.h 0 [12] [] (.h 0 [13] [] .e .e) .e) .e) .e) .e) .e) .e) .e) .e) .e) (.h 0 [4] [] (.h 0 [5] [] (.h 0 [6] [] (.h 0 [7] [] (.h 0 [8] [] (.h 0 [9] [] (.h 0 [10] [] (.h 0 [11] [] (.h 0 [12] [] (.h 3 [13] [] .e .e) .e) .e) .e) .e) .e) .e) .e) .e) .e)) .e) .e) .e) .e) .e) .e) .e) .e) (.n .e (.n (.h 0 [0, 1, 2, 3, 4, 5, 6, 7, 8, 9, 10, 11, 12, 13, 14, 15] [] .e .e) .e)))) .e) .e) .e) .e))))) Tryz.func231 h (by kernel_rfl)
def L232 (g : Gh) (a0 a1 a2 a3 : Value) (H : Hp) (R : Rt) : Prop :=
DR H fun R1 =>
IAddr 1 a0 a3 fun v2 =>
Ld R1 v2 fun v3 =>
IAddr 1 a0 a1 fun v4 =>
Ld R1 v4 fun v5 =>
IAddr 1 a0 a1 fun v6 =>
St 1 H v6 v3 fun H7 =>
IAddr 1 a0 a3 fun v8 =>
St 1 H7 v8 v5 fun H9 =>
Bin .num .add a1 (Value.int .i64 1) fun v10 =>
Bin .num .sub a2 (Value.int .i64 1) fun v11 =>
∃ (I12 : Jt) (m13 : Mt), JE I12 [v10] H9 ∧ ∀ w16 : Value, ∀ H15 : Hp, I12 [w16] H15 → ∀ gs14 : Fr,
∀ J17 : Jt, (∀ w20 : Value, ∀ H19 : Hp, (∀ gs18 : Fr,
Br w20 (
Bin .num .add w16 (Value.int .i64 1) fun v21 =>
Back I12 m13 [v21] H19 [w16] H15) (
∃ (I22 : Jt) (m23 : Mt), JE I22 [v11] H19 ∧ ∀ w26 : Value, ∀ H25 : Hp, I22 [w26] H25 → ∀ gs24 : Fr,
∀ J27 : Jt, (∀ w30 : Value, ∀ H29 : Hp, (∀ gs28 : Fr,
Br w30 (
Bin .num .sub w26 (Value.int .i64 1) fun v31 =>
Back I22 m23 [v31] H29 [w26] H25) (
Bin .num .gtr w16 w26 fun v32 =>
Br v32 (
DR H29 fun R33 =>
IAddr 1 a0 a1 fun v34 =>
Ld R33 v34 fun v35 =>
IAddr 1 a0 w26 fun v36 =>
Ld R33 v36 fun v37 =>
IAddr 1 a0 w26 fun v38 =>
St 1 H29 v38 v35 fun H39 =>
IAddr 1 a0 a1 fun v40 =>
St 1 H39 v40 v37 fun H41 =>
R (.returned (.tuple #[w26, (Value.bool true)])) H41) (
DR H29 fun R42 =>
IAddr 1 a0 w26 fun v43 =>
Ld R42 v43 fun v44 =>
IAddr 1 a0 w16 fun v45 =>
Ld R42 v45 fun v46 =>
IAddr 1 a0 w16 fun v47 =>
St 1 H29 v47 v44 fun H48 =>
IAddr 1 a0 w26 fun v49 =>
St 1 H48 v49 v46 fun H50 =>
Bin .num .add w16 (Value.int .i64 1) fun v51 =>
Bin .num .sub w26 (Value.int .i64 1) fun v52 =>
∃ (I53 : Jt) (m54 : Mt), JE I53 [v51, v52] H50 ∧ ∀ w57 w58 : Value, ∀ H56 : Hp, I53 [w57, w58] H56 → ∀ gs55 : Fr,
∃ (I59 : Jt) (m60 : Mt), JE I59 [w57] H56 ∧ ∀ w63 : Value, ∀ H62 : Hp, I59 [w63] H62 → ∀ gs61 : Fr,
∀ J64 : Jt, (∀ w67 : Value, ∀ H66 : Hp, (∀ gs65 : Fr,
Br w67 (
Bin .num .add w63 (Value.int .i64 1) fun v68 =>
Back I59 m60 [v68] H66 [w63] H62) (
∃ (I69 : Jt) (m70 : Mt), JE I69 [w58] H66 ∧ ∀ w73 : Value, ∀ H72 : Hp, I69 [w73] H72 → ∀ gs71 : Fr,
∀ J74 : Jt, (∀ w77 : Value, ∀ H76 : Hp, (∀ gs75 : Fr,
Br w77 (
Bin .num .sub w73 (Value.int .i64 1) fun v78 =>
Back I69 m70 [v78] H76 [w73] H72) (
Bin .num .gtr w63 w73 fun v79 =>
Br v79 (
DR H76 fun R80 =>
IAddr 1 a0 a1 fun v81 =>
Ld R80 v81 fun v82 =>
IAddr 1 a0 w73 fun v83 =>
Ld R80 v83 fun v84 =>
IAddr 1 a0 w73 fun v85 =>
St 1 H76 v85 v82 fun H86 =>
IAddr 1 a0 a1 fun v87 =>
St 1 H86 v87 v84 fun H88 =>
R (.returned (.tuple #[w73, (Value.bool false)])) H88) (
DR H76 fun R89 =>
IAddr 1 a0 w73 fun v90 =>
Ld R89 v90 fun v91 =>
IAddr 1 a0 w63 fun v92 =>
Ld R89 v92 fun v93 =>
IAddr 1 a0 w63 fun v94 =>
St 1 H76 v94 v91 fun H95 =>
IAddr 1 a0 w73 fun v96 =>
St 1 H95 v96 v93 fun H97 =>
Bin .num .add w63 (Value.int .i64 1) fun v98 =>
Bin .num .sub w73 (Value.int .i64 1) fun v99 =>
Back I53 m54 [v98, v99] H97 [w57, w58] H56))) → J74 [w77] H76) →
DR H72 fun R100 =>
Bin .num .leq w63 w73 fun v101 =>
Br v101 (
IAddr 1 a0 w73 fun v102 =>
Ld R100 v102 fun v103 =>
IAddr 1 a0 a1 fun v104 =>
Ld R100 v104 fun v105 =>
∀ F106 : Hp,
CallF Tryz.prog (g.add F106) 230 #[v103, v105] H72 (fun v107 H108 =>
Un .not v107 fun v109 =>
Pick (Value.bool true) v109 (Value.bool false) fun v110 =>
JE J74 [v110] H108) NoKP) (
JE J74 [(Value.bool false)] H72))) → J64 [w67] H66) →
DR H62 fun R111 =>
Bin .num .leq w63 w58 fun v112 =>
Br v112 (
IAddr 1 a0 w63 fun v113 =>
Ld R111 v113 fun v114 =>
IAddr 1 a0 a1 fun v115 =>
Ld R111 v115 fun v116 =>
∀ F117 : Hp,
CallF Tryz.prog (g.add F117) 230 #[v114, v116] H62 (fun v118 H119 =>
Pick (Value.bool true) v118 (Value.bool false) fun v120 =>
JE J64 [v120] H119) NoKP) (
JE J64 [(Value.bool false)] H62)))) → J27 [w30] H29) →
DR H25 fun R121 =>
Bin .num .leq w16 w26 fun v122 =>
Br v122 (
IAddr 1 a0 w26 fun v123 =>
Ld R121 v123 fun v124 =>
IAddr 1 a0 a1 fun v125 =>
Ld R121 v125 fun v126 =>
∀ F127 : Hp,
CallF Tryz.prog (g.add F127) 230 #[v124, v126] H25 (fun v128 H129 =>
Un .not v128 fun v130 =>
Pick (Value.bool true) v130 (Value.bool false) fun v131 =>
JE J27 [v131] H129) NoKP) (
JE J27 [(Value.bool false)] H25))) → J17 [w20] H19) →
DR H15 fun R132 =>
Bin .num .leq w16 v11 fun v133 =>
Br v133 (
IAddr 1 a0 w16 fun v134 =>
Ld R132 v134 fun v135 =>
IAddr 1 a0 a1 fun v136 =>
Ld R132 v136 fun v137 =>
∀ F138 : Hp,
CallF Tryz.prog (g.add F138) 230 #[v135, v137] H15 (fun v139 H140 =>
Pick (Value.bool true) v139 (Value.bool false) fun v141 =>
JE J17 [v141] H140) NoKP) (
JE J17 [(Value.bool false)] H15)
theorem L232_sound (h : L232 g a0 a1 a2 a3 H R) : SCalls Tryz.prog g 232 #[a0, a1, a2, a3] H R :=
  soundF (hn := (.n .e (.n (.h 0 [0, 1, 2, 3, 4, 5, 6, 7, 8, 9, 10, 11, 12, 13, 14, 15] [] .e .e) (.n .e (.n (.n (.h 0 [10] [0, 1, 11] (.n (.h 1 [43] [0, 1, 10, 11] (.h 1 [] [] (.h 0 [0] [] (.h 0 [1] [] (.h 0 [2] [] (.h 2 [3] [] (.h 0 [4] [] (.h 0 [5] [] (.h 0 [6] [] (.h 0 [7] [] (.h 0 [8] [] (.h 0 [9] [] (.h 0 [10] [] (.h 0 [11] [] (.h 0 [12] [] (.h 0 [13] [] .e .e) .e) .e) .e) .e) .e) .e) .e) .e) .e) (.h 0 [4] [] (.h 0 [5] [] (.h 0 [6] [] (.h 0 [7] [] (.h 0 [8] [] (.h 0 [9] [] (.h 0 [10] [] (.h 0 [11] [] (.h 0 [12] [] (.h 3 [13] [] .e .e) .e) .e) .e) .e) .e) .e) .e) .e) .e)) .e) .e) .e) .e) .e) .e) .e) .e) (.n (.n (.h 0 [11] [0, 1, 10] (.n (.h 1 [60] [0, 1, 10, 11] (.h 1 [] [] (.h 0 [0] [] (.h 0 [1] [] (.h 0 [2] [] (.h 2 [3] [] (.h 0 [4] [] (.h 0 [5] [] (.h 0 [6] [] (.h 0 [7] [] (.h 0 [8] [] (.h 0 [9] [] (.h 0 [10] [] (.h 0 [11] [] (.h 0 [12] [] (.h 0 [13] [] (.h 0 [14] [] .e .e) .e) .e) .e) .e) .e) .e) .e) .e) .e) .e) (.h 0 [4] [] (.h 0 [5] [] (.h 0 [6] [] (.h 0 [7] [] (.h 0 [8] [] (.h 0 [9] [] (.h 0 [10] [] (.h 0 [11] [] (.h 0 [12] [] (.h 0 [13] [] (.h 3 [14] [] .e .e) .e) .e) .e) .e) .e) .e) .e) .e) .e) .e)) .e) .e) .e) .e) .e) .e) .e) .e) (.n (.n .e (.n (.n (.h 0 [0, 1, 2, 3, 4, 5, 6, 7, 8, 9, 10, 11, 12, 13, 14, 15] [] .e .e) .e) .e)) (.n (.h 0 [0, 1, 2, 3, 4, 5, 6, 7, 8, 9, 10, 11, 12, 13, 14, 15] [] .e .e) (.n .e (.n .e (.n (.n (.h 0 [10, 11] [0, 1] (.n (.n (.n (.h 0 [10] [0, 1, 11] (.n (.h 1 [112] [0, 1, 10, 11] (.h 1 [] [] (.h 0 [0] [] (.h 0 [1] [] (.h 0 [2] [] (.h 2 [3] [] (.h 0 [4] [] (.h 0 [5] [] (.h 0 [6] [] (.h 0 [7] [] (.h 0 [8] [] (.h 0 [9] [] (.h 0 [10] [] (.h 0 [11] [] (.h 0 [12] [] (.h 0 [13] [] .e .e) .e) .e) .e) .e) .e) .e) .e) .e) .e) (.h 0 [4] [] (.h 0 [5] [] (.h 0 [6] [] (.h 0 [7] [] (.h 0 [8] [] (.h 0 [9] [] (.h 0 [10] [] (.h 0 [11] [] (.h 0 [12] [] (.h 3 [13] [] .e .e) .e) .e) .e) .e) .e) .e) .e) .e) .e)) .e) .e) .e) .e) .e) .e) .e) .e) (.n (.n (.h 0 [11] [0, 1, 10] (.n (.h 1 [129] [0, 1, 10, 11] (.h 1 [] [] (.h 0 [0] [] (.h 0 [1] [] (.h 0 [2] [] (.h 2 [3] [] (.h 0 [4] [] (.h 0 [5] [] (.h 0 [6] [] (.h 0 [7] [] (.h 0 [8] [] (.h 0 [9] [] (.h 0 [10] [] (.h 0 [11] [] (.h 0 [12] [] (.h 0 [13] [] (.h 0 [14] [] .e .e) .e) .e) .e) .e) .e) .e) .e) .e) .e) .e) (.h 0 [4] [] (.h 0 [5] [] (.h 0 [6] [] (.h 0 [7] [] (.h 0 [8] [] (.h 0 [9] [] (.h 0 [10] [] (.h 0 [11] [] (.h 0 [12] [] (.h 0 [13] [] (.h 3 [14] [] .e .e) .e) .e) .e) .e) .e) .e) .e) .e) .e) .e)) .e) .e) .e) .e) .e) .e) .e) .e) (.n .e (.n (.h 0 [0, 1, 2, 3, 4, 5, 6, 7, 8, 9, 10, 11, 12, 13, 14, 15] [] .e .e) .e)))) .e) .e) .e) (.n (.h 0 [0, 1, 2, 3, 4, 5, 6, 7, 8, 9, 10, 11, 12, 13, 14, 15] [] .e .e) .e)))))))))))) Tryz.func232 h (by kernel_rfl)
def L234 (g : Gh) (a0 : Value) (H : Hp) (R : Rt) : Prop :=
∀ J1 : Jt, (∀ w4 w5 : Value, ∀ H3 : Hp, (∀ gs2 : Fr,
∀ J6 : Jt, (∀ w9 w10 : Value, ∀ H8 : Hp, (∀ gs7 : Fr,
∀ J11 : Jt, (∀ w14 w15 : Value, ∀ H13 : Hp, (∀ gs12 : Fr,
ConvI .u8 w14 fun v16 =>
StrIx (.string (ByteArray.mk #[0, 1, 2, 2, 3, 3, 3, 3, 4, 4, 4, 4, 4, 4, 4, 4, 5, 5, 5, 5, 5, 5, 5, 5, 5, 5, 5, 5, 5, 5, 5, 5, 6, 6, 6, 6, 6, 6, 6, 6, 6, 6, 6, 6, 6, 6, 6, 6, 6, 6, 6, 6, 6, 6, 6, 6, 6, 6, 6, 6, 6, 6, 6, 6, 7, 7, 7, 7, 7, 7, 7, 7, 7, 7, 7, 7, 7, 7, 7, 7, 7, 7, 7, 7, 7, 7, 7, 7, 7, 7, 7, 7, 7, 7, 7, 7, 7, 7, 7, 7, 7, 7, 7, 7, 7, 7, 7, 7, 7, 7, 7, 7, 7, 7, 7, 7, 7, 7, 7, 7, 7, 7, 7, 7, 7, 7, 7, 7, 8, 8, 8, 8, 8, 8, 8, 8, 8, 8, 8, 8, 8, 8, 8, 8, 8, 8, 8, 8, 8, 8, 8, 8, 8, 8, 8, 8, 8, 8, 8, 8, 8, 8, 8, 8, 8, 8, 8, 8, 8, 8, 8, 8, 8, 8, 8, 8, 8, 8, 8, 8, 8, 8, 8, 8, 8, 8, 8, 8, 8, 8, 8, 8, 8, 8, 8, 8, 8, 8, 8, 8, 8, 8, 8, 8, 8, 8, 8, 8, 8, 8, 8, 8, 8, 8, 8, 8, 8, 8, 8, 8, 8, 8, 8, 8, 8, 8, 8, 8, 8, 8, 8, 8, 8, 8, 8, 8, 8, 8, 8, 8, 8, 8, 8, 8, 8, 8, 8, 8, 8, 8, 8, 8, 8, 8, 8, 8])) v16 fun v17 =>
ConvI .i64 v17 fun v18 =>
Bin .num .add w15 v18 fun v19 =>
R (.returned v19) H13) → J11 [w14, w15] H13) →
Bin .num .geq w9 (Value.int .u64 256) fun v20 =>
Br v20 (
Bin .num .shr w9 (Value.int .u64 8) fun v21 =>
Bin .num .add w10 (Value.int .i64 8) fun v22 =>
JE J11 [v21, v22] H8) (
JE J11 [w9, w10] H8)) → J6 [w9, w10] H8) →
Bin .num .geq w4 (Value.int .u64 65536) fun v23 =>
Br v23 (
Bin .num .shr w4 (Value.int .u64 16) fun v24 =>
Bin .num .add w5 (Value.int .i64 16) fun v25 =>
JE J6 [v24, v25] H3) (
JE J6 [w4, w5] H3)) → J1 [w4, w5] H3) →
Bin .num .geq a0 (Value.int .u64 4294967296) fun v26 =>
Br v26 (
Bin .num .shr a0 (Value.int .u64 32) fun v27 =>
JE J1 [v27, (Value.int .i64 32)] H) (
JE J1 [a0, (Value.int .i64 0)] H)
theorem L234_sound (h : L234 g a0 H R) : SCalls Tryz.prog g 234 #[a0] H R :=
  soundF (hn := (.n .e (.h 1 [0, 2] [] .e (.h 1 [0, 2] [] .e (.h 1 [0, 2] [] .e .e))))) Tryz.func234 h (by kernel_rfl)
def L235 (g : Gh) (a0 a1 a2 a3 : Value) (H : Hp) (R : Rt) : Prop :=
∃ (I1 : Jt) (m2 : Mt), JE I1 [a1] H ∧ ∀ w5 : Value, ∀ H4 : Hp, I1 [w5] H4 → ∀ gs3 : Fr,
Bin .num .mul (Value.int .i64 2) w5 fun v6 =>
Bin .num .add v6 (Value.int .i64 1) fun v7 =>
Bin .num .geq v7 a2 fun v8 =>
Br v8 (
R (.returned (.tuple #[])) H4) (
∀ J9 : Jt, (∀ w12 : Value, ∀ H11 : Hp, (∀ gs10 : Fr,
DR H11 fun R13 =>
Bin .num .add a3 w5 fun v14 =>
IAddr 1 a0 v14 fun v15 =>
Ld R13 v15 fun v16 =>
Bin .num .add a3 w12 fun v17 =>
IAddr 1 a0 v17 fun v18 =>
Ld R13 v18 fun v19 =>
CallF Tryz.prog g 230 #[v16, v19] H11 (fun v20 H21 =>
Un .not v20 fun v22 =>
Br v22 (
R (.returned (.tuple #[])) H21) (
DR H21 fun R23 =>
Bin .num .add a3 w5 fun v24 =>
Bin .num .add a3 w12 fun v25 =>
Bin .num .add a3 w12 fun v26 =>
IAddr 1 a0 v26 fun v27 =>
Ld R23 v27 fun v28 =>
Bin .num .add a3 w5 fun v29 =>
IAddr 1 a0 v29 fun v30 =>
Ld R23 v30 fun v31 =>
IAddr 1 a0 v24 fun v32 =>
St 1 H21 v32 v28 fun H33 =>
IAddr 1 a0 v25 fun v34 =>
St 1 H33 v34 v31 fun H35 =>
Back I1 m2 [w12] H35 [w5] H4)) NoKP) → J9 [w12] H11) →
∀ J36 : Jt, (∀ w39 : Value, ∀ H38 : Hp, (∀ gs37 : Fr,
Br w39 (
Bin .num .add v7 (Value.int .i64 1) fun v40 =>
JE J9 [v40] H38) (
JE J9 [v7] H38)) → J36 [w39] H38) →
DR H4 fun R41 =>
Bin .num .add v7 (Value.int .i64 1) fun v42 =>
Bin .num .lss v42 a2 fun v43 =>
Br v43 (
Bin .num .add a3 v7 fun v44 =>
IAddr 1 a0 v44 fun v45 =>
Ld R41 v45 fun v46 =>
Bin .num .add a3 v7 fun v47 =>
Bin .num .add v47 (Value.int .i64 1) fun v48 =>
IAddr 1 a0 v48 fun v49 =>
Ld R41 v49 fun v50 =>
∀ F51 : Hp,
CallF Tryz.prog (g.add F51) 230 #[v46, v50] H4 (fun v52 H53 =>
Pick (Value.bool true) v52 (Value.bool false) fun v54 =>
JE J36 [v54] H53) NoKP) (
JE J36 [(Value.bool false)] H4))
theorem L235_sound (h : L235 g a0 a1 a2 a3 H R) : SCalls Tryz.prog g 235 #[a0, a1, a2, a3] H R :=
  soundF (hn := (.n .e (.n (.h 0 [8] [0, 2, 3] (.n (.n .e (.n .e (.h 1 [9] [0, 2, 3, 8] (.h 1 [36] [0, 2, 3, 8, 9] (.h 1 [] [] (.h 0 [0] [] (.h 0 [1] [] (.h 0 [2] [] (.h 0 [3] [] (.h 2 [4] [] (.h 0 [5] [] (.h 0 [6] [] (.h 0 [7] [] (.h 0 [8] [] (.h 0 [9] [] (.h 0 [10] [] (.h 0 [11] [] (.h 0 [12] [] (.h 0 [13] [] (.h 0 [14] [] (.h 0 [15] [] (.h 0 [16] [] (.h 0 [17] [] (.h 0 [18] [] (.h 0 [19] [] .e .e) .e) .e) .e) .e) .e) .e) .e) .e) .e) .e) .e) .e) .e) .e) (.h 0 [5] [] (.h 0 [6] [] (.h 0 [7] [] (.h 0 [8] [] (.h 0 [9] [] (.h 0 [10] [] (.h 0 [11] [] (.h 0 [12] [] (.h 0 [13] [] (.h 0 [14] [] (.h 0 [15] [] (.h 0 [16] [] (.h 0 [17] [] (.h 0 [18] [] (.h 3 [19] [] .e .e) .e) .e) .e) .e) .e) .e) .e) .e) .e) .e) .e) .e) .e) .e)) .e) .e) .e) .e) .e) .e) (.n (.n (.h 0 [0, 1, 2, 3, 4, 5, 6, 7, 8, 9, 10, 11, 12, 13] [] .e .e) .e) (.n (.h 0 [0, 1, 2, 3, 4, 5, 6, 7, 8, 9, 10, 11, 12, 13, 14, 15, 16, 17, 18, 19, 20, 21, 22, 23] [] .e .e) .e))))) .e) .e) .e))) Tryz.func235 h (by kernel_rfl)
def L236 (g : Gh) (a0 : Value) (H : Hp) (R : Rt) : Prop :=
ConvI .u64 a0 fun v1 =>
CallF Tryz.prog g 221 #[v1] H (fun v2 H3 =>
Bin .num .shl (Value.int .u64 1) v2 fun v4 =>
R (.returned v4) H3) (PanR R)
theorem L236_sound (h : L236 g a0 H R) : SCalls Tryz.prog g 236 #[a0] H R :=
  soundF (hn := .e) Tryz.func236 h (by kernel_rfl)
def L237 (g : Gh) (a0 : Value) (H : Hp) (R : Rt) : Prop :=
DR H fun R1 =>
Nil a0 fun v2 =>
Ld R1 v2 fun v3 =>
Nil a0 fun v4 =>
Ld R1 v4 fun v5 =>
Bin .num .shl v5 (Value.int .u64 13) fun v6 =>
Bin .num .xor v3 v6 fun v7 =>
Nil a0 fun v8 =>
St 1 H v8 v7 fun H9 =>
DR H9 fun R10 =>
Nil a0 fun v11 =>
Ld R10 v11 fun v12 =>
Nil a0 fun v13 =>
Ld R10 v13 fun v14 =>
Bin .num .shr v14 (Value.int .u64 7) fun v15 =>
Bin .num .xor v12 v15 fun v16 =>
Nil a0 fun v17 =>
St 1 H9 v17 v16 fun H18 =>
DR H18 fun R19 =>
Nil a0 fun v20 =>
Ld R19 v20 fun v21 =>
Nil a0 fun v22 =>
Ld R19 v22 fun v23 =>
Bin .num .shl v23 (Value.int .u64 17) fun v24 =>
Bin .num .xor v21 v24 fun v25 =>
Nil a0 fun v26 =>
St 1 H18 v26 v25 fun H27 =>
Nil a0 fun v28 =>
Ld H27 v28 fun v29 =>
R (.returned v29) H27
theorem L237_sound (h : L237 g a0 H R) : SCalls Tryz.prog g 237 #[a0] H R :=
  soundF (hn := (.n .e (.n (.h 0 [0, 1, 2, 3, 4, 5, 6, 7, 8, 9] [] .e .e) (.n (.h 0 [0, 1, 2, 3, 4, 5, 6, 7, 8, 9] [] .e .e) (.n (.h 0 [0, 1, 2, 3, 4, 5, 6, 7, 8, 9] [] .e .e) .e))))) Tryz.func237 h (by kernel_rfl)
def L238 (g : Gh) (a0 a1 a2 : Value) (H : Hp) (R : Rt) : Prop :=
Bin .num .sub a1 (Value.int .i64 1) fun v1 =>
Bin .num .add a1 (Value.int .i64 1) fun v2 =>
CallF Tryz.prog g 239 #[a0, v1, a1, v2, a2] H (fun v3 H4 =>
R (.returned v3) H4) (PanR R)
theorem L238_sound (h : L238 g a0 a1 a2 H R) : SCalls Tryz.prog g 238 #[a0, a1, a2] H R :=
  soundF (hn := .e) Tryz.func238 h (by kernel_rfl)
def L239 (g : Gh) (a0 a1 a2 a3 a4 : Value) (H : Hp) (R : Rt) : Prop :=
CallF Tryz.prog g 241 #[a0, a1, a2, a4] H (fun v1 H2 =>
Ext 0 v1 fun v3 =>
Ext 1 v1 fun v4 =>
CallF Tryz.prog g 241 #[a0, v4, a3, a4] H2 (fun v5 H6 =>
Ext 0 v5 fun v7 =>
Ext 1 v5 fun v8 =>
CallF Tryz.prog g 241 #[a0, v3, v7, a4] H6 (fun v9 H10 =>
Ext 0 v9 fun v11 =>
Ext 1 v9 fun v12 =>
R (.returned v12) H10) (PanR R)) (PanR R)) (PanR R)
theorem L239_sound (h : L239 g a0 a1 a2 a3 a4 H R) : SCalls Tryz.prog g 239 #[a0, a1, a2, a3, a4] H R :=
  soundF (hn := .e) Tryz.func239 h (by kernel_rfl)
def L240 (g : Gh) (a0 : Value) (H : Hp) (R : Rt) : Prop :=
Bin .num .neq a0 a0 fun v1 =>
R (.returned v1) H
theorem L240_sound (h : L240 g a0 H R) : SCalls Tryz.prog g 240 #[a0] H R :=
  soundF (hn := .e) Tryz.func240 h (by kernel_rfl)
def L241 (g : Gh) (a0 a1 a2 a3 : Value) (H : Hp) (R : Rt) : Prop :=
DR H fun R1 =>
IAddr 1 a0 a2 fun v2 =>
Ld R1 v2 fun v3 =>
IAddr 1 a0 a1 fun v4 =>
Ld R1 v4 fun v5 =>
CallF Tryz.prog g 230 #[v3, v5] H (fun v6 H7 =>
Br v6 (
Nil a3 fun v8 =>
Ld H7 v8 fun v9 =>
Bin .num .add v9 (Value.int .i64 1) fun v10 =>
Nil a3 fun v11 =>
St 1 H7 v11 v10 fun H12 =>
R (.returned (.tuple #[a2, a1])) H12) (
R (.returned (.tuple #[a1, a2])) H7)) NoKP
theorem L241_sound (h : L241 g a0 a1 a2 a3 H R) : SCalls Tryz.prog g 241 #[a0, a1, a2, a3] H R :=
  soundF (hn := (.n .e (.n (.n (.h 0 [0, 1, 2, 3, 4, 5, 6, 7, 8] [] .e .e) .e) .e))) Tryz.func241 h (by kernel_rfl)
end Go.Proofs
set_option maxRecDepth 100000
namespace Go.Proofs
open Go Go.Sx
theorem buildOne {B : Hp} {s : Value} {n : Int} {K : Value → Hp → Prop} (h : ∀ b, K (.slice (some ⟨b, 0, none⟩) 1 1) ((b, .cells #[.int .i64 n, s] 55 (0, 0)) :: B)) :
    BuildSl Tryz.prog 49 1 [(0, .agg #[.int .i64 n, s])] B K :=
  BuildSl.one (r := [.int .i64 n, s]) (e := 55) (k := 2) (z := .agg #[.int .i64 0, .slice none 0 0]) (by kernel_rfl) (by kernel_rfl) (by kernel_rfl) (by decide) rfl h
theorem range_done {G : Nat → Nat} {W : Nat} : ((List.range W).map fun k => if k < W then G k else 0) = (List.range W).map G := by
  apply List.map_congr_left
  intro k hk
  rw [if_pos (List.mem_range.1 hk)]
theorem frm_len {n : Nat} {ws : List Nat} (h : Tab.Frm n ws) : ws.length ≤ 4294967296 := by have := h.len; have := Tab.wN_le h.n16; omega
theorem oneCell_words {B : Hp} {s : Value} {ws : List Nat} (h : Words B s ws) : s.oneCell' = true := by obtain ⟨a, c, rfl, _⟩ := h.1.shape; rfl
theorem range_set {G : Nat → Nat} {W i : Nat} (hi : i < W) : (iw ((List.range W).map fun k => if k < i then G k else 0)).set i ((G i : Nat) : Int) = iw ((List.range W).map fun k => if k < i + 1 then G k else 0) := by
  apply List.ext_getElem?
  intro j
  unfold iw
  by_cases e : i = j
  · subst e; simp [hi]
  · rw [List.getElem?_set_ne e]
    by_cases hj : j < W
    · simp only [List.getElem?_map, List.getElem?_range hj, Option.map_some]
      by_cases h2 : j < i
      · rw [if_pos h2, if_pos (by omega)]
      · rw [if_neg h2, if_neg (by omega)]
    · rw [List.getElem?_eq_none (by simp; omega), List.getElem?_eq_none (by simp; omega)]
theorem range_zero {G : Nat → Nat} {W : Nat} : List.replicate W (0 : Int) = iw ((List.range W).map fun k => if k < 0 then G k else 0) := by
  apply List.ext_getElem?
  intro j
  unfold iw
  by_cases hj : j < W
  · simp [hj]
  · rw [List.getElem?_eq_none (by simp; omega), List.getElem?_eq_none (by simp; omega)]
theorem bytesW {n : Nat} (hn : n ≤ 16) : Tab.wN n ≤ 9223372036854775807 ∧ Tab.wN n * 8 ≤ 281474976710656 := by have := Tab.wN_le hn; omega
end Go.Proofs
set_option maxRecDepth 100000
namespace Go.Proofs
open Go Go.Sx
theorem rwords_ok {n : Nat} (hn : n ≤ 16) (B : Hp) : Rd Tryz.prog 87 #[.int .i64 (n : Int)] B (· = .int .i64 ((Tab.wN n : Nat) : Int)) := by
  intro g
  refine L87_sound (R := FnR _) ?_
  unfold L87
  refine Bin.leN (b := 6) (Br.dec (fun h => ?_) (fun h => ?_))
  · exact RdR.mk (.refl _) (by rw [Tab.wN_lt (by omega)]; rfl)
  · refine Bin.subN (b := 6) (by simp [lim]; omega) (by omega) ?_
    have hp : 2 ^ (n - 6) ≤ 1024 := Nat.pow_le_pow_right (n := 2) (by decide) (by omega : n - 6 ≤ 10)
    refine Bin.shlN (a := 1) (by simp [IntKind.bits]; omega) (by rw [Nat.one_shiftLeft]; simp [lim]; omega) ?_
    exact RdR.mk (.refl _) (by rw [Nat.one_shiftLeft, Tab.wN_ge (by omega)])
theorem rform_ok {B : Hp} {v : Value} {t : Tb} (ht : Tbl B v t) : Rd Tryz.prog 62 #[v] B (· = .bool (decide (TF t))) := by
  obtain ⟨tn, ws⟩ := t
  obtain ⟨s, rfl, hs, hw⟩ := ht
  simp only at hs hw ⊢
  intro g
  refine L62_sound (R := FnR _) ?_
  unfold L62
  intro b1 _ J hJ
  have hno : ¬ TF ⟨tn, ws⟩ → JE J [.bool true] ((b1, .cells (Value.cells (.agg #[.int .i64 tn, s])) 55 (0, 0)) :: B) := fun h =>
    JE.mk (hJ _ _ fun gs => Br.yes (RdR.mk .tail (by rw [decide_eq_false h])))
  refine DR.self ?_
  refine FAddr.mk (Ld.mk (by repeat (first | assumption | exact List.Mem.head _ | apply List.Mem.tail | apply List.mem_append_right)) rfl ?_)
  refine Bin.lss (Br.dec (fun h0 => hno fun h => by have := h.1; simp only at this; omega) (fun h0 => ?_))
  obtain ⟨n, rfl⟩ : ∃ n : Nat, tn = n := ⟨tn.toNat, by omega⟩
  have hTF : TF ⟨(n : Int), ws⟩ ↔ Tab.Frm n ws := by unfold TF; simp
  refine FAddr.mk (Ld.mk (by repeat (first | assumption | exact List.Mem.head _ | apply List.Mem.tail | apply List.mem_append_right)) rfl ?_)
  refine Bin.gtN (b := 16) (Pick.mk (Br.dec (fun h1 => hno fun h => by have := (hTF.1 h).n16; omega) (fun h1 => ?_)))
  refine FAddr.mk (Ld.mk (by repeat (first | assumption | exact List.Mem.head _ | apply List.Mem.tail | apply List.mem_append_right)) rfl ?_)
  refine hs.lenS ?_
  refine FAddr.mk (Ld.mk (by repeat (first | assumption | exact List.Mem.head _ | apply List.Mem.tail | apply List.mem_append_right)) rfl ?_)
  intro F
  refine CallF.rd (.cons .here) (rwords_ok (by omega) B) ?_
  rintro v rfl
  refine ⟨(by repeat (first | exact Ent.refl _ | apply Ent.cons | apply Ent.skip | apply Ent.prep | apply Ent.skips)), ?_⟩
  rw [iw_length]
  refine Bin.neN (Pick.mk ?_)
  simp only [cond_false]
  by_cases hl : ws.length = Tab.wN n
  case neg => rw [show decide (ws.length ≠ Tab.wN n) = true by simp [hl]]; exact hno fun h => hl (hTF.1 h).len
  rw [show decide (ws.length ≠ Tab.wN n) = false by simp [hl]]
  refine JE.mk (hJ _ _ fun gs => Br.no ?_)
  refine FAddr.mk (Ld.mk (by repeat (first | assumption | exact List.Mem.head _ | apply List.Mem.tail | apply List.mem_append_right)) rfl ?_)
  refine Bin.geN (b := 6) ?_
  have hpos := Tab.wN_pos n
  obtain ⟨w, hg⟩ : ∃ w, ws[0]? = some w := ⟨_, List.getElem?_eq_getElem (by omega)⟩
  have hwl := hw w (List.mem_of_getElem? hg)
  refine Grp.or (decide (w >>> (2 ^ n) = 0)) (fun h6 => ?_) rfl fun gs => ?_
  · have h6' : ¬ 6 ≤ n := by simpa using h6
    have h1 : 2 ^ n ≤ 32 := Nat.pow_le_pow_right (n := 2) (by decide) (by omega : n ≤ 5)
    refine FAddr.mk (Ld.mk (by repeat (first | assumption | exact List.Mem.head _ | apply List.Mem.tail | apply List.mem_append_right)) rfl ?_)
    refine hs.ld (iw_get hg) (fun _ h => by repeat (first | exact h | apply List.mem_cons_of_mem | apply List.mem_append_right)) ?_
    refine FAddr.mk (Ld.mk (by repeat (first | assumption | exact List.Mem.head _ | apply List.Mem.tail | apply List.mem_append_right)) rfl ?_)
    refine Bin.shlU (a := 1) ?_
    rw [Nat.one_shiftLeft, Nat.mod_eq_of_lt (by omega)]
    refine Bin.shrN (by simpa [lim] using hwl) ?_
    exact Bin.eqN (b := 0) ⟨rfl, rfl⟩
  · refine RdR.mk .tail ?_
    congr 1
    rw [← Bool.decide_or]
    refine decide_eq_decide.2 (hTF.trans ?_).symm
    constructor
    · intro h
      by_cases h6 : 6 ≤ n
      · exact .inl h6
      · refine .inr ?_
        have := h.full w (List.mem_of_getElem? hg)
        unfold Tab.fullN at this
        rw [if_neg h6] at this
        have hp := Nat.two_pow_pos (2 ^ n)
        rw [Nat.shiftRight_eq_div_pow]; exact Nat.div_eq_of_lt (by omega)
    · intro h
      refine ⟨by omega, hl, fun u hu => ?_⟩
      by_cases h6 : 6 ≤ n
      · unfold Tab.fullN; rw [if_pos h6]; have := hw u hu; omega
      · have h1 : ws.length = 1 := by rw [hl, Tab.wN_lt (by omega)]
        obtain ⟨x, rfl⟩ := List.length_eq_one_iff.1 h1
        simp at hg hu
        subst hg; subst hu
        rcases h with h | h
        · exact absurd h h6
        · rw [Nat.shiftRight_eq_div_pow] at h
          unfold Tab.fullN; rw [if_neg h6]
          have hp := Nat.two_pow_pos (2 ^ n)
          have := (Nat.div_eq_zero_iff_lt hp).1 h
          omega
theorem same_ok {B : Hp} {v1 v2 : Value} {a b : Tb} (h1 : Tbl B v1 a) (h2 : Tbl B v2 b) (hmax : a.ws.length < 2 ^ 62) : Rd Tryz.prog 72 #[v1, v2] B (· = .bool (decide (a = b))) := by
  obtain ⟨na, wa⟩ := a
  obtain ⟨nb, wb⟩ := b
  obtain ⟨s1, rfl, hs1, hw1⟩ := h1
  obtain ⟨s2, rfl, hs2, hw2⟩ := h2
  simp only at hs1 hs2 hw1 hw2 hmax ⊢
  intro g
  refine L72_sound (R := FnR _) ?_
  unfold L72
  intro b1 _ b3 _
  refine FAddr.mk (Ld.mk (by repeat (first | assumption | exact List.Mem.head _ | apply List.Mem.tail | apply List.mem_append_right)) rfl ?_)
  refine FAddr.mk (Ld.mk (by repeat (first | assumption | exact List.Mem.head _ | apply List.Mem.tail | apply List.mem_append_right)) rfl ?_)
  refine Bin.neD ?_
  refine Grp.or (decide (wa.length ≠ wb.length)) (fun _ => ?_) rfl fun gs => ?_
  · refine FAddr.mk (Ld.mk (by repeat (first | assumption | exact List.Mem.head _ | apply List.Mem.tail | apply List.mem_append_right)) rfl ?_)
    refine hs1.lenS ?_
    refine FAddr.mk (Ld.mk (by repeat (first | assumption | exact List.Mem.head _ | apply List.Mem.tail | apply List.mem_append_right)) rfl ?_)
    refine hs2.lenS ?_
    rw [iw_length, iw_length]
    exact Bin.neN ⟨rfl, rfl⟩
  rw [← Bool.decide_or]
  refine Br.dec (fun h => ?_) (fun h => ?_)
  · refine RdR.mk (by repeat (first | exact Ent.refl _ | apply Ent.cons | apply Ent.skip | apply Ent.prep | apply Ent.skips)) ?_
    rw [decide_eq_false]
    rintro e
    simp only [Tb.mk.injEq] at e
    rcases h with h | h
    · exact h e.1
    · exact h (by rw [e.2])
  · have hn : na = nb := Classical.byContradiction fun e => h (.inl e)
    have hl : wa.length = wb.length := Classical.byContradiction fun e => h (.inr e)
    refine ⟨fun vs H => ∃ j : Nat, vs = [.int .i64 (j : Int)] ∧ H = (b3, .cells (Value.cells (.agg #[.int .i64 nb, s2])) 55 (0, 0)) :: (b1, .cells (Value.cells (.agg #[.int .i64 na, s1])) 55 (0, 0)) :: B ∧ j ≤ wa.length ∧ ∀ i, i < j → wa[i]? = wb[i]?,
      fun vs _ => wa.length - nAt vs 0, JE.mk ⟨0, rfl, rfl, by omega, by omega⟩, ?_⟩
    rintro w H ⟨j, hv, rfl, hj, hall⟩ gs
    simp only [List.cons.injEq, and_true] at hv
    subst hv
    refine FAddr.mk (Ld.mk (by repeat (first | assumption | exact List.Mem.head _ | apply List.Mem.tail | apply List.mem_append_right)) rfl ?_)
    refine hs1.lenS ?_
    rw [iw_length]
    refine Bin.ltN (Br.dec (fun hlt => ?_) (fun hlt => ?_))
    · have ga : wa[j]? = some wa[j] := List.getElem?_eq_getElem hlt
      have gb : wb[j]? = some wb[j] := List.getElem?_eq_getElem (by omega)
      refine FAddr.mk (Ld.mk (by repeat (first | assumption | exact List.Mem.head _ | apply List.Mem.tail | apply List.mem_append_right)) rfl ?_)
      refine hs1.ld (iw_get ga) (fun _ h => by repeat (first | exact h | apply List.mem_cons_of_mem | apply List.mem_append_right)) ?_
      refine FAddr.mk (Ld.mk (by repeat (first | assumption | exact List.Mem.head _ | apply List.Mem.tail | apply List.mem_append_right)) rfl ?_)
      refine hs2.ld (iw_get gb) (fun _ h => by repeat (first | exact h | apply List.mem_cons_of_mem | apply List.mem_append_right)) ?_
      refine Bin.neN (Br.dec (fun hne => ?_) (fun hne => ?_))
      · refine RdR.mk (by repeat (first | exact Ent.refl _ | apply Ent.cons | apply Ent.skip | apply Ent.prep | apply Ent.skips)) ?_
        rw [decide_eq_false]
        rintro e
        simp only [Tb.mk.injEq] at e
        obtain ⟨_, rfl⟩ := e
        exact hne rfl
      · refine Bin.addN (b := 1) (by simp [lim]; omega) ?_
        refine Back.mk ⟨j + 1, rfl, rfl, by omega, fun i hi => ?_⟩ (by simp [nAt]; omega)
        by_cases e : i = j
        · subst e; rw [ga, gb]; simp; omega
        · exact hall i (by omega)
    · refine RdR.mk (by repeat (first | exact Ent.refl _ | apply Ent.cons | apply Ent.skip | apply Ent.prep | apply Ent.skips)) ?_
      rw [decide_eq_true]
      simp only [Tb.mk.injEq]
      refine ⟨hn, List.ext_getElem? fun i => ?_⟩
      by_cases hi : i < wa.length
      · exact hall i (by omega)
      · rw [List.getElem?_eq_none (by omega), List.getElem?_eq_none (by omega)]
def bcells (l : List Bool) : Array Value := (l.map Value.bool).toArray
theorem bcells_set (l : List Bool) (i : Nat) (b : Bool) : (bcells l).setIfInBounds i (.bool b) = bcells (l.set i b) := by simp [bcells, List.map_set]
theorem made_bools (n : Nat) : madeCells (Value.cells (.bool false)) (n * 1) = bcells (List.replicate n false) := by
  apply Array.ext
  · simp [madeCells, bcells]
  · intro i h1 h2
    simp [madeCells, bcells, Value.cells, Nat.mod_one]
def Bools (B : Hp) (v : Value) (l : List Bool) : Prop := Sl 1 B v (l.map fun b => [Value.bool b])
theorem Bools.block {B : Hp} {b cap : Nat} {l : List Bool} {T : TypeId} {fz : Nat × Nat} (hm : (b, Obj.cells (bcells l) T fz) ∈ B) (hc : l.length ≤ cap) : Bools B (.slice (some ⟨b, 0, none⟩) l.length cap) l := by
  refine ⟨fun r hr => by obtain ⟨b, _, rfl⟩ := List.mem_map.1 hr; rfl, .inr ⟨b, 0, cap, _, T, fz, by simp, by simpa using hc, hm, by simp [bcells], fun i r hi j v hj => ?_⟩⟩
  rw [List.getElem?_map] at hi
  cases hl : l[i]? with
  | none => rw [hl] at hi; simp at hi
  | some n =>
    rw [hl] at hi
    simp only [Option.map_some, Option.some.injEq] at hi
    subst hi
    cases j with
    | zero =>
      simp only [List.getElem?_cons_zero, Option.some.injEq] at hj
      subst hj
      simp [bcells, hl]
    | succ j => simp at hj
theorem Bools.mono {B B' : Hp} {v : Value} {l : List Bool} (h : Bools B v l) (hs : ∀ x ∈ B, x ∈ B') : Bools B' v l := Sl.mono h hs
theorem Bools.lenS {B : Hp} {v : Value} {l : List Bool} (h : Bools B v l) {K : Value → Prop} (hk : K (.int .i64 l.length)) : LenS v K := Sl.lenS h (by simpa using hk)
theorem Bools.ld {kd : IntKind} {B H : Hp} {v : Value} {l : List Bool} (h : Bools B v l) {i : Nat} {b : Bool} (hi : l[i]? = some b) (hs : ∀ x ∈ B, x ∈ H) {K : Value → Prop} (hk : K (.bool b)) : IAddr 1 v (.int kd (i : Int)) (fun p => Ld H p K) :=
  IAddr.sl h (by rw [List.getElem?_map, hi]; rfl) fun p hp => Ld.at hp hs hk
theorem MkSlice.bools {H : Hp} {T : TypeId} {kl : IntKind} {n : Nat} {K : Value → Hp → Prop} (hmax : n ≤ 281474976710656)
    (h : ∀ b, K (.slice (some ⟨b, 0, none⟩) n n) ((b, .cells (bcells (List.replicate n false)) T (0, 0)) :: H)) : MkSlice T 1 1 (.bool false) H (.int kl n) (.int kl n) K :=
  ⟨kl, kl, n, n, rfl, rfl, Nat.le_refl _, by omega, by omega, fun b _ => by rw [made_bools]; exact h b⟩
theorem St.bools {H : Hp} {b i : Nat} {l : List Bool} {x : Bool} {T : TypeId} {H' : Hp} {K : Hp → Prop} (hu : Upd b (.cells (bcells l) T (0, 0)) (.cells (bcells (l.set i x)) T (0, 0)) H H') (hi : i < l.length) (h : K H') :
    St 1 H (.pointer (some ⟨b, 0 + i * 1, none⟩)) (.bool x) K :=
  St.one (c := bcells l) (c' := bcells (l.set i x)) hu rfl (by simpa [bcells] using hi) (by rw [Nat.zero_add, Nat.mul_one]; exact bcells_set l i x) h
def fillAt (n : Nat) (bs : List Bool) (k : Nat) : List Nat := (List.range (Tab.wN n)).map fun i => Tab.wordP bs i (min 64 (k - 64 * i))
theorem fillAt_lt {n : Nat} {bs : List Bool} {k : Nat} : ∀ w ∈ fillAt n bs k, w < 18446744073709551616 := fun w hw => by
  obtain ⟨i, _, rfl⟩ := List.mem_map.1 hw
  exact Nat.lt_of_lt_of_le (Tab.wordP_lt bs i _) (Nat.pow_le_pow_right (n := 2) (by decide) (by omega : min 64 (k - 64 * i) ≤ 64))
theorem fillAt_skip {n k : Nat} {bs : List Bool} (h : bs.getD k false = false) : fillAt n bs (k + 1) = fillAt n bs k := by
  apply List.map_congr_left
  intro i _
  by_cases hi : 64 * i ≤ k ∧ k < 64 * i + 64
  · rw [show min 64 (k + 1 - 64 * i) = (k - 64 * i) + 1 by omega, show min 64 (k - 64 * i) = k - 64 * i by omega, Tab.wordP, show 64 * i + (k - 64 * i) = k by omega, h]; simp
  · rw [show min 64 (k + 1 - 64 * i) = min 64 (k - 64 * i) by omega]
theorem fillAt_set {n k : Nat} {bs : List Bool} (h : bs.getD k false = true) (hk : k / 64 < Tab.wN n) : (fillAt n bs k)[k / 64]? = some (Tab.wordP bs (k / 64) (k % 64)) ∧ (fillAt n bs k).set (k / 64) (Tab.wordP bs (k / 64) (k % 64) + 2 ^ (k % 64)) = fillAt n bs (k + 1) := by
  have e : min 64 (k - 64 * (k / 64)) = k % 64 := by omega
  refine ⟨by simp [fillAt, hk, e], ?_⟩
  apply List.ext_getElem?
  intro j
  by_cases hj : j = k / 64
  · subst hj
    rw [List.getElem?_set_self (by simp [fillAt, hk])]
    simp only [fillAt, List.getElem?_map, List.getElem?_range hk, Option.map_some, Option.some.injEq]
    rw [show min 64 (k + 1 - 64 * (k / 64)) = k % 64 + 1 by omega]
    exact Tab.wordP_add (by rw [show 64 * (k / 64) + k % 64 = k by omega]; exact h)
  · rw [List.getElem?_set_ne (Ne.symm hj)]
    by_cases hlt : j < Tab.wN n
    · simp only [fillAt, List.getElem?_map, List.getElem?_range hlt, Option.map_some, Option.some.injEq]
      rw [show min 64 (k + 1 - 64 * j) = min 64 (k - 64 * j) by omega]
    · rw [List.getElem?_eq_none (by simp [fillAt]; omega), List.getElem?_eq_none (by simp [fillAt]; omega)]
theorem fill_ok {n : Nat} (hn : n ≤ 16) {B : Hp} {v : Value} {bs : List Bool} (hb : Bools B v bs) (hl : bs.length ≤ 64 * Tab.wN n) (hn' : bs.length ≤ 64 * Tab.wN n) :
    Px Tryz.prog 37 #[.int .i64 (n : Int), v] B (fun v H => Tbl H v ⟨n, Tab.fillW n (bs)⟩) := by
  intro g
  have hwl := Tab.wN_le hn
  refine L37_sound (R := FnR _) ?_
  unfold L37
  intro b1 _
  refine CallF.rd (.cons .here) (rwords_ok hn B) ?_
  rintro v rfl
  refine MkSlice.ints (bytesW hn).1 (bytesW hn).2 fun bw => ?_
  refine Build.mk (cs := [.int .i64 (n : Int), .slice (some ⟨bw, 0, none⟩) (Tab.wN n) (Tab.wN n)]) (by kernel_rfl) ?_
  intro b8 _
  refine St.whole (r := [.int .i64 (n : Int), .slice (some ⟨bw, 0, none⟩) (Tab.wN n) (Tab.wN n)]) (by exact Upd.head _) rfl rfl (by simp [Value.oneCell']) ?_
  refine ⟨fun vs H => ∃ k : Nat, vs = [.int .i64 (k : Int)] ∧ k ≤ bs.length ∧ H = (b8, .cells (List.toArray [.int .i64 (n : Int), .slice (some ⟨bw, 0, none⟩) (Tab.wN n) (Tab.wN n)]) 55 (0, 0)) ::
      (bw, .cells (icells .u64 (iw (fillAt n bs k))) 29 (0, 0)) :: (b1, .cells #[.int .i64 0, .slice none 0 0] 55 (0, 0)) :: B,
    fun vs _ => bs.length - nAt vs 0, JE.mk ⟨0, rfl, by omega, ?_⟩, ?_⟩
  · have : List.replicate (Tab.wN n) (0 : Int) = iw (fillAt n bs 0) := by
      apply List.ext_getElem?
      intro j
      unfold iw fillAt
      by_cases hj : j < Tab.wN n
      · simp [hj, Tab.wordP]
      · rw [List.getElem?_eq_none (by simp; omega), List.getElem?_eq_none (by simp; omega)]
    rw [this]
  rintro w H ⟨k, hv, hk, rfl⟩ gs
  simp only [List.cons.injEq, and_true] at hv
  subst hv
  refine hb.lenS (Bin.ltN (Br.dec (fun hlt => ?_) (fun hlt => ?_)))
  · intro J hJ
    have hg : bs[k]? = some bs[k] := List.getElem?_eq_getElem hlt
    have hgd : bs.getD k false = bs[k] := by rw [List.getD_eq_getElem?_getD, hg]; rfl
    refine hb.ld hg (fun _ h => by repeat (first | exact h | apply List.mem_cons_of_mem | apply List.mem_append_right)) ?_
    cases hbk : bs[k]
    · refine Br.no (JE.mk (hJ _ fun gs => ?_))
      refine Bin.addN (b := 1) (by simp [lim]; omega) ?_
      exact Back.mk ⟨k + 1, rfl, by omega, by rw [fillAt_skip (by rw [hgd, hbk])]⟩ (by simp [nAt]; omega)
    · obtain ⟨f1, f2⟩ := fillAt_set (n := n) (k := k) (bs := bs) (by rw [hgd, hbk]) (by omega)
      refine Br.yes (DR.self ?_)
      refine FAddr.mk (Ld.mk (by repeat (first | assumption | exact List.Mem.head _ | apply List.Mem.tail | apply List.mem_append_right)) rfl ?_)
      refine Bin.divN (b := 64) (by simp [lim]; omega) (by decide) ?_
      have hlen : (fillAt n bs k).length = Tab.wN n := by simp [fillAt]
      refine IAddr.nat (by omega) ?_
      refine Ld.mk (v := .int .u64 ((Tab.wordP bs (k / 64) (k % 64) : Nat) : Int)) (by exact .tail _ (.head _)) ?_ ?_
      · simp only [icells, Nat.zero_add, Nat.mul_one, List.getElem?_toArray, List.getElem?_map, iw_get f1, Option.map_some]
      refine Bin.modN (b := 64) (by decide) ?_
      refine Bin.shlU (a := 1) ?_
      have h2 : 2 ^ (k % 64) < 18446744073709551616 := Nat.pow_lt_pow_right (a := 2) (n := 64) (by decide) (Nat.mod_lt _ (by decide))
      rw [Nat.one_shiftLeft, Nat.mod_eq_of_lt h2]
      have h3 := Tab.wordP_lt bs (k / 64) (k % 64 + 1)
      have h4 : 2 ^ (k % 64 + 1) ≤ 18446744073709551616 := Nat.pow_le_pow_right (n := 2) (by decide) (by have := Nat.mod_lt k (by decide : 64 > 0); omega : k % 64 + 1 ≤ 64)
      rw [← Tab.wordP_add (by rw [show 64 * (k / 64) + k % 64 = k by omega, hgd, hbk])] at h3
      refine Bin.addN (by simp only [lim]; omega) ?_
      refine IAddr.nat (by omega) ?_
      refine St.ints (l := iw (fillAt n bs k)) (by exact .tail (.head _)) (by simp; omega) ?_
      have e : (iw (fillAt n bs k)).set (k / 64) ((Tab.wordP bs (k / 64) (k % 64) + 2 ^ (k % 64) : Nat) : Int) = iw (fillAt n bs (k + 1)) := by rw [← f2]; simp [iw, List.map_set]
      rw [e]
      refine JE.mk (hJ _ fun gs => ?_)
      refine Bin.addN (b := 1) (by simp [lim]; omega) ?_
      exact Back.mk ⟨k + 1, rfl, by omega, rfl⟩ (by simp [nAt]; omega)
  · have : k = bs.length := by omega
    subst this
    have hfin : fillAt n bs bs.length = Tab.fillW n bs := by
      apply List.map_congr_left
      intro i _
      apply Nat.eq_of_testBit_eq; intro j
      rw [Tab.testBit_wordP, Tab.testBit_wordP]
      by_cases h1 : 64 * i + j < bs.length
      · by_cases h2 : j < 64
        · rw [show decide (j < min 64 (bs.length - 64 * i)) = true by simp; omega, show decide (j < 64) = true by simpa using h2]
        · rw [show decide (j < min 64 (bs.length - 64 * i)) = false by simp; omega, show decide (j < 64) = false by simpa using h2]
      · have : bs.getD (64 * i + j) false = false := by rw [List.getD_eq_getElem?_getD, List.getElem?_eq_none (by omega)]; rfl
        rw [this]; simp
    rw [hfin]
    refine LdA.whole (r := [.int .i64 (n : Int), .slice (some ⟨bw, 0, none⟩) (Tab.wN n) (Tab.wN n)]) (by exact List.Mem.head _) rfl ?_
    refine St.whole (r := [.int .i64 (n : Int), .slice (some ⟨bw, 0, none⟩) (Tab.wN n) (Tab.wN n)]) (by exact .tail (.tail (.head _))) rfl rfl (by simp [Value.oneCell']) ?_
    refine LdA.whole (r := [.int .i64 (n : Int), .slice (some ⟨bw, 0, none⟩) (Tab.wN n) (Tab.wN n)]) (by exact .tail _ (.tail _ (.head _))) rfl ?_
    refine PxR.mk (by repeat (first | exact Grow.refl _ | apply Grow.cons | apply Grow.app)) ⟨_, rfl, ?_⟩
    have hlt : ∀ w ∈ Tab.fillW n bs, w < 18446744073709551616 := by rw [← hfin]; exact fillAt_lt
    have := Words.block (b := bw) (cap := Tab.wN n) (ws := Tab.fillW n bs) (T := 29) (fz := (0, 0)) (B := (b8, .cells (List.toArray [.int .i64 (n : Int), .slice (some ⟨bw, 0, none⟩) (Tab.wN n) (Tab.wN n)]) 55 (0, 0)) ::
      (bw, .cells (icells .u64 (iw (Tab.fillW n bs))) 29 (0, 0)) :: (b1, .cells (List.toArray [.int .i64 (n : Int), .slice (some ⟨bw, 0, none⟩) (Tab.wN n) (Tab.wN n)]) 55 (0, 0)) :: B) (by exact .tail _ (.head _)) (by simp [Tab.fillW]) hlt
    simpa [Tab.fillW] using this
end Go.Proofs
set_option maxRecDepth 100000
namespace Go.Proofs
open Go Go.Sx
def varB (n v : Nat) : List Bool := (List.range (2 ^ n)).map fun x => x.testBit v
theorem varset {W v i : Nat} (hi : i < W) : ((List.range W).map fun k => if k < i then k.testBit v else false).set i (i.testBit v) = (List.range W).map fun k => if k < i + 1 then k.testBit v else false := by
  apply List.ext_getElem?
  intro j
  by_cases e : i = j
  · subst e; simp [hi]
  · rw [List.getElem?_set_ne e]
    by_cases hj : j < W
    · simp only [List.getElem?_map, List.getElem?_range hj, Option.map_some]
      by_cases h2 : j < i
      · rw [if_pos h2, if_pos (by omega)]
      · rw [if_neg h2, if_neg (by omega)]
    · rw [List.getElem?_eq_none (by simp; omega), List.getElem?_eq_none (by simp; omega)]
theorem pow_words {n : Nat} : 2 ^ n ≤ 64 * Tab.wN n := by
  by_cases h : 6 ≤ n
  · rw [Tab.wN_ge h]
    have : 2 ^ n = 64 * 2 ^ (n - 6) := by rw [show (64 : Nat) = 2 ^ 6 by rfl, ← Nat.pow_add]; congr 1; omega
    omega
  · have h1 : 2 ^ n ≤ 32 := Nat.pow_le_pow_right (n := 2) (by decide) (by omega : n ≤ 5)
    have := Tab.wN_pos n; omega
theorem var_ok {n v : Nat} (hn : n ≤ 16) (hv : v < 64) (B : Hp) : Px Tryz.prog 145 #[.int .i64 (n : Int), .int .i64 (v : Int)] B (fun r H => Tbl H r ⟨n, Tab.fillW n (varB n v)⟩) := by
  intro g
  have hp : 2 ^ n ≤ 65536 := Nat.pow_le_pow_right (n := 2) (by decide) hn
  refine L145_sound (R := FnR _) ?_
  unfold L145
  intro b1 _
  refine Bin.shlN (a := 1) (by simp [IntKind.bits]; omega) (by rw [Nat.one_shiftLeft]; simp [lim]; omega) ?_
  rw [Nat.one_shiftLeft]
  refine MkSlice.bools (by omega) fun b2 => ?_
  have e0 : List.replicate (2 ^ n) false = (List.range (2 ^ n)).map fun k => if k < 0 then k.testBit v else false := by
    apply List.ext_getElem?
    intro j
    by_cases hj : j < 2 ^ n
    · simp [hj]
    · rw [List.getElem?_eq_none (by simp; omega), List.getElem?_eq_none (by simp; omega)]
  rw [e0]
  refine ⟨fun vs H => ∃ k : Nat, vs = [.int .i64 (k : Int)] ∧ k ≤ 2 ^ n ∧ H = (b1, .cells #[.int .i64 0, .slice none 0 0] 55 (0, 0)) :: (b2, .cells (bcells ((List.range (2 ^ n)).map fun j => if j < k then j.testBit v else false)) 4 (0, 0)) :: B,
    fun vs _ => 2 ^ n - nAt vs 0, JE.of .swap ⟨0, rfl, Nat.zero_le _, rfl⟩, ?_⟩
  rintro w H ⟨k, hv, hk, rfl⟩ gs
  simp only [List.cons.injEq, and_true] at hv
  subst hv
  refine LenS.mk (Bin.ltN (Br.dec (fun hlt => ?_) (fun hlt => ?_)))
  · refine Bin.shrN (by simp [lim]; omega) (Bin.modN (b := 2) (by decide) (Bin.eqN (b := 1) ?_))
    have e1 : decide ((k >>> v) % 2 = 1) = k.testBit v := by
      cases hb : k.testBit v
      · rw [decide_eq_false]; rw [Tab.bit_mod, hb]; simp
      · rw [decide_eq_true]; rw [Tab.bit_mod, hb]
    rw [e1]
    refine IAddr.nat hlt ?_
    refine St.bools (l := (List.range (2 ^ n)).map fun j => if j < k then j.testBit v else false) (by exact .tail (.head _)) (by simpa using hlt) ?_
    rw [varset hlt]
    refine Bin.addN (b := 1) (by simp [lim]; omega) ?_
    exact Back.mk ⟨k + 1, rfl, by omega, rfl⟩ (by simp [nAt]; omega)
  · have : k = 2 ^ n := by omega
    subst this
    have e2 : ((List.range (2 ^ n)).map fun j => if j < 2 ^ n then j.testBit v else false) = varB n v := List.map_congr_left fun k hk => by rw [if_pos (List.mem_range.1 hk)]
    rw [e2]
    have hlen : (varB n v).length = 2 ^ n := by simp [varB]
    have hB := Bools.block (b := b2) (cap := 2 ^ n) (l := varB n v) (T := 4) (fz := (0, 0)) (B := (b2, .cells (bcells (varB n v)) 4 (0, 0)) :: B) (.head _) (by omega)
    rw [hlen] at hB
    refine CallF.px (.cons .here) (fill_ok hn hB (by rw [hlen]; exact pow_words) (by rw [hlen]; exact pow_words)) ?_
    rintro r N ⟨s, rfl, hw⟩
    have hone := oneCell_words hw
    refine St.whole (r := [.int .i64 (n : Int), s]) (by exact .head _) rfl rfl (by simpa [Value.oneCell'] using hone) ?_
    refine LdA.whole (r := [.int .i64 (n : Int), s]) (by exact .head _) rfl ?_
    exact PxR.mk (by repeat (first | exact Grow.refl _ | apply Grow.cons | apply Grow.app)) ⟨s, rfl, hw.mono (fun _ h => by repeat (first | exact h | apply List.mem_cons_of_mem | apply List.mem_append_right))⟩
theorem var6_ok {v : Nat} (hv : v < 6) (B : Hp) : Px Tryz.prog 145 #[.int .i64 6, .int .i64 (v : Int)] B (fun r H => Tbl H r ⟨6, [Tab.mask v]⟩) :=
  (var_ok (n := 6) (by decide) (by omega) B).mono fun r H ⟨h1, h2⟩ => ⟨h1, by
    have e : Tab.fillW 6 (varB 6 v) = [Tab.mask v] := by
      have : Tab.wN 6 = 1 := rfl
      simp only [Tab.fillW, this, List.range_one, List.map_cons, List.map_nil, List.cons.injEq, and_true]
      exact Tab.mask_fill v
    rw [e] at h2; exact h2⟩
theorem cofset {n u i : Nat} {ws : List Nat} {c : Bool} (hf : Tab.Frm n ws) (hu : u < n) (hi : i < Tab.wN n) :
    (iw ((List.range (Tab.wN n)).map fun k => if k < i then Tab.halfW ws u c k &&& Tab.fullN n else 0)).set i ((Tab.halfW ws u c i : Nat) : Int) = iw ((List.range (Tab.wN n)).map fun k => if k < i + 1 then Tab.halfW ws u c k &&& Tab.fullN n else 0) := by
  have := range_set (G := fun k => Tab.halfW ws u c k &&& Tab.fullN n) hi
  rw [Tab.halfW_full hf hu hi] at this
  exact this
def cofH (b15 bw b3 b1 n u i : Nat) (s : Value) (ws : List Nat) (c : Bool) (B : Hp) : Hp :=
  (b15, .cells (List.toArray [.int .i64 (n : Int), .slice (some ⟨bw, 0, none⟩) (Tab.wN n) (Tab.wN n)]) 55 (0, 0)) ::
        (bw, .cells (icells .u64 (iw ((List.range (Tab.wN n)).map fun k => if k < i then Tab.halfW ws u c k &&& Tab.fullN n else 0))) 29 (0, 0)) :: (b3, .cells #[.int .i64 0, .slice none 0 0] 55 (0, 0)) :: (b1, .cells (Value.cells (.agg #[.int .i64 (n : Int), s])) 55 (0, 0)) :: B
theorem rcof_ok {B : Hp} {v : Value} {n u : Nat} {ws : List Nat} {c : Bool} (ht : Tbl B v ⟨n, ws⟩) (hf : Tab.Frm n ws) (hu : u < n) :
    Px Tryz.prog 119 #[v, .int .i64 (u : Int), .bool c] B (fun v H => Tbl H v ⟨n, Tab.cof n ws u c⟩) := by
  obtain ⟨s, rfl, hs, hw⟩ := ht
  simp only at hs hw
  have hn := hf.n16
  have hwl := Tab.wN_le hn
  have hwsl := hf.len
  have hgs : ∀ j, j < Tab.wN n → ws[j]? = some (ws.getD j 0) := fun j hj => by rw [List.getElem?_eq_getElem (by omega), List.getD_eq_getElem?_getD, List.getElem?_eq_getElem (by omega)]; rfl
  have hgl : ∀ j, j < Tab.wN n → ws.getD j 0 < 18446744073709551616 := fun j hj => hw _ (List.mem_of_getElem? (hgs j hj))
  intro g
  refine L119_sound (R := FnR _) ?_
  unfold L119
  intro b1 _ b3 _
  refine DR.self ?_
  refine FAddr.mk (Ld.mk (by repeat (first | assumption | exact List.Mem.head _ | apply List.Mem.tail | apply List.mem_append_right)) rfl ?_)
  refine FAddr.mk (Ld.mk (by repeat (first | assumption | exact List.Mem.head _ | apply List.Mem.tail | apply List.mem_append_right)) rfl ?_)
  refine hs.lenS ?_
  rw [iw_length, hf.len]
  intro F
  refine MkSlice.ints (bytesW hn).1 (bytesW hn).2 fun bw => ⟨.tail, ?_⟩
  refine Build.mk (cs := [.int .i64 (n : Int), .slice (some ⟨bw, 0, none⟩) (Tab.wN n) (Tab.wN n)]) (by kernel_rfl) ?_
  intro b15 _ F
  refine St.whole (r := [.int .i64 (n : Int), .slice (some ⟨bw, 0, none⟩) (Tab.wN n) (Tab.wN n)]) (by exact Upd.head _) rfl rfl (by simp [Value.oneCell']) ?_
  rw [range_zero (G := fun k => Tab.halfW ws u c k &&& Tab.fullN n)]
  have hend : ∀ N : Hp, FnR (fun v H => Grow B H ∧ Tbl H v ⟨n, Tab.cof n ws u c⟩) (.returned (.agg (List.toArray [.int .i64 (n : Int), .slice (some ⟨bw, 0, none⟩) (Tab.wN n) (Tab.wN n)])))
      (N ++ (bw, .cells (icells .u64 (iw (Tab.cof n ws u c))) 29 (0, 0)) :: B) := fun N => by
    refine PxR.mk (by repeat (first | exact Grow.refl _ | apply Grow.cons | apply Grow.app)) ⟨_, rfl, ?_⟩
    have := Words.block (b := bw) (cap := Tab.wN n) (ws := Tab.cof n ws u c) (T := 29) (fz := (0, 0)) (B := N ++ (bw, .cells (icells .u64 (iw (Tab.cof n ws u c))) 29 (0, 0)) :: B) (by exact List.mem_append_right _ (.head _)) (by simp [Tab.cof]) (fun w hw => (Tab.frm_cof hn).lt hw)
    simpa [Tab.cof] using this
  have hlast : ∀ N : Hp, LdA 2 (cofH b15 bw b3 b1 n u (Tab.wN n) s ws c (N ++ B)) (.pointer (some ⟨b15, 0, none⟩)) fun v50 => St 2 (cofH b15 bw b3 b1 n u (Tab.wN n) s ws c (N ++ B)) (.pointer (some ⟨b3, 0, none⟩)) v50 fun H51 =>
      LdA 2 H51 (.pointer (some ⟨b3, 0, none⟩)) fun v52 => FnR (fun v H => Grow B H ∧ Tbl H v ⟨n, Tab.cof n ws u c⟩) (.returned v52) H51 := fun N => by
    unfold cofH
    rw [range_done]
    refine LdA.whole (r := [.int .i64 (n : Int), .slice (some ⟨bw, 0, none⟩) (Tab.wN n) (Tab.wN n)]) (by exact List.Mem.head _) rfl ?_
    refine St.whole (r := [.int .i64 (n : Int), .slice (some ⟨bw, 0, none⟩) (Tab.wN n) (Tab.wN n)]) (by exact .tail (.tail (.head _))) rfl rfl (by simp [Value.oneCell']) ?_
    refine LdA.whole (r := [.int .i64 (n : Int), .slice (some ⟨bw, 0, none⟩) (Tab.wN n) (Tab.wN n)]) (by exact .tail _ (.tail _ (.head _))) rfl ?_
    obtain ⟨v, H, h1, h2, h3⟩ := hend []
    exact ⟨v, H, h1, .skip (Ent.trans (.cons (.skip (.skip .right))) h2), h3⟩
  refine Bin.geN (a := u) (b := 6) (Br.dec (fun h6 => ?_) (fun h6 => ?_))
  · have hp : 2 ^ (u - 6) ≤ 1024 := Nat.pow_le_pow_right (n := 2) (by decide) (by omega : u - 6 ≤ 10)
    have hp0 := Nat.two_pow_pos (u - 6)
    refine Bin.subN (b := 6) (by simp [lim]; omega) h6 ?_
    refine Bin.shlN (a := 1) (by simp [IntKind.bits]; omega) (by rw [Nat.one_shiftLeft]; simp [lim]; omega) ?_
    rw [Nat.one_shiftLeft]
    refine ⟨fun vs H => ∃ i : Nat, vs = [.int .i64 (i : Int)] ∧ i ≤ Tab.wN n ∧ H = cofH b15 bw b3 b1 n u i s ws c ([] ++ B), fun vs _ => Tab.wN n - nAt vs 0, JE.mk ⟨0, rfl, Nat.zero_le _, rfl⟩, ?_⟩
    rintro w H ⟨i, hv, hi, rfl⟩ gs
    simp only [List.cons.injEq, and_true] at hv
    subst hv
    by_cases hlt : i < Tab.wN n
    · unfold cofH
      refine FAddr.mk (Ld.mk (by repeat (first | assumption | exact List.Mem.head _ | apply List.Mem.tail | apply List.mem_append_right)) rfl ?_)
      refine hs.lenS ?_
      rw [iw_length, hf.len]
      refine Bin.ltN (Br.decT hlt ?_)
      obtain ⟨sd1, sd2⟩ := Tab.setb_div i (u - 6)
      have hq : i / 2 ^ (u - 6) ≤ i := Nat.div_le_self _ _
      have hm : i / 2 ^ (u - 6) % 2 * 2 ^ (u - 6) ≤ i := by
        have h1 := Nat.div_add_mod i (2 ^ (u - 6))
        have h2 : i / 2 ^ (u - 6) % 2 * 2 ^ (u - 6) ≤ 2 ^ (u - 6) * (i / 2 ^ (u - 6)) := by rw [Nat.mul_comm]; exact Nat.mul_le_mul_left _ (Nat.mod_le _ _)
        omega
      refine Bin.divN (by simp [lim]; omega) (by omega) (Bin.modN (b := 2) (by decide) ?_)
      refine Bin.mulN (by simp only [lim]; omega) (Bin.subN (by simp [lim]; omega) hm ?_)
      have hset : Tab.setb i (u - 6) c < Tab.wN n := by
        rw [Tab.wN_ge (by omega)] at hlt ⊢
        exact Tab.setb_lt hlt (by omega)
      intro J hJ
      have hfin : JE J [.int .i64 ((Tab.setb i (u - 6) c : Nat) : Int)] (cofH b15 bw b3 b1 n u i s ws c ([] ++ B)) := by
        refine JE.mk (hJ _ _ fun gs => ?_)
        unfold cofH
        refine DR.self ?_
        refine FAddr.mk (Ld.mk (by repeat (first | assumption | exact List.Mem.head _ | apply List.Mem.tail | apply List.mem_append_right)) rfl ?_)
        refine FAddr.mk (Ld.mk (by repeat (first | assumption | exact List.Mem.head _ | apply List.Mem.tail | apply List.mem_append_right)) rfl ?_)
        refine hs.ld (iw_get (hgs _ hset)) (fun _ h => by repeat (first | exact h | apply List.mem_cons_of_mem | apply List.mem_append_right)) ?_
        refine IAddr.nat hlt ?_
        refine St.ints (l := iw _) (by exact .tail (.head _)) (by simpa using hlt) ?_
        have e : Tab.halfW ws u c i = ws.getD (Tab.setb i (u - 6) c) 0 := by unfold Tab.halfW; rw [if_pos h6]
        rw [← e, cofset hf hu hlt]
        refine Bin.addN (b := 1) (by simp [lim]; omega) ?_
        exact Back.mk ⟨i + 1, rfl, by omega, rfl⟩ (by simp [nAt]; omega)
      unfold cofH at hfin
      cases c
      · refine Br.no ?_
        rw [sd1]; exact hfin
      · refine Br.yes ?_
        refine Bin.addN (by simp only [lim]; omega) ?_
        rw [sd2]; exact hfin
    · have : i = Tab.wN n := by omega
      subst this
      have := hlast []
      unfold cofH at this ⊢
      refine FAddr.mk (Ld.mk (by repeat (first | assumption | exact List.Mem.head _ | apply List.Mem.tail | apply List.mem_append_right)) rfl ?_)
      refine hs.lenS ?_
      rw [iw_length, hf.len]
      exact Bin.ltN (Br.decF hlt this)
  · have hp : 2 ^ u ≤ 32 := Nat.pow_le_pow_right (n := 2) (by decide) (by omega : u ≤ 5)
    have hm := Tab.mask_lt u
    refine CallF.px (B := B) (.cons (.cons (.cons (.cons .here)))) (var6_ok (by omega) B) ?_
    rintro r N ⟨sm, rfl, hsm, _⟩
    refine Fld.mk rfl ?_
    refine hsm.ld (i := 0) (n := (Tab.mask u : Int)) rfl (fun _ h => by repeat (first | exact h | apply List.mem_cons_of_mem | apply List.mem_append_right)) ?_
    refine ⟨fun vs H => ∃ i : Nat, vs = [.int .i64 (i : Int)] ∧ i ≤ Tab.wN n ∧ H = cofH b15 bw b3 b1 n u i s ws c (N ++ B), fun vs _ => Tab.wN n - nAt vs 0, JE.mk ⟨0, rfl, Nat.zero_le _, rfl⟩, ?_⟩
    rintro w H ⟨i, hv, hi, rfl⟩ gs
    simp only [List.cons.injEq, and_true] at hv
    subst hv
    by_cases hlt : i < Tab.wN n
    · have hback : ∀ J : List Value → Hp → Prop, J [] (cofH b15 bw b3 b1 n u (i + 1) s ws c (N ++ B)) → JE J [] ((b15, .cells (List.toArray [.int .i64 (n : Int), .slice (some ⟨bw, 0, none⟩) (Tab.wN n) (Tab.wN n)]) 55 (0, 0)) ::
        (bw, .cells (icells .u64 ((iw ((List.range (Tab.wN n)).map fun k => if k < i then Tab.halfW ws u c k &&& Tab.fullN n else 0)).set i ((Tab.halfW ws u c i : Nat) : Int))) 29 (0, 0)) :: (b3, .cells #[.int .i64 0, .slice none 0 0] 55 (0, 0)) :: (b1, .cells (Value.cells (.agg #[.int .i64 (n : Int), s])) 55 (0, 0)) :: (N ++ B)) := fun J hJ => by
        rw [cofset hf hu hlt]; exact JE.mk hJ
      unfold cofH
      refine FAddr.mk (Ld.mk (by repeat (first | assumption | exact List.Mem.head _ | apply List.Mem.tail | apply List.mem_append_right)) rfl ?_)
      refine hs.lenS ?_
      rw [iw_length, hf.len]
      refine Bin.ltN (Br.decT hlt ?_)
      intro J hJ
      have hwi := hgl i hlt
      have hfin := hback J (hJ _ fun gs => by
        refine Bin.addN (b := 1) (by simp [lim]; omega) ?_
        exact Back.mk ⟨i + 1, rfl, by omega, rfl⟩ (by simp [nAt]; omega))
      cases c
      · refine Br.no ?_
        refine FAddr.mk (Ld.mk (by repeat (first | assumption | exact List.Mem.head _ | apply List.Mem.tail | apply List.mem_append_right)) rfl ?_)
        refine hs.ld (iw_get (hgs i hlt)) (fun _ h => by repeat (first | exact h | apply List.mem_cons_of_mem | apply List.mem_append_right)) ?_
        refine Bin.andnN (by simpa [lim] using hwi) (by simpa [lim] using hm) ?_
        refine DR.self ?_
        refine FAddr.mk (Ld.mk (by repeat (first | assumption | exact List.Mem.head _ | apply List.Mem.tail | apply List.mem_append_right)) rfl ?_)
        refine Bin.shlU (a := 1) ?_
        rw [Nat.one_shiftLeft, Nat.mod_eq_of_lt (by omega)]
        refine Bin.shlU ?_
        have := andn_le (ws.getD i 0) (Tab.mask u)
        refine Bin.orN (by simp only [lim]; omega) (by simp only [lim]; omega) ?_
        refine IAddr.nat hlt ?_
        refine St.ints (l := iw _) (by exact .tail (.head _)) (by simpa using hlt) ?_
        have e : Tab.halfW ws u false i = andn (ws.getD i 0) (Tab.mask u) ||| (andn (ws.getD i 0) (Tab.mask u) <<< 2 ^ u) % 18446744073709551616 := by unfold Tab.halfW; rw [if_neg h6]; rfl
        rw [← e]; exact hfin
      · refine Br.yes ?_
        refine FAddr.mk (Ld.mk (by repeat (first | assumption | exact List.Mem.head _ | apply List.Mem.tail | apply List.mem_append_right)) rfl ?_)
        refine hs.ld (iw_get (hgs i hlt)) (fun _ h => by repeat (first | exact h | apply List.mem_cons_of_mem | apply List.mem_append_right)) ?_
        refine Bin.andN (by simpa [lim] using hwi) (by simpa [lim] using hm) ?_
        have h1 : ws.getD i 0 &&& Tab.mask u ≤ ws.getD i 0 := Nat.and_le_left
        refine DR.self ?_
        refine FAddr.mk (Ld.mk (by repeat (first | assumption | exact List.Mem.head _ | apply List.Mem.tail | apply List.mem_append_right)) rfl ?_)
        refine Bin.shlU (a := 1) ?_
        rw [Nat.one_shiftLeft, Nat.mod_eq_of_lt (by omega)]
        refine Bin.shrN (by simp only [lim]; omega) ?_
        have h2 := Nat.shiftRight_le (ws.getD i 0 &&& Tab.mask u) (2 ^ u)
        refine Bin.orN (by simp only [lim]; omega) (by simp only [lim]; omega) ?_
        refine IAddr.nat hlt ?_
        refine St.ints (l := iw _) (by exact .tail (.head _)) (by simpa using hlt) ?_
        have e : Tab.halfW ws u true i = (ws.getD i 0 &&& Tab.mask u) ||| (ws.getD i 0 &&& Tab.mask u) >>> 2 ^ u := by unfold Tab.halfW; rw [if_neg h6]; rfl
        rw [← e]; exact hfin
    · have : i = Tab.wN n := by omega
      subst this
      have := hlast N
      unfold cofH at this ⊢
      refine FAddr.mk (Ld.mk (by repeat (first | assumption | exact List.Mem.head _ | apply List.Mem.tail | apply List.mem_append_right)) rfl ?_)
      refine hs.lenS ?_
      rw [iw_length, hf.len]
      exact Bin.ltN (Br.decF hlt this)
theorem depends_ok {B : Hp} {v : Value} {n u : Nat} {ws : List Nat} (ht : Tbl B v ⟨n, ws⟩) (hf : Tab.Frm n ws) (hu : u < n) :
    Rd Tryz.prog 118 #[v, .int .i64 (u : Int)] B (· = .bool (Tab.dep n ws u)) := by
  obtain ⟨s, rfl, hw⟩ := ht
  intro g
  refine L118_sound (R := FnR _) ?_
  unfold L118
  intro b1 _
  refine DR.self ?_
  refine LdA.whole (r := [.int .i64 (n : Int), s]) (by exact .head _) rfl (LdA.whole (r := [.int .i64 (n : Int), s]) (by exact .head _) rfl ?_)
  refine CallF.px (.cons .here) (rcof_ok (v := .agg (List.toArray [.int .i64 (n : Int), s])) (n := n) (ws := ws) ⟨s, rfl, hw⟩ hf hu) ?_
  rintro v N h1
  refine ⟨.cons .right, ?_⟩
  refine CallF.px (B := N ++ B) (.cons .here) (rcof_ok (v := .agg (List.toArray [.int .i64 (n : Int), s])) (n := n) (ws := ws) ⟨s, rfl, hw.mono (fun _ h => by repeat (first | exact h | apply List.mem_cons_of_mem | apply List.mem_append_right))⟩ hf hu) ?_
  rintro v N' h2
  refine ⟨.cons (.skips .right), ?_⟩
  have f1 := frm_len (Tab.frm_cof (v := u) (ws := ws) (b := false) hf.n16)
  refine CallF.rd (B := N' ++ (N ++ B)) (.cons .here) (same_ok (h1.mono (fun _ h => by repeat (first | exact h | apply List.mem_cons_of_mem | apply List.mem_append_right))) h2 (by simp only; omega)) ?_
  rintro v rfl
  refine ⟨.cons (.skips .right), Un.not ?_⟩
  refine RdR.mk (.skip (.skips .right)) ?_
  congr 1
  simp [Tab.dep]
end Go.Proofs
set_option maxRecDepth 100000
namespace Go.Proofs
open Go Go.Sx
def tbs (n : Nat) (L : List (List Nat)) : List Tb := L.map fun ws => ⟨n, ws⟩
theorem tbs_length (n : Nat) (L : List (List Nat)) : (tbs n L).length = L.length := by simp [tbs]
theorem tbs_get {n : Nat} {L : List (List Nat)} {i : Nat} {ws : List Nat} (h : L[i]? = some ws) : (tbs n L)[i]? = some ⟨n, ws⟩ := by simp [tbs, h]
theorem tbs_snoc (n : Nat) (L : List (List Nat)) (ws : List Nat) : tbs n L ++ [⟨n, ws⟩] = tbs n (L ++ [ws]) := by simp [tbs]
theorem in_ok {B : Hp} {v1 v2 : Value} {n : Nat} {L : List (List Nat)} {ws : List Nat} (hL : Tbls B v1 (tbs n L)) (hf : ∀ t ∈ L, Tab.Frm n t) (ht : Tbl B v2 ⟨n, ws⟩) (hws : ws.length ≤ 4294967296) (hmax : L.length < 4611686018427387904) :
    Rd Tryz.prog 169 #[v1, v2] B (· = .bool (decide (ws ∈ L))) := by
  obtain ⟨s, rfl, hw⟩ := ht
  intro g
  refine L169_sound (R := FnR _) ?_
  unfold L169
  intro b1 _
  refine hL.lenS ?_
  rw [tbs_length]
  refine ⟨fun vs H => ∃ (k : Nat) (N : Hp), vs = [.int .i64 (k : Int)] ∧ k ≤ L.length ∧ H = N ++ ((b1, .cells (Value.cells (.agg #[.int .i64 (n : Int), s])) 55 (0, 0)) :: B) ∧ ws ∉ L.take k, fun vs _ => L.length - nAt vs 0, JE.mk ⟨0, [], rfl, by omega, rfl, by simp⟩, ?_⟩
  rintro w H ⟨k, N, hv, hk, rfl, hno⟩ gs
  simp only [List.cons.injEq, and_true] at hv
  subst hv
  refine Bin.ltN (Br.dec (fun hlt => ?_) (fun hlt => ?_))
  · have hg : L[k]? = some L[k] := List.getElem?_eq_getElem hlt
    have hfk := hf L[k] (List.getElem_mem hlt)
    refine hL.ld (tbs_get hg) (fun _ h => by repeat (first | exact h | apply List.mem_cons_of_mem | apply List.mem_append_right)) fun s' hw' => ?_
    have hone := oneCell_words hw'
    intro b2 _
    refine St.whole (r := [.int .i64 (n : Int), s']) (by exact .head _) rfl rfl (by simpa [Value.oneCell'] using hone) ?_
    refine LdA.whole (r := [.int .i64 (n : Int), s]) (by repeat (first | assumption | exact List.Mem.head _ | apply List.Mem.tail | apply List.mem_append_right)) rfl ?_
    refine LdA.whole (r := [.int .i64 (n : Int), s']) (by exact .head _) rfl ?_
    refine CallF.rd .here (same_ok (v1 := .agg (List.toArray [.int .i64 (n : Int), s])) (v2 := .agg (List.toArray [.int .i64 (n : Int), s'])) (a := ⟨n, ws⟩) (b := ⟨n, L[k]⟩) ⟨s, rfl, hw.mono (fun _ h => by repeat (first | exact h | apply List.mem_cons_of_mem | apply List.mem_append_right))⟩ ⟨s', rfl, hw'.mono (fun _ h => by repeat (first | exact h | apply List.mem_cons_of_mem | apply List.mem_append_right))⟩ ?_) ?_
    · simp only; omega
    rintro v rfl
    simp only [Tb.mk.injEq, true_and]
    refine Br.dec (fun h => ?_) (fun h => ?_)
    · exact RdR.mk (.skip (.skips .tail)) (by rw [decide_eq_true]; rw [h]; exact List.getElem_mem hlt)
    · refine Bin.addN (b := 1) (by simp [lim]; omega) ?_
      refine Back.mk ⟨k + 1, _ :: N, rfl, by omega, rfl, ?_⟩ (by simp [nAt]; omega)
      rw [List.take_succ_eq_append_getElem hlt, List.mem_append, List.mem_singleton]
      rintro (h1 | h1)
      · exact hno h1
      · exact h h1
  · have : k = L.length := by omega
    subst this
    rw [List.take_length] at hno
    exact RdR.mk (.skips .tail) (by rw [decide_eq_false hno])
def LSt (n : Nat) (B : Hp) (v : Value) (l : List (List Nat)) (H : Hp) : Prop := ∃ C N, H = C ++ (N ++ B) ∧ TOwn 55 v (tbs n l) C (N ++ B)
theorem LSt.nil (n : Nat) (B : Hp) : LSt n B (.slice none 0 0) [] B := ⟨[], [], rfl, TOwn.nil⟩
theorem LSt.done {n : Nat} {B : Hp} {v : Value} {l : List (List Nat)} {H : Hp} (h : LSt n B v l H) : Grow B H ∧ Tbls H v (tbs n l) := by
  obtain ⟨C, N, rfl, ho⟩ := h
  exact ⟨.app (.app (.refl _)), ho.tbls (fun x hx => List.mem_append_left _ hx) (fun x hx => List.mem_append_right _ hx)⟩
theorem Tab.take_unlike {L : List (List Nat)} {k : Nat} (hlt : k < L.length) : Tab.unlike (L.take (k + 1)) = Tab.add (Tab.unlike (L.take k)) L[k] := by
  rw [List.take_succ_eq_append_getElem hlt, Tab.unlike, List.foldl_append]; rfl
theorem unlike_le (L : List (List Nat)) : (Tab.unlike L).length ≤ L.length := by
  have := Tab.foldl_add_length (fun a l => Tab.add l a) 1 (fun a l => Tab.add_length l a) L []
  simpa [Tab.unlike] using this
theorem runlike_ok {B : Hp} {v : Value} {n : Nat} {L : List (List Nat)} (hL : Tbls B v (tbs n L)) (hf : ∀ t ∈ L, Tab.Frm n t) (hmax : L.length < 4398046511103) :
    Px Tryz.prog 143 #[v] B (fun r H => Tbls H r (tbs n (Tab.unlike L))) := by
  intro g
  refine L143_sound (R := FnR _) ?_
  unfold L143
  refine hL.lenS ?_
  rw [tbs_length]
  refine ⟨fun vs H => ∃ (k : Nat) (v : Value), vs = [v, .int .i64 (k : Int)] ∧ k ≤ L.length ∧ LSt n B v (Tab.unlike (L.take k)) H, fun vs _ => L.length - nAt vs 1, JE.mk ⟨0, _, rfl, by omega, LSt.nil n B⟩, ?_⟩
  rintro w6 w7 H ⟨k, v, hv, hk, hst⟩ gs
  simp only [List.cons.injEq, and_true] at hv
  obtain ⟨rfl, rfl⟩ := hv
  refine Bin.ltN (Br.dec (fun hlt => ?_) (fun hlt => ?_))
  · intro J hJ
    have hJ' : ∀ v H, LSt n B v (Tab.unlike (L.take (k + 1))) H → J [v] H := fun v H h => hJ _ _ fun gs => by
      refine Bin.addN (b := 1) (by simp [lim]; omega) ?_
      exact Back.mk ⟨k + 1, v, rfl, by omega, h⟩ (by simp [nAt]; omega)
    obtain ⟨C, N, rfl, ho⟩ := hst
    have hg : L[k]? = some L[k] := List.getElem?_eq_getElem hlt
    have hfk := hf L[k] (List.getElem_mem hlt)
    have hul := unlike_le (L.take k)
    simp only [List.length_take] at hul
    refine hL.ld (tbs_get hg) (fun x hx => List.mem_append_right _ (List.mem_append_right _ hx)) fun s' hw' => ?_
    have hone := oneCell_words hw'
    intro b2 _
    refine St.whole (r := [.int .i64 (n : Int), s']) (by exact .head _) rfl rfl (by simpa [Value.oneCell'] using hone) ?_
    refine LdA.whole (r := [.int .i64 (n : Int), s']) (by exact .head _) rfl ?_
    refine CallF.rd (B := C ++ (N ++ B)) (.cons .here) (in_ok (v2 := .agg (List.toArray [.int .i64 (n : Int), s'])) (n := n) (L := Tab.unlike (L.take k)) (ws := L[k]) (ho.tbls (fun x hx => List.mem_append_left _ hx) (fun x hx => List.mem_append_right _ hx)) (fun t ht => hf t (List.mem_of_mem_take (Tab.mem_unlike.1 ht))) ⟨s', rfl, hw'.mono (fun _ h => by repeat (first | exact h | apply List.mem_cons_of_mem | apply List.mem_append_right))⟩ (frm_len hfk) (by omega)) ?_
    rintro v rfl
    refine Un.not ?_
    rw [Tab.take_unlike hlt, Tab.add] at hJ'
    by_cases hin : L[k] ∈ Tab.unlike (L.take k)
    · rw [decide_eq_true hin]
      rw [if_pos hin] at hJ'
      exact Br.no (JE.of .tail (hJ' _ _ ⟨C, N, rfl, ho⟩))
    · rw [decide_eq_false hin]
      rw [if_neg hin] at hJ'
      refine Br.yes ?_
      refine LdA.whole (r := [.int .i64 (n : Int), s']) (by exact .head _) rfl ?_
      refine buildOne fun xb => ?_
      refine ho.app (A := [_, _]) (t := ⟨n, L[k]⟩) (s := s') (by exact .head _) (hw'.mono (fun _ h => by repeat (first | exact h | apply List.mem_cons_of_mem | apply List.mem_append_right))) (by rw [tbs_length]; omega) fun v' C' ho' => ?_
      rw [tbs_snoc] at ho'
      exact JE.of (.skip .tail) (hJ' _ _ ⟨C', N, rfl, ho'⟩)
  · have : k = L.length := by omega
    subst this
    rw [List.take_length] at hst
    obtain ⟨h1, h2⟩ := hst.done
    exact PxR.mk h1 h2
theorem nodes_take {n u k : Nat} {L : List (List Nat)} (hlt : k < L.length) : Tab.nodes n (L.take (k + 1)) u = if Tab.dep n L[k] u then Tab.nodes n (L.take k) u ++ [L[k]] else Tab.nodes n (L.take k) u := by
  rw [List.take_succ_eq_append_getElem hlt, Tab.nodes, List.filter_append]
  cases h : Tab.dep n L[k] u <;> simp [Tab.nodes, h]
theorem rnodes_ok {B : Hp} {v : Value} {n u : Nat} {L : List (List Nat)} (hL : Tbls B v (tbs n L)) (hf : ∀ t ∈ L, Tab.Frm n t) (hu : u < n) (hmax : L.length < 4398046511103) :
    Px Tryz.prog 167 #[v, .int .i64 (u : Int)] B (fun r H => Tbls H r (tbs n (Tab.nodes n L u))) := by
  intro g
  refine L167_sound (R := FnR _) ?_
  unfold L167
  refine hL.lenS ?_
  rw [tbs_length]
  refine ⟨fun vs H => ∃ (k : Nat) (v : Value), vs = [v, .int .i64 (k : Int)] ∧ k ≤ L.length ∧ LSt n B v (Tab.nodes n (L.take k) u) H, fun vs _ => L.length - nAt vs 1, JE.mk ⟨0, _, rfl, by omega, LSt.nil n B⟩, ?_⟩
  rintro w6 w7 H ⟨k, v, hv, hk, hst⟩ gs
  simp only [List.cons.injEq, and_true] at hv
  obtain ⟨rfl, rfl⟩ := hv
  refine Bin.ltN (Br.dec (fun hlt => ?_) (fun hlt => ?_))
  · intro J hJ
    have hJ' : ∀ v H, LSt n B v (Tab.nodes n (L.take (k + 1)) u) H → J [v] H := fun v H h => hJ _ _ fun gs => by
      refine Bin.addN (b := 1) (by simp [lim]; omega) ?_
      exact Back.mk ⟨k + 1, v, rfl, by omega, h⟩ (by simp [nAt]; omega)
    obtain ⟨C, N, rfl, ho⟩ := hst
    have hg : L[k]? = some L[k] := List.getElem?_eq_getElem hlt
    have hfk := hf L[k] (List.getElem_mem hlt)
    have hul : (Tab.nodes n (L.take k) u).length ≤ (L.take k).length := List.length_filter_le _ _
    simp only [List.length_take] at hul
    refine hL.ld (tbs_get hg) (fun x hx => List.mem_append_right _ (List.mem_append_right _ hx)) fun s' hw' => ?_
    have hone := oneCell_words hw'
    intro b2 _
    refine St.whole (r := [.int .i64 (n : Int), s']) (by exact .head _) rfl rfl (by simpa [Value.oneCell'] using hone) ?_
    refine LdA.whole (r := [.int .i64 (n : Int), s']) (by exact .head _) rfl ?_
    refine CallF.rd (B := C ++ (N ++ B)) (.cons .here) (depends_ok (v := .agg (List.toArray [.int .i64 (n : Int), s'])) (n := n) (ws := L[k]) ⟨s', rfl, hw'.mono (fun _ h => by repeat (first | exact h | apply List.mem_cons_of_mem | apply List.mem_append_right))⟩ hfk hu) ?_
    rintro v rfl
    rw [nodes_take hlt] at hJ'
    cases hd : Tab.dep n L[k] u <;> rw [hd] at hJ' <;> simp only [Bool.false_eq_true, if_false, if_true] at hJ'
    · exact Br.no (JE.of .tail (hJ' _ _ ⟨C, N, rfl, ho⟩))
    · refine Br.yes ?_
      refine LdA.whole (r := [.int .i64 (n : Int), s']) (by exact .head _) rfl ?_
      refine buildOne fun xb => ?_
      refine ho.app (A := [_, _]) (t := ⟨n, L[k]⟩) (s := s') (by exact .head _) (hw'.mono (fun _ h => by repeat (first | exact h | apply List.mem_cons_of_mem | apply List.mem_append_right))) (by rw [tbs_length]; omega) fun v' C' ho' => ?_
      rw [tbs_snoc] at ho'
      exact JE.of (.skip .tail) (hJ' _ _ ⟨C', N, rfl, ho'⟩)
  · have : k = L.length := by omega
    subst this
    rw [List.take_length] at hst
    obtain ⟨h1, h2⟩ := hst.done
    exact PxR.mk h1 h2
theorem given_take {n u k : Nat} {L : List (List Nat)} (hlt : k < L.length) : Tab.given n (L.take (k + 1)) u = Tab.add (Tab.add (Tab.given n (L.take k) u) (Tab.cof n L[k] u false)) (Tab.cof n L[k] u true) := by
  rw [List.take_succ_eq_append_getElem hlt, Tab.given, List.foldl_append]; rfl
theorem given_le (n u : Nat) (L : List (List Nat)) : (Tab.given n L u).length ≤ 2 * L.length := by
  have h := Tab.foldl_add_length (fun t acc => Tab.add (Tab.add acc (Tab.cof n t u false)) (Tab.cof n t u true)) 2 (fun a l => by have h1 := Tab.add_length (Tab.add l (Tab.cof n a u false)) (Tab.cof n a u true); have h2 := Tab.add_length l (Tab.cof n a u false); omega) L []
  simpa [Tab.given] using h
theorem rgiven_ok {B : Hp} {v : Value} {n u : Nat} {L : List (List Nat)} (hL : Tbls B v (tbs n L)) (hf : ∀ t ∈ L, Tab.Frm n t) (hn : n ≤ 16) (hu : u < n) (hmax : L.length < 2199023255551) :
    Px Tryz.prog 168 #[v, .int .i64 (u : Int)] B (fun r H => Tbls H r (tbs n (Tab.given n L u))) := by
  intro g
  refine L168_sound (R := FnR _) ?_
  unfold L168
  refine hL.lenS ?_
  rw [tbs_length]
  refine ⟨fun vs H => ∃ (k : Nat) (v : Value), vs = [v, .int .i64 (k : Int)] ∧ k ≤ L.length ∧ LSt n B v (Tab.given n (L.take k) u) H, fun vs _ => L.length - nAt vs 1, JE.mk ⟨0, _, rfl, by omega, LSt.nil n B⟩, ?_⟩
  rintro w6 w7 H ⟨k, v, hv, hk, hst⟩ gs
  simp only [List.cons.injEq, and_true] at hv
  obtain ⟨rfl, rfl⟩ := hv
  refine Bin.ltN (Br.dec (fun hlt => ?_) (fun hlt => ?_))
  · intro J hJ
    have hJ' : ∀ v H, LSt n B v (Tab.given n (L.take (k + 1)) u) H → J [v] H := fun v H h => hJ _ _ fun gs => by
      refine Bin.addN (b := 1) (by simp [lim]; omega) ?_
      exact Back.mk ⟨k + 1, v, rfl, by omega, h⟩ (by simp [nAt]; omega)
    obtain ⟨C, N, rfl, ho⟩ := hst
    have hg : L[k]? = some L[k] := List.getElem?_eq_getElem hlt
    have hfk := hf L[k] (List.getElem_mem hlt)
    have hul := given_le n u (L.take k)
    simp only [List.length_take] at hul
    have fg : ∀ t ∈ Tab.given n (L.take k) u, Tab.Frm n t := fun t ht => by obtain ⟨_, _, _, rfl⟩ := Tab.mem_given.1 ht; exact Tab.frm_cof hn
    have f1 := Tab.frm_cof (v := u) (ws := L[k]) (b := false) hn
    have f2 := Tab.frm_cof (v := u) (ws := L[k]) (b := true) hn
    rw [given_take hlt] at hJ'
    refine hL.ld (tbs_get hg) (fun x hx => List.mem_append_right _ (List.mem_append_right _ hx)) fun s' hw' => ?_
    have hone := oneCell_words hw'
    intro b2 _
    refine St.whole (r := [.int .i64 (n : Int), s']) (by exact .head _) rfl rfl (by simpa [Value.oneCell'] using hone) ?_
    refine DR.self ?_
    refine LdA.whole (r := [.int .i64 (n : Int), s']) (by exact .head _) rfl (LdA.whole (r := [.int .i64 (n : Int), s']) (by exact .head _) rfl ?_)
    intro F
    refine CallF.px (B := N ++ B) (.cons (.app .here)) (rcof_ok (v := .agg (List.toArray [.int .i64 (n : Int), s'])) (n := n) (ws := L[k]) ⟨s', rfl, hw'.mono (fun _ h => by repeat (first | exact h | apply List.mem_cons_of_mem | apply List.mem_append_right))⟩ hfk hu) ?_
    rintro v N1 ⟨s1, rfl, hw1⟩
    refine ⟨.cons (.prep .right _), ?_⟩
    intro F
    refine CallF.px (B := N1 ++ (N ++ B)) (.cons (.app .here)) (rcof_ok (v := .agg (List.toArray [.int .i64 (n : Int), s'])) (n := n) (ws := L[k]) ⟨s', rfl, hw'.mono (fun _ h => by repeat (first | exact h | apply List.mem_cons_of_mem | apply List.mem_append_right))⟩ hfk hu) ?_
    rintro v N2 ⟨s2, rfl, hw2⟩
    refine ⟨.cons (.prep (.skips .right) _), ?_⟩
    have hone1 := oneCell_words hw1
    have hone2 := oneCell_words hw2
    intro b28 _ b30 _ F
    refine St.whole (r := [.int .i64 (n : Int), s1]) (by exact .tail (.head _)) rfl rfl (by simpa [Value.oneCell'] using hone1) ?_
    refine ⟨.skip (.skip (.cons (.prep (.skips .right) _))), ?_⟩
    intro F
    refine St.whole (r := [.int .i64 (n : Int), s2]) (by exact .head _) rfl rfl (by simpa [Value.oneCell'] using hone2) ?_
    have ho2 := ho.mono (B' := N2 ++ (N1 ++ (N ++ B))) (fun _ h => by repeat (first | exact h | apply List.mem_cons_of_mem | apply List.mem_append_right))
    intro J2 hJ2
    have hJ2' : ∀ v C l, TOwn 55 v (tbs n l) C (N2 ++ (N1 ++ (N ++ B))) → l = Tab.add (Tab.given n (L.take k) u) (Tab.cof n L[k] u false) →
        J2 [v] ((b30, .cells (List.toArray [.int .i64 (n : Int), s2]) 55 (0, 0)) :: (C ++ (N2 ++ (N1 ++ (N ++ B))))) := fun v C l ho hl => hJ2 _ _ fun gs => by
      have hll := Tab.add_length (Tab.given n (L.take k) u) (Tab.cof n L[k] u false)
      rw [← hl] at hll
      have fl : ∀ t ∈ l, Tab.Frm n t := fun t ht => by rw [hl] at ht; rcases Tab.mem_add.1 ht with h | rfl; exact fg t h; exact f1
      refine LdA.whole (r := [.int .i64 (n : Int), s2]) (by exact .head _) rfl ?_
      refine CallF.rd (B := C ++ (N2 ++ (N1 ++ (N ++ B)))) (.cons .here) (in_ok (v2 := .agg (List.toArray [.int .i64 (n : Int), s2])) (n := n) (L := l) (ws := Tab.cof n L[k] u true) (ho.tbls (fun x hx => List.mem_append_left _ hx) (fun x hx => List.mem_append_right _ hx)) fl ⟨s2, rfl, hw2.mono (fun _ h => by repeat (first | exact h | apply List.mem_cons_of_mem | apply List.mem_append_right))⟩ (frm_len f2) (by omega)) ?_
      rintro r rfl
      refine Un.not ?_
      rw [← hl, Tab.add] at hJ'
      by_cases hin : Tab.cof n L[k] u true ∈ l
      · rw [decide_eq_true hin]
        rw [if_pos hin] at hJ'
        refine Br.no (JE.of .tail (hJ' _ _ ⟨C, N2 ++ (N1 ++ N), ?_, ?_⟩))
        · rw [List.append_assoc, List.append_assoc]
        · rw [List.append_assoc, List.append_assoc]; exact ho
      · rw [decide_eq_false hin]
        rw [if_neg hin] at hJ'
        refine Br.yes ?_
        refine LdA.whole (r := [.int .i64 (n : Int), s2]) (by exact .head _) rfl ?_
        refine buildOne fun xb => ?_
        refine ho.app (A := [_, _]) (t := ⟨n, Tab.cof n L[k] u true⟩) (s := s2) (by exact .head _) hw2 (by rw [tbs_length]; omega) fun v' C' ho' => ?_
        rw [tbs_snoc] at ho'
        refine JE.of (.skip .tail) (hJ' _ _ ⟨C', N2 ++ (N1 ++ N), ?_, ?_⟩)
        · rw [List.append_assoc, List.append_assoc]; rfl
        · rw [List.append_assoc, List.append_assoc]; exact ho'
    refine LdA.whole (r := [.int .i64 (n : Int), s1]) (by exact .tail _ (.head _)) rfl ?_
    refine CallF.rd (B := C ++ (N2 ++ (N1 ++ (N ++ B)))) (.cons (.cons (.cons .here))) (in_ok (v2 := .agg (List.toArray [.int .i64 (n : Int), s1])) (n := n) (L := Tab.given n (L.take k) u) (ws := Tab.cof n L[k] u false) (ho2.tbls (fun x hx => List.mem_append_left _ hx) (fun x hx => List.mem_append_right _ hx)) fg ⟨s1, rfl, hw1.mono (fun _ h => by repeat (first | exact h | apply List.mem_cons_of_mem | apply List.mem_append_right))⟩ (frm_len f1) (by omega)) ?_
    rintro r rfl
    refine Un.not ?_
    by_cases hin : Tab.cof n L[k] u false ∈ Tab.given n (L.take k) u
    · rw [decide_eq_true hin]
      exact Br.no (JE.of (.cons (.skip .tail)) (hJ2' _ C _ ho2 (by rw [Tab.add, if_pos hin])))
    · rw [decide_eq_false hin]
      refine Br.yes ?_
      refine LdA.whole (r := [.int .i64 (n : Int), s1]) (by exact .tail _ (.head _)) rfl ?_
      refine buildOne fun xb => ?_
      refine ho2.app (A := [_, _, _, _]) (t := ⟨n, Tab.cof n L[k] u false⟩) (s := s1) (by exact .head _) (hw1.mono (fun _ h => by repeat (first | exact h | apply List.mem_cons_of_mem | apply List.mem_append_right))) (by rw [tbs_length]; omega) fun v' C' ho' => ?_
      rw [tbs_snoc] at ho'
      exact JE.of (.skip (.cons (.skip .tail))) (hJ2' _ C' _ ho' (by rw [Tab.add, if_neg hin]))
  · have : k = L.length := by omega
    subst this
    rw [List.take_length] at hst
    obtain ⟨h1, h2⟩ := hst.done
    exact PxR.mk h1 h2
end Go.Proofs
namespace Bdd
open Tab
theorem setb_comm {x u v : Nat} {b c : Bool} (h : u ≠ v) : setb (setb x u b) v c = setb (setb x v c) u b := by
  apply Nat.eq_of_testBit_eq; intro k
  rw [testBit_setb, testBit_setb, testBit_setb, testBit_setb]
  by_cases e1 : k = u <;> by_cases e2 : k = v
  · exact absurd (e1.symm.trans e2) h
  · simp [e1, h]
  · simp [e2, Ne.symm h]
  · simp [e1, e2]
structure Nd where
  v : Nat
  lo : Nat
  hi : Nat
deriving DecidableEq
abbrev Sto := Nat → Option Nd
abbrev Fn := Nat → Bool
def live (N : Sto) (r : Nat) : Prop := r < 2 ∨ ∃ d, N r = some d
def dep (n : Nat) (lev : Nat → Nat) (N : Sto) (r : Nat) : Nat := match N r with | some d => lev d.v | none => n
structure WF (n : Nat) (lev : Nat → Nat) (N : Sto) : Prop where
  two : ∀ {r d}, N r = some d → 2 ≤ r
  var : ∀ {r d}, N r = some d → d.v < n
  ne : ∀ {r d}, N r = some d → d.lo ≠ d.hi
  lo : ∀ {r d}, N r = some d → live N d.lo ∧ lev d.v < dep n lev N d.lo
  hi : ∀ {r d}, N r = some d → live N d.hi ∧ lev d.v < dep n lev N d.hi
  uq : ∀ {r r' d}, N r = some d → N r' = some d → r = r'
structure Lev (n : Nat) (lev : Nat → Nat) : Prop where
  lt : ∀ v, v < n → lev v < n
  inj : ∀ u v, u < n → v < n → lev u = lev v → u = v
structure Interp (N : Sto) (S : Nat → Fn) : Prop where
  zero : ∀ x, S 0 x = false
  one : ∀ x, S 1 x = true
  node : ∀ {r d}, N r = some d → ∀ x, S r x = if x.testBit d.v then S d.hi x else S d.lo x
variable {n : Nat} {lev : Nat → Nat} {N : Sto} {S : Nat → Fn}
theorem dep_none {r : Nat} (h : N r = none) : dep n lev N r = n := by unfold dep; rw [h]
theorem dep_some {r : Nat} {d : Nd} (h : N r = some d) : dep n lev N r = lev d.v := by unfold dep; rw [h]
theorem WF.dep_le (h : WF n lev N) (hl : Lev n lev) (r : Nat) : dep n lev N r ≤ n := by
  cases e : N r with
  | none => rw [dep_none e]; exact Nat.le_refl _
  | some d => rw [dep_some e]; exact Nat.le_of_lt (hl.lt _ (h.var e))
theorem WF.const (h : WF n lev N) {r : Nat} (hr : r < 2) : N r = none := by
  cases e : N r with
  | none => rfl
  | some d => have := h.two e; omega
theorem WF.indep (h : WF n lev N) (hl : Lev n lev) (hi : Interp N S) : ∀ (k r : Nat), n - dep n lev N r ≤ k → live N r → ∀ v, v < n → lev v < dep n lev N r → ∀ x b, S r (setb x v b) = S r x := by
  intro k
  induction k with
  | zero =>
    intro r hk hr v hv hlt x b
    rcases hr with hr | ⟨d, hd⟩
    · have : r = 0 ∨ r = 1 := by omega
      rcases this with rfl | rfl
      · rw [hi.zero, hi.zero]
      · rw [hi.one, hi.one]
    · have h1 := hl.lt _ (h.var hd)
      rw [dep_some hd] at hk; omega
  | succ k ih =>
    intro r hk hr v hv hlt x b
    rcases hr with hr | ⟨d, hd⟩
    · have : r = 0 ∨ r = 1 := by omega
      rcases this with rfl | rfl
      · rw [hi.zero, hi.zero]
      · rw [hi.one, hi.one]
    · rw [dep_some hd] at hk hlt
      have h1 := hl.lt _ (h.var hd)
      obtain ⟨l1, l2⟩ := h.lo hd
      obtain ⟨m1, m2⟩ := h.hi hd
      have hne : d.v ≠ v := fun e => by rw [e] at hlt; omega
      rw [hi.node hd, hi.node hd, testBit_setb, if_neg hne, ih d.lo (by omega) l1 v hv (by omega), ih d.hi (by omega) m1 v hv (by omega)]
theorem WF.indep' (h : WF n lev N) (hl : Lev n lev) (hi : Interp N S) {r : Nat} (hr : live N r) {v : Nat} (hv : v < n) (hlt : lev v < dep n lev N r) (x : Nat) (b : Bool) : S r (setb x v b) = S r x :=
  h.indep hl hi _ r (Nat.le_refl _) hr v hv hlt x b
theorem WF.child (h : WF n lev N) (hl : Lev n lev) (hi : Interp N S) {r : Nat} {d : Nd} (hd : N r = some d) (x : Nat) (b : Bool) : S r (setb x d.v b) = S (if b then d.hi else d.lo) x := by
  obtain ⟨l1, l2⟩ := h.lo hd
  obtain ⟨m1, m2⟩ := h.hi hd
  rw [hi.node hd, testBit_setb, if_pos rfl]
  cases b
  · simp only [Bool.false_eq_true, if_false]; exact h.indep' hl hi l1 (h.var hd) l2 x false
  · simp only [if_true]; exact h.indep' hl hi m1 (h.var hd) m2 x true
theorem WF.canon (h : WF n lev N) (hl : Lev n lev) (hi : Interp N S) : ∀ (k r r' : Nat), (n - dep n lev N r) + (n - dep n lev N r') ≤ k → live N r → live N r' → (∀ x, S r x = S r' x) → r = r' := by
  intro k
  induction k with
  | zero =>
    intro r r' hk hr hr' he
    have hc : ∀ {r}, n - dep n lev N r = 0 → live N r → r < 2 := by
      intro r hk hr
      rcases hr with hr | ⟨d, hd⟩
      · exact hr
      · have h1 := hl.lt _ (h.var hd)
        rw [dep_some hd] at hk; omega
    have h1 := hc (by omega) hr
    have h2 := hc (by omega) hr'
    have e0 := he 0
    have : r = 0 ∨ r = 1 := by omega
    have h3 : r' = 0 ∨ r' = 1 := by omega
    rcases this with rfl | rfl <;> rcases h3 with rfl | rfl <;> simp [hi.zero, hi.one] at e0 <;> rfl
  | succ k ih =>
    have above : ∀ r r', (n - dep n lev N r) + (n - dep n lev N r') ≤ k + 1 → live N r' → (∀ x, S r x = S r' x) → ∀ d, N r = some d → lev d.v < dep n lev N r' → False := by
      intro r r' hk hr' he d hd hlt
      obtain ⟨l1, l2⟩ := h.lo hd
      obtain ⟨m1, m2⟩ := h.hi hd
      have hv := h.var hd
      have h1 := hl.lt _ hv
      have d1 := h.dep_le hl d.lo
      have d2 := h.dep_le hl d.hi
      have d3 := h.dep_le hl r'
      rw [dep_some hd] at hk
      have a1 : d.lo = r' := ih d.lo r' (by omega) l1 hr' fun x => by
        have := h.child hl hi hd x false
        simp only [Bool.false_eq_true, if_false] at this
        rw [← this, he, h.indep' hl hi hr' hv hlt]
      have a2 : d.hi = r' := ih d.hi r' (by omega) m1 hr' fun x => by
        have := h.child hl hi hd x true
        simp only [if_true] at this
        rw [← this, he, h.indep' hl hi hr' hv hlt]
      exact h.ne hd (a1.trans a2.symm)
    intro r r' hk hr hr' he
    rcases hr with hr | ⟨d, hd⟩
    · rcases hr' with hr' | ⟨d', hd'⟩
      · have e0 := he 0
        have : r = 0 ∨ r = 1 := by omega
        have h3 : r' = 0 ∨ r' = 1 := by omega
        rcases this with rfl | rfl <;> rcases h3 with rfl | rfl <;> simp [hi.zero, hi.one] at e0 <;> rfl
      · refine (above r' r (by omega) (.inl hr) (fun x => (he x).symm) d' hd' ?_).elim
        rw [dep_none (h.const hr)]; exact hl.lt _ (h.var hd')
    · rcases Nat.lt_trichotomy (lev d.v) (dep n lev N r') with hlt | heq | hgt
      · exact (above r r' hk hr' he d hd hlt).elim
      · rcases hr' with hr' | ⟨d', hd'⟩
        · rw [dep_none (h.const hr')] at heq
          have := hl.lt _ (h.var hd); omega
        · rw [dep_some hd'] at heq
          have hv := hl.inj _ _ (h.var hd) (h.var hd') heq
          obtain ⟨l1, l2⟩ := h.lo hd
          obtain ⟨m1, m2⟩ := h.hi hd
          obtain ⟨l1', l2'⟩ := h.lo hd'
          obtain ⟨m1', m2'⟩ := h.hi hd'
          have h1 := hl.lt _ (h.var hd)
          have d1 := h.dep_le hl d.lo
          have d2 := h.dep_le hl d.hi
          have d1' := h.dep_le hl d'.lo
          have d2' := h.dep_le hl d'.hi
          rw [dep_some hd, dep_some hd'] at hk
          have c1 := fun x => h.child hl hi hd x false
          have c2 := fun x => h.child hl hi hd x true
          have c1' := fun x => h.child hl hi hd' x false
          have c2' := fun x => h.child hl hi hd' x true
          simp only [Bool.false_eq_true, if_false, if_true] at c1 c2 c1' c2'
          have a1 : d.lo = d'.lo := ih d.lo d'.lo (by omega) l1 l1' fun x => by rw [← c1, ← c1', he, hv]
          have a2 : d.hi = d'.hi := ih d.hi d'.hi (by omega) m1 m1' fun x => by rw [← c2, ← c2', he, hv]
          have : d = d' := by cases d; cases d'; simp_all
          subst this
          exact h.uq hd hd'
      · rcases hr' with hr' | ⟨d', hd'⟩
        · rw [dep_none (h.const hr')] at hgt
          have := hl.lt _ (h.var hd); omega
        · rw [dep_some hd'] at hgt
          refine (above r' r (by omega) (.inr ⟨d, hd⟩) (fun x => (he x).symm) d' hd' ?_).elim
          rw [dep_some hd]; exact hgt
theorem WF.same (h : WF n lev N) (hl : Lev n lev) (hi : Interp N S) {r r' : Nat} (hr : live N r) (hr' : live N r') (he : ∀ x, S r x = S r' x) : r = r' := h.canon hl hi _ r r' (Nat.le_refl _) hr hr' he
end Bdd
namespace Bdd
open Tab
variable {n : Nat} {lev : Nat → Nat} {N : Sto} {S : Nat → Fn} {ord : List Nat}
def hangs (g : Fn) (v : Nat) : Prop := ∃ x, g (setb x v false) ≠ g (setb x v true)
def fs (ord : List Nat) (F : Fn → Prop) : Nat → Fn → Prop
  | 0, g => F g
  | l + 1, g => ∃ f, fs ord F l f ∧ ∃ b, g = fun x => f (setb x (ord.getD l 0) b)
def NodeSet (n : Nat) (ord : List Nat) (F : Fn → Prop) (g : Fn) : Prop := ∃ l, l < n ∧ fs ord F l g ∧ hangs g (ord.getD l 0)
structure Ord (n : Nat) (lev : Nat → Nat) (ord : List Nat) : Prop where
  len : ord.length = n
  at' : ∀ l, l < n → ord.getD l 0 < n ∧ lev (ord.getD l 0) = l
theorem Ord.of (h : Ord n lev ord) (hl : Lev n lev) {v : Nat} (hv : v < n) : ord.getD (lev v) 0 = v := by
  obtain ⟨h1, h2⟩ := h.at' _ (hl.lt v hv)
  exact hl.inj _ _ h1 hv h2
def Fs (S : Nat → Fn) (R : Nat → Prop) (g : Fn) : Prop := ∃ r, R r ∧ g = S r
def A (N : Sto) (lev : Nat → Nat) (n : Nat) (R : Nat → Prop) : Nat → Nat → Prop
  | 0, r => R r
  | l + 1, r => (A N lev n R l r ∧ dep n lev N r ≠ l) ∨ ∃ p d, A N lev n R l p ∧ N p = some d ∧ lev d.v = l ∧ (r = d.lo ∨ r = d.hi)
variable {R : Nat → Prop}
theorem A_live (h : WF n lev N) (hR : ∀ r, R r → live N r) : ∀ l r, A N lev n R l r → live N r ∧ l ≤ dep n lev N r
  | 0, r, ha => ⟨hR r ha, Nat.zero_le _⟩
  | l + 1, r, ha => by
    rcases ha with ⟨h1, h2⟩ | ⟨p, d, h1, h2, h3, h4⟩
    · have := A_live h hR l r h1
      exact ⟨this.1, by omega⟩
    · rcases h4 with rfl | rfl
      · have := h.lo h2; exact ⟨this.1, by omega⟩
      · have := h.hi h2; exact ⟨this.1, by omega⟩
theorem A_stay {r : Nat} : ∀ k l, A N lev n R l r → l + k ≤ dep n lev N r → A N lev n R (l + k) r
  | 0, l, ha, _ => ha
  | k + 1, l, ha, hk => by
    have h1 := A_stay k l ha (by omega)
    have h2 : dep n lev N r ≠ l + k := by omega
    exact .inl ⟨h1, h2⟩
def Reach (N : Sto) (R : Nat → Prop) : Prop := ∀ r d, N r = some d → R r ∨ ∃ p e, N p = some e ∧ (e.lo = r ∨ e.hi = r)
theorem A_all (h : WF n lev N) (hr : Reach N R) : ∀ k r d, N r = some d → lev d.v ≤ k → A N lev n R (lev d.v) r := by
  intro k
  induction k with
  | zero =>
    intro r d hd hk
    rcases hr r d hd with h1 | ⟨p, e, h1, h2⟩
    · rw [show lev d.v = 0 by omega]; exact h1
    · have := h.lo h1
      have h3 := h.hi h1
      rcases h2 with rfl | rfl
      · rw [dep_some hd] at this; omega
      · rw [dep_some hd] at h3; omega
  | succ k ih =>
    intro r d hd hk
    rcases hr r d hd with h1 | ⟨p, e, h1, h2⟩
    · have := A_stay (N := N) (lev := lev) (n := n) (R := R) (r := r) (lev d.v) 0 h1 (by rw [dep_some hd]; omega)
      rwa [Nat.zero_add] at this
    · have hlt : lev e.v < lev d.v := by
        have := h.lo h1
        have h3 := h.hi h1
        rcases h2 with rfl | rfl
        · rw [dep_some hd] at this; omega
        · rw [dep_some hd] at h3; omega
      have ha := ih p e h1 (by omega)
      have hb : A N lev n R (lev e.v + 1) r := .inr ⟨p, e, ha, h1, rfl, by rcases h2 with rfl | rfl; exact .inl rfl; exact .inr rfl⟩
      have := A_stay (lev d.v - (lev e.v + 1)) _ hb (by rw [dep_some hd]; omega)
      rwa [show lev e.v + 1 + (lev d.v - (lev e.v + 1)) = lev d.v by omega] at this
theorem fs_A (h : WF n lev N) (hl : Lev n lev) (ho : Ord n lev ord) (hi : Interp N S) (hR : ∀ r, R r → live N r) : ∀ l, l ≤ n → ∀ g, fs ord (Fs S R) l g ↔ ∃ r, A N lev n R l r ∧ g = S r
  | 0, _, g => Iff.rfl
  | l + 1, hln, g => by
    obtain ⟨v1, v2⟩ := ho.at' l hln
    have ih := fs_A h hl ho hi hR l (by omega)
    constructor
    · rintro ⟨f, hf, b, rfl⟩
      obtain ⟨r, ha, rfl⟩ := (ih f).1 hf
      obtain ⟨hlv, hle⟩ := A_live h hR l r ha
      by_cases e : dep n lev N r = l
      · rcases hlv with hc | ⟨d, hd⟩
        · rw [dep_none (h.const hc)] at e; omega
        · rw [dep_some hd] at e
          have hv : d.v = ord.getD l 0 := hl.inj _ _ (h.var hd) v1 (by omega)
          refine ⟨if b then d.hi else d.lo, .inr ⟨r, d, ha, hd, e, by cases b <;> simp⟩, ?_⟩
          funext x
          rw [← hv]; exact h.child hl hi hd x b
      · refine ⟨r, .inl ⟨ha, e⟩, ?_⟩
        funext x
        exact h.indep' hl hi hlv v1 (by omega) x b
    · rintro ⟨r, ha, rfl⟩
      rcases ha with ⟨h1, h2⟩ | ⟨p, d, h1, h2, h3, h4⟩
      · obtain ⟨hlv, hle⟩ := A_live h hR l r h1
        refine ⟨S r, (ih _).2 ⟨r, h1, rfl⟩, false, ?_⟩
        funext x
        exact (h.indep' hl hi hlv v1 (by omega) x false).symm
      · have hv : d.v = ord.getD l 0 := hl.inj _ _ (h.var h2) v1 (by omega)
        rcases h4 with rfl | rfl
        · refine ⟨S p, (ih _).2 ⟨p, h1, rfl⟩, false, ?_⟩
          funext x
          rw [← hv]; exact (h.child hl hi h2 x false).symm
        · refine ⟨S p, (ih _).2 ⟨p, h1, rfl⟩, true, ?_⟩
          funext x
          rw [← hv]; exact (h.child hl hi h2 x true).symm
theorem nodeSet_iff (h : WF n lev N) (hl : Lev n lev) (ho : Ord n lev ord) (hi : Interp N S) (hR : ∀ r, R r → live N r) (hr : Reach N R) (g : Fn) : NodeSet n ord (Fs S R) g ↔ ∃ r d, N r = some d ∧ g = S r := by
  constructor
  · rintro ⟨l, hln, hf, x, hx⟩
    obtain ⟨v1, v2⟩ := ho.at' l hln
    obtain ⟨r, ha, rfl⟩ := (fs_A h hl ho hi hR l (by omega) g).1 hf
    obtain ⟨hlv, hle⟩ := A_live h hR l r ha
    by_cases e : dep n lev N r = l
    · rcases hlv with hc | ⟨d, hd⟩
      · rw [dep_none (h.const hc)] at e; omega
      · exact ⟨r, d, hd, rfl⟩
    · exact absurd (by rw [h.indep' hl hi hlv v1 (by omega), h.indep' hl hi hlv v1 (by omega)]) hx
  · rintro ⟨r, d, hd, rfl⟩
    have hv := h.var hd
    have hlt := hl.lt _ hv
    refine ⟨lev d.v, hlt, (fs_A h hl ho hi hR _ (by omega) _).2 ⟨r, A_all h hr _ r d hd (Nat.le_refl _), rfl⟩, ?_⟩
    rw [ho.of hl hv]
    refine Classical.byContradiction fun hno => h.ne hd (h.same hl hi (h.lo hd).1 (h.hi hd).1 fun x => ?_)
    have c1 := h.child hl hi hd x false
    have c2 := h.child hl hi hd x true
    simp only [Bool.false_eq_true, if_false, if_true] at c1 c2
    rw [← c1, ← c2]
    exact Classical.byContradiction fun hne => hno ⟨x, hne⟩
def Cnt (P : Fn → Prop) (k : Nat) : Prop := ∃ l : List Fn, l.Nodup ∧ l.length = k ∧ ∀ g, P g ↔ g ∈ l
theorem Cnt.congr {P Q : Fn → Prop} {k : Nat} (h : Cnt P k) (e : ∀ g, P g ↔ Q g) : Cnt Q k := let ⟨l, h1, h2, h3⟩ := h; ⟨l, h1, h2, fun g => (e g).symm.trans (h3 g)⟩
theorem length_le_of_sub {α : Type} : ∀ {l l' : List α}, l.Nodup → (∀ x ∈ l, x ∈ l') → l.length ≤ l'.length
  | [], l', _, _ => Nat.zero_le _
  | x :: l, l', hn, hs => by
    obtain ⟨h1, h2⟩ := List.nodup_cons.1 hn
    obtain ⟨a, b, rfl⟩ := List.append_of_mem (hs x (by simp))
    have := length_le_of_sub (l' := a ++ b) h2 fun y hy => by
      have := hs y (by simp [hy])
      rcases List.mem_append.1 this with h | h
      · exact List.mem_append_left _ h
      · rcases List.mem_cons.1 h with rfl | h
        · exact absurd hy h1
        · exact List.mem_append_right _ h
    simp at this ⊢; omega
theorem Cnt.le {P Q : Fn → Prop} {k k' : Nat} (h : Cnt P k) (h' : Cnt Q k') (e : ∀ g, P g → Q g) : k ≤ k' := by
  obtain ⟨l, h1, h2, h3⟩ := h
  obtain ⟨l', h1', h2', h3'⟩ := h'
  rw [← h2, ← h2']
  exact length_le_of_sub h1 fun x hx => (h3' x).1 (e x ((h3 x).2 hx))
theorem Cnt.uniq {P : Fn → Prop} {k k' : Nat} (h : Cnt P k) (h' : Cnt P k') : k = k' := Nat.le_antisymm (h.le h' fun _ => id) (h'.le h fun _ => id)
theorem Cnt.none : Cnt (fun _ => False) 0 := ⟨[], by simp, rfl, by simp⟩
theorem Cnt.or {P Q : Fn → Prop} {k k' : Nat} (h : Cnt P k) (h' : Cnt Q k') (e : ∀ g, P g → ¬ Q g) : Cnt (fun g => P g ∨ Q g) (k + k') := by
  obtain ⟨l, h1, h2, h3⟩ := h
  obtain ⟨l', h1', h2', h3'⟩ := h'
  refine ⟨l ++ l', List.nodup_append.2 ⟨h1, h1', fun a ha b hb e' => ?_⟩, by rw [List.length_append, h2, h2'], fun g => by rw [List.mem_append, ← h3, ← h3']⟩
  subst e'
  exact e a ((h3 a).2 ha) ((h3' a).2 hb)
theorem cnt_nodes (h : WF n lev N) (hl : Lev n lev) (hi : Interp N S) {dom : List Nat} (hd : dom.Nodup) (hm : ∀ r, r ∈ dom ↔ ∃ d, N r = some d) : Cnt (fun g => ∃ r d, N r = some d ∧ g = S r) dom.length := by
  refine ⟨dom.map S, ?_, by simp, fun g => ?_⟩
  · refine List.pairwise_map.2 (hd.imp_of_mem fun {a b} ha hb hne heq => hne ?_)
    exact h.same hl hi (.inr ((hm a).1 ha)) (.inr ((hm b).1 hb)) fun x => by rw [heq]
  · rw [List.mem_map]
    constructor
    · rintro ⟨r, d, h1, rfl⟩; exact ⟨r, (hm r).2 ⟨d, h1⟩, rfl⟩
    · rintro ⟨r, h1, rfl⟩; obtain ⟨d, h2⟩ := (hm r).1 h1; exact ⟨r, d, h2, rfl⟩
end Bdd
namespace Bdd
open Tab
def up {α : Type} (N : Nat → α) (r : Nat) (o : α) : Nat → α := fun s => if s = r then o else N s
@[simp] theorem up_same {α : Type} {N : Nat → α} {r : Nat} {o : α} : up N r o r = o := if_pos rfl
theorem up_ne {α : Type} {N : Nat → α} {r s : Nat} {o : α} (h : s ≠ r) : up N r o s = N s := if_neg h
def upT (T : Nd → Option Nat) (d : Nd) (o : Option Nat) : Nd → Option Nat := fun e => if e = d then o else T e
@[simp] theorem upT_same {T : Nd → Option Nat} {d : Nd} {o : Option Nat} : upT T d o d = o := if_pos rfl
theorem upT_ne {T : Nd → Option Nat} {d e : Nd} {o : Option Nat} (h : e ≠ d) : upT T d o e = T e := if_neg h
def e1 : Option Nd → Nat → Nat
  | none, _ => 0
  | some d, r => (if d.lo = r then 1 else 0) + (if d.hi = r then 1 else 0)
theorem e1_some (d : Nd) (r : Nat) : e1 (some d) r = (if d.lo = r then 1 else 0) + (if d.hi = r then 1 else 0) := rfl
def edges (N : Sto) (r : Nat) : Nat → Nat
  | 0 => 0
  | k + 1 => edges N r k + e1 (N k) r
def cntD (N : Sto) : Nat → Nat
  | 0 => 0
  | k + 1 => cntD N k + (if (N k).isSome then 1 else 0)
theorem edges_upd {N : Sto} {s r : Nat} {o : Option Nd} : ∀ {k}, (s < k → edges (up N s o) r k + e1 (N s) r = edges N r k + e1 o r) ∧ (k ≤ s → edges (up N s o) r k = edges N r k)
  | 0 => ⟨fun h => by omega, fun _ => rfl⟩
  | k + 1 => by
    obtain ⟨i1, i2⟩ := edges_upd (N := N) (s := s) (r := r) (o := o) (k := k)
    refine ⟨fun h => ?_, fun h => ?_⟩
    · rw [edges, edges]
      by_cases e : s = k
      · subst e; rw [up_same, i2 (Nat.le_refl _)]; omega
      · have := i1 (by omega); rw [up_ne (fun h => e h.symm)]; omega
    · rw [edges, edges, i2 (by omega), up_ne (by omega)]
theorem edges_up {N : Sto} {s r k : Nat} {o : Option Nd} (h : s < k) : edges (up N s o) r k + e1 (N s) r = edges N r k + e1 o r := edges_upd.1 h
theorem cntD_upd {N : Sto} {s : Nat} {o : Option Nd} : ∀ {k}, (s < k → cntD (up N s o) k + (if (N s).isSome then 1 else 0) = cntD N k + (if o.isSome then 1 else 0)) ∧ (k ≤ s → cntD (up N s o) k = cntD N k)
  | 0 => ⟨fun h => by omega, fun _ => rfl⟩
  | k + 1 => by
    obtain ⟨i1, i2⟩ := cntD_upd (N := N) (s := s) (o := o) (k := k)
    refine ⟨fun h => ?_, fun h => ?_⟩
    · rw [cntD, cntD]
      by_cases e : s = k
      · subst e; rw [up_same, i2 (Nat.le_refl _)]; omega
      · have := i1 (by omega); rw [up_ne (fun h => e h.symm)]; omega
    · rw [cntD, cntD, i2 (by omega), up_ne (by omega)]
theorem edges_zero {N : Sto} {r : Nat} : ∀ {k}, edges N r k = 0 → ∀ s, s < k → ∀ d, N s = some d → d.lo ≠ r ∧ d.hi ≠ r
  | 0, _, s, hs, _, _ => by omega
  | k + 1, h, s, hs, d, hd => by
    rw [edges] at h
    by_cases e : s = k
    · subst e
      rw [hd, e1_some] at h
      constructor
      · intro h1; rw [if_pos h1] at h; omega
      · intro h1; rw [if_pos h1] at h; omega
    · exact edges_zero (k := k) (by omega) s (by omega) d hd
theorem edges_pos {N : Sto} {r : Nat} : ∀ {k}, 0 < edges N r k → ∃ s d, s < k ∧ N s = some d ∧ (d.lo = r ∨ d.hi = r)
  | 0, h => by simp [edges] at h
  | k + 1, h => by
    rw [edges] at h
    by_cases hk : 0 < edges N r k
    · obtain ⟨s, d, h1, h2, h3⟩ := edges_pos hk; exact ⟨s, d, by omega, h2, h3⟩
    · cases hd : N k with
      | none => rw [hd] at h; simp [e1] at h; omega
      | some d =>
        refine ⟨k, d, by omega, hd, ?_⟩
        rw [hd, e1_some] at h
        by_cases h1 : d.lo = r
        · exact .inl h1
        · by_cases h2 : d.hi = r
          · exact .inr h2
          · rw [if_neg h1, if_neg h2] at h; omega
theorem edges_le {N : Sto} {r : Nat} : ∀ k, edges N r k ≤ 2 * k
  | 0 => Nat.le_refl _
  | k + 1 => by
    have := edges_le (N := N) (r := r) k
    rw [edges]
    have : e1 (N k) r ≤ 2 := by
      cases N k with
      | none => simp [e1]
      | some d => rw [e1_some]; split <;> split <;> omega
    omega
theorem cntD_dom (N : Sto) : ∀ k, ((List.range k).filter fun r => (N r).isSome).length = cntD N k
  | 0 => rfl
  | k + 1 => by
    rw [List.range_succ, List.filter_append, List.length_append, cntD_dom N k, cntD]
    congr 1
    cases h : N k <;> simp [h]
structure Kd where
  n : Nat
  cap : Nat
  used : Nat
  N : Sto
  T : Nd → Option Nat
  us : List Nat
  ho : List Nat
def Kd.hold (K : Kd) (r : Nat) : Nat := K.ho.getD r 0
def Kd.use (K : Kd) (r : Nat) : Nat := K.us.getD r 0
structure Mid (K : Kd) (S : Nat → Fn) (E : Nat → Prop) (P : Nat → Nat) : Prop where
  two : ∀ {r d}, K.N r = some d → 2 ≤ r ∧ r < K.cap
  var : ∀ {r d}, K.N r = some d → d.v < K.n
  ne : ∀ {r d}, K.N r = some d → d.lo ≠ d.hi
  lo : ∀ {r d}, K.N r = some d → live K.N d.lo
  hi : ∀ {r d}, K.N r = some d → live K.N d.hi
  int : Interp K.N S
  tab : ∀ d r, K.T d = some r ↔ K.N r = some d ∧ ¬ E r
  use : ∀ {r d}, K.N r = some d → K.use r = edges K.N r K.cap + (if K.hold r = 0 then 0 else 1) + P r
  len : K.us.length = K.ho.length
  fit : ∀ {r d}, K.N r = some d → r < K.us.length
  held : ∀ r, K.hold r ≠ 0 → ∃ d, K.N r = some d
  mx : ∀ r, K.hold r ≤ 65535
  room : K.used = 2 + cntD K.N K.cap
  cap : K.used ≤ K.cap ∧ K.cap ≤ 1048576
variable {K : Kd} {S : Nat → Fn} {E : Nat → Prop} {P : Nat → Nat}
theorem live_up {N : Sto} {r s : Nat} {d : Nd} (h : live N s) : live (up N r (some d)) s := by
  rcases h with h | ⟨e, h⟩
  · exact .inl h
  · by_cases e2 : s = r
    · subst e2; exact .inr ⟨d, up_same⟩
    · exact .inr ⟨e, by rw [up_ne e2]; exact h⟩
theorem live_down {N : Sto} {r s : Nat} (h : live N s) (hne : s ≠ r) : live (up N r none) s := by
  rcases h with h | ⟨e, h⟩
  · exact .inl h
  · exact .inr ⟨e, by rw [up_ne hne]; exact h⟩
def Pos (K : Kd) : Prop := ∀ r d, K.N r = some d → 0 < K.use r
theorem Mid.less (h : Mid K S E P) {r : Nat} {us' : List Nat} (hP : 0 < P r) (hl : us'.length = K.us.length) (h1 : us'.getD r 0 + 1 = K.use r) (h2 : ∀ s, s ≠ r → us'.getD s 0 = K.use s) :
    Mid { K with us := us' } S E (up P r (P r - 1)) where
  two := h.two
  var := h.var
  ne := h.ne
  lo := h.lo
  hi := h.hi
  int := h.int
  tab := h.tab
  use := fun {s d} hd => by
    have := h.use hd
    show us'.getD s 0 = edges K.N s K.cap + (if K.hold s = 0 then 0 else 1) + up P r (P r - 1) s
    by_cases e : s = r
    · subst e
      rw [up_same]
      omega
    · rw [h2 s e, up_ne e]; exact this
  len := by show us'.length = _; rw [hl]; exact h.len
  fit := fun {s d} hd => by show s < us'.length; rw [hl]; exact h.fit hd
  held := h.held
  mx := h.mx
  room := h.room
  cap := h.cap
theorem Mid.free (h : Mid K S E P) {r : Nat} {d : Nd} (hd : K.N r = some d) (hE : ¬ E r) (h0 : K.use r = 0) :
    Mid { K with N := up K.N r none, T := upT K.T d none, used := K.used - 1 } S E (fun s => P s + e1 (some d) s) where
  two := fun {s e} hs => by
    have hs' : up K.N r none s = some e := hs
    by_cases e2 : s = r
    · subst e2; rw [up_same] at hs'; cases hs'
    · rw [up_ne e2] at hs'; exact h.two hs'
  var := fun {s e} hs => by
    have hs' : up K.N r none s = some e := hs
    by_cases e2 : s = r
    · subst e2; rw [up_same] at hs'; cases hs'
    · rw [up_ne e2] at hs'; exact h.var hs'
  ne := fun {s e} hs => by
    have hs' : up K.N r none s = some e := hs
    by_cases e2 : s = r
    · subst e2; rw [up_same] at hs'; cases hs'
    · rw [up_ne e2] at hs'; exact h.ne hs'
  lo := fun {s e} hs => by
    have hs' : up K.N r none s = some e := hs
    by_cases e2 : s = r
    · subst e2; rw [up_same] at hs'; cases hs'
    · rw [up_ne e2] at hs'
      have hu := h.use hd
      exact live_down (h.lo hs') (edges_zero (by omega) s (h.two hs').2 e hs').1
  hi := fun {s e} hs => by
    have hs' : up K.N r none s = some e := hs
    by_cases e2 : s = r
    · subst e2; rw [up_same] at hs'; cases hs'
    · rw [up_ne e2] at hs'
      have hu := h.use hd
      exact live_down (h.hi hs') (edges_zero (by omega) s (h.two hs').2 e hs').2
  int := ⟨h.int.zero, h.int.one, fun {s e} hs x => by
    have hs' : up K.N r none s = some e := hs
    by_cases e2 : s = r
    · subst e2; rw [up_same] at hs'; cases hs'
    · rw [up_ne e2] at hs'; exact h.int.node hs' x⟩
  tab := fun e s => by
    show upT K.T d none e = some s ↔ up K.N r none s = some e ∧ _
    by_cases e2 : e = d
    · subst e2
      rw [upT_same]
      constructor
      · intro h; cases h
      · rintro ⟨h1, h2⟩
        by_cases e3 : s = r
        · subst e3; rw [up_same] at h1; cases h1
        · rw [up_ne e3] at h1
          have a := (h.tab e s).2 ⟨h1, h2⟩
          have b := (h.tab e r).2 ⟨hd, hE⟩
          rw [a] at b; cases b; exact absurd rfl e3
    · rw [upT_ne e2, h.tab]
      by_cases e3 : s = r
      · subst e3
        rw [up_same]
        constructor
        · rintro ⟨h1, _⟩; rw [hd] at h1; cases h1; exact absurd rfl e2
        · rintro ⟨h1, _⟩; cases h1
      · rw [up_ne e3]
  use := fun {s e} hs => by
    have hs' : up K.N r none s = some e := hs
    by_cases e2 : s = r
    · subst e2; rw [up_same] at hs'; cases hs'
    · rw [up_ne e2] at hs'
      have hu := h.use hs'
      have he := edges_up (N := K.N) (s := r) (r := s) (k := K.cap) (o := none) (h.two hd).2
      show K.use s = edges (up K.N r none) s K.cap + (if K.hold s = 0 then 0 else 1) + (P s + e1 (some d) s)
      rw [hd] at he
      have : e1 none s = 0 := rfl
      omega
  len := h.len
  fit := fun {s e} hs => by
    have hs' : up K.N r none s = some e := hs
    by_cases e2 : s = r
    · subst e2; rw [up_same] at hs'; cases hs'
    · rw [up_ne e2] at hs'; exact h.fit hs'
  held := fun s hs => by
    obtain ⟨e, he⟩ := h.held s hs
    have hne : s ≠ r := fun e2 => by
      subst e2
      have hu := h.use hd
      have hs' : K.hold s ≠ 0 := hs
      rw [if_neg hs'] at hu; omega
    exact ⟨e, by show up K.N r none s = _; rw [up_ne hne]; exact he⟩
  mx := h.mx
  room := by
    have := (cntD_upd (N := K.N) (s := r) (o := none) (k := K.cap)).1 (h.two hd).2
    have hr := h.room
    rw [hd] at this
    show K.used - 1 = 2 + cntD (up K.N r none) K.cap
    simp at this; omega
  cap := ⟨by have := h.cap.1; show K.used - 1 ≤ K.cap; omega, h.cap.2⟩
theorem Mid.more (h : Mid K S E P) {r : Nat} {us' : List Nat} (hl : us'.length = K.us.length) (h1 : us'.getD r 0 = K.use r + 1) (h2 : ∀ s, s ≠ r → us'.getD s 0 = K.use s) :
    Mid { K with us := us' } S E (up P r (P r + 1)) where
  two := h.two
  var := h.var
  ne := h.ne
  lo := h.lo
  hi := h.hi
  int := h.int
  tab := h.tab
  use := fun {s d} hd => by
    have := h.use hd
    show us'.getD s 0 = edges K.N s K.cap + (if K.hold s = 0 then 0 else 1) + up P r (P r + 1) s
    by_cases e : s = r
    · subst e
      rw [up_same]
      omega
    · rw [h2 s e, up_ne e]; exact this
  len := by show us'.length = _; rw [hl]; exact h.len
  fit := fun {s d} hd => by show s < us'.length; rw [hl]; exact h.fit hd
  held := h.held
  mx := h.mx
  room := h.room
  cap := h.cap
end Bdd
namespace Bdd
open Tab
variable {K : Kd} {S : Nat → Fn} {E : Nat → Prop} {P : Nat → Nat}
def ite (S : Nat → Fn) (d : Nd) : Fn := fun x => if x.testBit d.v then S d.hi x else S d.lo x
theorem live_ne {N : Sto} {r s : Nat} (h : live N s) (h2 : 2 ≤ r) (hr : N r = none) : s ≠ r := fun e => by
  subst e
  rcases h with h | ⟨d, h⟩
  · omega
  · rw [hr] at h; cases h
theorem Mid.lay (h : Mid K S E P) {r : Nat} {d : Nd} {us' ho' : List Nat} (hr : K.N r = none) (h2 : 2 ≤ r ∧ r < K.cap) (hv : d.v < K.n) (hne : d.lo ≠ d.hi) (hlo : live K.N d.lo) (hhi : live K.N d.hi) (hT : K.T d = none) (hE : ¬ E r)
    (hP : P r = 0) (hro : K.used < K.cap) (hl : us'.length = ho'.length) (hf : r < us'.length ∧ K.us.length ≤ us'.length) (u0 : us'.getD r 0 = 0) (u1 : ∀ s, 2 ≤ s → s ≠ r → us'.getD s 0 = K.use s + e1 (some d) s) (o0 : ho'.getD r 0 = 0) (o1 : ∀ s, s ≠ r → ho'.getD s 0 = K.hold s) :
    Mid { K with N := up K.N r (some d), T := upT K.T d (some r), used := K.used + 1, us := us', ho := ho' } (up S r (ite S d)) E P where
  two := fun {s e} hs => by
    have hs' : up K.N r (some d) s = some e := hs
    by_cases e2 : s = r
    · subst e2; exact h2
    · rw [up_ne e2] at hs'; exact h.two hs'
  var := fun {s e} hs => by
    have hs' : up K.N r (some d) s = some e := hs
    by_cases e2 : s = r
    · subst e2; rw [up_same] at hs'; cases hs'; exact hv
    · rw [up_ne e2] at hs'; exact h.var hs'
  ne := fun {s e} hs => by
    have hs' : up K.N r (some d) s = some e := hs
    by_cases e2 : s = r
    · subst e2; rw [up_same] at hs'; cases hs'; exact hne
    · rw [up_ne e2] at hs'; exact h.ne hs'
  lo := fun {s e} hs => by
    have hs' : up K.N r (some d) s = some e := hs
    by_cases e2 : s = r
    · subst e2; rw [up_same] at hs'; cases hs'; exact live_up hlo
    · rw [up_ne e2] at hs'; exact live_up (h.lo hs')
  hi := fun {s e} hs => by
    have hs' : up K.N r (some d) s = some e := hs
    by_cases e2 : s = r
    · subst e2; rw [up_same] at hs'; cases hs'; exact live_up hhi
    · rw [up_ne e2] at hs'; exact live_up (h.hi hs')
  int := ⟨fun x => by rw [up_ne (by omega)]; exact h.int.zero x, fun x => by rw [up_ne (by omega)]; exact h.int.one x, fun {s e} hs x => by
    have hs' : up K.N r (some d) s = some e := hs
    by_cases e2 : s = r
    · subst e2; rw [up_same] at hs'; cases hs'
      rw [up_same, up_ne (live_ne hlo h2.1 hr), up_ne (live_ne hhi h2.1 hr)]; rfl
    · rw [up_ne e2] at hs'
      rw [up_ne e2, up_ne (live_ne (h.lo hs') h2.1 hr), up_ne (live_ne (h.hi hs') h2.1 hr)]
      exact h.int.node hs' x⟩
  tab := fun e s => by
    show upT K.T d (some r) e = some s ↔ up K.N r (some d) s = some e ∧ _
    by_cases e2 : e = d
    · subst e2
      rw [upT_same]
      constructor
      · intro h; cases h; exact ⟨up_same, hE⟩
      · rintro ⟨h1, h2'⟩
        by_cases e3 : s = r
        · rw [e3]
        · rw [up_ne e3] at h1
          have a := (h.tab e s).2 ⟨h1, h2'⟩
          rw [hT] at a; cases a
    · rw [upT_ne e2, h.tab]
      by_cases e3 : s = r
      · subst e3
        rw [up_same, hr]
        constructor
        · rintro ⟨h1, _⟩; cases h1
        · rintro ⟨h1, _⟩; cases h1; exact absurd rfl e2
      · rw [up_ne e3]
  use := fun {s e} hs => by
    have hs' : up K.N r (some d) s = some e := hs
    have he := edges_up (N := K.N) (s := r) (r := s) (k := K.cap) (o := some d) h2.2
    rw [hr] at he
    have h0 : e1 none s = 0 := rfl
    show us'.getD s 0 = edges (up K.N r (some d)) s K.cap + (if ho'.getD s 0 = 0 then 0 else 1) + P s
    by_cases e2 : s = r
    · subst e2
      have hz : edges K.N s K.cap = 0 := by
        refine Nat.eq_zero_of_not_pos fun hp => ?_
        obtain ⟨t, e', _, ht, hc⟩ := edges_pos hp
        have hl1 := live_ne (h.lo ht) h2.1 hr
        have hl2 := live_ne (h.hi ht) h2.1 hr
        rcases hc with hc | hc
        · exact hl1 hc
        · exact hl2 hc
      have hd0 : e1 (some d) s = 0 := by
        rw [e1_some, if_neg (live_ne hlo h2.1 hr), if_neg (live_ne hhi h2.1 hr)]
      rw [u0, o0, if_pos rfl]; omega
    · rw [up_ne e2] at hs'
      have hu := h.use hs'
      have h3 : ho'.getD s 0 = K.hold s := o1 s e2
      rw [u1 s (h.two hs').1 e2, h3]; omega
  len := hl
  fit := fun {s e} hs => by
    have hs' : up K.N r (some d) s = some e := hs
    show s < us'.length
    by_cases e2 : s = r
    · subst e2; exact hf.1
    · rw [up_ne e2] at hs'; exact Nat.lt_of_lt_of_le (h.fit hs') hf.2
  held := fun s hs => by
    have hs' : ho'.getD s 0 ≠ 0 := hs
    by_cases e2 : s = r
    · subst e2; exact ⟨d, up_same⟩
    · rw [o1 s e2] at hs'
      obtain ⟨e, he⟩ := h.held s hs'
      exact ⟨e, by show up K.N r (some d) s = _; rw [up_ne e2]; exact he⟩
  mx := fun s => by
    show ho'.getD s 0 ≤ 65535
    by_cases e2 : s = r
    · subst e2; rw [o0]; decide
    · rw [o1 s e2]; exact h.mx s
  room := by
    have := (cntD_upd (N := K.N) (s := r) (o := some d) (k := K.cap)).1 h2.2
    have hr' := h.room
    rw [hr] at this
    show K.used + 1 = 2 + cntD (up K.N r (some d)) K.cap
    simp at this; omega
  cap := ⟨by show K.used + 1 ≤ K.cap; omega, h.cap.2⟩
theorem Mid.hide (h : Mid K S E P) {r : Nat} {d : Nd} (hd : K.N r = some d) (hE : ¬ E r) : Mid { K with T := upT K.T d none } S (fun s => E s ∨ s = r) P where
  two := h.two
  var := h.var
  ne := h.ne
  lo := h.lo
  hi := h.hi
  int := h.int
  tab := fun e s => by
    show upT K.T d none e = some s ↔ _
    by_cases e2 : e = d
    · subst e2
      rw [upT_same]
      constructor
      · intro h; cases h
      · rintro ⟨h1, h2⟩
        have a := (h.tab e s).2 ⟨h1, fun x => h2 (.inl x)⟩
        have b := (h.tab e r).2 ⟨hd, hE⟩
        rw [a] at b; cases b; exact absurd (.inr rfl) h2
    · rw [upT_ne e2, h.tab]
      constructor
      · rintro ⟨h1, h2⟩
        refine ⟨h1, fun x => ?_⟩
        rcases x with x | rfl
        · exact h2 x
        · have h1' : K.N s = some e := h1
          rw [hd] at h1'; cases h1'; exact e2 rfl
      · rintro ⟨h1, h2⟩; exact ⟨h1, fun x => h2 (.inl x)⟩
  use := h.use
  len := h.len
  fit := h.fit
  held := h.held
  mx := h.mx
  room := h.room
  cap := h.cap
theorem Mid.turn (h : Mid K S E P) {r : Nat} {d d' : Nd} {P' : Nat → Nat} (hd : K.N r = some d) (hE : E r) (hv : d'.v < K.n) (hne : d'.lo ≠ d'.hi) (hlo : live K.N d'.lo) (hhi : live K.N d'.hi) (hT : K.T d' = none) (hS : ∀ x, S r x = ite S d' x)
    (hP : ∀ s, 2 ≤ s → P' s + e1 (some d') s = P s + e1 (some d) s) : Mid { K with N := up K.N r (some d'), T := upT K.T d' (some r) } S (fun s => E s ∧ s ≠ r) P' where
  two := fun {s e} hs => by
    have hs' : up K.N r (some d') s = some e := hs
    by_cases e2 : s = r
    · subst e2; exact h.two hd
    · rw [up_ne e2] at hs'; exact h.two hs'
  var := fun {s e} hs => by
    have hs' : up K.N r (some d') s = some e := hs
    by_cases e2 : s = r
    · subst e2; rw [up_same] at hs'; cases hs'; exact hv
    · rw [up_ne e2] at hs'; exact h.var hs'
  ne := fun {s e} hs => by
    have hs' : up K.N r (some d') s = some e := hs
    by_cases e2 : s = r
    · subst e2; rw [up_same] at hs'; cases hs'; exact hne
    · rw [up_ne e2] at hs'; exact h.ne hs'
  lo := fun {s e} hs => by
    have hs' : up K.N r (some d') s = some e := hs
    by_cases e2 : s = r
    · subst e2; rw [up_same] at hs'; cases hs'; exact live_up hlo
    · rw [up_ne e2] at hs'; exact live_up (h.lo hs')
  hi := fun {s e} hs => by
    have hs' : up K.N r (some d') s = some e := hs
    by_cases e2 : s = r
    · subst e2; rw [up_same] at hs'; cases hs'; exact live_up hhi
    · rw [up_ne e2] at hs'; exact live_up (h.hi hs')
  int := ⟨h.int.zero, h.int.one, fun {s e} hs x => by
    have hs' : up K.N r (some d') s = some e := hs
    by_cases e2 : s = r
    · subst e2; rw [up_same] at hs'; cases hs'; exact hS x
    · rw [up_ne e2] at hs'; exact h.int.node hs' x⟩
  tab := fun e s => by
    show upT K.T d' (some r) e = some s ↔ up K.N r (some d') s = some e ∧ ¬ (E s ∧ s ≠ r)
    by_cases e2 : e = d'
    · subst e2
      rw [upT_same]
      constructor
      · intro h; cases h; exact ⟨up_same, fun x => x.2 rfl⟩
      · rintro ⟨h1, h2'⟩
        by_cases e3 : s = r
        · rw [e3]
        · rw [up_ne e3] at h1
          have a := (h.tab e s).2 ⟨h1, fun x => h2' ⟨x, e3⟩⟩
          rw [hT] at a; cases a
    · rw [upT_ne e2, h.tab]
      by_cases e3 : s = r
      · subst e3
        rw [up_same]
        constructor
        · rintro ⟨_, h1⟩; exact absurd hE h1
        · rintro ⟨h1, _⟩; cases h1; exact absurd rfl e2
      · rw [up_ne e3]
        constructor
        · rintro ⟨h1, h2⟩; exact ⟨h1, fun x => h2 x.1⟩
        · rintro ⟨h1, h2⟩; exact ⟨h1, fun x => h2 ⟨x, e3⟩⟩
  use := fun {s e} hs => by
    have hs' : up K.N r (some d') s = some e := hs
    have he := edges_up (N := K.N) (s := r) (r := s) (k := K.cap) (o := some d') (h.two hd).2
    rw [hd] at he
    show K.use s = edges (up K.N r (some d')) s K.cap + (if K.hold s = 0 then 0 else 1) + P' s
    by_cases e2 : s = r
    · subst e2
      have hu := h.use hd
      have := hP s (h.two hd).1
      omega
    · rw [up_ne e2] at hs'
      have hu := h.use hs'
      have := hP s (h.two hs').1
      omega
  len := h.len
  fit := fun {s e} hs => by
    have hs' : up K.N r (some d') s = some e := hs
    by_cases e2 : s = r
    · subst e2; exact h.fit hd
    · rw [up_ne e2] at hs'; exact h.fit hs'
  held := fun s hs => by
    obtain ⟨e, he⟩ := h.held s hs
    by_cases e2 : s = r
    · subst e2; exact ⟨d', up_same⟩
    · exact ⟨e, by show up K.N r (some d') s = _; rw [up_ne e2]; exact he⟩
  mx := h.mx
  room := by
    have := (cntD_upd (N := K.N) (s := r) (o := some d') (k := K.cap)).1 (h.two hd).2
    have hr' := h.room
    rw [hd] at this
    show K.used = 2 + cntD (up K.N r (some d')) K.cap
    simp at this; omega
  cap := h.cap
theorem Mid.keep (h : Mid K S E P) {r : Nat} {us' ho' : List Nat} (hr : ∃ d, K.N r = some d) (hm : K.hold r < 65535) (hl : us'.length = K.us.length ∧ ho'.length = K.ho.length) (o0 : ho'.getD r 0 = K.hold r + 1) (o1 : ∀ s, s ≠ r → ho'.getD s 0 = K.hold s)
    (u0 : us'.getD r 0 = K.use r + (if K.hold r = 0 then 1 else 0)) (u1 : ∀ s, s ≠ r → us'.getD s 0 = K.use s) : Mid { K with us := us', ho := ho' } S E P where
  two := h.two
  var := h.var
  ne := h.ne
  lo := h.lo
  hi := h.hi
  int := h.int
  tab := h.tab
  use := fun {s e} hs => by
    have hu := h.use hs
    show us'.getD s 0 = edges K.N s K.cap + (if ho'.getD s 0 = 0 then 0 else 1) + P s
    by_cases e2 : s = r
    · subst e2
      rw [u0, o0, if_neg (by omega : ¬ K.hold s + 1 = 0)]
      by_cases e3 : K.hold s = 0
      · rw [if_pos e3] at hu ⊢; omega
      · rw [if_neg e3] at hu ⊢; omega
    · rw [u1 s e2, o1 s e2]; exact hu
  len := by show us'.length = ho'.length; rw [hl.1, hl.2]; exact h.len
  fit := fun {s e} hs => by show s < us'.length; rw [hl.1]; exact h.fit hs
  held := fun s hs => by
    have hs' : ho'.getD s 0 ≠ 0 := hs
    by_cases e2 : s = r
    · subst e2; exact hr
    · rw [o1 s e2] at hs'; exact h.held s hs'
  mx := fun s => by
    show ho'.getD s 0 ≤ 65535
    by_cases e2 : s = r
    · subst e2; rw [o0]; omega
    · rw [o1 s e2]; exact h.mx s
  room := h.room
  cap := h.cap
theorem Mid.drop (h : Mid K S E P) {r : Nat} {ho' : List Nat} (hr : 0 < K.hold r) (hl : ho'.length = K.ho.length) (o0 : ho'.getD r 0 + 1 = K.hold r) (o1 : ∀ s, s ≠ r → ho'.getD s 0 = K.hold s) :
    Mid { K with ho := ho' } S E (if K.hold r = 1 then up P r (P r + 1) else P) where
  two := h.two
  var := h.var
  ne := h.ne
  lo := h.lo
  hi := h.hi
  int := h.int
  tab := h.tab
  use := fun {s e} hs => by
    have hu := h.use hs
    show K.use s = edges K.N s K.cap + (if ho'.getD s 0 = 0 then 0 else 1) + (if K.hold r = 1 then up P r (P r + 1) else P) s
    by_cases e2 : s = r
    · subst e2
      rw [if_neg (by omega : ¬ K.hold s = 0)] at hu
      by_cases e3 : K.hold s = 1
      · rw [if_pos e3, up_same, if_pos (by omega)]; omega
      · rw [if_neg e3, if_neg (by omega)]; omega
    · rw [o1 s e2]
      by_cases e3 : K.hold r = 1
      · rw [if_pos e3, up_ne e2]; exact hu
      · rw [if_neg e3]; exact hu
  len := by show K.us.length = ho'.length; rw [hl]; exact h.len
  fit := h.fit
  held := fun s hs => by
    have hs' : ho'.getD s 0 ≠ 0 := hs
    by_cases e2 : s = r
    · subst e2; exact h.held s (by omega)
    · rw [o1 s e2] at hs'; exact h.held s hs'
  mx := fun s => by
    show ho'.getD s 0 ≤ 65535
    have := h.mx r
    by_cases e2 : s = r
    · subst e2; omega
    · rw [o1 s e2]; exact h.mx s
  room := h.room
  cap := h.cap
theorem Mid.congr (h : Mid K S E P) {E' : Nat → Prop} {P' : Nat → Nat} (hE : ∀ s, E s ↔ E' s) (hP : ∀ s, 2 ≤ s → P s = P' s) : Mid K S E' P' where
  two := h.two
  var := h.var
  ne := h.ne
  lo := h.lo
  hi := h.hi
  int := h.int
  tab := fun d r => by rw [h.tab, hE]
  use := fun {s e} hs => by rw [← hP s (h.two hs).1]; exact h.use hs
  len := h.len
  fit := h.fit
  held := h.held
  mx := h.mx
  room := h.room
  cap := h.cap
def none' : Nat → Prop := fun _ => False
def zero' : Nat → Nat := fun _ => 0
structure Ok (K : Kd) (S : Nat → Fn) (lev : Nat → Nat) : Prop where
  mid : Mid K S none' zero'
  pos : Pos K
  lv : Lev K.n lev
  wf : WF K.n lev K.N
theorem Mid.uq (h : Mid K S none' P) {r r' : Nat} {d : Nd} (h1 : K.N r = some d) (h2 : K.N r' = some d) : r = r' := by
  have a := (h.tab d r).2 ⟨h1, fun x => x⟩
  have b := (h.tab d r').2 ⟨h2, fun x => x⟩
  rw [a] at b; cases b; rfl
theorem Mid.wf (h : Mid K S none' P) {lev : Nat → Nat} (hl : ∀ {r d}, K.N r = some d → lev d.v < dep K.n lev K.N d.lo ∧ lev d.v < dep K.n lev K.N d.hi) : WF K.n lev K.N :=
  ⟨fun hd => (h.two hd).1, h.var, h.ne, fun hd => ⟨h.lo hd, (hl hd).1⟩, fun hd => ⟨h.hi hd, (hl hd).2⟩, h.uq⟩
theorem Ok.reach {lev : Nat → Nat} (h : Ok K S lev) : Reach K.N (fun r => K.hold r ≠ 0) := fun r d hd => by
  have hu := h.mid.use hd
  have hp := h.pos r d hd
  by_cases e : K.hold r = 0
  · rw [if_pos e] at hu
    have : zero' r = 0 := rfl
    obtain ⟨s, e', _, h1, h2⟩ := edges_pos (N := K.N) (r := r) (k := K.cap) (by omega)
    exact .inr ⟨s, e', h1, h2⟩
  · exact .inl e
theorem Ok.dom {lev : Nat → Nat} (h : Ok K S lev) : ∃ dom : List Nat, dom.Nodup ∧ dom.length + 2 = K.used ∧ ∀ r, r ∈ dom ↔ ∃ d, K.N r = some d := by
  refine ⟨(List.range K.cap).filter fun r => (K.N r).isSome, List.nodup_range.filter _, by rw [cntD_dom, h.mid.room]; omega, fun r => ?_⟩
  rw [List.mem_filter, List.mem_range, Option.isSome_iff_exists]
  exact ⟨fun h => h.2, fun ⟨d, hd⟩ => ⟨(h.mid.two hd).2, d, hd⟩⟩
def Kd.held (K : Kd) (S : Nat → Fn) : Fn → Prop := Fs S fun r => K.hold r ≠ 0
theorem Ok.size {lev : Nat → Nat} {ord : List Nat} (h : Ok K S lev) (ho : Ord K.n lev ord) : Cnt (NodeSet K.n ord (K.held S)) (K.used - 2) := by
  obtain ⟨dom, h1, h2, h3⟩ := h.dom
  have hc := cnt_nodes h.wf h.lv h.mid.int h1 h3
  rw [show dom.length = K.used - 2 by omega] at hc
  refine hc.congr fun g => ?_
  exact (nodeSet_iff h.wf h.lv ho h.mid.int (fun r hr => .inr (h.mid.held r hr)) h.reach g).symm
end Bdd
namespace Bdd
open Tab
variable {n : Nat} {lev : Nat → Nat} {N : Sto} {S : Nat → Fn} {ord : List Nat} {K : Kd}
def pl (N : Sto) (y r : Nat) : Nat := match N r with | some e => if e.v = y then e.lo else r | none => r
def ph (N : Sto) (y r : Nat) : Nat := match N r with | some e => if e.v = y then e.hi else r | none => r
theorem pl_y {y r : Nat} {e : Nd} (h : N r = some e) (hv : e.v = y) : pl N y r = e.lo ∧ ph N y r = e.hi := by simp [pl, ph, h, hv]
theorem pl_o {y r : Nat} (h : ∀ e, N r = some e → e.v ≠ y) : pl N y r = r ∧ ph N y r = r := by
  unfold pl ph
  cases hr : N r with
  | none => exact ⟨rfl, rfl⟩
  | some e => simp [h e hr]
theorem WF.half (h : WF n lev N) (hl : Lev n lev) (hi : Interp N S) {y l r : Nat} (hy : y < n ∧ lev y = l + 1) (hr : live N r) (hd : l < dep n lev N r) :
    (live N (pl N y r) ∧ l + 1 < dep n lev N (pl N y r)) ∧ (live N (ph N y r) ∧ l + 1 < dep n lev N (ph N y r)) ∧ ∀ z, S r z = if z.testBit y then S (ph N y r) z else S (pl N y r) z := by
  by_cases e : ∃ e, N r = some e ∧ e.v = y
  · obtain ⟨e, he, hv⟩ := e
    obtain ⟨p1, p2⟩ := pl_y he hv
    rw [p1, p2]
    have h1 := h.lo he
    have h2 := h.hi he
    rw [hv, hy.2] at h1 h2
    exact ⟨h1, h2, fun z => by rw [hi.node he, hv]⟩
  · have ho : ∀ e', N r = some e' → e'.v ≠ y := fun e' h1 h2 => e ⟨e', h1, h2⟩
    obtain ⟨p1, p2⟩ := pl_o ho
    rw [p1, p2]
    have hd2 : l + 1 < dep n lev N r := by
      rcases hr with hr | ⟨e', he⟩
      · rw [dep_none (h.const hr)]
        have := hl.lt y hy.1; omega
      · rw [dep_some he] at hd ⊢
        have h1 := ho e' he
        refine Nat.lt_of_le_of_ne hd fun e2 => h1 (hl.inj _ _ (h.var he) hy.1 (by omega))
    exact ⟨⟨hr, hd2⟩, ⟨hr, hd2⟩, fun z => by split <;> rfl⟩
theorem WF.half_eq (h : WF n lev N) (hl : Lev n lev) (hi : Interp N S) {y l a b : Nat} (hy : y < n ∧ lev y = l + 1) (ha : live N a) (hb : live N b) (da : l < dep n lev N a) (db : l < dep n lev N b)
    (h1 : pl N y a = pl N y b) (h2 : ph N y a = ph N y b) : a = b := by
  refine h.same hl hi ha hb fun z => ?_
  rw [(h.half hl hi hy ha da).2.2 z, (h.half hl hi hy hb db).2.2 z, h1, h2]
structure Cx where
  r : Nat
  d : Nd
  a00 : Nat
  a01 : Nat
  a10 : Nat
  a11 : Nat
def crosses (N : Sto) (x y r : Nat) (d : Nd) : Prop := N r = some d ∧ d.v = x ∧ ((∃ e, N d.lo = some e ∧ e.v = y) ∨ ∃ e, N d.hi = some e ∧ e.v = y)
def cxOf (N : Sto) (y r : Nat) (d : Nd) : Cx := ⟨r, d, pl N y d.lo, ph N y d.lo, pl N y d.hi, ph N y d.hi⟩
structure CxAll (N : Sto) (x y : Nat) (l : List Cx) : Prop where
  nd : (l.map Cx.r).Nodup
  mem : ∀ c, c ∈ l ↔ crosses N x y c.r c.d ∧ c = cxOf N y c.r c.d
def keys (x : Nat) (c : Cx) : List Nd := [⟨x, c.a00, c.a10⟩, ⟨x, c.a01, c.a11⟩]
structure Made (K : Kd) (x : Nat) (l : List Cx) (made : List Nd) : Prop where
  nd : made.Nodup
  mem : ∀ k, k ∈ made ↔ (∃ c ∈ l, k ∈ keys x c) ∧ K.T k = none ∧ k.lo ≠ k.hi
structure Nb (n : Nat) (lev : Nat → Nat) (x y l : Nat) : Prop where
  xn : x < n
  yn : y < n
  lx : lev x = l
  ly : lev y = l + 1
variable {x y l : Nat}
theorem Nb.ne (h : Nb n lev x y l) : x ≠ y := fun e => by have h1 := h.lx; have h2 := h.ly; rw [e] at h1; omega
theorem Nb.yy (h : Nb n lev x y l) : y < n ∧ lev y = l + 1 := ⟨h.yn, h.ly⟩
theorem keys_low (h : WF n lev N) (hl : Lev n lev) (hi : Interp N S) (hb : Nb n lev x y l) {r : Nat} {d : Nd} (hd : N r = some d) (hx : d.v = x) {k : Nd} (hk : k ∈ keys x (cxOf N y r d)) :
    k.v = x ∧ (live N k.lo ∧ l + 1 < dep n lev N k.lo) ∧ (live N k.hi ∧ l + 1 < dep n lev N k.hi) := by
  have h1 := h.lo hd
  have h2 := h.hi hd
  rw [hx, hb.lx] at h1 h2
  have a := h.half hl hi hb.yy h1.1 h1.2
  have b := h.half hl hi hb.yy h2.1 h2.2
  simp only [keys, cxOf, List.mem_cons, List.not_mem_nil, or_false] at hk
  rcases hk with rfl | rfl
  · exact ⟨rfl, a.1, b.1⟩
  · exact ⟨rfl, a.2.1, b.2.1⟩
theorem cross_fn (h : WF n lev N) (hl : Lev n lev) (hi : Interp N S) (hb : Nb n lev x y l) {r : Nat} {d : Nd} (hd : N r = some d) (hx : d.v = x) (z : Nat) :
    S r z = if z.testBit y then ite S ⟨x, ph N y d.lo, ph N y d.hi⟩ z else ite S ⟨x, pl N y d.lo, pl N y d.hi⟩ z := by
  have h1 := h.lo hd
  have h2 := h.hi hd
  rw [hx, hb.lx] at h1 h2
  have a := (h.half hl hi hb.yy h1.1 h1.2).2.2 z
  have b := (h.half hl hi hb.yy h2.1 h2.2).2.2 z
  rw [hi.node hd, hx, a, b]
  unfold ite
  simp only
  cases z.testBit x <;> cases z.testBit y <;> rfl
theorem ite_cof (h : WF n lev N) (hl : Lev n lev) (hi : Interp N S) (hb : Nb n lev x y l) {k : Nd} (hk : k.v = x) (h1 : live N k.lo ∧ l + 1 < dep n lev N k.lo) (h2 : live N k.hi ∧ l + 1 < dep n lev N k.hi) (z : Nat) (b : Bool) :
    ite S k (setb z x b) = S (if b then k.hi else k.lo) z := by
  unfold ite
  rw [hk, testBit_setb, if_pos rfl]
  cases b
  · simp only [Bool.false_eq_true, if_false]; exact h.indep' hl hi h1.1 hb.xn (by rw [hb.lx]; omega) z false
  · simp only [if_true]; exact h.indep' hl hi h2.1 hb.xn (by rw [hb.lx]; omega) z true
theorem ite_other (h : WF n lev N) (hl : Lev n lev) (hi : Interp N S) (hb : Nb n lev x y l) {k : Nd} (hk : k.v = x) (h1 : live N k.lo ∧ l + 1 < dep n lev N k.lo) (h2 : live N k.hi ∧ l + 1 < dep n lev N k.hi) {u : Nat} (hu : u < n) (hul : lev u ≤ l + 1) (hne : u ≠ x) (z : Nat) (b : Bool) :
    ite S k (setb z u b) = ite S k z := by
  unfold ite
  rw [hk, testBit_setb, if_neg (Ne.symm hne), h.indep' hl hi h1.1 hu (by omega), h.indep' hl hi h2.1 hu (by omega)]
theorem node_hangs (h : WF n lev N) (hl : Lev n lev) (hi : Interp N S) {r : Nat} {d : Nd} (hd : N r = some d) : ∃ z, S r (setb z d.v false) ≠ S r (setb z d.v true) := by
  refine Classical.byContradiction fun hno => h.ne hd (h.same hl hi (h.lo hd).1 (h.hi hd).1 fun z => ?_)
  have c1 := h.child hl hi hd z false
  have c2 := h.child hl hi hd z true
  simp only [Bool.false_eq_true, if_false, if_true] at c1 c2
  rw [← c1, ← c2]
  exact Classical.byContradiction fun hne => hno ⟨z, hne⟩
theorem ite_node (h : WF n lev N) (hl : Lev n lev) (hi : Interp N S) (hb : Nb n lev x y l) {k : Nd} (hk : k.v = x) (hne : k.lo ≠ k.hi) (h1 : live N k.lo ∧ l + 1 < dep n lev N k.lo) (h2 : live N k.hi ∧ l + 1 < dep n lev N k.hi)
    {r : Nat} {d : Nd} (hd : N r = some d) (he : ite S k = S r) : d = k := by
  have hv := h.var hd
  have hvx : d.v = x := by
    rcases Nat.lt_trichotomy (lev d.v) l with hlt | heq | hgt
    · obtain ⟨z, hz⟩ := node_hangs h hl hi hd
      have hne2 : d.v ≠ x := fun e => by rw [e, hb.lx] at hlt; omega
      rw [← he, ite_other h hl hi hb hk h1 h2 hv (by omega) hne2, ite_other h hl hi hb hk h1 h2 hv (by omega) hne2] at hz
      exact absurd rfl hz
    · exact hl.inj _ _ hv hb.xn (by rw [hb.lx]; exact heq)
    · refine absurd (h.same hl hi h1.1 h2.1 fun z => ?_) hne
      have c1 := ite_cof h hl hi hb hk h1 h2 z false
      have c2 := ite_cof h hl hi hb hk h1 h2 z true
      simp only [Bool.false_eq_true, if_false, if_true] at c1 c2
      have hdp : lev x < dep n lev N r := by rw [dep_some hd, hb.lx]; exact hgt
      rw [← c1, ← c2, he, h.indep' hl hi (.inr ⟨d, hd⟩) hb.xn hdp, h.indep' hl hi (.inr ⟨d, hd⟩) hb.xn hdp]
  have c : ∀ (b : Bool) z, S (if b then k.hi else k.lo) z = S (if b then d.hi else d.lo) z := fun (b : Bool) z => by
    rw [← ite_cof h hl hi hb hk h1 h2 z b, he, ← hvx, h.child hl hi hd z b]
  have e1 := h.same hl hi h1.1 (h.lo hd).1 (fun z => by simpa using c false z)
  have e2 := h.same hl hi h2.1 (h.hi hd).1 (fun z => by simpa using c true z)
  cases d; cases k; simp_all
theorem ite_inj (h : WF n lev N) (hl : Lev n lev) (hi : Interp N S) (hb : Nb n lev x y l) {k k' : Nd} (hk : k.v = x) (hk' : k'.v = x) (h1 : live N k.lo ∧ l + 1 < dep n lev N k.lo) (h2 : live N k.hi ∧ l + 1 < dep n lev N k.hi)
    (h1' : live N k'.lo ∧ l + 1 < dep n lev N k'.lo) (h2' : live N k'.hi ∧ l + 1 < dep n lev N k'.hi) (he : ite S k = ite S k') : k = k' := by
  have c : ∀ (b : Bool) z, S (if b then k.hi else k.lo) z = S (if b then k'.hi else k'.lo) z := fun (b : Bool) z => by
    rw [← ite_cof h hl hi hb hk h1 h2 z b, he, ite_cof h hl hi hb hk' h1' h2' z b]
  have e1 := h.same hl hi h1.1 h1'.1 (fun z => by simpa using c false z)
  have e2 := h.same hl hi h2.1 h2'.1 (fun z => by simpa using c true z)
  cases k; cases k'; simp_all
def swp (ord : List Nat) (l : Nat) : List Nat := (ord.set l (ord.getD (l + 1) 0)).set (l + 1) (ord.getD l 0)
theorem swp_len (ord : List Nat) (l : Nat) : (swp ord l).length = ord.length := by simp [swp]
theorem swp_get {i : Nat} (hl : l + 1 < ord.length) : (swp ord l).getD i 0 = if i = l then ord.getD (l + 1) 0 else if i = l + 1 then ord.getD l 0 else ord.getD i 0 := by
  unfold swp
  rw [List.getD_eq_getElem?_getD, List.getElem?_set, List.getElem?_set]
  by_cases e1 : l + 1 = i
  · subst e1
    rw [if_pos rfl, if_pos (by simp; omega), if_neg (by omega), if_pos rfl]; rfl
  · rw [if_neg e1]
    by_cases e2 : l = i
    · subst e2; rw [if_pos rfl, if_pos (by omega), if_pos rfl]; rfl
    · rw [if_neg e2, if_neg (fun e => e2 e.symm), if_neg (fun e => e1 e.symm), ← List.getD_eq_getElem?_getD]
def swl (lev : Nat → Nat) (x y l : Nat) : Nat → Nat := fun v => if v = x then l + 1 else if v = y then l else lev v
theorem swl_lev (hl : Lev n lev) (hb : Nb n lev x y l) : Lev n (swl lev x y l) := by
  have hyn := hl.lt y hb.yn
  rw [hb.ly] at hyn
  have key : ∀ v, v < n → v ≠ x → v ≠ y → lev v ≠ l ∧ lev v ≠ l + 1 := fun v hv h1 h2 => ⟨fun e => h1 (hl.inj _ _ hv hb.xn (by rw [hb.lx]; exact e)), fun e => h2 (hl.inj _ _ hv hb.yn (by rw [hb.ly]; exact e))⟩
  refine ⟨fun v hv => ?_, fun u v hu hv he => ?_⟩
  · unfold swl
    split
    · exact hyn
    · split
      · omega
      · exact hl.lt v hv
  · unfold swl at he
    by_cases u1 : u = x
    · by_cases v1 : v = x
      · rw [u1, v1]
      · rw [if_pos u1, if_neg v1] at he
        by_cases v2 : v = y
        · rw [if_pos v2] at he; omega
        · rw [if_neg v2] at he; exact absurd he.symm (key v hv v1 v2).2
    · rw [if_neg u1] at he
      by_cases u2 : u = y
      · rw [if_pos u2] at he
        by_cases v1 : v = x
        · rw [if_pos v1] at he; omega
        · rw [if_neg v1] at he
          by_cases v2 : v = y
          · rw [u2, v2]
          · rw [if_neg v2] at he; exact absurd he.symm (key v hv v1 v2).1
      · rw [if_neg u2] at he
        by_cases v1 : v = x
        · rw [if_pos v1] at he; exact absurd he (key u hu u1 u2).2
        · rw [if_neg v1] at he
          by_cases v2 : v = y
          · rw [if_pos v2] at he; exact absurd he (key u hu u1 u2).1
          · rw [if_neg v2] at he; exact hl.inj _ _ hu hv he
theorem Ord.nb (ho : Ord n lev ord) (hl : l + 1 < n) : Nb n lev (ord.getD l 0) (ord.getD (l + 1) 0) l :=
  ⟨(ho.at' l (by omega)).1, (ho.at' (l + 1) hl).1, (ho.at' l (by omega)).2, (ho.at' (l + 1) hl).2⟩
theorem swp_ord (ho : Ord n lev ord) (hl : l + 1 < n) : Ord n (swl lev (ord.getD l 0) (ord.getD (l + 1) 0) l) (swp ord l) := by
  have hb := ho.nb hl
  refine ⟨by rw [swp_len, ho.len], fun i hi => ?_⟩
  rw [swp_get (by rw [ho.len]; exact hl)]
  unfold swl
  by_cases e1 : i = l
  · subst e1; rw [if_pos rfl]; refine ⟨hb.yn, ?_⟩; rw [if_neg (Ne.symm hb.ne), if_pos rfl]
  · rw [if_neg e1]
    by_cases e2 : i = l + 1
    · subst e2; rw [if_pos rfl]; refine ⟨hb.xn, ?_⟩; rw [if_pos rfl]
    · rw [if_neg e2]
      obtain ⟨h1, h2⟩ := ho.at' i hi
      refine ⟨h1, ?_⟩
      rw [if_neg, if_neg]
      · exact h2
      · intro e; rw [e, hb.ly] at h2; omega
      · intro e; rw [e, hb.lx] at h2; omega
variable {F : Fn → Prop}
theorem fs_swp (hl : l + 1 < ord.length) (hne : ord.getD l 0 ≠ ord.getD (l + 1) 0) : ∀ m, m ≠ l + 1 → ∀ g, fs (swp ord l) F m g ↔ fs ord F m g
  | 0, _, g => Iff.rfl
  | m + 1, hm, g => by
    by_cases e : m = l + 1
    · subst e
      have g1 : (swp ord l).getD (l + 1) 0 = ord.getD l 0 := by rw [swp_get hl, if_neg (by omega), if_pos rfl]
      have g2 : (swp ord l).getD l 0 = ord.getD (l + 1) 0 := by rw [swp_get hl, if_pos rfl]
      have ih := fs_swp hl hne l (by omega)
      constructor
      · rintro ⟨f, ⟨f', h, b, rfl⟩, b', rfl⟩
        refine ⟨_, ⟨f', (ih f').1 h, b', rfl⟩, b, ?_⟩
        funext z
        rw [g1, g2]
        show f' _ = f' _
        rw [setb_comm hne]
      · rintro ⟨f, ⟨f', h, b, rfl⟩, b', rfl⟩
        refine ⟨_, ⟨f', (ih f').2 h, b', rfl⟩, b, ?_⟩
        funext z
        rw [g1, g2]
        show f' _ = f' _
        rw [setb_comm (Ne.symm hne)]
    · have ih := fs_swp hl hne m e
      have hg : (swp ord l).getD m 0 = ord.getD m 0 := by rw [swp_get hl, if_neg (by omega), if_neg e]
      constructor
      · rintro ⟨f, h, b, rfl⟩; exact ⟨f, (ih f).1 h, b, by rw [hg]⟩
      · rintro ⟨f, h, b, rfl⟩; exact ⟨f, (ih f).2 h, b, by rw [hg]⟩
theorem turn_cnt (h : Ok K S lev) (ho : Ord K.n lev ord) (hln : l + 1 < K.n) {all : List Cx} (hc : CxAll K.N (ord.getD l 0) (ord.getD (l + 1) 0) all) {made : List Nd} (hm : Made K (ord.getD l 0) all made) :
    Cnt (fun g => NodeSet K.n ord (K.held S) g ∨ NodeSet K.n (swp ord l) (K.held S) g) (K.used - 2 + made.length) := by
  have hb := ho.nb hln
  have hlen : l + 1 < ord.length := by rw [ho.len]; exact hln
  have hw := h.wf
  have hlv := h.lv
  have hi := h.mid.int
  have hR : ∀ r, K.hold r ≠ 0 → live K.N r := fun r hr => .inr (h.mid.held r hr)
  generalize hx : ord.getD l 0 = x at *
  generalize hy : ord.getD (l + 1) 0 = y at *
  have hlow : ∀ k ∈ made, k.v = x ∧ (live K.N k.lo ∧ l + 1 < dep K.n lev K.N k.lo) ∧ (live K.N k.hi ∧ l + 1 < dep K.n lev K.N k.hi) := fun k hk => by
    obtain ⟨⟨c, hcm, hkc⟩, _⟩ := (hm.mem k).1 hk
    obtain ⟨⟨hd, hdx, _⟩, e⟩ := (hc.mem c).1 hcm
    rw [e] at hkc
    exact keys_low hw hlv hi hb hd hdx hkc
  obtain ⟨dom, d1, d2, d3⟩ := h.dom
  have c1 := cnt_nodes hw hlv hi d1 d3
  rw [show dom.length = K.used - 2 by omega] at c1
  have c2 : Cnt (fun g => ∃ k ∈ made, g = ite S k) made.length := by
    refine ⟨made.map (ite S), ?_, by simp, fun g => ?_⟩
    · refine List.pairwise_map.2 (hm.nd.imp_of_mem fun {a b} ha hb' hne heq => hne ?_)
      obtain ⟨a1, a2, a3⟩ := hlow a ha
      obtain ⟨b1, b2, b3⟩ := hlow b hb'
      exact ite_inj hw hlv hi hb a1 b1 a2 a3 b2 b3 heq
    · rw [List.mem_map]
      constructor
      · rintro ⟨k, hk, rfl⟩; exact ⟨k, hk, rfl⟩
      · rintro ⟨k, hk, rfl⟩; exact ⟨k, hk, rfl⟩
  refine (c1.or c2 ?_).congr fun g => ?_
  · rintro g ⟨r, d, hd, rfl⟩ ⟨k, hk, he⟩
    obtain ⟨a1, a2, a3⟩ := hlow k hk
    obtain ⟨_, hT, hne⟩ := (hm.mem k).1 hk
    have := ite_node hw hlv hi hb a1 hne a2 a3 hd he.symm
    subst this
    rw [(h.mid.tab d r).2 ⟨hd, fun x => x⟩] at hT; cases hT
  · have hns := nodeSet_iff hw hlv ho hi hR h.reach
    have hfs := fun m (hmn : m ≤ K.n) g => fs_A hw hlv ho hi hR m hmn g
    have hne : ord.getD l 0 ≠ ord.getD (l + 1) 0 := by rw [hx, hy]; exact hb.ne
    have hsw := fs_swp (F := K.held S) hlen hne
    have gl : (swp ord l).getD l 0 = y := by rw [swp_get hlen, if_pos rfl, hy]
    have gl1 : (swp ord l).getD (l + 1) 0 = x := by rw [swp_get hlen, if_neg (by omega), if_pos rfl, hx]
    have go : ∀ m, m ≠ l → m ≠ l + 1 → (swp ord l).getD m 0 = ord.getD m 0 := fun m h1 h2 => by rw [swp_get hlen, if_neg h1, if_neg h2]
    constructor
    · rintro (⟨r, d, hd, rfl⟩ | ⟨k, hk, rfl⟩)
      · exact .inl ((hns _).2 ⟨r, d, hd, rfl⟩)
      · obtain ⟨a1, a2, a3⟩ := hlow k hk
        obtain ⟨⟨c, hcm, hkc⟩, hT, hkne⟩ := (hm.mem k).1 hk
        obtain ⟨⟨hd, hdx, _⟩, e⟩ := (hc.mem c).1 hcm
        refine .inr ⟨l + 1, hln, ?_, ?_⟩
        · have hA := A_all hw h.reach _ c.r c.d hd (Nat.le_refl _)
          rw [hdx, hb.lx] at hA
          refine ⟨S c.r, (hsw l (by omega) _).2 ((hfs l (by omega) _).2 ⟨c.r, hA, rfl⟩), ?_⟩
          have hcf := cross_fn hw hlv hi hb hd hdx
          rw [e] at hkc
          simp only [keys, cxOf, List.mem_cons, List.not_mem_nil, or_false] at hkc
          rw [gl]
          rcases hkc with rfl | rfl
          · refine ⟨false, ?_⟩
            funext z
            rw [hcf, testBit_setb, if_pos rfl, if_neg (by simp), ite_other hw hlv hi hb rfl a2 a3 hb.yn (by rw [hb.ly]; exact Nat.le_refl _) (Ne.symm hb.ne)]
          · refine ⟨true, ?_⟩
            funext z
            rw [hcf, testBit_setb, if_pos rfl, if_pos rfl, ite_other hw hlv hi hb rfl a2 a3 hb.yn (by rw [hb.ly]; exact Nat.le_refl _) (Ne.symm hb.ne)]
        · rw [gl1]
          refine Classical.byContradiction fun hno => hkne (hw.same hlv hi a2.1 a3.1 fun z => ?_)
          have c1 := ite_cof hw hlv hi hb a1 a2 a3 z false
          have c2 := ite_cof hw hlv hi hb a1 a2 a3 z true
          simp only [Bool.false_eq_true, if_false, if_true] at c1 c2
          rw [← c1, ← c2]
          exact Classical.byContradiction fun hne => hno ⟨z, hne⟩
    · rintro (hg | ⟨m, hmn, hf, hh⟩)
      · exact .inl ((hns g).1 hg)
      · by_cases e1 : m = l + 1
        · subst e1
          rw [gl1] at hh
          obtain ⟨f, hf, b, rfl⟩ := hf
          rw [gl] at hh ⊢
          obtain ⟨r, hA, rfl⟩ := (hfs l (by omega) f).1 ((hsw l (by omega) f).1 hf)
          obtain ⟨hlr, hle⟩ := A_live hw hR l r hA
          have hgt : dep K.n lev K.N r = l := by
            refine Nat.le_antisymm (Nat.le_of_not_lt fun hlt => ?_) hle
            obtain ⟨z, hz⟩ := hh
            refine hz ?_
            show S r (setb (setb z x false) y b) = S r (setb (setb z x true) y b)
            rw [setb_comm hb.ne, setb_comm hb.ne, hw.indep' hlv hi hlr hb.xn (by rw [hb.lx]; exact hlt), hw.indep' hlv hi hlr hb.xn (by rw [hb.lx]; exact hlt)]
          rcases hlr with hcst | ⟨d, hd⟩
          · rw [dep_none (hw.const hcst)] at hgt; omega
          · rw [dep_some hd] at hgt
            have hdx : d.v = x := hlv.inj _ _ (hw.var hd) hb.xn (by rw [hb.lx]; exact hgt)
            have hcf := cross_fn hw hlv hi hb hd hdx
            have hkk : ∃ k ∈ keys x (cxOf K.N y r d), (fun z => S r (setb z y b)) = ite S k := by
              cases b
              · refine ⟨_, List.mem_cons_self, ?_⟩
                obtain ⟨a1, a2, a3⟩ := keys_low hw hlv hi hb hd hdx (k := ⟨x, pl K.N y d.lo, pl K.N y d.hi⟩) List.mem_cons_self
                funext z
                rw [hcf, testBit_setb, if_pos rfl, if_neg (by simp), ite_other hw hlv hi hb rfl a2 a3 hb.yn (by rw [hb.ly]; exact Nat.le_refl _) (Ne.symm hb.ne)]; rfl
              · refine ⟨_, List.mem_cons_of_mem _ List.mem_cons_self, ?_⟩
                obtain ⟨a1, a2, a3⟩ := keys_low hw hlv hi hb hd hdx (k := ⟨x, ph K.N y d.lo, ph K.N y d.hi⟩) (List.mem_cons_of_mem _ List.mem_cons_self)
                funext z
                rw [hcf, testBit_setb, if_pos rfl, if_pos rfl, ite_other hw hlv hi hb rfl a2 a3 hb.yn (by rw [hb.ly]; exact Nat.le_refl _) (Ne.symm hb.ne)]; rfl
            obtain ⟨k, hkm, hke⟩ := hkk
            obtain ⟨a1, a2, a3⟩ := keys_low hw hlv hi hb hd hdx hkm
            rw [hke] at hh ⊢
            have hkne : k.lo ≠ k.hi := fun e => by
              obtain ⟨z, hz⟩ := hh
              have c1 := ite_cof hw hlv hi hb a1 a2 a3 z false
              have c2 := ite_cof hw hlv hi hb a1 a2 a3 z true
              simp only [Bool.false_eq_true, if_false, if_true] at c1 c2
              rw [c1, c2, e] at hz; exact hz rfl
            cases hT : K.T k with
            | some s =>
              have hs := ((h.mid.tab k s).1 hT).1
              refine .inl ⟨s, k, hs, ?_⟩
              funext z
              exact (hi.node hs z).symm
            | none =>
              by_cases hcr : crosses K.N x y r d
              · exact .inr ⟨k, (hm.mem k).2 ⟨⟨cxOf K.N y r d, (hc.mem _).2 ⟨hcr, rfl⟩, hkm⟩, hT, hkne⟩, rfl⟩
              · have hno : ∀ t, t = d.lo ∨ t = d.hi → pl K.N y t = t ∧ ph K.N y t = t := fun t ht => pl_o fun e he hv => hcr ⟨hd, hdx, by
                  rcases ht with rfl | rfl
                  · exact .inl ⟨e, he, hv⟩
                  · exact .inr ⟨e, he, hv⟩⟩
                have e1 := hno d.lo (.inl rfl)
                have e2 := hno d.hi (.inr rfl)
                have : k = d := by
                  simp only [keys, cxOf, e1.1, e1.2, e2.1, e2.2, List.mem_cons, List.not_mem_nil, or_false, or_self] at hkm
                  rw [hkm, ← hdx]
                rw [this, (h.mid.tab d r).2 ⟨hd, fun x => x⟩] at hT; cases hT
        · by_cases e2 : m = l
          · subst e2
            rw [gl] at hh
            obtain ⟨r, hA, rfl⟩ := (hfs m (by omega) g).1 ((hsw m e1 g).1 hf)
            obtain ⟨hlr, hle⟩ := A_live hw hR m r hA
            rcases hlr with hcst | ⟨d, hd⟩
            · obtain ⟨z, hz⟩ := hh
              have : ∀ z, S r z = S r 0 := fun z => by
                have : r = 0 ∨ r = 1 := by omega
                rcases this with rfl | rfl
                · rw [hi.zero, hi.zero]
                · rw [hi.one, hi.one]
              rw [this (setb z y false), this (setb z y true)] at hz
              exact absurd rfl hz
            · exact .inl ⟨r, d, hd, rfl⟩
          · refine .inl ((hns g).1 ⟨m, hmn, (hsw m e1 g).1 hf, ?_⟩)
            rw [go m e2 e1] at hh; exact hh
end Bdd
namespace Bdd
open Tab
def Low (K : Kd) (lev : Nat → Nat) (l t : Nat) : Prop := live K.N t ∧ l + 1 < dep K.n lev K.N t
def Kid (K0 K : Kd) (lev : Nat → Nat) (x l t : Nat) : Prop := Low K0 lev l t ∨ ∃ e, K.N t = some e ∧ e.v = x ∧ Low K0 lev l e.lo ∧ Low K0 lev l e.hi
structure TI (K0 : Kd) (S0 : Nat → Fn) (lev : Nat → Nat) (x y l : Nat) (made : List Nd) (K : Kd) (S : Nat → Fn) (done rest : List Cx) (P : Nat → Nat) : Prop where
  mid : Mid K S (fun s => ∃ c ∈ rest, s = c.r) P
  n : K.n = K0.n
  cap : K.cap = K0.cap
  hold : ∀ r, K.hold r = K0.hold r
  ext : ∀ r, live K0.N r → S r = S0 r
  old : ∀ {r d}, K0.N r = some d → r ∉ done.map Cx.r → K.N r = some d
  kept : ∀ {r d}, K0.N r = some d → ∃ d', K.N r = some d'
  new : ∀ {r d}, K.N r = some d → (K0.N r = some d ∧ r ∉ done.map Cx.r) ∨ (r ∈ done.map Cx.r ∧ d.v = y ∧ Kid K0 K lev x l d.lo ∧ Kid K0 K lev x l d.hi) ∨ (K0.N r = none ∧ d.v = x ∧ Low K0 lev l d.lo ∧ Low K0 lev l d.hi)
  used : K.used = K0.used + (made.filter fun k => (K.T k).isSome).length
structure TB (K0 : Kd) (S0 : Nat → Fn) (lev : Nat → Nat) (x y l : Nat) (all : List Cx) (made : List Nd) : Prop where
  ok : Ok K0 S0 lev
  nb : Nb K0.n lev x y l
  cx : CxAll K0.N x y all
  mad : Made K0 x all made
  room : K0.used + made.length ≤ K0.cap
section
variable {K0 K : Kd} {S0 S : Nat → Fn} {lev : Nat → Nat} {x y l : Nat} {made : List Nd} {done rest all : List Cx} {P : Nat → Nat}
theorem TB.cross (b : TB K0 S0 lev x y l all made) {c : Cx} (hc : c ∈ all) : K0.N c.r = some c.d ∧ c.d.v = x ∧ c = cxOf K0.N y c.r c.d := by
  obtain ⟨⟨h1, h2, _⟩, h3⟩ := (b.cx.mem c).1 hc
  exact ⟨h1, h2, h3⟩
theorem TB.lowa (b : TB K0 S0 lev x y l all made) {c : Cx} (hc : c ∈ all) : (Low K0 lev l c.a00 ∧ Low K0 lev l c.a10) ∧ (Low K0 lev l c.a01 ∧ Low K0 lev l c.a11) := by
  obtain ⟨h1, h2, h3⟩ := b.cross hc
  have k1 := keys_low b.ok.wf b.ok.lv b.ok.mid.int b.nb h1 h2 (k := ⟨x, pl K0.N y c.d.lo, pl K0.N y c.d.hi⟩) List.mem_cons_self
  have k2 := keys_low b.ok.wf b.ok.lv b.ok.mid.int b.nb h1 h2 (k := ⟨x, ph K0.N y c.d.lo, ph K0.N y c.d.hi⟩) (List.mem_cons_of_mem _ List.mem_cons_self)
  rw [h3]
  exact ⟨⟨k1.2.1, k1.2.2⟩, ⟨k2.2.1, k2.2.2⟩⟩
theorem TB.level (b : TB K0 S0 lev x y l all made) {c : Cx} (hc : c ∈ all) : dep K0.n lev K0.N c.r = l := by
  obtain ⟨h1, h2, _⟩ := b.cross hc
  rw [dep_some h1, h2, b.nb.lx]
theorem TB.start (b : TB K0 S0 lev x y l all made) {T : Nd → Option Nat} (hm : Mid { K0 with T := T } S0 (fun s => ∃ c ∈ all, s = c.r) zero') (hT : ∀ d, T d = none ∨ T d = K0.T d) :
    TI K0 S0 lev x y l made { K0 with T := T } S0 [] all zero' where
  mid := hm
  n := rfl
  cap := rfl
  hold := fun _ => rfl
  ext := fun _ _ => rfl
  old := fun h _ => h
  kept := fun h => ⟨_, h⟩
  new := fun h => .inl ⟨h, by simp⟩
  used := by
    have : made.filter (fun k => (T k).isSome) = [] := by
      rw [List.filter_eq_nil_iff]
      intro k hk
      have h1 := ((b.mad.mem k).1 hk).2.1
      rcases hT k with h2 | h2
      · rw [h2]; simp
      · rw [h2, h1]; simp
    show K0.used = K0.used + (made.filter (fun k => (T k).isSome)).length
    rw [this]; simp
theorem TI.lowN (b : TB K0 S0 lev x y l all made) (h : TI K0 S0 lev x y l made K S done rest P) (hd : ∀ c ∈ done, c ∈ all) {t : Nat} (ht : Low K0 lev l t) : K.N t = K0.N t := by
  rcases ht with ⟨ht | ⟨d, hd'⟩, hlt⟩
  · cases e : K.N t with
    | none => rw [b.ok.wf.const ht]
    | some d => have := (h.mid.two e).1; omega
  · rw [hd']
    refine h.old hd' fun hm => ?_
    obtain ⟨c, hc, e⟩ := List.mem_map.1 hm
    have := b.level (hd c hc)
    rw [e] at this; omega
theorem TI.lowLive (b : TB K0 S0 lev x y l all made) (h : TI K0 S0 lev x y l made K S done rest P) (hd : ∀ c ∈ done, c ∈ all) {t : Nat} (ht : Low K0 lev l t) : live K.N t := by
  have e := h.lowN b hd ht
  rcases ht.1 with ht | ⟨d, hd'⟩
  · exact .inl ht
  · exact .inr ⟨d, by rw [e]; exact hd'⟩
theorem TI.kidLive (b : TB K0 S0 lev x y l all made) (h : TI K0 S0 lev x y l made K S done rest P) (hd : ∀ c ∈ done, c ∈ all) {t : Nat} (ht : Kid K0 K lev x l t) : live K.N t := by
  rcases ht with ht | ⟨e, he, _⟩
  · exact h.lowLive b hd ht
  · exact .inr ⟨e, he⟩
theorem TI.use (h : TI K0 S0 lev x y l made K S done rest P) {r : Nat} {us' : List Nat} (hl : us'.length = K.us.length) (h1 : us'.getD r 0 = K.use r + 1) (h2 : ∀ s, s ≠ r → us'.getD s 0 = K.use s) :
    TI K0 S0 lev x y l made { K with us := us' } S done rest (up P r (P r + 1)) where
  mid := h.mid.more hl h1 h2
  n := h.n
  cap := h.cap
  hold := h.hold
  ext := h.ext
  old := h.old
  kept := h.kept
  new := h.new
  used := h.used
theorem TI.congr (h : TI K0 S0 lev x y l made K S done rest P) {P' : Nat → Nat} (hP : ∀ s, 2 ≤ s → P s = P' s) : TI K0 S0 lev x y l made K S done rest P' where
  mid := h.mid.congr (fun _ => Iff.rfl) hP
  n := h.n
  cap := h.cap
  hold := h.hold
  ext := h.ext
  old := h.old
  kept := h.kept
  new := h.new
  used := h.used
theorem filter_lt {α : Type} {p : α → Bool} {k : α} : ∀ {m : List α}, k ∈ m → p k = false → (m.filter p).length < m.length
  | [], h, _ => by simp at h
  | z :: m, h, hp => by
    rcases List.mem_cons.1 h with rfl | h
    · rw [List.filter_cons, if_neg (by simp [hp])]
      have := List.length_filter_le p m
      simp; omega
    · have := filter_lt h hp
      rw [List.filter_cons]
      split
      · rw [List.length_cons, List.length_cons]; omega
      · rw [List.length_cons]; omega
theorem TI.fits (b : TB K0 S0 lev x y l all made) (h : TI K0 S0 lev x y l made K S done rest P) {k : Nd} (hk : k ∈ made) (hT : K.T k = none) : K.used < K.cap := by
  have h1 := filter_lt (p := fun k => (K.T k).isSome) hk (by rw [hT]; rfl)
  have h2 := h.used
  have h3 := b.room
  have h4 := h.cap
  omega
theorem filter_more {T : Nd → Option Nat} {k : Nd} {r : Nat} : ∀ {m : List Nd}, m.Nodup → T k = none → (m.filter fun d => (upT T k (some r) d).isSome).length = (m.filter fun d => (T d).isSome).length + (if k ∈ m then 1 else 0)
  | [], _, _ => rfl
  | z :: m, hn, hT => by
    obtain ⟨h1, h2⟩ := List.nodup_cons.1 hn
    have ih := filter_more (r := r) h2 hT
    rw [List.filter_cons, List.filter_cons]
    by_cases e : z = k
    · subst e
      rw [upT_same, hT]
      simp only [Option.isSome_some, if_true, Option.isSome_none, Bool.false_eq_true, if_false, List.length_cons, ih, if_neg h1, List.mem_cons, true_or]
    · rw [upT_ne e]
      have e2 : (k ∈ z :: m) ↔ k ∈ m := by rw [List.mem_cons]; exact ⟨fun h => h.resolve_left (fun h => e h.symm), .inr⟩
      simp only [e2]
      split
      · simp only [List.length_cons, ih]; omega
      · exact ih
theorem TB.lowVar (b : TB K0 S0 lev x y l all made) {t : Nat} (ht : Low K0 lev l t) {e : Nd} (he : K0.N t = some e) : l + 1 < lev e.v := by
  have := ht.2
  rwa [dep_some he] at this
theorem TB.notCross (b : TB K0 S0 lev x y l all made) {c : Cx} (hc : c ∈ all) (h1 : Low K0 lev l c.d.lo) (h2 : Low K0 lev l c.d.hi) : False := by
  obtain ⟨⟨_, _, h3⟩, _⟩ := (b.cx.mem c).1 hc
  have hy := b.nb.ly
  rcases h3 with ⟨e, he, hv⟩ | ⟨e, he, hv⟩
  · have := b.lowVar h1 he; rw [hv] at this; omega
  · have := b.lowVar h2 he; rw [hv] at this; omega
theorem TI.inMade (b : TB K0 S0 lev x y l all made) (h : TI K0 S0 lev x y l made K S done rest P) (hd : ∀ c ∈ done, c ∈ all) (hr : ∀ c ∈ rest, c ∈ all) {c : Cx} (hc : c ∈ all) {k : Nd} (hk : k ∈ keys x c) (hne : k.lo ≠ k.hi) (h1 : Low K0 lev l k.lo) (h2 : Low K0 lev l k.hi) (hT : K.T k = none) : k ∈ made := by
  refine (b.mad.mem k).2 ⟨⟨c, hc, hk⟩, ?_, hne⟩
  cases e : K0.T k with
  | none => rfl
  | some s =>
    have hs := ((b.ok.mid.tab k s).1 e).1
    have hno : ∀ c' ∈ all, s ≠ c'.r := fun c' hc' e' => by
      have h3 := (b.cross hc').1
      rw [← e', hs] at h3
      cases h3
      exact b.notCross hc' h1 h2
    have hs1 : K.N s = some k := by
      refine h.old hs fun hm => ?_
      obtain ⟨c', hc', e'⟩ := List.mem_map.1 hm
      exact hno c' (hd c' hc') e'.symm
    have := (h.mid.tab k s).2 ⟨hs1, by rintro ⟨c', hc', e'⟩; exact hno c' (hr c' hc') e'⟩
    rw [hT] at this; cases this
theorem TI.lay (b : TB K0 S0 lev x y l all made) (h : TI K0 S0 lev x y l made K S done rest P) (hd : ∀ c ∈ done, c ∈ all) (hr : ∀ c ∈ rest, c ∈ all) {c : Cx} (hc : c ∈ all) {k : Nd} (hk : k ∈ keys x c) (hne : k.lo ≠ k.hi) (hT : K.T k = none)
    {r : Nat} {us' ho' : List Nat} (hN : K.N r = none) (h2 : 2 ≤ r ∧ r < K.cap) (hl : us'.length = ho'.length) (hf : r < us'.length ∧ K.us.length ≤ us'.length) (u0 : us'.getD r 0 = 0) (u1 : ∀ s, 2 ≤ s → s ≠ r → us'.getD s 0 = K.use s + e1 (some k) s) (o0 : ho'.getD r 0 = 0) (o1 : ∀ s, s ≠ r → ho'.getD s 0 = K.hold s) (hP : P r = 0) :
    TI K0 S0 lev x y l made { K with N := up K.N r (some k), T := upT K.T k (some r), used := K.used + 1, us := us', ho := ho' } (up S r (ite S k)) done rest P ∧ Kid K0 { K with N := up K.N r (some k), T := upT K.T k (some r), used := K.used + 1, us := us', ho := ho' } lev x l r := by
  have hlow := b.lowa hc
  have hkv : k.v = x ∧ Low K0 lev l k.lo ∧ Low K0 lev l k.hi := by
    simp only [keys, List.mem_cons, List.not_mem_nil, or_false] at hk
    rcases hk with rfl | rfl
    · exact ⟨rfl, hlow.1.1, hlow.1.2⟩
    · exact ⟨rfl, hlow.2.1, hlow.2.2⟩
  have hkN : K0.N r = none := by
    cases e : K0.N r with
    | none => rfl
    | some d => obtain ⟨d', hd'⟩ := h.kept e; rw [hN] at hd'; cases hd'
  have hkm := h.inMade b hd hr hc hk hne hkv.2.1 hkv.2.2 hT
  have hE : ¬ ∃ c ∈ rest, r = c.r := by
    rintro ⟨c', hc', rfl⟩
    have := (b.cross (hr c' hc')).1
    rw [hkN] at this; cases this
  have hkid : ∀ {t}, Kid K0 K lev x l t → Kid K0 { K with N := up K.N r (some k), T := upT K.T k (some r), used := K.used + 1, us := us', ho := ho' } lev x l t := fun ht => by
    rcases ht with ht | ⟨e, he, h3⟩
    · exact .inl ht
    · refine .inr ⟨e, ?_, h3⟩
      show up K.N r (some k) _ = _
      rw [up_ne (fun e2 => by rw [e2, hN] at he; cases he)]; exact he
  refine ⟨⟨h.mid.lay hN h2 (by rw [hkv.1, h.n]; exact b.nb.xn) hne (h.lowLive b hd hkv.2.1) (h.lowLive b hd hkv.2.2) hT hE hP (h.fits b hkm hT) hl hf u0 u1 o0 o1, h.n, h.cap, fun s => ?_, fun s hs => ?_, fun {s d} hs hm => ?_, fun {s d} hs => ?_, fun {s d} hs => ?_, ?_⟩, ?_⟩
  · show ho'.getD s 0 = _
    rw [← h.hold]
    by_cases e : s = r
    · subst e
      rw [o0]
      refine (Classical.byContradiction fun hno => ?_)
      obtain ⟨d, hd'⟩ := h.mid.held s (fun e => hno e.symm)
      rw [hN] at hd'; cases hd'
    · exact o1 s e
  · rw [up_ne (live_ne hs h2.1 hkN)]; exact h.ext s hs
  · show up K.N r (some k) s = _
    rw [up_ne (fun e => by rw [e, hkN] at hs; cases hs)]; exact h.old hs hm
  · obtain ⟨d', hd'⟩ := h.kept hs
    exact ⟨d', by show up K.N r (some k) s = _; rw [up_ne (fun e => by rw [e, hkN] at hs; cases hs)]; exact hd'⟩
  · have hs' : up K.N r (some k) s = some d := hs
    by_cases e : s = r
    · subst e
      rw [up_same] at hs'; cases hs'
      exact .inr (.inr ⟨hkN, hkv⟩)
    · rw [up_ne e] at hs'
      rcases h.new hs' with h1 | ⟨h1, h2', h3, h4⟩ | h1
      · exact .inl h1
      · exact .inr (.inl ⟨h1, h2', hkid h3, hkid h4⟩)
      · exact .inr (.inr h1)
  · show K.used + 1 = K0.used + (made.filter fun d => (upT K.T k (some r) d).isSome).length
    rw [filter_more b.mad.nd hT, if_pos hkm, h.used]; omega
  · exact .inr ⟨k, up_same, hkv⟩
theorem TI.found (b : TB K0 S0 lev x y l all made) (h : TI K0 S0 lev x y l made K S done rest P) {c : Cx} (hc : c ∈ all) {k : Nd} (hk : k ∈ keys x c) {r : Nat} (hT : K.T k = some r) : K.N r = some k ∧ Kid K0 K lev x l r := by
  have hlow := b.lowa hc
  have hN := ((h.mid.tab k r).1 hT).1
  simp only [keys, List.mem_cons, List.not_mem_nil, or_false] at hk
  rcases hk with rfl | rfl
  · exact ⟨hN, .inr ⟨_, hN, rfl, hlow.1.1, hlow.1.2⟩⟩
  · exact ⟨hN, .inr ⟨_, hN, rfl, hlow.2.1, hlow.2.2⟩⟩
theorem TI.kidFn (b : TB K0 S0 lev x y l all made) (h : TI K0 S0 lev x y l made K S done rest P) {a a' t : Nat} (la : Low K0 lev l a) (la' : Low K0 lev l a') (g : (a = a' ∧ t = a) ∨ K.N t = some ⟨x, a, a'⟩) (z : Nat) : S t z = ite S0 ⟨x, a, a'⟩ z := by
  rcases g with ⟨rfl, rfl⟩ | g
  · rw [h.ext t la.1]; unfold ite; simp
  · rw [h.mid.int.node g]
    unfold ite
    simp only
    rw [h.ext a la.1, h.ext a' la'.1]
theorem TI.lowX (b : TB K0 S0 lev x y l all made) (h : TI K0 S0 lev x y l made K S done rest P) (hd : ∀ c ∈ done, c ∈ all) {a a' t : Nat} (ht : Low K0 lev l t) (g : K.N t = some ⟨x, a, a'⟩) : False := by
  rw [h.lowN b hd ht] at g
  have := b.lowVar ht g
  have hx := b.nb.lx
  simp only at this; omega
theorem TI.turn (b : TB K0 S0 lev x y l all made) {c : Cx} (h : TI K0 S0 lev x y l made K S done (c :: rest) P) (hd : ∀ c ∈ done, c ∈ all) (hr : ∀ c' ∈ c :: rest, c' ∈ all) (hn : ((done ++ c :: rest).map Cx.r).Nodup) {t0 t1 : Nat}
    (k0 : Kid K0 K lev x l t0) (k1 : Kid K0 K lev x l t1) (g0 : (c.a00 = c.a10 ∧ t0 = c.a00) ∨ K.N t0 = some ⟨x, c.a00, c.a10⟩) (g1 : (c.a01 = c.a11 ∧ t1 = c.a01) ∨ K.N t1 = some ⟨x, c.a01, c.a11⟩) {P' : Nat → Nat} (hP : ∀ s, 2 ≤ s → P' s + e1 (some ⟨y, t0, t1⟩) s = P s + e1 (some c.d) s) :
    K.T ⟨y, t0, t1⟩ = none ∧ TI K0 S0 lev x y l made { K with N := up K.N c.r (some ⟨y, t0, t1⟩), T := upT K.T ⟨y, t0, t1⟩ (some c.r) } S (done ++ [c]) rest P' := by
  have hc := hr c (by simp)
  obtain ⟨hcN, hcx, hce⟩ := b.cross hc
  obtain ⟨⟨l00, l10⟩, ⟨l01, l11⟩⟩ := b.lowa hc
  have w := b.ok.wf
  have hi := b.ok.mid.int
  have hlo := w.lo hcN
  have hhi := w.hi hcN
  rw [hcx, b.nb.lx] at hlo hhi
  have ep : c.a00 = pl K0.N y c.d.lo ∧ c.a01 = ph K0.N y c.d.lo ∧ c.a10 = pl K0.N y c.d.hi ∧ c.a11 = ph K0.N y c.d.hi := by rw [hce]; exact ⟨rfl, rfl, rfl, rfl⟩
  have both : c.a00 = c.a10 → c.a01 = c.a11 → False := fun e1 e2 => by
    rw [ep.1, ep.2.2.1] at e1
    rw [ep.2.1, ep.2.2.2] at e2
    exact w.ne hcN (w.half_eq b.ok.lv hi b.nb.yy hlo.1 hhi.1 hlo.2 hhi.2 e1 e2)
  have hrn : c.r ∉ done.map Cx.r := by
    rw [List.map_append, List.nodup_append] at hn
    intro hm
    exact hn.2.2 _ hm _ (by simp) rfl
  have hcK := h.old hcN hrn
  have fn0 := fun z => h.kidFn b l00 l10 g0 z
  have fn1 := fun z => h.kidFn b l01 l11 g1 z
  have hS : ∀ z, S c.r z = ite S ⟨y, t0, t1⟩ z := fun z => by
    rw [h.ext c.r (.inr ⟨_, hcN⟩), cross_fn w b.ok.lv hi b.nb hcN hcx z]
    unfold ite
    simp only
    have a0 := fn0 z
    have a1 := fn1 z
    unfold ite at a0 a1
    simp only at a0 a1
    rw [a0, a1, ep.1, ep.2.1, ep.2.2.1, ep.2.2.2]
  have hne : t0 ≠ t1 := fun e => by
    subst e
    rcases g0 with ⟨e1, e2⟩ | g0
    · rcases g1 with ⟨e3, e4⟩ | g1
      · exact both e1 e3
      · rw [e2] at g1; exact h.lowX b hd l00 g1
    · rcases g1 with ⟨e3, e4⟩ | g1
      · rw [e4] at g0; exact h.lowX b hd l01 g0
      · rw [g0] at g1
        simp only [Option.some.injEq, Nd.mk.injEq, true_and] at g1
        obtain ⟨q1, q2⟩ := g1
        obtain ⟨⟨_, _, hcr⟩, _⟩ := (b.cx.mem c).1 hc
        rw [ep.1, ep.2.1] at q1
        rw [ep.2.2.1, ep.2.2.2] at q2
        rcases hcr with ⟨e, he, hv⟩ | ⟨e, he, hv⟩
        · have := pl_y he hv
          rw [this.1, this.2] at q1
          exact w.ne he q1
        · have := pl_y he hv
          rw [this.1, this.2] at q2
          exact w.ne he q2
  have hT : K.T ⟨y, t0, t1⟩ = none := by
    cases e : K.T ⟨y, t0, t1⟩ with
    | none => rfl
    | some s =>
      obtain ⟨hs, hsr⟩ := (h.mid.tab _ s).1 e
      rcases h.new hs with ⟨h1, _⟩ | ⟨h1, _⟩ | ⟨_, h1, _⟩
      · have q1 := w.lo h1
        have q2 := w.hi h1
        simp only at q1 q2
        rw [b.nb.ly] at q1 q2
        have p1 : c.a00 = c.a10 := by
          rcases g0 with ⟨e1, _⟩ | g0
          · exact e1
          · exact (h.lowX b hd q1 g0).elim
        have p2 : c.a01 = c.a11 := by
          rcases g1 with ⟨e1, _⟩ | g1
          · exact e1
          · exact (h.lowX b hd q2 g1).elim
        exact (both p1 p2).elim
      · obtain ⟨c', hc', e'⟩ := List.mem_map.1 h1
        have hc'N := (b.cross (hd c' hc')).1
        have : c'.r = c.r := w.same b.ok.lv hi (.inr ⟨_, hc'N⟩) (.inr ⟨_, hcN⟩) fun z => by
          rw [← h.ext c'.r (.inr ⟨_, hc'N⟩), ← h.ext c.r (.inr ⟨_, hcN⟩), hS z, e', h.mid.int.node hs z]; rfl
        exact absurd (List.mem_map.2 ⟨c', hc', this⟩) hrn
      · exact absurd h1 (Ne.symm b.nb.ne)
  have hkid : ∀ {t}, Kid K0 K lev x l t → Kid K0 { K with N := up K.N c.r (some ⟨y, t0, t1⟩), T := upT K.T ⟨y, t0, t1⟩ (some c.r) } lev x l t := fun ht => by
    rcases ht with ht | ⟨e, he, h3⟩
    · exact .inl ht
    · refine .inr ⟨e, ?_, h3⟩
      show up K.N c.r (some ⟨y, t0, t1⟩) _ = _
      refine (up_ne fun e2 => ?_).trans he
      rw [e2, hcK] at he
      cases he
      exact b.notCross hc h3.2.1 h3.2.2
  have hml : ∀ s, s ∈ (done ++ [c]).map Cx.r ↔ s ∈ done.map Cx.r ∨ s = c.r := fun s => by simp [List.mem_append]
  refine ⟨hT, ⟨(h.mid.turn hcK ⟨c, by simp, rfl⟩ (by rw [h.n]; exact b.nb.yn) hne (h.kidLive b hd k0) (h.kidLive b hd k1) hT hS hP).congr (fun s => ?_) (fun _ _ => rfl), h.n, h.cap, h.hold, h.ext, fun {s d} hs hm => ?_, fun {s d} hs => ?_, fun {s d} hs => ?_, ?_⟩⟩
  · constructor
    · rintro ⟨⟨c', hc', rfl⟩, h2⟩
      rcases List.mem_cons.1 hc' with rfl | hc'
      · exact absurd rfl h2
      · exact ⟨c', hc', rfl⟩
    · rintro ⟨c', hc', rfl⟩
      refine ⟨⟨c', List.mem_cons_of_mem _ hc', rfl⟩, fun e => ?_⟩
      rw [List.map_append, List.nodup_append] at hn
      have := hn.2.1
      rw [List.map_cons, List.nodup_cons] at this
      exact this.1 (List.mem_map.2 ⟨c', hc', e⟩)
  · have hm' := fun x => hm ((hml s).2 x)
    show up K.N c.r _ s = _
    rw [up_ne (fun e => hm' (.inr e))]; exact h.old hs (fun x => hm' (.inl x))
  · by_cases e : s = c.r
    · exact ⟨⟨y, t0, t1⟩, by show up K.N c.r (some _) s = _; rw [e, up_same]⟩
    · obtain ⟨d', hd'⟩ := h.kept hs
      exact ⟨d', by show up K.N c.r (some _) s = _; rw [up_ne e]; exact hd'⟩
  · have hs' : up K.N c.r (some ⟨y, t0, t1⟩) s = some d := hs
    by_cases e : s = c.r
    · rw [e, up_same] at hs'; cases hs'
      exact .inr (.inl ⟨(hml s).2 (.inr e), rfl, hkid k0, hkid k1⟩)
    · rw [up_ne e] at hs'
      rcases h.new hs' with ⟨h1, h2⟩ | ⟨h1, h2, h3, h4⟩ | h1
      · exact .inl ⟨h1, fun hm => ((hml s).1 hm).elim h2 e⟩
      · exact .inr (.inl ⟨(hml s).2 (.inl h1), h2, hkid h3, hkid h4⟩)
      · exact .inr (.inr h1)
  · show K.used = K0.used + (made.filter fun d => (upT K.T ⟨y, t0, t1⟩ (some c.r) d).isSome).length
    have hnm : (⟨y, t0, t1⟩ : Nd) ∉ made := fun hm => by
      obtain ⟨⟨c', hc', hk⟩, _⟩ := (b.mad.mem _).1 hm
      simp only [keys, List.mem_cons, List.not_mem_nil, or_false, Nd.mk.injEq] at hk
      rcases hk with ⟨e, _⟩ | ⟨e, _⟩
      · exact b.nb.ne e.symm
      · exact b.nb.ne e.symm
    rw [filter_more b.mad.nd hT, if_neg hnm, h.used]; rfl
theorem TI.levels (b : TB K0 S0 lev x y l all made) (h : TI K0 S0 lev x y l made K S all [] P) {s : Nat} {d : Nd} (hs : K.N s = some d) :
    swl lev x y l d.v < dep K0.n (swl lev x y l) K.N d.lo ∧ swl lev x y l d.v < dep K0.n (swl lev x y l) K.N d.hi := by
  have w := b.ok.wf
  have hd : ∀ c ∈ all, c ∈ all := fun _ h => h
  have hyn : l + 1 < K0.n := by have := b.ok.lv.lt y b.nb.yn; rw [b.nb.ly] at this; exact this
  have sx : swl lev x y l x = l + 1 := by simp [swl]
  have sy : swl lev x y l y = l := by unfold swl; rw [if_neg (Ne.symm b.nb.ne), if_pos rfl]
  have so : ∀ v, v < K0.n → lev v ≠ l → lev v ≠ l + 1 → swl lev x y l v = lev v := fun v hv h1 h2 => by
    unfold swl
    rw [if_neg (fun e => h1 (by rw [e]; exact b.nb.lx)), if_neg (fun e => h2 (by rw [e]; exact b.nb.ly))]
  have low : ∀ {t}, Low K0 lev l t → l + 1 < dep K0.n (swl lev x y l) K.N t := fun {t} ht => by
    have e := h.lowN b hd ht
    cases e2 : K0.N t with
    | none => rw [dep_none (by rw [e, e2])]; exact hyn
    | some e' =>
      have := b.lowVar ht e2
      rw [dep_some (by rw [e, e2]), so _ (w.var e2) (by omega) (by omega)]; exact this
  have kid : ∀ {t}, Kid K0 K lev x l t → l < dep K0.n (swl lev x y l) K.N t := fun {t} ht => by
    rcases ht with ht | ⟨e, he, hx, _⟩
    · have := low ht; omega
    · rw [dep_some he, hx, sx]; omega
  rcases h.new hs with ⟨h1, h2⟩ | ⟨_, h2, h3, h4⟩ | ⟨_, h2, h3, h4⟩
  · have hv := w.var h1
    have q1 := w.lo h1
    have q2 := w.hi h1
    rcases Nat.lt_trichotomy (lev d.v) l with hlt | heq | hgt
    · rw [so _ hv (by omega) (by omega)]
      have up' : ∀ {t}, live K0.N t → lev d.v < dep K0.n lev K0.N t → lev d.v < dep K0.n (swl lev x y l) K.N t := fun {t} ht hlt' => by
        cases e : K.N t with
        | none => rw [dep_none e]; exact Nat.lt_of_lt_of_le hlt' (w.dep_le b.ok.lv t)
        | some e' =>
          rw [dep_some e]
          rcases h.new e with ⟨g1, _⟩ | ⟨_, g2, _⟩ | ⟨g1, _⟩
          · rw [dep_some g1] at hlt'
            have hve := w.var g1
            by_cases e1 : lev e'.v = l
            · have : e'.v = x := b.ok.lv.inj _ _ hve b.nb.xn (by rw [b.nb.lx]; exact e1)
              rw [this, sx]; omega
            · by_cases e2 : lev e'.v = l + 1
              · have : e'.v = y := b.ok.lv.inj _ _ hve b.nb.yn (by rw [b.nb.ly]; exact e2)
                rw [this, sy]; exact hlt
              · rw [so _ hve e1 e2]; exact hlt'
          · rw [g2, sy]; exact hlt
          · rcases ht with ht | ⟨f, hf⟩
            · have := (h.mid.two e).1; omega
            · rw [g1] at hf; cases hf
      exact ⟨up' q1.1 q1.2, up' q2.1 q2.2⟩
    · have hx : d.v = x := b.ok.lv.inj _ _ hv b.nb.xn (by rw [b.nb.lx]; exact heq)
      rw [hx, sx]
      have nc : ∀ t, t = d.lo ∨ t = d.hi → ∀ e, K0.N t = some e → e.v ≠ y := fun t ht e he hv => h2 (List.mem_map.2 ⟨cxOf K0.N y s d, (b.cx.mem _).2 ⟨⟨h1, hx, by
        rcases ht with rfl | rfl
        · exact .inl ⟨e, he, hv⟩
        · exact .inr ⟨e, he, hv⟩⟩, rfl⟩, rfl⟩)
      have lw : ∀ t, t = d.lo ∨ t = d.hi → live K0.N t → lev d.v < dep K0.n lev K0.N t → Low K0 lev l t := fun t ht hlv hlt => by
        refine ⟨hlv, ?_⟩
        have := (w.half b.ok.lv b.ok.mid.int b.nb.yy hlv (by omega : l < dep K0.n lev K0.N t)).1.2
        rwa [(pl_o (nc t ht)).1] at this
      exact ⟨low (lw _ (.inl rfl) q1.1 q1.2), low (lw _ (.inr rfl) q2.1 q2.2)⟩
    · by_cases e : lev d.v = l + 1
      · have hy : d.v = y := b.ok.lv.inj _ _ hv b.nb.yn (by rw [b.nb.ly]; exact e)
        rw [hy, sy]
        have a1 := low ⟨q1.1, by omega⟩
        have a2 := low ⟨q2.1, by omega⟩
        exact ⟨by omega, by omega⟩
      · rw [so _ hv (by omega) e]
        have deep : ∀ {t}, live K0.N t → lev d.v < dep K0.n lev K0.N t → lev d.v < dep K0.n (swl lev x y l) K.N t := fun {t} ht hlt' => by
          have hl : Low K0 lev l t := ⟨ht, by omega⟩
          have e' := h.lowN b hd hl
          cases e2 : K0.N t with
          | none => rw [dep_none (by rw [e', e2])]; exact b.ok.lv.lt _ hv
          | some f =>
            rw [dep_some e2] at hlt'
            rw [dep_some (by rw [e', e2]), so _ (w.var e2) (by omega) (by omega)]; exact hlt'
        exact ⟨deep q1.1 q1.2, deep q2.1 q2.2⟩
  · rw [h2, sy]; exact ⟨kid h3, kid h4⟩
  · rw [h2, sx]; exact ⟨low h3, low h4⟩
theorem TI.fin (b : TB K0 S0 lev x y l all made) (h : TI K0 S0 lev x y l made K S all [] P) {K' : Kd} (hm : Mid K' S none' zero') (hp : Pos K') (hN : ∀ {s d}, K'.N s = some d → K.N s = some d) (hn : K'.n = K.n) (hh : ∀ r, K'.hold r = K.hold r) :
    Ok K' S (swl lev x y l) ∧ (∀ g, K'.held S g ↔ K0.held S0 g) ∧ ∀ r, K0.hold r ≠ 0 → S r = S0 r := by
  have hSr : ∀ r, K0.hold r ≠ 0 → S r = S0 r := fun r hr => h.ext r (.inr (b.ok.mid.held r hr))
  refine ⟨⟨hm, hp, by rw [hn, h.n]; exact swl_lev b.ok.lv b.nb, hm.wf fun {s d} hs => ?_⟩, fun g => ?_, hSr⟩
  · have hl := h.levels b (hN hs)
    have same : ∀ {t}, live K'.N t → dep K'.n (swl lev x y l) K'.N t = dep K0.n (swl lev x y l) K.N t := fun {t} ht => by
      cases e : K'.N t with
      | some f => rw [dep_some e, dep_some (hN e)]
      | none =>
        have ht2 : t < 2 := by
          rcases ht with ht | ⟨f, hf⟩
          · exact ht
          · rw [e] at hf; cases hf
        have : K.N t = none := by
          cases e2 : K.N t with
          | none => rfl
          | some f => have := (h.mid.two e2).1; omega
        rw [dep_none e, dep_none this, hn, h.n]
    rw [same (hm.lo hs), same (hm.hi hs)]; exact hl
  · constructor
    · rintro ⟨r, hr, rfl⟩
      have hr' : K0.hold r ≠ 0 := by rw [← h.hold, ← hh]; exact hr
      exact ⟨r, hr', hSr r hr'⟩
    · rintro ⟨r, hr, rfl⟩
      exact ⟨r, by show K'.hold r ≠ 0; rw [hh, h.hold]; exact hr, (hSr r hr).symm⟩
end
end Bdd
namespace Bdd
open Tab
variable {n cap l : Nat} {ord : List Nat} {F G : Fn → Prop}
open Classical in
noncomputable def sz (n : Nat) (ord : List Nat) (F : Fn → Prop) : Nat := if h : ∃ k, Cnt (NodeSet n ord F) k then Classical.choose h else 0
theorem sz_eq {k : Nat} (h : Cnt (NodeSet n ord F) k) : sz n ord F = k := by
  unfold sz
  rw [dif_pos ⟨k, h⟩]
  exact (Classical.choose_spec (⟨k, h⟩ : ∃ k, Cnt (NodeSet n ord F) k)).uniq h
def Both (n : Nat) (ord : List Nat) (l : Nat) (F : Fn → Prop) : Fn → Prop := fun g => NodeSet n ord F g ∨ NodeSet n (swp ord l) F g
open Classical in
noncomputable def usz (n : Nat) (ord : List Nat) (l : Nat) (F : Fn → Prop) : Nat := if h : ∃ k, Cnt (Both n ord l F) k then Classical.choose h else 0
theorem usz_eq {k : Nat} (h : Cnt (Both n ord l F) k) : usz n ord l F = k := by
  unfold usz
  rw [dif_pos ⟨k, h⟩]
  exact (Classical.choose_spec (⟨k, h⟩ : ∃ k, Cnt (Both n ord l F) k)).uniq h
theorem sz_congr (e : ∀ g, F g ↔ G g) : sz n ord F = sz n ord G := by
  have : F = G := funext fun g => propext (e g)
  rw [this]
theorem usz_congr (e : ∀ g, F g ↔ G g) : usz n ord l F = usz n ord l G := by
  have : F = G := funext fun g => propext (e g)
  rw [this]
theorem ext_getD {a b : List Nat} (hl : a.length = b.length) (h : ∀ i, i < a.length → a.getD i 0 = b.getD i 0) : a = b := by
  refine List.ext_getElem hl fun i h1 h2 => ?_
  have := h i h1
  simpa [List.getD, List.getElem?_eq_getElem h1, List.getElem?_eq_getElem h2] using this
theorem swp_swp (hl : l + 1 < ord.length) : swp (swp ord l) l = ord := by
  refine ext_getD (by rw [swp_len, swp_len]) fun i _ => ?_
  have h2 : l + 1 < (swp ord l).length := by rw [swp_len]; exact hl
  rw [swp_get h2, swp_get hl, swp_get hl, swp_get hl]
  by_cases e : i = l
  · subst e; simp
  · by_cases e2 : i = l + 1
    · subst e2; simp
    · simp [e, e2]
theorem usz_swp (hl : l + 1 < ord.length) : usz n (swp ord l) l F = usz n ord l F := by
  have : Both n (swp ord l) l F = Both n ord l F := by
    funext g
    unfold Both
    rw [swp_swp hl]
    exact propext or_comm
  unfold usz
  rw [this]
def TrOk (n cap : Nat) (F : Fn → Prop) : List Nat → List Nat → Prop
  | _, [] => True
  | ord, l :: r => l + 1 < n ∧ usz n ord l F + 2 ≤ cap ∧ TrOk n cap F (swp ord l) r
theorem TrOk.congr (e : ∀ g, F g ↔ G g) : ∀ {tr ord : List Nat}, TrOk n cap F ord tr → TrOk n cap G ord tr := by
  have : F = G := funext fun g => propext (e g)
  subst this
  exact fun {tr ord} h => h
theorem TrOk.exch (hlen : ord.length = n) (hl : l + 1 < n) (hfit : usz n ord l F + 2 ≤ cap) {tr : List Nat} (h : TrOk n cap F ord tr.reverse) : TrOk n cap F (swp ord l) (tr ++ [l]).reverse := by
  rw [List.reverse_append]
  exact ⟨hl, by rw [usz_swp (by omega)]; exact hfit, by rw [swp_swp (by omega)]; exact h⟩
end Bdd
namespace Bdd
open Tab
variable {n l : Nat} {ord : List Nat} {L : Tab.Fs} {F : Fn → Prop}
def fnT (n : Nat) (ws : List Nat) : Fn := fun x => bit ws (x % 2 ^ n)
theorem setb_mod {x v n : Nat} {b : Bool} (hv : v < n) : setb x v b % 2 ^ n = setb (x % 2 ^ n) v b := by
  apply Nat.eq_of_testBit_eq; intro k
  rw [Nat.testBit_mod_two_pow, testBit_setb, testBit_setb, Nat.testBit_mod_two_pow]
  by_cases e : k = v
  · subst e; simp [hv]
  · simp [e]
theorem fnT_cof {v : Nat} {ws : List Nat} (hf : Frm n ws) (hv : v < n) (b : Bool) : fnT n (cof n ws v b) = fun x => fnT n ws (setb x v b) := by
  funext x
  unfold fnT
  rw [bit_cof hf hv (Nat.mod_lt _ (Nat.two_pow_pos n)), setb_mod hv]
theorem fnT_lt {ws : List Nat} {x : Nat} (h : x < 2 ^ n) : fnT n ws x = bit ws x := by unfold fnT; rw [Nat.mod_eq_of_lt h]
theorem fnT_inj {a b : List Nat} (ha : Frm n a) (hb : Frm n b) (h : fnT n a = fnT n b) : a = b := ha.ext hb fun x hx => by rw [← fnT_lt hx, ← fnT_lt hx, h]
theorem fnT_hangs {v : Nat} {ws : List Nat} (hf : Frm n ws) (hv : v < n) : hangs (fnT n ws) v ↔ Tab.dep n ws v = true := by
  rw [dep_iff hf hv]
  constructor
  · rintro ⟨x, hx⟩
    refine ⟨x % 2 ^ n, Nat.mod_lt _ (Nat.two_pow_pos n), ?_⟩
    unfold fnT at hx
    rwa [setb_mod hv, setb_mod hv] at hx
  · rintro ⟨x, hx, hne⟩
    refine ⟨x, ?_⟩
    unfold fnT
    rwa [setb_mod hv, setb_mod hv, Nat.mod_eq_of_lt hx]
def cur (n : Nat) (ord : List Nat) (L : Tab.Fs) : Nat → Tab.Fs
  | 0 => unlike L
  | k + 1 => given n (cur n ord L k) (ord.getD k 0)
def FT (n : Nat) (L : Tab.Fs) : Fn → Prop := fun g => ∃ t ∈ L, g = fnT n t
theorem cur_nodup : ∀ k, (cur n ord L k).Nodup
  | 0 => unlike_nodup L
  | k + 1 => given_nodup _ _ _
theorem cur_frm (hL : ∀ t ∈ L, Frm n t) (hn : n ≤ 16) : ∀ k, ∀ t ∈ cur n ord L k, Frm n t
  | 0, t, h => hL t (mem_unlike.1 h)
  | k + 1, t, h => by obtain ⟨u, _, b, rfl⟩ := mem_given.1 h; exact frm_cof hn
theorem fs_cur (hL : ∀ t ∈ L, Frm n t) (hn : n ≤ 16) (ho : ∀ i, i < n → ord.getD i 0 < n) : ∀ k, k ≤ n → ∀ g, fs ord (FT n L) k g ↔ ∃ t ∈ cur n ord L k, g = fnT n t
  | 0, _, g => by
    show (∃ t ∈ L, g = fnT n t) ↔ _
    constructor
    · rintro ⟨t, h, e⟩; exact ⟨t, mem_unlike.2 h, e⟩
    · rintro ⟨t, h, e⟩; exact ⟨t, mem_unlike.1 h, e⟩
  | k + 1, hk, g => by
    have ih := fs_cur hL hn ho k (by omega)
    constructor
    · rintro ⟨f, hf, b, rfl⟩
      obtain ⟨t, ht, rfl⟩ := (ih f).1 hf
      exact ⟨cof n t (ord.getD k 0) b, mem_given.2 ⟨t, ht, b, rfl⟩, (fnT_cof (cur_frm hL hn k t ht) (ho k (by omega)) b).symm⟩
    · rintro ⟨t, ht, rfl⟩
      obtain ⟨u, hu, b, rfl⟩ := mem_given.1 ht
      exact ⟨fnT n u, (ih _).2 ⟨u, hu, rfl⟩, b, fnT_cof (cur_frm hL hn k u hu) (ho k (by omega)) b⟩
theorem fs_indep : ∀ k g, fs ord F k g → ∀ j, j < k → ¬ hangs g (ord.getD j 0)
  | 0, _, _, _, h => absurd h (Nat.not_lt_zero _)
  | k + 1, g, h, j, hj => by
    obtain ⟨f, hf, b, rfl⟩ := h
    rintro ⟨x, hx⟩
    apply hx
    by_cases e : ord.getD j 0 = ord.getD k 0
    · show f (setb (setb x _ false) _ b) = f (setb (setb x _ true) _ b)
      congr 1
      apply Nat.eq_of_testBit_eq; intro i
      simp only [testBit_setb, e]
      split <;> rfl
    · have hlt : j < k := by
        rcases Nat.lt_succ_iff_lt_or_eq.1 hj with h | h
        · exact h
        · subst h; exact (e rfl).elim
      have := fs_indep k f hf j hlt
      show f (setb (setb x _ false) _ b) = f (setb (setb x _ true) _ b)
      rw [setb_comm e, setb_comm e]
      exact Classical.byContradiction fun hne => this ⟨_, hne⟩
def levN (n : Nat) (ord : List Nat) (L : Tab.Fs) (k : Nat) : Tab.Fs := nodes n (cur n ord L k) (ord.getD k 0)
def sizeN (n : Nat) (ord : List Nat) (L : Tab.Fs) : Nat → Nat
  | 0 => 0
  | k + 1 => sizeN n ord L k + (levN n ord L k).length
def allN (n : Nat) (ord : List Nat) (L : Tab.Fs) : Nat → Tab.Fs
  | 0 => []
  | k + 1 => allN n ord L k ++ levN n ord L k
theorem allN_length : ∀ k, (allN n ord L k).length = sizeN n ord L k
  | 0 => rfl
  | k + 1 => by rw [allN, sizeN, List.length_append, allN_length k]
theorem mem_levN {k : Nat} {t : List Nat} : t ∈ levN n ord L k ↔ t ∈ cur n ord L k ∧ Tab.dep n t (ord.getD k 0) = true := by
  unfold levN nodes; rw [List.mem_filter]
theorem allN_frm (hL : ∀ t ∈ L, Frm n t) (hn : n ≤ 16) : ∀ k, ∀ t ∈ allN n ord L k, Frm n t
  | 0, t, h => by cases h
  | k + 1, t, h => by
    rcases List.mem_append.1 h with h | h
    · exact allN_frm hL hn k t h
    · exact cur_frm hL hn k t (mem_levN.1 h).1
theorem allN_mem (hL : ∀ t ∈ L, Frm n t) (hn : n ≤ 16) (ho : ∀ i, i < n → ord.getD i 0 < n) : ∀ m, m ≤ n → ∀ g, (∃ k, k < m ∧ fs ord (FT n L) k g ∧ hangs g (ord.getD k 0)) ↔ ∃ t ∈ allN n ord L m, g = fnT n t
  | 0, _, g => by simp [allN]
  | m + 1, hm, g => by
    have ih := allN_mem hL hn ho m (by omega) g
    have lev : (fs ord (FT n L) m g ∧ hangs g (ord.getD m 0)) ↔ ∃ t ∈ levN n ord L m, g = fnT n t := by
      rw [fs_cur hL hn ho m (by omega)]
      constructor
      · rintro ⟨⟨t, ht, rfl⟩, hh⟩
        exact ⟨t, mem_levN.2 ⟨ht, (fnT_hangs (cur_frm hL hn m t ht) (ho m (by omega))).1 hh⟩, rfl⟩
      · rintro ⟨t, ht, rfl⟩
        obtain ⟨h1, h2⟩ := mem_levN.1 ht
        exact ⟨⟨t, h1, rfl⟩, (fnT_hangs (cur_frm hL hn m t h1) (ho m (by omega))).2 h2⟩
    constructor
    · rintro ⟨k, hk, h1, h2⟩
      by_cases e : k = m
      · subst e
        obtain ⟨t, ht, rfl⟩ := lev.1 ⟨h1, h2⟩
        exact ⟨t, List.mem_append_right _ ht, rfl⟩
      · obtain ⟨t, ht, rfl⟩ := ih.1 ⟨k, by omega, h1, h2⟩
        exact ⟨t, List.mem_append_left _ ht, rfl⟩
    · rintro ⟨t, ht, rfl⟩
      rcases List.mem_append.1 ht with ht | ht
      · obtain ⟨k, hk, h⟩ := ih.2 ⟨t, ht, rfl⟩
        exact ⟨k, by omega, h⟩
      · exact ⟨m, by omega, lev.2 ⟨t, ht, rfl⟩⟩
theorem allN_nodup (hL : ∀ t ∈ L, Frm n t) (hn : n ≤ 16) (ho : ∀ i, i < n → ord.getD i 0 < n) : ∀ m, m ≤ n → (allN n ord L m).Nodup
  | 0, _ => List.nodup_nil
  | m + 1, hm => by
    refine List.nodup_append.2 ⟨allN_nodup hL hn ho m (by omega), (cur_nodup m).filter _, fun a ha b hb e => ?_⟩
    subst e
    obtain ⟨k, hk, h1, h2⟩ := (allN_mem hL hn ho m (by omega) (fnT n a)).2 ⟨a, ha, rfl⟩
    have h3 := (fs_cur hL hn ho m (by omega) (fnT n a)).2 ⟨a, (mem_levN.1 hb).1, rfl⟩
    exact fs_indep m _ h3 k hk h2
theorem cnt_tabs {P : Fn → Prop} {l : Tab.Fs} (hf : ∀ t ∈ l, Frm n t) (hn : l.Nodup) (h : ∀ g, P g ↔ ∃ t ∈ l, g = fnT n t) : Cnt P l.length := by
  refine ⟨l.map (fnT n), ?_, by simp, fun g => ?_⟩
  · refine List.pairwise_map.2 (hn.imp_of_mem fun {a b} ha hb hne heq => hne (fnT_inj (hf a ha) (hf b hb) heq))
  · rw [h, List.mem_map]
    constructor
    · rintro ⟨t, ht, rfl⟩; exact ⟨t, ht, rfl⟩
    · rintro ⟨t, ht, rfl⟩; exact ⟨t, ht, rfl⟩
theorem cnt_FT (hL : ∀ t ∈ L, Frm n t) (hn : n ≤ 16) (ho : ∀ i, i < n → ord.getD i 0 < n) : Cnt (NodeSet n ord (FT n L)) (sizeN n ord L n) := by
  rw [← allN_length]
  exact cnt_tabs (allN_frm hL hn n) (allN_nodup hL hn ho n (Nat.le_refl _)) (allN_mem hL hn ho n (Nat.le_refl _))
theorem sz_FT (hL : ∀ t ∈ L, Frm n t) (hn : n ≤ 16) (ho : ∀ i, i < n → ord.getD i 0 < n) : sz n ord (FT n L) = sizeN n ord L n := sz_eq (cnt_FT hL hn ho)
def bothN (n : Nat) (ord : List Nat) (l : Nat) (L : Tab.Fs) : Tab.Fs := unlike (allN n ord L n ++ allN n (swp ord l) L n)
theorem swp_lt (hl : l + 1 < n) (hlen : ord.length = n) (ho : ∀ i, i < n → ord.getD i 0 < n) : ∀ i, i < n → (swp ord l).getD i 0 < n := fun i hi => by
  rw [swp_get (by omega)]
  split
  · exact ho _ hl
  · split
    · exact ho _ (by omega)
    · exact ho i hi
theorem usz_FT (hL : ∀ t ∈ L, Frm n t) (hn : n ≤ 16) (ho : ∀ i, i < n → ord.getD i 0 < n) (hl : l + 1 < n) (hlen : ord.length = n) : usz n ord l (FT n L) = (bothN n ord l L).length := by
  have ho' := swp_lt hl hlen ho
  refine usz_eq (cnt_tabs (n := n) (fun t ht => ?_) (unlike_nodup _) fun g => ?_)
  · rcases List.mem_append.1 (mem_unlike.1 ht) with h | h
    · exact allN_frm hL hn n t h
    · exact allN_frm hL hn n t h
  · unfold Both bothN
    rw [show NodeSet n ord (FT n L) g ↔ _ from allN_mem hL hn ho n (Nat.le_refl _) g, show NodeSet n (swp ord l) (FT n L) g ↔ _ from allN_mem hL hn ho' n (Nat.le_refl _) g]
    constructor
    · rintro (⟨t, h, rfl⟩ | ⟨t, h, rfl⟩)
      · exact ⟨t, mem_unlike.2 (List.mem_append_left _ h), rfl⟩
      · exact ⟨t, mem_unlike.2 (List.mem_append_right _ h), rfl⟩
    · rintro ⟨t, h, rfl⟩
      rcases List.mem_append.1 (mem_unlike.1 h) with h | h
      · exact .inl ⟨t, h, rfl⟩
      · exact .inr ⟨t, h, rfl⟩
end Bdd
