import Derived.Test.YtilnmikgcbcmcaaGreatG2
import Derived.Test.YtilnmikgcbcmcaaGreatProg
set_option linter.unusedVariables false
set_option linter.unusedSimpArgs false
set_option linter.unusedSectionVars false
set_option maxRecDepth 100000
namespace Go.Proofs
open Go Go.Sx
variable {g : Gh} {a0 a1 a2 a3 a4 a5 a6 a7 a8 a9 a10 a11 a12 a13 a14 a15 : Value} {H : Hp} {R : Rt}
def L8 (g : Gh) (a0 a1 a2 a3 a4 : Value) (H : Hp) (R : Rt) : Prop :=
ConvI .i64 a0 fun v1 =>
Bin .num .rem v1 (Value.int .i64 6) fun v2 =>
Bin .num .add (Value.int .i64 1) v2 fun v3 =>
CF g 25 #[v3, a1] H (fun v4 H5 =>
Bin .ptr .eql v4 (.pointer none) fun v6 =>
Br v6 (
R (.returned (Value.bool false)) H5) (
CF g 41 #[v3, a2] H5 (fun v7 H8 =>
Nil v4 fun v9 =>
FAddr 0 v9 fun v10 =>
Ld H8 v10 fun v11 =>
CF g 34 #[v11, v7] H8 (fun v12 H13 =>
Ext 0 v12 fun v14 =>
Ext 1 v12 fun v15 =>
∀ J16 : Jt, (∀ w19 : Value, ∀ H18 : Hp, (∀ gs17 : Fr,
Br w19 (
R (.returned (Value.bool false)) H18) (
ConvI .i64 a3 fun v20 =>
Bin .num .rem v20 v3 fun v21 =>
ConvI .i64 a4 fun v22 =>
Bin .num .rem v22 v3 fun v23 =>
Nil v4 fun v24 =>
FAddr 0 v24 fun v25 =>
Ld H18 v25 fun v26 =>
CF g 39 #[v26, v21] H18 (fun v27 H28 =>
Ext 0 v27 fun v29 =>
Ext 1 v27 fun v30 =>
∀ J31 : Jt, (∀ w34 : Value, ∀ H33 : Hp, (∀ gs32 : Fr,
Br w34 (
R (.returned (Value.bool false)) H33) (
Nil v4 fun v35 =>
FAddr 0 v35 fun v36 =>
Ld H33 v36 fun v37 =>
CF g 42 #[v37, v21] H33 (fun v38 H39 =>
Ext 0 v38 fun v40 =>
Ext 1 v38 fun v41 =>
Nil v4 fun v42 =>
FAddr 0 v42 fun v43 =>
Ld H39 v43 fun v44 =>
CF g 33 #[v44, v21, v23] H39 (fun v45 H46 =>
Ext 0 v45 fun v47 =>
Ext 1 v45 fun v48 =>
Bin .num .sub v23 v40 fun v49 =>
∀ J50 : Jt, (∀ w53 : Value, ∀ H52 : Hp, (∀ gs51 : Fr,
∀ J54 : Jt, (∀ w57 : Value, ∀ H56 : Hp, (∀ gs55 : Fr,
Br w57 (
R (.returned (Value.bool false)) H56) (
Nil v4 fun v58 =>
FAddr 0 v58 fun v59 =>
Ld H56 v59 fun v60 =>
CF g 13 #[v60] H56 (fun v61 H62 =>
∃ (I63 : Jt) (m64 : Mt), JE I63 [(.slice none 0 0), (Value.int .i64 0)] H62 ∧ ∀ w67 w68 : Value, ∀ H66 : Hp, I63 [w67, w68] H66 → ∀ gs65 : Fr,
Bin .num .lss w68 v3 fun v69 =>
Br v69 (
∀ J70 : Jt, (∀ w73 : Value, ∀ H72 : Hp, (∀ gs71 : Fr,
Bin .num .add w68 (Value.int .i64 1) fun v74 =>
Back I63 m64 [w73, v74] H72 [w67, w68] H66) → J70 [w73] H72) →
IAddr 1 v61 w68 fun v75 =>
Ld H66 v75 fun v76 =>
Bin .num .neq v76 v21 fun v77 =>
Br v77 (
IAddr 1 v61 w68 fun v78 =>
Ld H66 v78 fun v79 =>
BuildSl Tryz.prog 22 1 [(0, v79)] H66 fun v80 H81 =>
App Tryz.prog 3 1 8 (Value.int .i64 0) H81 w67 v80 fun v84 H85 =>
JE J70 [v84] H85) (
JE J70 [w67] H66)) (
∃ (I86 : Jt) (m87 : Mt), JE I86 [(Value.int .i64 0), (Value.int .i64 0)] H66 ∧ ∀ w90 w91 : Value, ∀ H89 : Hp, I86 [w90, w91] H89 → ∀ gs88 : Fr,
Bin .num .lss w91 v3 fun v92 =>
Br v92 (
∀ J93 : Jt, (∀ w96 : Value, ∀ H95 : Hp, (∀ gs94 : Fr,
Bin .num .add w91 (Value.int .i64 1) fun v97 =>
Back I86 m87 [w96, v97] H95 [w90, w91] H89) → J93 [w96] H95) →
IAddr 1 v7 w91 fun v98 =>
Ld H89 v98 fun v99 =>
Bin .num .eql v99 v21 fun v100 =>
Br v100 (
JE J93 [w90] H89) (
LenS w67 fun v101 =>
Bin .num .geq w90 v101 fun v102 =>
Grp v102 false (fun t103 =>
IAddr 1 w67 w90 fun v104 =>
Ld H89 v104 fun v105 =>
IAddr 1 v7 w91 fun v106 =>
Ld H89 v106 fun v107 =>
Bin .num .neq v105 v107 fun v108 =>
(H89 = H89 ∧ v108 = Value.bool t103)) (fun t103 => (Value.bool true) = Value.bool t103) fun t103 => ∀ gs109 : Fr,
Br (Value.bool t103) (
R (.returned (Value.bool false)) H89) (
Bin .num .add w90 (Value.int .i64 1) fun v110 =>
JE J93 [v110] H89))) (
IAddr 1 v61 v23 fun v111 =>
Ld H89 v111 fun v112 =>
Bin .num .eql v112 v21 fun v113 =>
R (.returned v113) H89))) (PanR R))) → J54 [w57] H56) →
DR H52 fun R114 =>
Bin .num .neq v41 (Value.int .i64 0) fun v115 =>
Br v115 (
JE J54 [(Value.bool true)] H52) (
Bin .num .neq v48 (Value.int .i64 0) fun v116 =>
Pick (Value.bool false) (Value.bool true) v116 fun v117 =>
Br v117 (
JE J54 [(Value.bool true)] H52) (
Bin .num .neq v47 w53 fun v118 =>
Pick (Value.bool false) (Value.bool true) v118 fun v119 =>
Br v119 (
JE J54 [(Value.bool true)] H52) (
IAddr 1 v29 v23 fun v120 =>
Ld R114 v120 fun v121 =>
Nil v4 fun v122 =>
FAddr 0 v122 fun v123 =>
Ld R114 v123 fun v124 =>
∀ F125 : Hp,
CF (g.add F125) 14 #[v124] H52 (fun v126 H127 =>
Ent H127 R114 ∧
Bin .num .neq v121 v126 fun v128 =>
Pick (Value.bool false) (Value.bool true) v128 fun v129 =>
Br v129 (
JE J54 [(Value.bool true)] H127) (
∀ F130 : Hp,
CF (g.add F130) 31 #[v4] H127 (fun v131 H132 =>
Ent H132 R114 ∧
Un .not v131 fun v133 =>
Pick (Value.bool false) (Value.bool true) v133 fun v134 =>
JE J54 [v134] H132) NoKP)) NoKP)))) → J50 [w53] H52) →
Bin .num .lss v49 (Value.int .i64 0) fun v135 =>
Br v135 (
Un .neg v49 fun v136 =>
JE J50 [v136] H46) (
JE J50 [v49] H46)) (PanR R)) (PanR R))) → J31 [w34] H33) →
Bin .num .neq v30 (Value.int .i64 0) fun v137 =>
Split v137 false (
LenS v29 fun v138 =>
Bin .num .neq v138 v3 fun v139 =>
Pick (Value.bool false) (Value.bool true) v139 fun v140 =>
Split v140 false (
Nil v4 fun v141 =>
FAddr 0 v141 fun v142 =>
Ld H28 v142 fun v143 =>
CF g 13 #[v143] H28 (fun v144 H145 =>
CF g 30 #[v144, v7] H145 (fun v146 H147 =>
Un .not v146 fun v148 =>
Pick (Value.bool false) (Value.bool true) v148 fun v149 =>
JE J31 [v149] H147) (PanR R)) (PanR R)) (
Pick (Value.bool true) (Value.bool true) undef fun v150 =>
JE J31 [v150] H28)) (
Pick (Value.bool true) (Value.bool true) undef fun v151 =>
Pick v151 (Value.bool true) undef fun v152 =>
JE J31 [v152] H28)) (PanR R))) → J16 [w19] H18) →
Bin .num .neq v15 (Value.int .i64 0) fun v153 =>
Split v153 false (
Nil v4 fun v154 =>
FAddr 0 v154 fun v155 =>
Ld H13 v155 fun v156 =>
CF g 13 #[v156] H13 (fun v157 H158 =>
CF g 30 #[v157, v7] H158 (fun v159 H160 =>
Un .not v159 fun v161 =>
Pick (Value.bool false) (Value.bool true) v161 fun v162 =>
Split v162 false (
CF g 31 #[v4] H160 (fun v163 H164 =>
Un .not v163 fun v165 =>
Pick (Value.bool false) (Value.bool true) v165 fun v166 =>
JE J16 [v166] H164) (PanR R)) (
Pick (Value.bool true) (Value.bool true) undef fun v167 =>
JE J16 [v167] H160)) (PanR R)) (PanR R)) (
Pick (Value.bool true) (Value.bool true) undef fun v168 =>
Pick v168 (Value.bool true) undef fun v169 =>
JE J16 [v169] H13)) (PanR R)) (PanR R))) (PanR R)
theorem L8_sound (h : L8 g a0 a1 a2 a3 a4 H R) : SCalls Tryz.prog g 8 #[a0, a1, a2, a3, a4] H R :=
 soundF (hn := (.n .e (.n .e (.n .e (.n .e (.n .e (.n .e (.n (.h 1 [67] [3, 4, 11, 12, 13] .e .e) (.n .e (.n .e (.n .e (.n (.h 1 [102] [11, 12, 13, 16, 17, 18] .e .e) (.n .e (.n .e (.n .e (.h 1 [24] [11, 12, 13, 16, 17, 18, 21, 22, 23] .e (.n (.h 1 [156] [11, 12, 13, 16, 17] (.h 1 [] [] (.h 0 [0] [] (.h 0 [1] [] (.h 2 [2] [] (.h 0 [3] [] (.h 0 [4] [] (.h 3 [5] [] (.h 3 [6] [] (.h 0 [7] [] (.h 0 [8] [] (.h 0 [9] [] (.h 3 [10] [] (.h 3 [11] [] (.h 0 [12] [] (.h 0 [13] [] (.h 0 [14] [] (.h 0 [15] [] (.h 0 [16] [] (.h 0 [17] [] (.h 0 [18] [] (.h 0 [19] [] (.h 0 [20] [] (.h 0 [21] [] (.h 3 [22] [] (.h 3 [23] [] (.h 0 [24] [] (.h 0 [25] [] (.h 0 [26] [] (.h 3 [27] [] .e .e) .e) .e) .e) .e) .e) .e) .e) .e) .e) .e) .e) .e) .e) .e) .e) .e) .e) .e) .e) .e) .e) .e) .e) .e) (.h 0 [3] [] (.h 0 [4] [] (.h 0 [5] [] (.h 2 [6] [] (.h 0 [7] [] (.h 0 [8] [] (.h 0 [9] [] (.h 3 [10] [] (.h 3 [11] [] (.h 0 [12] [] (.h 0 [13] [] (.h 0 [14] [] (.h 0 [15] [] (.h 0 [16] [] (.h 0 [17] [] (.h 0 [18] [] (.h 0 [19] [] (.h 0 [20] [] (.h 0 [21] [] (.h 3 [22] [] (.h 3 [23] [] (.h 0 [24] [] (.h 0 [25] [] (.h 0 [26] [] (.h 3 [27] [] .e .e) .e) .e) .e) .e) .e) .e) .e) .e) .e) .e) .e) .e) .e) .e) .e) .e) .e) .e) .e) .e) (.h 0 [7] [] (.h 0 [8] [] (.h 0 [9] [] (.h 0 [10] [] (.h 2 [11] [] (.h 0 [12] [] (.h 0 [13] [] (.h 0 [14] [] (.h 0 [15] [] (.h 0 [16] [] (.h 0 [17] [] (.h 0 [18] [] (.h 0 [19] [] (.h 0 [20] [] (.h 0 [21] [] (.h 3 [22] [] (.h 3 [23] [] (.h 0 [24] [] (.h 0 [25] [] (.h 0 [26] [] (.h 3 [27] [] .e .e) .e) .e) .e) .e) .e) .e) .e) .e) .e) .e) .e) .e) .e) .e) .e) (.h 0 [12] [] (.h 0 [13] [] (.h 0 [14] [] (.h 0 [15] [] (.h 0 [16] [] (.h 0 [17] [] (.h 0 [18] [] (.h 0 [19] [] (.h 0 [20] [] (.h 0 [21] [] (.h 0 [22] [] (.h 2 [23] [] (.h 0 [24] [] (.h 0 [25] [] (.h 0 [26] [] (.h 3 [27] [] .e .e) .e) .e) .e) (.h 0 [24] [] (.h 0 [25] [] (.h 0 [26] [] (.h 0 [27] [] .e .e) .e) .e) .e)) .e) .e) .e) .e) .e) .e) .e) .e) .e) .e) .e)) .e) .e) .e) .e)) .e) .e) .e)) .e) .e) .e) .e) (.n .e (.n .e (.n (.n .e (.n (.h 0 [25, 27] [11, 13, 16, 17, 26] (.n .e (.h 1 [25] [11, 13, 16, 17, 26, 27] .e .e)) .e) .e)) (.n .e (.n (.n .e (.n (.h 0 [28, 29] [11, 13, 16, 17, 25, 26] (.n .e (.h 1 [28] [11, 13, 16, 17, 25, 26, 29] .e .e)) .e) .e)) .e)))))))))))))))))))))) Tryz.func8 h (by kernel_rfl)
def L25 (g : Gh) (a0 a1 : Value) (H : Hp) (R : Rt) : Prop :=
CF g 74 #[a0, (Value.int .i64 4000)] H (fun v1 H2 =>
Bin .ptr .eql v1 (.pointer none) fun v3 =>
Br v3 (
R (.returned (.pointer none)) H2) (
∃ (I4 : Jt) (m5 : Mt), JE I4 [(Value.int .i64 0)] H2 ∧ ∀ w8 : Value, ∀ H7 : Hp, I4 [w8] H7 → ∀ gs6 : Fr,
Bin .num .lss w8 a0 fun v9 =>
Br v9 (
ConvI .u8 w8 fun v10 =>
Build Tryz.prog 134 [(0, (Value.int .u8 0)), (1, v10)] fun v11 =>
CF g 75 #[v1, v11] H7 (fun v12 H13 =>
Un .not v12 fun v14 =>
Br v14 (
R (.returned (.pointer none)) H13) (
Bin .num .add w8 (Value.int .i64 1) fun v15 =>
Back I4 m5 [v15] H13 [w8] H7)) (PanR R)) (
Nil v1 fun v16 =>
FAddr 2 v16 fun v17 =>
Ld H7 v17 fun v18 =>
LenS v18 fun v19 =>
Bin .num .neq v19 a0 fun v20 =>
Br v20 (
R (.returned (.pointer none)) H7) (
∃ (I21 : Jt) (m22 : Mt), JE I21 [(Value.int .i64 0)] H7 ∧ ∀ w25 : Value, ∀ H24 : Hp, I21 [w25] H24 → ∀ gs23 : Fr,
LenS a1 fun v26 =>
Bin .num .lss w25 v26 fun v27 =>
Grp v27 true (fun t28 =>
Bin .num .lss w25 (Value.int .i64 30) fun v29 =>
(H24 = H24 ∧ v29 = Value.bool t28)) (fun t28 => (Value.bool false) = Value.bool t28) fun t28 => ∀ gs30 : Fr,
Br (Value.bool t28) (
IAddr 6 a1 w25 fun v31 =>
LdA 6 H24 v31 fun v32 =>
CF g 75 #[v1, v32] H24 (fun v33 H34 =>
Un .not v33 fun v35 =>
Br v35 (
R (.returned (.pointer none)) H34) (
Bin .num .add w25 (Value.int .i64 1) fun v36 =>
Back I21 m22 [v36] H34 [w25] H24)) (PanR R)) (
R (.returned v1) H24))))) (PanR R)
theorem L25_sound (h : L25 g a0 a1 H R) : SCalls Tryz.prog g 25 #[a0, a1] H R :=
 soundF (hn := (.n .e (.n .e (.n .e (.n (.n .e (.n (.h 0 [6] [0, 1, 5] .e .e) .e)) (.n .e (.n (.n .e (.n (.h 0 [7] [1, 5] (.n (.n (.h 0 [] [1] .e .e) .e) .e) .e) .e)) .e))))))) Tryz.func25 h (by kernel_rfl)
def L30 (g : Gh) (a0 a1 : Value) (H : Hp) (R : Rt) : Prop :=
LenS a0 fun v1 =>
LenS a1 fun v2 =>
Bin .num .neq v1 v2 fun v3 =>
Br v3 (
R (.returned (Value.bool false)) H) (
∃ (I4 : Jt) (m5 : Mt), JE I4 [(Value.int .i64 0)] H ∧ ∀ w8 : Value, ∀ H7 : Hp, I4 [w8] H7 → ∀ gs6 : Fr,
LenS a0 fun v9 =>
Bin .num .lss w8 v9 fun v10 =>
Br v10 (
IAddr 1 a0 w8 fun v11 =>
Ld H7 v11 fun v12 =>
IAddr 1 a1 w8 fun v13 =>
Ld H7 v13 fun v14 =>
Bin .num .neq v12 v14 fun v15 =>
Br v15 (
R (.returned (Value.bool false)) H7) (
Bin .num .add w8 (Value.int .i64 1) fun v16 =>
Back I4 m5 [v16] H7 [w8] H7)) (
R (.returned (Value.bool true)) H7))
theorem L30_sound (h : L30 g a0 a1 H R) : SCalls Tryz.prog g 30 #[a0, a1] H R :=
 soundF (hn := (.n .e (.n .e (.n (.n .e (.n (.h 0 [5] [0, 1] .e .e) .e)) .e)))) Tryz.func30 h (by kernel_rfl)
def L31 (g : Gh) (a0 : Value) (H : Hp) (R : Rt) : Prop :=
∀ J1 : Jt, (∀ w4 : Value, ∀ H3 : Hp, (∀ gs2 : Fr,
Br w4 (
R (.returned (Value.bool false)) H3) (
∃ (I5 : Jt) (m6 : Mt), JE I5 [(Value.int .i64 0)] H3 ∧ ∀ w9 : Value, ∀ H8 : Hp, I5 [w9] H8 → ∀ gs7 : Fr,
Nil a0 fun v10 =>
FAddr 2 v10 fun v11 =>
Ld H8 v11 fun v12 =>
LenS v12 fun v13 =>
Bin .num .lss w9 v13 fun v14 =>
Br v14 (
DR H8 fun R15 =>
Nil a0 fun v16 =>
FAddr 2 v16 fun v17 =>
Ld R15 v17 fun v18 =>
IAddr 1 v18 w9 fun v19 =>
Ld R15 v19 fun v20 =>
Nil a0 fun v21 =>
FAddr 3 v21 fun v22 =>
Ld R15 v22 fun v23 =>
IAddr 2 v23 w9 fun v24 =>
LdA 2 R15 v24 fun v25 =>
Nil a0 fun v26 =>
FAddr 1 v26 fun v27 =>
Ld R15 v27 fun v28 =>
Bin .num .mul (Value.int .i64 2) v28 fun v29 =>
Bin .num .add v29 (Value.int .i64 2) fun v30 =>
CF g 79 #[a0, v20, v25, v30] H8 (fun v31 H32 =>
Ent H32 R15 ∧
Un .not v31 fun v33 =>
Br v33 (
R (.returned (Value.bool false)) H32) (
∃ (I34 : Jt) (m35 : Mt), JE I34 [(Value.int .i64 0)] H32 ∧ ∀ w38 : Value, ∀ H37 : Hp, I34 [w38] H37 → ∀ gs36 : Fr,
Bin .num .lss w38 w9 fun v39 =>
Br v39 (
DR H37 fun R40 =>
Nil a0 fun v41 =>
FAddr 2 v41 fun v42 =>
Ld R40 v42 fun v43 =>
IAddr 1 v43 w9 fun v44 =>
Ld R40 v44 fun v45 =>
Nil a0 fun v46 =>
FAddr 2 v46 fun v47 =>
Ld R40 v47 fun v48 =>
IAddr 1 v48 w38 fun v49 =>
Ld R40 v49 fun v50 =>
Bin .num .eql v45 v50 fun v51 =>
Nil a0 fun v52 =>
FAddr 3 v52 fun v53 =>
Ld R40 v53 fun v54 =>
IAddr 2 v54 w9 fun v55 =>
LdA 2 R40 v55 fun v56 =>
Nil a0 fun v57 =>
FAddr 3 v57 fun v58 =>
Ld R40 v58 fun v59 =>
IAddr 2 v59 w38 fun v60 =>
LdA 2 R40 v60 fun v61 =>
CF g 80 #[v56, v61] H37 (fun v62 H63 =>
Ent H63 R40 ∧
Bin .bool .neq v51 v62 fun v64 =>
Br v64 (
R (.returned (Value.bool false)) H63) (
Bin .num .add w38 (Value.int .i64 1) fun v65 =>
Back I34 m35 [v65] H63 [w38] H37)) NoKP) (
Bin .num .add w9 (Value.int .i64 1) fun v66 =>
Back I5 m6 [v66] H37 [w9] H8))) NoKP) (
R (.returned (Value.bool true)) H8))) → J1 [w4] H3) →
DR H fun R67 =>
Nil a0 fun v68 =>
FAddr 0 v68 fun v69 =>
Ld R67 v69 fun v70 =>
∀ F71 : Hp,
CF (g.add F71) 14 #[v70] H (fun v72 H73 =>
Ent H73 R67 ∧
∀ F74 : Hp,
CF (g.add F74) 77 #[a0, (.slice none 0 0)] H73 (fun v75 H76 =>
Ent H76 R67 ∧
Bin .num .neq v72 v75 fun v77 =>
Br v77 (
JE J1 [(Value.bool true)] H76) (
Nil a0 fun v78 =>
FAddr 0 v78 fun v79 =>
Ld R67 v79 fun v80 =>
Nil a0 fun v81 =>
FAddr 0 v81 fun v82 =>
Ld R67 v82 fun v83 =>
∀ F84 : Hp,
CF (g.add F84) 14 #[v80] H76 (fun v85 H86 =>
Ent H86 R67 ∧
Bin .num .add v85 (Value.int .i64 2) fun v87 =>
∀ F88 : Hp,
CF (g.add F88) 78 #[v83] H86 (fun v89 H90 =>
Ent H90 R67 ∧
Bin .num .gtr v87 v89 fun v91 =>
Pick (Value.bool false) (Value.bool true) v91 fun v92 =>
JE J1 [v92] H90) NoKP) NoKP)) NoKP) NoKP
theorem L31_sound (h : L31 g a0 H R) : SCalls Tryz.prog g 31 #[a0] H R :=
 soundF (hn := (.n .e (.n (.h 1 [26] [0] (.h 1 [] [] (.h 0 [0] [] (.h 0 [1] [] (.h 0 [2] [] (.h 0 [3] [] (.h 0 [5] [] (.h 0 [4] [] (.h 0 [6] [] (.h 0 [7] [] (.h 2 [8] [] (.h 0 [9] [] (.h 0 [10] [] (.h 0 [11] [] (.h 0 [12] [] (.h 0 [13] [] (.h 0 [14] [] (.h 0 [15] [] (.h 0 [16] [] (.h 0 [17] [] (.h 0 [18] [] (.h 0 [19] [] (.h 0 [20] [] (.h 3 [21] [] .e .e) .e) .e) .e) .e) .e) .e) .e) .e) .e) .e) .e) .e) (.h 0 [9] [] (.h 0 [10] [] (.h 0 [11] [] (.h 0 [12] [] (.h 0 [15] [] (.h 0 [16] [] (.h 0 [17] [] (.h 0 [18] [] (.h 0 [13] [] (.h 0 [14] [] (.h 0 [19] [] (.h 0 [20] [] (.h 0 [21] [] .e .e) .e) .e) .e) .e) .e) .e) .e) .e) .e) .e) .e) .e)) .e) .e) .e) .e) .e) .e) .e) .e) .e) .e) (.n (.n .e (.n (.h 0 [3] [0] (.n .e (.n (.n (.n (.n (.h 0 (List.range 23) [] .e .e) .e) (.n .e (.n (.h 0 [4] [0, 3] (.n .e (.n (.n (.n (.h 0 (List.range 31) [] .e .e) .e) .e) .e)) .e) .e))) .e) .e)) .e) .e)) .e)))) Tryz.func31 h (by kernel_rfl)
def L41 (g : Gh) (a0 a1 : Value) (H : Hp) (R : Rt) : Prop :=
∃ (I1 : Jt) (m2 : Mt), JE I1 [(.slice none 0 0), (Value.int .i64 0)] H ∧ ∀ w5 w6 : Value, ∀ H4 : Hp, I1 [w5, w6] H4 → ∀ gs3 : Fr,
Bin .num .lss w6 a0 fun v7 =>
Br v7 (
BuildSl Tryz.prog 22 1 [(0, w6)] H4 fun v8 H9 =>
App Tryz.prog 3 1 8 (Value.int .i64 0) H9 w5 v8 fun v12 H13 =>
Bin .num .add w6 (Value.int .i64 1) fun v14 =>
Back I1 m2 [v12, v14] H13 [w5, w6] H4) (
∃ (I15 : Jt) (m16 : Mt), JE I15 [w5, (.slice none 0 0), (Value.int .i64 0)] H4 ∧ ∀ w19 w20 w21 : Value, ∀ H18 : Hp, I15 [w19, w20, w21] H18 → ∀ gs17 : Fr,
Bin .num .lss w21 a0 fun v22 =>
Br v22 (
∀ J23 : Jt, (∀ w26 : Value, ∀ H25 : Hp, (∀ gs24 : Fr,
IAddr 1 w19 w26 fun v27 =>
Ld H25 v27 fun v28 =>
BuildSl Tryz.prog 22 1 [(0, v28)] H25 fun v29 H30 =>
App Tryz.prog 3 1 8 (Value.int .i64 0) H30 w20 v29 fun v33 H34 =>
LenS w19 fun v35 =>
Bin .num .sub v35 (Value.int .i64 1) fun v36 =>
IAddr 1 w19 v36 fun v37 =>
Ld H34 v37 fun v38 =>
IAddr 1 w19 w26 fun v39 =>
St 1 H34 v39 v38 fun H40 =>
LenS w19 fun v41 =>
Bin .num .sub v41 (Value.int .i64 1) fun v42 =>
SliceE 1 w19 none (some v42) fun v43 =>
Bin .num .add w21 (Value.int .i64 1) fun v44 =>
Back I15 m16 [v43, v33, v44] H40 [w19, w20, w21] H18) → J23 [w26] H25) →
LenS a1 fun v45 =>
Bin .num .lss w21 v45 fun v46 =>
Br v46 (
IAddr 1 a1 w21 fun v47 =>
Ld H18 v47 fun v48 =>
ConvI .i64 v48 fun v49 =>
LenS w19 fun v50 =>
Bin .num .rem v49 v50 fun v51 =>
JE J23 [v51] H18) (
JE J23 [(Value.int .i64 0)] H18)) (
R (.returned w20) H18))
theorem L41_sound (h : L41 g a0 a1 H R) : SCalls Tryz.prog g 41 #[a0, a1] H R :=
 soundF (hn := (.n .e (.n .e (.n (.n .e (.n (.h 0 [5, 6] [0, 1] .e .e) .e)) (.n .e (.n (.n .e (.n (.h 0 [5, 7, 8] [0, 1] (.n .e (.n (.n (.n .e (.h 1 [9] [0, 1, 5, 7, 8] .e .e)) .e) .e)) .e) .e)) .e)))))) Tryz.func41 h (by kernel_rfl)
def L74 (g : Gh) (a0 a1 : Value) (H : Hp) (R : Rt) : Prop :=
CF g 10 #[a0, a1] H (fun v1 H2 =>
Ext 0 v1 fun v3 =>
Ext 1 v1 fun v4 =>
∀ J5 : Jt, (∀ w8 : Value, ∀ H7 : Hp, (∀ gs6 : Fr,
Br w8 (
R (.returned (.pointer none)) H7) (
Build Tryz.prog 63 [(0, v3), (1, a0)] fun v9 =>
New H7 (.cells (Value.cells v9) 63 (0, 0)) fun b10 H11 =>
R (.returned (pt b10)) H11)) → J5 [w8] H7) →
Bin .num .neq v4 (Value.int .i64 0) fun v12 =>
Split v12 false (
Bin .ptr .eql v3 (.pointer none) fun v13 =>
Pick (Value.bool false) (Value.bool true) v13 fun v14 =>
Split v14 false (
CF g 56 #[v3] H2 (fun v15 H16 =>
Bin .num .neq v15 a0 fun v17 =>
Pick (Value.bool false) (Value.bool true) v17 fun v18 =>
Split v18 false (
CF g 78 #[v3] H16 (fun v19 H20 =>
Bin .num .neq v19 a1 fun v21 =>
Pick (Value.bool false) (Value.bool true) v21 fun v22 =>
Split v22 false (
CF g 14 #[v3] H20 (fun v23 H24 =>
Bin .num .neq v23 (Value.int .i64 0) fun v25 =>
Pick (Value.bool false) (Value.bool true) v25 fun v26 =>
JE J5 [v26] H24) (PanR R)) (
Pick (Value.bool true) (Value.bool true) undef fun v27 =>
JE J5 [v27] H20)) (PanR R)) (
Pick (Value.bool true) (Value.bool true) undef fun v28 =>
Pick v28 (Value.bool true) undef fun v29 =>
JE J5 [v29] H16)) (PanR R)) (
Pick (Value.bool true) (Value.bool true) undef fun v30 =>
Pick v30 (Value.bool true) undef fun v31 =>
Pick v31 (Value.bool true) undef fun v32 =>
JE J5 [v32] H2)) (
Pick (Value.bool true) (Value.bool true) undef fun v33 =>
Pick v33 (Value.bool true) undef fun v34 =>
Pick v34 (Value.bool true) undef fun v35 =>
Pick v35 (Value.bool true) undef fun v36 =>
JE J5 [v36] H2)) (PanR R)
theorem L74_sound (h : L74 g a0 a1 H R) : SCalls Tryz.prog g 74 #[a0, a1] H R :=
 soundF (hn := (.n .e (.n .e (.n (.h 1 [35] [0, 5] .e .e) .e)))) Tryz.func74 h (by kernel_rfl)
def L75 (g : Gh) (a0 a1 : Value) (H : Hp) (R : Rt) : Prop :=
New H (.cells (Value.cells a1) 134 (0, 0)) fun b1 H2 =>
FAddr 2 (pt b1) fun v3 =>
Ld H2 v3 fun v4 =>
CF g 122 #[a0, v4] H2 (fun v5 H6 =>
Ext 0 v5 fun v7 =>
Ext 1 v5 fun v8 =>
New H6 (.cells #[(Value.int .i64 0), (.slice none 0 0)] 55 (0, 0)) fun b9 H10 =>
St 2 H10 (pt b9) v8 fun H11 =>
FAddr 3 (pt b1) fun v12 =>
Ld H11 v12 fun v13 =>
CF g 122 #[a0, v13] H11 (fun v14 H15 =>
Ext 0 v14 fun v16 =>
Ext 1 v14 fun v17 =>
New H15 (.cells #[(Value.int .i64 0), (.slice none 0 0)] 55 (0, 0)) fun b18 H19 =>
St 2 H19 (pt b18) v17 fun H20 =>
FAddr 4 (pt b1) fun v21 =>
Ld H20 v21 fun v22 =>
CF g 122 #[a0, v22] H20 (fun v23 H24 =>
Ext 0 v23 fun v25 =>
Ext 1 v23 fun v26 =>
New H24 (.cells #[(Value.int .i64 0), (.slice none 0 0)] 55 (0, 0)) fun b27 H28 =>
St 2 H28 (pt b27) v26 fun H29 =>
LdA 6 H29 (pt b1) fun v30 =>
LdA 2 H29 (pt b9) fun v31 =>
LdA 2 H29 (pt b18) fun v32 =>
LdA 2 H29 (pt b27) fun v33 =>
CF g 123 #[a0, v30, v31, v32, v33] H29 (fun v34 H35 =>
Ext 0 v34 fun v36 =>
Ext 1 v34 fun v37 =>
New H35 (.cells #[(Value.int .i64 0), (.slice none 0 0)] 55 (0, 0)) fun b38 H39 =>
St 2 H39 (pt b38) v36 fun H40 =>
LdA 6 H40 (pt b1) fun v41 =>
CF g 124 #[a0, v41, v7, v16, v25] H40 (fun v42 H43 =>
Ext 0 v42 fun v44 =>
Ext 1 v42 fun v45 =>
Bin .num .neq v37 (Value.int .i64 0) fun v46 =>
Br v46 (
R (.returned (Value.bool false)) H43) (
DR H43 fun R47 =>
LdA 2 R47 (pt b38) fun v48 =>
Nil a0 fun v49 =>
FAddr 0 v49 fun v50 =>
Ld R47 v50 fun v51 =>
BuildSl Tryz.prog 49 1 [(0, v48)] H43 fun v52 H53 =>
Ent H53 R47 ∧
CF g 77 #[a0, v52] H53 (fun v54 H55 =>
Ent H55 R47 ∧
Bin .num .add v54 (Value.int .i64 2) fun v56 =>
CF g 78 #[v51] H55 (fun v57 H58 =>
Ent H58 R47 ∧
Bin .num .leq v56 v57 fun v59 =>
Bin .num .eql v45 (Value.int .i64 9) fun v60 =>
Br v60 (
Bin .num .eql v44 (Value.int .u32 0) fun v61 =>
Grp v61 true (fun t62 =>
Un .not v59 fun v63 =>
Grp v63 false (fun t64 =>
FAddr 0 (pt b1) fun v65 =>
Ld H58 v65 fun v66 =>
Bin .num .rem v66 (Value.int .u8 9) fun v67 =>
Bin .num .eql v67 (Value.int .u8 8) fun v68 =>
(H58 = H58 ∧ v68 = Value.bool t64)) (fun t64 => (Value.bool true) = Value.bool t64) fun t64 => ∀ gs69 : Fr,
(H58 = H58 ∧ (Value.bool t64) = Value.bool t62)) (fun t62 => (Value.bool false) = Value.bool t62) fun t62 => ∀ gs70 : Fr,
R (.returned (Value.bool t62)) H58) (
Bin .num .neq v45 (Value.int .i64 0) fun v71 =>
Grp v71 false (fun t72 =>
Un .not v59 fun v73 =>
(H58 = H58 ∧ v73 = Value.bool t72)) (fun t72 => (Value.bool true) = Value.bool t72) fun t72 => ∀ gs74 : Fr,
Br (Value.bool t72) (
R (.returned (Value.bool false)) H58) (
LdA 2 H58 (pt b38) fun v75 =>
CF g 125 #[a0, v44, v75] H58 (fun v76 H77 =>
R (.returned (Value.bool true)) H77) (PanR R)))) NoKP) NoKP)) (PanR R)) (PanR R)) (PanR R)) (PanR R)) (PanR R)
theorem L75_sound (h : L75 g a0 a1 H R) : SCalls Tryz.prog g 75 #[a0, a1] H R :=
 soundF (hn := (.n .e (.n .e (.n .e (.n .e (.n .e (.n .e (.n .e (.n (.h 0 [0, 1, 5, 6, 7, 8, 2, 3, 4, 9, 10, 11] [] .e .e) (.n (.n .e (.n (.n (.h 0 [] [1] .e .e) .e) .e)) (.n (.n (.h 0 [] [1] .e .e) .e) .e))))))))))) Tryz.func75 h (by kernel_rfl)
def L77 (g : Gh) (a0 a1 : Value) (H : Hp) (R : Rt) : Prop :=
BuildSl Tryz.prog 49 0 [] H fun v1 H2 =>
Nil a0 fun v3 =>
FAddr 3 v3 fun v4 =>
Ld H2 v4 fun v5 =>
App Tryz.prog 55 2 32 (.agg #[(Value.int .i64 0), (.slice none 0 0)]) H2 v1 v5 fun v8 H9 =>
App Tryz.prog 55 2 32 (.agg #[(Value.int .i64 0), (.slice none 0 0)]) H9 v8 a1 fun v12 H13 =>
Nil a0 fun v14 =>
FAddr 0 v14 fun v15 =>
Ld H13 v15 fun v16 =>
CF g 13 #[v16] H13 (fun v17 H18 =>
CF g 130 #[v12, v17] H18 (fun v19 H20 =>
Ext 0 v19 fun v21 =>
Ext 1 v19 fun v22 =>
Bin .num .neq v22 (Value.int .i64 0) fun v23 =>
Br v23 (
R (.returned (Value.int .i64 (-1))) H20) (
R (.returned v21) H20)) (PanR R)) (PanR R)
theorem L77_sound (h : L77 g a0 a1 H R) : SCalls Tryz.prog g 77 #[a0, a1] H R :=
 soundF (hn := .e) Tryz.func77 h (by kernel_rfl)
def L78 (g : Gh) (a0 : Value) (H : Hp) (R : Rt) : Prop :=
Bin .ptr .eql a0 (.pointer none) fun v1 =>
Br v1 (
R (.returned (Value.int .i64 0)) H) (
Nil a0 fun v2 =>
FAddr 0 v2 fun v3 =>
FAddr 0 v3 fun v4 =>
Ld H v4 fun v5 =>
CF g 100 #[v5] H (fun v6 H7 =>
R (.returned v6) H7) (PanR R))
theorem L78_sound (h : L78 g a0 H R) : SCalls Tryz.prog g 78 #[a0] H R :=
 soundF (hn := .e) Tryz.func78 h (by kernel_rfl)
def L79 (g : Gh) (a0 a1 a2 a3 : Value) (H : Hp) (R : Rt) : Prop :=
New H (.cells (Value.cells a2) 55 (0, 0)) fun b1 H2 =>
Bin .num .eql a3 (Value.int .i64 0) fun v3 =>
Br v3 (
R (.returned (Value.bool false)) H2) (
Nil a0 fun v4 =>
FAddr 0 v4 fun v5 =>
Ld H2 v5 fun v6 =>
CF g 60 #[v6, a1] H2 (fun v7 H8 =>
Ext 0 v7 fun v9 =>
Ext 1 v7 fun v10 =>
New H8 (.cells #[(Value.int .i64 0), (Value.int .u32 0), (Value.int .u32 0)] 103 (0, 0)) fun b11 H12 =>
St 3 H12 (pt b11) v9 fun H13 =>
Bin .num .neq v10 (Value.int .i64 0) fun v14 =>
Br v14 (
R (.returned (Value.bool false)) H13) (
Bin .num .lss a1 (Value.int .u32 2) fun v15 =>
Br v15 (
Nil a0 fun v16 =>
FAddr 1 v16 fun v17 =>
Ld H13 v17 fun v18 =>
Bin .num .eql a1 (Value.int .u32 1) fun v19 =>
CF g 131 #[v18, v19] H13 (fun v20 H21 =>
Ext 0 v20 fun v22 =>
Ext 1 v20 fun v23 =>
New H21 (.cells #[(Value.int .i64 0), (.slice none 0 0)] 55 (0, 0)) fun b24 H25 =>
St 2 H25 (pt b24) v22 fun H26 =>
∀ J27 : Jt, (∀ w30 : Value, ∀ H29 : Hp, (∀ gs28 : Fr,
R (.returned w30) H29) → J27 [w30] H29) →
Bin .num .eql v23 (Value.int .i64 0) fun v31 =>
Split v31 true (
FAddr 0 (pt b11) fun v32 =>
Ld H26 v32 fun v33 =>
Bin .num .eql v33 (Value.int .i64 (-1)) fun v34 =>
Pick (Value.bool true) v34 (Value.bool false) fun v35 =>
Split v35 true (
LdA 2 H26 (pt b24) fun v36 =>
LdA 2 H26 (pt b1) fun v37 =>
CF g 80 #[v36, v37] H26 (fun v38 H39 =>
Pick (Value.bool true) v38 (Value.bool false) fun v40 =>
JE J27 [v40] H39) (PanR R)) (
Pick (Value.bool false) undef (Value.bool false) fun v41 =>
JE J27 [v41] H26)) (
Pick (Value.bool false) undef (Value.bool false) fun v42 =>
Pick v42 undef (Value.bool false) fun v43 =>
JE J27 [v43] H26)) (PanR R)) (
DR H13 fun R44 =>
Nil a0 fun v45 =>
FAddr 0 v45 fun v46 =>
Ld R44 v46 fun v47 =>
FAddr 0 (pt b11) fun v48 =>
Ld R44 v48 fun v49 =>
CF g 42 #[v47, v49] H13 (fun v50 H51 =>
Ent H51 R44 ∧
Ext 0 v50 fun v52 =>
Ext 1 v50 fun v53 =>
LdA 2 H51 (pt b1) fun v54 =>
FAddr 0 (pt b11) fun v55 =>
Ld H51 v55 fun v56 =>
CF g 132 #[v54, v56, (Value.bool false)] H51 (fun v57 H58 =>
Ext 0 v57 fun v59 =>
Ext 1 v57 fun v60 =>
New H58 (.cells #[(Value.int .i64 0), (.slice none 0 0)] 55 (0, 0)) fun b61 H62 =>
St 2 H62 (pt b61) v59 fun H63 =>
LdA 2 H63 (pt b1) fun v64 =>
FAddr 0 (pt b11) fun v65 =>
Ld H63 v65 fun v66 =>
CF g 132 #[v64, v66, (Value.bool true)] H63 (fun v67 H68 =>
Ext 0 v67 fun v69 =>
Ext 1 v67 fun v70 =>
New H68 (.cells #[(Value.int .i64 0), (.slice none 0 0)] 55 (0, 0)) fun b71 H72 =>
St 2 H72 (pt b71) v69 fun H73 =>
∀ J74 : Jt, (∀ w77 : Value, ∀ H76 : Hp, (∀ gs75 : Fr,
Br w77 (
R (.returned (Value.bool false)) H76) (
∀ J78 : Jt, (∀ w81 : Value, ∀ H80 : Hp, (∀ gs79 : Fr,
R (.returned w81) H80) → J78 [w81] H80) →
FAddr 1 (pt b11) fun v82 =>
Ld H76 v82 fun v83 =>
LdA 2 H76 (pt b61) fun v84 =>
Bin .num .sub a3 (Value.int .i64 1) fun v85 =>
CF g 79 #[a0, v83, v84, v85] H76 (fun v86 H87 =>
Split v86 true (
FAddr 2 (pt b11) fun v88 =>
Ld H87 v88 fun v89 =>
LdA 2 H87 (pt b71) fun v90 =>
Bin .num .sub a3 (Value.int .i64 1) fun v91 =>
CF g 79 #[a0, v89, v90, v91] H87 (fun v92 H93 =>
Pick (Value.bool true) v92 (Value.bool false) fun v94 =>
JE J78 [v94] H93) (PanR R)) (
Pick (Value.bool false) undef (Value.bool false) fun v95 =>
JE J78 [v95] H87)) (PanR R))) → J74 [w77] H76) →
Bin .num .neq v53 (Value.int .i64 0) fun v96 =>
Split v96 false (
Bin .num .neq v60 (Value.int .i64 0) fun v97 =>
Pick (Value.bool false) (Value.bool true) v97 fun v98 =>
Split v98 false (
Bin .num .neq v70 (Value.int .i64 0) fun v99 =>
Pick (Value.bool false) (Value.bool true) v99 fun v100 =>
Split v100 false (
FAddr 1 (pt b11) fun v101 =>
Ld H73 v101 fun v102 =>
FAddr 2 (pt b11) fun v103 =>
Ld H73 v103 fun v104 =>
Bin .num .eql v102 v104 fun v105 =>
Pick (Value.bool false) (Value.bool true) v105 fun v106 =>
Split v106 false (
FAddr 1 (pt b11) fun v107 =>
Ld H73 v107 fun v108 =>
CF g 133 #[a0, v108, v52] H73 (fun v109 H110 =>
Un .not v109 fun v111 =>
Pick (Value.bool false) (Value.bool true) v111 fun v112 =>
Split v112 false (
FAddr 2 (pt b11) fun v113 =>
Ld H110 v113 fun v114 =>
CF g 133 #[a0, v114, v52] H110 (fun v115 H116 =>
Un .not v115 fun v117 =>
Pick (Value.bool false) (Value.bool true) v117 fun v118 =>
JE J74 [v118] H116) (PanR R)) (
Pick (Value.bool true) (Value.bool true) undef fun v119 =>
JE J74 [v119] H110)) (PanR R)) (
Pick (Value.bool true) (Value.bool true) undef fun v120 =>
Pick v120 (Value.bool true) undef fun v121 =>
JE J74 [v121] H73)) (
Pick (Value.bool true) (Value.bool true) undef fun v122 =>
Pick v122 (Value.bool true) undef fun v123 =>
Pick v123 (Value.bool true) undef fun v124 =>
JE J74 [v124] H73)) (
Pick (Value.bool true) (Value.bool true) undef fun v125 =>
Pick v125 (Value.bool true) undef fun v126 =>
Pick v126 (Value.bool true) undef fun v127 =>
Pick v127 (Value.bool true) undef fun v128 =>
JE J74 [v128] H73)) (
Pick (Value.bool true) (Value.bool true) undef fun v129 =>
Pick v129 (Value.bool true) undef fun v130 =>
Pick v130 (Value.bool true) undef fun v131 =>
Pick v131 (Value.bool true) undef fun v132 =>
Pick v132 (Value.bool true) undef fun v133 =>
JE J74 [v133] H73)) (PanR R)) (PanR R)) NoKP))) (PanR R))
theorem L79_sound (h : L79 g a0 a1 a2 a3 H R) : SCalls Tryz.prog g 79 #[a0, a1, a2, a3] H R :=
 soundF (hn := (.n .e (.n .e (.n .e (.n .e (.n (.n .e (.n (.n .e (.h 1 [8] [] .e .e)) .e)) (.n (.h 0 (List.range 12) [] .e .e) (.n .e (.n .e (.n (.h 1 [112] [0, 3, 9, 15, 17] .e .e) (.h 1 [8] [] .e .e))))))))))) Tryz.func79 h (by kernel_rfl)
def L80 (g : Gh) (a0 a1 : Value) (H : Hp) (R : Rt) : Prop :=
New H (.cells (Value.cells a0) 55 (0, 0)) fun b1 H2 =>
New H2 (.cells (Value.cells a1) 55 (0, 0)) fun b3 H4 =>
FAddr 0 (pt b1) fun v5 =>
Ld H4 v5 fun v6 =>
FAddr 0 (pt b3) fun v7 =>
Ld H4 v7 fun v8 =>
Bin .num .neq v6 v8 fun v9 =>
Grp v9 false (fun t10 =>
FAddr 1 (pt b1) fun v11 =>
Ld H4 v11 fun v12 =>
LenS v12 fun v13 =>
FAddr 1 (pt b3) fun v14 =>
Ld H4 v14 fun v15 =>
LenS v15 fun v16 =>
Bin .num .neq v13 v16 fun v17 =>
(H4 = H4 ∧ v17 = Value.bool t10)) (fun t10 => (Value.bool true) = Value.bool t10) fun t10 => ∀ gs18 : Fr,
Br (Value.bool t10) (
R (.returned (Value.bool false)) H4) (
∃ (I19 : Jt) (m20 : Mt), JE I19 [(Value.int .i64 0)] H4 ∧ ∀ w23 : Value, ∀ H22 : Hp, I19 [w23] H22 → ∀ gs21 : Fr,
FAddr 1 (pt b1) fun v24 =>
Ld H22 v24 fun v25 =>
LenS v25 fun v26 =>
Bin .num .lss w23 v26 fun v27 =>
Br v27 (
FAddr 1 (pt b1) fun v28 =>
Ld H22 v28 fun v29 =>
IAddr 1 v29 w23 fun v30 =>
Ld H22 v30 fun v31 =>
FAddr 1 (pt b3) fun v32 =>
Ld H22 v32 fun v33 =>
IAddr 1 v33 w23 fun v34 =>
Ld H22 v34 fun v35 =>
Bin .num .neq v31 v35 fun v36 =>
Br v36 (
R (.returned (Value.bool false)) H22) (
Bin .num .add w23 (Value.int .i64 1) fun v37 =>
Back I19 m20 [v37] H22 [w23] H22)) (
R (.returned (Value.bool true)) H22))
theorem L80_sound (h : L80 g a0 a1 H R) : SCalls Tryz.prog g 80 #[a0, a1] H R :=
 soundF (hn := (.n .e (.n (.n (.h 0 [] [1] .e .e) .e) (.n (.n .e (.n (.h 0 [5] [2, 3] .e .e) .e)) .e)))) Tryz.func80 h (by kernel_rfl)
def L122 (g : Gh) (a0 a1 : Value) (H : Hp) (R : Rt) : Prop :=
New H (.cells #[(Value.int .i64 0), (.slice none 0 0)] 55 (0, 0)) fun b1 H2 =>
ConvI .i64 a1 fun v3 =>
Nil a0 fun v4 =>
FAddr 2 v4 fun v5 =>
Ld H2 v5 fun v6 =>
LenS v6 fun v7 =>
Bin .num .add v7 (Value.int .i64 2) fun v8 =>
Bin .num .rem v3 v8 fun v9 =>
Bin .num .lss v9 (Value.int .i64 2) fun v10 =>
Br v10 (
Nil a0 fun v11 =>
FAddr 1 v11 fun v12 =>
Ld H2 v12 fun v13 =>
Bin .num .eql v9 (Value.int .i64 1) fun v14 =>
CF g 131 #[v13, v14] H2 (fun v15 H16 =>
Ext 0 v15 fun v17 =>
Ext 1 v15 fun v18 =>
New H16 (.cells #[(Value.int .i64 0), (.slice none 0 0)] 55 (0, 0)) fun b19 H20 =>
St 2 H20 (pt b19) v17 fun H21 =>
DR H21 fun R22 =>
ConvI .u32 v9 fun v23 =>
LdA 2 R22 (pt b19) fun v24 =>
St 2 H21 (pt b1) v24 fun H25 =>
LdA 2 H25 (pt b1) fun v26 =>
R (.returned (.tuple #[v23, v26])) H25) (PanR R)) (
DR H2 fun R27 =>
Nil a0 fun v28 =>
FAddr 2 v28 fun v29 =>
Ld R27 v29 fun v30 =>
Bin .num .sub v9 (Value.int .i64 2) fun v31 =>
IAddr 1 v30 v31 fun v32 =>
Ld R27 v32 fun v33 =>
Nil a0 fun v34 =>
FAddr 3 v34 fun v35 =>
Ld R27 v35 fun v36 =>
Bin .num .sub v9 (Value.int .i64 2) fun v37 =>
IAddr 2 v36 v37 fun v38 =>
LdA 2 R27 v38 fun v39 =>
St 2 H2 (pt b1) v39 fun H40 =>
LdA 2 H40 (pt b1) fun v41 =>
R (.returned (.tuple #[v33, v41])) H40)
theorem L122_sound (h : L122 g a0 a1 H R) : SCalls Tryz.prog g 122 #[a0, a1] H R :=
 soundF (hn := (.n .e (.n .e (.n (.n .e (.n (.n .e (.n (.h 0 (List.range 5) [] .e .e) .e)) .e)) (.n (.h 0 (List.range 18) [] .e .e) .e))))) Tryz.func122 h (by kernel_rfl)
def L123 (g : Gh) (a0 a1 a2 a3 a4 : Value) (H : Hp) (R : Rt) : Prop :=
New H (.cells (Value.cells a1) 134 (0, 0)) fun b1 H2 =>
New H2 (.cells (Value.cells a2) 55 (0, 0)) fun b3 H4 =>
New H4 (.cells (Value.cells a3) 55 (0, 0)) fun b5 H6 =>
New H6 (.cells (Value.cells a4) 55 (0, 0)) fun b7 H8 =>
New H8 (.cells #[(Value.int .i64 0), (.slice none 0 0)] 55 (0, 0)) fun b9 H10 =>
FAddr 1 (pt b1) fun v11 =>
Ld H10 v11 fun v12 =>
ConvI .i64 v12 fun v13 =>
Nil a0 fun v14 =>
FAddr 1 v14 fun v15 =>
Ld H10 v15 fun v16 =>
Bin .num .rem v13 v16 fun v17 =>
Nil a0 fun v18 =>
FAddr 1 v18 fun v19 =>
Ld H10 v19 fun v20 =>
CF g 146 #[v20, v17] H10 (fun v21 H22 =>
Ext 0 v21 fun v23 =>
Ext 1 v21 fun v24 =>
New H22 (.cells #[(Value.int .i64 0), (.slice none 0 0)] 55 (0, 0)) fun b25 H26 =>
St 2 H26 (pt b25) v23 fun H27 =>
LdA 2 H27 (pt b3) fun v28 =>
CF g 132 #[v28, v17, (Value.bool false)] H27 (fun v29 H30 =>
Ext 0 v29 fun v31 =>
Ext 1 v29 fun v32 =>
New H30 (.cells #[(Value.int .i64 0), (.slice none 0 0)] 55 (0, 0)) fun b33 H34 =>
St 2 H34 (pt b33) v31 fun H35 =>
LdA 2 H35 (pt b3) fun v36 =>
CF g 132 #[v36, v17, (Value.bool true)] H35 (fun v37 H38 =>
Ext 0 v37 fun v39 =>
Ext 1 v37 fun v40 =>
New H38 (.cells #[(Value.int .i64 0), (.slice none 0 0)] 55 (0, 0)) fun b41 H42 =>
St 2 H42 (pt b41) v39 fun H43 =>
FAddr 0 (pt b1) fun v44 =>
Ld H43 v44 fun v45 =>
Bin .num .rem v45 (Value.int .u8 9) fun v46 =>
Bin .num .eql v46 (Value.int .u8 0) fun v47 =>
Br v47 (
LdA 2 H43 (pt b25) fun v48 =>
St 2 H43 (pt b9) v48 fun H49 =>
LdA 2 H49 (pt b9) fun v50 =>
R (.returned (.tuple #[v50, (Value.int .i64 0)])) H49) (
Bin .num .eql v46 (Value.int .u8 1) fun v51 =>
Br v51 (
LdA 2 H43 (pt b3) fun v52 =>
CF g 147 #[v52] H43 (fun v53 H54 =>
Ext 0 v53 fun v55 =>
Ext 1 v53 fun v56 =>
St 2 H54 (pt b9) v55 fun H57 =>
LdA 2 H57 (pt b9) fun v58 =>
R (.returned (.tuple #[v58, v56])) H57) (PanR R)) (
∀ J59 : Jt, (∀ w62 : Value, ∀ H61 : Hp, (∀ gs60 : Fr,
Br w62 (
FAddr 5 (pt b1) fun v63 =>
Ld H61 v63 fun v64 =>
Bin .num .rem v64 (Value.int .u64 16) fun v65 =>
ConvI .u8 v65 fun v66 =>
LdA 2 H61 (pt b3) fun v67 =>
LdA 2 H61 (pt b5) fun v68 =>
CF g 148 #[v66, v67, v68] H61 (fun v69 H70 =>
Ext 0 v69 fun v71 =>
Ext 1 v69 fun v72 =>
St 2 H70 (pt b9) v71 fun H73 =>
LdA 2 H73 (pt b9) fun v74 =>
R (.returned (.tuple #[v74, v72])) H73) (PanR R)) (
Bin .num .eql v46 (Value.int .u8 4) fun v75 =>
Br v75 (
LdA 2 H61 (pt b3) fun v76 =>
LdA 2 H61 (pt b5) fun v77 =>
LdA 2 H61 (pt b7) fun v78 =>
CF g 149 #[v76, v77, v78] H61 (fun v79 H80 =>
Ext 0 v79 fun v81 =>
Ext 1 v79 fun v82 =>
St 2 H80 (pt b9) v81 fun H83 =>
LdA 2 H83 (pt b9) fun v84 =>
R (.returned (.tuple #[v84, v82])) H83) (PanR R)) (
Bin .num .eql v46 (Value.int .u8 5) fun v85 =>
Br v85 (
LdA 2 H61 (pt b3) fun v86 =>
FAddr 5 (pt b1) fun v87 =>
Ld H61 v87 fun v88 =>
Bin .num .rem v88 (Value.int .u64 2) fun v89 =>
Bin .num .eql v89 (Value.int .u64 1) fun v90 =>
CF g 132 #[v86, v17, v90] H61 (fun v91 H92 =>
Ext 0 v91 fun v93 =>
Ext 1 v91 fun v94 =>
St 2 H92 (pt b9) v93 fun H95 =>
LdA 2 H95 (pt b9) fun v96 =>
R (.returned (.tuple #[v96, v94])) H95) (PanR R)) (
Bin .num .eql v46 (Value.int .u8 6) fun v97 =>
Br v97 (
LdA 2 H61 (pt b33) fun v98 =>
LdA 2 H61 (pt b41) fun v99 =>
CF g 148 #[(Value.int .u8 14), v98, v99] H61 (fun v100 H101 =>
Ext 0 v100 fun v102 =>
Ext 1 v100 fun v103 =>
St 2 H101 (pt b9) v102 fun H104 =>
LdA 2 H104 (pt b9) fun v105 =>
R (.returned (.tuple #[v105, v103])) H104) (PanR R)) (
Bin .num .eql v46 (Value.int .u8 7) fun v106 =>
Br v106 (
LdA 2 H61 (pt b33) fun v107 =>
LdA 2 H61 (pt b41) fun v108 =>
CF g 148 #[(Value.int .u8 8), v107, v108] H61 (fun v109 H110 =>
Ext 0 v109 fun v111 =>
Ext 1 v109 fun v112 =>
St 2 H110 (pt b9) v111 fun H113 =>
LdA 2 H113 (pt b9) fun v114 =>
R (.returned (.tuple #[v114, v112])) H113) (PanR R)) (
LdA 2 H61 (pt b5) fun v115 =>
LdA 2 H61 (pt b41) fun v116 =>
LdA 2 H61 (pt b33) fun v117 =>
CF g 149 #[v115, v116, v117] H61 (fun v118 H119 =>
Ext 0 v118 fun v120 =>
Ext 1 v118 fun v121 =>
St 2 H119 (pt b9) v120 fun H122 =>
LdA 2 H122 (pt b9) fun v123 =>
R (.returned (.tuple #[v123, v121])) H122) (PanR R))))))) → J59 [w62] H61) →
Bin .num .eql v46 (Value.int .u8 2) fun v124 =>
Br v124 (
JE J59 [v124] H43) (
Bin .num .eql v46 (Value.int .u8 3) fun v125 =>
JE J59 [v125] H43)))) (PanR R)) (PanR R)) (PanR R)
theorem L123_sound (h : L123 g a0 a1 a2 a3 a4 H R) : SCalls Tryz.prog g 123 #[a0, a1, a2, a3, a4] H R :=
 soundF (hn := (.n .e (.n .e (.n .e (.n .e (.n .e (.n (.n .e (.n (.n .e (.n .e (.n .e (.n .e (.h 1 [60] [6, 7, 8, 9, 10, 12, 15, 17, 50] .e .e))))) .e)) .e))))))) Tryz.func123 h (by kernel_rfl)
def L124 (g : Gh) (a0 a1 a2 a3 a4 : Value) (H : Hp) (R : Rt) : Prop :=
New H (.cells (Value.cells a1) 134 (0, 0)) fun b1 H2 =>
FAddr 1 (pt b1) fun v3 =>
Ld H2 v3 fun v4 =>
ConvI .i64 v4 fun v5 =>
Nil a0 fun v6 =>
FAddr 1 v6 fun v7 =>
Ld H2 v7 fun v8 =>
Bin .num .rem v5 v8 fun v9 =>
FAddr 0 (pt b1) fun v10 =>
Ld H2 v10 fun v11 =>
Bin .num .rem v11 (Value.int .u8 9) fun v12 =>
Bin .num .eql v12 (Value.int .u8 0) fun v13 =>
Br v13 (
Nil a0 fun v14 =>
FAddr 0 v14 fun v15 =>
Ld H2 v15 fun v16 =>
CF g 150 #[v16, v9] H2 (fun v17 H18 =>
Ext 0 v17 fun v19 =>
Ext 1 v17 fun v20 =>
R (.returned (.tuple #[v19, v20])) H18) (PanR R)) (
Bin .num .eql v12 (Value.int .u8 1) fun v21 =>
Br v21 (
Nil a0 fun v22 =>
FAddr 0 v22 fun v23 =>
Ld H2 v23 fun v24 =>
CF g 151 #[v24, a2] H2 (fun v25 H26 =>
Ext 0 v25 fun v27 =>
Ext 1 v25 fun v28 =>
R (.returned (.tuple #[v27, v28])) H26) (PanR R)) (
∀ J29 : Jt, (∀ w32 : Value, ∀ H31 : Hp, (∀ gs30 : Fr,
Br w32 (
DR H31 fun R33 =>
Nil a0 fun v34 =>
FAddr 0 v34 fun v35 =>
Ld R33 v35 fun v36 =>
FAddr 5 (pt b1) fun v37 =>
Ld R33 v37 fun v38 =>
Bin .num .rem v38 (Value.int .u64 16) fun v39 =>
ConvI .u8 v39 fun v40 =>
CF g 152 #[v36, v40, a2, a3] H31 (fun v41 H42 =>
Ent H42 R33 ∧
Ext 0 v41 fun v43 =>
Ext 1 v41 fun v44 =>
R (.returned (.tuple #[v43, v44])) H42) NoKP) (
Bin .num .eql v12 (Value.int .u8 4) fun v45 =>
Br v45 (
Nil a0 fun v46 =>
FAddr 0 v46 fun v47 =>
Ld H31 v47 fun v48 =>
CF g 153 #[v48, a2, a3, a4] H31 (fun v49 H50 =>
Ext 0 v49 fun v51 =>
Ext 1 v49 fun v52 =>
R (.returned (.tuple #[v51, v52])) H50) (PanR R)) (
Bin .num .eql v12 (Value.int .u8 5) fun v53 =>
Br v53 (
DR H31 fun R54 =>
Nil a0 fun v55 =>
FAddr 0 v55 fun v56 =>
Ld R54 v56 fun v57 =>
FAddr 5 (pt b1) fun v58 =>
Ld R54 v58 fun v59 =>
Bin .num .rem v59 (Value.int .u64 2) fun v60 =>
Bin .num .eql v60 (Value.int .u64 1) fun v61 =>
CF g 154 #[v57, a2, v9, v61] H31 (fun v62 H63 =>
Ent H63 R54 ∧
Ext 0 v62 fun v64 =>
Ext 1 v62 fun v65 =>
R (.returned (.tuple #[v64, v65])) H63) NoKP) (
Bin .num .eql v12 (Value.int .u8 6) fun v66 =>
Br v66 (
DR H31 fun R67 =>
Nil a0 fun v68 =>
FAddr 0 v68 fun v69 =>
Ld R67 v69 fun v70 =>
Bin .num .shl (Value.int .u64 1) v9 fun v71 =>
CF g 155 #[v70, a2, v71] H31 (fun v72 H73 =>
Ent H73 R67 ∧
Ext 0 v72 fun v74 =>
Ext 1 v72 fun v75 =>
R (.returned (.tuple #[v74, v75])) H73) NoKP) (
Bin .num .eql v12 (Value.int .u8 7) fun v76 =>
Br v76 (
DR H31 fun R77 =>
Nil a0 fun v78 =>
FAddr 0 v78 fun v79 =>
Ld R77 v79 fun v80 =>
Bin .num .shl (Value.int .u64 1) v9 fun v81 =>
CF g 156 #[v80, a2, v81] H31 (fun v82 H83 =>
Ent H83 R77 ∧
Ext 0 v82 fun v84 =>
Ext 1 v82 fun v85 =>
R (.returned (.tuple #[v84, v85])) H83) NoKP) (
Nil a0 fun v86 =>
FAddr 0 v86 fun v87 =>
Ld H31 v87 fun v88 =>
CF g 157 #[v88, a2, v9, a3] H31 (fun v89 H90 =>
Ext 0 v89 fun v91 =>
Ext 1 v89 fun v92 =>
R (.returned (.tuple #[v91, v92])) H90) (PanR R))))))) → J29 [w32] H31) →
Bin .num .eql v12 (Value.int .u8 2) fun v93 =>
Br v93 (
JE J29 [v93] H2) (
Bin .num .eql v12 (Value.int .u8 3) fun v94 =>
JE J29 [v94] H2)))
theorem L124_sound (h : L124 g a0 a1 a2 a3 a4 H R) : SCalls Tryz.prog g 124 #[a0, a1, a2, a3, a4] H R :=
 soundF (hn := (.n .e (.n .e (.n (.n .e (.n (.n .e (.n .e (.n .e (.n .e (.h 1 [44] [0, 2, 3, 4, 6, 12, 23] .e (.n (.n (.h 0 (List.range 15) [] .e .e) .e) (.n .e (.n .e (.n .e (.n (.n (.h 0 (List.range 15) [] .e .e) .e) (.n .e (.n (.n (.h 0 (List.range 12) [] .e .e) .e) (.n .e (.n (.n (.h 0 (List.range 12) [] .e .e) .e) .e)))))))))))))) .e)) .e)))) Tryz.func124 h (by kernel_rfl)
def L125 (g : Gh) (a0 a1 a2 : Value) (H : Hp) (R : Rt) : Prop :=
New H (.cells (Value.cells a2) 55 (0, 0)) fun b1 H2 =>
Bin .num .gtr a1 (Value.int .u32 1) fun v3 =>
Br v3 (
Nil a0 fun v4 =>
FAddr 2 v4 fun v5 =>
Ld H2 v5 fun v6 =>
BuildSl Tryz.prog 48 1 [(0, a1)] H2 fun v7 H8 =>
App Tryz.prog 31 1 4 (Value.int .u32 0) H8 v6 v7 fun v11 H12 =>
Nil a0 fun v13 =>
FAddr 2 v13 fun v14 =>
St 1 H12 v14 v11 fun H15 =>
DR H15 fun R16 =>
Nil a0 fun v17 =>
FAddr 3 v17 fun v18 =>
Ld R16 v18 fun v19 =>
LdA 2 R16 (pt b1) fun v20 =>
BuildSl Tryz.prog 49 1 [(0, v20)] H15 fun v21 H22 =>
Ent H22 R16 ∧
App Tryz.prog 55 2 32 (.agg #[(Value.int .i64 0), (.slice none 0 0)]) H22 v19 v21 fun v25 H26 =>
Ent H26 R16 ∧
Nil a0 fun v27 =>
FAddr 3 v27 fun v28 =>
St 1 H26 v28 v25 fun H29 =>
R (.returned (.tuple #[])) H29) (
R (.returned (.tuple #[])) H2)
theorem L125_sound (h : L125 g a0 a1 a2 H R) : SCalls Tryz.prog g 125 #[a0, a1, a2] H R :=
 soundF (hn := (.n .e (.n .e (.n (.n .e (.h 0 (List.range 11) [] .e .e)) .e)))) Tryz.func125 h (by kernel_rfl)
def L130 (g : Gh) (a0 a1 : Value) (H : Hp) (R : Rt) : Prop :=
CF g 160 #[a0, a1] H (fun v1 H2 =>
Ext 0 v1 fun v3 =>
Ext 1 v1 fun v4 =>
LenS v3 fun v5 =>
∃ (I6 : Jt) (m7 : Mt), JE I6 [(Value.int .i64 0), (Value.int .i64 0)] H2 ∧ ∀ w10 w11 : Value, ∀ H9 : Hp, I6 [w10, w11] H9 → ∀ gs8 : Fr,
Bin .num .lss w11 v5 fun v12 =>
Br v12 (
IAddr 1 v3 w11 fun v13 =>
Ld H9 v13 fun v14 =>
Bin .num .add w10 v14 fun v15 =>
Bin .num .add w11 (Value.int .i64 1) fun v16 =>
Back I6 m7 [v15, v16] H9 [w10, w11] H9) (
R (.returned (.tuple #[w10, v4])) H9)) (PanR R)
theorem L130_sound (h : L130 g a0 a1 H R) : SCalls Tryz.prog g 130 #[a0, a1] H R :=
 soundF (hn := (.n .e (.n .e (.n .e (.n (.n .e (.n (.h 0 [8, 19] [7, 17, 18] .e .e) .e)) .e))))) Tryz.func130 h (by kernel_rfl)
def L131 (g : Gh) (a0 a1 : Value) (H : Hp) (R : Rt) : Prop :=
New H (.cells (Value.cells a1) 4 (0, 0)) fun b1 H2 =>
New H2 (.cells #[(Value.int .i64 0), (.slice none 0 0)] 55 (0, 0)) fun b3 H4 =>
CF g 161 #[a0] H4 (fun v5 H6 =>
Bin .num .neq v5 (Value.int .i64 0) fun v7 =>
Br v7 (
Build Tryz.prog 55 [] fun v8 =>
St 2 H6 (pt b3) v8 fun H9 =>
LdA 2 H9 (pt b3) fun v10 =>
R (.returned (.tuple #[v10, v5])) H9) (
CF g 162 #[a0, (.func (.func 163) #[] #[(pt b1)])] H6 (fun v11 H12 =>
St 2 H12 (pt b3) v11 fun H13 =>
LdA 2 H13 (pt b3) fun v14 =>
R (.returned (.tuple #[v14, (Value.int .i64 0)])) H13) (PanR R))) (PanR R)
theorem L131_sound (h : L131 g a0 a1 H R) : SCalls Tryz.prog g 131 #[a0, a1] H R :=
 soundF (hn := .e) Tryz.func131 h (by kernel_rfl)
def L132 (g : Gh) (a0 a1 a2 : Value) (H : Hp) (R : Rt) : Prop :=
New H (.cells (Value.cells a0) 55 (0, 0)) fun b1 H2 =>
New H2 (.cells #[(Value.int .i64 0), (.slice none 0 0)] 55 (0, 0)) fun b3 H4 =>
LdA 2 H4 (pt b1) fun v5 =>
CF g 164 #[v5, a1] H4 (fun v6 H7 =>
Bin .num .neq v6 (Value.int .i64 0) fun v8 =>
Br v8 (
Build Tryz.prog 55 [] fun v9 =>
St 2 H7 (pt b3) v9 fun H10 =>
LdA 2 H10 (pt b3) fun v11 =>
R (.returned (.tuple #[v11, v6])) H10) (
LdA 2 H7 (pt b1) fun v12 =>
CF g 165 #[v12, a1, a2] H7 (fun v13 H14 =>
St 2 H14 (pt b3) v13 fun H15 =>
LdA 2 H15 (pt b3) fun v16 =>
R (.returned (.tuple #[v16, (Value.int .i64 0)])) H15) (PanR R))) (PanR R)
theorem L132_sound (h : L132 g a0 a1 a2 H R) : SCalls Tryz.prog g 132 #[a0, a1, a2] H R :=
 soundF (hn := .e) Tryz.func132 h (by kernel_rfl)
def L133 (g : Gh) (a0 a1 a2 : Value) (H : Hp) (R : Rt) : Prop :=
Nil a0 fun v1 =>
FAddr 0 v1 fun v2 =>
Ld H v2 fun v3 =>
CF g 60 #[v3, a1] H (fun v4 H5 =>
Ext 0 v4 fun v6 =>
Ext 1 v4 fun v7 =>
New H5 (.cells #[(Value.int .i64 0), (Value.int .u32 0), (Value.int .u32 0)] 103 (0, 0)) fun b8 H9 =>
St 3 H9 (pt b8) v6 fun H10 =>
Bin .num .neq v7 (Value.int .i64 0) fun v11 =>
Grp v11 false (fun t12 =>
Bin .num .lss a1 (Value.int .u32 2) fun v13 =>
(H10 = H10 ∧ v13 = Value.bool t12)) (fun t12 => (Value.bool true) = Value.bool t12) fun t12 => ∀ gs14 : Fr,
Br (Value.bool t12) (
Bin .num .eql v7 (Value.int .i64 0) fun v15 =>
R (.returned v15) H10) (
DR H10 fun R16 =>
Nil a0 fun v17 =>
FAddr 0 v17 fun v18 =>
Ld R16 v18 fun v19 =>
FAddr 0 (pt b8) fun v20 =>
Ld R16 v20 fun v21 =>
CF g 42 #[v19, v21] H10 (fun v22 H23 =>
Ent H23 R16 ∧
Ext 0 v22 fun v24 =>
Ext 1 v22 fun v25 =>
Bin .num .eql v25 (Value.int .i64 0) fun v26 =>
Grp v26 true (fun t27 =>
Bin .num .gtr v24 a2 fun v28 =>
(H23 = H23 ∧ v28 = Value.bool t27)) (fun t27 => (Value.bool false) = Value.bool t27) fun t27 => ∀ gs29 : Fr,
R (.returned (Value.bool t27)) H23) NoKP)) (PanR R)
theorem L133_sound (h : L133 g a0 a1 a2 H R) : SCalls Tryz.prog g 133 #[a0, a1, a2] H R :=
 soundF (hn := (.n .e (.n .e (.n (.n (.h 0 [] [1] .e .e) .e) (.n (.h 0 (List.range 12) [] .e .e) (.n (.h 0 [] [1] .e .e) .e)))))) Tryz.func133 h (by kernel_rfl)
def L146 (g : Gh) (a0 a1 : Value) (H : Hp) (R : Rt) : Prop :=
New H (.cells (Value.cells a1) 3 (0, 0)) fun b1 H2 =>
New H2 (.cells #[(Value.int .i64 0), (.slice none 0 0)] 55 (0, 0)) fun b3 H4 =>
CF g 161 #[a0] H4 (fun v5 H6 =>
Bin .num .neq v5 (Value.int .i64 0) fun v7 =>
Br v7 (
Build Tryz.prog 55 [] fun v8 =>
St 2 H6 (pt b3) v8 fun H9 =>
LdA 2 H9 (pt b3) fun v10 =>
R (.returned (.tuple #[v10, v5])) H9) (
Ld H6 (pt b1) fun v11 =>
Bin .num .lss v11 (Value.int .i64 0) fun v12 =>
Grp v12 false (fun t13 =>
Ld H6 (pt b1) fun v14 =>
Bin .num .geq v14 a0 fun v15 =>
(H6 = H6 ∧ v15 = Value.bool t13)) (fun t13 => (Value.bool true) = Value.bool t13) fun t13 => ∀ gs16 : Fr,
Br (Value.bool t13) (
Build Tryz.prog 55 [] fun v17 =>
St 2 H6 (pt b3) v17 fun H18 =>
LdA 2 H18 (pt b3) fun v19 =>
R (.returned (.tuple #[v19, (Value.int .i64 2)])) H18) (
CF g 162 #[a0, (.func (.func 170) #[] #[(pt b1)])] H6 (fun v20 H21 =>
St 2 H21 (pt b3) v20 fun H22 =>
LdA 2 H22 (pt b3) fun v23 =>
R (.returned (.tuple #[v23, (Value.int .i64 0)])) H22) (PanR R)))) (PanR R)
theorem L146_sound (h : L146 g a0 a1 H R) : SCalls Tryz.prog g 146 #[a0, a1] H R :=
 soundF (hn := (.n .e (.n .e (.n (.n (.h 0 [] [1] .e .e) .e) .e)))) Tryz.func146 h (by kernel_rfl)
def L147 (g : Gh) (a0 : Value) (H : Hp) (R : Rt) : Prop :=
New H (.cells (Value.cells a0) 55 (0, 0)) fun b1 H2 =>
New H2 (.cells #[(Value.int .i64 0), (.slice none 0 0)] 55 (0, 0)) fun b3 H4 =>
LdA 2 H4 (pt b1) fun v5 =>
BuildSl Tryz.prog 49 1 [(0, v5)] H4 fun v6 H7 =>
CF g 172 #[v6] H7 (fun v8 H9 =>
Un .not v8 fun v10 =>
Br v10 (
Build Tryz.prog 55 [] fun v11 =>
St 2 H9 (pt b3) v11 fun H12 =>
LdA 2 H12 (pt b3) fun v13 =>
R (.returned (.tuple #[v13, (Value.int .i64 5)])) H12) (
FAddr 0 (pt b1) fun v14 =>
Ld H9 v14 fun v15 =>
CF g 162 #[v15, (.func (.func 173) #[] #[(pt b1)])] H9 (fun v16 H17 =>
St 2 H17 (pt b3) v16 fun H18 =>
LdA 2 H18 (pt b3) fun v19 =>
R (.returned (.tuple #[v19, (Value.int .i64 0)])) H18) (PanR R))) (PanR R)
theorem L147_sound (h : L147 g a0 H R) : SCalls Tryz.prog g 147 #[a0] H R :=
 soundF (hn := .e) Tryz.func147 h (by kernel_rfl)
def L148 (g : Gh) (a0 a1 a2 : Value) (H : Hp) (R : Rt) : Prop :=
New H (.cells (Value.cells a0) 5 (0, 0)) fun b1 H2 =>
New H2 (.cells (Value.cells a1) 55 (0, 0)) fun b3 H4 =>
New H4 (.cells (Value.cells a2) 55 (0, 0)) fun b5 H6 =>
New H6 (.cells #[(Value.int .i64 0), (.slice none 0 0)] 55 (0, 0)) fun b7 H8 =>
Ld H8 (pt b1) fun v9 =>
Bin .num .gtr v9 (Value.int .u8 15) fun v10 =>
Br v10 (
Build Tryz.prog 55 [] fun v11 =>
St 2 H8 (pt b7) v11 fun H12 =>
LdA 2 H12 (pt b7) fun v13 =>
R (.returned (.tuple #[v13, (Value.int .i64 1)])) H12) (
LdA 2 H8 (pt b3) fun v14 =>
LdA 2 H8 (pt b5) fun v15 =>
BuildSl Tryz.prog 49 2 [(0, v14), (1, v15)] H8 fun v16 H17 =>
CF g 172 #[v16] H17 (fun v18 H19 =>
Un .not v18 fun v20 =>
Br v20 (
Build Tryz.prog 55 [] fun v21 =>
St 2 H19 (pt b7) v21 fun H22 =>
LdA 2 H22 (pt b7) fun v23 =>
R (.returned (.tuple #[v23, (Value.int .i64 5)])) H22) (
FAddr 0 (pt b3) fun v24 =>
Ld H19 v24 fun v25 =>
CF g 162 #[v25, (.func (.func 174) #[] #[(pt b3), (pt b5), (pt b1)])] H19 (fun v26 H27 =>
St 2 H27 (pt b7) v26 fun H28 =>
LdA 2 H28 (pt b7) fun v29 =>
R (.returned (.tuple #[v29, (Value.int .i64 0)])) H28) (PanR R))) (PanR R))
theorem L148_sound (h : L148 g a0 a1 a2 H R) : SCalls Tryz.prog g 148 #[a0, a1, a2] H R :=
 soundF (hn := .e) Tryz.func148 h (by kernel_rfl)
def L149 (g : Gh) (a0 a1 a2 : Value) (H : Hp) (R : Rt) : Prop :=
New H (.cells (Value.cells a0) 55 (0, 0)) fun b1 H2 =>
New H2 (.cells (Value.cells a1) 55 (0, 0)) fun b3 H4 =>
New H4 (.cells (Value.cells a2) 55 (0, 0)) fun b5 H6 =>
New H6 (.cells #[(Value.int .i64 0), (.slice none 0 0)] 55 (0, 0)) fun b7 H8 =>
LdA 2 H8 (pt b1) fun v9 =>
LdA 2 H8 (pt b3) fun v10 =>
LdA 2 H8 (pt b5) fun v11 =>
BuildSl Tryz.prog 49 3 [(0, v9), (1, v10), (2, v11)] H8 fun v12 H13 =>
CF g 172 #[v12] H13 (fun v14 H15 =>
Un .not v14 fun v16 =>
Br v16 (
Build Tryz.prog 55 [] fun v17 =>
St 2 H15 (pt b7) v17 fun H18 =>
LdA 2 H18 (pt b7) fun v19 =>
R (.returned (.tuple #[v19, (Value.int .i64 5)])) H18) (
FAddr 0 (pt b1) fun v20 =>
Ld H15 v20 fun v21 =>
CF g 162 #[v21, (.func (.func 175) #[] #[(pt b1), (pt b3), (pt b5)])] H15 (fun v22 H23 =>
St 2 H23 (pt b7) v22 fun H24 =>
LdA 2 H24 (pt b7) fun v25 =>
R (.returned (.tuple #[v25, (Value.int .i64 0)])) H24) (PanR R))) (PanR R)
theorem L149_sound (h : L149 g a0 a1 a2 H R) : SCalls Tryz.prog g 149 #[a0, a1, a2] H R :=
 soundF (hn := .e) Tryz.func149 h (by kernel_rfl)
def L150 (g : Gh) (a0 a1 : Value) (H : Hp) (R : Rt) : Prop :=
Bin .ptr .eql a0 (.pointer none) fun v1 =>
Br v1 (
R (.returned (.tuple #[(Value.int .u32 0), (Value.int .i64 10)])) H) (
CF g 11 #[a0, a1, (Value.int .u32 0), (Value.int .u32 1)] H (fun v2 H3 =>
Ext 0 v2 fun v4 =>
Ext 1 v2 fun v5 =>
R (.returned (.tuple #[v4, v5])) H3) (PanR R))
theorem L150_sound (h : L150 g a0 a1 H R) : SCalls Tryz.prog g 150 #[a0, a1] H R :=
 soundF (hn := .e) Tryz.func150 h (by kernel_rfl)
def L151 (g : Gh) (a0 a1 : Value) (H : Hp) (R : Rt) : Prop :=
CF g 152 #[a0, (Value.int .u8 3), a1, (Value.int .u32 0)] H (fun v1 H2 =>
Ext 0 v1 fun v3 =>
Ext 1 v1 fun v4 =>
R (.returned (.tuple #[v3, v4])) H2) (PanR R)
theorem L151_sound (h : L151 g a0 a1 H R) : SCalls Tryz.prog g 151 #[a0, a1] H R :=
 soundF (hn := .e) Tryz.func151 h (by kernel_rfl)
def L152 (g : Gh) (a0 a1 a2 a3 : Value) (H : Hp) (R : Rt) : Prop :=
New H (.cells (Value.cells a1) 5 (0, 0)) fun b1 H2 =>
Bin .ptr .eql a0 (.pointer none) fun v3 =>
Br v3 (
R (.returned (.tuple #[(Value.int .u32 0), (Value.int .i64 10)])) H2) (
Ld H2 (pt b1) fun v4 =>
Bin .num .gtr v4 (Value.int .u8 15) fun v5 =>
Br v5 (
R (.returned (.tuple #[(Value.int .u32 0), (Value.int .i64 1)])) H2) (
BuildSl Tryz.prog 48 2 [(0, a2), (1, a3)] H2 fun v6 H7 =>
CF g 176 #[a0, v6] H7 (fun v8 H9 =>
Ext 0 v8 fun v10 =>
Ext 1 v8 fun v11 =>
Bin .num .neq v11 (Value.int .i64 0) fun v12 =>
Br v12 (
R (.returned (.tuple #[(Value.int .u32 0), v11])) H9) (
Build Tryz.prog 234 [(0, a2), (1, a3)] fun v13 =>
CF g 177 #[v10, v13, (.func (.func 178) #[] #[(pt b1)])] H9 (fun v14 H15 =>
Ext 0 v14 fun v16 =>
Ext 1 v14 fun v17 =>
R (.returned (.tuple #[v16, v17])) H15) (PanR R))) (PanR R)))
theorem L152_sound (h : L152 g a0 a1 a2 a3 H R) : SCalls Tryz.prog g 152 #[a0, a1, a2, a3] H R :=
 soundF (hn := .e) Tryz.func152 h (by kernel_rfl)
def L153 (g : Gh) (a0 a1 a2 a3 : Value) (H : Hp) (R : Rt) : Prop :=
BuildSl Tryz.prog 48 3 [(0, a1), (1, a2), (2, a3)] H fun v1 H2 =>
CF g 176 #[a0, v1] H2 (fun v3 H4 =>
Ext 0 v3 fun v5 =>
Ext 1 v3 fun v6 =>
Bin .num .neq v6 (Value.int .i64 0) fun v7 =>
Br v7 (
R (.returned (.tuple #[(Value.int .u32 0), v6])) H4) (
Build Tryz.prog 234 [(0, a1), (1, a2), (2, a3)] fun v8 =>
CF g 177 #[v5, v8, (.func (.func 180) #[] #[])] H4 (fun v9 H10 =>
Ext 0 v9 fun v11 =>
Ext 1 v9 fun v12 =>
R (.returned (.tuple #[v11, v12])) H10) (PanR R))) (PanR R)
theorem L153_sound (h : L153 g a0 a1 a2 a3 H R) : SCalls Tryz.prog g 153 #[a0, a1, a2, a3] H R :=
 soundF (hn := .e) Tryz.func153 h (by kernel_rfl)
def L154 (g : Gh) (a0 a1 a2 a3 : Value) (H : Hp) (R : Rt) : Prop :=
CF g 181 #[a0, a2] H (fun v1 H2 =>
Ext 0 v1 fun v3 =>
Ext 1 v1 fun v4 =>
Bin .ptr .neq a0 (.pointer none) fun v5 =>
Grp v5 true (fun t6 =>
Un .not v4 fun v7 =>
(H2 = H2 ∧ v7 = Value.bool t6)) (fun t6 => (Value.bool false) = Value.bool t6) fun t6 => ∀ gs8 : Fr,
Br (Value.bool t6) (
R (.returned (.tuple #[(Value.int .u32 0), (Value.int .i64 2)])) H2) (
BuildSl Tryz.prog 48 1 [(0, a1)] H2 fun v9 H10 =>
CF g 182 #[a0, v3, v9] H10 (fun v11 H12 =>
Bin .num .neq v11 (Value.int .i64 0) fun v13 =>
Br v13 (
R (.returned (.tuple #[(Value.int .u32 0), v11])) H12) (
CF g 184 #[a0, a1, a2, a3] H12 (fun v14 H15 =>
Ext 0 v14 fun v16 =>
Ext 1 v14 fun v17 =>
Ext 2 v14 fun v18 =>
CF g 183 #[v16, v17, v18] H15 (fun v19 H20 =>
Ext 0 v19 fun v21 =>
Ext 1 v19 fun v22 =>
R (.returned (.tuple #[v21, v22])) H20) (PanR R)) (PanR R))) (PanR R))) (PanR R)
theorem L154_sound (h : L154 g a0 a1 a2 a3 H R) : SCalls Tryz.prog g 154 #[a0, a1, a2, a3] H R :=
 soundF (hn := (.n .e (.n .e (.n (.n (.h 0 [] [1] .e .e) .e) .e)))) Tryz.func154 h (by kernel_rfl)
def L155 (g : Gh) (a0 a1 a2 : Value) (H : Hp) (R : Rt) : Prop :=
CF g 185 #[a0, a1, a2, (Value.bool true)] H (fun v1 H2 =>
Ext 0 v1 fun v3 =>
Ext 1 v1 fun v4 =>
R (.returned (.tuple #[v3, v4])) H2) (PanR R)
theorem L155_sound (h : L155 g a0 a1 a2 H R) : SCalls Tryz.prog g 155 #[a0, a1, a2] H R :=
 soundF (hn := .e) Tryz.func155 h (by kernel_rfl)
def L156 (g : Gh) (a0 a1 a2 : Value) (H : Hp) (R : Rt) : Prop :=
CF g 185 #[a0, a1, a2, (Value.bool false)] H (fun v1 H2 =>
Ext 0 v1 fun v3 =>
Ext 1 v1 fun v4 =>
R (.returned (.tuple #[v3, v4])) H2) (PanR R)
theorem L156_sound (h : L156 g a0 a1 a2 H R) : SCalls Tryz.prog g 156 #[a0, a1, a2] H R :=
 soundF (hn := .e) Tryz.func156 h (by kernel_rfl)
def L157 (g : Gh) (a0 a1 a2 a3 : Value) (H : Hp) (R : Rt) : Prop :=
CF g 181 #[a0, a2] H (fun v1 H2 =>
Ext 0 v1 fun v3 =>
Ext 1 v1 fun v4 =>
Bin .ptr .neq a0 (.pointer none) fun v5 =>
Grp v5 true (fun t6 =>
Un .not v4 fun v7 =>
(H2 = H2 ∧ v7 = Value.bool t6)) (fun t6 => (Value.bool false) = Value.bool t6) fun t6 => ∀ gs8 : Fr,
Br (Value.bool t6) (
R (.returned (.tuple #[(Value.int .u32 0), (Value.int .i64 2)])) H2) (
BuildSl Tryz.prog 48 2 [(0, a1), (1, a3)] H2 fun v9 H10 =>
CF g 182 #[a0, v3, v9] H10 (fun v11 H12 =>
Bin .num .neq v11 (Value.int .i64 0) fun v13 =>
Br v13 (
R (.returned (.tuple #[(Value.int .u32 0), v11])) H12) (
CF g 184 #[a0, a1, a2, (Value.bool false)] H12 (fun v14 H15 =>
Ext 0 v14 fun v16 =>
Ext 1 v14 fun v17 =>
Ext 2 v14 fun v18 =>
CF g 183 #[v16, v17, v18] H15 (fun v19 H20 =>
Ext 0 v19 fun v21 =>
Ext 1 v19 fun v22 =>
Bin .num .neq v22 (Value.int .i64 0) fun v23 =>
Br v23 (
R (.returned (.tuple #[(Value.int .u32 0), v22])) H20) (
CF g 184 #[a0, a1, a2, (Value.bool true)] H20 (fun v24 H25 =>
Ext 0 v24 fun v26 =>
Ext 1 v24 fun v27 =>
Ext 2 v24 fun v28 =>
CF g 183 #[v26, v27, v28] H25 (fun v29 H30 =>
Ext 0 v29 fun v31 =>
Ext 1 v29 fun v32 =>
Bin .num .neq v32 (Value.int .i64 0) fun v33 =>
Br v33 (
DefF Tryz.prog g 12 #[a0, v21] H30 fun H34 =>
R (.returned (.tuple #[(Value.int .u32 0), v32])) H34) (
CF g 153 #[a0, a3, v31, v21] H30 (fun v35 H36 =>
Ext 0 v35 fun v37 =>
Ext 1 v35 fun v38 =>
DefF Tryz.prog g 12 #[a0, v31] H36 fun H39 =>
DefF Tryz.prog g 12 #[a0, v21] H39 fun H40 =>
R (.returned (.tuple #[v37, v38])) H40) NoP)) NoP) NoP)) NoP) NoP)) NoP)) NoP
theorem L157_sound (h : L157 g a0 a1 a2 a3 H R) : SCalls Tryz.prog g 157 #[a0, a1, a2, a3] H R :=
 soundT (hn := (.n .e (.n .e (.n (.n (.h 0 [] [1] .e .e) .e) (.n .e (.n .e (.n .e (.n .e (.n .e (.n .e (.n .e .e))))))))))) Tryz.func157 h (by kernel_rfl)
def L160 (g : Gh) (a0 a1 : Value) (H : Hp) (R : Rt) : Prop :=
CF g 188 #[a0] H (fun v1 H2 =>
Un .not v1 fun v3 =>
Br v3 (
R (.returned (.tuple #[(.slice none 0 0), (Value.int .i64 5)])) H2) (
∀ J4 : Jt, (∀ w7 : Value, ∀ H6 : Hp, (∀ gs5 : Fr,
Br w7 (
R (.returned (.tuple #[(.slice none 0 0), (Value.int .i64 4)])) H6) (
LenS a1 fun v8 =>
Bin .num .gtr v8 (Value.int .i64 16) fun v9 =>
Br v9 (
R (.returned (.tuple #[(.slice none 0 0), (Value.int .i64 6)])) H6) (
CF g 189 #[a0] H6 (fun v10 H11 =>
LenS a1 fun v12 =>
∃ (I13 : Jt) (m14 : Mt), JE I13 [(.slice none 0 0), v10, (Value.int .i64 0)] H11 ∧ ∀ w17 w18 w19 : Value, ∀ H16 : Hp, I13 [w17, w18, w19] H16 → ∀ gs15 : Fr,
Bin .num .lss w19 v12 fun v20 =>
Br v20 (
IAddr 1 a1 w19 fun v21 =>
Ld H16 v21 fun v22 =>
CF g 190 #[w18, v22] H16 (fun v23 H24 =>
Ext 0 v23 fun v25 =>
Ext 1 v23 fun v26 =>
BuildSl Tryz.prog 22 1 [(0, v26)] H24 fun v27 H28 =>
App Tryz.prog 3 1 8 (Value.int .i64 0) H28 w17 v27 fun v31 H32 =>
Bin .num .add w19 (Value.int .i64 1) fun v33 =>
Back I13 m14 [v31, v25, v33] H32 [w17, w18, w19] H16) (PanR R)) (
R (.returned (.tuple #[w17, (Value.int .i64 0)])) H16)) (PanR R)))) → J4 [w7] H6) →
LenS a0 fun v34 =>
Bin .num .gtr v34 (Value.int .i64 0) fun v35 =>
Split v35 true (
LenS a1 fun v36 =>
IAddr 2 a0 (Value.int .i64 0) fun v37 =>
FAddr 0 v37 fun v38 =>
Ld H2 v38 fun v39 =>
Bin .num .neq v36 v39 fun v40 =>
Pick (Value.bool true) v40 (Value.bool false) fun v41 =>
Split v41 false (
CF g 84 #[a1] H2 (fun v42 H43 =>
Bin .num .eql v42 (Value.int .i64 4) fun v44 =>
Pick (Value.bool false) (Value.bool true) v44 fun v45 =>
JE J4 [v45] H43) (PanR R)) (
Pick (Value.bool true) (Value.bool true) undef fun v46 =>
JE J4 [v46] H2)) (
Pick (Value.bool false) undef (Value.bool false) fun v47 =>
CF g 84 #[a1] H2 (fun v48 H49 =>
Bin .num .eql v48 (Value.int .i64 4) fun v50 =>
Pick v47 (Value.bool true) v50 fun v51 =>
JE J4 [v51] H49) (PanR R)))) (PanR R)
theorem L160_sound (h : L160 g a0 a1 H R) : SCalls Tryz.prog g 160 #[a0, a1] H R :=
 soundF (hn := (.n .e (.n .e (.n (.h 1 [31] [0, 1] .e .e) (.n .e (.n .e (.n .e (.n (.n .e (.n (.h 0 [6, 7, 39] [37, 38] .e .e) .e)) .e)))))))) Tryz.func160 h (by kernel_rfl)
def L161 (g : Gh) (a0 : Value) (H : Hp) (R : Rt) : Prop :=
Bin .num .lss a0 (Value.int .i64 0) fun v1 =>
Br v1 (
R (.returned (Value.int .i64 1)) H) (
Bin .num .gtr a0 (Value.int .i64 16) fun v2 =>
Br v2 (
R (.returned (Value.int .i64 6)) H) (
R (.returned (Value.int .i64 0)) H))
theorem L161_sound (h : L161 g a0 H R) : SCalls Tryz.prog g 161 #[a0] H R :=
 soundF (hn := .e) Tryz.func161 h (by kernel_rfl)
def L162 (g : Gh) (a0 a1 : Value) (H : Hp) (R : Rt) : Prop :=
New H (.cells #[(Value.int .i64 0), (.slice none 0 0)] 55 (0, 0)) fun b1 H2 =>
CF g 191 #[a0] H2 (fun v3 H4 =>
MkSlice 29 1 8 (Value.int .u64 0) H4 v3 v3 fun v5 H6 =>
Build Tryz.prog 55 [(0, a0), (1, v5)] fun v7 =>
New H6 (.cells #[(Value.int .i64 0), (.slice none 0 0)] 55 (0, 0)) fun b8 H9 =>
St 2 H9 (pt b8) v7 fun H10 =>
FAddr 1 (pt b8) fun v11 =>
Ld H10 v11 fun v12 =>
LenS v12 fun v13 =>
∃ (I14 : Jt) (m15 : Mt), JE I14 [(Value.int .i64 0)] H10 ∧ ∀ w18 : Value, ∀ H17 : Hp, I14 [w18] H17 → ∀ gs16 : Fr,
Bin .num .lss w18 v13 fun v19 =>
Br v19 (
DR H17 fun R20 =>
FAddr 1 (pt b8) fun v21 =>
Ld R20 v21 fun v22 =>
CallV Tryz.prog g a1 #[w18] H17 (fun v23 H24 =>
Ent H24 R20 ∧
CF g 192 #[a0] H24 (fun v25 H26 =>
Ent H26 R20 ∧
Bin .num .and v23 v25 fun v27 =>
IAddr 1 v22 w18 fun v28 =>
St 1 H26 v28 v27 fun H29 =>
Bin .num .add w18 (Value.int .i64 1) fun v30 =>
Back I14 m15 [v30] H29 [w18] H17) NoKP) NoKP) (
LdA 2 H17 (pt b8) fun v31 =>
St 2 H17 (pt b1) v31 fun H32 =>
LdA 2 H32 (pt b1) fun v33 =>
R (.returned v33) H32)) (PanR R)
theorem L162_sound (h : L162 g a0 a1 H R) : SCalls Tryz.prog g 162 #[a0, a1] H R :=
 soundF (hn := (.n .e (.n .e (.n (.n .e (.n (.h 0 [15] [0, 1, 4, 5, 14] (.n .e (.n .e (.n (.n (.n .e (.h 0 [0, 1, 2, 3, 4, 6, 5, 7, 8, 9, 10] [] .e .e)) .e) .e))) .e) .e)) .e)))) Tryz.func162 h (by kernel_rfl)
def L163 (g : Gh) (a0 a1 : Value) (H : Hp) (R : Rt) : Prop :=
Ld H a1 fun v1 =>
Br v1 (
R (.returned (Value.int .u64 18446744073709551615)) H) (
R (.returned (Value.int .u64 0)) H)
theorem L163_sound (h : L163 g a0 a1 H R) : SCalls Tryz.prog g 163 #[a0, a1] H R :=
 soundF (hn := .e) Tryz.func163 h (by kernel_rfl)
def L164 (g : Gh) (a0 a1 : Value) (H : Hp) (R : Rt) : Prop :=
New H (.cells (Value.cells a0) 55 (0, 0)) fun b1 H2 =>
LdA 2 H2 (pt b1) fun v3 =>
BuildSl Tryz.prog 49 1 [(0, v3)] H2 fun v4 H5 =>
CF g 172 #[v4] H5 (fun v6 H7 =>
Un .not v6 fun v8 =>
Br v8 (
R (.returned (Value.int .i64 5)) H7) (
Bin .num .lss a1 (Value.int .i64 0) fun v9 =>
Grp v9 false (fun t10 =>
FAddr 0 (pt b1) fun v11 =>
Ld H7 v11 fun v12 =>
Bin .num .geq a1 v12 fun v13 =>
(H7 = H7 ∧ v13 = Value.bool t10)) (fun t10 => (Value.bool true) = Value.bool t10) fun t10 => ∀ gs14 : Fr,
Br (Value.bool t10) (
R (.returned (Value.int .i64 2)) H7) (
R (.returned (Value.int .i64 0)) H7))) (PanR R)
theorem L164_sound (h : L164 g a0 a1 H R) : SCalls Tryz.prog g 164 #[a0, a1] H R :=
 soundF (hn := (.n .e (.n (.n (.n .e (.n .e (.n (.h 0 [] [1] .e .e) .e))) .e) .e))) Tryz.func164 h (by kernel_rfl)
def L165 (g : Gh) (a0 a1 a2 : Value) (H : Hp) (R : Rt) : Prop :=
New H (.cells (Value.cells a0) 55 (0, 0)) fun b1 H2 =>
New H2 (.cells (Value.cells a1) 3 (0, 0)) fun b3 H4 =>
New H4 (.cells (Value.cells a2) 4 (0, 0)) fun b5 H6 =>
New H6 (.cells #[(Value.int .i64 0), (.slice none 0 0)] 55 (0, 0)) fun b7 H8 =>
FAddr 0 (pt b1) fun v9 =>
Ld H8 v9 fun v10 =>
CF g 162 #[v10, (.func (.func 193) #[] #[(pt b3), (pt b5), (pt b1)])] H8 (fun v11 H12 =>
St 2 H12 (pt b7) v11 fun H13 =>
LdA 2 H13 (pt b7) fun v14 =>
R (.returned v14) H13) (PanR R)
theorem L165_sound (h : L165 g a0 a1 a2 H R) : SCalls Tryz.prog g 165 #[a0, a1, a2] H R :=
 soundF (hn := .e) Tryz.func165 h (by kernel_rfl)
def L170 (g : Gh) (a0 a1 : Value) (H : Hp) (R : Rt) : Prop :=
Ld H a1 fun v1 =>
CF g 171 #[v1, a0] H (fun v2 H3 =>
R (.returned v2) H3) (PanR R)
theorem L170_sound (h : L170 g a0 a1 H R) : SCalls Tryz.prog g 170 #[a0, a1] H R :=
 soundF (hn := .e) Tryz.func170 h (by kernel_rfl)
def L171 (g : Gh) (a0 a1 : Value) (H : Hp) (R : Rt) : Prop :=
Bin .num .geq a0 (Value.int .i64 6) fun v1 =>
Br v1 (
ConvI .u64 a1 fun v2 =>
Bin .num .sub a0 (Value.int .i64 6) fun v3 =>
Bin .num .shr v2 v3 fun v4 =>
Bin .num .and v4 (Value.int .u64 1) fun v5 =>
Un .neg v5 fun v6 =>
R (.returned v6) H) (
∃ (I7 : Jt) (m8 : Mt), JE I7 [(Value.int .u64 0), (Value.int .i64 0)] H ∧ ∀ w11 w12 : Value, ∀ H10 : Hp, I7 [w11, w12] H10 → ∀ gs9 : Fr,
Bin .num .lss w12 (Value.int .i64 64) fun v13 =>
Br v13 (
Bin .num .shr w12 a0 fun v14 =>
Bin .num .and v14 (Value.int .i64 1) fun v15 =>
ConvI .u64 v15 fun v16 =>
Bin .num .shl v16 w12 fun v17 =>
Bin .num .or w11 v17 fun v18 =>
Bin .num .add w12 (Value.int .i64 1) fun v19 =>
Back I7 m8 [v18, v19] H10 [w11, w12] H10) (
R (.returned w11) H10))
theorem L171_sound (h : L171 g a0 a1 H R) : SCalls Tryz.prog g 171 #[a0, a1] H R :=
 soundF (hn := (.n .e (.n .e (.n .e (.n (.n .e (.n (.h 0 [5, 16] [0] .e .e) .e)) .e))))) Tryz.func171 h (by kernel_rfl)
def L172 (g : Gh) (a0 : Value) (H : Hp) (R : Rt) : Prop :=
LenS a0 fun v1 =>
∃ (I2 : Jt) (m3 : Mt), JE I2 [(Value.int .i64 0)] H ∧ ∀ w6 : Value, ∀ H5 : Hp, I2 [w6] H5 → ∀ gs4 : Fr,
Bin .num .lss w6 v1 fun v7 =>
Br v7 (
IAddr 2 a0 w6 fun v8 =>
LdA 2 H5 v8 fun v9 =>
New H5 (.cells #[(Value.int .i64 0), (.slice none 0 0)] 55 (0, 0)) fun b10 H11 =>
St 2 H11 (pt b10) v9 fun H12 =>
∀ J13 : Jt, (∀ w16 : Value, ∀ H15 : Hp, (∀ gs14 : Fr,
Br w16 (
R (.returned (Value.bool false)) H15) (
Bin .num .add w6 (Value.int .i64 1) fun v17 =>
Back I2 m3 [v17] H15 [w6] H5)) → J13 [w16] H15) →
DR H12 fun R18 =>
LdA 2 R18 (pt b10) fun v19 =>
∀ F20 : Hp,
CF (g.add F20) 194 #[v19] H12 (fun v21 H22 =>
Ent H22 R18 ∧
Un .not v21 fun v23 =>
Br v23 (
JE J13 [(Value.bool true)] H22) (
FAddr 0 (pt b10) fun v24 =>
Ld R18 v24 fun v25 =>
IAddr 2 a0 (Value.int .i64 0) fun v26 =>
FAddr 0 v26 fun v27 =>
Ld R18 v27 fun v28 =>
Bin .num .neq v25 v28 fun v29 =>
Pick (Value.bool false) (Value.bool true) v29 fun v30 =>
JE J13 [v30] H22)) NoKP) (
R (.returned (Value.bool true)) H5)
theorem L172_sound (h : L172 g a0 H R) : SCalls Tryz.prog g 172 #[a0] H R :=
 soundF (hn := (.n .e (.n (.n .e (.n (.h 0 [7] [0, 5, 6] (.n .e (.n .e (.n (.n (.n .e (.h 1 [22] [0, 5, 6, 7] (.h 1 [] [] (.h 0 [0] [] (.h 0 [1] [] (.h 0 [2] [] (.h 2 [3] [] (.h 0 [4] [] (.h 0 [5] [] (.h 0 [6] [] (.h 0 [7] [] (.h 0 [8] [] (.h 0 [9] [] (.h 0 [10] [] (.h 3 [11] [] .e .e) .e) .e) .e) .e) .e) .e) .e) (.h 0 [4] [] (.h 0 [5] [] (.h 0 [6] [] (.h 0 [7] [] (.h 0 [8] [] (.h 0 [9] [] (.h 0 [10] [] (.h 0 [11] [] .e .e) .e) .e) .e) .e) .e) .e) .e)) .e) .e) .e) .e) .e)) .e) .e))) .e) .e)) .e))) Tryz.func172 h (by kernel_rfl)
def L173 (g : Gh) (a0 a1 : Value) (H : Hp) (R : Rt) : Prop :=
FAddr 1 a1 fun v1 =>
Ld H v1 fun v2 =>
IAddr 1 v2 a0 fun v3 =>
Ld H v3 fun v4 =>
Un .xor v4 fun v5 =>
R (.returned v5) H
theorem L173_sound (h : L173 g a0 a1 H R) : SCalls Tryz.prog g 173 #[a0, a1] H R :=
 soundF (hn := .e) Tryz.func173 h (by kernel_rfl)
def L174 (g : Gh) (a0 a1 a2 a3 : Value) (H : Hp) (R : Rt) : Prop :=
FAddr 1 a1 fun v1 =>
Ld H v1 fun v2 =>
IAddr 1 v2 a0 fun v3 =>
Ld H v3 fun v4 =>
FAddr 1 a2 fun v5 =>
Ld H v5 fun v6 =>
IAddr 1 v6 a0 fun v7 =>
Ld H v7 fun v8 =>
Un .xor v4 fun v9 =>
Un .xor v8 fun v10 =>
Bin .num .and v9 v10 fun v11 =>
Un .xor v4 fun v12 =>
Bin .num .and v12 v8 fun v13 =>
Un .xor v8 fun v14 =>
Bin .num .and v4 v14 fun v15 =>
Bin .num .and v4 v8 fun v16 =>
BuildSl Tryz.prog 23 4 [(0, v11), (1, v13), (2, v15), (3, v16)] H fun v17 H18 =>
LenS v17 fun v19 =>
∃ (I20 : Jt) (m21 : Mt), JE I20 [(Value.int .u64 0), (Value.int .i64 0)] H18 ∧ ∀ w24 w25 : Value, ∀ H23 : Hp, I20 [w24, w25] H23 → ∀ gs22 : Fr,
Bin .num .lss w25 v19 fun v26 =>
Br v26 (
∀ J27 : Jt, (∀ w30 : Value, ∀ H29 : Hp, (∀ gs28 : Fr,
Bin .num .add w25 (Value.int .i64 1) fun v31 =>
Back I20 m21 [w30, v31] H29 [w24, w25] H23) → J27 [w30] H29) →
IAddr 1 v17 w25 fun v32 =>
Ld H23 v32 fun v33 =>
Ld H23 a3 fun v34 =>
Bin .num .shr v34 w25 fun v35 =>
Bin .num .and v35 (Value.int .u8 1) fun v36 =>
Bin .num .eql v36 (Value.int .u8 1) fun v37 =>
Br v37 (
Bin .num .or w24 v33 fun v38 =>
JE J27 [v38] H23) (
JE J27 [w24] H23)) (
R (.returned w24) H23)
theorem L174_sound (h : L174 g a0 a1 a2 a3 H R) : SCalls Tryz.prog g 174 #[a0, a1, a2, a3] H R :=
 soundF (hn := (.n .e (.n .e (.n .e (.n (.n .e (.n (.h 0 [8, 39] [3, 37, 38] (.n .e (.n .e (.h 1 [8] [3, 37, 38, 39] .e .e))) .e) .e)) .e))))) Tryz.func174 h (by kernel_rfl)
def L175 (g : Gh) (a0 a1 a2 a3 : Value) (H : Hp) (R : Rt) : Prop :=
FAddr 1 a1 fun v1 =>
Ld H v1 fun v2 =>
IAddr 1 v2 a0 fun v3 =>
Ld H v3 fun v4 =>
FAddr 1 a2 fun v5 =>
Ld H v5 fun v6 =>
IAddr 1 v6 a0 fun v7 =>
Ld H v7 fun v8 =>
Bin .num .and v4 v8 fun v9 =>
FAddr 1 a1 fun v10 =>
Ld H v10 fun v11 =>
IAddr 1 v11 a0 fun v12 =>
Ld H v12 fun v13 =>
Un .xor v13 fun v14 =>
FAddr 1 a3 fun v15 =>
Ld H v15 fun v16 =>
IAddr 1 v16 a0 fun v17 =>
Ld H v17 fun v18 =>
Bin .num .and v14 v18 fun v19 =>
Bin .num .or v9 v19 fun v20 =>
R (.returned v20) H
theorem L175_sound (h : L175 g a0 a1 a2 a3 H R) : SCalls Tryz.prog g 175 #[a0, a1, a2, a3] H R :=
 soundF (hn := .e) Tryz.func175 h (by kernel_rfl)
def L176 (g : Gh) (a0 a1 : Value) (H : Hp) (R : Rt) : Prop :=
Bin .ptr .eql a0 (.pointer none) fun v1 =>
Br v1 (
R (.returned (.tuple #[(.pointer none), (Value.int .i64 10)])) H) (
LenS a1 fun v2 =>
∃ (I3 : Jt) (m4 : Mt), JE I3 [(Value.int .i64 0)] H ∧ ∀ w7 : Value, ∀ H6 : Hp, I3 [w7] H6 → ∀ gs5 : Fr,
Bin .num .lss w7 v2 fun v8 =>
Br v8 (
IAddr 1 a1 w7 fun v9 =>
Ld H6 v9 fun v10 =>
CF g 60 #[a0, v10] H6 (fun v11 H12 =>
Ext 0 v11 fun v13 =>
Ext 1 v11 fun v14 =>
New H12 (.cells #[(Value.int .i64 0), (Value.int .u32 0), (Value.int .u32 0)] 103 (0, 0)) fun b15 H16 =>
St 3 H16 (pt b15) v13 fun H17 =>
Bin .num .neq v14 (Value.int .i64 0) fun v18 =>
Br v18 (
R (.returned (.tuple #[(.pointer none), v14])) H17) (
Bin .num .add w7 (Value.int .i64 1) fun v19 =>
Back I3 m4 [v19] H17 [w7] H6)) (PanR R)) (
CF g 56 #[a0] H6 (fun v20 H21 =>
MkSlice 3 1 8 (Value.int .i64 0) H21 v20 v20 fun v22 H23 =>
Build Tryz.prog 255 [(0, a0), (1, v22)] fun v24 =>
New H23 (.cells (Value.cells v24) 255 (0, 0)) fun b25 H26 =>
CF g 13 #[a0] H26 (fun v27 H28 =>
LenS v27 fun v29 =>
∃ (I30 : Jt) (m31 : Mt), JE I30 [(Value.int .i64 0)] H28 ∧ ∀ w34 : Value, ∀ H33 : Hp, I30 [w34] H33 → ∀ gs32 : Fr,
Bin .num .lss w34 v29 fun v35 =>
Br v35 (
IAddr 1 v27 w34 fun v36 =>
Ld H33 v36 fun v37 =>
Nil (pt b25) fun v38 =>
FAddr 1 v38 fun v39 =>
Ld H33 v39 fun v40 =>
IAddr 1 v40 v37 fun v41 =>
St 1 H33 v41 w34 fun H42 =>
Bin .num .add w34 (Value.int .i64 1) fun v43 =>
Back I30 m31 [v43] H42 [w34] H33) (
R (.returned (.tuple #[(pt b25), (Value.int .i64 0)])) H33)) (PanR R)) (PanR R)))
theorem L176_sound (h : L176 g a0 a1 H R) : SCalls Tryz.prog g 176 #[a0, a1] H R :=
 soundF (hn := (.n .e (.n .e (.n (.n .e (.n (.h 0 [17] [0, 15, 16] .e .e) .e)) (.n .e (.n (.n .e (.n (.h 0 [40] [10, 38, 39] .e .e) .e)) .e)))))) Tryz.func176 h (by kernel_rfl)
def L177 (g : Gh) (a0 a1 a2 : Value) (H : Hp) (R : Rt) : Prop :=
New H (.cells (Value.cells a0) 229 (0, 0)) fun b1 H2 =>
New H2 (.cells (Value.cells a1) 234 (0, 0)) fun b3 H4 =>
New H4 (.cells (Value.cells a2) 236 (0, 0)) fun b5 H6 =>
New H6 (.cells #[(Value.int .u32 0)] 31 (0, 0)) fun b7 H8 =>
New H8 (.cells #[(Value.int .i64 0)] 26 (0, 0)) fun b9 H10 =>
MkMap H10 fun v11 H12 =>
New H12 (.cells #[(.map none)] 257 (0, 0)) fun b13 H14 =>
St 1 H14 (pt b13) v11 fun H15 =>
New H15 (.cells #[.nilFunc] 258 (0, 0)) fun b16 H17 =>
St 1 H17 (pt b16) (.func (.func 197) #[] #[(pt b13), (pt b1), (pt b5), (pt b16)]) fun H18 =>
Ld H18 (pt b16) fun v19 =>
LdA 3 H18 (pt b3) fun v20 =>
CallV Tryz.prog g v19 #[v20] H18 (fun v21 H22 =>
Ext 0 v21 fun v23 =>
Ext 1 v21 fun v24 =>
St 1 H22 (pt b7) v23 fun H25 =>
St 1 H25 (pt b9) v24 fun H26 =>
DefF Tryz.prog g 195 #[(pt b1), (pt b7), (pt b9)] H26 fun H27 =>
Ld H27 (pt b7) fun v28 =>
Ld H27 (pt b9) fun v29 =>
R (.returned (.tuple #[v28, v29])) H27) NoP
theorem L177_sound (h : L177 g a0 a1 a2 H R) : SCalls Tryz.prog g 177 #[a0, a1, a2] H R :=
 soundT (hn := (.n .e (.n .e .e))) Tryz.func177 h (by kernel_rfl)
def L178 (g : Gh) (a0 a1 a2 a3 : Value) (H : Hp) (R : Rt) : Prop :=
DR H fun R1 =>
Ld R1 a3 fun v2 =>
CF g 179 #[a0] H (fun v3 H4 =>
Ent H4 R1 ∧
Bin .num .mul (Value.int .u8 2) v3 fun v5 =>
CF g 179 #[a1] H4 (fun v6 H7 =>
Ent H7 R1 ∧
Bin .num .add v5 v6 fun v8 =>
Bin .num .shr v2 v8 fun v9 =>
Bin .num .and v9 (Value.int .u8 1) fun v10 =>
Bin .num .eql v10 (Value.int .u8 1) fun v11 =>
R (.returned v11) H7) NoKP) NoKP
theorem L178_sound (h : L178 g a0 a1 a2 a3 H R) : SCalls Tryz.prog g 178 #[a0, a1, a2, a3] H R :=
 soundF (hn := (.n .e (.n (.h 0 [0, 1, 4, 2, 3, 5, 6, 7, 8, 9, 10] [] .e .e) .e))) Tryz.func178 h (by kernel_rfl)
def L179 (g : Gh) (a0 : Value) (H : Hp) (R : Rt) : Prop :=
Br a0 (
R (.returned (Value.int .u8 1)) H) (
R (.returned (Value.int .u8 0)) H)
theorem L179_sound (h : L179 g a0 H R) : SCalls Tryz.prog g 179 #[a0] H R :=
 soundF (hn := .e) Tryz.func179 h (by kernel_rfl)
def L180 (g : Gh) (a0 a1 a2 : Value) (H : Hp) (R : Rt) : Prop :=
Grp a0 true (fun t1 =>
(H = H ∧ a1 = Value.bool t1)) (fun t1 => (Value.bool false) = Value.bool t1) fun t1 => ∀ gs2 : Fr,
Grp (Value.bool t1) false (fun t3 =>
Un .not a0 fun v4 =>
Grp v4 true (fun t5 =>
(H = H ∧ a2 = Value.bool t5)) (fun t5 => (Value.bool false) = Value.bool t5) fun t5 => ∀ gs6 : Fr,
(H = H ∧ (Value.bool t5) = Value.bool t3)) (fun t3 => (Value.bool true) = Value.bool t3) fun t3 => ∀ gs7 : Fr,
R (.returned (Value.bool t3)) H
theorem L180_sound (h : L180 g a0 a1 a2 H R) : SCalls Tryz.prog g 180 #[a0, a1, a2] H R :=
 soundF (hn := (.n .e (.n (.h 0 [] [1] .e .e) .e))) Tryz.func180 h (by kernel_rfl)
def L181 (g : Gh) (a0 a1 : Value) (H : Hp) (R : Rt) : Prop :=
∀ J1 : Jt, (∀ w4 : Value, ∀ H3 : Hp, (∀ gs2 : Fr,
Br w4 (
R (.returned (.tuple #[(Value.int .u64 0), (Value.bool false)])) H3) (
Bin .num .shl (Value.int .u64 1) a1 fun v5 =>
R (.returned (.tuple #[v5, (Value.bool true)])) H3)) → J1 [w4] H3) →
Bin .num .lss a1 (Value.int .i64 0) fun v6 =>
Split v6 false (
Bin .ptr .neq a0 (.pointer none) fun v7 =>
Split v7 true (
CF g 56 #[a0] H (fun v8 H9 =>
Bin .num .geq a1 v8 fun v10 =>
Pick (Value.bool true) v10 (Value.bool false) fun v11 =>
Pick (Value.bool false) (Value.bool true) v11 fun v12 =>
JE J1 [v12] H9) (PanR R)) (
Pick (Value.bool false) undef (Value.bool false) fun v13 =>
Pick (Value.bool false) (Value.bool true) v13 fun v14 =>
JE J1 [v14] H)) (
Pick (Value.bool true) (Value.bool true) undef fun v15 =>
JE J1 [v15] H)
theorem L181_sound (h : L181 g a0 a1 H R) : SCalls Tryz.prog g 181 #[a0, a1] H R :=
 soundF (hn := (.n .e (.n (.h 1 [17] [1] .e .e) .e))) Tryz.func181 h (by kernel_rfl)
def L182 (g : Gh) (a0 a1 a2 : Value) (H : Hp) (R : Rt) : Prop :=
Bin .ptr .eql a0 (.pointer none) fun v1 =>
Br v1 (
R (.returned (Value.int .i64 10)) H) (
CF g 56 #[a0] H (fun v2 H3 =>
Bin .num .shr a1 v2 fun v4 =>
Bin .num .neq v4 (Value.int .u64 0) fun v5 =>
Br v5 (
R (.returned (Value.int .i64 2)) H3) (
LenS a2 fun v6 =>
∃ (I7 : Jt) (m8 : Mt), JE I7 [(Value.int .i64 0)] H3 ∧ ∀ w11 : Value, ∀ H10 : Hp, I7 [w11] H10 → ∀ gs9 : Fr,
Bin .num .lss w11 v6 fun v12 =>
Br v12 (
IAddr 1 a2 w11 fun v13 =>
Ld H10 v13 fun v14 =>
CF g 60 #[a0, v14] H10 (fun v15 H16 =>
Ext 0 v15 fun v17 =>
Ext 1 v15 fun v18 =>
New H16 (.cells #[(Value.int .i64 0), (Value.int .u32 0), (Value.int .u32 0)] 103 (0, 0)) fun b19 H20 =>
St 3 H20 (pt b19) v17 fun H21 =>
Bin .num .neq v18 (Value.int .i64 0) fun v22 =>
Br v22 (
R (.returned (Value.int .i64 3)) H21) (
Bin .num .add w11 (Value.int .i64 1) fun v23 =>
Back I7 m8 [v23] H21 [w11] H10)) (PanR R)) (
R (.returned (Value.int .i64 0)) H10))) (PanR R))
theorem L182_sound (h : L182 g a0 a1 a2 H R) : SCalls Tryz.prog g 182 #[a0, a1, a2] H R :=
 soundF (hn := (.n .e (.n .e (.n .e (.n (.n .e (.n (.h 0 [20] [0, 18, 19] .e .e) .e)) .e))))) Tryz.func182 h (by kernel_rfl)
def L183 (g : Gh) (a0 a1 a2 : Value) (H : Hp) (R : Rt) : Prop :=
Bin .num .neq a2 (Value.int .i64 0) fun v1 =>
Br v1 (
R (.returned (.tuple #[(Value.int .u32 0), a2])) H) (
Un .not a1 fun v2 =>
Br v2 (
R (.returned (.tuple #[(Value.int .u32 0), (Value.int .i64 8)])) H) (
R (.returned (.tuple #[a0, (Value.int .i64 0)])) H))
theorem L183_sound (h : L183 g a0 a1 a2 H R) : SCalls Tryz.prog g 183 #[a0, a1, a2] H R :=
 soundF (hn := .e) Tryz.func183 h (by kernel_rfl)
def L184 (g : Gh) (a0 a1 a2 a3 : Value) (H : Hp) (R : Rt) : Prop :=
New H (.cells (Value.cells a1) 31 (0, 0)) fun b1 H2 =>
New H2 (.cells (Value.cells a2) 3 (0, 0)) fun b3 H4 =>
New H4 (.cells (Value.cells a3) 4 (0, 0)) fun b5 H6 =>
CF g 201 #[a0, (.func (.func 202) #[] #[(pt b1), (pt b3), (pt b5)])] H6 (fun v7 H8 =>
Ext 0 v7 fun v9 =>
Ext 1 v7 fun v10 =>
Ext 2 v7 fun v11 =>
R (.returned (.tuple #[v9, v10, v11])) H8) (PanR R)
theorem L184_sound (h : L184 g a0 a1 a2 a3 H R) : SCalls Tryz.prog g 184 #[a0, a1, a2, a3] H R :=
 soundF (hn := .e) Tryz.func184 h (by kernel_rfl)
def L185 (g : Gh) (a0 a1 a2 a3 : Value) (H : Hp) (R : Rt) : Prop :=
BuildSl Tryz.prog 48 1 [(0, a1)] H fun v1 H2 =>
CF g 182 #[a0, a2, v1] H2 (fun v3 H4 =>
Bin .num .neq v3 (Value.int .i64 0) fun v5 =>
Br v5 (
R (.returned (.tuple #[(Value.int .u32 0), v3])) H4) (
Bin .num .eql a2 (Value.int .u64 0) fun v6 =>
Br v6 (
CF g 51 #[a0, a1] H4 (fun v7 H8 =>
Bin .num .neq v7 (Value.int .i64 0) fun v9 =>
Br v9 (
R (.returned (.tuple #[(Value.int .u32 0), v7])) H8) (
R (.returned (.tuple #[a1, (Value.int .i64 0)])) H8)) (PanR R)) (
CF g 56 #[a0] H4 (fun v10 H11 =>
∃ (I12 : Jt) (m13 : Mt), JE I12 [a1, (Value.bool false), (Value.int .i64 0)] H11 ∧ ∀ w16 w17 w18 : Value, ∀ H15 : Hp, I12 [w16, w17, w18] H15 → ∀ gs14 : Fr,
Bin .num .lss w18 v10 fun v19 =>
Br v19 (
∀ J20 : Jt, (∀ w23 w24 : Value, ∀ H22 : Hp, (∀ gs21 : Fr,
Bin .num .add w18 (Value.int .i64 1) fun v25 =>
Back I12 m13 [w23, w24, v25] H22 [w16, w17, w18] H15) → J20 [w23, w24] H22) →
Bin .num .shr a2 w18 fun v26 =>
Bin .num .and v26 (Value.int .u64 1) fun v27 =>
Bin .num .eql v27 (Value.int .u64 0) fun v28 =>
Br v28 (
JE J20 [w16, w17] H15) (
CF g 205 #[a0, w16, w18, a3] H15 (fun v29 H30 =>
Ext 0 v29 fun v31 =>
Ext 1 v29 fun v32 =>
Ext 2 v29 fun v33 =>
CF g 183 #[v31, v32, v33] H30 (fun v34 H35 =>
Ext 0 v34 fun v36 =>
Ext 1 v34 fun v37 =>
∀ J38 : Jt, (∀ H40 : Hp, (∀ gs39 : Fr,
Bin .num .neq v37 (Value.int .i64 0) fun v41 =>
Br v41 (
R (.returned (.tuple #[(Value.int .u32 0), v37])) H40) (
JE J20 [v36, (Value.bool true)] H40)) → J38 [] H40) →
Br w17 (
CF g 12 #[a0, w16] H35 (fun v42 H43 =>
JE J38 [] H43) (PanR R)) (
JE J38 [] H35)) (PanR R)) (PanR R))) (
R (.returned (.tuple #[w16, (Value.int .i64 0)])) H15)) (PanR R)))) (PanR R)
theorem L185_sound (h : L185 g a0 a1 a2 a3 H R) : SCalls Tryz.prog g 185 #[a0, a1, a2, a3] H R :=
 soundF (hn := (.n .e (.n .e (.n .e (.n .e (.n (.n .e (.n (.h 0 [12, 13, 37] [0, 2, 3, 36] (.n .e (.n .e (.h 1 [12, 13] [0, 2, 3, 36, 37] (.n (.n .e (.n .e (.n .e (.h 1 [] [0, 2, 3, 15, 16, 36, 37] .e .e)))) .e) .e))) .e) .e)) .e)))))) Tryz.func185 h (by kernel_rfl)
def L188 (g : Gh) (a0 : Value) (H : Hp) (R : Rt) : Prop :=
LenS a0 fun v1 =>
∃ (I2 : Jt) (m3 : Mt), JE I2 [(Value.int .i64 0)] H ∧ ∀ w6 : Value, ∀ H5 : Hp, I2 [w6] H5 → ∀ gs4 : Fr,
Bin .num .lss w6 v1 fun v7 =>
Br v7 (
IAddr 2 a0 w6 fun v8 =>
LdA 2 H5 v8 fun v9 =>
New H5 (.cells #[(Value.int .i64 0), (.slice none 0 0)] 55 (0, 0)) fun b10 H11 =>
St 2 H11 (pt b10) v9 fun H12 =>
∀ J13 : Jt, (∀ w16 : Value, ∀ H15 : Hp, (∀ gs14 : Fr,
Br w16 (
R (.returned (Value.bool false)) H15) (
Bin .num .add w6 (Value.int .i64 1) fun v17 =>
Back I2 m3 [v17] H15 [w6] H5)) → J13 [w16] H15) →
DR H12 fun R18 =>
LdA 2 R18 (pt b10) fun v19 =>
∀ F20 : Hp,
CF (g.add F20) 194 #[v19] H12 (fun v21 H22 =>
Ent H22 R18 ∧
Un .not v21 fun v23 =>
Br v23 (
JE J13 [(Value.bool true)] H22) (
FAddr 0 (pt b10) fun v24 =>
Ld R18 v24 fun v25 =>
IAddr 2 a0 (Value.int .i64 0) fun v26 =>
FAddr 0 v26 fun v27 =>
Ld R18 v27 fun v28 =>
Bin .num .neq v25 v28 fun v29 =>
Pick (Value.bool false) (Value.bool true) v29 fun v30 =>
JE J13 [v30] H22)) NoKP) (
R (.returned (Value.bool true)) H5)
theorem L188_sound (h : L188 g a0 H R) : SCalls Tryz.prog g 188 #[a0] H R :=
 soundF (hn := (.n .e (.n (.n .e (.n (.h 0 [7] [0, 5, 6] (.n .e (.n .e (.n (.n (.n .e (.h 1 [22] [0, 5, 6, 7] (.h 1 [] [] (.h 0 [0] [] (.h 0 [1] [] (.h 0 [2] [] (.h 2 [3] [] (.h 0 [4] [] (.h 0 [5] [] (.h 0 [6] [] (.h 0 [7] [] (.h 0 [8] [] (.h 0 [9] [] (.h 0 [10] [] (.h 3 [11] [] .e .e) .e) .e) .e) .e) .e) .e) .e) (.h 0 [4] [] (.h 0 [5] [] (.h 0 [6] [] (.h 0 [7] [] (.h 0 [8] [] (.h 0 [9] [] (.h 0 [10] [] (.h 0 [11] [] .e .e) .e) .e) .e) .e) .e) .e) .e)) .e) .e) .e) .e) .e)) .e) .e))) .e) .e)) .e))) Tryz.func188 h (by kernel_rfl)
def L189 (g : Gh) (a0 : Value) (H : Hp) (R : Rt) : Prop :=
MkMap H fun v1 H2 =>
LenS a0 fun v3 =>
∃ (I4 : Jt) (m5 : Mt), JE I4 [(Value.int .i64 0)] H2 ∧ ∀ w8 : Value, ∀ H7 : Hp, I4 [w8] H7 → ∀ gs6 : Fr,
Bin .num .lss w8 v3 fun v9 =>
Br v9 (
IAddr 2 a0 w8 fun v10 =>
LdA 2 H7 v10 fun v11 =>
New H7 (.cells #[(Value.int .i64 0), (.slice none 0 0)] 55 (0, 0)) fun b12 H13 =>
St 2 H13 (pt b12) v11 fun H14 =>
LdA 2 H14 (pt b12) fun v15 =>
CF g 209 #[v1, v15] H14 (fun v16 H17 =>
Bin .num .add w8 (Value.int .i64 1) fun v18 =>
Back I4 m5 [v18] H17 [w8] H7) (PanR R)) (
R (.returned v1) H7)
theorem L189_sound (h : L189 g a0 H R) : SCalls Tryz.prog g 189 #[a0] H R :=
 soundF (hn := (.n .e (.n .e (.n (.n .e (.n (.h 0 [9] [3, 7, 8] .e .e) .e)) .e)))) Tryz.func189 h (by kernel_rfl)
def L190 (g : Gh) (a0 a1 : Value) (H : Hp) (R : Rt) : Prop :=
MkMap H fun v1 H2 =>
Rng H2 a0 fun v3 H4 =>
∃ (I5 : Jt) (m6 : Mt), JE I5 [(Value.int .i64 0)] H4 ∧ ∀ w9 : Value, ∀ H8 : Hp, I5 [w9] H8 → ∀ gs7 : Fr,
Nxt H8 v3 fun v10 H11 =>
Ext 0 v10 fun v12 =>
Br v12 (
Entr H11 v3 fun v13 =>
Ext 1 v13 fun v14 =>
New H11 (.cells #[(Value.int .i64 0), (.slice none 0 0)] 55 (0, 0)) fun b15 H16 =>
St 2 H16 (pt b15) v14 fun H17 =>
LdA 2 H17 (pt b15) fun v18 =>
CF g 132 #[v18, a1, (Value.bool false)] H17 (fun v19 H20 =>
Ext 0 v19 fun v21 =>
Ext 1 v19 fun v22 =>
New H20 (.cells #[(Value.int .i64 0), (.slice none 0 0)] 55 (0, 0)) fun b23 H24 =>
St 2 H24 (pt b23) v21 fun H25 =>
LdA 2 H25 (pt b15) fun v26 =>
CF g 132 #[v26, a1, (Value.bool true)] H25 (fun v27 H28 =>
Ext 0 v27 fun v29 =>
Ext 1 v27 fun v30 =>
New H28 (.cells #[(Value.int .i64 0), (.slice none 0 0)] 55 (0, 0)) fun b31 H32 =>
St 2 H32 (pt b31) v29 fun H33 =>
DR H33 fun R34 =>
LdA 2 R34 (pt b23) fun v35 =>
LdA 2 R34 (pt b31) fun v36 =>
CF g 210 #[v35] H33 (fun v37 H38 =>
Ent H38 R34 ∧
CF g 210 #[v36] H38 (fun v39 H40 =>
Ent H40 R34 ∧
∀ J41 : Jt, (∀ w44 : Value, ∀ H43 : Hp, (∀ gs42 : Fr,
DR H43 fun R45 =>
LdA 2 R45 (pt b23) fun v46 =>
LdA 2 R45 (pt b31) fun v47 =>
MapUpd (.string) H43 v1 v37 v46 fun H48 =>
Ent H48 R45 ∧
MapUpd (.string) H48 v1 v39 v47 fun H49 =>
Back I5 m6 [w44] H49 [w9] H8) → J41 [w44] H43) →
Bin .str .neq v37 v39 fun v50 =>
Br v50 (
Bin .num .add w9 (Value.int .i64 1) fun v51 =>
JE J41 [v51] H40) (
JE J41 [w9] H40)) NoKP) NoKP) (PanR R)) (PanR R)) (
R (.returned (.tuple #[v1, w9])) H11)
theorem L190_sound (h : L190 g a0 a1 H R) : SCalls Tryz.prog g 190 #[a0, a1] H R :=
 soundF (hn := (.n .e (.n .e (.n (.n .e (.n (.h 0 [7] [1, 6, 18] (.n .e (.n .e (.n (.n .e (.n .e (.n .e (.n (.h 0 [0, 2, 1, 3, 4, 5] [] .e .e) (.h 1 [7] [1, 6, 10, 12, 14, 15, 18] .e (.h 0 (List.range 8) [] .e .e)))))) .e))) .e) .e)) .e)))) Tryz.func190 h (by kernel_rfl)
def L191 (g : Gh) (a0 : Value) (H : Hp) (R : Rt) : Prop :=
Bin .num .shl (Value.int .i64 1) a0 fun v1 =>
Bin .num .shr v1 (Value.int .u64 6) fun v2 =>
MaxI (Value.int .i64 1) v2 fun v3 =>
R (.returned v3) H
theorem L191_sound (h : L191 g a0 H R) : SCalls Tryz.prog g 191 #[a0] H R :=
 soundF (hn := .e) Tryz.func191 h (by kernel_rfl)
def L192 (g : Gh) (a0 : Value) (H : Hp) (R : Rt) : Prop :=
Bin .num .geq a0 (Value.int .i64 6) fun v1 =>
Br v1 (
R (.returned (Value.int .u64 18446744073709551615)) H) (
Bin .num .shl (Value.int .u64 1) a0 fun v2 =>
Bin .num .shl (Value.int .u64 1) v2 fun v3 =>
Bin .num .sub v3 (Value.int .u64 1) fun v4 =>
R (.returned v4) H)
theorem L192_sound (h : L192 g a0 H R) : SCalls Tryz.prog g 192 #[a0] H R :=
 soundF (hn := .e) Tryz.func192 h (by kernel_rfl)
def L193 (g : Gh) (a0 a1 a2 a3 : Value) (H : Hp) (R : Rt) : Prop :=
Ld H a1 fun v1 =>
Bin .num .geq v1 (Value.int .i64 6) fun v2 =>
Br v2 (
Ld H a1 fun v3 =>
Bin .num .sub v3 (Value.int .i64 6) fun v4 =>
Bin .num .shl (Value.int .i64 1) v4 fun v5 =>
Bin .num .andNot a0 v5 fun v6 =>
∀ J7 : Jt, (∀ w10 : Value, ∀ H9 : Hp, (∀ gs8 : Fr,
FAddr 1 a3 fun v11 =>
Ld H9 v11 fun v12 =>
IAddr 1 v12 w10 fun v13 =>
Ld H9 v13 fun v14 =>
R (.returned v14) H9) → J7 [w10] H9) →
Ld H a2 fun v15 =>
Br v15 (
Ld H a1 fun v16 =>
Bin .num .sub v16 (Value.int .i64 6) fun v17 =>
Bin .num .shl (Value.int .i64 1) v17 fun v18 =>
Bin .num .or v6 v18 fun v19 =>
JE J7 [v19] H) (
JE J7 [v6] H)) (
DR H fun R20 =>
Ld R20 a1 fun v21 =>
Ld R20 a1 fun v22 =>
Bin .num .shl (Value.int .i64 1) v22 fun v23 =>
CF g 171 #[v21, (Value.int .i64 0)] H (fun v24 H25 =>
Ent H25 R20 ∧
Ld H25 a2 fun v26 =>
Br v26 (
FAddr 1 a3 fun v27 =>
Ld H25 v27 fun v28 =>
IAddr 1 v28 a0 fun v29 =>
Ld H25 v29 fun v30 =>
Bin .num .and v30 v24 fun v31 =>
Bin .num .shr v31 v23 fun v32 =>
Bin .num .or v31 v32 fun v33 =>
R (.returned v33) H25) (
FAddr 1 a3 fun v34 =>
Ld H25 v34 fun v35 =>
IAddr 1 v35 a0 fun v36 =>
Ld H25 v36 fun v37 =>
Bin .num .andNot v37 v24 fun v38 =>
Bin .num .shl v38 v23 fun v39 =>
Bin .num .or v38 v39 fun v40 =>
R (.returned v40) H25)) NoKP)
theorem L193_sound (h : L193 g a0 a1 a2 a3 H R) : SCalls Tryz.prog g 193 #[a0, a1, a2, a3] H R :=
 soundF (hn := (.n .e (.n (.n .e (.n (.n .e (.h 1 [6] [3] .e .e)) .e)) (.n (.h 0 [0, 2, 3, 1, 4, 5] [] .e .e) .e)))) Tryz.func193 h (by kernel_rfl)
def L194 (g : Gh) (a0 : Value) (H : Hp) (R : Rt) : Prop :=
New H (.cells (Value.cells a0) 55 (0, 0)) fun b1 H2 =>
∀ J3 : Jt, (∀ w6 : Value, ∀ H5 : Hp, (∀ gs4 : Fr,
Br w6 (
R (.returned (Value.bool false)) H5) (
DR H5 fun R7 =>
FAddr 1 (pt b1) fun v8 =>
Ld R7 v8 fun v9 =>
FAddr 1 (pt b1) fun v10 =>
Ld R7 v10 fun v11 =>
LenS v11 fun v12 =>
Bin .num .sub v12 (Value.int .i64 1) fun v13 =>
IAddr 1 v9 v13 fun v14 =>
Ld R7 v14 fun v15 =>
FAddr 0 (pt b1) fun v16 =>
Ld R7 v16 fun v17 =>
CF g 192 #[v17] H5 (fun v18 H19 =>
Ent H19 R7 ∧
Bin .num .andNot v15 v18 fun v20 =>
Bin .num .eql v20 (Value.int .u64 0) fun v21 =>
R (.returned v21) H19) NoKP)) → J3 [w6] H5) →
DR H2 fun R22 =>
FAddr 0 (pt b1) fun v23 =>
Ld R22 v23 fun v24 =>
Bin .num .lss v24 (Value.int .i64 0) fun v25 =>
Br v25 (
JE J3 [(Value.bool true)] H2) (
FAddr 0 (pt b1) fun v26 =>
Ld R22 v26 fun v27 =>
Bin .num .gtr v27 (Value.int .i64 16) fun v28 =>
Pick (Value.bool false) (Value.bool true) v28 fun v29 =>
Br v29 (
JE J3 [(Value.bool true)] H2) (
FAddr 1 (pt b1) fun v30 =>
Ld R22 v30 fun v31 =>
LenS v31 fun v32 =>
FAddr 0 (pt b1) fun v33 =>
Ld R22 v33 fun v34 =>
∀ F35 : Hp,
CF (g.add F35) 191 #[v34] H2 (fun v36 H37 =>
Ent H37 R22 ∧
Bin .num .neq v32 v36 fun v38 =>
Pick (Value.bool false) (Value.bool true) v38 fun v39 =>
JE J3 [v39] H37) NoKP))
theorem L194_sound (h : L194 g a0 H R) : SCalls Tryz.prog g 194 #[a0] H R :=
 soundF (hn := (.n .e (.n (.h 1 [19] [1] (.h 1 [] [] (.h 0 [0] [] (.h 0 [1] [] (.h 0 [2] [] (.h 2 [3] [] (.h 0 [4] [] (.h 0 [5] [] (.h 0 [6] [] (.h 3 [7] [] (.h 3 [8] [] (.h 0 [9] [] (.h 0 [10] [] (.h 0 [11] [] (.h 0 [12] [] (.h 0 [13] [] (.h 0 [14] [] (.h 0 [15] [] (.h 3 [16] [] .e .e) .e) .e) .e) .e) .e) .e) .e) .e) .e) .e) .e) .e) (.h 0 [4] [] (.h 0 [5] [] (.h 0 [6] [] (.h 0 [7] [] (.h 2 [8] [] (.h 0 [9] [] (.h 0 [10] [] (.h 0 [11] [] (.h 0 [12] [] (.h 0 [13] [] (.h 0 [14] [] (.h 0 [15] [] (.h 3 [16] [] .e .e) .e) .e) .e) .e) .e) .e) .e) (.h 0 [9] [] (.h 0 [10] [] (.h 0 [11] [] (.h 0 [12] [] (.h 0 [13] [] (.h 0 [14] [] (.h 0 [15] [] (.h 0 [16] [] .e .e) .e) .e) .e) .e) .e) .e) .e)) .e) .e) .e) .e)) .e) .e) .e) .e) .e) (.n (.h 0 (List.range 14) [] .e .e) .e)))) Tryz.func194 h (by kernel_rfl)
def L195 (g : Gh) (a0 a1 a2 : Value) (H : Hp) (R : Rt) : Prop :=
Ld H a0 fun v1 =>
Ld H a1 fun v2 =>
Ld H a2 fun v3 =>
CF g 196 #[v1, v2, v3] H (fun v4 H5 =>
Ext 0 v4 fun v6 =>
Ext 1 v4 fun v7 =>
St 1 H5 a1 v6 fun H8 =>
St 1 H8 a2 v7 fun H9 =>
R (.returned (.tuple #[])) H9) (PanR R)
theorem L195_soundD (h : L195 g a0 a1 a2 H R) : SCallsD Tryz.prog g 195 #[a0, a1, a2] H R :=
 soundD (hn := .e) Tryz.func195 h (by kernel_rfl)
def L196 (g : Gh) (a0 a1 a2 : Value) (H : Hp) (R : Rt) : Prop :=
Bin .num .eql a1 (Value.int .u32 0) fun v1 =>
Grp v1 false (fun t2 =>
Bin .num .eql a1 (Value.int .u32 1) fun v3 =>
(H = H ∧ v3 = Value.bool t2)) (fun t2 => (Value.bool true) = Value.bool t2) fun t2 => ∀ gs4 : Fr,
Nil a0 fun v5 =>
FAddr 2 v5 fun v6 =>
Ld H v6 fun v7 =>
LenS v7 fun v8 =>
∃ (I9 : Jt) (m10 : Mt), JE I9 [(Value.bool t2), (Value.int .i64 0)] H ∧ ∀ w13 w14 : Value, ∀ H12 : Hp, I9 [w13, w14] H12 → ∀ gs11 : Fr,
Bin .num .lss w14 v8 fun v15 =>
Br v15 (
∀ J16 : Jt, (∀ w19 : Value, ∀ H18 : Hp, (∀ gs17 : Fr,
Bin .num .add w14 (Value.int .i64 1) fun v20 =>
Back I9 m10 [w19, v20] H18 [w13, w14] H12) → J16 [w19] H18) →
IAddr 1 v7 w14 fun v21 =>
Ld H12 v21 fun v22 =>
Bin .num .eql v22 a1 fun v23 =>
Grp v23 true (fun t24 =>
Un .not w13 fun v25 =>
(H12 = H12 ∧ v25 = Value.bool t24)) (fun t24 => (Value.bool false) = Value.bool t24) fun t24 => ∀ gs26 : Fr,
Grp (Value.bool t24) true (fun t27 =>
Bin .num .eql a2 (Value.int .i64 0) fun v28 =>
(H12 = H12 ∧ v28 = Value.bool t27)) (fun t27 => (Value.bool false) = Value.bool t27) fun t27 => ∀ gs29 : Fr,
Br (Value.bool t27) (
JE J16 [(Value.bool true)] H12) (
Nil a0 fun v30 =>
FAddr 0 v30 fun v31 =>
Ld H12 v31 fun v32 =>
CF g 12 #[v32, v22] H12 (fun v33 H34 =>
JE J16 [w13] H34) (PanR R))) (
Nil a0 fun v35 =>
FAddr 2 v35 fun v36 =>
St 1 H12 v36 (.slice none 0 0) fun H37 =>
∀ J38 : Jt, (∀ H40 : Hp, (∀ gs39 : Fr,
R (.returned (.tuple #[a1, (Value.int .i64 0)])) H40) → J38 [] H40) →
Bin .num .neq a2 (Value.int .i64 0) fun v41 =>
Br v41 (
R (.returned (.tuple #[(Value.int .u32 0), a2])) H37) (
Un .not w13 fun v42 =>
Br v42 (
R (.returned (.tuple #[(Value.int .u32 0), (Value.int .i64 8)])) H37) (
Bin .num .eql a1 (Value.int .u32 0) fun v43 =>
Grp v43 false (fun t44 =>
Bin .num .eql a1 (Value.int .u32 1) fun v45 =>
(H37 = H37 ∧ v45 = Value.bool t44)) (fun t44 => (Value.bool true) = Value.bool t44) fun t44 => ∀ gs46 : Fr,
Br (Value.bool t44) (
Nil a0 fun v47 =>
FAddr 0 v47 fun v48 =>
Ld H37 v48 fun v49 =>
CF g 51 #[v49, a1] H37 (fun v50 H51 =>
JE J38 [] H51) (PanR R)) (
JE J38 [] H37))))
theorem L196_sound (h : L196 g a0 a1 a2 H R) : SCalls Tryz.prog g 196 #[a0, a1, a2] H R :=
 soundF (hn := (.n .e (.n (.h 0 [] [1] .e .e) (.n (.n .e (.n (.h 0 [8, 22] [0, 1, 2, 20, 21] (.n .e (.n .e (.h 1 [8] [0, 1, 2, 20, 21, 22] (.n (.n .e (.n (.n (.h 0 [] [1] .e .e) .e) .e)) .e) .e))) .e) .e)) (.n .e (.h 1 [] [1] (.n (.n .e (.n .e (.n .e (.n .e (.n (.h 0 [] [1] .e .e) .e))))) .e) .e)))))) Tryz.func196 h (by kernel_rfl)
def L197 (g : Gh) (a0 a1 a2 a3 a4 : Value) (H : Hp) (R : Rt) : Prop :=
New H (.cells (Value.cells a0) 234 (0, 0)) fun b1 H2 =>
Ld H2 a1 fun v3 =>
LdA 3 H2 (pt b1) fun v4 =>
LookS Tryz.prog 234 (Value.int .u32 0) true H2 v3 v4 fun v5 =>
Ext 0 v5 fun v6 =>
Ext 1 v5 fun v7 =>
Br v7 (
R (.returned (.tuple #[v6, (Value.int .i64 0)])) H2) (
Ld H2 a2 fun v8 =>
LdA 3 H2 (pt b1) fun v9 =>
CF g 198 #[v8, v9] H2 (fun v10 H11 =>
Ld H11 a2 fun v12 =>
CF g 199 #[v12, v10] H11 (fun v13 H14 =>
Bin .num .lss v13 (Value.int .i64 0) fun v15 =>
Br v15 (
Ld H14 a3 fun v16 =>
AAddr 3 1 (pt b1) (Value.int .i64 0) fun v17 =>
Ld H14 v17 fun v18 =>
Bin .num .eql v18 (Value.int .u32 1) fun v19 =>
AAddr 3 1 (pt b1) (Value.int .i64 1) fun v20 =>
Ld H14 v20 fun v21 =>
Bin .num .eql v21 (Value.int .u32 1) fun v22 =>
AAddr 3 1 (pt b1) (Value.int .i64 2) fun v23 =>
Ld H14 v23 fun v24 =>
Bin .num .eql v24 (Value.int .u32 1) fun v25 =>
CallV Tryz.prog g v16 #[v19, v22, v25] H14 (fun v26 H27 =>
Br v26 (
R (.returned (.tuple #[(Value.int .u32 1), (Value.int .i64 0)])) H27) (
R (.returned (.tuple #[(Value.int .u32 0), (Value.int .i64 0)])) H27)) (PanR R)) (
DR H14 fun R28 =>
LdA 3 R28 (pt b1) fun v29 =>
LdA 3 R28 (pt b1) fun v30 =>
New H14 (.cells #[(Value.int .u32 0), (Value.int .u32 0), (Value.int .u32 0)] 234 (0, 0)) fun b31 H32 =>
New H32 (.cells #[(Value.int .u32 0), (Value.int .u32 0), (Value.int .u32 0)] 234 (0, 0)) fun b33 H34 =>
∀ F35 : Hp,
St 3 H34 (pt b31) v29 fun H36 =>
Ent H36 R28 ∧
∀ F37 : Hp,
St 3 H36 (pt b33) v30 fun H38 =>
LenS v10 fun v39 =>
∃ (I40 : Jt) (m41 : Mt), JE I40 [(Value.int .i64 0)] H38 ∧ ∀ w44 : Value, ∀ H43 : Hp, I40 [w44] H43 → ∀ gs42 : Fr,
Bin .num .lss w44 v39 fun v45 =>
Br v45 (
∀ J46 : Jt, (∀ H48 : Hp, (∀ gs47 : Fr,
Bin .num .add w44 (Value.int .i64 1) fun v49 =>
Back I40 m41 [v49] H48 [w44] H43) → J46 [] H48) →
IAddr 3 v10 w44 fun v50 =>
LdA 3 H43 v50 fun v51 =>
New H43 (.cells #[(Value.int .i64 0), (Value.int .u32 0), (Value.int .u32 0)] 103 (0, 0)) fun b52 H53 =>
St 3 H53 (pt b52) v51 fun H54 =>
FAddr 0 (pt b52) fun v55 =>
Ld H54 v55 fun v56 =>
Bin .num .eql v56 v13 fun v57 =>
Br v57 (
DR H54 fun R58 =>
FAddr 1 (pt b52) fun v59 =>
Ld R58 v59 fun v60 =>
FAddr 2 (pt b52) fun v61 =>
Ld R58 v61 fun v62 =>
AAddr 3 1 (pt b31) w44 fun v63 =>
St 1 H54 v63 v60 fun H64 =>
Ent H64 R58 ∧
AAddr 3 1 (pt b33) w44 fun v65 =>
St 1 H64 v65 v62 fun H66 =>
JE J46 [] H66) (
JE J46 [] H54)) (
Ld H43 a4 fun v67 =>
LdA 3 H43 (pt b31) fun v68 =>
CallV Tryz.prog g v67 #[v68] H43 (fun v69 H70 =>
Ext 0 v69 fun v71 =>
Ext 1 v69 fun v72 =>
Bin .num .neq v72 (Value.int .i64 0) fun v73 =>
Br v73 (
R (.returned (.tuple #[(Value.int .u32 0), v72])) H70) (
Ld H70 a4 fun v74 =>
LdA 3 H70 (pt b33) fun v75 =>
CallV Tryz.prog g v74 #[v75] H70 (fun v76 H77 =>
Ext 0 v76 fun v78 =>
Ext 1 v76 fun v79 =>
Bin .num .neq v79 (Value.int .i64 0) fun v80 =>
Br v80 (
R (.returned (.tuple #[(Value.int .u32 0), v79])) H77) (
Ld H77 a2 fun v81 =>
CF g 200 #[v81, v13, v71, v78] H77 (fun v82 H83 =>
Ext 0 v82 fun v84 =>
Ext 1 v82 fun v85 =>
∀ J86 : Jt, (∀ H88 : Hp, (∀ gs87 : Fr,
R (.returned (.tuple #[v84, v85])) H88) → J86 [] H88) →
Bin .num .eql v85 (Value.int .i64 0) fun v89 =>
Br v89 (
Ld H83 a1 fun v90 =>
LdA 3 H83 (pt b1) fun v91 =>
MapUpdS Tryz.prog 234 H83 v90 v91 v84 fun H92 =>
JE J86 [] H92) (
JE J86 [] H83)) (PanR R))) (PanR R))) (PanR R)))) (PanR R)) (PanR R))
theorem L197_sound (h : L197 g a0 a1 a2 a3 a4 H R) : SCalls Tryz.prog g 197 #[a0, a1, a2, a3, a4] H R :=
 soundF (hn := (.n .e (.n .e (.n .e (.n .e (.n .e (.n (.h 1 [] [] (.h 0 [0] [] (.h 0 [1] [] (.h 1 [2] [] (.h 1 [3] [] (.h 0 [2] [] (.h 0 [3] [] (.h 0 [4] [] (.h 0 [5] [] .e .e) .e) .e) .e) .e) .e) .e) .e) .e) (.n (.n .e (.n (.h 0 [51] [1, 2, 4, 5, 11, 12, 13, 49, 50] (.n .e (.n .e (.h 1 [] [1, 2, 4, 5, 11, 12, 13, 49, 50, 51] (.n (.n .e (.n .e (.n (.h 0 (List.range 10) [] .e .e) .e))) .e) .e))) .e) .e)) (.n .e (.n .e (.n .e (.n .e (.n .e (.h 1 [] [17, 19] .e .e)))))))))))))) Tryz.func197 h (by kernel_rfl)
def L198 (g : Gh) (a0 a1 : Value) (H : Hp) (R : Rt) : Prop :=
New H (.cells (Value.cells a1) 234 (0, 0)) fun b1 H2 =>
LdA 3 H2 (pt b1) fun v3 =>
∃ (I4 : Jt) (m5 : Mt), JE I4 [(.slice none 0 0), (Value.int .i64 0)] H2 ∧ ∀ w8 w9 : Value, ∀ H7 : Hp, I4 [w8, w9] H7 → ∀ gs6 : Fr,
Bin .num .lss w9 (Value.int .i64 3) fun v10 =>
Br v10 (
RunP Tryz.prog g (opAt Tryz.f198 4 0) (ev (fun s => cond (Nat.beq s 10) v3 (cond (Nat.beq s 11) w9 (undef)))) H7 fun v11 =>
Nil a0 fun v12 =>
FAddr 0 v12 fun v13 =>
Ld H7 v13 fun v14 =>
CF g 60 #[v14, v11] H7 (fun v15 H16 =>
Ext 0 v15 fun v17 =>
Ext 1 v15 fun v18 =>
New H16 (.cells #[(Value.int .i64 0), (Value.int .u32 0), (Value.int .u32 0)] 103 (0, 0)) fun b19 H20 =>
St 3 H20 (pt b19) v17 fun H21 =>
LdA 3 H21 (pt b19) fun v22 =>
BuildSl Tryz.prog 220 1 [(0, v22)] H21 fun v23 H24 =>
App Tryz.prog 103 3 16 (.agg #[(Value.int .i64 0), (Value.int .u32 0), (Value.int .u32 0)]) H24 w8 v23 fun v27 H28 =>
Bin .num .add w9 (Value.int .i64 1) fun v29 =>
Back I4 m5 [v27, v29] H28 [w8, w9] H7) (PanR R)) (
R (.returned w8) H7)
theorem L198_sound (h : L198 g a0 a1 H R) : SCalls Tryz.prog g 198 #[a0, a1] H R :=
 soundF (hn := (.n .e (.n .e (.n (.n .e (.n (.h 0 [5, 11] [0, 10] .e .e) .e)) .e)))) Tryz.func198 h (by kernel_rfl)
def L199 (g : Gh) (a0 a1 : Value) (H : Hp) (R : Rt) : Prop :=
LenS a1 fun v1 =>
∃ (I2 : Jt) (m3 : Mt), JE I2 [(Value.int .i64 (-1)), (Value.int .i64 0)] H ∧ ∀ w6 w7 : Value, ∀ H5 : Hp, I2 [w6, w7] H5 → ∀ gs4 : Fr,
Bin .num .lss w7 v1 fun v8 =>
Br v8 (
∀ J9 : Jt, (∀ w12 : Value, ∀ H11 : Hp, (∀ gs10 : Fr,
Bin .num .add w7 (Value.int .i64 1) fun v13 =>
Back I2 m3 [w12, v13] H11 [w6, w7] H5) → J9 [w12] H11) →
IAddr 3 a1 w7 fun v14 =>
LdA 3 H5 v14 fun v15 =>
New H5 (.cells #[(Value.int .i64 0), (Value.int .u32 0), (Value.int .u32 0)] 103 (0, 0)) fun b16 H17 =>
St 3 H17 (pt b16) v15 fun H18 =>
FAddr 0 (pt b16) fun v19 =>
Ld H18 v19 fun v20 =>
Bin .num .geq v20 (Value.int .i64 0) fun v21 =>
Grp v21 true (fun t22 =>
Bin .num .lss w6 (Value.int .i64 0) fun v23 =>
Grp v23 false (fun t24 =>
Nil a0 fun v25 =>
FAddr 1 v25 fun v26 =>
Ld H18 v26 fun v27 =>
FAddr 0 (pt b16) fun v28 =>
Ld H18 v28 fun v29 =>
IAddr 1 v27 v29 fun v30 =>
Ld H18 v30 fun v31 =>
Nil a0 fun v32 =>
FAddr 1 v32 fun v33 =>
Ld H18 v33 fun v34 =>
IAddr 1 v34 w6 fun v35 =>
Ld H18 v35 fun v36 =>
Bin .num .lss v31 v36 fun v37 =>
(H18 = H18 ∧ v37 = Value.bool t24)) (fun t24 => (Value.bool true) = Value.bool t24) fun t24 => ∀ gs38 : Fr,
(H18 = H18 ∧ (Value.bool t24) = Value.bool t22)) (fun t22 => (Value.bool false) = Value.bool t22) fun t22 => ∀ gs39 : Fr,
Br (Value.bool t22) (
FAddr 0 (pt b16) fun v40 =>
Ld H18 v40 fun v41 =>
JE J9 [v41] H18) (
JE J9 [w6] H18)) (
R (.returned w6) H5)
theorem L199_sound (h : L199 g a0 a1 H R) : SCalls Tryz.prog g 199 #[a0, a1] H R :=
 soundF (hn := (.n .e (.n .e (.n (.n .e (.n (.h 0 [5, 10] [0, 8, 9] (.n .e (.n .e (.h 1 [5] [0, 8, 9, 10] .e .e))) .e) .e)) .e)))) Tryz.func199 h (by kernel_rfl)
def L200 (g : Gh) (a0 a1 a2 a3 : Value) (H : Hp) (R : Rt) : Prop :=
Bin .num .eql a2 a3 fun v1 =>
Br v1 (
R (.returned (.tuple #[a2, (Value.int .i64 0)])) H) (
Nil a0 fun v2 =>
FAddr 0 v2 fun v3 =>
Ld H v3 fun v4 =>
CF g 11 #[v4, a1, a2, a3] H (fun v5 H6 =>
Ext 0 v5 fun v7 =>
Ext 1 v5 fun v8 =>
∀ J9 : Jt, (∀ H11 : Hp, (∀ gs10 : Fr,
R (.returned (.tuple #[(Value.int .u32 0), v8])) H11) → J9 [] H11) →
Bin .num .eql v8 (Value.int .i64 0) fun v12 =>
Br v12 (
Nil a0 fun v13 =>
FAddr 2 v13 fun v14 =>
Ld H6 v14 fun v15 =>
BuildSl Tryz.prog 48 1 [(0, v7)] H6 fun v16 H17 =>
App Tryz.prog 31 1 4 (Value.int .u32 0) H17 v15 v16 fun v20 H21 =>
Nil a0 fun v22 =>
FAddr 2 v22 fun v23 =>
St 1 H21 v23 v20 fun H24 =>
R (.returned (.tuple #[v7, (Value.int .i64 0)])) H24) (
Bin .num .eql v8 (Value.int .i64 8) fun v25 =>
Br v25 (
Nil a0 fun v26 =>
FAddr 0 v26 fun v27 =>
Ld H6 v27 fun v28 =>
CF g 211 #[v28, a1, a2, a3] H6 (fun v29 H30 =>
Ext 0 v29 fun v31 =>
Ext 1 v29 fun v32 =>
Br v32 (
R (.returned (.tuple #[v31, (Value.int .i64 0)])) H30) (
JE J9 [] H30)) (PanR R)) (
JE J9 [] H6))) (PanR R))
theorem L200_sound (h : L200 g a0 a1 a2 a3 H R) : SCalls Tryz.prog g 200 #[a0, a1, a2, a3] H R :=
 soundF (hn := (.n .e (.n .e (.n .e (.h 1 [] [11] .e .e))))) Tryz.func200 h (by kernel_rfl)
def L201 (g : Gh) (a0 a1 : Value) (H : Hp) (R : Rt) : Prop :=
New H (.cells (Value.cells a0) 25 (0, 0)) fun b1 H2 =>
Ld H2 (pt b1) fun v3 =>
MkMap H2 fun v4 H5 =>
Build Tryz.prog 270 [(0, v3), (1, v4)] fun v6 =>
New H5 (.cells (Value.cells v6) 270 (0, 0)) fun b7 H8 =>
New H8 (.cells #[(.pointer none)] 262 (0, 0)) fun b9 H10 =>
St 1 H10 (pt b9) (pt b7) fun H11 =>
Ld H11 (pt b1) fun v12 =>
CF g 51 #[v12, (Value.int .u32 1)] H11 (fun v13 H14 =>
Ld H14 (pt b9) fun v15 =>
CallV Tryz.prog g a1 #[v15] H14 (fun v16 H17 =>
Ld H17 (pt b9) fun v18 =>
Nil v18 fun v19 =>
FAddr 2 v19 fun v20 =>
Ld H17 v20 fun v21 =>
Bin .num .neq v21 (Value.int .i64 0) fun v22 =>
Br v22 (
Ld H17 (pt b9) fun v23 =>
Nil v23 fun v24 =>
FAddr 2 v24 fun v25 =>
Ld H17 v25 fun v26 =>
DefF Tryz.prog g 212 #[(pt b9), (pt b1)] H17 fun H27 =>
R (.returned (.tuple #[(Value.int .u32 0), (Value.bool false), v26])) H27) (
Ld H17 (pt b9) fun v28 =>
Nil v28 fun v29 =>
FAddr 1 v29 fun v30 =>
Ld H17 v30 fun v31 =>
Look (.int .u32) (Value.int .i64 0) false H17 v31 v16 fun v32 =>
Bin .num .gtr v32 (Value.int .i64 0) fun v33 =>
Br v33 (
Ld H17 (pt b9) fun v34 =>
Nil v34 fun v35 =>
FAddr 1 v35 fun v36 =>
Ld H17 v36 fun v37 =>
MapDel (.int .u32) H17 v37 v16 fun H40 =>
DefF Tryz.prog g 212 #[(pt b9), (pt b1)] H40 fun H41 =>
R (.returned (.tuple #[v16, (Value.bool true), (Value.int .i64 0)])) H41) (
Ld H17 (pt b1) fun v42 =>
CF g 51 #[v42, v16] H17 (fun v43 H44 =>
Bin .num .eql v43 (Value.int .i64 0) fun v45 =>
DefF Tryz.prog g 212 #[(pt b9), (pt b1)] H44 fun H46 =>
R (.returned (.tuple #[v16, v45, (Value.int .i64 0)])) H46) NoP))) NoP) NoP
theorem L201_sound (h : L201 g a0 a1 H R) : SCalls Tryz.prog g 201 #[a0, a1] H R :=
 soundT (hn := (.n .e (.n .e (.n .e (.n .e .e))))) Tryz.func201 h (by kernel_rfl)
def L202 (g : Gh) (a0 a1 a2 a3 : Value) (H : Hp) (R : Rt) : Prop :=
Ld H a1 fun v1 =>
Ld H a2 fun v2 =>
CF g 203 #[a0, v1, v2, (.func (.func 204) #[] #[a3])] H (fun v3 H4 =>
R (.returned v3) H4) (PanR R)
theorem L202_sound (h : L202 g a0 a1 a2 a3 H R) : SCalls Tryz.prog g 202 #[a0, a1, a2, a3] H R :=
 soundF (hn := .e) Tryz.func202 h (by kernel_rfl)
def L203 (g : Gh) (a0 a1 a2 a3 : Value) (H : Hp) (R : Rt) : Prop :=
New H (.cells (Value.cells a0) 262 (0, 0)) fun b1 H2 =>
New H2 (.cells (Value.cells a3) 101 (0, 0)) fun b3 H4 =>
Ld H4 (pt b1) fun v5 =>
Nil v5 fun v6 =>
FAddr 0 v6 fun v7 =>
Ld H4 v7 fun v8 =>
CF g 42 #[v8, a2] H4 (fun v9 H10 =>
Ext 0 v9 fun v11 =>
Ext 1 v9 fun v12 =>
New H10 (.cells #[(Value.int .i64 0)] 3 (0, 0)) fun b13 H14 =>
St 1 H14 (pt b13) v11 fun H15 =>
MkMap H15 fun v16 H17 =>
New H17 (.cells #[(.map none)] 271 (0, 0)) fun b18 H19 =>
St 1 H19 (pt b18) v16 fun H20 =>
New H20 (.cells #[.nilFunc] 272 (0, 0)) fun b21 H22 =>
St 1 H22 (pt b21) (.func (.func 213) #[] #[(pt b1), (pt b13), (pt b18), (pt b3), (pt b21)]) fun H23 =>
Ld H23 (pt b21) fun v24 =>
CallV Tryz.prog g v24 #[a1] H23 (fun v25 H26 =>
R (.returned v25) H26) (PanR R)) (PanR R)
theorem L203_sound (h : L203 g a0 a1 a2 a3 H R) : SCalls Tryz.prog g 203 #[a0, a1, a2, a3] H R :=
 soundF (hn := .e) Tryz.func203 h (by kernel_rfl)
def L204 (g : Gh) (a0 a1 : Value) (H : Hp) (R : Rt) : Prop :=
New H (.cells (Value.cells a0) 103 (0, 0)) fun b1 H2 =>
Ld H2 a1 fun v3 =>
Br v3 (
FAddr 2 (pt b1) fun v4 =>
Ld H2 v4 fun v5 =>
R (.returned v5) H2) (
FAddr 1 (pt b1) fun v6 =>
Ld H2 v6 fun v7 =>
R (.returned v7) H2)
theorem L204_sound (h : L204 g a0 a1 H R) : SCalls Tryz.prog g 204 #[a0, a1] H R :=
 soundF (hn := .e) Tryz.func204 h (by kernel_rfl)
def L205 (g : Gh) (a0 a1 a2 a3 : Value) (H : Hp) (R : Rt) : Prop :=
New H (.cells (Value.cells a1) 31 (0, 0)) fun b1 H2 =>
New H2 (.cells (Value.cells a2) 3 (0, 0)) fun b3 H4 =>
New H4 (.cells (Value.cells a3) 4 (0, 0)) fun b5 H6 =>
CF g 201 #[a0, (.func (.func 216) #[] #[(pt b1), (pt b3), (pt b5)])] H6 (fun v7 H8 =>
Ext 0 v7 fun v9 =>
Ext 1 v7 fun v10 =>
Ext 2 v7 fun v11 =>
R (.returned (.tuple #[v9, v10, v11])) H8) (PanR R)
theorem L205_sound (h : L205 g a0 a1 a2 a3 H R) : SCalls Tryz.prog g 205 #[a0, a1, a2, a3] H R :=
 soundF (hn := .e) Tryz.func205 h (by kernel_rfl)
def L209 (g : Gh) (a0 a1 : Value) (H : Hp) (R : Rt) : Prop :=
New H (.cells (Value.cells a1) 55 (0, 0)) fun b1 H2 =>
DR H2 fun R3 =>
LdA 2 R3 (pt b1) fun v4 =>
LdA 2 R3 (pt b1) fun v5 =>
CF g 210 #[v4] H2 (fun v6 H7 =>
Ent H7 R3 ∧
MapUpd (.string) H7 a0 v6 v5 fun H8 =>
R (.returned (.tuple #[])) H8) NoKP
theorem L209_sound (h : L209 g a0 a1 H R) : SCalls Tryz.prog g 209 #[a0, a1] H R :=
 soundF (hn := (.n .e (.h 0 [0, 1, 3, 2, 4] [] .e .e))) Tryz.func209 h (by kernel_rfl)
def L210 (g : Gh) (a0 : Value) (H : Hp) (R : Rt) : Prop :=
New H (.cells (Value.cells a0) 55 (0, 0)) fun b1 H2 =>
FAddr 1 (pt b1) fun v3 =>
Ld H2 v3 fun v4 =>
LenS v4 fun v5 =>
∃ (I6 : Jt) (m7 : Mt), JE I6 [(.slice none 0 0), (Value.int .i64 0)] H2 ∧ ∀ w10 w11 : Value, ∀ H9 : Hp, I6 [w10, w11] H9 → ∀ gs8 : Fr,
Bin .num .lss w11 v5 fun v12 =>
Br v12 (
IAddr 1 v4 w11 fun v13 =>
Ld H9 v13 fun v14 =>
∃ (I15 : Jt) (m16 : Mt), JE I15 [w10, (Value.int .i64 0)] H9 ∧ ∀ w19 w20 : Value, ∀ H18 : Hp, I15 [w19, w20] H18 → ∀ gs17 : Fr,
Bin .num .lss w20 (Value.int .i64 8) fun v21 =>
Br v21 (
Bin .num .mul (Value.int .i64 8) w20 fun v22 =>
Bin .num .shr v14 v22 fun v23 =>
ConvI .u8 v23 fun v24 =>
BuildSl Tryz.prog 82 1 [(0, v24)] H18 fun v25 H26 =>
App Tryz.prog 5 1 1 (Value.int .u8 0) H26 w19 v25 fun v29 H30 =>
Bin .num .add w20 (Value.int .i64 1) fun v31 =>
Back I15 m16 [v29, v31] H30 [w19, w20] H18) (
Bin .num .add w11 (Value.int .i64 1) fun v32 =>
Back I6 m7 [w19, v32] H18 [w10, w11] H9)) (
BytesS H9 w10 fun v33 =>
R (.returned v33) H9)
theorem L210_sound (h : L210 g a0 H R) : SCalls Tryz.prog g 210 #[a0] H R :=
 soundF (hn := (.n .e (.n .e (.n (.n .e (.n (.h 0 [3, 10] [8, 9] (.n .e (.n .e (.n (.n (.n .e (.n .e (.n (.h 0 [3, 14] [5, 8, 9, 10] .e .e) .e))) .e) .e))) .e) .e)) .e)))) Tryz.func210 h (by kernel_rfl)
def L212 (g : Gh) (a0 a1 : Value) (H : Hp) (R : Rt) : Prop :=
Ld H a0 fun v1 =>
Nil v1 fun v2 =>
FAddr 1 v2 fun v3 =>
Ld H v3 fun v4 =>
Rng H v4 fun v5 H6 =>
∃ (I7 : Jt) (m8 : Mt), JE I7 [] H6 ∧ ∀ H10 : Hp, I7 [] H10 → ∀ gs9 : Fr,
Nxt H10 v5 fun v11 H12 =>
Ext 0 v11 fun v13 =>
Br v13 (
Entr H12 v5 fun v14 =>
Ext 0 v14 fun v15 =>
Ld H12 a1 fun v16 =>
CF g 12 #[v16, v15] H12 (fun v17 H18 =>
Back I7 m8 [] H18 [] H10) (PanR R)) (
R (.returned (.tuple #[])) H12)
theorem L212_soundD (h : L212 g a0 a1 H R) : SCallsD Tryz.prog g 212 #[a0, a1] H R :=
 soundD (hn := (.n .e (.n (.h 0 [] [1, 7] .e .e) .e))) Tryz.func212 h (by kernel_rfl)
def L213 (g : Gh) (a0 a1 a2 a3 a4 a5 : Value) (H : Hp) (R : Rt) : Prop :=
Ld H a1 fun v1 =>
CF g 214 #[v1, a0] H (fun v2 H3 =>
Ext 0 v2 fun v4 =>
Ext 1 v2 fun v5 =>
New H3 (.cells #[(Value.int .i64 0), (Value.int .u32 0), (Value.int .u32 0)] 103 (0, 0)) fun b6 H7 =>
St 3 H7 (pt b6) v4 fun H8 =>
Ld H8 a2 fun v9 =>
Bin .num .gtr v5 v9 fun v10 =>
Grp v10 false (fun t11 =>
Ld H8 a1 fun v12 =>
Nil v12 fun v13 =>
FAddr 2 v13 fun v14 =>
Ld H8 v14 fun v15 =>
Bin .num .neq v15 (Value.int .i64 0) fun v16 =>
(H8 = H8 ∧ v16 = Value.bool t11)) (fun t11 => (Value.bool true) = Value.bool t11) fun t11 => ∀ gs17 : Fr,
Br (Value.bool t11) (
R (.returned a0) H8) (
Ld H8 a3 fun v18 =>
Look (.int .u32) (Value.int .u32 0) true H8 v18 a0 fun v19 =>
Ext 0 v19 fun v20 =>
Ext 1 v19 fun v21 =>
Br v21 (
R (.returned v20) H8) (
∀ J22 : Jt, (∀ w25 : Value, ∀ H24 : Hp, (∀ gs23 : Fr,
Ld H24 a3 fun v26 =>
MapUpd (.int .u32) H24 v26 a0 w25 fun H27 =>
R (.returned w25) H27) → J22 [w25] H24) →
Ld H8 a2 fun v28 =>
Bin .num .eql v5 v28 fun v29 =>
Br v29 (
Ld H8 a4 fun v30 =>
LdA 3 H8 (pt b6) fun v31 =>
CallV Tryz.prog g v30 #[v31] H8 (fun v32 H33 =>
JE J22 [v32] H33) (PanR R)) (
Ld H8 a5 fun v34 =>
FAddr 1 (pt b6) fun v35 =>
Ld H8 v35 fun v36 =>
CallV Tryz.prog g v34 #[v36] H8 (fun v37 H38 =>
DR H38 fun R39 =>
Ld R39 a1 fun v40 =>
FAddr 0 (pt b6) fun v41 =>
Ld R39 v41 fun v42 =>
Ld R39 a5 fun v43 =>
FAddr 2 (pt b6) fun v44 =>
Ld R39 v44 fun v45 =>
CallV Tryz.prog g v43 #[v45] H38 (fun v46 H47 =>
Ent H47 R39 ∧
CF g 215 #[v40, v42, v37, v46] H47 (fun v48 H49 =>
Ent H49 R39 ∧
JE J22 [v48] H49) NoKP) NoKP) (PanR R))))) (PanR R)
theorem L213_sound (h : L213 g a0 a1 a2 a3 a4 a5 H R) : SCalls Tryz.prog g 213 #[a0, a1, a2, a3, a4, a5] H R :=
 soundF (hn := (.n .e (.n .e (.n (.n (.h 0 [] [1] .e .e) .e) (.n .e (.n .e (.h 1 [12] [0, 3] (.n .e (.n .e (.n .e (.h 0 (List.range 10) [] .e .e)))) .e))))))) Tryz.func213 h (by kernel_rfl)
def L214 (g : Gh) (a0 a1 : Value) (H : Hp) (R : Rt) : Prop :=
New H (.cells #[(Value.int .i64 0), (Value.int .u32 0), (Value.int .u32 0)] 103 (0, 0)) fun b1 H2 =>
Nil a0 fun v3 =>
FAddr 0 v3 fun v4 =>
Ld H2 v4 fun v5 =>
CF g 60 #[v5, a1] H2 (fun v6 H7 =>
Ext 0 v6 fun v8 =>
Ext 1 v6 fun v9 =>
New H7 (.cells #[(Value.int .i64 0), (Value.int .u32 0), (Value.int .u32 0)] 103 (0, 0)) fun b10 H11 =>
St 3 H11 (pt b10) v8 fun H12 =>
DR H12 fun R13 =>
LdA 3 R13 (pt b10) fun v14 =>
LdA 3 R13 (pt b10) fun v15 =>
CF g 222 #[a0, v15] H12 (fun v16 H17 =>
Ent H17 R13 ∧
St 3 H17 (pt b1) v14 fun H18 =>
Ent H18 R13 ∧
LdA 3 H18 (pt b1) fun v19 =>
R (.returned (.tuple #[v19, v16])) H18) NoKP) (PanR R)
theorem L214_sound (h : L214 g a0 a1 H R) : SCalls Tryz.prog g 214 #[a0, a1] H R :=
 soundF (hn := (.n .e (.n .e (.n (.h 0 (List.range 6) [] .e .e) .e)))) Tryz.func214 h (by kernel_rfl)
def L215 (g : Gh) (a0 a1 a2 a3 : Value) (H : Hp) (R : Rt) : Prop :=
Nil a0 fun v1 =>
FAddr 2 v1 fun v2 =>
Ld H v2 fun v3 =>
Bin .num .neq v3 (Value.int .i64 0) fun v4 =>
Br v4 (
R (.returned (Value.int .u32 0)) H) (
Nil a0 fun v5 =>
FAddr 0 v5 fun v6 =>
Ld H v6 fun v7 =>
CF g 11 #[v7, a1, a2, a3] H (fun v8 H9 =>
Ext 0 v8 fun v10 =>
Ext 1 v8 fun v11 =>
∀ J12 : Jt, (∀ w15 : Value, ∀ H14 : Hp, (∀ gs13 : Fr,
R (.returned w15) H14) → J12 [w15] H14) →
Bin .num .eql v11 (Value.int .i64 8) fun v16 =>
Br v16 (
Nil a0 fun v17 =>
FAddr 0 v17 fun v18 =>
Ld H9 v18 fun v19 =>
CF g 211 #[v19, a1, a2, a3] H9 (fun v20 H21 =>
Ext 0 v20 fun v22 =>
Ext 1 v20 fun v23 =>
JE J12 [v22] H21) (PanR R)) (
Bin .num .neq v11 (Value.int .i64 0) fun v24 =>
Br v24 (
Nil a0 fun v25 =>
FAddr 2 v25 fun v26 =>
St 1 H9 v26 v11 fun H27 =>
JE J12 [v10] H27) (
Bin .num .leq v10 (Value.int .u32 1) fun v28 =>
Grp v28 false (fun t29 =>
Nil a0 fun v30 =>
FAddr 1 v30 fun v31 =>
Ld H9 v31 fun v32 =>
Look (.int .u32) (Value.int .i64 0) false H9 v32 v10 fun v33 =>
Bin .num .gtr v33 (Value.int .i64 0) fun v34 =>
(H9 = H9 ∧ v34 = Value.bool t29)) (fun t29 => (Value.bool true) = Value.bool t29) fun t29 => ∀ gs35 : Fr,
Br (Value.bool t29) (
Nil a0 fun v36 =>
FAddr 0 v36 fun v37 =>
Ld H9 v37 fun v38 =>
CF g 12 #[v38, v10] H9 (fun v39 H40 =>
JE J12 [v10] H40) (PanR R)) (
Nil a0 fun v41 =>
FAddr 1 v41 fun v42 =>
Ld H9 v42 fun v43 =>
MapUpd (.int .u32) H9 v43 v10 (Value.int .i64 1) fun H44 =>
JE J12 [v10] H44)))) (PanR R))
theorem L215_sound (h : L215 g a0 a1 a2 a3 H R) : SCalls Tryz.prog g 215 #[a0, a1, a2, a3] H R :=
 soundF (hn := (.n .e (.n .e (.n .e (.h 1 [9] [] (.n (.n .e (.n .e (.n .e (.n .e (.n (.h 0 [] [1] .e .e) .e))))) .e) .e))))) Tryz.func215 h (by kernel_rfl)
def L216 (g : Gh) (a0 a1 a2 a3 : Value) (H : Hp) (R : Rt) : Prop :=
New H (.cells (Value.cells a0) 262 (0, 0)) fun b1 H2 =>
Ld H2 (pt b1) fun v3 =>
Ld H2 a1 fun v4 =>
Ld H2 a2 fun v5 =>
CF g 203 #[v3, v4, v5, (.func (.func 217) #[] #[(pt b1), a3])] H2 (fun v6 H7 =>
R (.returned v6) H7) (PanR R)
theorem L216_sound (h : L216 g a0 a1 a2 a3 H R) : SCalls Tryz.prog g 216 #[a0, a1, a2, a3] H R :=
 soundF (hn := .e) Tryz.func216 h (by kernel_rfl)
def L217 (g : Gh) (a0 a1 a2 : Value) (H : Hp) (R : Rt) : Prop :=
New H (.cells (Value.cells a0) 103 (0, 0)) fun b1 H2 =>
Ld H2 a1 fun v3 =>
FAddr 1 (pt b1) fun v4 =>
Ld H2 v4 fun v5 =>
FAddr 2 (pt b1) fun v6 =>
Ld H2 v6 fun v7 =>
Ld H2 a2 fun v8 =>
CF g 218 #[v3, v5, v7, v8] H2 (fun v9 H10 =>
R (.returned v9) H10) (PanR R)
theorem L217_sound (h : L217 g a0 a1 a2 H R) : SCalls Tryz.prog g 217 #[a0, a1, a2] H R :=
 soundF (hn := .e) Tryz.func217 h (by kernel_rfl)
def L218 (g : Gh) (a0 a1 a2 a3 : Value) (H : Hp) (R : Rt) : Prop :=
New H (.cells (Value.cells a0) 262 (0, 0)) fun b1 H2 =>
New H2 (.cells #[(Value.int .u32 0)] 31 (0, 0)) fun b3 H4 =>
New H4 (.cells #[(Value.int .u32 0)] 31 (0, 0)) fun b5 H6 =>
St 1 H6 (pt b3) (Value.int .u32 0) fun H7 =>
St 1 H7 (pt b5) (Value.int .u32 1) fun H8 =>
∀ J9 : Jt, (∀ H11 : Hp, (∀ gs10 : Fr,
MkMap H11 fun v12 H13 =>
New H13 (.cells #[(.map none)] 280 (0, 0)) fun b14 H15 =>
St 1 H15 (pt b14) v12 fun H16 =>
New H16 (.cells #[.nilFunc] 281 (0, 0)) fun b17 H18 =>
St 1 H18 (pt b17) (.func (.func 223) #[] #[(pt b3), (pt b5), (pt b1), (pt b14), (pt b17)]) fun H19 =>
Ld H19 (pt b17) fun v20 =>
CallV Tryz.prog g v20 #[a1, a2] H19 (fun v21 H22 =>
R (.returned v21) H22) (PanR R)) → J9 [] H11) →
Br a3 (
St 1 H8 (pt b3) (Value.int .u32 1) fun H23 =>
St 1 H23 (pt b5) (Value.int .u32 0) fun H24 =>
JE J9 [] H24) (
JE J9 [] H8)
theorem L218_sound (h : L218 g a0 a1 a2 a3 H R) : SCalls Tryz.prog g 218 #[a0, a1, a2, a3] H R :=
 soundF (hn := (.n .e (.n .e (.h 1 [] [1, 2, 4, 9, 10] .e .e)))) Tryz.func218 h (by kernel_rfl)
def L222 (g : Gh) (a0 a1 : Value) (H : Hp) (R : Rt) : Prop :=
New H (.cells (Value.cells a1) 103 (0, 0)) fun b1 H2 =>
FAddr 0 (pt b1) fun v3 =>
Ld H2 v3 fun v4 =>
Bin .num .lss v4 (Value.int .i64 0) fun v5 =>
Br v5 (
Nil a0 fun v6 =>
FAddr 0 v6 fun v7 =>
Ld H2 v7 fun v8 =>
CF g 56 #[v8] H2 (fun v9 H10 =>
R (.returned v9) H10) (PanR R)) (
DR H2 fun R11 =>
Nil a0 fun v12 =>
FAddr 0 v12 fun v13 =>
Ld R11 v13 fun v14 =>
FAddr 0 (pt b1) fun v15 =>
Ld R11 v15 fun v16 =>
CF g 42 #[v14, v16] H2 (fun v17 H18 =>
Ent H18 R11 ∧
Ext 0 v17 fun v19 =>
Ext 1 v17 fun v20 =>
R (.returned v19) H18) NoKP)
theorem L222_sound (h : L222 g a0 a1 H R) : SCalls Tryz.prog g 222 #[a0, a1] H R :=
 soundF (hn := (.n .e (.n .e (.n (.h 0 (List.range 12) [] .e .e) .e)))) Tryz.func222 h (by kernel_rfl)
def L223 (g : Gh) (a0 a1 a2 a3 a4 a5 a6 : Value) (H : Hp) (R : Rt) : Prop :=
Ld H a2 fun v1 =>
Bin .num .eql a0 v1 fun v2 =>
Grp v2 false (fun t3 =>
Ld H a2 fun v4 =>
Bin .num .eql a1 v4 fun v5 =>
(H = H ∧ v5 = Value.bool t3)) (fun t3 => (Value.bool true) = Value.bool t3) fun t3 => ∀ gs6 : Fr,
Br (Value.bool t3) (
Ld H a2 fun v7 =>
R (.returned v7) H) (
Ld H a3 fun v8 =>
Bin .num .eql a0 v8 fun v9 =>
Grp v9 false (fun t10 =>
Bin .num .eql a0 a1 fun v11 =>
(H = H ∧ v11 = Value.bool t10)) (fun t10 => (Value.bool true) = Value.bool t10) fun t10 => ∀ gs12 : Fr,
Br (Value.bool t10) (
R (.returned a1) H) (
Ld H a3 fun v13 =>
Bin .num .eql a1 v13 fun v14 =>
Br v14 (
R (.returned a0) H) (
Ld H a4 fun v15 =>
Nil v15 fun v16 =>
FAddr 2 v16 fun v17 =>
Ld H v17 fun v18 =>
Bin .num .neq v18 (Value.int .i64 0) fun v19 =>
Br v19 (
R (.returned (Value.int .u32 0)) H) (
MinI a0 a1 fun v20 =>
MaxI a0 a1 fun v21 =>
Build Tryz.prog 283 [(0, v20), (1, v21)] fun v22 =>
New H (.cells #[(Value.int .u32 0), (Value.int .u32 0)] 283 (0, 0)) fun b23 H24 =>
St 2 H24 (pt b23) v22 fun H25 =>
Ld H25 a5 fun v26 =>
LdA 2 H25 (pt b23) fun v27 =>
LookS Tryz.prog 283 (Value.int .u32 0) true H25 v26 v27 fun v28 =>
Ext 0 v28 fun v29 =>
Ext 1 v28 fun v30 =>
Br v30 (
R (.returned v29) H25) (
Ld H25 a4 fun v31 =>
CF g 214 #[v31, a0] H25 (fun v32 H33 =>
Ext 0 v32 fun v34 =>
Ext 1 v32 fun v35 =>
New H33 (.cells #[(Value.int .i64 0), (Value.int .u32 0), (Value.int .u32 0)] 103 (0, 0)) fun b36 H37 =>
St 3 H37 (pt b36) v34 fun H38 =>
Ld H38 a4 fun v39 =>
CF g 214 #[v39, a1] H38 (fun v40 H41 =>
Ext 0 v40 fun v42 =>
Ext 1 v40 fun v43 =>
New H41 (.cells #[(Value.int .i64 0), (Value.int .u32 0), (Value.int .u32 0)] 103 (0, 0)) fun b44 H45 =>
St 3 H45 (pt b44) v42 fun H46 =>
FAddr 0 (pt b36) fun v47 =>
Ld H46 v47 fun v48 =>
∀ J49 : Jt, (∀ w52 : Value, ∀ H51 : Hp, (∀ gs50 : Fr,
∀ J53 : Jt, (∀ H55 : Hp, (∀ gs54 : Fr,
∀ J56 : Jt, (∀ H58 : Hp, (∀ gs57 : Fr,
Ld H58 a6 fun v59 =>
FAddr 1 (pt b36) fun v60 =>
Ld H58 v60 fun v61 =>
FAddr 1 (pt b44) fun v62 =>
Ld H58 v62 fun v63 =>
CallV Tryz.prog g v59 #[v61, v63] H58 (fun v64 H65 =>
DR H65 fun R66 =>
Ld R66 a4 fun v67 =>
Ld R66 a6 fun v68 =>
FAddr 2 (pt b36) fun v69 =>
Ld R66 v69 fun v70 =>
FAddr 2 (pt b44) fun v71 =>
Ld R66 v71 fun v72 =>
CallV Tryz.prog g v68 #[v70, v72] H65 (fun v73 H74 =>
Ent H74 R66 ∧
CF g 215 #[v67, w52, v64, v73] H74 (fun v75 H76 =>
Ent H76 R66 ∧
Ld H76 a5 fun v77 =>
LdA 2 H76 (pt b23) fun v78 =>
MapUpdS Tryz.prog 283 H76 v77 v78 v75 fun H79 =>
R (.returned v75) H79) NoKP) NoKP) (PanR R)) → J56 [] H58) →
Bin .num .gtr v43 v35 fun v80 =>
Br v80 (
FAddr 1 (pt b44) fun v81 =>
St 1 H55 v81 a1 fun H82 =>
FAddr 2 (pt b44) fun v83 =>
St 1 H82 v83 a1 fun H84 =>
JE J56 [] H84) (
JE J56 [] H55)) → J53 [] H55) →
Bin .num .gtr v35 v43 fun v85 =>
Br v85 (
FAddr 1 (pt b36) fun v86 =>
St 1 H51 v86 a0 fun H87 =>
FAddr 2 (pt b36) fun v88 =>
St 1 H87 v88 a0 fun H89 =>
JE J53 [] H89) (
JE J53 [] H51)) → J49 [w52] H51) →
Bin .num .lss v43 v35 fun v90 =>
Br v90 (
FAddr 0 (pt b44) fun v91 =>
Ld H46 v91 fun v92 =>
JE J49 [v92] H46) (
JE J49 [v48] H46)) (PanR R)) (PanR R))))))
theorem L223_sound (h : L223 g a0 a1 a2 a3 a4 a5 a6 H R) : SCalls Tryz.prog g 223 #[a0, a1, a2, a3, a4, a5, a6] H R :=
 soundF (hn := (.n .e (.n (.n (.n (.h 0 [] [1] .e .e) (.n .e (.n (.h 0 [] [1] .e .e) .e))) .e) (.n .e (.n .e (.n .e (.n .e (.n .e (.h 1 [17] [0, 1, 4, 5, 6, 10, 13, 14, 15, 16] .e (.h 1 [] [1, 4, 5, 6, 10, 13, 14, 15, 16, 17] .e (.h 1 [] [4, 5, 6, 10, 13, 15, 17] .e (.n .e (.n (.h 0 (List.range 11) [] .e .e) .e))))))))))))) Tryz.func223 h (by kernel_rfl)
end Go.Proofs
set_option maxRecDepth 100000
namespace Go.Proofs
open Go Go.Sx
theorem buildOne {B : Hp} {s : Value} {n : Int} {K : Value → Hp → Prop} (h : ∀ b, K (.slice (some ⟨b, 0, none⟩) 1 1) ((b, .cells #[.int .i64 n, s] 55 (0, 0)) :: B)) :
  BuildSl Tryz.prog 49 1 [(0, .agg #[.int .i64 n, s])] B K :=
 BuildSl.one (r := [.int .i64 n, s]) (e := 55) (k := 2) (z := .agg #[.int .i64 0, .slice none 0 0]) (by kernel_rfl) (by kernel_rfl) (by kernel_rfl) (by decide) rfl h
theorem range_done {G : Nat → Nat} {W : Nat} : ((List.range W).map fun k => if k < W then G k else 0) = (List.range W).map G := by
 apply List.map_congr_left
 intro k hk
 rw [if_pos (List.mem_range.1 hk)]
theorem frm_len {n : Nat} {ws : List Nat} (h : Tab.Frm n ws) : ws.length ≤ 4294967296 := by have := h.len; have := Tab.wN_le h.n16; omega
theorem oneCell_words {B : Hp} {s : Value} {ws : List Nat} (h : Words B s ws) : s.oneCell' = true := by obtain ⟨a, c, rfl, _⟩ := h.1.shape; rfl
theorem range_set {G : Nat → Nat} {W i : Nat} (hi : i < W) : (iw ((List.range W).map fun k => if k < i then G k else 0)).set i ((G i : Nat) : Int) = iw ((List.range W).map fun k => if k < i + 1 then G k else 0) := by
 apply List.ext_getElem?
 intro j
 unfold iw
 by_cases e : i = j
 ·subst e; simp [hi]
 ·rw [List.getElem?_set_ne e]
  by_cases hj : j < W
  ·simp only [List.getElem?_map, List.getElem?_range hj, Option.map_some]
   by_cases h2 : j < i
   ·rw [if_pos h2, if_pos (by omega)]
   ·rw [if_neg h2, if_neg (by omega)]
  ·rw [List.getElem?_eq_none (by simp; omega), List.getElem?_eq_none (by simp; omega)]
theorem range_zero {G : Nat → Nat} {W : Nat} : List.replicate W (0 : Int) = iw ((List.range W).map fun k => if k < 0 then G k else 0) := by
 apply List.ext_getElem?
 intro j
 unfold iw
 by_cases hj : j < W
 ·simp [hj]
 ·rw [List.getElem?_eq_none (by simp; omega), List.getElem?_eq_none (by simp; omega)]
theorem bytesW {n : Nat} (hn : n ≤ 16) : Tab.wN n ≤ 9223372036854775807 ∧ Tab.wN n * 8 ≤ 281474976710656 := by have := Tab.wN_le hn; omega
end Go.Proofs
set_option maxRecDepth 100000
namespace Go.Proofs
open Go Go.Sx
def bcells (l : List Bool) : Array Value := (l.map Value.bool).toArray
theorem bcells_set (l : List Bool) (i : Nat) (b : Bool) : (bcells l).setIfInBounds i (.bool b) = bcells (l.set i b) := by simp [bcells, List.map_set]
theorem made_bools (n : Nat) : madeCells (Value.cells (.bool false)) (n * 1) = bcells (List.replicate n false) := by
 apply Array.ext
 ·simp [madeCells, bcells]
 ·intro i h1 h2
  simp [madeCells, bcells, Value.cells, Nat.mod_one]
def Bools (B : Hp) (v : Value) (l : List Bool) : Prop := Sl 1 B v (l.map fun b => [Value.bool b])
theorem Bools.block {B : Hp} {b cap : Nat} {l : List Bool} {T : TypeId} {fz : Nat × Nat} (hm : (b, Obj.cells (bcells l) T fz) ∈ B) (hc : l.length ≤ cap) : Bools B (.slice (some ⟨b, 0, none⟩) l.length cap) l := by
 refine ⟨fun r hr => by obtain ⟨b, _, rfl⟩ := List.mem_map.1 hr; rfl, .inr ⟨b, 0, cap, _, T, fz, by simp, by simpa using hc, hm, by simp [bcells], fun i r hi j v hj => ?_⟩⟩
 rw [List.getElem?_map] at hi
 cases hl : l[i]? with
 | none => rw [hl] at hi; simp at hi
 | some n =>
  rw [hl] at hi
  simp only [Option.map_some, Option.some.injEq] at hi
  subst hi
  cases j with
  | zero =>
   simp only [List.getElem?_cons_zero, Option.some.injEq] at hj
   subst hj
   simp [bcells, hl]
  | succ j => simp at hj
theorem Bools.ld {kd : IntKind} {B H : Hp} {v : Value} {l : List Bool} (h : Bools B v l) {i : Nat} {b : Bool} (hi : l[i]? = some b) (hs : ∀ x ∈ B, x ∈ H) {K : Value → Prop} (hk : K (.bool b)) : IAddr 1 v (.int kd (i : Int)) (fun p => Ld H p K) :=
 IAddr.sl h (by rw [List.getElem?_map, hi]; rfl) fun p hp => Ld.at hp hs hk
theorem MkSlice.bools {H : Hp} {T : TypeId} {kl : IntKind} {n : Nat} {K : Value → Hp → Prop} (hmax : n ≤ 281474976710656)
  (h : ∀ b, K (.slice (some ⟨b, 0, none⟩) n n) ((b, .cells (bcells (List.replicate n false)) T (0, 0)) :: H)) : MkSlice T 1 1 (.bool false) H (.int kl n) (.int kl n) K :=
 ⟨kl, kl, n, n, rfl, rfl, Nat.le_refl _, by omega, by omega, fun b _ => by rw [made_bools]; exact h b⟩
theorem St.bools {H : Hp} {b i : Nat} {l : List Bool} {x : Bool} {T : TypeId} {H' : Hp} {K : Hp → Prop} (hu : Upd b (.cells (bcells l) T (0, 0)) (.cells (bcells (l.set i x)) T (0, 0)) H H') (hi : i < l.length) (h : K H') :
  St 1 H (.pointer (some ⟨b, 0 + i * 1, none⟩)) (.bool x) K :=
 St.one (c := bcells l) (c' := bcells (l.set i x)) hu rfl (by simpa [bcells] using hi) (by rw [Nat.zero_add, Nat.mul_one]; exact bcells_set l i x) h
end Go.Proofs
set_option maxRecDepth 100000
namespace Go.Proofs
open Go Go.Sx
theorem unlike_le (L : List (List Nat)) : (Tab.unlike L).length ≤ L.length := by
 have := Tab.foldl_add_length (fun a l => Tab.add l a) 1 (fun a l => Tab.add_length l a) L []
 simpa [Tab.unlike] using this
theorem given_le (n u : Nat) (L : List (List Nat)) : (Tab.given n L u).length ≤ 2 * L.length := by
 have h := Tab.foldl_add_length (fun t acc => Tab.add (Tab.add acc (Tab.cof n t u false)) (Tab.cof n t u true)) 2 (fun a l => by have h1 := Tab.add_length (Tab.add l (Tab.cof n a u false)) (Tab.cof n a u true); have h2 := Tab.add_length l (Tab.cof n a u false); omega) L []
 simpa [Tab.given] using h
end Go.Proofs
namespace Bdd
open Tab
theorem setb_comm {x u v : Nat} {b c : Bool} (h : u ≠ v) : setb (setb x u b) v c = setb (setb x v c) u b := by
 apply Nat.eq_of_testBit_eq; intro k
 rw [testBit_setb, testBit_setb, testBit_setb, testBit_setb]
 by_cases e1 : k = u <;> by_cases e2 : k = v
 ·exact absurd (e1.symm.trans e2) h
 ·simp [e1, h]
 ·simp [e2, Ne.symm h]
 ·simp [e1, e2]
structure Nd where
 v : Nat
 lo : Nat
 hi : Nat
deriving DecidableEq
abbrev Sto := Nat → Option Nd
abbrev Fn := Nat → Bool
def live (N : Sto) (r : Nat) : Prop := r < 2 ∨ ∃ d, N r = some d
def dep (n : Nat) (lev : Nat → Nat) (N : Sto) (r : Nat) : Nat := match N r with | some d => lev d.v | none => n
structure WF (n : Nat) (lev : Nat → Nat) (N : Sto) : Prop where
 two : ∀ {r d}, N r = some d → 2 ≤ r
 var : ∀ {r d}, N r = some d → d.v < n
 ne : ∀ {r d}, N r = some d → d.lo ≠ d.hi
 lo : ∀ {r d}, N r = some d → live N d.lo ∧ lev d.v < dep n lev N d.lo
 hi : ∀ {r d}, N r = some d → live N d.hi ∧ lev d.v < dep n lev N d.hi
 uq : ∀ {r r' d}, N r = some d → N r' = some d → r = r'
structure Lev (n : Nat) (lev : Nat → Nat) : Prop where
 lt : ∀ v, v < n → lev v < n
 inj : ∀ u v, u < n → v < n → lev u = lev v → u = v
structure Interp (N : Sto) (S : Nat → Fn) : Prop where
 zero : ∀ x, S 0 x = false
 one : ∀ x, S 1 x = true
 node : ∀ {r d}, N r = some d → ∀ x, S r x = if x.testBit d.v then S d.hi x else S d.lo x
variable {n : Nat} {lev : Nat → Nat} {N : Sto} {S : Nat → Fn}
theorem dep_none {r : Nat} (h : N r = none) : dep n lev N r = n := by unfold dep; rw [h]
theorem dep_some {r : Nat} {d : Nd} (h : N r = some d) : dep n lev N r = lev d.v := by unfold dep; rw [h]
theorem WF.dep_le (h : WF n lev N) (hl : Lev n lev) (r : Nat) : dep n lev N r ≤ n := by
 cases e : N r with
 | none => rw [dep_none e]; exact Nat.le_refl _
 | some d => rw [dep_some e]; exact Nat.le_of_lt (hl.lt _ (h.var e))
theorem WF.const (h : WF n lev N) {r : Nat} (hr : r < 2) : N r = none := by
 cases e : N r with
 | none => rfl
 | some d => have := h.two e; omega
theorem WF.indep (h : WF n lev N) (hl : Lev n lev) (hi : Interp N S) : ∀ (k r : Nat), n - dep n lev N r ≤ k → live N r → ∀ v, v < n → lev v < dep n lev N r → ∀ x b, S r (setb x v b) = S r x := by
 intro k
 induction k with
 | zero =>
  intro r hk hr v hv hlt x b
  rcases hr with hr | ⟨d, hd⟩
  ·have : r = 0 ∨ r = 1 := by omega
   rcases this with rfl | rfl
   ·rw [hi.zero, hi.zero]
   ·rw [hi.one, hi.one]
  ·have h1 := hl.lt _ (h.var hd)
   rw [dep_some hd] at hk; omega
 | succ k ih =>
  intro r hk hr v hv hlt x b
  rcases hr with hr | ⟨d, hd⟩
  ·have : r = 0 ∨ r = 1 := by omega
   rcases this with rfl | rfl
   ·rw [hi.zero, hi.zero]
   ·rw [hi.one, hi.one]
  ·rw [dep_some hd] at hk hlt
   have h1 := hl.lt _ (h.var hd)
   obtain ⟨l1, l2⟩ := h.lo hd
   obtain ⟨m1, m2⟩ := h.hi hd
   have hne : d.v ≠ v := fun e => by rw [e] at hlt; omega
   rw [hi.node hd, hi.node hd, testBit_setb, if_neg hne, ih d.lo (by omega) l1 v hv (by omega), ih d.hi (by omega) m1 v hv (by omega)]
theorem WF.indep' (h : WF n lev N) (hl : Lev n lev) (hi : Interp N S) {r : Nat} (hr : live N r) {v : Nat} (hv : v < n) (hlt : lev v < dep n lev N r) (x : Nat) (b : Bool) : S r (setb x v b) = S r x :=
 h.indep hl hi _ r (Nat.le_refl _) hr v hv hlt x b
theorem WF.child (h : WF n lev N) (hl : Lev n lev) (hi : Interp N S) {r : Nat} {d : Nd} (hd : N r = some d) (x : Nat) (b : Bool) : S r (setb x d.v b) = S (if b then d.hi else d.lo) x := by
 obtain ⟨l1, l2⟩ := h.lo hd
 obtain ⟨m1, m2⟩ := h.hi hd
 rw [hi.node hd, testBit_setb, if_pos rfl]
 cases b
 ·simp only [Bool.false_eq_true, if_false]; exact h.indep' hl hi l1 (h.var hd) l2 x false
 ·simp only [if_true]; exact h.indep' hl hi m1 (h.var hd) m2 x true
theorem WF.canon (h : WF n lev N) (hl : Lev n lev) (hi : Interp N S) : ∀ (k r r' : Nat), (n - dep n lev N r) + (n - dep n lev N r') ≤ k → live N r → live N r' → (∀ x, S r x = S r' x) → r = r' := by
 intro k
 induction k with
 | zero =>
  intro r r' hk hr hr' he
  have hc : ∀ {r}, n - dep n lev N r = 0 → live N r → r < 2 := by
   intro r hk hr
   rcases hr with hr | ⟨d, hd⟩
   ·exact hr
   ·have h1 := hl.lt _ (h.var hd)
    rw [dep_some hd] at hk; omega
  have h1 := hc (by omega) hr
  have h2 := hc (by omega) hr'
  have e0 := he 0
  have : r = 0 ∨ r = 1 := by omega
  have h3 : r' = 0 ∨ r' = 1 := by omega
  rcases this with rfl | rfl <;> rcases h3 with rfl | rfl <;> simp [hi.zero, hi.one] at e0 <;> rfl
 | succ k ih =>
  have above : ∀ r r', (n - dep n lev N r) + (n - dep n lev N r') ≤ k + 1 → live N r' → (∀ x, S r x = S r' x) → ∀ d, N r = some d → lev d.v < dep n lev N r' → False := by
   intro r r' hk hr' he d hd hlt
   obtain ⟨l1, l2⟩ := h.lo hd
   obtain ⟨m1, m2⟩ := h.hi hd
   have hv := h.var hd
   have h1 := hl.lt _ hv
   have d1 := h.dep_le hl d.lo
   have d2 := h.dep_le hl d.hi
   have d3 := h.dep_le hl r'
   rw [dep_some hd] at hk
   have a1 : d.lo = r' := ih d.lo r' (by omega) l1 hr' fun x => by
    have := h.child hl hi hd x false
    simp only [Bool.false_eq_true, if_false] at this
    rw [← this, he, h.indep' hl hi hr' hv hlt]
   have a2 : d.hi = r' := ih d.hi r' (by omega) m1 hr' fun x => by
    have := h.child hl hi hd x true
    simp only [if_true] at this
    rw [← this, he, h.indep' hl hi hr' hv hlt]
   exact h.ne hd (a1.trans a2.symm)
  intro r r' hk hr hr' he
  rcases hr with hr | ⟨d, hd⟩
  ·rcases hr' with hr' | ⟨d', hd'⟩
   ·have e0 := he 0
    have : r = 0 ∨ r = 1 := by omega
    have h3 : r' = 0 ∨ r' = 1 := by omega
    rcases this with rfl | rfl <;> rcases h3 with rfl | rfl <;> simp [hi.zero, hi.one] at e0 <;> rfl
   ·refine (above r' r (by omega) (.inl hr) (fun x => (he x).symm) d' hd' ?_).elim
    rw [dep_none (h.const hr)]; exact hl.lt _ (h.var hd')
  ·rcases Nat.lt_trichotomy (lev d.v) (dep n lev N r') with hlt | heq | hgt
   ·exact (above r r' hk hr' he d hd hlt).elim
   ·rcases hr' with hr' | ⟨d', hd'⟩
    ·rw [dep_none (h.const hr')] at heq
     have := hl.lt _ (h.var hd); omega
    ·rw [dep_some hd'] at heq
     have hv := hl.inj _ _ (h.var hd) (h.var hd') heq
     obtain ⟨l1, l2⟩ := h.lo hd
     obtain ⟨m1, m2⟩ := h.hi hd
     obtain ⟨l1', l2'⟩ := h.lo hd'
     obtain ⟨m1', m2'⟩ := h.hi hd'
     have h1 := hl.lt _ (h.var hd)
     have d1 := h.dep_le hl d.lo
     have d2 := h.dep_le hl d.hi
     have d1' := h.dep_le hl d'.lo
     have d2' := h.dep_le hl d'.hi
     rw [dep_some hd, dep_some hd'] at hk
     have c1 := fun x => h.child hl hi hd x false
     have c2 := fun x => h.child hl hi hd x true
     have c1' := fun x => h.child hl hi hd' x false
     have c2' := fun x => h.child hl hi hd' x true
     simp only [Bool.false_eq_true, if_false, if_true] at c1 c2 c1' c2'
     have a1 : d.lo = d'.lo := ih d.lo d'.lo (by omega) l1 l1' fun x => by rw [← c1, ← c1', he, hv]
     have a2 : d.hi = d'.hi := ih d.hi d'.hi (by omega) m1 m1' fun x => by rw [← c2, ← c2', he, hv]
     have : d = d' := by cases d; cases d'; simp_all
     subst this
     exact h.uq hd hd'
   ·rcases hr' with hr' | ⟨d', hd'⟩
    ·rw [dep_none (h.const hr')] at hgt
     have := hl.lt _ (h.var hd); omega
    ·rw [dep_some hd'] at hgt
     refine (above r' r (by omega) (.inr ⟨d, hd⟩) (fun x => (he x).symm) d' hd' ?_).elim
     rw [dep_some hd]; exact hgt
theorem WF.same (h : WF n lev N) (hl : Lev n lev) (hi : Interp N S) {r r' : Nat} (hr : live N r) (hr' : live N r') (he : ∀ x, S r x = S r' x) : r = r' := h.canon hl hi _ r r' (Nat.le_refl _) hr hr' he
end Bdd
namespace Bdd
open Tab
variable {n : Nat} {lev : Nat → Nat} {N : Sto} {S : Nat → Fn} {ord : List Nat}
def hangs (g : Fn) (v : Nat) : Prop := ∃ x, g (setb x v false) ≠ g (setb x v true)
def fs (ord : List Nat) (F : Fn → Prop) : Nat → Fn → Prop
 | 0, g => F g
 | l + 1, g => ∃ f, fs ord F l f ∧ ∃ b, g = fun x => f (setb x (ord.getD l 0) b)
def NodeSet (n : Nat) (ord : List Nat) (F : Fn → Prop) (g : Fn) : Prop := ∃ l, l < n ∧ fs ord F l g ∧ hangs g (ord.getD l 0)
structure Ord (n : Nat) (lev : Nat → Nat) (ord : List Nat) : Prop where
 len : ord.length = n
 at' : ∀ l, l < n → ord.getD l 0 < n ∧ lev (ord.getD l 0) = l
theorem Ord.of (h : Ord n lev ord) (hl : Lev n lev) {v : Nat} (hv : v < n) : ord.getD (lev v) 0 = v := by
 obtain ⟨h1, h2⟩ := h.at' _ (hl.lt v hv)
 exact hl.inj _ _ h1 hv h2
def Fs (S : Nat → Fn) (R : Nat → Prop) (g : Fn) : Prop := ∃ r, R r ∧ g = S r
def A (N : Sto) (lev : Nat → Nat) (n : Nat) (R : Nat → Prop) : Nat → Nat → Prop
 | 0, r => R r
 | l + 1, r => (A N lev n R l r ∧ dep n lev N r ≠ l) ∨ ∃ p d, A N lev n R l p ∧ N p = some d ∧ lev d.v = l ∧ (r = d.lo ∨ r = d.hi)
variable {R : Nat → Prop}
theorem A_live (h : WF n lev N) (hR : ∀ r, R r → live N r) : ∀ l r, A N lev n R l r → live N r ∧ l ≤ dep n lev N r
 | 0, r, ha => ⟨hR r ha, Nat.zero_le _⟩
 | l + 1, r, ha => by
  rcases ha with ⟨h1, h2⟩ | ⟨p, d, h1, h2, h3, h4⟩
  ·have := A_live h hR l r h1
   exact ⟨this.1, by omega⟩
  ·rcases h4 with rfl | rfl
   ·have := h.lo h2; exact ⟨this.1, by omega⟩
   ·have := h.hi h2; exact ⟨this.1, by omega⟩
theorem A_stay {r : Nat} : ∀ k l, A N lev n R l r → l + k ≤ dep n lev N r → A N lev n R (l + k) r
 | 0, l, ha, _ => ha
 | k + 1, l, ha, hk => by
  have h1 := A_stay k l ha (by omega)
  have h2 : dep n lev N r ≠ l + k := by omega
  exact .inl ⟨h1, h2⟩
def Reach (N : Sto) (R : Nat → Prop) : Prop := ∀ r d, N r = some d → R r ∨ ∃ p e, N p = some e ∧ (e.lo = r ∨ e.hi = r)
theorem A_all (h : WF n lev N) (hr : Reach N R) : ∀ k r d, N r = some d → lev d.v ≤ k → A N lev n R (lev d.v) r := by
 intro k
 induction k with
 | zero =>
  intro r d hd hk
  rcases hr r d hd with h1 | ⟨p, e, h1, h2⟩
  ·rw [show lev d.v = 0 by omega]; exact h1
  ·have := h.lo h1
   have h3 := h.hi h1
   rcases h2 with rfl | rfl
   ·rw [dep_some hd] at this; omega
   ·rw [dep_some hd] at h3; omega
 | succ k ih =>
  intro r d hd hk
  rcases hr r d hd with h1 | ⟨p, e, h1, h2⟩
  ·have := A_stay (N := N) (lev := lev) (n := n) (R := R) (r := r) (lev d.v) 0 h1 (by rw [dep_some hd]; omega)
   rwa [Nat.zero_add] at this
  ·have hlt : lev e.v < lev d.v := by
    have := h.lo h1
    have h3 := h.hi h1
    rcases h2 with rfl | rfl
    ·rw [dep_some hd] at this; omega
    ·rw [dep_some hd] at h3; omega
   have ha := ih p e h1 (by omega)
   have hb : A N lev n R (lev e.v + 1) r := .inr ⟨p, e, ha, h1, rfl, by rcases h2 with rfl | rfl; exact .inl rfl; exact .inr rfl⟩
   have := A_stay (lev d.v - (lev e.v + 1)) _ hb (by rw [dep_some hd]; omega)
   rwa [show lev e.v + 1 + (lev d.v - (lev e.v + 1)) = lev d.v by omega] at this
theorem fs_A (h : WF n lev N) (hl : Lev n lev) (ho : Ord n lev ord) (hi : Interp N S) (hR : ∀ r, R r → live N r) : ∀ l, l ≤ n → ∀ g, fs ord (Fs S R) l g ↔ ∃ r, A N lev n R l r ∧ g = S r
 | 0, _, g => Iff.rfl
 | l + 1, hln, g => by
  obtain ⟨v1, v2⟩ := ho.at' l hln
  have ih := fs_A h hl ho hi hR l (by omega)
  constructor
  ·rintro ⟨f, hf, b, rfl⟩
   obtain ⟨r, ha, rfl⟩ := (ih f).1 hf
   obtain ⟨hlv, hle⟩ := A_live h hR l r ha
   by_cases e : dep n lev N r = l
   ·rcases hlv with hc | ⟨d, hd⟩
    ·rw [dep_none (h.const hc)] at e; omega
    ·rw [dep_some hd] at e
     have hv : d.v = ord.getD l 0 := hl.inj _ _ (h.var hd) v1 (by omega)
     refine ⟨if b then d.hi else d.lo, .inr ⟨r, d, ha, hd, e, by cases b <;> simp⟩, ?_⟩
     funext x
     rw [← hv]; exact h.child hl hi hd x b
   ·refine ⟨r, .inl ⟨ha, e⟩, ?_⟩
    funext x
    exact h.indep' hl hi hlv v1 (by omega) x b
  ·rintro ⟨r, ha, rfl⟩
   rcases ha with ⟨h1, h2⟩ | ⟨p, d, h1, h2, h3, h4⟩
   ·obtain ⟨hlv, hle⟩ := A_live h hR l r h1
    refine ⟨S r, (ih _).2 ⟨r, h1, rfl⟩, false, ?_⟩
    funext x
    exact (h.indep' hl hi hlv v1 (by omega) x false).symm
   ·have hv : d.v = ord.getD l 0 := hl.inj _ _ (h.var h2) v1 (by omega)
    rcases h4 with rfl | rfl
    ·refine ⟨S p, (ih _).2 ⟨p, h1, rfl⟩, false, ?_⟩
     funext x
     rw [← hv]; exact (h.child hl hi h2 x false).symm
    ·refine ⟨S p, (ih _).2 ⟨p, h1, rfl⟩, true, ?_⟩
     funext x
     rw [← hv]; exact (h.child hl hi h2 x true).symm
theorem nodeSet_iff (h : WF n lev N) (hl : Lev n lev) (ho : Ord n lev ord) (hi : Interp N S) (hR : ∀ r, R r → live N r) (hr : Reach N R) (g : Fn) : NodeSet n ord (Fs S R) g ↔ ∃ r d, N r = some d ∧ g = S r := by
 constructor
 ·rintro ⟨l, hln, hf, x, hx⟩
  obtain ⟨v1, v2⟩ := ho.at' l hln
  obtain ⟨r, ha, rfl⟩ := (fs_A h hl ho hi hR l (by omega) g).1 hf
  obtain ⟨hlv, hle⟩ := A_live h hR l r ha
  by_cases e : dep n lev N r = l
  ·rcases hlv with hc | ⟨d, hd⟩
   ·rw [dep_none (h.const hc)] at e; omega
   ·exact ⟨r, d, hd, rfl⟩
  ·exact absurd (by rw [h.indep' hl hi hlv v1 (by omega), h.indep' hl hi hlv v1 (by omega)]) hx
 ·rintro ⟨r, d, hd, rfl⟩
  have hv := h.var hd
  have hlt := hl.lt _ hv
  refine ⟨lev d.v, hlt, (fs_A h hl ho hi hR _ (by omega) _).2 ⟨r, A_all h hr _ r d hd (Nat.le_refl _), rfl⟩, ?_⟩
  rw [ho.of hl hv]
  refine Classical.byContradiction fun hno => h.ne hd (h.same hl hi (h.lo hd).1 (h.hi hd).1 fun x => ?_)
  have c1 := h.child hl hi hd x false
  have c2 := h.child hl hi hd x true
  simp only [Bool.false_eq_true, if_false, if_true] at c1 c2
  rw [← c1, ← c2]
  exact Classical.byContradiction fun hne => hno ⟨x, hne⟩
def Cnt (P : Fn → Prop) (k : Nat) : Prop := ∃ l : List Fn, l.Nodup ∧ l.length = k ∧ ∀ g, P g ↔ g ∈ l
theorem Cnt.congr {P Q : Fn → Prop} {k : Nat} (h : Cnt P k) (e : ∀ g, P g ↔ Q g) : Cnt Q k := let ⟨l, h1, h2, h3⟩ := h; ⟨l, h1, h2, fun g => (e g).symm.trans (h3 g)⟩
theorem length_le_of_sub {α : Type} : ∀ {l l' : List α}, l.Nodup → (∀ x ∈ l, x ∈ l') → l.length ≤ l'.length
 | [], l', _, _ => Nat.zero_le _
 | x :: l, l', hn, hs => by
  obtain ⟨h1, h2⟩ := List.nodup_cons.1 hn
  obtain ⟨a, b, rfl⟩ := List.append_of_mem (hs x (by simp))
  have := length_le_of_sub (l' := a ++ b) h2 fun y hy => by
   have := hs y (by simp [hy])
   rcases List.mem_append.1 this with h | h
   ·exact List.mem_append_left _ h
   ·rcases List.mem_cons.1 h with rfl | h
    ·exact absurd hy h1
    ·exact List.mem_append_right _ h
  simp at this ⊢; omega
theorem Cnt.le {P Q : Fn → Prop} {k k' : Nat} (h : Cnt P k) (h' : Cnt Q k') (e : ∀ g, P g → Q g) : k ≤ k' := by
 obtain ⟨l, h1, h2, h3⟩ := h
 obtain ⟨l', h1', h2', h3'⟩ := h'
 rw [← h2, ← h2']
 exact length_le_of_sub h1 fun x hx => (h3' x).1 (e x ((h3 x).2 hx))
theorem Cnt.uniq {P : Fn → Prop} {k k' : Nat} (h : Cnt P k) (h' : Cnt P k') : k = k' := Nat.le_antisymm (h.le h' fun _ => id) (h'.le h fun _ => id)
theorem Cnt.or {P Q : Fn → Prop} {k k' : Nat} (h : Cnt P k) (h' : Cnt Q k') (e : ∀ g, P g → ¬ Q g) : Cnt (fun g => P g ∨ Q g) (k + k') := by
 obtain ⟨l, h1, h2, h3⟩ := h
 obtain ⟨l', h1', h2', h3'⟩ := h'
 refine ⟨l ++ l', List.nodup_append.2 ⟨h1, h1', fun a ha b hb e' => ?_⟩, by rw [List.length_append, h2, h2'], fun g => by rw [List.mem_append, ← h3, ← h3']⟩
 subst e'
 exact e a ((h3 a).2 ha) ((h3' a).2 hb)
theorem cnt_nodes (h : WF n lev N) (hl : Lev n lev) (hi : Interp N S) {dom : List Nat} (hd : dom.Nodup) (hm : ∀ r, r ∈ dom ↔ ∃ d, N r = some d) : Cnt (fun g => ∃ r d, N r = some d ∧ g = S r) dom.length := by
 refine ⟨dom.map S, ?_, by simp, fun g => ?_⟩
 ·refine List.pairwise_map.2 (hd.imp_of_mem fun {a b} ha hb hne heq => hne ?_)
  exact h.same hl hi (.inr ((hm a).1 ha)) (.inr ((hm b).1 hb)) fun x => by rw [heq]
 ·rw [List.mem_map]
  constructor
  ·rintro ⟨r, d, h1, rfl⟩; exact ⟨r, (hm r).2 ⟨d, h1⟩, rfl⟩
  ·rintro ⟨r, h1, rfl⟩; obtain ⟨d, h2⟩ := (hm r).1 h1; exact ⟨r, d, h2, rfl⟩
end Bdd
namespace Bdd
open Tab
def up {α : Type} (N : Nat → α) (r : Nat) (o : α) : Nat → α := fun s => if s = r then o else N s
@[simp] theorem up_same {α : Type} {N : Nat → α} {r : Nat} {o : α} : up N r o r = o := if_pos rfl
theorem up_ne {α : Type} {N : Nat → α} {r s : Nat} {o : α} (h : s ≠ r) : up N r o s = N s := if_neg h
def upT (T : Nd → Option Nat) (d : Nd) (o : Option Nat) : Nd → Option Nat := fun e => if e = d then o else T e
@[simp] theorem upT_same {T : Nd → Option Nat} {d : Nd} {o : Option Nat} : upT T d o d = o := if_pos rfl
theorem upT_ne {T : Nd → Option Nat} {d e : Nd} {o : Option Nat} (h : e ≠ d) : upT T d o e = T e := if_neg h
def e1 : Option Nd → Nat → Nat
 | none, _ => 0
 | some d, r => (if d.lo = r then 1 else 0) + (if d.hi = r then 1 else 0)
theorem e1_some (d : Nd) (r : Nat) : e1 (some d) r = (if d.lo = r then 1 else 0) + (if d.hi = r then 1 else 0) := rfl
def edges (N : Sto) (r : Nat) : Nat → Nat
 | 0 => 0
 | k + 1 => edges N r k + e1 (N k) r
def cntD (N : Sto) : Nat → Nat
 | 0 => 0
 | k + 1 => cntD N k + (if (N k).isSome then 1 else 0)
theorem edges_upd {N : Sto} {s r : Nat} {o : Option Nd} : ∀ {k}, (s < k → edges (up N s o) r k + e1 (N s) r = edges N r k + e1 o r) ∧ (k ≤ s → edges (up N s o) r k = edges N r k)
 | 0 => ⟨fun h => by omega, fun _ => rfl⟩
 | k + 1 => by
  obtain ⟨i1, i2⟩ := edges_upd (N := N) (s := s) (r := r) (o := o) (k := k)
  refine ⟨fun h => ?_, fun h => ?_⟩
  ·rw [edges, edges]
   by_cases e : s = k
   ·subst e; rw [up_same, i2 (Nat.le_refl _)]; omega
   ·have := i1 (by omega); rw [up_ne (fun h => e h.symm)]; omega
  ·rw [edges, edges, i2 (by omega), up_ne (by omega)]
theorem edges_up {N : Sto} {s r k : Nat} {o : Option Nd} (h : s < k) : edges (up N s o) r k + e1 (N s) r = edges N r k + e1 o r := edges_upd.1 h
theorem cntD_upd {N : Sto} {s : Nat} {o : Option Nd} : ∀ {k}, (s < k → cntD (up N s o) k + (if (N s).isSome then 1 else 0) = cntD N k + (if o.isSome then 1 else 0)) ∧ (k ≤ s → cntD (up N s o) k = cntD N k)
 | 0 => ⟨fun h => by omega, fun _ => rfl⟩
 | k + 1 => by
  obtain ⟨i1, i2⟩ := cntD_upd (N := N) (s := s) (o := o) (k := k)
  refine ⟨fun h => ?_, fun h => ?_⟩
  ·rw [cntD, cntD]
   by_cases e : s = k
   ·subst e; rw [up_same, i2 (Nat.le_refl _)]; omega
   ·have := i1 (by omega); rw [up_ne (fun h => e h.symm)]; omega
  ·rw [cntD, cntD, i2 (by omega), up_ne (by omega)]
theorem edges_zero {N : Sto} {r : Nat} : ∀ {k}, edges N r k = 0 → ∀ s, s < k → ∀ d, N s = some d → d.lo ≠ r ∧ d.hi ≠ r
 | 0, _, s, hs, _, _ => by omega
 | k + 1, h, s, hs, d, hd => by
  rw [edges] at h
  by_cases e : s = k
  ·subst e
   rw [hd, e1_some] at h
   constructor
   ·intro h1; rw [if_pos h1] at h; omega
   ·intro h1; rw [if_pos h1] at h; omega
  ·exact edges_zero (k := k) (by omega) s (by omega) d hd
theorem edges_pos {N : Sto} {r : Nat} : ∀ {k}, 0 < edges N r k → ∃ s d, s < k ∧ N s = some d ∧ (d.lo = r ∨ d.hi = r)
 | 0, h => by simp [edges] at h
 | k + 1, h => by
  rw [edges] at h
  by_cases hk : 0 < edges N r k
  ·obtain ⟨s, d, h1, h2, h3⟩ := edges_pos hk; exact ⟨s, d, by omega, h2, h3⟩
  ·cases hd : N k with
   | none => rw [hd] at h; simp [e1] at h; omega
   | some d =>
    refine ⟨k, d, by omega, hd, ?_⟩
    rw [hd, e1_some] at h
    by_cases h1 : d.lo = r
    ·exact .inl h1
    ·by_cases h2 : d.hi = r
     ·exact .inr h2
     ·rw [if_neg h1, if_neg h2] at h; omega
theorem edges_le {N : Sto} {r : Nat} : ∀ k, edges N r k ≤ 2 * k
 | 0 => Nat.le_refl _
 | k + 1 => by
  have := edges_le (N := N) (r := r) k
  rw [edges]
  have : e1 (N k) r ≤ 2 := by
   cases N k with
   | none => simp [e1]
   | some d => rw [e1_some]; split <;> split <;> omega
  omega
theorem cntD_dom (N : Sto) : ∀ k, ((List.range k).filter fun r => (N r).isSome).length = cntD N k
 | 0 => rfl
 | k + 1 => by
  rw [List.range_succ, List.filter_append, List.length_append, cntD_dom N k, cntD]
  congr 1
  cases h : N k <;> simp [h]
structure Kd where
 n : Nat
 cap : Nat
 used : Nat
 N : Sto
 T : Nd → Option Nat
 us : List Nat
 ho : List Nat
def Kd.hold (K : Kd) (r : Nat) : Nat := K.ho.getD r 0
def Kd.use (K : Kd) (r : Nat) : Nat := K.us.getD r 0
structure Mid (K : Kd) (S : Nat → Fn) (E : Nat → Prop) (P : Nat → Nat) : Prop where
 two : ∀ {r d}, K.N r = some d → 2 ≤ r ∧ r < K.cap
 var : ∀ {r d}, K.N r = some d → d.v < K.n
 ne : ∀ {r d}, K.N r = some d → d.lo ≠ d.hi
 lo : ∀ {r d}, K.N r = some d → live K.N d.lo
 hi : ∀ {r d}, K.N r = some d → live K.N d.hi
 int : Interp K.N S
 tab : ∀ d r, K.T d = some r ↔ K.N r = some d ∧ ¬ E r
 use : ∀ {r d}, K.N r = some d → K.use r = edges K.N r K.cap + (if K.hold r = 0 then 0 else 1) + P r
 len : K.us.length = K.ho.length
 fit : ∀ {r d}, K.N r = some d → r < K.us.length
 held : ∀ r, K.hold r ≠ 0 → ∃ d, K.N r = some d
 mx : ∀ r, K.hold r ≤ 65535
 room : K.used = 2 + cntD K.N K.cap
 cap : K.used ≤ K.cap ∧ K.cap ≤ 1048576
variable {K : Kd} {S : Nat → Fn} {E : Nat → Prop} {P : Nat → Nat}
theorem live_up {N : Sto} {r s : Nat} {d : Nd} (h : live N s) : live (up N r (some d)) s := by
 rcases h with h | ⟨e, h⟩
 ·exact .inl h
 ·by_cases e2 : s = r
  ·subst e2; exact .inr ⟨d, up_same⟩
  ·exact .inr ⟨e, by rw [up_ne e2]; exact h⟩
theorem live_down {N : Sto} {r s : Nat} (h : live N s) (hne : s ≠ r) : live (up N r none) s := by
 rcases h with h | ⟨e, h⟩
 ·exact .inl h
 ·exact .inr ⟨e, by rw [up_ne hne]; exact h⟩
def Pos (K : Kd) : Prop := ∀ r d, K.N r = some d → 0 < K.use r
theorem Mid.less (h : Mid K S E P) {r : Nat} {us' : List Nat} (hP : 0 < P r) (hl : us'.length = K.us.length) (h1 : us'.getD r 0 + 1 = K.use r) (h2 : ∀ s, s ≠ r → us'.getD s 0 = K.use s) :
  Mid { K with us := us' } S E (up P r (P r - 1)) where
 two := h.two
 var := h.var
 ne := h.ne
 lo := h.lo
 hi := h.hi
 int := h.int
 tab := h.tab
 use := fun {s d} hd => by
  have := h.use hd
  show us'.getD s 0 = edges K.N s K.cap + (if K.hold s = 0 then 0 else 1) + up P r (P r - 1) s
  by_cases e : s = r
  ·subst e
   rw [up_same]
   omega
  ·rw [h2 s e, up_ne e]; exact this
 len := by show us'.length = _; rw [hl]; exact h.len
 fit := fun {s d} hd => by show s < us'.length; rw [hl]; exact h.fit hd
 held := h.held
 mx := h.mx
 room := h.room
 cap := h.cap
theorem Mid.free (h : Mid K S E P) {r : Nat} {d : Nd} (hd : K.N r = some d) (hE : ¬ E r) (h0 : K.use r = 0) :
  Mid { K with N := up K.N r none, T := upT K.T d none, used := K.used - 1 } S E (fun s => P s + e1 (some d) s) where
 two := fun {s e} hs => by
  have hs' : up K.N r none s = some e := hs
  by_cases e2 : s = r
  ·subst e2; rw [up_same] at hs'; cases hs'
  ·rw [up_ne e2] at hs'; exact h.two hs'
 var := fun {s e} hs => by
  have hs' : up K.N r none s = some e := hs
  by_cases e2 : s = r
  ·subst e2; rw [up_same] at hs'; cases hs'
  ·rw [up_ne e2] at hs'; exact h.var hs'
 ne := fun {s e} hs => by
  have hs' : up K.N r none s = some e := hs
  by_cases e2 : s = r
  ·subst e2; rw [up_same] at hs'; cases hs'
  ·rw [up_ne e2] at hs'; exact h.ne hs'
 lo := fun {s e} hs => by
  have hs' : up K.N r none s = some e := hs
  by_cases e2 : s = r
  ·subst e2; rw [up_same] at hs'; cases hs'
  ·rw [up_ne e2] at hs'
   have hu := h.use hd
   exact live_down (h.lo hs') (edges_zero (by omega) s (h.two hs').2 e hs').1
 hi := fun {s e} hs => by
  have hs' : up K.N r none s = some e := hs
  by_cases e2 : s = r
  ·subst e2; rw [up_same] at hs'; cases hs'
  ·rw [up_ne e2] at hs'
   have hu := h.use hd
   exact live_down (h.hi hs') (edges_zero (by omega) s (h.two hs').2 e hs').2
 int := ⟨h.int.zero, h.int.one, fun {s e} hs x => by
  have hs' : up K.N r none s = some e := hs
  by_cases e2 : s = r
  ·subst e2; rw [up_same] at hs'; cases hs'
  ·rw [up_ne e2] at hs'; exact h.int.node hs' x⟩
 tab := fun e s => by
  show upT K.T d none e = some s ↔ up K.N r none s = some e ∧ _
  by_cases e2 : e = d
  ·subst e2
   rw [upT_same]
   constructor
   ·intro h; cases h
   ·rintro ⟨h1, h2⟩
    by_cases e3 : s = r
    ·subst e3; rw [up_same] at h1; cases h1
    ·rw [up_ne e3] at h1
     have a := (h.tab e s).2 ⟨h1, h2⟩
     have b := (h.tab e r).2 ⟨hd, hE⟩
     rw [a] at b; cases b; exact absurd rfl e3
  ·rw [upT_ne e2, h.tab]
   by_cases e3 : s = r
   ·subst e3
    rw [up_same]
    constructor
    ·rintro ⟨h1, _⟩; rw [hd] at h1; cases h1; exact absurd rfl e2
    ·rintro ⟨h1, _⟩; cases h1
   ·rw [up_ne e3]
 use := fun {s e} hs => by
  have hs' : up K.N r none s = some e := hs
  by_cases e2 : s = r
  ·subst e2; rw [up_same] at hs'; cases hs'
  ·rw [up_ne e2] at hs'
   have hu := h.use hs'
   have he := edges_up (N := K.N) (s := r) (r := s) (k := K.cap) (o := none) (h.two hd).2
   show K.use s = edges (up K.N r none) s K.cap + (if K.hold s = 0 then 0 else 1) + (P s + e1 (some d) s)
   rw [hd] at he
   have : e1 none s = 0 := rfl
   omega
 len := h.len
 fit := fun {s e} hs => by
  have hs' : up K.N r none s = some e := hs
  by_cases e2 : s = r
  ·subst e2; rw [up_same] at hs'; cases hs'
  ·rw [up_ne e2] at hs'; exact h.fit hs'
 held := fun s hs => by
  obtain ⟨e, he⟩ := h.held s hs
  have hne : s ≠ r := fun e2 => by
   subst e2
   have hu := h.use hd
   have hs' : K.hold s ≠ 0 := hs
   rw [if_neg hs'] at hu; omega
  exact ⟨e, by show up K.N r none s = _; rw [up_ne hne]; exact he⟩
 mx := h.mx
 room := by
  have := (cntD_upd (N := K.N) (s := r) (o := none) (k := K.cap)).1 (h.two hd).2
  have hr := h.room
  rw [hd] at this
  show K.used - 1 = 2 + cntD (up K.N r none) K.cap
  simp at this; omega
 cap := ⟨by have := h.cap.1; show K.used - 1 ≤ K.cap; omega, h.cap.2⟩
theorem Mid.more (h : Mid K S E P) {r : Nat} {us' : List Nat} (hl : us'.length = K.us.length) (h1 : us'.getD r 0 = K.use r + 1) (h2 : ∀ s, s ≠ r → us'.getD s 0 = K.use s) :
  Mid { K with us := us' } S E (up P r (P r + 1)) where
 two := h.two
 var := h.var
 ne := h.ne
 lo := h.lo
 hi := h.hi
 int := h.int
 tab := h.tab
 use := fun {s d} hd => by
  have := h.use hd
  show us'.getD s 0 = edges K.N s K.cap + (if K.hold s = 0 then 0 else 1) + up P r (P r + 1) s
  by_cases e : s = r
  ·subst e
   rw [up_same]
   omega
  ·rw [h2 s e, up_ne e]; exact this
 len := by show us'.length = _; rw [hl]; exact h.len
 fit := fun {s d} hd => by show s < us'.length; rw [hl]; exact h.fit hd
 held := h.held
 mx := h.mx
 room := h.room
 cap := h.cap
end Bdd
namespace Bdd
open Tab
variable {K : Kd} {S : Nat → Fn} {E : Nat → Prop} {P : Nat → Nat}
def ite (S : Nat → Fn) (d : Nd) : Fn := fun x => if x.testBit d.v then S d.hi x else S d.lo x
theorem live_ne {N : Sto} {r s : Nat} (h : live N s) (h2 : 2 ≤ r) (hr : N r = none) : s ≠ r := fun e => by
 subst e
 rcases h with h | ⟨d, h⟩
 ·omega
 ·rw [hr] at h; cases h
theorem Mid.lay (h : Mid K S E P) {r : Nat} {d : Nd} {us' ho' : List Nat} (hr : K.N r = none) (h2 : 2 ≤ r ∧ r < K.cap) (hv : d.v < K.n) (hne : d.lo ≠ d.hi) (hlo : live K.N d.lo) (hhi : live K.N d.hi) (hT : K.T d = none) (hE : ¬ E r)
  (hP : P r = 0) (hro : K.used < K.cap) (hl : us'.length = ho'.length) (hf : r < us'.length ∧ K.us.length ≤ us'.length) (u0 : us'.getD r 0 = 0) (u1 : ∀ s, 2 ≤ s → s ≠ r → us'.getD s 0 = K.use s + e1 (some d) s) (o0 : ho'.getD r 0 = 0) (o1 : ∀ s, s ≠ r → ho'.getD s 0 = K.hold s) :
  Mid { K with N := up K.N r (some d), T := upT K.T d (some r), used := K.used + 1, us := us', ho := ho' } (up S r (ite S d)) E P where
 two := fun {s e} hs => by
  have hs' : up K.N r (some d) s = some e := hs
  by_cases e2 : s = r
  ·subst e2; exact h2
  ·rw [up_ne e2] at hs'; exact h.two hs'
 var := fun {s e} hs => by
  have hs' : up K.N r (some d) s = some e := hs
  by_cases e2 : s = r
  ·subst e2; rw [up_same] at hs'; cases hs'; exact hv
  ·rw [up_ne e2] at hs'; exact h.var hs'
 ne := fun {s e} hs => by
  have hs' : up K.N r (some d) s = some e := hs
  by_cases e2 : s = r
  ·subst e2; rw [up_same] at hs'; cases hs'; exact hne
  ·rw [up_ne e2] at hs'; exact h.ne hs'
 lo := fun {s e} hs => by
  have hs' : up K.N r (some d) s = some e := hs
  by_cases e2 : s = r
  ·subst e2; rw [up_same] at hs'; cases hs'; exact live_up hlo
  ·rw [up_ne e2] at hs'; exact live_up (h.lo hs')
 hi := fun {s e} hs => by
  have hs' : up K.N r (some d) s = some e := hs
  by_cases e2 : s = r
  ·subst e2; rw [up_same] at hs'; cases hs'; exact live_up hhi
  ·rw [up_ne e2] at hs'; exact live_up (h.hi hs')
 int := ⟨fun x => by rw [up_ne (by omega)]; exact h.int.zero x, fun x => by rw [up_ne (by omega)]; exact h.int.one x, fun {s e} hs x => by
  have hs' : up K.N r (some d) s = some e := hs
  by_cases e2 : s = r
  ·subst e2; rw [up_same] at hs'; cases hs'
   rw [up_same, up_ne (live_ne hlo h2.1 hr), up_ne (live_ne hhi h2.1 hr)]; rfl
  ·rw [up_ne e2] at hs'
   rw [up_ne e2, up_ne (live_ne (h.lo hs') h2.1 hr), up_ne (live_ne (h.hi hs') h2.1 hr)]
   exact h.int.node hs' x⟩
 tab := fun e s => by
  show upT K.T d (some r) e = some s ↔ up K.N r (some d) s = some e ∧ _
  by_cases e2 : e = d
  ·subst e2
   rw [upT_same]
   constructor
   ·intro h; cases h; exact ⟨up_same, hE⟩
   ·rintro ⟨h1, h2'⟩
    by_cases e3 : s = r
    ·rw [e3]
    ·rw [up_ne e3] at h1
     have a := (h.tab e s).2 ⟨h1, h2'⟩
     rw [hT] at a; cases a
  ·rw [upT_ne e2, h.tab]
   by_cases e3 : s = r
   ·subst e3
    rw [up_same, hr]
    constructor
    ·rintro ⟨h1, _⟩; cases h1
    ·rintro ⟨h1, _⟩; cases h1; exact absurd rfl e2
   ·rw [up_ne e3]
 use := fun {s e} hs => by
  have hs' : up K.N r (some d) s = some e := hs
  have he := edges_up (N := K.N) (s := r) (r := s) (k := K.cap) (o := some d) h2.2
  rw [hr] at he
  have h0 : e1 none s = 0 := rfl
  show us'.getD s 0 = edges (up K.N r (some d)) s K.cap + (if ho'.getD s 0 = 0 then 0 else 1) + P s
  by_cases e2 : s = r
  ·subst e2
   have hz : edges K.N s K.cap = 0 := by
    refine Nat.eq_zero_of_not_pos fun hp => ?_
    obtain ⟨t, e', _, ht, hc⟩ := edges_pos hp
    have hl1 := live_ne (h.lo ht) h2.1 hr
    have hl2 := live_ne (h.hi ht) h2.1 hr
    rcases hc with hc | hc
    ·exact hl1 hc
    ·exact hl2 hc
   have hd0 : e1 (some d) s = 0 := by
    rw [e1_some, if_neg (live_ne hlo h2.1 hr), if_neg (live_ne hhi h2.1 hr)]
   rw [u0, o0, if_pos rfl]; omega
  ·rw [up_ne e2] at hs'
   have hu := h.use hs'
   have h3 : ho'.getD s 0 = K.hold s := o1 s e2
   rw [u1 s (h.two hs').1 e2, h3]; omega
 len := hl
 fit := fun {s e} hs => by
  have hs' : up K.N r (some d) s = some e := hs
  show s < us'.length
  by_cases e2 : s = r
  ·subst e2; exact hf.1
  ·rw [up_ne e2] at hs'; exact Nat.lt_of_lt_of_le (h.fit hs') hf.2
 held := fun s hs => by
  have hs' : ho'.getD s 0 ≠ 0 := hs
  by_cases e2 : s = r
  ·subst e2; exact ⟨d, up_same⟩
  ·rw [o1 s e2] at hs'
   obtain ⟨e, he⟩ := h.held s hs'
   exact ⟨e, by show up K.N r (some d) s = _; rw [up_ne e2]; exact he⟩
 mx := fun s => by
  show ho'.getD s 0 ≤ 65535
  by_cases e2 : s = r
  ·subst e2; rw [o0]; decide
  ·rw [o1 s e2]; exact h.mx s
 room := by
  have := (cntD_upd (N := K.N) (s := r) (o := some d) (k := K.cap)).1 h2.2
  have hr' := h.room
  rw [hr] at this
  show K.used + 1 = 2 + cntD (up K.N r (some d)) K.cap
  simp at this; omega
 cap := ⟨by show K.used + 1 ≤ K.cap; omega, h.cap.2⟩
theorem Mid.hide (h : Mid K S E P) {r : Nat} {d : Nd} (hd : K.N r = some d) (hE : ¬ E r) : Mid { K with T := upT K.T d none } S (fun s => E s ∨ s = r) P where
 two := h.two
 var := h.var
 ne := h.ne
 lo := h.lo
 hi := h.hi
 int := h.int
 tab := fun e s => by
  show upT K.T d none e = some s ↔ _
  by_cases e2 : e = d
  ·subst e2
   rw [upT_same]
   constructor
   ·intro h; cases h
   ·rintro ⟨h1, h2⟩
    have a := (h.tab e s).2 ⟨h1, fun x => h2 (.inl x)⟩
    have b := (h.tab e r).2 ⟨hd, hE⟩
    rw [a] at b; cases b; exact absurd (.inr rfl) h2
  ·rw [upT_ne e2, h.tab]
   constructor
   ·rintro ⟨h1, h2⟩
    refine ⟨h1, fun x => ?_⟩
    rcases x with x | rfl
    ·exact h2 x
    ·have h1' : K.N s = some e := h1
     rw [hd] at h1'; cases h1'; exact e2 rfl
   ·rintro ⟨h1, h2⟩; exact ⟨h1, fun x => h2 (.inl x)⟩
 use := h.use
 len := h.len
 fit := h.fit
 held := h.held
 mx := h.mx
 room := h.room
 cap := h.cap
theorem Mid.turn (h : Mid K S E P) {r : Nat} {d d' : Nd} {P' : Nat → Nat} (hd : K.N r = some d) (hE : E r) (hv : d'.v < K.n) (hne : d'.lo ≠ d'.hi) (hlo : live K.N d'.lo) (hhi : live K.N d'.hi) (hT : K.T d' = none) (hS : ∀ x, S r x = ite S d' x)
  (hP : ∀ s, 2 ≤ s → P' s + e1 (some d') s = P s + e1 (some d) s) : Mid { K with N := up K.N r (some d'), T := upT K.T d' (some r) } S (fun s => E s ∧ s ≠ r) P' where
 two := fun {s e} hs => by
  have hs' : up K.N r (some d') s = some e := hs
  by_cases e2 : s = r
  ·subst e2; exact h.two hd
  ·rw [up_ne e2] at hs'; exact h.two hs'
 var := fun {s e} hs => by
  have hs' : up K.N r (some d') s = some e := hs
  by_cases e2 : s = r
  ·subst e2; rw [up_same] at hs'; cases hs'; exact hv
  ·rw [up_ne e2] at hs'; exact h.var hs'
 ne := fun {s e} hs => by
  have hs' : up K.N r (some d') s = some e := hs
  by_cases e2 : s = r
  ·subst e2; rw [up_same] at hs'; cases hs'; exact hne
  ·rw [up_ne e2] at hs'; exact h.ne hs'
 lo := fun {s e} hs => by
  have hs' : up K.N r (some d') s = some e := hs
  by_cases e2 : s = r
  ·subst e2; rw [up_same] at hs'; cases hs'; exact live_up hlo
  ·rw [up_ne e2] at hs'; exact live_up (h.lo hs')
 hi := fun {s e} hs => by
  have hs' : up K.N r (some d') s = some e := hs
  by_cases e2 : s = r
  ·subst e2; rw [up_same] at hs'; cases hs'; exact live_up hhi
  ·rw [up_ne e2] at hs'; exact live_up (h.hi hs')
 int := ⟨h.int.zero, h.int.one, fun {s e} hs x => by
  have hs' : up K.N r (some d') s = some e := hs
  by_cases e2 : s = r
  ·subst e2; rw [up_same] at hs'; cases hs'; exact hS x
  ·rw [up_ne e2] at hs'; exact h.int.node hs' x⟩
 tab := fun e s => by
  show upT K.T d' (some r) e = some s ↔ up K.N r (some d') s = some e ∧ ¬ (E s ∧ s ≠ r)
  by_cases e2 : e = d'
  ·subst e2
   rw [upT_same]
   constructor
   ·intro h; cases h; exact ⟨up_same, fun x => x.2 rfl⟩
   ·rintro ⟨h1, h2'⟩
    by_cases e3 : s = r
    ·rw [e3]
    ·rw [up_ne e3] at h1
     have a := (h.tab e s).2 ⟨h1, fun x => h2' ⟨x, e3⟩⟩
     rw [hT] at a; cases a
  ·rw [upT_ne e2, h.tab]
   by_cases e3 : s = r
   ·subst e3
    rw [up_same]
    constructor
    ·rintro ⟨_, h1⟩; exact absurd hE h1
    ·rintro ⟨h1, _⟩; cases h1; exact absurd rfl e2
   ·rw [up_ne e3]
    constructor
    ·rintro ⟨h1, h2⟩; exact ⟨h1, fun x => h2 x.1⟩
    ·rintro ⟨h1, h2⟩; exact ⟨h1, fun x => h2 ⟨x, e3⟩⟩
 use := fun {s e} hs => by
  have hs' : up K.N r (some d') s = some e := hs
  have he := edges_up (N := K.N) (s := r) (r := s) (k := K.cap) (o := some d') (h.two hd).2
  rw [hd] at he
  show K.use s = edges (up K.N r (some d')) s K.cap + (if K.hold s = 0 then 0 else 1) + P' s
  by_cases e2 : s = r
  ·subst e2
   have hu := h.use hd
   have := hP s (h.two hd).1
   omega
  ·rw [up_ne e2] at hs'
   have hu := h.use hs'
   have := hP s (h.two hs').1
   omega
 len := h.len
 fit := fun {s e} hs => by
  have hs' : up K.N r (some d') s = some e := hs
  by_cases e2 : s = r
  ·subst e2; exact h.fit hd
  ·rw [up_ne e2] at hs'; exact h.fit hs'
 held := fun s hs => by
  obtain ⟨e, he⟩ := h.held s hs
  by_cases e2 : s = r
  ·subst e2; exact ⟨d', up_same⟩
  ·exact ⟨e, by show up K.N r (some d') s = _; rw [up_ne e2]; exact he⟩
 mx := h.mx
 room := by
  have := (cntD_upd (N := K.N) (s := r) (o := some d') (k := K.cap)).1 (h.two hd).2
  have hr' := h.room
  rw [hd] at this
  show K.used = 2 + cntD (up K.N r (some d')) K.cap
  simp at this; omega
 cap := h.cap
theorem Mid.keep (h : Mid K S E P) {r : Nat} {us' ho' : List Nat} (hr : ∃ d, K.N r = some d) (hm : K.hold r < 65535) (hl : us'.length = K.us.length ∧ ho'.length = K.ho.length) (o0 : ho'.getD r 0 = K.hold r + 1) (o1 : ∀ s, s ≠ r → ho'.getD s 0 = K.hold s)
  (u0 : us'.getD r 0 = K.use r + (if K.hold r = 0 then 1 else 0)) (u1 : ∀ s, s ≠ r → us'.getD s 0 = K.use s) : Mid { K with us := us', ho := ho' } S E P where
 two := h.two
 var := h.var
 ne := h.ne
 lo := h.lo
 hi := h.hi
 int := h.int
 tab := h.tab
 use := fun {s e} hs => by
  have hu := h.use hs
  show us'.getD s 0 = edges K.N s K.cap + (if ho'.getD s 0 = 0 then 0 else 1) + P s
  by_cases e2 : s = r
  ·subst e2
   rw [u0, o0, if_neg (by omega : ¬ K.hold s + 1 = 0)]
   by_cases e3 : K.hold s = 0
   ·rw [if_pos e3] at hu ⊢; omega
   ·rw [if_neg e3] at hu ⊢; omega
  ·rw [u1 s e2, o1 s e2]; exact hu
 len := by show us'.length = ho'.length; rw [hl.1, hl.2]; exact h.len
 fit := fun {s e} hs => by show s < us'.length; rw [hl.1]; exact h.fit hs
 held := fun s hs => by
  have hs' : ho'.getD s 0 ≠ 0 := hs
  by_cases e2 : s = r
  ·subst e2; exact hr
  ·rw [o1 s e2] at hs'; exact h.held s hs'
 mx := fun s => by
  show ho'.getD s 0 ≤ 65535
  by_cases e2 : s = r
  ·subst e2; rw [o0]; omega
  ·rw [o1 s e2]; exact h.mx s
 room := h.room
 cap := h.cap
theorem Mid.drop (h : Mid K S E P) {r : Nat} {ho' : List Nat} (hr : 0 < K.hold r) (hl : ho'.length = K.ho.length) (o0 : ho'.getD r 0 + 1 = K.hold r) (o1 : ∀ s, s ≠ r → ho'.getD s 0 = K.hold s) :
  Mid { K with ho := ho' } S E (if K.hold r = 1 then up P r (P r + 1) else P) where
 two := h.two
 var := h.var
 ne := h.ne
 lo := h.lo
 hi := h.hi
 int := h.int
 tab := h.tab
 use := fun {s e} hs => by
  have hu := h.use hs
  show K.use s = edges K.N s K.cap + (if ho'.getD s 0 = 0 then 0 else 1) + (if K.hold r = 1 then up P r (P r + 1) else P) s
  by_cases e2 : s = r
  ·subst e2
   rw [if_neg (by omega : ¬ K.hold s = 0)] at hu
   by_cases e3 : K.hold s = 1
   ·rw [if_pos e3, up_same, if_pos (by omega)]; omega
   ·rw [if_neg e3, if_neg (by omega)]; omega
  ·rw [o1 s e2]
   by_cases e3 : K.hold r = 1
   ·rw [if_pos e3, up_ne e2]; exact hu
   ·rw [if_neg e3]; exact hu
 len := by show K.us.length = ho'.length; rw [hl]; exact h.len
 fit := h.fit
 held := fun s hs => by
  have hs' : ho'.getD s 0 ≠ 0 := hs
  by_cases e2 : s = r
  ·subst e2; exact h.held s (by omega)
  ·rw [o1 s e2] at hs'; exact h.held s hs'
 mx := fun s => by
  show ho'.getD s 0 ≤ 65535
  have := h.mx r
  by_cases e2 : s = r
  ·subst e2; omega
  ·rw [o1 s e2]; exact h.mx s
 room := h.room
 cap := h.cap
theorem Mid.congr (h : Mid K S E P) {E' : Nat → Prop} {P' : Nat → Nat} (hE : ∀ s, E s ↔ E' s) (hP : ∀ s, 2 ≤ s → P s = P' s) : Mid K S E' P' where
 two := h.two
 var := h.var
 ne := h.ne
 lo := h.lo
 hi := h.hi
 int := h.int
 tab := fun d r => by rw [h.tab, hE]
 use := fun {s e} hs => by rw [← hP s (h.two hs).1]; exact h.use hs
 len := h.len
 fit := h.fit
 held := h.held
 mx := h.mx
 room := h.room
 cap := h.cap
def none' : Nat → Prop := fun _ => False
def zero' : Nat → Nat := fun _ => 0
structure Ok (K : Kd) (S : Nat → Fn) (lev : Nat → Nat) : Prop where
 mid : Mid K S none' zero'
 pos : Pos K
 lv : Lev K.n lev
 wf : WF K.n lev K.N
theorem Mid.uq (h : Mid K S none' P) {r r' : Nat} {d : Nd} (h1 : K.N r = some d) (h2 : K.N r' = some d) : r = r' := by
 have a := (h.tab d r).2 ⟨h1, fun x => x⟩
 have b := (h.tab d r').2 ⟨h2, fun x => x⟩
 rw [a] at b; cases b; rfl
theorem Mid.wf (h : Mid K S none' P) {lev : Nat → Nat} (hl : ∀ {r d}, K.N r = some d → lev d.v < dep K.n lev K.N d.lo ∧ lev d.v < dep K.n lev K.N d.hi) : WF K.n lev K.N :=
 ⟨fun hd => (h.two hd).1, h.var, h.ne, fun hd => ⟨h.lo hd, (hl hd).1⟩, fun hd => ⟨h.hi hd, (hl hd).2⟩, h.uq⟩
theorem Ok.reach {lev : Nat → Nat} (h : Ok K S lev) : Reach K.N (fun r => K.hold r ≠ 0) := fun r d hd => by
 have hu := h.mid.use hd
 have hp := h.pos r d hd
 by_cases e : K.hold r = 0
 ·rw [if_pos e] at hu
  have : zero' r = 0 := rfl
  obtain ⟨s, e', _, h1, h2⟩ := edges_pos (N := K.N) (r := r) (k := K.cap) (by omega)
  exact .inr ⟨s, e', h1, h2⟩
 ·exact .inl e
theorem Ok.dom {lev : Nat → Nat} (h : Ok K S lev) : ∃ dom : List Nat, dom.Nodup ∧ dom.length + 2 = K.used ∧ ∀ r, r ∈ dom ↔ ∃ d, K.N r = some d := by
 refine ⟨(List.range K.cap).filter fun r => (K.N r).isSome, List.nodup_range.filter _, by rw [cntD_dom, h.mid.room]; omega, fun r => ?_⟩
 rw [List.mem_filter, List.mem_range, Option.isSome_iff_exists]
 exact ⟨fun h => h.2, fun ⟨d, hd⟩ => ⟨(h.mid.two hd).2, d, hd⟩⟩
def Kd.held (K : Kd) (S : Nat → Fn) : Fn → Prop := Fs S fun r => K.hold r ≠ 0
theorem Ok.size {lev : Nat → Nat} {ord : List Nat} (h : Ok K S lev) (ho : Ord K.n lev ord) : Cnt (NodeSet K.n ord (K.held S)) (K.used - 2) := by
 obtain ⟨dom, h1, h2, h3⟩ := h.dom
 have hc := cnt_nodes h.wf h.lv h.mid.int h1 h3
 rw [show dom.length = K.used - 2 by omega] at hc
 refine hc.congr fun g => ?_
 exact (nodeSet_iff h.wf h.lv ho h.mid.int (fun r hr => .inr (h.mid.held r hr)) h.reach g).symm
end Bdd
namespace Bdd
open Tab
variable {n : Nat} {lev : Nat → Nat} {N : Sto} {S : Nat → Fn} {ord : List Nat} {K : Kd}
def pl (N : Sto) (y r : Nat) : Nat := match N r with | some e => if e.v = y then e.lo else r | none => r
def ph (N : Sto) (y r : Nat) : Nat := match N r with | some e => if e.v = y then e.hi else r | none => r
theorem pl_y {y r : Nat} {e : Nd} (h : N r = some e) (hv : e.v = y) : pl N y r = e.lo ∧ ph N y r = e.hi := by simp [pl, ph, h, hv]
theorem pl_o {y r : Nat} (h : ∀ e, N r = some e → e.v ≠ y) : pl N y r = r ∧ ph N y r = r := by
 unfold pl ph
 cases hr : N r with
 | none => exact ⟨rfl, rfl⟩
 | some e => simp [h e hr]
theorem WF.half (h : WF n lev N) (hl : Lev n lev) (hi : Interp N S) {y l r : Nat} (hy : y < n ∧ lev y = l + 1) (hr : live N r) (hd : l < dep n lev N r) :
  (live N (pl N y r) ∧ l + 1 < dep n lev N (pl N y r)) ∧ (live N (ph N y r) ∧ l + 1 < dep n lev N (ph N y r)) ∧ ∀ z, S r z = if z.testBit y then S (ph N y r) z else S (pl N y r) z := by
 by_cases e : ∃ e, N r = some e ∧ e.v = y
 ·obtain ⟨e, he, hv⟩ := e
  obtain ⟨p1, p2⟩ := pl_y he hv
  rw [p1, p2]
  have h1 := h.lo he
  have h2 := h.hi he
  rw [hv, hy.2] at h1 h2
  exact ⟨h1, h2, fun z => by rw [hi.node he, hv]⟩
 ·have ho : ∀ e', N r = some e' → e'.v ≠ y := fun e' h1 h2 => e ⟨e', h1, h2⟩
  obtain ⟨p1, p2⟩ := pl_o ho
  rw [p1, p2]
  have hd2 : l + 1 < dep n lev N r := by
   rcases hr with hr | ⟨e', he⟩
   ·rw [dep_none (h.const hr)]
    have := hl.lt y hy.1; omega
   ·rw [dep_some he] at hd ⊢
    have h1 := ho e' he
    refine Nat.lt_of_le_of_ne hd fun e2 => h1 (hl.inj _ _ (h.var he) hy.1 (by omega))
  exact ⟨⟨hr, hd2⟩, ⟨hr, hd2⟩, fun z => by split <;> rfl⟩
theorem WF.half_eq (h : WF n lev N) (hl : Lev n lev) (hi : Interp N S) {y l a b : Nat} (hy : y < n ∧ lev y = l + 1) (ha : live N a) (hb : live N b) (da : l < dep n lev N a) (db : l < dep n lev N b)
  (h1 : pl N y a = pl N y b) (h2 : ph N y a = ph N y b) : a = b := by
 refine h.same hl hi ha hb fun z => ?_
 rw [(h.half hl hi hy ha da).2.2 z, (h.half hl hi hy hb db).2.2 z, h1, h2]
structure Cx where
 r : Nat
 d : Nd
 a00 : Nat
 a01 : Nat
 a10 : Nat
 a11 : Nat
def crosses (N : Sto) (x y r : Nat) (d : Nd) : Prop := N r = some d ∧ d.v = x ∧ ((∃ e, N d.lo = some e ∧ e.v = y) ∨ ∃ e, N d.hi = some e ∧ e.v = y)
def cxOf (N : Sto) (y r : Nat) (d : Nd) : Cx := ⟨r, d, pl N y d.lo, ph N y d.lo, pl N y d.hi, ph N y d.hi⟩
structure CxAll (N : Sto) (x y : Nat) (l : List Cx) : Prop where
 nd : (l.map Cx.r).Nodup
 mem : ∀ c, c ∈ l ↔ crosses N x y c.r c.d ∧ c = cxOf N y c.r c.d
def keys (x : Nat) (c : Cx) : List Nd := [⟨x, c.a00, c.a10⟩, ⟨x, c.a01, c.a11⟩]
structure Made (K : Kd) (x : Nat) (l : List Cx) (made : List Nd) : Prop where
 nd : made.Nodup
 mem : ∀ k, k ∈ made ↔ (∃ c ∈ l, k ∈ keys x c) ∧ K.T k = none ∧ k.lo ≠ k.hi
structure Nb (n : Nat) (lev : Nat → Nat) (x y l : Nat) : Prop where
 xn : x < n
 yn : y < n
 lx : lev x = l
 ly : lev y = l + 1
variable {x y l : Nat}
theorem Nb.ne (h : Nb n lev x y l) : x ≠ y := fun e => by have h1 := h.lx; have h2 := h.ly; rw [e] at h1; omega
theorem Nb.yy (h : Nb n lev x y l) : y < n ∧ lev y = l + 1 := ⟨h.yn, h.ly⟩
theorem keys_low (h : WF n lev N) (hl : Lev n lev) (hi : Interp N S) (hb : Nb n lev x y l) {r : Nat} {d : Nd} (hd : N r = some d) (hx : d.v = x) {k : Nd} (hk : k ∈ keys x (cxOf N y r d)) :
  k.v = x ∧ (live N k.lo ∧ l + 1 < dep n lev N k.lo) ∧ (live N k.hi ∧ l + 1 < dep n lev N k.hi) := by
 have h1 := h.lo hd
 have h2 := h.hi hd
 rw [hx, hb.lx] at h1 h2
 have a := h.half hl hi hb.yy h1.1 h1.2
 have b := h.half hl hi hb.yy h2.1 h2.2
 simp only [keys, cxOf, List.mem_cons, List.not_mem_nil, or_false] at hk
 rcases hk with rfl | rfl
 ·exact ⟨rfl, a.1, b.1⟩
 ·exact ⟨rfl, a.2.1, b.2.1⟩
theorem cross_fn (h : WF n lev N) (hl : Lev n lev) (hi : Interp N S) (hb : Nb n lev x y l) {r : Nat} {d : Nd} (hd : N r = some d) (hx : d.v = x) (z : Nat) :
  S r z = if z.testBit y then ite S ⟨x, ph N y d.lo, ph N y d.hi⟩ z else ite S ⟨x, pl N y d.lo, pl N y d.hi⟩ z := by
 have h1 := h.lo hd
 have h2 := h.hi hd
 rw [hx, hb.lx] at h1 h2
 have a := (h.half hl hi hb.yy h1.1 h1.2).2.2 z
 have b := (h.half hl hi hb.yy h2.1 h2.2).2.2 z
 rw [hi.node hd, hx, a, b]
 unfold ite
 simp only
 cases z.testBit x <;> cases z.testBit y <;> rfl
theorem ite_cof (h : WF n lev N) (hl : Lev n lev) (hi : Interp N S) (hb : Nb n lev x y l) {k : Nd} (hk : k.v = x) (h1 : live N k.lo ∧ l + 1 < dep n lev N k.lo) (h2 : live N k.hi ∧ l + 1 < dep n lev N k.hi) (z : Nat) (b : Bool) :
  ite S k (setb z x b) = S (if b then k.hi else k.lo) z := by
 unfold ite
 rw [hk, testBit_setb, if_pos rfl]
 cases b
 ·simp only [Bool.false_eq_true, if_false]; exact h.indep' hl hi h1.1 hb.xn (by rw [hb.lx]; omega) z false
 ·simp only [if_true]; exact h.indep' hl hi h2.1 hb.xn (by rw [hb.lx]; omega) z true
theorem ite_other (h : WF n lev N) (hl : Lev n lev) (hi : Interp N S) (hb : Nb n lev x y l) {k : Nd} (hk : k.v = x) (h1 : live N k.lo ∧ l + 1 < dep n lev N k.lo) (h2 : live N k.hi ∧ l + 1 < dep n lev N k.hi) {u : Nat} (hu : u < n) (hul : lev u ≤ l + 1) (hne : u ≠ x) (z : Nat) (b : Bool) :
  ite S k (setb z u b) = ite S k z := by
 unfold ite
 rw [hk, testBit_setb, if_neg (Ne.symm hne), h.indep' hl hi h1.1 hu (by omega), h.indep' hl hi h2.1 hu (by omega)]
theorem node_hangs (h : WF n lev N) (hl : Lev n lev) (hi : Interp N S) {r : Nat} {d : Nd} (hd : N r = some d) : ∃ z, S r (setb z d.v false) ≠ S r (setb z d.v true) := by
 refine Classical.byContradiction fun hno => h.ne hd (h.same hl hi (h.lo hd).1 (h.hi hd).1 fun z => ?_)
 have c1 := h.child hl hi hd z false
 have c2 := h.child hl hi hd z true
 simp only [Bool.false_eq_true, if_false, if_true] at c1 c2
 rw [← c1, ← c2]
 exact Classical.byContradiction fun hne => hno ⟨z, hne⟩
theorem ite_node (h : WF n lev N) (hl : Lev n lev) (hi : Interp N S) (hb : Nb n lev x y l) {k : Nd} (hk : k.v = x) (hne : k.lo ≠ k.hi) (h1 : live N k.lo ∧ l + 1 < dep n lev N k.lo) (h2 : live N k.hi ∧ l + 1 < dep n lev N k.hi)
  {r : Nat} {d : Nd} (hd : N r = some d) (he : ite S k = S r) : d = k := by
 have hv := h.var hd
 have hvx : d.v = x := by
  rcases Nat.lt_trichotomy (lev d.v) l with hlt | heq | hgt
  ·obtain ⟨z, hz⟩ := node_hangs h hl hi hd
   have hne2 : d.v ≠ x := fun e => by rw [e, hb.lx] at hlt; omega
   rw [← he, ite_other h hl hi hb hk h1 h2 hv (by omega) hne2, ite_other h hl hi hb hk h1 h2 hv (by omega) hne2] at hz
   exact absurd rfl hz
  ·exact hl.inj _ _ hv hb.xn (by rw [hb.lx]; exact heq)
  ·refine absurd (h.same hl hi h1.1 h2.1 fun z => ?_) hne
   have c1 := ite_cof h hl hi hb hk h1 h2 z false
   have c2 := ite_cof h hl hi hb hk h1 h2 z true
   simp only [Bool.false_eq_true, if_false, if_true] at c1 c2
   have hdp : lev x < dep n lev N r := by rw [dep_some hd, hb.lx]; exact hgt
   rw [← c1, ← c2, he, h.indep' hl hi (.inr ⟨d, hd⟩) hb.xn hdp, h.indep' hl hi (.inr ⟨d, hd⟩) hb.xn hdp]
 have c : ∀ (b : Bool) z, S (if b then k.hi else k.lo) z = S (if b then d.hi else d.lo) z := fun (b : Bool) z => by
  rw [← ite_cof h hl hi hb hk h1 h2 z b, he, ← hvx, h.child hl hi hd z b]
 have e1 := h.same hl hi h1.1 (h.lo hd).1 (fun z => by simpa using c false z)
 have e2 := h.same hl hi h2.1 (h.hi hd).1 (fun z => by simpa using c true z)
 cases d; cases k; simp_all
theorem ite_inj (h : WF n lev N) (hl : Lev n lev) (hi : Interp N S) (hb : Nb n lev x y l) {k k' : Nd} (hk : k.v = x) (hk' : k'.v = x) (h1 : live N k.lo ∧ l + 1 < dep n lev N k.lo) (h2 : live N k.hi ∧ l + 1 < dep n lev N k.hi)
  (h1' : live N k'.lo ∧ l + 1 < dep n lev N k'.lo) (h2' : live N k'.hi ∧ l + 1 < dep n lev N k'.hi) (he : ite S k = ite S k') : k = k' := by
 have c : ∀ (b : Bool) z, S (if b then k.hi else k.lo) z = S (if b then k'.hi else k'.lo) z := fun (b : Bool) z => by
  rw [← ite_cof h hl hi hb hk h1 h2 z b, he, ite_cof h hl hi hb hk' h1' h2' z b]
 have e1 := h.same hl hi h1.1 h1'.1 (fun z => by simpa using c false z)
 have e2 := h.same hl hi h2.1 h2'.1 (fun z => by simpa using c true z)
 cases k; cases k'; simp_all
def swp (ord : List Nat) (l : Nat) : List Nat := (ord.set l (ord.getD (l + 1) 0)).set (l + 1) (ord.getD l 0)
theorem swp_len (ord : List Nat) (l : Nat) : (swp ord l).length = ord.length := by simp [swp]
theorem swp_get {i : Nat} (hl : l + 1 < ord.length) : (swp ord l).getD i 0 = if i = l then ord.getD (l + 1) 0 else if i = l + 1 then ord.getD l 0 else ord.getD i 0 := by
 unfold swp
 rw [List.getD_eq_getElem?_getD, List.getElem?_set, List.getElem?_set]
 by_cases e1 : l + 1 = i
 ·subst e1
  rw [if_pos rfl, if_pos (by simp; omega), if_neg (by omega), if_pos rfl]; rfl
 ·rw [if_neg e1]
  by_cases e2 : l = i
  ·subst e2; rw [if_pos rfl, if_pos (by omega), if_pos rfl]; rfl
  ·rw [if_neg e2, if_neg (fun e => e2 e.symm), if_neg (fun e => e1 e.symm), ← List.getD_eq_getElem?_getD]
def swl (lev : Nat → Nat) (x y l : Nat) : Nat → Nat := fun v => if v = x then l + 1 else if v = y then l else lev v
theorem swl_lev (hl : Lev n lev) (hb : Nb n lev x y l) : Lev n (swl lev x y l) := by
 have hyn := hl.lt y hb.yn
 rw [hb.ly] at hyn
 have key : ∀ v, v < n → v ≠ x → v ≠ y → lev v ≠ l ∧ lev v ≠ l + 1 := fun v hv h1 h2 => ⟨fun e => h1 (hl.inj _ _ hv hb.xn (by rw [hb.lx]; exact e)), fun e => h2 (hl.inj _ _ hv hb.yn (by rw [hb.ly]; exact e))⟩
 refine ⟨fun v hv => ?_, fun u v hu hv he => ?_⟩
 ·unfold swl
  split
  ·exact hyn
  ·split
   ·omega
   ·exact hl.lt v hv
 ·unfold swl at he
  by_cases u1 : u = x
  ·by_cases v1 : v = x
   ·rw [u1, v1]
   ·rw [if_pos u1, if_neg v1] at he
    by_cases v2 : v = y
    ·rw [if_pos v2] at he; omega
    ·rw [if_neg v2] at he; exact absurd he.symm (key v hv v1 v2).2
  ·rw [if_neg u1] at he
   by_cases u2 : u = y
   ·rw [if_pos u2] at he
    by_cases v1 : v = x
    ·rw [if_pos v1] at he; omega
    ·rw [if_neg v1] at he
     by_cases v2 : v = y
     ·rw [u2, v2]
     ·rw [if_neg v2] at he; exact absurd he.symm (key v hv v1 v2).1
   ·rw [if_neg u2] at he
    by_cases v1 : v = x
    ·rw [if_pos v1] at he; exact absurd he (key u hu u1 u2).2
    ·rw [if_neg v1] at he
     by_cases v2 : v = y
     ·rw [if_pos v2] at he; exact absurd he (key u hu u1 u2).1
     ·rw [if_neg v2] at he; exact hl.inj _ _ hu hv he
theorem Ord.nb (ho : Ord n lev ord) (hl : l + 1 < n) : Nb n lev (ord.getD l 0) (ord.getD (l + 1) 0) l :=
 ⟨(ho.at' l (by omega)).1, (ho.at' (l + 1) hl).1, (ho.at' l (by omega)).2, (ho.at' (l + 1) hl).2⟩
theorem swp_ord (ho : Ord n lev ord) (hl : l + 1 < n) : Ord n (swl lev (ord.getD l 0) (ord.getD (l + 1) 0) l) (swp ord l) := by
 have hb := ho.nb hl
 refine ⟨by rw [swp_len, ho.len], fun i hi => ?_⟩
 rw [swp_get (by rw [ho.len]; exact hl)]
 unfold swl
 by_cases e1 : i = l
 ·subst e1; rw [if_pos rfl]; refine ⟨hb.yn, ?_⟩; rw [if_neg (Ne.symm hb.ne), if_pos rfl]
 ·rw [if_neg e1]
  by_cases e2 : i = l + 1
  ·subst e2; rw [if_pos rfl]; refine ⟨hb.xn, ?_⟩; rw [if_pos rfl]
  ·rw [if_neg e2]
   obtain ⟨h1, h2⟩ := ho.at' i hi
   refine ⟨h1, ?_⟩
   rw [if_neg, if_neg]
   ·exact h2
   ·intro e; rw [e, hb.ly] at h2; omega
   ·intro e; rw [e, hb.lx] at h2; omega
variable {F : Fn → Prop}
theorem fs_swp (hl : l + 1 < ord.length) (hne : ord.getD l 0 ≠ ord.getD (l + 1) 0) : ∀ m, m ≠ l + 1 → ∀ g, fs (swp ord l) F m g ↔ fs ord F m g
 | 0, _, g => Iff.rfl
 | m + 1, hm, g => by
  by_cases e : m = l + 1
  ·subst e
   have g1 : (swp ord l).getD (l + 1) 0 = ord.getD l 0 := by rw [swp_get hl, if_neg (by omega), if_pos rfl]
   have g2 : (swp ord l).getD l 0 = ord.getD (l + 1) 0 := by rw [swp_get hl, if_pos rfl]
   have ih := fs_swp hl hne l (by omega)
   constructor
   ·rintro ⟨f, ⟨f', h, b, rfl⟩, b', rfl⟩
    refine ⟨_, ⟨f', (ih f').1 h, b', rfl⟩, b, ?_⟩
    funext z
    rw [g1, g2]
    show f' _ = f' _
    rw [setb_comm hne]
   ·rintro ⟨f, ⟨f', h, b, rfl⟩, b', rfl⟩
    refine ⟨_, ⟨f', (ih f').2 h, b', rfl⟩, b, ?_⟩
    funext z
    rw [g1, g2]
    show f' _ = f' _
    rw [setb_comm (Ne.symm hne)]
  ·have ih := fs_swp hl hne m e
   have hg : (swp ord l).getD m 0 = ord.getD m 0 := by rw [swp_get hl, if_neg (by omega), if_neg e]
   constructor
   ·rintro ⟨f, h, b, rfl⟩; exact ⟨f, (ih f).1 h, b, by rw [hg]⟩
   ·rintro ⟨f, h, b, rfl⟩; exact ⟨f, (ih f).2 h, b, by rw [hg]⟩
theorem turn_cnt (h : Ok K S lev) (ho : Ord K.n lev ord) (hln : l + 1 < K.n) {all : List Cx} (hc : CxAll K.N (ord.getD l 0) (ord.getD (l + 1) 0) all) {made : List Nd} (hm : Made K (ord.getD l 0) all made) :
  Cnt (fun g => NodeSet K.n ord (K.held S) g ∨ NodeSet K.n (swp ord l) (K.held S) g) (K.used - 2 + made.length) := by
 have hb := ho.nb hln
 have hlen : l + 1 < ord.length := by rw [ho.len]; exact hln
 have hw := h.wf
 have hlv := h.lv
 have hi := h.mid.int
 have hR : ∀ r, K.hold r ≠ 0 → live K.N r := fun r hr => .inr (h.mid.held r hr)
 generalize hx : ord.getD l 0 = x at *
 generalize hy : ord.getD (l + 1) 0 = y at *
 have hlow : ∀ k ∈ made, k.v = x ∧ (live K.N k.lo ∧ l + 1 < dep K.n lev K.N k.lo) ∧ (live K.N k.hi ∧ l + 1 < dep K.n lev K.N k.hi) := fun k hk => by
  obtain ⟨⟨c, hcm, hkc⟩, _⟩ := (hm.mem k).1 hk
  obtain ⟨⟨hd, hdx, _⟩, e⟩ := (hc.mem c).1 hcm
  rw [e] at hkc
  exact keys_low hw hlv hi hb hd hdx hkc
 obtain ⟨dom, d1, d2, d3⟩ := h.dom
 have c1 := cnt_nodes hw hlv hi d1 d3
 rw [show dom.length = K.used - 2 by omega] at c1
 have c2 : Cnt (fun g => ∃ k ∈ made, g = ite S k) made.length := by
  refine ⟨made.map (ite S), ?_, by simp, fun g => ?_⟩
  ·refine List.pairwise_map.2 (hm.nd.imp_of_mem fun {a b} ha hb' hne heq => hne ?_)
   obtain ⟨a1, a2, a3⟩ := hlow a ha
   obtain ⟨b1, b2, b3⟩ := hlow b hb'
   exact ite_inj hw hlv hi hb a1 b1 a2 a3 b2 b3 heq
  ·rw [List.mem_map]
   constructor
   ·rintro ⟨k, hk, rfl⟩; exact ⟨k, hk, rfl⟩
   ·rintro ⟨k, hk, rfl⟩; exact ⟨k, hk, rfl⟩
 refine (c1.or c2 ?_).congr fun g => ?_
 ·rintro g ⟨r, d, hd, rfl⟩ ⟨k, hk, he⟩
  obtain ⟨a1, a2, a3⟩ := hlow k hk
  obtain ⟨_, hT, hne⟩ := (hm.mem k).1 hk
  have := ite_node hw hlv hi hb a1 hne a2 a3 hd he.symm
  subst this
  rw [(h.mid.tab d r).2 ⟨hd, fun x => x⟩] at hT; cases hT
 ·have hns := nodeSet_iff hw hlv ho hi hR h.reach
  have hfs := fun m (hmn : m ≤ K.n) g => fs_A hw hlv ho hi hR m hmn g
  have hne : ord.getD l 0 ≠ ord.getD (l + 1) 0 := by rw [hx, hy]; exact hb.ne
  have hsw := fs_swp (F := K.held S) hlen hne
  have gl : (swp ord l).getD l 0 = y := by rw [swp_get hlen, if_pos rfl, hy]
  have gl1 : (swp ord l).getD (l + 1) 0 = x := by rw [swp_get hlen, if_neg (by omega), if_pos rfl, hx]
  have go : ∀ m, m ≠ l → m ≠ l + 1 → (swp ord l).getD m 0 = ord.getD m 0 := fun m h1 h2 => by rw [swp_get hlen, if_neg h1, if_neg h2]
  constructor
  ·rintro (⟨r, d, hd, rfl⟩ | ⟨k, hk, rfl⟩)
   ·exact .inl ((hns _).2 ⟨r, d, hd, rfl⟩)
   ·obtain ⟨a1, a2, a3⟩ := hlow k hk
    obtain ⟨⟨c, hcm, hkc⟩, hT, hkne⟩ := (hm.mem k).1 hk
    obtain ⟨⟨hd, hdx, _⟩, e⟩ := (hc.mem c).1 hcm
    refine .inr ⟨l + 1, hln, ?_, ?_⟩
    ·have hA := A_all hw h.reach _ c.r c.d hd (Nat.le_refl _)
     rw [hdx, hb.lx] at hA
     refine ⟨S c.r, (hsw l (by omega) _).2 ((hfs l (by omega) _).2 ⟨c.r, hA, rfl⟩), ?_⟩
     have hcf := cross_fn hw hlv hi hb hd hdx
     rw [e] at hkc
     simp only [keys, cxOf, List.mem_cons, List.not_mem_nil, or_false] at hkc
     rw [gl]
     rcases hkc with rfl | rfl
     ·refine ⟨false, ?_⟩
      funext z
      rw [hcf, testBit_setb, if_pos rfl, if_neg (by simp), ite_other hw hlv hi hb rfl a2 a3 hb.yn (by rw [hb.ly]; exact Nat.le_refl _) (Ne.symm hb.ne)]
     ·refine ⟨true, ?_⟩
      funext z
      rw [hcf, testBit_setb, if_pos rfl, if_pos rfl, ite_other hw hlv hi hb rfl a2 a3 hb.yn (by rw [hb.ly]; exact Nat.le_refl _) (Ne.symm hb.ne)]
    ·rw [gl1]
     refine Classical.byContradiction fun hno => hkne (hw.same hlv hi a2.1 a3.1 fun z => ?_)
     have c1 := ite_cof hw hlv hi hb a1 a2 a3 z false
     have c2 := ite_cof hw hlv hi hb a1 a2 a3 z true
     simp only [Bool.false_eq_true, if_false, if_true] at c1 c2
     rw [← c1, ← c2]
     exact Classical.byContradiction fun hne => hno ⟨z, hne⟩
  ·rintro (hg | ⟨m, hmn, hf, hh⟩)
   ·exact .inl ((hns g).1 hg)
   ·by_cases e1 : m = l + 1
    ·subst e1
     rw [gl1] at hh
     obtain ⟨f, hf, b, rfl⟩ := hf
     rw [gl] at hh ⊢
     obtain ⟨r, hA, rfl⟩ := (hfs l (by omega) f).1 ((hsw l (by omega) f).1 hf)
     obtain ⟨hlr, hle⟩ := A_live hw hR l r hA
     have hgt : dep K.n lev K.N r = l := by
      refine Nat.le_antisymm (Nat.le_of_not_lt fun hlt => ?_) hle
      obtain ⟨z, hz⟩ := hh
      refine hz ?_
      show S r (setb (setb z x false) y b) = S r (setb (setb z x true) y b)
      rw [setb_comm hb.ne, setb_comm hb.ne, hw.indep' hlv hi hlr hb.xn (by rw [hb.lx]; exact hlt), hw.indep' hlv hi hlr hb.xn (by rw [hb.lx]; exact hlt)]
     rcases hlr with hcst | ⟨d, hd⟩
     ·rw [dep_none (hw.const hcst)] at hgt; omega
     ·rw [dep_some hd] at hgt
      have hdx : d.v = x := hlv.inj _ _ (hw.var hd) hb.xn (by rw [hb.lx]; exact hgt)
      have hcf := cross_fn hw hlv hi hb hd hdx
      have hkk : ∃ k ∈ keys x (cxOf K.N y r d), (fun z => S r (setb z y b)) = ite S k := by
       cases b
       ·refine ⟨_, List.mem_cons_self, ?_⟩
        obtain ⟨a1, a2, a3⟩ := keys_low hw hlv hi hb hd hdx (k := ⟨x, pl K.N y d.lo, pl K.N y d.hi⟩) List.mem_cons_self
        funext z
        rw [hcf, testBit_setb, if_pos rfl, if_neg (by simp), ite_other hw hlv hi hb rfl a2 a3 hb.yn (by rw [hb.ly]; exact Nat.le_refl _) (Ne.symm hb.ne)]; rfl
       ·refine ⟨_, List.mem_cons_of_mem _ List.mem_cons_self, ?_⟩
        obtain ⟨a1, a2, a3⟩ := keys_low hw hlv hi hb hd hdx (k := ⟨x, ph K.N y d.lo, ph K.N y d.hi⟩) (List.mem_cons_of_mem _ List.mem_cons_self)
        funext z
        rw [hcf, testBit_setb, if_pos rfl, if_pos rfl, ite_other hw hlv hi hb rfl a2 a3 hb.yn (by rw [hb.ly]; exact Nat.le_refl _) (Ne.symm hb.ne)]; rfl
      obtain ⟨k, hkm, hke⟩ := hkk
      obtain ⟨a1, a2, a3⟩ := keys_low hw hlv hi hb hd hdx hkm
      rw [hke] at hh ⊢
      have hkne : k.lo ≠ k.hi := fun e => by
       obtain ⟨z, hz⟩ := hh
       have c1 := ite_cof hw hlv hi hb a1 a2 a3 z false
       have c2 := ite_cof hw hlv hi hb a1 a2 a3 z true
       simp only [Bool.false_eq_true, if_false, if_true] at c1 c2
       rw [c1, c2, e] at hz; exact hz rfl
      cases hT : K.T k with
      | some s =>
       have hs := ((h.mid.tab k s).1 hT).1
       refine .inl ⟨s, k, hs, ?_⟩
       funext z
       exact (hi.node hs z).symm
      | none =>
       by_cases hcr : crosses K.N x y r d
       ·exact .inr ⟨k, (hm.mem k).2 ⟨⟨cxOf K.N y r d, (hc.mem _).2 ⟨hcr, rfl⟩, hkm⟩, hT, hkne⟩, rfl⟩
       ·have hno : ∀ t, t = d.lo ∨ t = d.hi → pl K.N y t = t ∧ ph K.N y t = t := fun t ht => pl_o fun e he hv => hcr ⟨hd, hdx, by
         rcases ht with rfl | rfl
         ·exact .inl ⟨e, he, hv⟩
         ·exact .inr ⟨e, he, hv⟩⟩
        have e1 := hno d.lo (.inl rfl)
        have e2 := hno d.hi (.inr rfl)
        have : k = d := by
         simp only [keys, cxOf, e1.1, e1.2, e2.1, e2.2, List.mem_cons, List.not_mem_nil, or_false, or_self] at hkm
         rw [hkm, ← hdx]
        rw [this, (h.mid.tab d r).2 ⟨hd, fun x => x⟩] at hT; cases hT
    ·by_cases e2 : m = l
     ·subst e2
      rw [gl] at hh
      obtain ⟨r, hA, rfl⟩ := (hfs m (by omega) g).1 ((hsw m e1 g).1 hf)
      obtain ⟨hlr, hle⟩ := A_live hw hR m r hA
      rcases hlr with hcst | ⟨d, hd⟩
      ·obtain ⟨z, hz⟩ := hh
       have : ∀ z, S r z = S r 0 := fun z => by
        have : r = 0 ∨ r = 1 := by omega
        rcases this with rfl | rfl
        ·rw [hi.zero, hi.zero]
        ·rw [hi.one, hi.one]
       rw [this (setb z y false), this (setb z y true)] at hz
       exact absurd rfl hz
      ·exact .inl ⟨r, d, hd, rfl⟩
     ·refine .inl ((hns g).1 ⟨m, hmn, (hsw m e1 g).1 hf, ?_⟩)
      rw [go m e2 e1] at hh; exact hh
end Bdd
namespace Bdd
open Tab
def Low (K : Kd) (lev : Nat → Nat) (l t : Nat) : Prop := live K.N t ∧ l + 1 < dep K.n lev K.N t
def Kid (K0 K : Kd) (lev : Nat → Nat) (x l t : Nat) : Prop := Low K0 lev l t ∨ ∃ e, K.N t = some e ∧ e.v = x ∧ Low K0 lev l e.lo ∧ Low K0 lev l e.hi
structure TI (K0 : Kd) (S0 : Nat → Fn) (lev : Nat → Nat) (x y l : Nat) (made : List Nd) (K : Kd) (S : Nat → Fn) (done rest : List Cx) (P : Nat → Nat) : Prop where
 mid : Mid K S (fun s => ∃ c ∈ rest, s = c.r) P
 n : K.n = K0.n
 cap : K.cap = K0.cap
 hold : ∀ r, K.hold r = K0.hold r
 ext : ∀ r, live K0.N r → S r = S0 r
 old : ∀ {r d}, K0.N r = some d → r ∉ done.map Cx.r → K.N r = some d
 kept : ∀ {r d}, K0.N r = some d → ∃ d', K.N r = some d'
 new : ∀ {r d}, K.N r = some d → (K0.N r = some d ∧ r ∉ done.map Cx.r) ∨ (r ∈ done.map Cx.r ∧ d.v = y ∧ Kid K0 K lev x l d.lo ∧ Kid K0 K lev x l d.hi) ∨ (K0.N r = none ∧ d.v = x ∧ Low K0 lev l d.lo ∧ Low K0 lev l d.hi)
 used : K.used = K0.used + (made.filter fun k => (K.T k).isSome).length
structure TB (K0 : Kd) (S0 : Nat → Fn) (lev : Nat → Nat) (x y l : Nat) (all : List Cx) (made : List Nd) : Prop where
 ok : Ok K0 S0 lev
 nb : Nb K0.n lev x y l
 cx : CxAll K0.N x y all
 mad : Made K0 x all made
 room : K0.used + made.length ≤ K0.cap
section
variable {K0 K : Kd} {S0 S : Nat → Fn} {lev : Nat → Nat} {x y l : Nat} {made : List Nd} {done rest all : List Cx} {P : Nat → Nat}
theorem TB.cross (b : TB K0 S0 lev x y l all made) {c : Cx} (hc : c ∈ all) : K0.N c.r = some c.d ∧ c.d.v = x ∧ c = cxOf K0.N y c.r c.d := by
 obtain ⟨⟨h1, h2, _⟩, h3⟩ := (b.cx.mem c).1 hc
 exact ⟨h1, h2, h3⟩
theorem TB.lowa (b : TB K0 S0 lev x y l all made) {c : Cx} (hc : c ∈ all) : (Low K0 lev l c.a00 ∧ Low K0 lev l c.a10) ∧ (Low K0 lev l c.a01 ∧ Low K0 lev l c.a11) := by
 obtain ⟨h1, h2, h3⟩ := b.cross hc
 have k1 := keys_low b.ok.wf b.ok.lv b.ok.mid.int b.nb h1 h2 (k := ⟨x, pl K0.N y c.d.lo, pl K0.N y c.d.hi⟩) List.mem_cons_self
 have k2 := keys_low b.ok.wf b.ok.lv b.ok.mid.int b.nb h1 h2 (k := ⟨x, ph K0.N y c.d.lo, ph K0.N y c.d.hi⟩) (List.mem_cons_of_mem _ List.mem_cons_self)
 rw [h3]
 exact ⟨⟨k1.2.1, k1.2.2⟩, ⟨k2.2.1, k2.2.2⟩⟩
theorem TB.level (b : TB K0 S0 lev x y l all made) {c : Cx} (hc : c ∈ all) : dep K0.n lev K0.N c.r = l := by
 obtain ⟨h1, h2, _⟩ := b.cross hc
 rw [dep_some h1, h2, b.nb.lx]
theorem TB.start (b : TB K0 S0 lev x y l all made) {T : Nd → Option Nat} (hm : Mid { K0 with T := T } S0 (fun s => ∃ c ∈ all, s = c.r) zero') (hT : ∀ d, T d = none ∨ T d = K0.T d) :
  TI K0 S0 lev x y l made { K0 with T := T } S0 [] all zero' where
 mid := hm
 n := rfl
 cap := rfl
 hold := fun _ => rfl
 ext := fun _ _ => rfl
 old := fun h _ => h
 kept := fun h => ⟨_, h⟩
 new := fun h => .inl ⟨h, by simp⟩
 used := by
  have : made.filter (fun k => (T k).isSome) = [] := by
   rw [List.filter_eq_nil_iff]
   intro k hk
   have h1 := ((b.mad.mem k).1 hk).2.1
   rcases hT k with h2 | h2
   ·rw [h2]; simp
   ·rw [h2, h1]; simp
  show K0.used = K0.used + (made.filter (fun k => (T k).isSome)).length
  rw [this]; simp
theorem TI.lowN (b : TB K0 S0 lev x y l all made) (h : TI K0 S0 lev x y l made K S done rest P) (hd : ∀ c ∈ done, c ∈ all) {t : Nat} (ht : Low K0 lev l t) : K.N t = K0.N t := by
 rcases ht with ⟨ht | ⟨d, hd'⟩, hlt⟩
 ·cases e : K.N t with
  | none => rw [b.ok.wf.const ht]
  | some d => have := (h.mid.two e).1; omega
 ·rw [hd']
  refine h.old hd' fun hm => ?_
  obtain ⟨c, hc, e⟩ := List.mem_map.1 hm
  have := b.level (hd c hc)
  rw [e] at this; omega
theorem TI.lowLive (b : TB K0 S0 lev x y l all made) (h : TI K0 S0 lev x y l made K S done rest P) (hd : ∀ c ∈ done, c ∈ all) {t : Nat} (ht : Low K0 lev l t) : live K.N t := by
 have e := h.lowN b hd ht
 rcases ht.1 with ht | ⟨d, hd'⟩
 ·exact .inl ht
 ·exact .inr ⟨d, by rw [e]; exact hd'⟩
theorem TI.kidLive (b : TB K0 S0 lev x y l all made) (h : TI K0 S0 lev x y l made K S done rest P) (hd : ∀ c ∈ done, c ∈ all) {t : Nat} (ht : Kid K0 K lev x l t) : live K.N t := by
 rcases ht with ht | ⟨e, he, _⟩
 ·exact h.lowLive b hd ht
 ·exact .inr ⟨e, he⟩
theorem TI.use (h : TI K0 S0 lev x y l made K S done rest P) {r : Nat} {us' : List Nat} (hl : us'.length = K.us.length) (h1 : us'.getD r 0 = K.use r + 1) (h2 : ∀ s, s ≠ r → us'.getD s 0 = K.use s) :
  TI K0 S0 lev x y l made { K with us := us' } S done rest (up P r (P r + 1)) where
 mid := h.mid.more hl h1 h2
 n := h.n
 cap := h.cap
 hold := h.hold
 ext := h.ext
 old := h.old
 kept := h.kept
 new := h.new
 used := h.used
theorem TI.congr (h : TI K0 S0 lev x y l made K S done rest P) {P' : Nat → Nat} (hP : ∀ s, 2 ≤ s → P s = P' s) : TI K0 S0 lev x y l made K S done rest P' where
 mid := h.mid.congr (fun _ => Iff.rfl) hP
 n := h.n
 cap := h.cap
 hold := h.hold
 ext := h.ext
 old := h.old
 kept := h.kept
 new := h.new
 used := h.used
theorem filter_lt {α : Type} {p : α → Bool} {k : α} : ∀ {m : List α}, k ∈ m → p k = false → (m.filter p).length < m.length
 | [], h, _ => by simp at h
 | z :: m, h, hp => by
  rcases List.mem_cons.1 h with rfl | h
  ·rw [List.filter_cons, if_neg (by simp [hp])]
   have := List.length_filter_le p m
   simp; omega
  ·have := filter_lt h hp
   rw [List.filter_cons]
   split
   ·rw [List.length_cons, List.length_cons]; omega
   ·rw [List.length_cons]; omega
theorem TI.fits (b : TB K0 S0 lev x y l all made) (h : TI K0 S0 lev x y l made K S done rest P) {k : Nd} (hk : k ∈ made) (hT : K.T k = none) : K.used < K.cap := by
 have h1 := filter_lt (p := fun k => (K.T k).isSome) hk (by rw [hT]; rfl)
 have h2 := h.used
 have h3 := b.room
 have h4 := h.cap
 omega
theorem filter_more {T : Nd → Option Nat} {k : Nd} {r : Nat} : ∀ {m : List Nd}, m.Nodup → T k = none → (m.filter fun d => (upT T k (some r) d).isSome).length = (m.filter fun d => (T d).isSome).length + (if k ∈ m then 1 else 0)
 | [], _, _ => rfl
 | z :: m, hn, hT => by
  obtain ⟨h1, h2⟩ := List.nodup_cons.1 hn
  have ih := filter_more (r := r) h2 hT
  rw [List.filter_cons, List.filter_cons]
  by_cases e : z = k
  ·subst e
   rw [upT_same, hT]
   simp only [Option.isSome_some, if_true, Option.isSome_none, Bool.false_eq_true, if_false, List.length_cons, ih, if_neg h1, List.mem_cons, true_or]
  ·rw [upT_ne e]
   have e2 : (k ∈ z :: m) ↔ k ∈ m := by rw [List.mem_cons]; exact ⟨fun h => h.resolve_left (fun h => e h.symm), .inr⟩
   simp only [e2]
   split
   ·simp only [List.length_cons, ih]; omega
   ·exact ih
theorem TB.lowVar (b : TB K0 S0 lev x y l all made) {t : Nat} (ht : Low K0 lev l t) {e : Nd} (he : K0.N t = some e) : l + 1 < lev e.v := by
 have := ht.2
 rwa [dep_some he] at this
theorem TB.notCross (b : TB K0 S0 lev x y l all made) {c : Cx} (hc : c ∈ all) (h1 : Low K0 lev l c.d.lo) (h2 : Low K0 lev l c.d.hi) : False := by
 obtain ⟨⟨_, _, h3⟩, _⟩ := (b.cx.mem c).1 hc
 have hy := b.nb.ly
 rcases h3 with ⟨e, he, hv⟩ | ⟨e, he, hv⟩
 ·have := b.lowVar h1 he; rw [hv] at this; omega
 ·have := b.lowVar h2 he; rw [hv] at this; omega
theorem TI.inMade (b : TB K0 S0 lev x y l all made) (h : TI K0 S0 lev x y l made K S done rest P) (hd : ∀ c ∈ done, c ∈ all) (hr : ∀ c ∈ rest, c ∈ all) {c : Cx} (hc : c ∈ all) {k : Nd} (hk : k ∈ keys x c) (hne : k.lo ≠ k.hi) (h1 : Low K0 lev l k.lo) (h2 : Low K0 lev l k.hi) (hT : K.T k = none) : k ∈ made := by
 refine (b.mad.mem k).2 ⟨⟨c, hc, hk⟩, ?_, hne⟩
 cases e : K0.T k with
 | none => rfl
 | some s =>
  have hs := ((b.ok.mid.tab k s).1 e).1
  have hno : ∀ c' ∈ all, s ≠ c'.r := fun c' hc' e' => by
   have h3 := (b.cross hc').1
   rw [← e', hs] at h3
   cases h3
   exact b.notCross hc' h1 h2
  have hs1 : K.N s = some k := by
   refine h.old hs fun hm => ?_
   obtain ⟨c', hc', e'⟩ := List.mem_map.1 hm
   exact hno c' (hd c' hc') e'.symm
  have := (h.mid.tab k s).2 ⟨hs1, by rintro ⟨c', hc', e'⟩; exact hno c' (hr c' hc') e'⟩
  rw [hT] at this; cases this
theorem TI.lay (b : TB K0 S0 lev x y l all made) (h : TI K0 S0 lev x y l made K S done rest P) (hd : ∀ c ∈ done, c ∈ all) (hr : ∀ c ∈ rest, c ∈ all) {c : Cx} (hc : c ∈ all) {k : Nd} (hk : k ∈ keys x c) (hne : k.lo ≠ k.hi) (hT : K.T k = none)
  {r : Nat} {us' ho' : List Nat} (hN : K.N r = none) (h2 : 2 ≤ r ∧ r < K.cap) (hl : us'.length = ho'.length) (hf : r < us'.length ∧ K.us.length ≤ us'.length) (u0 : us'.getD r 0 = 0) (u1 : ∀ s, 2 ≤ s → s ≠ r → us'.getD s 0 = K.use s + e1 (some k) s) (o0 : ho'.getD r 0 = 0) (o1 : ∀ s, s ≠ r → ho'.getD s 0 = K.hold s) (hP : P r = 0) :
  TI K0 S0 lev x y l made { K with N := up K.N r (some k), T := upT K.T k (some r), used := K.used + 1, us := us', ho := ho' } (up S r (ite S k)) done rest P ∧ Kid K0 { K with N := up K.N r (some k), T := upT K.T k (some r), used := K.used + 1, us := us', ho := ho' } lev x l r := by
 have hlow := b.lowa hc
 have hkv : k.v = x ∧ Low K0 lev l k.lo ∧ Low K0 lev l k.hi := by
  simp only [keys, List.mem_cons, List.not_mem_nil, or_false] at hk
  rcases hk with rfl | rfl
  ·exact ⟨rfl, hlow.1.1, hlow.1.2⟩
  ·exact ⟨rfl, hlow.2.1, hlow.2.2⟩
 have hkN : K0.N r = none := by
  cases e : K0.N r with
  | none => rfl
  | some d => obtain ⟨d', hd'⟩ := h.kept e; rw [hN] at hd'; cases hd'
 have hkm := h.inMade b hd hr hc hk hne hkv.2.1 hkv.2.2 hT
 have hE : ¬ ∃ c ∈ rest, r = c.r := by
  rintro ⟨c', hc', rfl⟩
  have := (b.cross (hr c' hc')).1
  rw [hkN] at this; cases this
 have hkid : ∀ {t}, Kid K0 K lev x l t → Kid K0 { K with N := up K.N r (some k), T := upT K.T k (some r), used := K.used + 1, us := us', ho := ho' } lev x l t := fun ht => by
  rcases ht with ht | ⟨e, he, h3⟩
  ·exact .inl ht
  ·refine .inr ⟨e, ?_, h3⟩
   show up K.N r (some k) _ = _
   rw [up_ne (fun e2 => by rw [e2, hN] at he; cases he)]; exact he
 refine ⟨⟨h.mid.lay hN h2 (by rw [hkv.1, h.n]; exact b.nb.xn) hne (h.lowLive b hd hkv.2.1) (h.lowLive b hd hkv.2.2) hT hE hP (h.fits b hkm hT) hl hf u0 u1 o0 o1, h.n, h.cap, fun s => ?_, fun s hs => ?_, fun {s d} hs hm => ?_, fun {s d} hs => ?_, fun {s d} hs => ?_, ?_⟩, ?_⟩
 ·show ho'.getD s 0 = _
  rw [← h.hold]
  by_cases e : s = r
  ·subst e
   rw [o0]
   refine (Classical.byContradiction fun hno => ?_)
   obtain ⟨d, hd'⟩ := h.mid.held s (fun e => hno e.symm)
   rw [hN] at hd'; cases hd'
  ·exact o1 s e
 ·rw [up_ne (live_ne hs h2.1 hkN)]; exact h.ext s hs
 ·show up K.N r (some k) s = _
  rw [up_ne (fun e => by rw [e, hkN] at hs; cases hs)]; exact h.old hs hm
 ·obtain ⟨d', hd'⟩ := h.kept hs
  exact ⟨d', by show up K.N r (some k) s = _; rw [up_ne (fun e => by rw [e, hkN] at hs; cases hs)]; exact hd'⟩
 ·have hs' : up K.N r (some k) s = some d := hs
  by_cases e : s = r
  ·subst e
   rw [up_same] at hs'; cases hs'
   exact .inr (.inr ⟨hkN, hkv⟩)
  ·rw [up_ne e] at hs'
   rcases h.new hs' with h1 | ⟨h1, h2', h3, h4⟩ | h1
   ·exact .inl h1
   ·exact .inr (.inl ⟨h1, h2', hkid h3, hkid h4⟩)
   ·exact .inr (.inr h1)
 ·show K.used + 1 = K0.used + (made.filter fun d => (upT K.T k (some r) d).isSome).length
  rw [filter_more b.mad.nd hT, if_pos hkm, h.used]; omega
 ·exact .inr ⟨k, up_same, hkv⟩
theorem TI.found (b : TB K0 S0 lev x y l all made) (h : TI K0 S0 lev x y l made K S done rest P) {c : Cx} (hc : c ∈ all) {k : Nd} (hk : k ∈ keys x c) {r : Nat} (hT : K.T k = some r) : K.N r = some k ∧ Kid K0 K lev x l r := by
 have hlow := b.lowa hc
 have hN := ((h.mid.tab k r).1 hT).1
 simp only [keys, List.mem_cons, List.not_mem_nil, or_false] at hk
 rcases hk with rfl | rfl
 ·exact ⟨hN, .inr ⟨_, hN, rfl, hlow.1.1, hlow.1.2⟩⟩
 ·exact ⟨hN, .inr ⟨_, hN, rfl, hlow.2.1, hlow.2.2⟩⟩
theorem TI.kidFn (b : TB K0 S0 lev x y l all made) (h : TI K0 S0 lev x y l made K S done rest P) {a a' t : Nat} (la : Low K0 lev l a) (la' : Low K0 lev l a') (g : (a = a' ∧ t = a) ∨ K.N t = some ⟨x, a, a'⟩) (z : Nat) : S t z = ite S0 ⟨x, a, a'⟩ z := by
 rcases g with ⟨rfl, rfl⟩ | g
 ·rw [h.ext t la.1]; unfold ite; simp
 ·rw [h.mid.int.node g]
  unfold ite
  simp only
  rw [h.ext a la.1, h.ext a' la'.1]
theorem TI.lowX (b : TB K0 S0 lev x y l all made) (h : TI K0 S0 lev x y l made K S done rest P) (hd : ∀ c ∈ done, c ∈ all) {a a' t : Nat} (ht : Low K0 lev l t) (g : K.N t = some ⟨x, a, a'⟩) : False := by
 rw [h.lowN b hd ht] at g
 have := b.lowVar ht g
 have hx := b.nb.lx
 simp only at this; omega
theorem TI.turn (b : TB K0 S0 lev x y l all made) {c : Cx} (h : TI K0 S0 lev x y l made K S done (c :: rest) P) (hd : ∀ c ∈ done, c ∈ all) (hr : ∀ c' ∈ c :: rest, c' ∈ all) (hn : ((done ++ c :: rest).map Cx.r).Nodup) {t0 t1 : Nat}
  (k0 : Kid K0 K lev x l t0) (k1 : Kid K0 K lev x l t1) (g0 : (c.a00 = c.a10 ∧ t0 = c.a00) ∨ K.N t0 = some ⟨x, c.a00, c.a10⟩) (g1 : (c.a01 = c.a11 ∧ t1 = c.a01) ∨ K.N t1 = some ⟨x, c.a01, c.a11⟩) {P' : Nat → Nat} (hP : ∀ s, 2 ≤ s → P' s + e1 (some ⟨y, t0, t1⟩) s = P s + e1 (some c.d) s) :
  K.T ⟨y, t0, t1⟩ = none ∧ TI K0 S0 lev x y l made { K with N := up K.N c.r (some ⟨y, t0, t1⟩), T := upT K.T ⟨y, t0, t1⟩ (some c.r) } S (done ++ [c]) rest P' := by
 have hc := hr c (by simp)
 obtain ⟨hcN, hcx, hce⟩ := b.cross hc
 obtain ⟨⟨l00, l10⟩, ⟨l01, l11⟩⟩ := b.lowa hc
 have w := b.ok.wf
 have hi := b.ok.mid.int
 have hlo := w.lo hcN
 have hhi := w.hi hcN
 rw [hcx, b.nb.lx] at hlo hhi
 have ep : c.a00 = pl K0.N y c.d.lo ∧ c.a01 = ph K0.N y c.d.lo ∧ c.a10 = pl K0.N y c.d.hi ∧ c.a11 = ph K0.N y c.d.hi := by rw [hce]; exact ⟨rfl, rfl, rfl, rfl⟩
 have both : c.a00 = c.a10 → c.a01 = c.a11 → False := fun e1 e2 => by
  rw [ep.1, ep.2.2.1] at e1
  rw [ep.2.1, ep.2.2.2] at e2
  exact w.ne hcN (w.half_eq b.ok.lv hi b.nb.yy hlo.1 hhi.1 hlo.2 hhi.2 e1 e2)
 have hrn : c.r ∉ done.map Cx.r := by
  rw [List.map_append, List.nodup_append] at hn
  intro hm
  exact hn.2.2 _ hm _ (by simp) rfl
 have hcK := h.old hcN hrn
 have fn0 := fun z => h.kidFn b l00 l10 g0 z
 have fn1 := fun z => h.kidFn b l01 l11 g1 z
 have hS : ∀ z, S c.r z = ite S ⟨y, t0, t1⟩ z := fun z => by
  rw [h.ext c.r (.inr ⟨_, hcN⟩), cross_fn w b.ok.lv hi b.nb hcN hcx z]
  unfold ite
  simp only
  have a0 := fn0 z
  have a1 := fn1 z
  unfold ite at a0 a1
  simp only at a0 a1
  rw [a0, a1, ep.1, ep.2.1, ep.2.2.1, ep.2.2.2]
 have hne : t0 ≠ t1 := fun e => by
  subst e
  rcases g0 with ⟨e1, e2⟩ | g0
  ·rcases g1 with ⟨e3, e4⟩ | g1
   ·exact both e1 e3
   ·rw [e2] at g1; exact h.lowX b hd l00 g1
  ·rcases g1 with ⟨e3, e4⟩ | g1
   ·rw [e4] at g0; exact h.lowX b hd l01 g0
   ·rw [g0] at g1
    simp only [Option.some.injEq, Nd.mk.injEq, true_and] at g1
    obtain ⟨q1, q2⟩ := g1
    obtain ⟨⟨_, _, hcr⟩, _⟩ := (b.cx.mem c).1 hc
    rw [ep.1, ep.2.1] at q1
    rw [ep.2.2.1, ep.2.2.2] at q2
    rcases hcr with ⟨e, he, hv⟩ | ⟨e, he, hv⟩
    ·have := pl_y he hv
     rw [this.1, this.2] at q1
     exact w.ne he q1
    ·have := pl_y he hv
     rw [this.1, this.2] at q2
     exact w.ne he q2
 have hT : K.T ⟨y, t0, t1⟩ = none := by
  cases e : K.T ⟨y, t0, t1⟩ with
  | none => rfl
  | some s =>
   obtain ⟨hs, hsr⟩ := (h.mid.tab _ s).1 e
   rcases h.new hs with ⟨h1, _⟩ | ⟨h1, _⟩ | ⟨_, h1, _⟩
   ·have q1 := w.lo h1
    have q2 := w.hi h1
    simp only at q1 q2
    rw [b.nb.ly] at q1 q2
    have p1 : c.a00 = c.a10 := by
     rcases g0 with ⟨e1, _⟩ | g0
     ·exact e1
     ·exact (h.lowX b hd q1 g0).elim
    have p2 : c.a01 = c.a11 := by
     rcases g1 with ⟨e1, _⟩ | g1
     ·exact e1
     ·exact (h.lowX b hd q2 g1).elim
    exact (both p1 p2).elim
   ·obtain ⟨c', hc', e'⟩ := List.mem_map.1 h1
    have hc'N := (b.cross (hd c' hc')).1
    have : c'.r = c.r := w.same b.ok.lv hi (.inr ⟨_, hc'N⟩) (.inr ⟨_, hcN⟩) fun z => by
     rw [← h.ext c'.r (.inr ⟨_, hc'N⟩), ← h.ext c.r (.inr ⟨_, hcN⟩), hS z, e', h.mid.int.node hs z]; rfl
    exact absurd (List.mem_map.2 ⟨c', hc', this⟩) hrn
   ·exact absurd h1 (Ne.symm b.nb.ne)
 have hkid : ∀ {t}, Kid K0 K lev x l t → Kid K0 { K with N := up K.N c.r (some ⟨y, t0, t1⟩), T := upT K.T ⟨y, t0, t1⟩ (some c.r) } lev x l t := fun ht => by
  rcases ht with ht | ⟨e, he, h3⟩
  ·exact .inl ht
  ·refine .inr ⟨e, ?_, h3⟩
   show up K.N c.r (some ⟨y, t0, t1⟩) _ = _
   refine (up_ne fun e2 => ?_).trans he
   rw [e2, hcK] at he
   cases he
   exact b.notCross hc h3.2.1 h3.2.2
 have hml : ∀ s, s ∈ (done ++ [c]).map Cx.r ↔ s ∈ done.map Cx.r ∨ s = c.r := fun s => by simp [List.mem_append]
 refine ⟨hT, ⟨(h.mid.turn hcK ⟨c, by simp, rfl⟩ (by rw [h.n]; exact b.nb.yn) hne (h.kidLive b hd k0) (h.kidLive b hd k1) hT hS hP).congr (fun s => ?_) (fun _ _ => rfl), h.n, h.cap, h.hold, h.ext, fun {s d} hs hm => ?_, fun {s d} hs => ?_, fun {s d} hs => ?_, ?_⟩⟩
 ·constructor
  ·rintro ⟨⟨c', hc', rfl⟩, h2⟩
   rcases List.mem_cons.1 hc' with rfl | hc'
   ·exact absurd rfl h2
   ·exact ⟨c', hc', rfl⟩
  ·rintro ⟨c', hc', rfl⟩
   refine ⟨⟨c', List.mem_cons_of_mem _ hc', rfl⟩, fun e => ?_⟩
   rw [List.map_append, List.nodup_append] at hn
   have := hn.2.1
   rw [List.map_cons, List.nodup_cons] at this
   exact this.1 (List.mem_map.2 ⟨c', hc', e⟩)
 ·have hm' := fun x => hm ((hml s).2 x)
  show up K.N c.r _ s = _
  rw [up_ne (fun e => hm' (.inr e))]; exact h.old hs (fun x => hm' (.inl x))
 ·by_cases e : s = c.r
  ·exact ⟨⟨y, t0, t1⟩, by show up K.N c.r (some _) s = _; rw [e, up_same]⟩
  ·obtain ⟨d', hd'⟩ := h.kept hs
   exact ⟨d', by show up K.N c.r (some _) s = _; rw [up_ne e]; exact hd'⟩
 ·have hs' : up K.N c.r (some ⟨y, t0, t1⟩) s = some d := hs
  by_cases e : s = c.r
  ·rw [e, up_same] at hs'; cases hs'
   exact .inr (.inl ⟨(hml s).2 (.inr e), rfl, hkid k0, hkid k1⟩)
  ·rw [up_ne e] at hs'
   rcases h.new hs' with ⟨h1, h2⟩ | ⟨h1, h2, h3, h4⟩ | h1
   ·exact .inl ⟨h1, fun hm => ((hml s).1 hm).elim h2 e⟩
   ·exact .inr (.inl ⟨(hml s).2 (.inl h1), h2, hkid h3, hkid h4⟩)
   ·exact .inr (.inr h1)
 ·show K.used = K0.used + (made.filter fun d => (upT K.T ⟨y, t0, t1⟩ (some c.r) d).isSome).length
  have hnm : (⟨y, t0, t1⟩ : Nd) ∉ made := fun hm => by
   obtain ⟨⟨c', hc', hk⟩, _⟩ := (b.mad.mem _).1 hm
   simp only [keys, List.mem_cons, List.not_mem_nil, or_false, Nd.mk.injEq] at hk
   rcases hk with ⟨e, _⟩ | ⟨e, _⟩
   ·exact b.nb.ne e.symm
   ·exact b.nb.ne e.symm
  rw [filter_more b.mad.nd hT, if_neg hnm, h.used]; rfl
theorem TI.levels (b : TB K0 S0 lev x y l all made) (h : TI K0 S0 lev x y l made K S all [] P) {s : Nat} {d : Nd} (hs : K.N s = some d) :
  swl lev x y l d.v < dep K0.n (swl lev x y l) K.N d.lo ∧ swl lev x y l d.v < dep K0.n (swl lev x y l) K.N d.hi := by
 have w := b.ok.wf
 have hd : ∀ c ∈ all, c ∈ all := fun _ h => h
 have hyn : l + 1 < K0.n := by have := b.ok.lv.lt y b.nb.yn; rw [b.nb.ly] at this; exact this
 have sx : swl lev x y l x = l + 1 := by simp [swl]
 have sy : swl lev x y l y = l := by unfold swl; rw [if_neg (Ne.symm b.nb.ne), if_pos rfl]
 have so : ∀ v, v < K0.n → lev v ≠ l → lev v ≠ l + 1 → swl lev x y l v = lev v := fun v hv h1 h2 => by
  unfold swl
  rw [if_neg (fun e => h1 (by rw [e]; exact b.nb.lx)), if_neg (fun e => h2 (by rw [e]; exact b.nb.ly))]
 have low : ∀ {t}, Low K0 lev l t → l + 1 < dep K0.n (swl lev x y l) K.N t := fun {t} ht => by
  have e := h.lowN b hd ht
  cases e2 : K0.N t with
  | none => rw [dep_none (by rw [e, e2])]; exact hyn
  | some e' =>
   have := b.lowVar ht e2
   rw [dep_some (by rw [e, e2]), so _ (w.var e2) (by omega) (by omega)]; exact this
 have kid : ∀ {t}, Kid K0 K lev x l t → l < dep K0.n (swl lev x y l) K.N t := fun {t} ht => by
  rcases ht with ht | ⟨e, he, hx, _⟩
  ·have := low ht; omega
  ·rw [dep_some he, hx, sx]; omega
 rcases h.new hs with ⟨h1, h2⟩ | ⟨_, h2, h3, h4⟩ | ⟨_, h2, h3, h4⟩
 ·have hv := w.var h1
  have q1 := w.lo h1
  have q2 := w.hi h1
  rcases Nat.lt_trichotomy (lev d.v) l with hlt | heq | hgt
  ·rw [so _ hv (by omega) (by omega)]
   have up' : ∀ {t}, live K0.N t → lev d.v < dep K0.n lev K0.N t → lev d.v < dep K0.n (swl lev x y l) K.N t := fun {t} ht hlt' => by
    cases e : K.N t with
    | none => rw [dep_none e]; exact Nat.lt_of_lt_of_le hlt' (w.dep_le b.ok.lv t)
    | some e' =>
     rw [dep_some e]
     rcases h.new e with ⟨g1, _⟩ | ⟨_, g2, _⟩ | ⟨g1, _⟩
     ·rw [dep_some g1] at hlt'
      have hve := w.var g1
      by_cases e1 : lev e'.v = l
      ·have : e'.v = x := b.ok.lv.inj _ _ hve b.nb.xn (by rw [b.nb.lx]; exact e1)
       rw [this, sx]; omega
      ·by_cases e2 : lev e'.v = l + 1
       ·have : e'.v = y := b.ok.lv.inj _ _ hve b.nb.yn (by rw [b.nb.ly]; exact e2)
        rw [this, sy]; exact hlt
       ·rw [so _ hve e1 e2]; exact hlt'
     ·rw [g2, sy]; exact hlt
     ·rcases ht with ht | ⟨f, hf⟩
      ·have := (h.mid.two e).1; omega
      ·rw [g1] at hf; cases hf
   exact ⟨up' q1.1 q1.2, up' q2.1 q2.2⟩
  ·have hx : d.v = x := b.ok.lv.inj _ _ hv b.nb.xn (by rw [b.nb.lx]; exact heq)
   rw [hx, sx]
   have nc : ∀ t, t = d.lo ∨ t = d.hi → ∀ e, K0.N t = some e → e.v ≠ y := fun t ht e he hv => h2 (List.mem_map.2 ⟨cxOf K0.N y s d, (b.cx.mem _).2 ⟨⟨h1, hx, by
    rcases ht with rfl | rfl
    ·exact .inl ⟨e, he, hv⟩
    ·exact .inr ⟨e, he, hv⟩⟩, rfl⟩, rfl⟩)
   have lw : ∀ t, t = d.lo ∨ t = d.hi → live K0.N t → lev d.v < dep K0.n lev K0.N t → Low K0 lev l t := fun t ht hlv hlt => by
    refine ⟨hlv, ?_⟩
    have := (w.half b.ok.lv b.ok.mid.int b.nb.yy hlv (by omega : l < dep K0.n lev K0.N t)).1.2
    rwa [(pl_o (nc t ht)).1] at this
   exact ⟨low (lw _ (.inl rfl) q1.1 q1.2), low (lw _ (.inr rfl) q2.1 q2.2)⟩
  ·by_cases e : lev d.v = l + 1
   ·have hy : d.v = y := b.ok.lv.inj _ _ hv b.nb.yn (by rw [b.nb.ly]; exact e)
    rw [hy, sy]
    have a1 := low ⟨q1.1, by omega⟩
    have a2 := low ⟨q2.1, by omega⟩
    exact ⟨by omega, by omega⟩
   ·rw [so _ hv (by omega) e]
    have deep : ∀ {t}, live K0.N t → lev d.v < dep K0.n lev K0.N t → lev d.v < dep K0.n (swl lev x y l) K.N t := fun {t} ht hlt' => by
     have hl : Low K0 lev l t := ⟨ht, by omega⟩
     have e' := h.lowN b hd hl
     cases e2 : K0.N t with
     | none => rw [dep_none (by rw [e', e2])]; exact b.ok.lv.lt _ hv
     | some f =>
      rw [dep_some e2] at hlt'
      rw [dep_some (by rw [e', e2]), so _ (w.var e2) (by omega) (by omega)]; exact hlt'
    exact ⟨deep q1.1 q1.2, deep q2.1 q2.2⟩
 ·rw [h2, sy]; exact ⟨kid h3, kid h4⟩
 ·rw [h2, sx]; exact ⟨low h3, low h4⟩
theorem TI.fin (b : TB K0 S0 lev x y l all made) (h : TI K0 S0 lev x y l made K S all [] P) {K' : Kd} (hm : Mid K' S none' zero') (hp : Pos K') (hN : ∀ {s d}, K'.N s = some d → K.N s = some d) (hn : K'.n = K.n) (hh : ∀ r, K'.hold r = K.hold r) :
  Ok K' S (swl lev x y l) ∧ (∀ g, K'.held S g ↔ K0.held S0 g) ∧ ∀ r, K0.hold r ≠ 0 → S r = S0 r := by
 have hSr : ∀ r, K0.hold r ≠ 0 → S r = S0 r := fun r hr => h.ext r (.inr (b.ok.mid.held r hr))
 refine ⟨⟨hm, hp, by rw [hn, h.n]; exact swl_lev b.ok.lv b.nb, hm.wf fun {s d} hs => ?_⟩, fun g => ?_, hSr⟩
 ·have hl := h.levels b (hN hs)
  have same : ∀ {t}, live K'.N t → dep K'.n (swl lev x y l) K'.N t = dep K0.n (swl lev x y l) K.N t := fun {t} ht => by
   cases e : K'.N t with
   | some f => rw [dep_some e, dep_some (hN e)]
   | none =>
    have ht2 : t < 2 := by
     rcases ht with ht | ⟨f, hf⟩
     ·exact ht
     ·rw [e] at hf; cases hf
    have : K.N t = none := by
     cases e2 : K.N t with
     | none => rfl
     | some f => have := (h.mid.two e2).1; omega
    rw [dep_none e, dep_none this, hn, h.n]
  rw [same (hm.lo hs), same (hm.hi hs)]; exact hl
 ·constructor
  ·rintro ⟨r, hr, rfl⟩
   have hr' : K0.hold r ≠ 0 := by rw [← h.hold, ← hh]; exact hr
   exact ⟨r, hr', hSr r hr'⟩
  ·rintro ⟨r, hr, rfl⟩
   exact ⟨r, by show K'.hold r ≠ 0; rw [hh, h.hold]; exact hr, (hSr r hr).symm⟩
end
end Bdd
namespace Bdd
open Tab
variable {n cap l : Nat} {ord : List Nat} {F G : Fn → Prop}
open Classical in
noncomputable def sz (n : Nat) (ord : List Nat) (F : Fn → Prop) : Nat := if h : ∃ k, Cnt (NodeSet n ord F) k then Classical.choose h else 0
theorem sz_eq {k : Nat} (h : Cnt (NodeSet n ord F) k) : sz n ord F = k := by
 unfold sz
 rw [dif_pos ⟨k, h⟩]
 exact (Classical.choose_spec (⟨k, h⟩ : ∃ k, Cnt (NodeSet n ord F) k)).uniq h
def Both (n : Nat) (ord : List Nat) (l : Nat) (F : Fn → Prop) : Fn → Prop := fun g => NodeSet n ord F g ∨ NodeSet n (swp ord l) F g
open Classical in
noncomputable def usz (n : Nat) (ord : List Nat) (l : Nat) (F : Fn → Prop) : Nat := if h : ∃ k, Cnt (Both n ord l F) k then Classical.choose h else 0
theorem usz_eq {k : Nat} (h : Cnt (Both n ord l F) k) : usz n ord l F = k := by
 unfold usz
 rw [dif_pos ⟨k, h⟩]
 exact (Classical.choose_spec (⟨k, h⟩ : ∃ k, Cnt (Both n ord l F) k)).uniq h
theorem sz_congr (e : ∀ g, F g ↔ G g) : sz n ord F = sz n ord G := by
 have : F = G := funext fun g => propext (e g)
 rw [this]
theorem usz_congr (e : ∀ g, F g ↔ G g) : usz n ord l F = usz n ord l G := by
 have : F = G := funext fun g => propext (e g)
 rw [this]
theorem ext_getD {a b : List Nat} (hl : a.length = b.length) (h : ∀ i, i < a.length → a.getD i 0 = b.getD i 0) : a = b := by
 refine List.ext_getElem hl fun i h1 h2 => ?_
 have := h i h1
 simpa [List.getD, List.getElem?_eq_getElem h1, List.getElem?_eq_getElem h2] using this
theorem swp_swp (hl : l + 1 < ord.length) : swp (swp ord l) l = ord := by
 refine ext_getD (by rw [swp_len, swp_len]) fun i _ => ?_
 have h2 : l + 1 < (swp ord l).length := by rw [swp_len]; exact hl
 rw [swp_get h2, swp_get hl, swp_get hl, swp_get hl]
 by_cases e : i = l
 ·subst e; simp
 ·by_cases e2 : i = l + 1
  ·subst e2; simp
  ·simp [e, e2]
theorem usz_swp (hl : l + 1 < ord.length) : usz n (swp ord l) l F = usz n ord l F := by
 have : Both n (swp ord l) l F = Both n ord l F := by
  funext g
  unfold Both
  rw [swp_swp hl]
  exact propext or_comm
 unfold usz
 rw [this]
def TrOk (n cap : Nat) (F : Fn → Prop) : List Nat → List Nat → Prop
 | _, [] => True
 | ord, l :: r => l + 1 < n ∧ usz n ord l F + 2 ≤ cap ∧ TrOk n cap F (swp ord l) r
theorem TrOk.congr (e : ∀ g, F g ↔ G g) : ∀ {tr ord : List Nat}, TrOk n cap F ord tr → TrOk n cap G ord tr := by
 have : F = G := funext fun g => propext (e g)
 subst this
 exact fun {tr ord} h => h
theorem TrOk.exch (hlen : ord.length = n) (hl : l + 1 < n) (hfit : usz n ord l F + 2 ≤ cap) {tr : List Nat} (h : TrOk n cap F ord tr.reverse) : TrOk n cap F (swp ord l) (tr ++ [l]).reverse := by
 rw [List.reverse_append]
 exact ⟨hl, by rw [usz_swp (by omega)]; exact hfit, by rw [swp_swp (by omega)]; exact h⟩
end Bdd
namespace Bdd
open Tab
variable {n l : Nat} {ord : List Nat} {L : Tab.Fs} {F : Fn → Prop}
def fnT (n : Nat) (ws : List Nat) : Fn := fun x => bit ws (x % 2 ^ n)
theorem setb_mod {x v n : Nat} {b : Bool} (hv : v < n) : setb x v b % 2 ^ n = setb (x % 2 ^ n) v b := by
 apply Nat.eq_of_testBit_eq; intro k
 rw [Nat.testBit_mod_two_pow, testBit_setb, testBit_setb, Nat.testBit_mod_two_pow]
 by_cases e : k = v
 ·subst e; simp [hv]
 ·simp [e]
theorem fnT_cof {v : Nat} {ws : List Nat} (hf : Frm n ws) (hv : v < n) (b : Bool) : fnT n (cof n ws v b) = fun x => fnT n ws (setb x v b) := by
 funext x
 unfold fnT
 rw [bit_cof hf hv (Nat.mod_lt _ (Nat.two_pow_pos n)), setb_mod hv]
theorem fnT_lt {ws : List Nat} {x : Nat} (h : x < 2 ^ n) : fnT n ws x = bit ws x := by unfold fnT; rw [Nat.mod_eq_of_lt h]
theorem fnT_inj {a b : List Nat} (ha : Frm n a) (hb : Frm n b) (h : fnT n a = fnT n b) : a = b := ha.ext hb fun x hx => by rw [← fnT_lt hx, ← fnT_lt hx, h]
theorem fnT_hangs {v : Nat} {ws : List Nat} (hf : Frm n ws) (hv : v < n) : hangs (fnT n ws) v ↔ Tab.dep n ws v = true := by
 rw [dep_iff hf hv]
 constructor
 ·rintro ⟨x, hx⟩
  refine ⟨x % 2 ^ n, Nat.mod_lt _ (Nat.two_pow_pos n), ?_⟩
  unfold fnT at hx
  rwa [setb_mod hv, setb_mod hv] at hx
 ·rintro ⟨x, hx, hne⟩
  refine ⟨x, ?_⟩
  unfold fnT
  rwa [setb_mod hv, setb_mod hv, Nat.mod_eq_of_lt hx]
def cur (n : Nat) (ord : List Nat) (L : Tab.Fs) : Nat → Tab.Fs
 | 0 => unlike L
 | k + 1 => given n (cur n ord L k) (ord.getD k 0)
def FT (n : Nat) (L : Tab.Fs) : Fn → Prop := fun g => ∃ t ∈ L, g = fnT n t
theorem cur_nodup : ∀ k, (cur n ord L k).Nodup
 | 0 => unlike_nodup L
 | k + 1 => given_nodup _ _ _
theorem cur_frm (hL : ∀ t ∈ L, Frm n t) (hn : n ≤ 16) : ∀ k, ∀ t ∈ cur n ord L k, Frm n t
 | 0, t, h => hL t (mem_unlike.1 h)
 | k + 1, t, h => by obtain ⟨u, _, b, rfl⟩ := mem_given.1 h; exact frm_cof hn
theorem fs_cur (hL : ∀ t ∈ L, Frm n t) (hn : n ≤ 16) (ho : ∀ i, i < n → ord.getD i 0 < n) : ∀ k, k ≤ n → ∀ g, fs ord (FT n L) k g ↔ ∃ t ∈ cur n ord L k, g = fnT n t
 | 0, _, g => by
  show (∃ t ∈ L, g = fnT n t) ↔ _
  constructor
  ·rintro ⟨t, h, e⟩; exact ⟨t, mem_unlike.2 h, e⟩
  ·rintro ⟨t, h, e⟩; exact ⟨t, mem_unlike.1 h, e⟩
 | k + 1, hk, g => by
  have ih := fs_cur hL hn ho k (by omega)
  constructor
  ·rintro ⟨f, hf, b, rfl⟩
   obtain ⟨t, ht, rfl⟩ := (ih f).1 hf
   exact ⟨cof n t (ord.getD k 0) b, mem_given.2 ⟨t, ht, b, rfl⟩, (fnT_cof (cur_frm hL hn k t ht) (ho k (by omega)) b).symm⟩
  ·rintro ⟨t, ht, rfl⟩
   obtain ⟨u, hu, b, rfl⟩ := mem_given.1 ht
   exact ⟨fnT n u, (ih _).2 ⟨u, hu, rfl⟩, b, fnT_cof (cur_frm hL hn k u hu) (ho k (by omega)) b⟩
theorem fs_indep : ∀ k g, fs ord F k g → ∀ j, j < k → ¬ hangs g (ord.getD j 0)
 | 0, _, _, _, h => absurd h (Nat.not_lt_zero _)
 | k + 1, g, h, j, hj => by
  obtain ⟨f, hf, b, rfl⟩ := h
  rintro ⟨x, hx⟩
  apply hx
  by_cases e : ord.getD j 0 = ord.getD k 0
  ·show f (setb (setb x _ false) _ b) = f (setb (setb x _ true) _ b)
   congr 1
   apply Nat.eq_of_testBit_eq; intro i
   simp only [testBit_setb, e]
   split <;> rfl
  ·have hlt : j < k := by
    rcases Nat.lt_succ_iff_lt_or_eq.1 hj with h | h
    ·exact h
    ·subst h; exact (e rfl).elim
   have := fs_indep k f hf j hlt
   show f (setb (setb x _ false) _ b) = f (setb (setb x _ true) _ b)
   rw [setb_comm e, setb_comm e]
   exact Classical.byContradiction fun hne => this ⟨_, hne⟩
def levN (n : Nat) (ord : List Nat) (L : Tab.Fs) (k : Nat) : Tab.Fs := nodes n (cur n ord L k) (ord.getD k 0)
def sizeN (n : Nat) (ord : List Nat) (L : Tab.Fs) : Nat → Nat
 | 0 => 0
 | k + 1 => sizeN n ord L k + (levN n ord L k).length
def allN (n : Nat) (ord : List Nat) (L : Tab.Fs) : Nat → Tab.Fs
 | 0 => []
 | k + 1 => allN n ord L k ++ levN n ord L k
theorem allN_length : ∀ k, (allN n ord L k).length = sizeN n ord L k
 | 0 => rfl
 | k + 1 => by rw [allN, sizeN, List.length_append, allN_length k]
theorem mem_levN {k : Nat} {t : List Nat} : t ∈ levN n ord L k ↔ t ∈ cur n ord L k ∧ Tab.dep n t (ord.getD k 0) = true := by
 unfold levN nodes; rw [List.mem_filter]
theorem allN_frm (hL : ∀ t ∈ L, Frm n t) (hn : n ≤ 16) : ∀ k, ∀ t ∈ allN n ord L k, Frm n t
 | 0, t, h => by cases h
 | k + 1, t, h => by
  rcases List.mem_append.1 h with h | h
  ·exact allN_frm hL hn k t h
  ·exact cur_frm hL hn k t (mem_levN.1 h).1
theorem allN_mem (hL : ∀ t ∈ L, Frm n t) (hn : n ≤ 16) (ho : ∀ i, i < n → ord.getD i 0 < n) : ∀ m, m ≤ n → ∀ g, (∃ k, k < m ∧ fs ord (FT n L) k g ∧ hangs g (ord.getD k 0)) ↔ ∃ t ∈ allN n ord L m, g = fnT n t
 | 0, _, g => by simp [allN]
 | m + 1, hm, g => by
  have ih := allN_mem hL hn ho m (by omega) g
  have lev : (fs ord (FT n L) m g ∧ hangs g (ord.getD m 0)) ↔ ∃ t ∈ levN n ord L m, g = fnT n t := by
   rw [fs_cur hL hn ho m (by omega)]
   constructor
   ·rintro ⟨⟨t, ht, rfl⟩, hh⟩
    exact ⟨t, mem_levN.2 ⟨ht, (fnT_hangs (cur_frm hL hn m t ht) (ho m (by omega))).1 hh⟩, rfl⟩
   ·rintro ⟨t, ht, rfl⟩
    obtain ⟨h1, h2⟩ := mem_levN.1 ht
    exact ⟨⟨t, h1, rfl⟩, (fnT_hangs (cur_frm hL hn m t h1) (ho m (by omega))).2 h2⟩
  constructor
  ·rintro ⟨k, hk, h1, h2⟩
   by_cases e : k = m
   ·subst e
    obtain ⟨t, ht, rfl⟩ := lev.1 ⟨h1, h2⟩
    exact ⟨t, List.mem_append_right _ ht, rfl⟩
   ·obtain ⟨t, ht, rfl⟩ := ih.1 ⟨k, by omega, h1, h2⟩
    exact ⟨t, List.mem_append_left _ ht, rfl⟩
  ·rintro ⟨t, ht, rfl⟩
   rcases List.mem_append.1 ht with ht | ht
   ·obtain ⟨k, hk, h⟩ := ih.2 ⟨t, ht, rfl⟩
    exact ⟨k, by omega, h⟩
   ·exact ⟨m, by omega, lev.2 ⟨t, ht, rfl⟩⟩
theorem allN_nodup (hL : ∀ t ∈ L, Frm n t) (hn : n ≤ 16) (ho : ∀ i, i < n → ord.getD i 0 < n) : ∀ m, m ≤ n → (allN n ord L m).Nodup
 | 0, _ => List.nodup_nil
 | m + 1, hm => by
  refine List.nodup_append.2 ⟨allN_nodup hL hn ho m (by omega), (cur_nodup m).filter _, fun a ha b hb e => ?_⟩
  subst e
  obtain ⟨k, hk, h1, h2⟩ := (allN_mem hL hn ho m (by omega) (fnT n a)).2 ⟨a, ha, rfl⟩
  have h3 := (fs_cur hL hn ho m (by omega) (fnT n a)).2 ⟨a, (mem_levN.1 hb).1, rfl⟩
  exact fs_indep m _ h3 k hk h2
theorem cnt_tabs {P : Fn → Prop} {l : Tab.Fs} (hf : ∀ t ∈ l, Frm n t) (hn : l.Nodup) (h : ∀ g, P g ↔ ∃ t ∈ l, g = fnT n t) : Cnt P l.length := by
 refine ⟨l.map (fnT n), ?_, by simp, fun g => ?_⟩
 ·refine List.pairwise_map.2 (hn.imp_of_mem fun {a b} ha hb hne heq => hne (fnT_inj (hf a ha) (hf b hb) heq))
 ·rw [h, List.mem_map]
  constructor
  ·rintro ⟨t, ht, rfl⟩; exact ⟨t, ht, rfl⟩
  ·rintro ⟨t, ht, rfl⟩; exact ⟨t, ht, rfl⟩
theorem cnt_FT (hL : ∀ t ∈ L, Frm n t) (hn : n ≤ 16) (ho : ∀ i, i < n → ord.getD i 0 < n) : Cnt (NodeSet n ord (FT n L)) (sizeN n ord L n) := by
 rw [← allN_length]
 exact cnt_tabs (allN_frm hL hn n) (allN_nodup hL hn ho n (Nat.le_refl _)) (allN_mem hL hn ho n (Nat.le_refl _))
def bothN (n : Nat) (ord : List Nat) (l : Nat) (L : Tab.Fs) : Tab.Fs := unlike (allN n ord L n ++ allN n (swp ord l) L n)
theorem swp_lt (hl : l + 1 < n) (hlen : ord.length = n) (ho : ∀ i, i < n → ord.getD i 0 < n) : ∀ i, i < n → (swp ord l).getD i 0 < n := fun i hi => by
 rw [swp_get (by omega)]
 split
 ·exact ho _ hl
 ·split
  ·exact ho _ (by omega)
  ·exact ho i hi
theorem usz_FT (hL : ∀ t ∈ L, Frm n t) (hn : n ≤ 16) (ho : ∀ i, i < n → ord.getD i 0 < n) (hl : l + 1 < n) (hlen : ord.length = n) : usz n ord l (FT n L) = (bothN n ord l L).length := by
 have ho' := swp_lt hl hlen ho
 refine usz_eq (cnt_tabs (n := n) (fun t ht => ?_) (unlike_nodup _) fun g => ?_)
 ·rcases List.mem_append.1 (mem_unlike.1 ht) with h | h
  ·exact allN_frm hL hn n t h
  ·exact allN_frm hL hn n t h
 ·unfold Both bothN
  rw [show NodeSet n ord (FT n L) g ↔ _ from allN_mem hL hn ho n (Nat.le_refl _) g, show NodeSet n (swp ord l) (FT n L) g ↔ _ from allN_mem hL hn ho' n (Nat.le_refl _) g]
  constructor
  ·rintro (⟨t, h, rfl⟩ | ⟨t, h, rfl⟩)
   ·exact ⟨t, mem_unlike.2 (List.mem_append_left _ h), rfl⟩
   ·exact ⟨t, mem_unlike.2 (List.mem_append_right _ h), rfl⟩
  ·rintro ⟨t, h, rfl⟩
   rcases List.mem_append.1 (mem_unlike.1 h) with h | h
   ·exact .inl ⟨t, h, rfl⟩
   ·exact .inr ⟨t, h, rfl⟩
end Bdd
set_option maxRecDepth 100000
namespace Go.Proofs
open Go Go.Sx
open Bdd
def u32 (r : Nat) : Value := .int .u32 (r : Int)
def nrow (d : Nd) : List Value := [.int .i64 (d.v : Int), u32 d.lo, u32 d.hi]
structure Plc where
 v : Int
 lo : Nat
 hi : Nat
 tk : Bool
 c : Nat
def Plc.row (p : Plc) : List Value := [.int .i64 p.v, u32 p.lo, u32 p.hi, .bool p.tk, .int .u8 (p.c : Int)]
def liveB (N : Sto) (r : Nat) : Bool := decide (r < 2) || (N r).isSome
theorem liveB_iff {N : Sto} {r : Nat} : liveB N r = true ↔ live N r := by
 unfold liveB live
 rw [Bool.or_eq_true, decide_eq_true_eq, Option.isSome_iff_exists]
def got (N : Sto) (r : Nat) : List Value :=
 if r < 2 then [.int .i64 (-1), u32 r, u32 r] else match N r with | some d => nrow d | none => [.int .i64 0, u32 0, u32 0]
theorem got_some {N : Sto} {r : Nat} {d : Nd} (h : N r = some d) (h2 : 2 ≤ r) : got N r = nrow d := by unfold got; rw [if_neg (by omega), h]
theorem got_const {N : Sto} {r : Nat} (h2 : r < 2) : got N r = [.int .i64 (-1), u32 r, u32 r] := by unfold got; rw [if_pos h2]
theorem got_none {N : Sto} {r : Nat} (h : liveB N r = false) : got N r = [.int .i64 0, u32 0, u32 0] := by
 unfold liveB at h
 rw [Bool.or_eq_false_iff, decide_eq_false_iff_not] at h
 unfold got; rw [if_neg h.1]
 cases hN : N r with
 | none => rfl
 | some d => rw [hN] at h; simp at h
def ndOf (p : Plc) : Option Nd := if p.tk then some ⟨p.v.toNat, p.lo, p.hi⟩ else none
structure AOk (l : List Plc) (fr : List Nat) (cap used : Nat) (N : Sto) : Prop where
 cap : l.length ≤ cap ∧ cap ≤ 1048576
 two : 2 ≤ l.length
 const : ∀ r, r < 2 → ∃ p, l[r]? = some p ∧ p.v = -1 ∧ p.lo = r ∧ p.hi = r ∧ p.tk = true
 nd : ∀ r, 2 ≤ r → N r = (l[r]?).bind ndOf
 n0 : ∀ r, r < 2 → N r = none
 nn : ∀ (r : Nat) p, 2 ≤ r → l[r]? = some p → p.tk = true → 0 ≤ p.v
 frn : fr.Nodup
 frm : ∀ r, r ∈ fr ↔ ∃ p, l[r]? = some p ∧ p.tk = false
 used : used + fr.length = l.length
theorem AOk.livep {l : List Plc} {fr : List Nat} {cap used : Nat} {N : Sto} (h : AOk l fr cap used N) (r : Nat) : liveB N r = (match l[r]? with | some p => p.tk | none => false) := by
 unfold liveB
 by_cases h2 : r < 2
 ·obtain ⟨p, hp, _, _, _, ht⟩ := h.const r h2
  simp [h2, hp, ht]
 ·rw [h.nd r (by omega)]
  cases hl : l[r]? with
  | none => simp [h2]
  | some p => cases ht : p.tk <;> simp [h2, ndOf, ht]
theorem AOk.gotp {l : List Plc} {fr : List Nat} {cap used : Nat} {N : Sto} (h : AOk l fr cap used N) {r : Nat} {p : Plc} (hp : l[r]? = some p) (ht : p.tk = true) : got N r = p.row.take 3 := by
 by_cases h2 : r < 2
 ·obtain ⟨p', hp', h1, h2', h3, _⟩ := h.const r h2
  rw [hp] at hp'; cases hp'
  rw [got_const h2]; simp [Plc.row, h1, h2', h3]
 ·have hn := h.nn r p (by omega) hp ht
  rw [got_some (d := ⟨p.v.toNat, p.lo, p.hi⟩) (by rw [h.nd r (by omega), hp]; simp [ndOf, ht]) (by omega)]
  simp [nrow, Plc.row, Int.toNat_of_nonneg hn]
theorem AOk.lt {l : List Plc} {fr : List Nat} {cap used : Nat} {N : Sto} (h : AOk l fr cap used N) {r : Nat} (hr : live N r) : r < l.length := by
 have := liveB_iff.2 hr
 rw [h.livep] at this
 cases hl : l[r]? with
 | none => rw [hl] at this; simp at this
 | some p => exact (List.getElem?_eq_some_iff.1 hl).1
def ArRep (pa cap used : Nat) (N : Sto) (C : Hp) : Prop :=
 ∃ vl vf l fr Cl Cf, C = (pa, .cells #[.int .i64 (cap : Int), vl, vf, .int .i64 (used : Int)] 159 (0, 0)) :: (Cl ++ Cf) ∧
  SOwn 197 5 vl (l.map Plc.row) Cl ∧ IOwn 31 .u32 vf (fr.map (Nat.cast : Nat → Int)) Cf ∧ AOk l fr cap used N
abbrev ptr (b : Nat) : Value := .pointer (some ⟨b, 0, none⟩)
theorem row_one (p : Plc) : ∀ x ∈ p.row, x.oneCell' = true := by intro x hx; simp [Plc.row, u32] at hx; rcases hx with rfl | rfl | rfl | rfl | rfl <;> rfl
theorem taken_ok {pa cap used r : Nat} {N : Sto} {C : Hp} (h : ArRep pa cap used N C) (hr : r < 4294967296) :
  Rd Tryz.prog 166 #[ptr pa, u32 r] C (· = .bool (liveB N r)) := by
 obtain ⟨vl, vf, l, fr, Cl, Cf, rfl, hl, hf, ho⟩ := h
 intro g
 refine L166_sound (R := FnR _) ?_
 unfold L166
 refine ConvI.nat (by simp [lim]; omega) ?_
 refine Nil.ptr ?_
 refine FAddr.mk (Ld.mk (by repeat (first | assumption | exact List.Mem.head _ | apply List.Mem.tail | apply List.mem_append_right)) rfl ?_)
 refine hl.lenS ?_
 refine Bin.ltN ?_
 rw [List.length_map]
 rw [ho.livep r]
 refine Grp.and (match l[r]? with | some p => p.tk | none => false) (fun hlt => ?_) rfl fun _ => RdR.mk (.refl _) ?_
 ·have hlt' := of_decide_eq_true hlt
  refine Nil.ptr ?_
  refine FAddr.mk (Ld.mk (by repeat (first | assumption | exact List.Mem.head _ | apply List.Mem.tail | apply List.mem_append_right)) rfl ?_)
  have hg : l[r]? = some l[r] := List.getElem?_eq_getElem hlt'
  refine hl.ldCell (r := l[r].row) (x := .bool l[r].tk) (by rw [List.getElem?_map, hg]; rfl) rfl (fun _ h => by exact .tail _ (List.mem_append_left _ h)) ?_
  exact ⟨rfl, by rw [hg]⟩
 ·congr 1
  by_cases hlt : r < l.length
  ·simp [hlt]
  ·rw [List.getElem?_eq_none (by omega)]; simp
theorem get_ok {pa cap used r : Nat} {N : Sto} {C : Hp} (h : ArRep pa cap used N C) (hr : r < 4294967296) :
  Rd Tryz.prog 137 #[ptr pa, u32 r] C (· = .tuple #[.agg (got N r).toArray, .int .i64 (if liveB N r then 0 else 3)]) := by
 have h0 := h
 obtain ⟨vl, vf, l, fr, Cl, Cf, rfl, hl, hf, ho⟩ := h
 intro g
 refine L137_sound (R := FnR _) ?_
 unfold L137
 intro b1 _
 refine Bin.ptrNil (Br.no ?_)
 refine CallF.rd (.cons .here) (taken_ok h0 hr) ?_
 rintro v rfl
 refine Un.not ?_
 refine Br.mk (fun hb => ?_) (fun hb => ?_)
 ·have hb' : liveB N r = false := by simpa using hb
  refine Build.mk (cs := [.int .i64 0, .int .u32 0, .int .u32 0]) (by kernel_rfl) ?_
  refine St.whole (r := [.int .i64 0, .int .u32 0, .int .u32 0]) (by exact .head _) rfl rfl (by simp [Value.oneCell']) ?_
  refine LdA.whole (r := [.int .i64 0, .int .u32 0, .int .u32 0]) (by exact .head _) rfl ?_
  exact RdR.mk .tail (by rw [got_none hb', hb']; rfl)
 ·have hb' : liveB N r = true := by simpa using hb
  have hx := hb'
  rw [ho.livep] at hx
  cases hg : l[r]? with
  | none => rw [hg] at hx; simp at hx
  | some p =>
  rw [hg] at hx
  simp only at hx
  refine Nil.ptr ?_
  refine FAddr.mk (Ld.mk (by repeat (first | assumption | exact List.Mem.head _ | apply List.Mem.tail | apply List.mem_append_right)) rfl ?_)
  refine hl.ldPart (r := p.row) (by rw [List.getElem?_map, hg]; rfl) (by decide) (fun _ h => by exact .tail _ (.tail _ (List.mem_append_left _ h))) ?_
  refine St.whole (r := p.row.take 3) (by exact .head _) rfl rfl (fun x hx => row_one p x (List.mem_of_mem_take hx)) ?_
  refine LdA.whole (r := p.row.take 3) (by exact .head _) rfl ?_
  exact RdR.mk .tail (by rw [ho.gotp hg hx, hb']; rfl)
structure NOk (N : Sto) (d : Nd) : Prop where
 v : d.v < 64
 lo : live N d.lo
 hi : live N d.hi
theorem ArRep.lt {pa cap used r : Nat} {N : Sto} {C : Hp} (h : ArRep pa cap used N C) (hr : live N r) : r < cap ∧ cap ≤ 1048576 := by
 obtain ⟨vl, vf, l, fr, Cl, Cf, rfl, hl, hf, ho⟩ := h
 exact ⟨Nat.lt_of_lt_of_le (ho.lt hr) ho.cap.1, ho.cap.2⟩
theorem acheck_ok {pa cap used : Nat} {N : Sto} {C : Hp} {d : Nd} (h : ArRep pa cap used N C) (hd : NOk N d) :
  Rd Tryz.prog 139 #[ptr pa, .agg (nrow d).toArray] C (· = .int .i64 0) := by
 have hlo := h.lt hd.lo
 have hhi := h.lt hd.hi
 intro g
 refine L139_sound (R := FnR _) ?_
 unfold L139
 intro b1 _
 refine FAddr.mk (Ld.mk (v := .int .i64 (d.v : Int)) (by exact .head _) rfl ?_)
 refine Bin.lss ?_
 refine Grp.or (decide (64 ≤ d.v)) (fun _ => ?_) rfl fun _ => ?_
 ·refine FAddr.mk (Ld.mk (v := .int .i64 (d.v : Int)) (by exact .head _) rfl ?_)
  exact Bin.geN (b := 64) ⟨rfl, rfl⟩
 have hv := hd.v
 refine Br.no' (by simp; omega) ?_
 intro J hJ
 refine FAddr.mk (Ld.mk (v := u32 d.lo) (by exact .head _) rfl ?_)
 refine CallF.rd (.cons .here) (taken_ok h (by omega)) ?_
 rintro v rfl
 rw [liveB_iff.2 hd.lo]
 refine Un.not (Split.go rfl ?_)
 refine FAddr.mk (Ld.mk (v := u32 d.hi) (by exact .head _) rfl ?_)
 refine CallF.rd (.cons .here) (taken_ok h (by omega)) ?_
 rintro v rfl
 rw [liveB_iff.2 hd.hi]
 refine Un.not (Pick.mk (JE.mk (hJ _ _ fun gs => Br.no (RdR.mk .tail rfl))))
theorem own_ok {pa cap used r : Nat} {N : Sto} {C : Hp} (h : ArRep pa cap used N C) (hr : ∃ d, N r = some d) (h2 : 2 ≤ r) :
  Rd Tryz.prog 140 #[ptr pa, u32 r] C (· = .int .i64 0) := by
 have hl := h.lt (.inr hr)
 intro g
 refine L140_sound (R := FnR _) ?_
 unfold L140
 intro J hJ
 refine Bin.leN (b := 1) ?_
 refine Split.go (by simp; omega) ?_
 refine CallF.rd .here (taken_ok h (by omega)) ?_
 rintro v rfl
 rw [liveB_iff.2 (.inr hr)]
 refine Un.not (Pick.mk (JE.mk (hJ _ _ fun gs => Br.no (RdR.mk (.refl _) rfl))))
theorem aused_ok {pa cap used : Nat} {N : Sto} {C : Hp} (h : ArRep pa cap used N C) : Rd Tryz.prog 54 #[ptr pa] C (· = .int .i64 (used : Int)) := by
 obtain ⟨vl, vf, l, fr, Cl, Cf, rfl, hl, hf, ho⟩ := h
 intro g
 refine L54_sound (R := FnR _) ?_
 unfold L54
 refine Bin.ptrNil (Br.no (Nil.ptr ?_))
 refine FAddr.mk (Ld.mk (by repeat (first | assumption | exact List.Mem.head _ | apply List.Mem.tail | apply List.mem_append_right)) rfl ?_)
 exact RdR.mk (.refl _) rfl
theorem aplaces_ok {pa cap used : Nat} {N : Sto} {C : Hp} (h : ArRep pa cap used N C) : Rd Tryz.prog 100 #[ptr pa] C (· = .int .i64 (cap : Int)) := by
 obtain ⟨vl, vf, l, fr, Cl, Cf, rfl, hl, hf, ho⟩ := h
 intro g
 refine L100_sound (R := FnR _) ?_
 unfold L100
 refine Bin.ptrNil (Br.no (Nil.ptr ?_))
 refine FAddr.mk (Ld.mk (by repeat (first | assumption | exact List.Mem.head _ | apply List.Mem.tail | apply List.mem_append_right)) rfl ?_)
 exact RdR.mk (.refl _) rfl
end Go.Proofs
set_option maxRecDepth 100000
namespace Go.Proofs
open Go Go.Sx
open Bdd
section
variable {l : List Plc} {fr : List Nat} {cap used : Nat} {N : Sto}
theorem ndOf_t (d : Nd) {c : Nat} : ndOf ⟨(d.v : Int), d.lo, d.hi, true, c⟩ = some d := by simp [ndOf]
theorem AOk.reuse (h : AOk l fr cap used N) {r : Nat} (hr : r ∈ fr) {fr' : List Nat} (hf : fr.Perm (r :: fr')) (d : Nd) :
  2 ≤ r ∧ r < cap ∧ N r = none ∧ AOk (l.set r ⟨(d.v : Int), d.lo, d.hi, true, 0⟩) fr' cap (used + 1) (up N r (some d)) := by
 obtain ⟨p, hp, ht⟩ := (h.frm r).1 hr
 have hlt := (List.getElem?_eq_some_iff.1 hp).1
 have h2 : 2 ≤ r := by
  apply Decidable.byContradiction
  intro hn
  obtain ⟨p', hp', _, _, _, ht'⟩ := h.const r (by omega)
  rw [hp] at hp'; cases hp'; rw [ht] at ht'; cases ht'
 have hnd := hf.nodup_iff.1 h.frn
 rw [List.nodup_cons] at hnd
 refine ⟨h2, Nat.lt_of_lt_of_le hlt h.cap.1, by rw [h.nd r h2, hp]; simp [ndOf, ht], ?_⟩
 have hget : ∀ s, s ≠ r → (l.set r ⟨(d.v : Int), d.lo, d.hi, true, 0⟩)[s]? = l[s]? := fun s hs => List.getElem?_set_ne (Ne.symm hs)
 have hgr : (l.set r ⟨(d.v : Int), d.lo, d.hi, true, 0⟩)[r]? = some ⟨(d.v : Int), d.lo, d.hi, true, 0⟩ := List.getElem?_set_self hlt
 exact {
  cap := by simpa using h.cap
  two := by simpa using h.two
  const := fun s hs => by rw [hget s (by omega)]; exact h.const s hs
  nd := fun s hs => by
   by_cases e : s = r
   ·subst e; rw [up_same, hgr]; exact (ndOf_t d).symm
   ·rw [up_ne e, hget s e]; exact h.nd s hs
  n0 := fun s hs => by rw [up_ne (by omega)]; exact h.n0 s hs
  nn := fun s q hs hq hqt => by
   by_cases e : s = r
   ·subst e; rw [hgr] at hq; cases hq; exact Int.natCast_nonneg _
   ·rw [hget s e] at hq; exact h.nn s q hs hq hqt
  frn := hnd.2
  frm := fun s => by
   by_cases e : s = r
   ·subst e
    rw [hgr]
    simp [hnd.1]
   ·rw [hget s e, ← h.frm s, hf.mem_iff]
    simp [e]
  used := by have := h.used; have := hf.length_eq; simp only [List.length_cons, List.length_set] at *; omega }
theorem AOk.grow (h : AOk l [] cap used N) (hlt : l.length < cap) (d : Nd) :
  2 ≤ l.length ∧ N l.length = none ∧ AOk (l ++ [⟨(d.v : Int), d.lo, d.hi, true, 0⟩]) [] cap (used + 1) (up N l.length (some d)) := by
 have h2 := h.two
 refine ⟨h2, by rw [h.nd _ h2, List.getElem?_eq_none (Nat.le_refl _)]; rfl, ?_⟩
 have hget : ∀ s, s ≠ l.length → (l ++ [(⟨(d.v : Int), d.lo, d.hi, true, 0⟩ : Plc)])[s]? = l[s]? := fun s hs => by
  rw [List.getElem?_append]
  split
  ·rfl
  ·rw [List.getElem?_eq_none (by simp; omega), List.getElem?_eq_none (by omega)]
 have hgr : (l ++ [(⟨(d.v : Int), d.lo, d.hi, true, 0⟩ : Plc)])[l.length]? = some ⟨(d.v : Int), d.lo, d.hi, true, 0⟩ := by simp
 exact {
  cap := by simp; exact ⟨hlt, h.cap.2⟩
  two := by simp; omega
  const := fun s hs => by rw [hget s (by omega)]; exact h.const s hs
  nd := fun s hs => by
   by_cases e : s = l.length
   ·subst e; rw [up_same, hgr]; exact (ndOf_t d).symm
   ·rw [up_ne e, hget s e]; exact h.nd s hs
  n0 := fun s hs => by rw [up_ne (by omega)]; exact h.n0 s hs
  nn := fun s q hs hq hqt => by
   by_cases e : s = l.length
   ·subst e; rw [hgr] at hq; cases hq; exact Int.natCast_nonneg _
   ·rw [hget s e] at hq; exact h.nn s q hs hq hqt
  frn := h.frn
  frm := fun s => by
   by_cases e : s = l.length
   ·subst e
    rw [hgr]
    simp
   ·rw [hget s e]; exact h.frm s
  used := by have := h.used; simp at *; omega }
theorem AOk.turn (h : AOk l fr cap used N) {r : Nat} {p : Plc} (h2 : 2 ≤ r) (hp : l[r]? = some p) (ht : p.tk = true) (d : Nd) :
  AOk (l.set r ⟨(d.v : Int), d.lo, d.hi, true, p.c⟩) fr cap used (up N r (some d)) := by
 have hlt := (List.getElem?_eq_some_iff.1 hp).1
 have hget : ∀ s, s ≠ r → (l.set r ⟨(d.v : Int), d.lo, d.hi, true, p.c⟩)[s]? = l[s]? := fun s hs => List.getElem?_set_ne (Ne.symm hs)
 have hgr : (l.set r ⟨(d.v : Int), d.lo, d.hi, true, p.c⟩)[r]? = some ⟨(d.v : Int), d.lo, d.hi, true, p.c⟩ := List.getElem?_set_self hlt
 exact {
  cap := by simpa using h.cap
  two := by simpa using h.two
  const := fun s hs => by rw [hget s (by omega)]; exact h.const s hs
  nd := fun s hs => by
   by_cases e : s = r
   ·subst e; rw [up_same, hgr]; exact (ndOf_t d).symm
   ·rw [up_ne e, hget s e]; exact h.nd s hs
  n0 := fun s hs => by rw [up_ne (by omega)]; exact h.n0 s hs
  nn := fun s q hs hq hqt => by
   by_cases e : s = r
   ·subst e; rw [hgr] at hq; cases hq; exact Int.natCast_nonneg _
   ·rw [hget s e] at hq; exact h.nn s q hs hq hqt
  frn := h.frn
  frm := fun s => by
   by_cases e : s = r
   ·subst e
    rw [h.frm, hgr, hp]
    simp [ht]
   ·rw [hget s e]; exact h.frm s
  used := by simpa using h.used }
theorem AOk.free (h : AOk l fr cap used N) {r : Nat} {p : Plc} (h2 : 2 ≤ r) (hp : l[r]? = some p) (ht : p.tk = true) :
  AOk (l.set r ⟨0, 0, 0, false, 0⟩) (fr ++ [r]) cap (used - 1) (up N r none) ∧ 0 < used := by
 have hlt := (List.getElem?_eq_some_iff.1 hp).1
 have hget : ∀ s, s ≠ r → (l.set r ⟨0, 0, 0, false, 0⟩)[s]? = l[s]? := fun s hs => List.getElem?_set_ne (Ne.symm hs)
 have hgr : (l.set r ⟨0, 0, 0, false, 0⟩)[r]? = some ⟨0, 0, 0, false, 0⟩ := List.getElem?_set_self hlt
 have hnf : r ∉ fr := fun hm => by obtain ⟨q, hq, hqt⟩ := (h.frm r).1 hm; rw [hp] at hq; cases hq; rw [ht] at hqt; cases hqt
 have hu : fr.length < l.length := by
  have hn : (r :: fr).Nodup := List.nodup_cons.2 ⟨hnf, h.frn⟩
  have := length_le_of_sub (l := r :: fr) (l' := List.range l.length) hn fun s hs => by
   rw [List.mem_range]
   rcases List.mem_cons.1 hs with rfl | hs
   ·exact hlt
   ·obtain ⟨q, hq, _⟩ := (h.frm s).1 hs; exact (List.getElem?_eq_some_iff.1 hq).1
  rw [List.length_range] at this; exact this
 have hu2 := h.used
 refine ⟨?_, by omega⟩
 exact {
  cap := by simpa using h.cap
  two := by simpa using h.two
  const := fun s hs => by rw [hget s (by omega)]; exact h.const s hs
  nd := fun s hs => by
   by_cases e : s = r
   ·subst e; rw [up_same, hgr]; rfl
   ·rw [up_ne e, hget s e]; exact h.nd s hs
  n0 := fun s hs => by rw [up_ne (by omega)]; exact h.n0 s hs
  nn := fun s q hs hq hqt => by
   by_cases e : s = r
   ·subst e; rw [hgr] at hq; cases hq; cases hqt
   ·rw [hget s e] at hq; exact h.nn s q hs hq hqt
  frn := by rw [List.nodup_append]; exact ⟨h.frn, by simp, fun a ha c hc => by simp at hc; subst hc; intro e; subst e; exact hnf ha⟩
  frm := fun s => by
   rw [List.mem_append, List.mem_singleton]
   by_cases e : s = r
   ·subst e
    rw [hgr]
    simp
   ·rw [hget s e, ← h.frm]; simp [e]
  used := by simp; omega }
end
theorem map_set_row (l : List Plc) (r : Nat) (p : Plc) : (l.map Plc.row).set r p.row = (l.set r p).map Plc.row := by rw [List.map_set]
theorem alloc_ok {pa cap used : Nat} {N : Sto} {C : Hp} {d : Nd} (h : ArRep pa cap used N C) (hd : NOk N d) (hroom : used < cap) :
  Fc Tryz.prog 101 #[ptr pa, .agg (nrow d).toArray] C (fun v C' => ∃ r, v = .tuple #[u32 r, .int .i64 0] ∧ 2 ≤ r ∧ r < cap ∧ N r = none ∧ ArRep pa cap (used + 1) (up N r (some d)) C') := by
 have h0 := h
 obtain ⟨vl, vf, l, fr, Cl, Cf, rfl, hl, hf, ho⟩ := h
 have hcap := ho.cap
 have hused := ho.used
 intro g
 refine L101_sound (R := FnR _) ?_
 unfold L101
 intro b1 _
 refine Bin.ptrNil (Br.no ?_)
 refine LdA.whole (r := nrow d) (by exact .head _) rfl ?_
 refine CallF.rd (.cons .here) (acheck_ok h0 hd) ?_
 rintro v rfl
 refine Bin.neD (Br.decF (by simp) ?_)
 refine Nil.ptr ?_
 refine FAddr.mk (Ld.mk (by repeat (first | assumption | exact List.Mem.head _ | apply List.Mem.tail | apply List.mem_append_right)) rfl ?_)
 refine hf.lenS ?_
 rw [List.length_map]
 refine Bin.gtN (b := 0) (Br.dec (fun hp => ?_) (fun hp => ?_))
 ·obtain ⟨fr', r, rfl⟩ : ∃ fr' r, fr = fr' ++ [r] := ⟨fr.dropLast, fr.getLast (by intro e; simp [e] at hp), (List.dropLast_concat_getLast _).symm⟩
  simp only [List.length_append, List.length_cons, List.length_nil] at hp hused ⊢
  obtain ⟨g1, g2, g3, hok⟩ := ho.reuse (r := r) (by simp) (fr' := fr') (by exact List.perm_append_singleton _ _) d
  refine Nil.ptr ?_
  refine FAddr.mk (Ld.mk (by repeat (first | assumption | exact List.Mem.head _ | apply List.Mem.tail | apply List.mem_append_right)) rfl ?_)
  refine Bin.subN (a := fr'.length + 1) (b := 1) (by simp [lim]; omega) (by omega) ?_
  rw [Nat.add_sub_cancel]
  refine hf.ld (i := fr'.length) (x := (r : Int)) (by simp) (fun _ h => by exact .tail _ (.tail _ (List.mem_append_right _ h))) ?_
  refine Nil.ptr ?_
  refine FAddr.mk (Ld.mk (by repeat (first | assumption | exact List.Mem.head _ | apply List.Mem.tail | apply List.mem_append_right)) rfl ?_)
  refine Bin.subN (a := fr'.length + 1) (b := 1) (by simp [lim]; omega) (by omega) ?_
  rw [Nat.add_sub_cancel]
  refine hf.cut (i := fr'.length) (by simp) fun v' hf' => ?_
  have hf2 : IOwn 31 .u32 v' (fr'.map (Nat.cast : Nat → Int)) Cf := by
   rw [List.map_append, List.take_left' (by simp)] at hf'; exact hf'
  have hone : v'.oneCell' = true := by obtain ⟨a, c, e⟩ := SOwn.len hf2; rw [e]; rfl
  refine Nil.ptr (FAddr.mk ?_)
  refine St.one (by exact .tail (.head _)) hone (by simp) rfl ?_
  refine DR.self ?_
  refine Nil.ptr ?_
  refine FAddr.mk (Ld.mk (by exact .tail _ (.head _)) rfl ?_)
  refine LdA.whole (r := nrow d) (by exact .head _) rfl ?_
  refine Build.mk (cs := (Plc.mk (d.v : Int) d.lo d.hi true 0).row) (by kernel_rfl) ?_
  refine hl.putRow (A := [_, _]) (B := Cf) (i := r) (by rw [List.length_map]; have := (ho.frm r).1 (by simp); obtain ⟨p, hp, _⟩ := this; exact (List.getElem?_eq_some_iff.1 hp).1) rfl (row_one _) fun C' hl' => ?_
  rw [map_set_row] at hl'
  simp only [List.cons_append, List.nil_append]
  refine Nil.ptr ?_
  refine FAddr.mk (Ld.mk (by exact .tail _ (.head _)) rfl ?_)
  refine Bin.addN (b := 1) (by simp [lim]; omega) ?_
  refine Nil.ptr (FAddr.mk ?_)
  refine St.one (by exact .tail (.head _)) rfl (by simp) rfl ?_
  exact FnR.mk .tail ⟨r, rfl, g1, g2, g3, vl, v', _, fr', C', Cf, rfl, hl', hf2, hok⟩
 ·obtain rfl : fr = [] := List.eq_nil_of_length_eq_zero (by omega)
  simp only [List.length_nil] at hused
  obtain ⟨g1, g3, hok⟩ := ho.grow (by omega) d
  refine Nil.ptr ?_
  refine FAddr.mk (Ld.mk (by repeat (first | assumption | exact List.Mem.head _ | apply List.Mem.tail | apply List.mem_append_right)) rfl ?_)
  refine hl.lenS ?_
  rw [List.length_map]
  refine Nil.ptr ?_
  refine FAddr.mk (Ld.mk (by repeat (first | assumption | exact List.Mem.head _ | apply List.Mem.tail | apply List.mem_append_right)) rfl ?_)
  refine Bin.geN (Br.decF (by omega) ?_)
  refine DR.of (R := (b1, .cells (List.toArray (nrow d)) 103 (0, 0)) :: (pa, .cells #[.int .i64 (cap : Int), vl, vf, .int .i64 (used : Int)] 159 (0, 0)) :: []) (.cons (.cons .nil)) ?_
  refine Nil.ptr ?_
  refine FAddr.mk (Ld.mk (by repeat (first | assumption | exact List.Mem.head _ | apply List.Mem.tail | apply List.mem_append_right)) rfl ?_)
  refine LdA.whole (r := nrow d) (by exact .head _) rfl ?_
  refine Build.mk (cs := (Plc.mk (d.v : Int) d.lo d.hi true 0).row) (by kernel_rfl) ?_
  refine BuildSl.one (z := .agg #[.int .i64 0, .int .u32 0, .int .u32 0, .bool false, .int .u8 0]) (e := 197) (k := 5) (by kernel_rfl) (by kernel_rfl) (by kernel_rfl) (by decide) rfl fun bx => ?_
  refine ⟨.skip (.cons (.cons .nil)), ?_⟩
  refine hl.app' (A := [_, _, _]) (B := Cf) (r := (Plc.mk (d.v : Int) d.lo d.hi true 0).row) (by exact .head _) rfl (row_one _) (by exact ⟨[.int .i64 0, .int .u32 0, .int .u32 0, .bool false, .int .u8 0], rfl, rfl⟩) (by simp; omega) (by simp; omega) fun v' C' hl' => ?_
  have hl2 : SOwn 197 5 v' ((l ++ [(⟨(d.v : Int), d.lo, d.hi, true, 0⟩ : Plc)]).map Plc.row) C' := by rw [List.map_append]; exact hl'
  simp only [List.cons_append, List.nil_append]
  refine ⟨.skip (.cons (.cons .nil)), ?_⟩
  have hone : v'.oneCell' = true := by obtain ⟨a, c, e⟩ := hl2.len; rw [e]; rfl
  refine Nil.ptr (FAddr.mk ?_)
  refine St.one (by exact .tail (.tail (.head _))) hone (by simp) rfl ?_
  refine Nil.ptr ?_
  refine FAddr.mk (Ld.mk (by exact .tail _ (.tail _ (.head _))) rfl ?_)
  refine Bin.addN (b := 1) (by simp [lim]; omega) ?_
  refine Nil.ptr (FAddr.mk ?_)
  refine St.one (by exact .tail (.tail (.head _))) rfl (by simp) rfl ?_
  refine Nil.ptr ?_
  refine FAddr.mk (Ld.mk (by exact .tail _ (.tail _ (.head _))) rfl ?_)
  refine hl2.lenS ?_
  refine Bin.subN (b := 1) (by simp [lim]; omega) (by simp) ?_
  refine ConvI.nat (by simp [lim]; omega) ?_
  refine FnR.mk (.skip .tail) ⟨l.length, by simp [u32], g1, by omega, g3, v', vf, _, [], C', Cf, rfl, hl2, hf, hok⟩
theorem aset_ok {pa cap used r : Nat} {N : Sto} {C : Hp} {d : Nd} (h : ArRep pa cap used N C) (hd : NOk N d) (hr : ∃ e, N r = some e) (h2 : 2 ≤ r) :
  Fc Tryz.prog 129 #[ptr pa, u32 r, .agg (nrow d).toArray] C (fun v C' => v = .int .i64 0 ∧ ArRep pa cap used (up N r (some d)) C') := by
 have h0 := h
 obtain ⟨vl, vf, l, fr, Cl, Cf, rfl, hl, hf, ho⟩ := h
 have hx := liveB_iff.2 (.inr hr : live N r)
 rw [ho.livep] at hx
 obtain ⟨p, hg, hx⟩ : ∃ p, l[r]? = some p ∧ p.tk = true := by
  cases hg : l[r]? with
  | none => rw [hg] at hx; simp at hx
  | some p => rw [hg] at hx; exact ⟨p, rfl, hx⟩
 intro g
 refine L129_sound (R := FnR _) ?_
 unfold L129
 intro b1 _
 refine Bin.ptrNil (Br.no ?_)
 refine LdA.whole (r := nrow d) (by exact .head _) rfl ?_
 refine CallF.rd (.cons .here) (acheck_ok h0 hd) ?_
 rintro v rfl
 refine Bin.neD (Br.decF (by simp) ?_)
 refine CallF.rd (.cons .here) (own_ok h0 hr h2) ?_
 rintro v rfl
 refine Bin.neD (Br.decF (by simp) ?_)
 refine DR.self ?_
 refine Nil.ptr ?_
 refine FAddr.mk (Ld.mk (by repeat (first | assumption | exact List.Mem.head _ | apply List.Mem.tail | apply List.mem_append_right)) rfl ?_)
 refine LdA.whole (r := nrow d) (by exact .head _) rfl ?_
 refine hl.putPart (A := [_, _]) (B := Cf) (r := p.row) (xs := nrow d) (n := 3) (by rw [List.getElem?_map, hg]; rfl) ⟨rfl, by omega⟩ (by intro x hx; simp [nrow, u32] at hx; rcases hx with rfl | rfl | rfl <;> rfl) fun C' hl' => ?_
 have e : (nrow d ++ p.row.drop 3) = (Plc.mk (d.v : Int) d.lo d.hi true p.c).row := by simp [nrow, Plc.row, hx]
 rw [e, map_set_row] at hl'
 exact FnR.mk .tail ⟨rfl, vl, vf, _, fr, C', Cf, rfl, hl', hf, ho.turn h2 hg hx d⟩
theorem afree_ok {pa cap used r : Nat} {N : Sto} {C : Hp} (h : ArRep pa cap used N C) (hr : ∃ e, N r = some e) (h2 : 2 ≤ r) :
  Fc Tryz.prog 106 #[ptr pa, u32 r] C (fun v C' => v = .int .i64 0 ∧ ArRep pa cap (used - 1) (up N r none) C') := by
 have h0 := h
 obtain ⟨vl, vf, l, fr, Cl, Cf, rfl, hl, hf, ho⟩ := h
 have hx := liveB_iff.2 (.inr hr : live N r)
 rw [ho.livep] at hx
 obtain ⟨p, hg, hx⟩ : ∃ p, l[r]? = some p ∧ p.tk = true := by
  cases hg : l[r]? with
  | none => rw [hg] at hx; simp at hx
  | some p => rw [hg] at hx; exact ⟨p, rfl, hx⟩
 obtain ⟨hok, hu0⟩ := ho.free h2 hg hx
 have hcap := ho.cap
 have hused := ho.used
 intro g
 refine L106_sound (R := FnR _) ?_
 unfold L106
 refine Bin.ptrNil (Br.no ?_)
 refine CallF.rd .here (own_ok h0 hr h2) ?_
 rintro v rfl
 refine Bin.neD (Br.decF (by simp) ?_)
 refine Nil.ptr ?_
 refine FAddr.mk (Ld.mk (by repeat (first | assumption | exact List.Mem.head _ | apply List.Mem.tail | apply List.mem_append_right)) rfl ?_)
 refine Build.mk (cs := (Plc.mk 0 0 0 false 0).row) (by kernel_rfl) ?_
 refine hl.putRow (A := [_]) (B := Cf) (i := r) (by rw [List.length_map]; exact (List.getElem?_eq_some_iff.1 hg).1) rfl (row_one _) fun C' hl' => ?_
 rw [map_set_row] at hl'
 simp only [List.cons_append, List.nil_append]
 refine Nil.ptr ?_
 refine FAddr.mk (Ld.mk (by exact .head _) rfl ?_)
 refine BuildSl.int (e := 31) (by kernel_rfl) (by kernel_rfl) (by kernel_rfl) fun bx => ?_
 have e1 : (bx, Obj.cells (icells .u32 [(r : Int)]) 31 (0, 0)) :: (pa, Obj.cells #[.int .i64 (cap : Int), vl, vf, .int .i64 (used : Int)] 159 (0, 0)) :: (C' ++ Cf) = (bx, Obj.cells (icells .u32 [(r : Int)]) 31 (0, 0)) :: (pa, Obj.cells #[.int .i64 (cap : Int), vl, vf, .int .i64 (used : Int)] 159 (0, 0)) :: C' ++ (Cf ++ []) := by simp
 rw [e1]
 refine hf.app (x := (r : Int)) (B := []) (by exact .head _) (by simp; omega) (by simp; omega) fun v' Cf' hf' => ?_
 have hf2 : IOwn 31 .u32 v' ((fr ++ [r]).map (Nat.cast : Nat → Int)) Cf' := by rw [List.map_append]; exact hf'
 have hone : v'.oneCell' = true := by obtain ⟨a, c, e⟩ := SOwn.len hf2; rw [e]; rfl
 simp only [List.cons_append, List.append_nil]
 refine Nil.ptr (FAddr.mk ?_)
 refine St.one (by exact .tail (.head _)) hone (by simp) rfl ?_
 refine Nil.ptr ?_
 refine FAddr.mk (Ld.mk (by exact .tail _ (.head _)) rfl ?_)
 refine Bin.subN (b := 1) (by simp [lim]; omega) (by omega) ?_
 refine Nil.ptr (FAddr.mk ?_)
 refine St.one (by exact .tail (.head _)) rfl (by simp) rfl ?_
 exact FnR.mk .tail ⟨rfl, vl, v', _, _, C', Cf', rfl, hl', hf2, hok⟩
end Go.Proofs
set_option maxRecDepth 100000
namespace Go.Proofs
open Go Go.Sx
open Bdd
def nK (d : Nd) : Value := .agg (nrow d).toArray
abbrev vrR (v : Value) (r : Nat) : Prop := v = u32 r
theorem node_ty : Tryz.prog.underlying 103 = some (.struct (Tryz.prog.fieldsOf 103)) := by kernel_rfl
theorem nK_eq (a b : Nd) : EqV Tryz.prog 103 (nK a) (nK b) (decide (a = b)) := by
 refine EqV.flat (fs := #[⟨"Var", 3, 0, false, "", "", 0⟩, ⟨"Lo", 31, 1, false, "", "", 8⟩, ⟨"Hi", 31, 2, false, "", "", 12⟩]) (by kernel_rfl) (by kernel_rfl) ?_ ?_
 ·intro f hf
  simp only [List.mem_cons, List.not_mem_nil, or_false] at hf
  rcases hf with rfl | rfl | rfl
  ·exact ⟨by decide, _, _, rfl, rfl, .inl ⟨.i64, _, _, by kernel_rfl, rfl, rfl⟩⟩
  ·exact ⟨by decide, _, _, rfl, rfl, .inl ⟨.u32, _, _, by kernel_rfl, rfl, rfl⟩⟩
  ·exact ⟨by decide, _, _, rfl, rfl, .inl ⟨.u32, _, _, by kernel_rfl, rfl, rfl⟩⟩
 ·obtain ⟨a1, a2, a3⟩ := a
  obtain ⟨b1, b2, b3⟩ := b
  simp [nrow, u32]
  omega
theorem nK_chk (a : Nd) : ChkV Tryz.prog 103 (nK a) := by
 refine ChkV.flat (fs := #[⟨"Var", 3, 0, false, "", "", 0⟩, ⟨"Lo", 31, 1, false, "", "", 8⟩, ⟨"Hi", 31, 2, false, "", "", 12⟩]) (by kernel_rfl) ?_
 intro f hf
 simp only [List.mem_cons, List.not_mem_nil, or_false] at hf
 rcases hf with rfl | rfl | rfl
 ·exact ⟨by decide, _, rfl, .inl ⟨.i64, _, _, by kernel_rfl, rfl, rfl⟩⟩
 ·exact ⟨by decide, _, rfl, .inl ⟨.u32, _, _, by kernel_rfl, rfl, rfl⟩⟩
 ·exact ⟨by decide, _, rfl, .inl ⟨.u32, _, _, by kernel_rfl, rfl, rfl⟩⟩
theorem nK_bits (a : Nd) : Instr.sameBits 10000 (nK a) (nK a) = true := sameBits_flat 9998 (by intro x hx; simp [nrow, u32] at hx; rcases hx with rfl | rfl | rfl <;> exact .inl ⟨_, _, rfl⟩)
structure UM where
 b : Nat
 es : Array MapEntry
 ck : Nat
 l : List (Nd × Nat)
def mbl (ms : List UM) : Hp := ms.map fun m => (m.b, .map m.es m.ck)
structure UOk (ms : List UM) (n : Nat) (T : Nd → Option Nat) : Prop where
 len : ms.length = n
 ent : ∀ (v : Nat) m, ms[v]? = some m → Ents nK vrR m.es m.ck m.l
 var : ∀ (v : Nat) m, ms[v]? = some m → ∀ x ∈ m.l, x.1.v = v
 T : ∀ d, T d = (ms[d.v]?).bind fun m => mget m.l d
def UtRep (pt n : Nat) (T : Nd → Option Nat) (C : Hp) : Prop :=
 ∃ vs Cs ms, C = (pt, .cells #[vs] 146 (0, 0)) :: (Cs ++ mbl ms) ∧ SOwn 147 1 vs (ms.map fun m => [.map (some m.b)]) Cs ∧ UOk ms n T
theorem mbl_mem {ms : List UM} {v : Nat} {m : UM} (h : ms[v]? = some m) : (m.b, Obj.map m.es m.ck) ∈ mbl ms := List.mem_map.2 ⟨m, List.mem_of_getElem? h, rfl⟩
theorem mbl_upd {es' : Array MapEntry} {ck' : Nat} {l' : List (Nd × Nat)} : ∀ {ms : List UM} {v : Nat} {m : UM}, ms[v]? = some m → Upd m.b (.map m.es m.ck) (.map es' ck') (mbl ms) (mbl (ms.set v ⟨m.b, es', ck', l'⟩))
 | [], v, m, h => by simp at h
 | x :: ms, 0, m, h => by simp at h; subst h; exact .head _
 | x :: ms, v + 1, m, h => by simp at h; exact .tail (mbl_upd h)
theorem mbl_set_b {ms : List UM} {v : Nat} {m m' : UM} (h : ms[v]? = some m) (hb : m'.b = m.b) : (ms.set v m').map (fun m => [Value.map (some m.b)]) = ms.map fun m => [Value.map (some m.b)] := by
 rw [List.map_set]
 apply List.ext_getElem?
 intro j
 rw [List.getElem?_set]
 split
 ·rename_i e; subst e
  have hlt := (List.getElem?_eq_some_iff.1 h).1
  have e2 : ms[v] = m := by rw [List.getElem?_eq_getElem hlt] at h; exact Option.some.inj h
  simp [hb, hlt, e2]
 ·rfl
theorem UOk.add {ms : List UM} {n : Nat} {T : Nd → Option Nat} (h : UOk ms n T) {d : Nd} {m : UM} (hm : ms[d.v]? = some m) {es' : Array MapEntry} {ck' r : Nat} (he : Ents nK vrR es' ck' (mset m.l d r)) : UOk (ms.set d.v ⟨m.b, es', ck', mset m.l d r⟩) n (upT T d (some r)) where
 len := by rw [List.length_set]; exact h.len
 ent := fun v m' hm' => by
  rw [List.getElem?_set] at hm'
  split at hm'
  ·split at hm'
   ·cases hm'; exact he
   ·cases hm'
  ·exact h.ent v m' hm'
 var := fun v m' hm' x hx => by
  rw [List.getElem?_set] at hm'
  split at hm'
  ·rename_i e
   split at hm'
   ·cases hm'
    subst e
    simp only [mset] at hx
    split at hx
    ·obtain ⟨y, hy, rfl⟩ := List.mem_map.1 hx
     split
     ·rfl
     ·exact h.var _ m hm y hy
    ·rcases List.mem_append.1 hx with hx | hx
     ·exact h.var _ m hm x hx
     ·simp at hx; subst hx; rfl
   ·cases hm'
  ·exact h.var v m' hm' x hx
 T := fun e => by
  have hlt := (List.getElem?_eq_some_iff.1 hm).1
  by_cases ee : e = d
  ·subst ee; rw [upT_same, List.getElem?_set_self hlt]; simp [mget_mset]
  ·rw [upT_ne ee, h.T e]
   by_cases ev : d.v = e.v
   ·rw [← ev, List.getElem?_set_self hlt, hm]; simp [mget_mset, ee]
   ·rw [List.getElem?_set_ne ev]
theorem UOk.del {ms : List UM} {n : Nat} {T : Nd → Option Nat} (h : UOk ms n T) {d : Nd} {m : UM} (hm : ms[d.v]? = some m) {es' : Array MapEntry} {ck' : Nat} (he : Ents nK vrR es' ck' (mdel m.l d)) : UOk (ms.set d.v ⟨m.b, es', ck', mdel m.l d⟩) n (upT T d none) where
 len := by rw [List.length_set]; exact h.len
 ent := fun v m' hm' => by
  rw [List.getElem?_set] at hm'
  split at hm'
  ·split at hm'
   ·cases hm'; exact he
   ·cases hm'
  ·exact h.ent v m' hm'
 var := fun v m' hm' x hx => by
  rw [List.getElem?_set] at hm'
  split at hm'
  ·rename_i e
   split at hm'
   ·cases hm'
    subst e
    exact h.var _ m hm x (List.mem_filter.1 hx |>.1)
   ·cases hm'
  ·exact h.var v m' hm' x hx
 T := fun e => by
  have hlt := (List.getElem?_eq_some_iff.1 hm).1
  by_cases ee : e = d
  ·subst ee; rw [upT_same, List.getElem?_set_self hlt]; simp [mget_mdel]
  ·rw [upT_ne ee, h.T e]
   by_cases ev : d.v = e.v
   ·rw [← ev, List.getElem?_set_self hlt, hm]; simp [mget_mdel, ee]
   ·rw [List.getElem?_set_ne ev]
theorem ucheck_ok {pt n v : Nat} {T : Nd → Option Nat} {C : Hp} (h : UtRep pt n T C) (hv : v < n) : Rd Tryz.prog 138 #[ptr pt, .int .i64 (v : Int)] C (· = .int .i64 0) := by
 obtain ⟨vs, Cs, ms, rfl, hs, ho⟩ := h
 intro g
 refine L138_sound (R := FnR _) ?_
 unfold L138
 refine Bin.ptrNil (Br.no ?_)
 refine Bin.lss ?_
 rw [decide_eq_false (by omega : ¬ ((v : Int) < 0))]
 refine Grp.or false (fun _ => ?_) rfl fun _ => Br.no (RdR.mk (.refl _) rfl)
 refine Nil.ptr ?_
 refine FAddr.mk (Ld.mk (by repeat (first | assumption | exact List.Mem.head _ | apply List.Mem.tail | apply List.mem_append_right)) rfl ?_)
 refine hs.lenS ?_
 rw [List.length_map, ho.len]
 exact Bin.geN ⟨rfl, by rw [decide_eq_false (by omega)]⟩
end Go.Proofs
set_option maxRecDepth 100000
namespace Go.Proofs
open Go Go.Sx
open Bdd
theorem find_ok {pt n : Nat} {T : Nd → Option Nat} {C : Hp} {d : Nd} (h : UtRep pt n T C) (hv : d.v < n) :
  Rd Tryz.prog 99 #[ptr pt, nK d] C (· = .tuple #[u32 ((T d).getD 0), .bool (T d).isSome]) := by
 have h0 := h
 obtain ⟨vs, Cs, ms, rfl, hs, ho⟩ := h
 obtain ⟨m, hm⟩ : ∃ m, ms[d.v]? = some m := ⟨_, List.getElem?_eq_getElem (by rw [ho.len]; exact hv)⟩
 intro g
 refine L99_sound (R := FnR _) ?_
 unfold L99
 intro b1 _
 refine FAddr.mk (Ld.mk (v := .int .i64 (d.v : Int)) (by exact .head _) rfl ?_)
 refine CallF.rd (.cons .here) (ucheck_ok h0 hv) ?_
 rintro v rfl
 refine Bin.neD (Br.decF (by simp) ?_)
 refine Nil.ptr ?_
 refine FAddr.mk (Ld.mk (by repeat (first | assumption | exact List.Mem.head _ | apply List.Mem.tail | apply List.mem_append_right)) rfl ?_)
 refine FAddr.mk (Ld.mk (v := .int .i64 (d.v : Int)) (by exact .head _) rfl ?_)
 refine hs.ld1 (x := .map (some m.b)) (by rw [List.getElem?_map, hm]; rfl) (fun _ h => by exact .tail _ (.tail _ (List.mem_append_left _ h))) ?_
 refine LdA.whole (r := nrow d) (by exact .head _) rfl ?_
 have hmem : (m.b, Obj.map m.es m.ck) ∈ (b1, Obj.cells (Value.cells (nK d)) 103 (0, 0)) :: (pt, .cells #[vs] 146 (0, 0)) :: (Cs ++ mbl ms) := .tail _ (.tail _ (List.mem_append_right _ (mbl_mem hm)))
 have hT : T d = mget m.l d := by rw [ho.T, hm]; rfl
 rw [hT]
 cases hg : mget m.l d with
 | some r =>
  refine Ents.hitS (ke := nK) (k := d) nK_eq nK_chk (ho.ent _ m hm) hmem hg ?_
  rintro v rfl
  exact Ext.mk rfl (Ext.mk rfl (RdR.mk .tail rfl))
 | none =>
  refine Ents.missS (ke := nK) (k := d) nK_eq nK_chk (ho.ent _ m hm) hmem hg ?_
  exact Ext.mk rfl (Ext.mk rfl (RdR.mk .tail rfl))
theorem uadd_ok {pt n r : Nat} {T : Nd → Option Nat} {C : Hp} {d : Nd} (h : UtRep pt n T C) (hv : d.v < n) (hT : T d = none) :
  Fc Tryz.prog 103 #[ptr pt, nK d, u32 r] C (fun v C' => v = .int .i64 0 ∧ UtRep pt n (upT T d (some r)) C') := by
 have h0 := h
 obtain ⟨vs, Cs, ms, rfl, hs, ho⟩ := h
 obtain ⟨m, hm⟩ : ∃ m, ms[d.v]? = some m := ⟨_, List.getElem?_eq_getElem (by rw [ho.len]; exact hv)⟩
 have hTm : mget m.l d = none := by rw [ho.T, hm] at hT; exact hT
 intro g
 refine L103_sound (R := FnR _) ?_
 unfold L103
 intro b1 _
 refine FAddr.mk (Ld.mk (v := .int .i64 (d.v : Int)) (by exact .head _) rfl ?_)
 refine CallF.rd (.cons .here) (ucheck_ok h0 hv) ?_
 rintro v rfl
 refine Bin.neD (Br.decF (by simp) ?_)
 refine Nil.ptr ?_
 refine FAddr.mk (Ld.mk (by repeat (first | assumption | exact List.Mem.head _ | apply List.Mem.tail | apply List.mem_append_right)) rfl ?_)
 refine FAddr.mk (Ld.mk (v := .int .i64 (d.v : Int)) (by exact .head _) rfl ?_)
 refine hs.ld1 (x := .map (some m.b)) (by rw [List.getElem?_map, hm]; rfl) (fun _ h => by exact .tail _ (.tail _ (List.mem_append_left _ h))) ?_
 refine LdA.whole (r := nrow d) (by exact .head _) rfl ?_
 have hmem : (m.b, Obj.map m.es m.ck) ∈ (b1, Obj.cells (Value.cells (nK d)) 103 (0, 0)) :: (pt, .cells #[vs] 146 (0, 0)) :: (Cs ++ mbl ms) := .tail _ (.tail _ (List.mem_append_right _ (mbl_mem hm)))
 refine Ents.missS (ke := nK) (k := d) nK_eq nK_chk (ho.ent _ m hm) hmem hTm ?_
 refine Ext.mk rfl (Ext.mk rfl (Br.no ?_))
 refine DR.self ?_
 refine Nil.ptr ?_
 refine FAddr.mk (Ld.mk (by repeat (first | assumption | exact List.Mem.head _ | apply List.Mem.tail | apply List.mem_append_right)) rfl ?_)
 refine FAddr.mk (Ld.mk (v := .int .i64 (d.v : Int)) (by exact .head _) rfl ?_)
 refine hs.ld1 (x := .map (some m.b)) (by rw [List.getElem?_map, hm]; rfl) (fun _ h => by exact .tail _ (.tail _ (List.mem_append_left _ h))) ?_
 refine LdA.whole (r := nrow d) (by exact .head _) rfl ?_
 refine Ents.updS (ke := nK) (k := d) (vr := vrR) (x := r) nK_eq nK_chk nK_bits (ho.ent _ m hm) rfl fun es' ck' he => ⟨_, .tail (.tail ((mbl_upd (l' := mset m.l d r) hm).prepend Cs)), ?_⟩
 exact FnR.mk .tail ⟨rfl, vs, Cs, _, rfl, by rw [mbl_set_b hm]; exact hs; rfl, ho.add hm he⟩
theorem remove_ok {pt n r : Nat} {T : Nd → Option Nat} {C : Hp} {d : Nd} (h : UtRep pt n T C) (hv : d.v < n) (hT : T d = some r) :
  Fc Tryz.prog 105 #[ptr pt, nK d] C (fun v C' => v = .int .i64 0 ∧ UtRep pt n (upT T d none) C') := by
 have h0 := h
 obtain ⟨vs, Cs, ms, rfl, hs, ho⟩ := h
 obtain ⟨m, hm⟩ : ∃ m, ms[d.v]? = some m := ⟨_, List.getElem?_eq_getElem (by rw [ho.len]; exact hv)⟩
 have hTm : mget m.l d = some r := by rw [ho.T, hm] at hT; exact hT
 intro g
 refine L105_sound (R := FnR _) ?_
 unfold L105
 intro b1 _
 refine FAddr.mk (Ld.mk (v := .int .i64 (d.v : Int)) (by exact .head _) rfl ?_)
 refine CallF.rd (.cons .here) (ucheck_ok h0 hv) ?_
 rintro v rfl
 refine Bin.neD (Br.decF (by simp) ?_)
 refine Nil.ptr ?_
 refine FAddr.mk (Ld.mk (by repeat (first | assumption | exact List.Mem.head _ | apply List.Mem.tail | apply List.mem_append_right)) rfl ?_)
 refine FAddr.mk (Ld.mk (v := .int .i64 (d.v : Int)) (by exact .head _) rfl ?_)
 refine hs.ld1 (x := .map (some m.b)) (by rw [List.getElem?_map, hm]; rfl) (fun _ h => by exact .tail _ (.tail _ (List.mem_append_left _ h))) ?_
 refine LdA.whole (r := nrow d) (by exact .head _) rfl ?_
 have hmem : (m.b, Obj.map m.es m.ck) ∈ (b1, Obj.cells (Value.cells (nK d)) 103 (0, 0)) :: (pt, .cells #[vs] 146 (0, 0)) :: (Cs ++ mbl ms) := .tail _ (.tail _ (List.mem_append_right _ (mbl_mem hm)))
 refine Ents.hitS (ke := nK) (k := d) nK_eq nK_chk (ho.ent _ m hm) hmem hTm ?_
 rintro v rfl
 refine Ext.mk rfl (Ext.mk rfl (Un.not (Br.no ?_)))
 refine DR.of (R := (b1, Obj.cells (Value.cells (nK d)) 103 (0, 0)) :: (pt, .cells #[vs] 146 (0, 0)) :: Cs) (.cons (.cons .left)) ?_
 refine Nil.ptr ?_
 refine FAddr.mk (Ld.mk (by repeat (first | assumption | exact List.Mem.head _ | apply List.Mem.tail | apply List.mem_append_right)) rfl ?_)
 refine FAddr.mk (Ld.mk (v := .int .i64 (d.v : Int)) (by exact .head _) rfl ?_)
 refine hs.ld1 (x := .map (some m.b)) (by rw [List.getElem?_map, hm]; rfl) (fun _ h => by exact .tail _ (.tail _ h)) ?_
 refine LdA.whole (r := nrow d) (by exact .head _) rfl ?_
 refine Ents.delS (ke := nK) (k := d) nK_eq nK_chk (ho.ent _ m hm) hmem fun es' he => ⟨_, .tail (.tail ((mbl_upd (l' := mdel m.l d) hm).prepend Cs)), ?_⟩
 exact ⟨.cons (.cons .left), FnR.mk .tail ⟨rfl, vs, Cs, _, rfl, by rw [mbl_set_b hm]; exact hs; rfl, ho.del hm he⟩⟩
theorem UOk.start (n : Nat) (bs : List Nat) (h : bs.length = n) : UOk (bs.map fun b => ⟨b, #[], 0, []⟩) n (fun _ => none) where
 len := by simpa using h
 ent := fun v m hm => by
  rw [List.getElem?_map] at hm
  obtain ⟨b, _, rfl⟩ := Option.map_eq_some_iff.1 hm
  exact Ents.empty
 var := fun v m hm x hx => by
  rw [List.getElem?_map] at hm
  obtain ⟨b, _, rfl⟩ := Option.map_eq_some_iff.1 hm
  simp at hx
 T := fun d => by
  rw [List.getElem?_map]
  cases bs[d.v]? <;> simp [mget]
theorem flat_rep (x : Value) : ∀ n : Nat, (List.replicate n [x]).flatten = List.replicate n x
 | 0 => rfl
 | n + 1 => by rw [List.replicate_succ, List.flatten_cons, List.replicate_succ, flat_rep x n]; rfl
theorem unew_ok {n : Nat} (hn : 1 ≤ n ∧ n ≤ 64) : Fc Tryz.prog 44 #[.int .i64 (n : Int)] [] (fun v H => ∃ pt, v = .tuple #[ptr pt, .int .i64 0] ∧ UtRep pt n (fun _ => none) H) := by
 intro g
 refine L44_sound (R := FnR _) ?_
 unfold L44
 refine Bin.lss ?_
 rw [decide_eq_false (by omega)]
 refine Grp.or false (fun _ => Bin.gtr ⟨rfl, by rw [decide_eq_false (by omega)]⟩) rfl fun _ => Br.no ?_
 refine ⟨.i64, .i64, n, n, rfl, rfl, Nat.le_refl _, by omega, by omega, ?_⟩
 intro bs _
 refine Build.mk (cs := [.slice (some ⟨bs, 0, none⟩) n n]) (by kernel_rfl) ?_
 intro pt _
 have hz : madeCells (Value.cells (.map none)) (n * 1) = rows ((List.replicate n [Value.map none]) ++ []) := by
  apply Array.ext'
  apply List.ext_getElem?
  intro i
  have := flat_rep (.map none) n
  simp only [madeCells, rows, Value.cells, Array.toList_map, Array.toList_range, List.getElem?_map, List.toList_toArray, Nat.mul_one, List.append_nil]
  rw [this, List.getElem?_replicate]
  by_cases hi : i < n
  ·simp [hi, Nat.mod_one]
  ·simp [hi]
 rw [hz]
 have hs0 : SOwn 147 1 (.slice (some ⟨bs, 0, none⟩) n n) (List.replicate n [Value.map none]) [(bs, .cells (rows ((List.replicate n [Value.map none]) ++ [])) 147 (0, 0))] :=
  SOwn.mk' (fun r hr => by rw [List.append_nil] at hr; rw [List.eq_of_mem_replicate hr]; rfl) (by simp) (by simp)
 refine ⟨fun vs H => ∃ (j : Nat) (bl : List Nat) (Cs : Hp), vs = [.int .i64 (j : Int)] ∧ bl.length = j ∧ j ≤ n ∧ H = (pt, .cells #[.slice (some ⟨bs, 0, none⟩) n n] 146 (0, 0)) :: (Cs ++ mbl (bl.map fun b => ⟨b, #[], 0, []⟩)) ∧
  SOwn 147 1 (.slice (some ⟨bs, 0, none⟩) n n) ((bl.map fun b => [Value.map (some b)]) ++ List.replicate (n - j) [Value.map none]) Cs, fun vs _ => n - nAt vs 0, JE.mk ⟨0, [], _, rfl, rfl, by omega, by simp only [mbl, List.map_nil, List.append_nil]; rfl, by simpa using hs0⟩, ?_⟩
 rintro w H ⟨j, bl, Cs, hw, hbl, hj, rfl, hs⟩ gs
 simp only [List.cons.injEq, and_true] at hw
 subst hw
 refine Bin.ltN (Br.dec (fun hlt => ?_) (fun hlt => ?_))
 ·refine Nil.ptr ?_
  refine FAddr.mk (Ld.mk (by exact .head _) rfl ?_)
  intro b _
  have hlen : ((bl.map fun b => [Value.map (some b)]) ++ List.replicate (n - j) [Value.map none]).length = n := by simp; omega
  refine SOwn.put1 (A := [_, _]) (B := mbl (bl.map fun b => ⟨b, #[], 0, []⟩)) hs (i := j) (y := .map none) (by omega) ?_ rfl fun C' hs' => ?_
  ·rw [List.getElem?_append_right (by simp [hbl])]
   simp only [List.length_map, hbl, Nat.sub_self]
   rw [List.getElem?_replicate, if_pos (by omega)]
  refine Bin.addN (b := 1) (by simp [lim]; omega) ?_
  have e : ((bl.map fun b => [Value.map (some b)]) ++ List.replicate (n - j) [Value.map none]).set j [Value.map (some b)] = ((bl ++ [b]).map fun b => [Value.map (some b)]) ++ List.replicate (n - (j + 1)) [Value.map none] := by
   rw [List.set_append_right _ _ (by simp [hbl])]
   simp only [List.length_map, hbl, Nat.sub_self]
   rw [show n - j = (n - (j + 1)) + 1 by omega, List.replicate_succ, List.set_cons_zero, List.map_append]
   simp
  rw [e] at hs'
  refine Back.of ?_ ⟨j + 1, bl ++ [b], C', rfl, by simp [hbl], by omega, rfl, hs'⟩ (by show n - (((j + 1 : Nat) : Int).toNat) < n - (((j : Nat) : Int).toNat); omega)
  refine Ent.perm ?_
  simp only [List.cons_append, List.nil_append, mbl, List.map_append, List.map_map]
  refine (List.Perm.swap _ _ _).trans (.cons _ ?_)
  rw [← List.append_assoc]
  exact (List.perm_append_singleton _ _).symm
 ·obtain rfl : j = n := by omega
  refine FnR.here ⟨pt, rfl, _, Cs, _, rfl, ?_, UOk.start _ bl hbl⟩
  rw [Nat.sub_self] at hs
  simpa [List.map_map, Function.comp_def] using hs
theorem anew_ok {n : Nat} (hn : 2 ≤ n ∧ n ≤ 1048576) : Fc Tryz.prog 96 #[.int .i64 (n : Int)] [] (fun v H => ∃ pa, v = .tuple #[ptr pa, .int .i64 0] ∧ ArRep pa n 2 (fun _ => none) H) := by
 intro g
 refine L96_sound (R := FnR _) ?_
 unfold L96
 refine Bin.lss ?_
 rw [decide_eq_false (by omega)]
 refine Grp.or false (fun _ => Bin.gtr ⟨rfl, by rw [decide_eq_false (by omega)]⟩) rfl fun _ => Br.no ?_
 refine Build.mk (cs := [.int .i64 (n : Int), .slice none 0 0, .slice none 0 0, .int .i64 2]) (by kernel_rfl) ?_
 intro pa _
 refine ⟨fun vs H => ∃ (j : Nat) (vl : Value) (Cl : Hp), vs = [u32 j] ∧ j ≤ 2 ∧ H = (pa, .cells #[.int .i64 (n : Int), vl, .slice none 0 0, .int .i64 2] 159 (0, 0)) :: Cl ∧
  SOwn 197 5 vl ((List.range j).map fun r => (Plc.mk (-1) r r true 255).row) Cl, fun vs _ => 2 - nAt vs 0, JE.mk ⟨0, _, [], rfl, by omega, rfl, SOwn.nil _ _⟩, ?_⟩
 rintro w H ⟨j, vl, Cl, hw, hj, rfl, hs⟩ gs
 simp only [List.cons.injEq, and_true] at hw
 subst hw
 refine Bin.ltN (b := 2) (Br.dec (fun hlt => ?_) (fun hlt => ?_))
 ·refine Nil.ptr ?_
  refine FAddr.mk (Ld.mk (by exact .head _) rfl ?_)
  refine Build.mk (cs := [.int .i64 (-1), u32 j, u32 j]) (by kernel_rfl) ?_
  refine Build.mk (cs := (Plc.mk (-1) j j true 255).row) (by kernel_rfl) ?_
  refine BuildSl.one (z := .agg #[.int .i64 0, .int .u32 0, .int .u32 0, .bool false, .int .u8 0]) (e := 197) (k := 5) (by kernel_rfl) (by kernel_rfl) (by kernel_rfl) (by decide) rfl fun bx => ?_
  have e1 : ∀ x y : Nat × Obj, x :: y :: Cl = [x, y] ++ (Cl ++ []) := fun x y => by simp
  rw [e1]
  refine hs.app' (A := [_, _]) (B := []) (r := (Plc.mk (-1) j j true 255).row) (by exact .head _) rfl (row_one _) (by exact ⟨[.int .i64 0, .int .u32 0, .int .u32 0, .bool false, .int .u8 0], rfl, rfl⟩) (by simp; omega) (by simp; omega) fun v' C' hs' => ?_
  simp only [List.cons_append, List.nil_append, List.append_nil]
  have hone : v'.oneCell' = true := by obtain ⟨a, c, e⟩ := hs'.len; rw [e]; rfl
  refine Nil.ptr (FAddr.mk ?_)
  refine St.one (by exact .tail (.head _)) hone (by simp) rfl ?_
  refine Bin.addN (b := 1) (by simp [lim]; omega) ?_
  refine Back.of .tail ⟨j + 1, v', C', rfl, by omega, rfl, ?_⟩ (by show 2 - (((j + 1 : Nat) : Int).toNat) < 2 - (((j : Nat) : Int).toNat); omega)
  rw [List.range_succ, List.map_append]; exact hs'
 ·obtain rfl : j = 2 := by omega
  refine FnR.here ⟨pa, rfl, vl, _, [⟨-1, 0, 0, true, 255⟩, ⟨-1, 1, 1, true, 255⟩], [], Cl, [], by rw [List.append_nil]; rfl, hs, IOwn.nil, ?_⟩
  exact {
   cap := by simp; omega
   two := by simp
   const := fun r hr => by
    have : r = 0 ∨ r = 1 := by omega
    rcases this with rfl | rfl
    ·exact ⟨_, rfl, rfl, rfl, rfl, rfl⟩
    ·exact ⟨_, rfl, rfl, rfl, rfl, rfl⟩
   nd := fun r hr => by rw [List.getElem?_eq_none (by simp; omega)]; rfl
   n0 := fun _ _ => rfl
   nn := fun r p hr hp _ => by rw [List.getElem?_eq_none (by simp; omega)] at hp; cases hp
   frn := by simp
   frm := fun r => by
    simp only [List.not_mem_nil, false_iff, not_exists, not_and]
    intro p hp
    have hlt := (List.getElem?_eq_some_iff.1 hp).1
    simp at hlt
    have : r = 0 ∨ r = 1 := by omega
    rcases this with rfl | rfl <;> (simp at hp; subst hp; simp)
   used := rfl }
end Go.Proofs
