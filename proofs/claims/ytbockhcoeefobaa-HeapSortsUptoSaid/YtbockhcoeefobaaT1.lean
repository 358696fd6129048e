/- listings, by program -/
import Derived.Test.YtbockhcoeefobaaSxI
import Derived.Test.YtbockhcoeefobaaProg
set_option maxRecDepth 100000
set_option linter.unusedVariables false
namespace Go.Proofs
open Go Go.Sx
/-- thicket.thicketlaw03.HeapSorts -/
def L3 (g : World) (a0 a1 a2 : Value) (H : Hp) (R : Ending → Hp → Prop) : Prop :=
CallF Try.prog g 8 #[] H (fun v1 H2 =>
CallF Try.prog g 9 #[] H2 (fun v3 H4 =>
Un .not v3 fun v5 =>
Grp v5 false (fun t6 =>
Bin .ptr .eql v1 (.pointer none) fun v7 =>
(H4 = H4 ∧ v7 = Value.bool t6)) (fun t6 => (Value.bool true) = Value.bool t6) fun t6 => ∀ gs8 : Fr,
Br (Value.bool t6) (
R (.returned (Value.bool false)) H4) (
LenS a0 fun v9 =>
∃ (I10 : List Value → Hp → Prop) (m11 : List Value → Hp → Nat), JE I10 [(.slice none 0 0), (.slice none 0 0), (Value.int .i64 0)] H4 ∧ ∀ w14 w15 w16 : Value, ∀ H13 : Hp, I10 [w14, w15, w16] H13 → ∀ gs12 : Fr,
Bin .num .lss w16 v9 fun v17 =>
Br v17 (
∀ J18 : List Value → Hp → Prop, (∀ w21 w22 : Value, ∀ H20 : Hp, (∀ gs19 : Fr,
Bin .num .add w16 (Value.int .i64 1) fun v23 =>
Back I10 m11 [w21, w22, v23] H20 [w14, w15, w16] H13) → J18 [w21, w22] H20) →
IAddr 1 a0 w16 fun v24 =>
Ld H13 v24 fun v25 =>
∀ J26 : List Value → Hp → Prop, (∀ w29 : Value, ∀ H28 : Hp, (∀ gs27 : Fr,
CallF Try.prog g 10 #[v1, v25, w29] H28 (fun v30 H31 =>
CallF Try.prog g 11 #[w14, v25] H31 (fun v32 H33 =>
Bin .num .eql v30 (Value.int .i64 0) fun v34 =>
Bin .num .lss v32 (Value.int .i64 0) fun v35 =>
Bin .bool .neq v34 v35 fun v36 =>
Grp v36 false (fun t37 =>
Bin .num .neq v30 (Value.int .i64 0) fun v38 =>
Grp v38 true (fun t39 =>
Bin .num .neq v30 (Value.int .i64 11) fun v40 =>
(H33 = H33 ∧ v40 = Value.bool t39)) (fun t39 => (Value.bool false) = Value.bool t39) fun t39 => ∀ gs41 : Fr,
(H33 = H33 ∧ (Value.bool t39) = Value.bool t37)) (fun t37 => (Value.bool true) = Value.bool t37) fun t37 => ∀ gs42 : Fr,
Br (Value.bool t37) (
R (.returned (Value.bool false)) H33) (
Bin .num .lss v32 (Value.int .i64 0) fun v43 =>
Br v43 (
BuildSl Try.prog 22 1 [(0, v25)] H33 fun v44 H45 =>
App Try.prog 26 1 8 (Value.int .u64 0) H45 w14 v44 fun v48 H49 =>
BuildSl Try.prog 23 1 [(0, w29)] H49 fun v50 H51 =>
App Try.prog 2 1 8 (Value.int .i64 0) H51 w15 v50 fun v54 H55 =>
JE J18 [v48, v54] H55) (
JE J18 [w14, w15] H33))) (PanR R)) (PanR R)) → J26 [w29] H28) →
LenS a1 fun v56 =>
Bin .num .lss w16 v56 fun v57 =>
Br v57 (
IAddr 1 a1 w16 fun v58 =>
Ld H13 v58 fun v59 =>
JE J26 [v59] H13) (
JE J26 [(Value.int .i64 0)] H13)) (
LenS a2 fun v60 =>
∃ (I61 : List Value → Hp → Prop) (m62 : List Value → Hp → Nat), JE I61 [(Value.int .i64 0)] H13 ∧ ∀ w65 : Value, ∀ H64 : Hp, I61 [w65] H64 → ∀ gs63 : Fr,
Bin .num .lss w65 v60 fun v66 =>
Br v66 (
∀ J67 : List Value → Hp → Prop, (∀ H69 : Hp, (∀ gs68 : Fr,
Bin .num .add w65 (Value.int .i64 1) fun v70 =>
Back I61 m62 [v70] H69 [w65] H64) → J67 [] H69) →
IAddr 1 a2 w65 fun v71 =>
Ld H64 v71 fun v72 =>
LenS w14 fun v73 =>
Bin .num .lss w65 v73 fun v74 =>
Br v74 (
IAddr 1 w14 w65 fun v75 =>
Ld H64 v75 fun v76 =>
CallF Try.prog g 12 #[v1, v76, v72] H64 (fun v77 H78 =>
Bin .num .neq v77 (Value.int .i64 0) fun v79 =>
Br v79 (
R (.returned (Value.bool false)) H78) (
IAddr 1 w15 w65 fun v80 =>
St 1 H78 v80 v72 fun H81 =>
JE J67 [] H81)) (PanR R)) (
JE J67 [] H64)) (
LenS w14 fun v82 =>
∃ (I83 : List Value → Hp → Prop) (m84 : List Value → Hp → Nat), JE I83 [(Value.int .u64 0), (Value.int .i64 0), (Value.int .i64 0)] H64 ∧ ∀ w87 w88 w89 : Value, ∀ H86 : Hp, I83 [w87, w88, w89] H86 → ∀ gs85 : Fr,
Bin .num .lss w89 v82 fun v90 =>
Br v90 (
CallF Try.prog g 13 #[v1] H86 (fun v91 H92 =>
Ext 0 v91 fun v93 =>
Ext 1 v91 fun v94 =>
Ext 2 v91 fun v95 =>
CallF Try.prog g 11 #[w14, v93] H92 (fun v96 H97 =>
∀ J98 : List Value → Hp → Prop, (∀ w101 : Value, ∀ H100 : Hp, (∀ gs99 : Fr,
Br w101 (
R (.returned (Value.bool false)) H100) (
Bin .num .add w89 (Value.int .i64 1) fun v102 =>
Back I83 m84 [v93, v94, v102] H100 [w87, w88, w89] H86)) → J98 [w101] H100) →
Bin .num .neq v95 (Value.int .i64 0) fun v103 =>
Split v103 false (
Bin .num .lss v96 (Value.int .i64 0) fun v104 =>
Pick (Value.bool false) (Value.bool true) v104 fun v105 =>
Split v105 false (
IAddr 1 w15 v96 fun v106 =>
Ld H97 v106 fun v107 =>
Bin .num .neq v107 v94 fun v108 =>
Pick (Value.bool false) (Value.bool true) v108 fun v109 =>
Split v109 false (
Bin .num .gtr w89 (Value.int .i64 0) fun v110 =>
Split v110 true (
Bin .num .lss v94 w88 fun v111 =>
Split v111 false (
Bin .num .eql v94 w88 fun v112 =>
Split v112 true (
Bin .num .leq v93 w87 fun v113 =>
Pick (Value.bool true) v113 (Value.bool false) fun v114 =>
Pick (Value.bool false) (Value.bool true) v114 fun v115 =>
Pick (Value.bool true) v115 (Value.bool false) fun v116 =>
Pick (Value.bool false) (Value.bool true) v116 fun v117 =>
Split v117 false (
CallF Try.prog g 14 #[v1] H97 (fun v118 H119 =>
LenS w14 fun v120 =>
Bin .num .sub v120 (Value.int .i64 1) fun v121 =>
Bin .num .sub v121 w89 fun v122 =>
Bin .num .neq v118 v122 fun v123 =>
Pick (Value.bool false) (Value.bool true) v123 fun v124 =>
JE J98 [v124] H119) (PanR R)) (
Pick (Value.bool true) (Value.bool true) undef fun v125 =>
JE J98 [v125] H97)) (
Pick (Value.bool false) undef (Value.bool false) fun v126 =>
Pick (Value.bool false) (Value.bool true) v126 fun v127 =>
Pick (Value.bool true) v127 (Value.bool false) fun v128 =>
Pick (Value.bool false) (Value.bool true) v128 fun v129 =>
CallF Try.prog g 14 #[v1] H97 (fun v130 H131 =>
LenS w14 fun v132 =>
Bin .num .sub v132 (Value.int .i64 1) fun v133 =>
Bin .num .sub v133 w89 fun v134 =>
Bin .num .neq v130 v134 fun v135 =>
Pick v129 (Value.bool true) v135 fun v136 =>
JE J98 [v136] H131) (PanR R))) (
Pick (Value.bool true) (Value.bool true) undef fun v137 =>
Pick (Value.bool true) v137 (Value.bool false) fun v138 =>
Pick (Value.bool false) (Value.bool true) v138 fun v139 =>
Pick v139 (Value.bool true) undef fun v140 =>
JE J98 [v140] H97)) (
Pick (Value.bool false) undef (Value.bool false) fun v141 =>
Pick (Value.bool false) (Value.bool true) v141 fun v142 =>
CallF Try.prog g 14 #[v1] H97 (fun v143 H144 =>
LenS w14 fun v145 =>
Bin .num .sub v145 (Value.int .i64 1) fun v146 =>
Bin .num .sub v146 w89 fun v147 =>
Bin .num .neq v143 v147 fun v148 =>
Pick v142 (Value.bool true) v148 fun v149 =>
JE J98 [v149] H144) (PanR R))) (
Pick (Value.bool true) (Value.bool true) undef fun v150 =>
Pick v150 (Value.bool true) undef fun v151 =>
JE J98 [v151] H97)) (
Pick (Value.bool true) (Value.bool true) undef fun v152 =>
Pick v152 (Value.bool true) undef fun v153 =>
Pick v153 (Value.bool true) undef fun v154 =>
JE J98 [v154] H97)) (
Pick (Value.bool true) (Value.bool true) undef fun v155 =>
Pick v155 (Value.bool true) undef fun v156 =>
Pick v156 (Value.bool true) undef fun v157 =>
Pick v157 (Value.bool true) undef fun v158 =>
JE J98 [v158] H97)) (PanR R)) (PanR R)) (
CallF Try.prog g 13 #[v1] H86 (fun v159 H160 =>
Ext 0 v159 fun v161 =>
Ext 1 v159 fun v162 =>
Ext 2 v159 fun v163 =>
∀ J164 : List Value → Hp → Prop, (∀ w167 : Value, ∀ H166 : Hp, (∀ gs165 : Fr,
R (.returned w167) H166) → J164 [w167] H166) →
Bin .num .eql v163 (Value.int .i64 10) fun v168 =>
Split v168 true (
CallF Try.prog g 14 #[v1] H160 (fun v169 H170 =>
Bin .num .eql v169 (Value.int .i64 0) fun v171 =>
Pick (Value.bool true) v171 (Value.bool false) fun v172 =>
JE J164 [v172] H170) (PanR R)) (
Pick (Value.bool false) undef (Value.bool false) fun v173 =>
JE J164 [v173] H160)) (PanR R)))))) (PanR R)) (PanR R)
theorem L3_eq (g : World) (a0 a1 a2 : Value) (H : Hp) (R : Ending → Hp → Prop) : denF Try.prog g Try.f3 (.h 0 [] [] .e (.h 0 [] [] .e (.h 0 [] [] (.h 0 [] [] (.h 0 [] [1] .e .e) .e) (.h 0 [] [] .e (.h 0 [] [] .e (.h 0 [] [] (.h 0 [] [] .e (.h 0 [] [] (.h 0 [8, 9, 36] [1, 2, 7, 34, 35] (.h 0 [] [] .e (.h 0 [] [] .e (.h 1 [8, 9] [1, 2, 7, 34, 35, 36] (.h 0 [] [] (.h 0 [] [] .e (.h 0 [] [] .e (.h 1 [12] [1, 2, 7, 8, 9, 11, 34, 35, 36] .e (.h 0 [] [] .e (.h 0 [] [] .e (.h 0 [] [] (.h 0 [] [] (.h 0 [] [1] .e .e) .e) .e)))))) .e) .e))) .e) .e)) (.h 0 [] [] (.h 0 [] [] .e (.h 0 [] [] (.h 0 [82] [7, 8, 9, 80, 81] (.h 0 [] [] .e (.h 0 [] [] .e (.h 1 [] [7, 8, 9, 80, 81, 82] .e .e))) .e) .e)) (.h 0 [] [] .e (.h 0 [] [] (.h 0 [] [] .e (.h 0 [] [] (.h 0 [17, 18, 106] [7, 8, 9, 105] (.h 0 [] [] .e (.h 0 [] [] .e (.h 0 [] [] (.h 0 [] [] (.h 0 [] [] .e (.h 0 [] [] .e (.h 0 [] [] .e (.h 0 [] [] (.h 1 [160] [7, 8, 9, 20, 21, 105, 106] .e .e) .e)))) .e) .e))) .e) .e)) (.h 0 [] [] .e (.h 1 [6] [] .e .e))))))))))) [a0, a1, a2] H R = L3 g a0 a1 a2 H R := by kernel_rfl
theorem L3_sound {g : World} {a0 a1 a2 : Value} {H : Hp} {R : Ending → Hp → Prop} (h : L3 g a0 a1 a2 H R) : SCalls Try.prog g 3 #[a0, a1, a2] H R :=
  denF_sound (fn := Try.f3) (hn := (.h 0 [] [] .e (.h 0 [] [] .e (.h 0 [] [] (.h 0 [] [] (.h 0 [] [1] .e .e) .e) (.h 0 [] [] .e (.h 0 [] [] .e (.h 0 [] [] (.h 0 [] [] .e (.h 0 [] [] (.h 0 [8, 9, 36] [1, 2, 7, 34, 35] (.h 0 [] [] .e (.h 0 [] [] .e (.h 1 [8, 9] [1, 2, 7, 34, 35, 36] (.h 0 [] [] (.h 0 [] [] .e (.h 0 [] [] .e (.h 1 [12] [1, 2, 7, 8, 9, 11, 34, 35, 36] .e (.h 0 [] [] .e (.h 0 [] [] .e (.h 0 [] [] (.h 0 [] [] (.h 0 [] [1] .e .e) .e) .e)))))) .e) .e))) .e) .e)) (.h 0 [] [] (.h 0 [] [] .e (.h 0 [] [] (.h 0 [82] [7, 8, 9, 80, 81] (.h 0 [] [] .e (.h 0 [] [] .e (.h 1 [] [7, 8, 9, 80, 81, 82] .e .e))) .e) .e)) (.h 0 [] [] .e (.h 0 [] [] (.h 0 [] [] .e (.h 0 [] [] (.h 0 [17, 18, 106] [7, 8, 9, 105] (.h 0 [] [] .e (.h 0 [] [] .e (.h 0 [] [] (.h 0 [] [] (.h 0 [] [] .e (.h 0 [] [] .e (.h 0 [] [] .e (.h 0 [] [] (.h 1 [160] [7, 8, 9, 20, 21, 105, 106] .e .e) .e)))) .e) .e))) .e) .e)) (.h 0 [] [] .e (.h 1 [6] [] .e .e)))))))))))) Try.func3 (by rw [L3_eq]; exact h)
/-- thicket.thicketlaw03.HeapPlays -/
def L4 (g : World) (a0 a1 : Value) (H : Hp) (R : Ending → Hp → Prop) : Prop :=
CallF Try.prog g 9 #[] H (fun v1 H2 =>
Un .not v1 fun v3 =>
Br v3 (
R (.returned (Value.bool false)) H2) (
CallF Try.prog g 15 #[] H2 (fun v4 H5 =>
∀ J6 : List Value → Hp → Prop, (∀ w9 : Value, ∀ H8 : Hp, (∀ gs7 : Fr,
Bin .ptr .eql w9 (.pointer none) fun v10 =>
Br v10 (
R (.returned (Value.bool false)) H8) (
Build Try.prog 46 [] fun v11 =>
New H8 (.cells (Value.cells v11) 46 (0, 0)) fun b12 H13 =>
LenS a1 fun v14 =>
∃ (I15 : List Value → Hp → Prop) (m16 : List Value → Hp → Nat), JE I15 [(Value.int .i64 0)] H13 ∧ ∀ w19 : Value, ∀ H18 : Hp, I15 [w19] H18 → ∀ gs17 : Fr,
Bin .num .lss w19 v14 fun v20 =>
Br v20 (
IAddr 4 a1 w19 fun v21 =>
LdA 4 H18 v21 fun v22 =>
New H18 (.cells #[(Value.int .i64 0), (Value.int .u64 0), (Value.bool false), (Value.int .i64 0)] 48 (0, 0)) fun b23 H24 =>
St 4 H24 (.pointer (some ⟨b23, 0, none⟩)) v22 fun H25 =>
LdA 4 H25 (.pointer (some ⟨b23, 0, none⟩)) fun v26 =>
CallF Try.prog g 16 #[w9, (.pointer (some ⟨b12, 0, none⟩)), v26] H25 (fun v27 H28 =>
Un .not v27 fun v29 =>
Br v29 (
R (.returned (Value.bool false)) H28) (
Bin .num .add w19 (Value.int .i64 1) fun v30 =>
Back I15 m16 [v30] H28 [w19] H18)) (PanR R)) (
R (.returned (Value.bool true)) H18))) → J6 [w9] H8) →
Br a0 (
Build Try.prog 42 [] fun v31 =>
New H5 (.cells (Value.cells v31) 42 (0, 0)) fun b32 H33 =>
JE J6 [(.pointer (some ⟨b32, 0, none⟩))] H33) (
JE J6 [v4] H5)) (PanR R))) (PanR R)
theorem L4_eq (g : World) (a0 a1 : Value) (H : Hp) (R : Ending → Hp → Prop) : denF Try.prog g Try.f4 (.h 0 [] [] .e (.h 0 [] [] .e (.h 0 [] [] .e (.h 1 [5] [1] .e (.h 0 [] [] .e (.h 0 [] [] .e (.h 0 [] [] (.h 0 [] [] .e (.h 0 [] [] (.h 0 [21] [5, 6, 19, 20] .e .e) .e)) .e))))))) [a0, a1] H R = L4 g a0 a1 H R := by kernel_rfl
theorem L4_sound {g : World} {a0 a1 : Value} {H : Hp} {R : Ending → Hp → Prop} (h : L4 g a0 a1 H R) : SCalls Try.prog g 4 #[a0, a1] H R :=
  denF_sound (fn := Try.f4) (hn := (.h 0 [] [] .e (.h 0 [] [] .e (.h 0 [] [] .e (.h 1 [5] [1] .e (.h 0 [] [] .e (.h 0 [] [] .e (.h 0 [] [] (.h 0 [] [] .e (.h 0 [] [] (.h 0 [21] [5, 6, 19, 20] .e .e) .e)) .e)))))))) Try.func4 (by rw [L4_eq]; exact h)
/-- thicket.thicketlaw03.HeapWords -/
def L5 (g : World) (a0 : Value) (H : Hp) (R : Ending → Hp → Prop) : Prop :=
CallF Try.prog g 8 #[] H (fun v1 H2 =>
CallF Try.prog g 9 #[] H2 (fun v3 H4 =>
Un .not v3 fun v5 =>
Grp v5 false (fun t6 =>
Bin .ptr .eql v1 (.pointer none) fun v7 =>
(H4 = H4 ∧ v7 = Value.bool t6)) (fun t6 => (Value.bool true) = Value.bool t6) fun t6 => ∀ gs8 : Fr,
Br (Value.bool t6) (
R (.returned (Value.bool false)) H4) (
Build Try.prog 46 [] fun v9 =>
New H4 (.cells (Value.cells v9) 46 (0, 0)) fun b10 H11 =>
LenS a0 fun v12 =>
∃ (I13 : List Value → Hp → Prop) (m14 : List Value → Hp → Nat), JE I13 [(Value.int .i64 0)] H11 ∧ ∀ w17 : Value, ∀ H16 : Hp, I13 [w17] H16 → ∀ gs15 : Fr,
Bin .num .lss w17 v12 fun v18 =>
Br v18 (
IAddr 4 a0 w17 fun v19 =>
LdA 4 H16 v19 fun v20 =>
New H16 (.cells #[(Value.int .i64 0), (Value.int .u64 0), (Value.bool false), (Value.int .i64 0)] 48 (0, 0)) fun b21 H22 =>
St 4 H22 (.pointer (some ⟨b21, 0, none⟩)) v20 fun H23 =>
FAddr 1 (.pointer (some ⟨b21, 0, none⟩)) fun v24 =>
Ld H23 v24 fun v25 =>
FAddr 3 (.pointer (some ⟨b21, 0, none⟩)) fun v26 =>
Ld H23 v26 fun v27 =>
Build Try.prog 52 [(0, v25), (2, v27)] fun v28 =>
New H23 (.cells #[(Value.int .u64 0), (Value.bool false), (Value.int .i64 0)] 52 (0, 0)) fun b29 H30 =>
St 3 H30 (.pointer (some ⟨b29, 0, none⟩)) v28 fun H31 =>
∀ J32 : List Value → Hp → Prop, (∀ H34 : Hp, (∀ gs33 : Fr,
DR H34 fun R35 =>
Nil (.pointer (some ⟨b10, 0, none⟩)) fun v36 =>
FAddr 0 v36 fun v37 =>
Ld R35 v37 fun v38 =>
LenS v38 fun v39 =>
CallF Try.prog g 14 #[v1] H34 (fun v40 H41 =>
Ent H41 R35 ∧
Bin .num .neq v40 v39 fun v42 =>
Br v42 (
R (.returned (Value.bool false)) H41) (
Bin .num .add w17 (Value.int .i64 1) fun v43 =>
Back I13 m14 [v43] H41 [w17] H16)) NoKP) → J32 [] H34) →
FAddr 0 (.pointer (some ⟨b21, 0, none⟩)) fun v44 =>
Ld H31 v44 fun v45 =>
Bin .num .eql v45 (Value.int .i64 1) fun v46 =>
Br v46 (
DR H31 fun R47 =>
FAddr 1 (.pointer (some ⟨b21, 0, none⟩)) fun v48 =>
Ld R47 v48 fun v49 =>
FAddr 3 (.pointer (some ⟨b21, 0, none⟩)) fun v50 =>
Ld R47 v50 fun v51 =>
LdA 3 R47 (.pointer (some ⟨b29, 0, none⟩)) fun v52 =>
CallF Try.prog g 10 #[v1, v49, v51] H31 (fun v53 H54 =>
Ent H54 R47 ∧
CallF Try.prog g 17 #[(.pointer (some ⟨b10, 0, none⟩)), v52] H54 (fun v55 H56 =>
Ent H56 R47 ∧
Bin .num .neq v53 v55 fun v57 =>
Br v57 (
R (.returned (Value.bool false)) H56) (
JE J32 [] H56)) NoKP) NoKP) (
Bin .num .eql v45 (Value.int .i64 2) fun v58 =>
Br v58 (
CallF Try.prog g 13 #[v1] H31 (fun v59 H60 =>
Ext 0 v59 fun v61 =>
Ext 1 v59 fun v62 =>
Ext 2 v59 fun v63 =>
CallF Try.prog g 18 #[(.pointer (some ⟨b10, 0, none⟩))] H60 (fun v64 H65 =>
Ext 0 v64 fun v66 =>
Ext 1 v64 fun v67 =>
New H65 (.cells #[(Value.int .u64 0), (Value.bool false), (Value.int .i64 0)] 52 (0, 0)) fun b68 H69 =>
St 3 H69 (.pointer (some ⟨b68, 0, none⟩)) v66 fun H70 =>
Bin .num .neq v63 v67 fun v71 =>
Grp v71 false (fun t72 =>
FAddr 0 (.pointer (some ⟨b68, 0, none⟩)) fun v73 =>
Ld H70 v73 fun v74 =>
Bin .num .neq v74 v61 fun v75 =>
(H70 = H70 ∧ v75 = Value.bool t72)) (fun t72 => (Value.bool true) = Value.bool t72) fun t72 => ∀ gs76 : Fr,
Grp (Value.bool t72) false (fun t77 =>
FAddr 2 (.pointer (some ⟨b68, 0, none⟩)) fun v78 =>
Ld H70 v78 fun v79 =>
Bin .num .neq v79 v62 fun v80 =>
(H70 = H70 ∧ v80 = Value.bool t77)) (fun t77 => (Value.bool true) = Value.bool t77) fun t77 => ∀ gs81 : Fr,
Br (Value.bool t77) (
R (.returned (Value.bool false)) H70) (
JE J32 [] H70)) (PanR R)) (PanR R)) (
Bin .num .eql v45 (Value.int .i64 3) fun v82 =>
Br v82 (
DR H31 fun R83 =>
FAddr 1 (.pointer (some ⟨b21, 0, none⟩)) fun v84 =>
Ld R83 v84 fun v85 =>
FAddr 3 (.pointer (some ⟨b21, 0, none⟩)) fun v86 =>
Ld R83 v86 fun v87 =>
LdA 3 R83 (.pointer (some ⟨b29, 0, none⟩)) fun v88 =>
CallF Try.prog g 12 #[v1, v85, v87] H31 (fun v89 H90 =>
Ent H90 R83 ∧
CallF Try.prog g 19 #[(.pointer (some ⟨b10, 0, none⟩)), v88] H90 (fun v91 H92 =>
Ent H92 R83 ∧
Bin .num .neq v89 v91 fun v93 =>
Br v93 (
R (.returned (Value.bool false)) H92) (
JE J32 [] H92)) NoKP) NoKP) (
Bin .num .eql v45 (Value.int .i64 4) fun v94 =>
Br v94 (
FAddr 1 (.pointer (some ⟨b21, 0, none⟩)) fun v95 =>
Ld H31 v95 fun v96 =>
CallF Try.prog g 20 #[v1, v96] H31 (fun v97 H98 =>
Ext 0 v97 fun v99 =>
Ext 1 v97 fun v100 =>
LdA 3 H98 (.pointer (some ⟨b29, 0, none⟩)) fun v101 =>
CallF Try.prog g 21 #[(.pointer (some ⟨b10, 0, none⟩)), v101] H98 (fun v102 H103 =>
Ext 0 v102 fun v104 =>
Ext 1 v102 fun v105 =>
Bin .num .neq v99 v104 fun v106 =>
Grp v106 false (fun t107 =>
Bin .num .neq v100 v105 fun v108 =>
(H103 = H103 ∧ v108 = Value.bool t107)) (fun t107 => (Value.bool true) = Value.bool t107) fun t107 => ∀ gs109 : Fr,
Br (Value.bool t107) (
R (.returned (Value.bool false)) H103) (
JE J32 [] H103)) (PanR R)) (PanR R)) (
JE J32 [] H31))))) (
R (.returned (Value.bool true)) H16))) (PanR R)) (PanR R)
theorem L5_eq (g : World) (a0 : Value) (H : Hp) (R : Ending → Hp → Prop) : denF Try.prog g Try.f5 (.h 0 [] [] .e (.h 0 [] [] .e (.h 0 [] [] (.h 0 [] [] (.h 0 [] [1] .e .e) .e) (.h 0 [] [] .e (.h 0 [] [] (.h 0 [] [] .e (.h 0 [] [] (.h 0 [28] [3, 4, 26, 27] (.h 0 [] [] .e (.h 0 [] [] .e (.h 0 [] [] (.h 0 [] [] (.h 0 [] [] .e (.h 0 [] [] .e (.h 1 [] [3, 4, 26, 27, 28] (.h 0 [] [] .e (.h 0 [] [] (.h 0 [] [] .e (.h 0 [] [] (.h 0 [] [] (.h 0 [0, 1, 2, 3, 4, 6, 7, 5, 8, 9] [] .e .e) .e) (.h 0 [] [] .e (.h 0 [] [] (.h 0 [] [] .e (.h 0 [] [] .e (.h 0 [] [] (.h 0 [] [1] .e .e) .e))) (.h 0 [] [] .e (.h 0 [] [] (.h 0 [] [] (.h 0 [0, 1, 2, 3, 4, 6, 7, 5, 8, 9] [] .e .e) .e) (.h 0 [] [] .e (.h 0 [] [] (.h 0 [] [] .e (.h 0 [] [] .e (.h 0 [] [] (.h 0 [] [1] .e .e) .e))) .e)))))))) .e)) (.h 0 [] [] (.h 0 [0, 2, 3, 4, 5, 6, 1, 7] [] .e .e) .e)))) .e) .e))) .e) .e)) .e))))) [a0] H R = L5 g a0 H R := by kernel_rfl
theorem L5_sound {g : World} {a0 : Value} {H : Hp} {R : Ending → Hp → Prop} (h : L5 g a0 H R) : SCalls Try.prog g 5 #[a0] H R :=
  denF_sound (fn := Try.f5) (hn := (.h 0 [] [] .e (.h 0 [] [] .e (.h 0 [] [] (.h 0 [] [] (.h 0 [] [1] .e .e) .e) (.h 0 [] [] .e (.h 0 [] [] (.h 0 [] [] .e (.h 0 [] [] (.h 0 [28] [3, 4, 26, 27] (.h 0 [] [] .e (.h 0 [] [] .e (.h 0 [] [] (.h 0 [] [] (.h 0 [] [] .e (.h 0 [] [] .e (.h 1 [] [3, 4, 26, 27, 28] (.h 0 [] [] .e (.h 0 [] [] (.h 0 [] [] .e (.h 0 [] [] (.h 0 [] [] (.h 0 [0, 1, 2, 3, 4, 6, 7, 5, 8, 9] [] .e .e) .e) (.h 0 [] [] .e (.h 0 [] [] (.h 0 [] [] .e (.h 0 [] [] .e (.h 0 [] [] (.h 0 [] [1] .e .e) .e))) (.h 0 [] [] .e (.h 0 [] [] (.h 0 [] [] (.h 0 [0, 1, 2, 3, 4, 6, 7, 5, 8, 9] [] .e .e) .e) (.h 0 [] [] .e (.h 0 [] [] (.h 0 [] [] .e (.h 0 [] [] .e (.h 0 [] [] (.h 0 [] [1] .e .e) .e))) .e)))))))) .e)) (.h 0 [] [] (.h 0 [0, 2, 3, 4, 5, 6, 1, 7] [] .e .e) .e)))) .e) .e))) .e) .e)) .e)))))) Try.func5 (by rw [L5_eq]; exact h)
/-- thicket.thicketlaw03.HeapTwo -/
def L6 (g : World) (a0 a1 : Value) (H : Hp) (R : Ending → Hp → Prop) : Prop :=
CallF Try.prog g 9 #[] H (fun v1 H2 =>
Un .not v1 fun v3 =>
Br v3 (
R (.returned (Value.bool false)) H2) (
CallF Try.prog g 15 #[] H2 (fun v4 H5 =>
CallF Try.prog g 15 #[] H5 (fun v6 H7 =>
Build Try.prog 46 [] fun v8 =>
New H7 (.cells (Value.cells v8) 46 (0, 0)) fun b9 H10 =>
Build Try.prog 46 [] fun v11 =>
New H10 (.cells (Value.cells v11) 46 (0, 0)) fun b12 H13 =>
Bin .ptr .eql v4 (.pointer none) fun v14 =>
Grp v14 false (fun t15 =>
Bin .ptr .eql v6 (.pointer none) fun v16 =>
(H13 = H13 ∧ v16 = Value.bool t15)) (fun t15 => (Value.bool true) = Value.bool t15) fun t15 => ∀ gs17 : Fr,
Br (Value.bool t15) (
R (.returned (Value.bool false)) H13) (
∃ (I18 : List Value → Hp → Prop) (m19 : List Value → Hp → Nat), JE I18 [(Value.int .i64 0)] H13 ∧ ∀ w22 : Value, ∀ H21 : Hp, I18 [w22] H21 → ∀ gs20 : Fr,
LenS a0 fun v23 =>
Bin .num .lss w22 v23 fun v24 =>
Grp v24 false (fun t25 =>
LenS a1 fun v26 =>
Bin .num .lss w22 v26 fun v27 =>
(H21 = H21 ∧ v27 = Value.bool t25)) (fun t25 => (Value.bool true) = Value.bool t25) fun t25 => ∀ gs28 : Fr,
Br (Value.bool t25) (
∀ J29 : List Value → Hp → Prop, (∀ w32 : Value, ∀ H31 : Hp, (∀ gs30 : Fr,
Br w32 (
R (.returned (Value.bool false)) H31) (
Bin .num .add w22 (Value.int .i64 1) fun v33 =>
Back I18 m19 [v33] H31 [w22] H21)) → J29 [w32] H31) →
LenS a0 fun v34 =>
Bin .num .lss w22 v34 fun v35 =>
Split v35 true (
IAddr 4 a0 w22 fun v36 =>
LdA 4 H21 v36 fun v37 =>
CallF Try.prog g 16 #[v4, (.pointer (some ⟨b9, 0, none⟩)), v37] H21 (fun v38 H39 =>
Un .not v38 fun v40 =>
Pick (Value.bool true) v40 (Value.bool false) fun v41 =>
Split v41 false (
LenS a1 fun v42 =>
Bin .num .lss w22 v42 fun v43 =>
Split v43 true (
IAddr 4 a1 w22 fun v44 =>
LdA 4 H39 v44 fun v45 =>
CallF Try.prog g 16 #[v6, (.pointer (some ⟨b12, 0, none⟩)), v45] H39 (fun v46 H47 =>
Un .not v46 fun v48 =>
Pick (Value.bool true) v48 (Value.bool false) fun v49 =>
Pick (Value.bool false) (Value.bool true) v49 fun v50 =>
JE J29 [v50] H47) (PanR R)) (
Pick (Value.bool false) undef (Value.bool false) fun v51 =>
Pick (Value.bool false) (Value.bool true) v51 fun v52 =>
JE J29 [v52] H39)) (
Pick (Value.bool true) (Value.bool true) undef fun v53 =>
JE J29 [v53] H39)) (PanR R)) (
Pick (Value.bool false) undef (Value.bool false) fun v54 =>
LenS a1 fun v55 =>
Bin .num .lss w22 v55 fun v56 =>
Split v56 true (
IAddr 4 a1 w22 fun v57 =>
LdA 4 H21 v57 fun v58 =>
CallF Try.prog g 16 #[v6, (.pointer (some ⟨b12, 0, none⟩)), v58] H21 (fun v59 H60 =>
Un .not v59 fun v61 =>
Pick (Value.bool true) v61 (Value.bool false) fun v62 =>
Pick v54 (Value.bool true) v62 fun v63 =>
JE J29 [v63] H60) (PanR R)) (
Pick (Value.bool false) undef (Value.bool false) fun v64 =>
Pick v54 (Value.bool true) v64 fun v65 =>
JE J29 [v65] H21))) (
R (.returned (Value.bool true)) H21))) (PanR R)) (PanR R))) (PanR R)
theorem L6_eq (g : World) (a0 a1 : Value) (H : Hp) (R : Ending → Hp → Prop) : denF Try.prog g Try.f6 (.h 0 [] [] .e (.h 0 [] [] .e (.h 0 [] [] .e (.h 0 [] [] .e (.h 0 [] [] (.h 0 [] [] (.h 0 [] [1] .e .e) .e) (.h 0 [] [] (.h 0 [] [] .e (.h 0 [] [] (.h 0 [9] [0, 1, 5, 6, 7, 8] (.h 0 [] [] (.h 0 [] [] (.h 0 [] [1] .e .e) .e) (.h 0 [] [] (.h 0 [] [] (.h 1 [65] [0, 1, 5, 6, 7, 8, 9] .e .e) .e) .e)) .e) .e)) .e)))))) [a0, a1] H R = L6 g a0 a1 H R := by kernel_rfl
theorem L6_sound {g : World} {a0 a1 : Value} {H : Hp} {R : Ending → Hp → Prop} (h : L6 g a0 a1 H R) : SCalls Try.prog g 6 #[a0, a1] H R :=
  denF_sound (fn := Try.f6) (hn := (.h 0 [] [] .e (.h 0 [] [] .e (.h 0 [] [] .e (.h 0 [] [] .e (.h 0 [] [] (.h 0 [] [] (.h 0 [] [1] .e .e) .e) (.h 0 [] [] (.h 0 [] [] .e (.h 0 [] [] (.h 0 [9] [0, 1, 5, 6, 7, 8] (.h 0 [] [] (.h 0 [] [] (.h 0 [] [1] .e .e) .e) (.h 0 [] [] (.h 0 [] [] (.h 1 [65] [0, 1, 5, 6, 7, 8, 9] .e .e) .e) .e)) .e) .e)) .e))))))) Try.func6 (by rw [L6_eq]; exact h)
/-- thicket.thicketlaw03.HeapNil -/
def L7 (g : World) (a0 a1 a2 : Value) (H : Hp) (R : Ending → Hp → Prop) : Prop :=
CallF Try.prog g 22 #[(.pointer none)] H (fun v1 H2 =>
Ext 0 v1 fun v3 =>
Ext 1 v1 fun v4 =>
Ext 2 v1 fun v5 =>
CallF Try.prog g 13 #[(.pointer none)] H2 (fun v6 H7 =>
Ext 0 v6 fun v8 =>
Ext 1 v6 fun v9 =>
Ext 2 v6 fun v10 =>
CallF Try.prog g 23 #[(.pointer none), a0] H7 (fun v11 H12 =>
Ext 0 v11 fun v13 =>
Ext 1 v11 fun v14 =>
CallF Try.prog g 20 #[(.pointer none), a1] H12 (fun v15 H16 =>
Ext 0 v15 fun v17 =>
Ext 1 v15 fun v18 =>
Bin .num .neq v3 (Value.int .i64 0) fun v19 =>
Grp v19 false (fun t20 =>
Bin .num .neq v4 (Value.int .i64 0) fun v21 =>
(H16 = H16 ∧ v21 = Value.bool t20)) (fun t20 => (Value.bool true) = Value.bool t20) fun t20 => ∀ gs22 : Fr,
Grp (Value.bool t20) false (fun t23 =>
Bin .num .neq v8 (Value.int .u64 0) fun v24 =>
(H16 = H16 ∧ v24 = Value.bool t23)) (fun t23 => (Value.bool true) = Value.bool t23) fun t23 => ∀ gs25 : Fr,
Grp (Value.bool t23) false (fun t26 =>
Bin .num .neq v9 (Value.int .i64 0) fun v27 =>
(H16 = H16 ∧ v27 = Value.bool t26)) (fun t26 => (Value.bool true) = Value.bool t26) fun t26 => ∀ gs28 : Fr,
Grp (Value.bool t26) false (fun t29 =>
Bin .num .neq v13 (Value.int .i64 0) fun v30 =>
(H16 = H16 ∧ v30 = Value.bool t29)) (fun t29 => (Value.bool true) = Value.bool t29) fun t29 => ∀ gs31 : Fr,
Grp (Value.bool t29) false (fun t32 =>
Bin .num .neq v17 (Value.int .i64 0) fun v33 =>
(H16 = H16 ∧ v33 = Value.bool t32)) (fun t32 => (Value.bool true) = Value.bool t32) fun t32 => ∀ gs34 : Fr,
Grp (Value.bool t32) false (fun t35 =>
Bin .num .neq v5 (Value.int .i64 10) fun v36 =>
(H16 = H16 ∧ v36 = Value.bool t35)) (fun t35 => (Value.bool true) = Value.bool t35) fun t35 => ∀ gs37 : Fr,
Grp (Value.bool t35) false (fun t38 =>
Bin .num .neq v10 (Value.int .i64 10) fun v39 =>
(H16 = H16 ∧ v39 = Value.bool t38)) (fun t38 => (Value.bool true) = Value.bool t38) fun t38 => ∀ gs40 : Fr,
Grp (Value.bool t38) false (fun t41 =>
Bin .num .neq v14 (Value.int .i64 10) fun v42 =>
(H16 = H16 ∧ v42 = Value.bool t41)) (fun t41 => (Value.bool true) = Value.bool t41) fun t41 => ∀ gs43 : Fr,
Grp (Value.bool t41) false (fun t44 =>
Bin .num .neq v18 (Value.int .i64 10) fun v45 =>
(H16 = H16 ∧ v45 = Value.bool t44)) (fun t44 => (Value.bool true) = Value.bool t44) fun t44 => ∀ gs46 : Fr,
Br (Value.bool t44) (
R (.returned (Value.bool false)) H16) (
∀ J47 : List Value → Hp → Prop, (∀ w50 : Value, ∀ H49 : Hp, (∀ gs48 : Fr,
R (.returned w50) H49) → J47 [w50] H49) →
CallF Try.prog g 9 #[] H16 (fun v51 H52 =>
Split v51 true (
CallF Try.prog g 24 #[(.pointer none), a0, a2] H52 (fun v53 H54 =>
Bin .num .eql v53 (Value.int .i64 10) fun v55 =>
Pick (Value.bool true) v55 (Value.bool false) fun v56 =>
Split v56 true (
CallF Try.prog g 10 #[(.pointer none), a1, a2] H54 (fun v57 H58 =>
Bin .num .eql v57 (Value.int .i64 10) fun v59 =>
Pick (Value.bool true) v59 (Value.bool false) fun v60 =>
Split v60 true (
CallF Try.prog g 25 #[(.pointer none), a0, a2] H58 (fun v61 H62 =>
Bin .num .eql v61 (Value.int .i64 10) fun v63 =>
Pick (Value.bool true) v63 (Value.bool false) fun v64 =>
Split v64 true (
CallF Try.prog g 12 #[(.pointer none), a1, a2] H62 (fun v65 H66 =>
Bin .num .eql v65 (Value.int .i64 10) fun v67 =>
Pick (Value.bool true) v67 (Value.bool false) fun v68 =>
Split v68 true (
CallF Try.prog g 26 #[(.pointer none)] H66 (fun v69 H70 =>
Bin .num .eql v69 (Value.int .i64 0) fun v71 =>
Pick (Value.bool true) v71 (Value.bool false) fun v72 =>
Split v72 true (
CallF Try.prog g 14 #[(.pointer none)] H70 (fun v73 H74 =>
Bin .num .eql v73 (Value.int .i64 0) fun v75 =>
Pick (Value.bool true) v75 (Value.bool false) fun v76 =>
JE J47 [v76] H74) (PanR R)) (
Pick (Value.bool false) undef (Value.bool false) fun v77 =>
JE J47 [v77] H70)) (PanR R)) (
Pick (Value.bool false) undef (Value.bool false) fun v78 =>
Pick v78 undef (Value.bool false) fun v79 =>
JE J47 [v79] H66)) (PanR R)) (
Pick (Value.bool false) undef (Value.bool false) fun v80 =>
Pick v80 undef (Value.bool false) fun v81 =>
Pick v81 undef (Value.bool false) fun v82 =>
JE J47 [v82] H62)) (PanR R)) (
Pick (Value.bool false) undef (Value.bool false) fun v83 =>
Pick v83 undef (Value.bool false) fun v84 =>
Pick v84 undef (Value.bool false) fun v85 =>
Pick v85 undef (Value.bool false) fun v86 =>
JE J47 [v86] H58)) (PanR R)) (
Pick (Value.bool false) undef (Value.bool false) fun v87 =>
Pick v87 undef (Value.bool false) fun v88 =>
Pick v88 undef (Value.bool false) fun v89 =>
Pick v89 undef (Value.bool false) fun v90 =>
Pick v90 undef (Value.bool false) fun v91 =>
JE J47 [v91] H54)) (PanR R)) (
Pick (Value.bool false) undef (Value.bool false) fun v92 =>
Pick v92 undef (Value.bool false) fun v93 =>
Pick v93 undef (Value.bool false) fun v94 =>
Pick v94 undef (Value.bool false) fun v95 =>
Pick v95 undef (Value.bool false) fun v96 =>
Pick v96 undef (Value.bool false) fun v97 =>
JE J47 [v97] H52)) (PanR R))) (PanR R)) (PanR R)) (PanR R)) (PanR R)
theorem L7_eq (g : World) (a0 a1 a2 : Value) (H : Hp) (R : Ending → Hp → Prop) : denF Try.prog g Try.f7 (.h 0 [] [] .e (.h 0 [] [] .e (.h 0 [] [] .e (.h 0 [] [] .e (.h 0 [] [] .e (.h 0 [] [] .e (.h 0 [] [] .e (.h 0 [] [] (.h 0 [] [] (.h 0 [] [1] .e .e) .e) (.h 1 [6] [] .e .e))))))))) [a0, a1, a2] H R = L7 g a0 a1 a2 H R := by kernel_rfl
theorem L7_sound {g : World} {a0 a1 a2 : Value} {H : Hp} {R : Ending → Hp → Prop} (h : L7 g a0 a1 a2 H R) : SCalls Try.prog g 7 #[a0, a1, a2] H R :=
  denF_sound (fn := Try.f7) (hn := (.h 0 [] [] .e (.h 0 [] [] .e (.h 0 [] [] .e (.h 0 [] [] .e (.h 0 [] [] .e (.h 0 [] [] .e (.h 0 [] [] .e (.h 0 [] [] (.h 0 [] [] (.h 0 [] [1] .e .e) .e) (.h 1 [6] [] .e .e)))))))))) Try.func7 (by rw [L7_eq]; exact h)
/-- thicket.heap.New[uint64] -/
def L8 (g : World) (H : Hp) (R : Ending → Hp → Prop) : Prop :=
Build Try.prog 71 [] fun v1 =>
New H (.cells (Value.cells v1) 71 (0, 0)) fun b2 H3 =>
R (.returned (.pointer (some ⟨b2, 0, none⟩))) H3
theorem L8_eq (g : World) (H : Hp) (R : Ending → Hp → Prop) : denF Try.prog g Try.f8 .e [] H R = L8 g H R := by kernel_rfl
theorem L8_sound {g : World} {H : Hp} {R : Ending → Hp → Prop} (h : L8 g H R) : SCalls Try.prog g 8 #[] H R :=
  denF_sound (fn := Try.f8) (hn := .e) Try.func8 (by rw [L8_eq]; exact h)
/-- thicket.thicketlaw03.awake -/
def L9 (g : World) (H : Hp) (R : Ending → Hp → Prop) : Prop :=
CallF Try.prog g 27 #[] H (fun v1 H2 =>
∀ J3 : List Value → Hp → Prop, (∀ w6 : Value, ∀ H5 : Hp, (∀ gs4 : Fr,
Br w6 (
R (.returned (Value.bool false)) H5) (
CallF Try.prog g 22 #[v1] H5 (fun v7 H8 =>
Ext 0 v7 fun v9 =>
Ext 1 v7 fun v10 =>
Ext 2 v7 fun v11 =>
CallF Try.prog g 22 #[v1] H8 (fun v12 H13 =>
Ext 0 v12 fun v14 =>
Ext 1 v12 fun v15 =>
Ext 2 v12 fun v16 =>
∀ J17 : List Value → Hp → Prop, (∀ w20 : Value, ∀ H19 : Hp, (∀ gs18 : Fr,
R (.returned w20) H19) → J17 [w20] H19) →
Bin .num .eql v9 (Value.int .i64 9) fun v21 =>
Split v21 true (
Bin .num .eql v10 (Value.int .i64 (-1)) fun v22 =>
Pick (Value.bool true) v22 (Value.bool false) fun v23 =>
Split v23 true (
Bin .num .eql v11 (Value.int .i64 0) fun v24 =>
Pick (Value.bool true) v24 (Value.bool false) fun v25 =>
Split v25 true (
Bin .num .eql v14 (Value.int .i64 3) fun v26 =>
Pick (Value.bool true) v26 (Value.bool false) fun v27 =>
Split v27 true (
Bin .num .eql v15 (Value.int .i64 5) fun v28 =>
Pick (Value.bool true) v28 (Value.bool false) fun v29 =>
Split v29 true (
Bin .num .eql v16 (Value.int .i64 0) fun v30 =>
Pick (Value.bool true) v30 (Value.bool false) fun v31 =>
Split v31 true (
CallF Try.prog g 26 #[v1] H13 (fun v32 H33 =>
Bin .num .eql v32 (Value.int .i64 1) fun v34 =>
Pick (Value.bool true) v34 (Value.bool false) fun v35 =>
JE J17 [v35] H33) (PanR R)) (
Pick (Value.bool false) undef (Value.bool false) fun v36 =>
JE J17 [v36] H13)) (
Pick (Value.bool false) undef (Value.bool false) fun v37 =>
Pick v37 undef (Value.bool false) fun v38 =>
JE J17 [v38] H13)) (
Pick (Value.bool false) undef (Value.bool false) fun v39 =>
Pick v39 undef (Value.bool false) fun v40 =>
Pick v40 undef (Value.bool false) fun v41 =>
JE J17 [v41] H13)) (
Pick (Value.bool false) undef (Value.bool false) fun v42 =>
Pick v42 undef (Value.bool false) fun v43 =>
Pick v43 undef (Value.bool false) fun v44 =>
Pick v44 undef (Value.bool false) fun v45 =>
JE J17 [v45] H13)) (
Pick (Value.bool false) undef (Value.bool false) fun v46 =>
Pick v46 undef (Value.bool false) fun v47 =>
Pick v47 undef (Value.bool false) fun v48 =>
Pick v48 undef (Value.bool false) fun v49 =>
Pick v49 undef (Value.bool false) fun v50 =>
JE J17 [v50] H13)) (
Pick (Value.bool false) undef (Value.bool false) fun v51 =>
Pick v51 undef (Value.bool false) fun v52 =>
Pick v52 undef (Value.bool false) fun v53 =>
Pick v53 undef (Value.bool false) fun v54 =>
Pick v54 undef (Value.bool false) fun v55 =>
Pick v55 undef (Value.bool false) fun v56 =>
JE J17 [v56] H13)) (PanR R)) (PanR R))) → J3 [w6] H5) →
Bin .ptr .eql v1 (.pointer none) fun v57 =>
Split v57 false (
CallF Try.prog g 24 #[v1, (Value.int .i64 7), (Value.int .i64 5)] H2 (fun v58 H59 =>
Bin .num .neq v58 (Value.int .i64 0) fun v60 =>
Pick (Value.bool false) (Value.bool true) v60 fun v61 =>
Split v61 false (
CallF Try.prog g 24 #[v1, (Value.int .i64 3), (Value.int .i64 5)] H59 (fun v62 H63 =>
Bin .num .neq v62 (Value.int .i64 0) fun v64 =>
Pick (Value.bool false) (Value.bool true) v64 fun v65 =>
Split v65 false (
CallF Try.prog g 24 #[v1, (Value.int .i64 9), (Value.int .i64 (-1))] H63 (fun v66 H67 =>
Bin .num .neq v66 (Value.int .i64 0) fun v68 =>
Pick (Value.bool false) (Value.bool true) v68 fun v69 =>
Split v69 false (
CallF Try.prog g 24 #[v1, (Value.int .i64 3), (Value.int .i64 0)] H67 (fun v70 H71 =>
Bin .num .neq v70 (Value.int .i64 11) fun v72 =>
Pick (Value.bool false) (Value.bool true) v72 fun v73 =>
Split v73 false (
CallF Try.prog g 26 #[v1] H71 (fun v74 H75 =>
Bin .num .neq v74 (Value.int .i64 3) fun v76 =>
Pick (Value.bool false) (Value.bool true) v76 fun v77 =>
JE J3 [v77] H75) (PanR R)) (
Pick (Value.bool true) (Value.bool true) undef fun v78 =>
JE J3 [v78] H71)) (PanR R)) (
Pick (Value.bool true) (Value.bool true) undef fun v79 =>
Pick v79 (Value.bool true) undef fun v80 =>
JE J3 [v80] H67)) (PanR R)) (
Pick (Value.bool true) (Value.bool true) undef fun v81 =>
Pick v81 (Value.bool true) undef fun v82 =>
Pick v82 (Value.bool true) undef fun v83 =>
JE J3 [v83] H63)) (PanR R)) (
Pick (Value.bool true) (Value.bool true) undef fun v84 =>
Pick v84 (Value.bool true) undef fun v85 =>
Pick v85 (Value.bool true) undef fun v86 =>
Pick v86 (Value.bool true) undef fun v87 =>
JE J3 [v87] H59)) (PanR R)) (
Pick (Value.bool true) (Value.bool true) undef fun v88 =>
Pick v88 (Value.bool true) undef fun v89 =>
Pick v89 (Value.bool true) undef fun v90 =>
Pick v90 (Value.bool true) undef fun v91 =>
Pick v91 (Value.bool true) undef fun v92 =>
JE J3 [v92] H2)) (PanR R)
theorem L9_eq (g : World) (H : Hp) (R : Ending → Hp → Prop) : denF Try.prog g Try.f9 (.h 0 [] [] .e (.h 0 [] [] .e (.h 0 [] [] (.h 1 [35] [1] .e .e) (.h 0 [] [] .e (.h 0 [] [] .e (.h 1 [0] [] .e .e)))))) [] H R = L9 g H R := by kernel_rfl
theorem L9_sound {g : World} {H : Hp} {R : Ending → Hp → Prop} (h : L9 g H R) : SCalls Try.prog g 9 #[] H R :=
  denF_sound (fn := Try.f9) (hn := (.h 0 [] [] .e (.h 0 [] [] .e (.h 0 [] [] (.h 1 [35] [1] .e .e) (.h 0 [] [] .e (.h 0 [] [] .e (.h 1 [0] [] .e .e))))))) Try.func9 (by rw [L9_eq]; exact h)
/-- (*thicket.heap.Heap[uint64]).Push -/
def L10 (g : World) (a0 a1 a2 : Value) (H : Hp) (R : Ending → Hp → Prop) : Prop :=
Bin .ptr .eql a0 (.pointer none) fun v1 =>
Br v1 (
R (.returned (Value.int .i64 10)) H) (
Nil a0 fun v2 =>
FAddr 1 v2 fun v3 =>
Ld H v3 fun v4 =>
Look (.int .u64) (Value.int .i64 0) true H v4 a1 fun v5 =>
Ext 0 v5 fun v6 =>
Ext 1 v5 fun v7 =>
Br v7 (
R (.returned (Value.int .i64 11)) H) (
∀ J8 : List Value → Hp → Prop, (∀ H10 : Hp, (∀ gs9 : Fr,
Nil a0 fun v11 =>
FAddr 0 v11 fun v12 =>
Ld H10 v12 fun v13 =>
Build Try.prog 75 [(0, a1), (1, a2)] fun v14 =>
BuildSl Try.prog 68 1 [(0, v14)] H10 fun v15 H16 =>
App Try.prog 75 2 16 (.agg #[(Value.int .u64 0), (Value.int .i64 0)]) H16 v13 v15 fun v19 H20 =>
Nil a0 fun v21 =>
FAddr 0 v21 fun v22 =>
St 1 H20 v22 v19 fun H23 =>
Nil a0 fun v24 =>
FAddr 0 v24 fun v25 =>
Ld H23 v25 fun v26 =>
LenS v26 fun v27 =>
Bin .num .sub v27 (Value.int .i64 1) fun v28 =>
CallF Try.prog g 28 #[a0, v28] H23 (fun v29 H30 =>
R (.returned (Value.int .i64 0)) H30) (PanR R)) → J8 [] H10) →
Nil a0 fun v31 =>
FAddr 1 v31 fun v32 =>
Ld H v32 fun v33 =>
Bin .map .eql v33 (.map none) fun v34 =>
Br v34 (
MkMap H fun v35 H36 =>
Nil a0 fun v37 =>
FAddr 1 v37 fun v38 =>
St 1 H36 v38 v35 fun H39 =>
JE J8 [] H39) (
JE J8 [] H)))
theorem L10_eq (g : World) (a0 a1 a2 : Value) (H : Hp) (R : Ending → Hp → Prop) : denF Try.prog g Try.f10 (.h 0 [] [] .e (.h 0 [] [] .e (.h 0 [] [] .e (.h 1 [] [0, 1, 2] .e .e)))) [a0, a1, a2] H R = L10 g a0 a1 a2 H R := by kernel_rfl
theorem L10_sound {g : World} {a0 a1 a2 : Value} {H : Hp} {R : Ending → Hp → Prop} (h : L10 g a0 a1 a2 H R) : SCalls Try.prog g 10 #[a0, a1, a2] H R :=
  denF_sound (fn := Try.f10) (hn := (.h 0 [] [] .e (.h 0 [] [] .e (.h 0 [] [] .e (.h 1 [] [0, 1, 2] .e .e))))) Try.func10 (by rw [L10_eq]; exact h)
/-- thicket.thicketlaw03.index -/
def L11 (g : World) (a0 a1 : Value) (H : Hp) (R : Ending → Hp → Prop) : Prop :=
LenS a0 fun v1 =>
∃ (I2 : List Value → Hp → Prop) (m3 : List Value → Hp → Nat), JE I2 [(Value.int .i64 0)] H ∧ ∀ w6 : Value, ∀ H5 : Hp, I2 [w6] H5 → ∀ gs4 : Fr,
Bin .num .lss w6 v1 fun v7 =>
Br v7 (
IAddr 1 a0 w6 fun v8 =>
Ld H5 v8 fun v9 =>
Bin .num .eql a1 v9 fun v10 =>
Br v10 (
R (.returned w6) H5) (
Bin .num .add w6 (Value.int .i64 1) fun v11 =>
Back I2 m3 [v11] H5 [w6] H5)) (
R (.returned (Value.int .i64 (-1))) H5)
theorem L11_eq (g : World) (a0 a1 : Value) (H : Hp) (R : Ending → Hp → Prop) : denF Try.prog g Try.f11 (.h 0 [] [] .e (.h 0 [] [] (.h 0 [] [] .e (.h 0 [] [] (.h 0 [9] [1, 7, 8] .e .e) .e)) .e)) [a0, a1] H R = L11 g a0 a1 H R := by kernel_rfl
theorem L11_sound {g : World} {a0 a1 : Value} {H : Hp} {R : Ending → Hp → Prop} (h : L11 g a0 a1 H R) : SCalls Try.prog g 11 #[a0, a1] H R :=
  denF_sound (fn := Try.f11) (hn := (.h 0 [] [] .e (.h 0 [] [] (.h 0 [] [] .e (.h 0 [] [] (.h 0 [9] [1, 7, 8] .e .e) .e)) .e))) Try.func11 (by rw [L11_eq]; exact h)
/-- (*thicket.heap.Heap[uint64]).Move -/
def L12 (g : World) (a0 a1 a2 : Value) (H : Hp) (R : Ending → Hp → Prop) : Prop :=
Bin .ptr .eql a0 (.pointer none) fun v1 =>
Br v1 (
R (.returned (Value.int .i64 10)) H) (
Nil a0 fun v2 =>
FAddr 1 v2 fun v3 =>
Ld H v3 fun v4 =>
Look (.int .u64) (Value.int .i64 0) true H v4 a1 fun v5 =>
Ext 0 v5 fun v6 =>
Ext 1 v5 fun v7 =>
Un .not v7 fun v8 =>
Br v8 (
R (.returned (Value.int .i64 10)) H) (
Nil a0 fun v9 =>
FAddr 0 v9 fun v10 =>
Ld H v10 fun v11 =>
IAddr 2 v11 v6 fun v12 =>
FAddr 1 v12 fun v13 =>
St 1 H v13 a2 fun H14 =>
CallF Try.prog g 28 #[a0, v6] H14 (fun v15 H16 =>
Nil a0 fun v17 =>
FAddr 1 v17 fun v18 =>
Ld H16 v18 fun v19 =>
Look (.int .u64) (Value.int .i64 0) false H16 v19 a1 fun v20 =>
CallF Try.prog g 29 #[a0, v20] H16 (fun v21 H22 =>
R (.returned (Value.int .i64 0)) H22) (PanR R)) (PanR R)))
theorem L12_eq (g : World) (a0 a1 a2 : Value) (H : Hp) (R : Ending → Hp → Prop) : denF Try.prog g Try.f12 .e [a0, a1, a2] H R = L12 g a0 a1 a2 H R := by kernel_rfl
theorem L12_sound {g : World} {a0 a1 a2 : Value} {H : Hp} {R : Ending → Hp → Prop} (h : L12 g a0 a1 a2 H R) : SCalls Try.prog g 12 #[a0, a1, a2] H R :=
  denF_sound (fn := Try.f12) (hn := .e) Try.func12 (by rw [L12_eq]; exact h)
/-- (*thicket.heap.Heap[uint64]).Pop -/
def L13 (g : World) (a0 : Value) (H : Hp) (R : Ending → Hp → Prop) : Prop :=
Bin .ptr .eql a0 (.pointer none) fun v1 =>
Grp v1 false (fun t2 =>
Nil a0 fun v3 =>
FAddr 0 v3 fun v4 =>
Ld H v4 fun v5 =>
LenS v5 fun v6 =>
Bin .num .eql v6 (Value.int .i64 0) fun v7 =>
(H = H ∧ v7 = Value.bool t2)) (fun t2 => (Value.bool true) = Value.bool t2) fun t2 => ∀ gs8 : Fr,
Br (Value.bool t2) (
R (.returned (.tuple #[(Value.int .u64 0), (Value.int .i64 0), (Value.int .i64 10)])) H) (
Nil a0 fun v9 =>
FAddr 0 v9 fun v10 =>
Ld H v10 fun v11 =>
IAddr 2 v11 (Value.int .i64 0) fun v12 =>
LdA 2 H v12 fun v13 =>
New H (.cells #[(Value.int .u64 0), (Value.int .i64 0)] 75 (0, 0)) fun b14 H15 =>
St 2 H15 (.pointer (some ⟨b14, 0, none⟩)) v13 fun H16 =>
Nil a0 fun v17 =>
FAddr 0 v17 fun v18 =>
Ld H16 v18 fun v19 =>
LenS v19 fun v20 =>
Bin .num .sub v20 (Value.int .i64 1) fun v21 =>
Nil a0 fun v22 =>
FAddr 0 v22 fun v23 =>
Ld H16 v23 fun v24 =>
IAddr 2 v24 v21 fun v25 =>
LdA 2 H16 v25 fun v26 =>
New H16 (.cells #[(Value.int .u64 0), (Value.int .i64 0)] 75 (0, 0)) fun b27 H28 =>
St 2 H28 (.pointer (some ⟨b27, 0, none⟩)) v26 fun H29 =>
Nil a0 fun v30 =>
FAddr 0 v30 fun v31 =>
Ld H29 v31 fun v32 =>
SliceE 2 v32 none (some v21) fun v33 =>
Nil a0 fun v34 =>
FAddr 0 v34 fun v35 =>
St 1 H29 v35 v33 fun H36 =>
DR H36 fun R37 =>
Nil a0 fun v38 =>
FAddr 1 v38 fun v39 =>
Ld R37 v39 fun v40 =>
FAddr 0 (.pointer (some ⟨b14, 0, none⟩)) fun v41 =>
Ld R37 v41 fun v42 =>
MapDel (.int .u64) H36 v40 v42 fun H45 =>
∀ J46 : List Value → Hp → Prop, (∀ H48 : Hp, (∀ gs47 : Fr,
FAddr 0 (.pointer (some ⟨b14, 0, none⟩)) fun v49 =>
Ld H48 v49 fun v50 =>
FAddr 1 (.pointer (some ⟨b14, 0, none⟩)) fun v51 =>
Ld H48 v51 fun v52 =>
R (.returned (.tuple #[v50, v52, (Value.int .i64 0)])) H48) → J46 [] H48) →
Bin .num .gtr v21 (Value.int .i64 0) fun v53 =>
Br v53 (
LdA 2 H45 (.pointer (some ⟨b27, 0, none⟩)) fun v54 =>
CallF Try.prog g 30 #[a0, (Value.int .i64 0), v54] H45 (fun v55 H56 =>
CallF Try.prog g 29 #[a0, (Value.int .i64 0)] H56 (fun v57 H58 =>
JE J46 [] H58) (PanR R)) (PanR R)) (
JE J46 [] H45))
theorem L13_eq (g : World) (a0 : Value) (H : Hp) (R : Ending → Hp → Prop) : denF Try.prog g Try.f13 (.h 0 [] [] .e (.h 0 [] [] .e (.h 0 [] [] (.h 0 [] [] (.h 0 [] [1] .e .e) .e) (.h 0 [] [] .e (.h 0 [] [] .e (.h 0 [] [] .e (.h 0 [] [] .e (.h 0 [] [] (.h 0 [0, 1, 2, 3, 4, 5, 6] [] .e .e) (.h 1 [] [6] .e .e))))))))) [a0] H R = L13 g a0 H R := by kernel_rfl
theorem L13_sound {g : World} {a0 : Value} {H : Hp} {R : Ending → Hp → Prop} (h : L13 g a0 H R) : SCalls Try.prog g 13 #[a0] H R :=
  denF_sound (fn := Try.f13) (hn := (.h 0 [] [] .e (.h 0 [] [] .e (.h 0 [] [] (.h 0 [] [] (.h 0 [] [1] .e .e) .e) (.h 0 [] [] .e (.h 0 [] [] .e (.h 0 [] [] .e (.h 0 [] [] .e (.h 0 [] [] (.h 0 [0, 1, 2, 3, 4, 5, 6] [] .e .e) (.h 1 [] [6] .e .e)))))))))) Try.func13 (by rw [L13_eq]; exact h)
/-- (*thicket.heap.Heap[uint64]).Len -/
def L14 (g : World) (a0 : Value) (H : Hp) (R : Ending → Hp → Prop) : Prop :=
Bin .ptr .eql a0 (.pointer none) fun v1 =>
Br v1 (
R (.returned (Value.int .i64 0)) H) (
Nil a0 fun v2 =>
FAddr 0 v2 fun v3 =>
Ld H v3 fun v4 =>
LenS v4 fun v5 =>
R (.returned v5) H)
theorem L14_eq (g : World) (a0 : Value) (H : Hp) (R : Ending → Hp → Prop) : denF Try.prog g Try.f14 .e [a0] H R = L14 g a0 H R := by kernel_rfl
theorem L14_sound {g : World} {a0 : Value} {H : Hp} {R : Ending → Hp → Prop} (h : L14 g a0 H R) : SCalls Try.prog g 14 #[a0] H R :=
  denF_sound (fn := Try.f14) (hn := .e) Try.func14 (by rw [L14_eq]; exact h)
/-- thicket.heap.New[thicket.thicketlaw03.num] -/
def L15 (g : World) (H : Hp) (R : Ending → Hp → Prop) : Prop :=
Build Try.prog 42 [] fun v1 =>
New H (.cells (Value.cells v1) 42 (0, 0)) fun b2 H3 =>
R (.returned (.pointer (some ⟨b2, 0, none⟩))) H3
theorem L15_eq (g : World) (H : Hp) (R : Ending → Hp → Prop) : denF Try.prog g Try.f15 .e [] H R = L15 g H R := by kernel_rfl
theorem L15_sound {g : World} {H : Hp} {R : Ending → Hp → Prop} (h : L15 g H R) : SCalls Try.prog g 15 #[] H R :=
  denF_sound (fn := Try.f15) (hn := .e) Try.func15 (by rw [L15_eq]; exact h)
/-- thicket.thicketlaw03.one -/
def L16 (g : World) (a0 a1 a2 : Value) (H : Hp) (R : Ending → Hp → Prop) : Prop :=
New H (.cells (Value.cells a2) 48 (0, 0)) fun b1 H2 =>
LdA 4 H2 (.pointer (some ⟨b1, 0, none⟩)) fun v3 =>
CallF Try.prog g 31 #[v3] H2 (fun v4 H5 =>
∀ J6 : List Value → Hp → Prop, (∀ H8 : Hp, (∀ gs7 : Fr,
DR H8 fun R9 =>
Nil a1 fun v10 =>
FAddr 0 v10 fun v11 =>
Ld R9 v11 fun v12 =>
LenS v12 fun v13 =>
CallF Try.prog g 37 #[a0] H8 (fun v14 H15 =>
Ent H15 R9 ∧
Bin .num .eql v14 v13 fun v16 =>
R (.returned v16) H15) NoKP) → J6 [] H8) →
FAddr 0 (.pointer (some ⟨b1, 0, none⟩)) fun v17 =>
Ld H5 v17 fun v18 =>
Bin .num .eql v18 (Value.int .i64 1) fun v19 =>
Br v19 (
DR H5 fun R20 =>
FAddr 3 (.pointer (some ⟨b1, 0, none⟩)) fun v21 =>
Ld R20 v21 fun v22 =>
FAddr 3 (.pointer (some ⟨b1, 0, none⟩)) fun v23 =>
Ld R20 v23 fun v24 =>
CallF Try.prog g 32 #[a0, v4, v22] H5 (fun v25 H26 =>
Ent H26 R20 ∧
CallF Try.prog g 33 #[v4, v24] H26 (fun v27 H28 =>
Ent H28 R20 ∧
CallF Try.prog g 17 #[a1, v27] H28 (fun v29 H30 =>
Ent H30 R20 ∧
Bin .num .neq v25 v29 fun v31 =>
Br v31 (
R (.returned (Value.bool false)) H30) (
JE J6 [] H30)) NoKP) NoKP) NoKP) (
Bin .num .eql v18 (Value.int .i64 2) fun v32 =>
Br v32 (
CallF Try.prog g 34 #[a0] H5 (fun v33 H34 =>
Ext 0 v33 fun v35 =>
Ext 1 v33 fun v36 =>
Ext 2 v33 fun v37 =>
CallF Try.prog g 18 #[a1] H34 (fun v38 H39 =>
Ext 0 v38 fun v40 =>
Ext 1 v38 fun v41 =>
New H39 (.cells #[(Value.int .u64 0), (Value.bool false), (Value.int .i64 0)] 52 (0, 0)) fun b42 H43 =>
St 3 H43 (.pointer (some ⟨b42, 0, none⟩)) v40 fun H44 =>
Bin .num .neq v37 v41 fun v45 =>
Grp v45 false (fun t46 =>
Bin .num .neq v41 (Value.int .i64 0) fun v47 =>
Grp v47 true (fun t48 =>
Bin .num .neq v35 (Value.int .i64 0) fun v49 =>
Grp v49 false (fun t50 =>
Bin .num .neq v36 (Value.int .i64 0) fun v51 =>
(H44 = H44 ∧ v51 = Value.bool t50)) (fun t50 => (Value.bool true) = Value.bool t50) fun t50 => ∀ gs52 : Fr,
(H44 = H44 ∧ (Value.bool t50) = Value.bool t48)) (fun t48 => (Value.bool false) = Value.bool t48) fun t48 => ∀ gs53 : Fr,
(H44 = H44 ∧ (Value.bool t48) = Value.bool t46)) (fun t46 => (Value.bool true) = Value.bool t46) fun t46 => ∀ gs54 : Fr,
Grp (Value.bool t46) false (fun t55 =>
Bin .num .eql v41 (Value.int .i64 0) fun v56 =>
Grp v56 true (fun t57 =>
CallQ Try.prog g 33 #[v35, v36] H44 fun v58 =>
LdA 3 H44 (.pointer (some ⟨b42, 0, none⟩)) fun v59 =>
RunP Try.prog g (opAt Try.f16 9 23) (ev (fun s => cond (Nat.beq s 69) v58 (cond (Nat.beq s 70) v59 (undef)))) H44 fun v60 =>
(H44 = H44 ∧ v60 = Value.bool t57)) (fun t57 => (Value.bool false) = Value.bool t57) fun t57 => ∀ gs61 : Fr,
(H44 = H44 ∧ (Value.bool t57) = Value.bool t55)) (fun t55 => (Value.bool true) = Value.bool t55) fun t55 => ∀ gs62 : Fr,
Br (Value.bool t55) (
R (.returned (Value.bool false)) H44) (
JE J6 [] H44)) (PanR R)) (PanR R)) (
Bin .num .eql v18 (Value.int .i64 3) fun v63 =>
Br v63 (
DR H5 fun R64 =>
FAddr 3 (.pointer (some ⟨b1, 0, none⟩)) fun v65 =>
Ld R64 v65 fun v66 =>
FAddr 3 (.pointer (some ⟨b1, 0, none⟩)) fun v67 =>
Ld R64 v67 fun v68 =>
CallF Try.prog g 35 #[a0, v4, v66] H5 (fun v69 H70 =>
Ent H70 R64 ∧
CallF Try.prog g 33 #[v4, v68] H70 (fun v71 H72 =>
Ent H72 R64 ∧
CallF Try.prog g 19 #[a1, v71] H72 (fun v73 H74 =>
Ent H74 R64 ∧
Bin .num .neq v69 v73 fun v75 =>
Br v75 (
R (.returned (Value.bool false)) H74) (
JE J6 [] H74)) NoKP) NoKP) NoKP) (
Bin .num .eql v18 (Value.int .i64 4) fun v76 =>
Br v76 (
CallF Try.prog g 36 #[a0, v4] H5 (fun v77 H78 =>
Ext 0 v77 fun v79 =>
Ext 1 v77 fun v80 =>
CallF Try.prog g 33 #[v4, (Value.int .i64 0)] H78 (fun v81 H82 =>
CallF Try.prog g 21 #[a1, v81] H82 (fun v83 H84 =>
Ext 0 v83 fun v85 =>
Ext 1 v83 fun v86 =>
Bin .num .neq v79 v85 fun v87 =>
Grp v87 false (fun t88 =>
Bin .num .neq v80 v86 fun v89 =>
(H84 = H84 ∧ v89 = Value.bool t88)) (fun t88 => (Value.bool true) = Value.bool t88) fun t88 => ∀ gs90 : Fr,
Br (Value.bool t88) (
R (.returned (Value.bool false)) H84) (
JE J6 [] H84)) (PanR R)) (PanR R)) (PanR R)) (
JE J6 [] H5))))) (PanR R)
theorem L16_eq (g : World) (a0 a1 a2 : Value) (H : Hp) (R : Ending → Hp → Prop) : denF Try.prog g Try.f16 (.h 0 [] [] .e (.h 0 [] [] .e (.h 1 [] [0, 1] (.h 0 [] [] .e (.h 0 [] [] (.h 0 [] [] .e (.h 0 [] [] (.h 0 [] [] (.h 0 [0, 1, 2, 3, 5, 6, 7, 8, 4, 9, 10, 11] [] .e .e) .e) (.h 0 [] [] .e (.h 0 [] [] .e (.h 0 [] [] .e (.h 0 [] [] (.h 0 [] [] (.h 0 [0, 1, 2, 3, 5, 6, 7, 8, 4, 9, 10, 11] [] .e .e) .e) (.h 0 [] [] .e (.h 0 [] [] (.h 0 [] [] .e (.h 0 [] [] .e (.h 0 [] [] (.h 0 [] [1] .e .e) .e))) .e)))))))) .e)) (.h 0 [] [] (.h 0 [0, 2, 3, 4, 5, 6, 1, 7, 8] [] .e .e) .e)))) [a0, a1, a2] H R = L16 g a0 a1 a2 H R := by kernel_rfl
theorem L16_sound {g : World} {a0 a1 a2 : Value} {H : Hp} {R : Ending → Hp → Prop} (h : L16 g a0 a1 a2 H R) : SCalls Try.prog g 16 #[a0, a1, a2] H R :=
  denF_sound (fn := Try.f16) (hn := (.h 0 [] [] .e (.h 0 [] [] .e (.h 1 [] [0, 1] (.h 0 [] [] .e (.h 0 [] [] (.h 0 [] [] .e (.h 0 [] [] (.h 0 [] [] (.h 0 [0, 1, 2, 3, 5, 6, 7, 8, 4, 9, 10, 11] [] .e .e) .e) (.h 0 [] [] .e (.h 0 [] [] .e (.h 0 [] [] .e (.h 0 [] [] (.h 0 [] [] (.h 0 [0, 1, 2, 3, 5, 6, 7, 8, 4, 9, 10, 11] [] .e .e) .e) (.h 0 [] [] .e (.h 0 [] [] (.h 0 [] [] .e (.h 0 [] [] .e (.h 0 [] [] (.h 0 [] [1] .e .e) .e))) .e)))))))) .e)) (.h 0 [] [] (.h 0 [0, 2, 3, 4, 5, 6, 1, 7, 8] [] .e .e) .e))))) Try.func16 (by rw [L16_eq]; exact h)
/-- thicket.thicketref03.Push -/
def L17 (g : World) (a0 a1 : Value) (H : Hp) (R : Ending → Hp → Prop) : Prop :=
New H (.cells (Value.cells a1) 52 (0, 0)) fun b1 H2 =>
LdA 3 H2 (.pointer (some ⟨b1, 0, none⟩)) fun v3 =>
CallF Try.prog g 38 #[a0, v3] H2 (fun v4 H5 =>
Bin .num .geq v4 (Value.int .i64 0) fun v6 =>
Br v6 (
R (.returned (Value.int .i64 11)) H5) (
DR H5 fun R7 =>
Nil a0 fun v8 =>
FAddr 0 v8 fun v9 =>
Ld R7 v9 fun v10 =>
LdA 3 R7 (.pointer (some ⟨b1, 0, none⟩)) fun v11 =>
BuildSl Try.prog 44 1 [(0, v11)] H5 fun v12 H13 =>
Ent H13 R7 ∧
App Try.prog 52 3 24 (.agg #[(Value.int .u64 0), (Value.bool false), (Value.int .i64 0)]) H13 v10 v12 fun v16 H17 =>
Ent H17 R7 ∧
Nil a0 fun v18 =>
FAddr 0 v18 fun v19 =>
St 1 H17 v19 v16 fun H20 =>
R (.returned (Value.int .i64 0)) H20)) (PanR R)
theorem L17_eq (g : World) (a0 a1 : Value) (H : Hp) (R : Ending → Hp → Prop) : denF Try.prog g Try.f17 (.h 0 [] [] .e (.h 0 [] [] .e (.h 0 [] [] (.h 0 [0, 1, 2, 3, 4, 5, 6, 7, 8, 9, 10] [] .e .e) .e))) [a0, a1] H R = L17 g a0 a1 H R := by kernel_rfl
theorem L17_sound {g : World} {a0 a1 : Value} {H : Hp} {R : Ending → Hp → Prop} (h : L17 g a0 a1 H R) : SCalls Try.prog g 17 #[a0, a1] H R :=
  denF_sound (fn := Try.f17) (hn := (.h 0 [] [] .e (.h 0 [] [] .e (.h 0 [] [] (.h 0 [0, 1, 2, 3, 4, 5, 6, 7, 8, 9, 10] [] .e .e) .e)))) Try.func17 (by rw [L17_eq]; exact h)
/-- thicket.thicketref03.Pop -/
def L18 (g : World) (a0 : Value) (H : Hp) (R : Ending → Hp → Prop) : Prop :=
New H (.cells #[(Value.int .u64 0), (Value.bool false), (Value.int .i64 0)] 52 (0, 0)) fun b1 H2 =>
Nil a0 fun v3 =>
FAddr 0 v3 fun v4 =>
Ld H2 v4 fun v5 =>
LenS v5 fun v6 =>
Bin .num .eql v6 (Value.int .i64 0) fun v7 =>
Br v7 (
Build Try.prog 52 [] fun v8 =>
St 3 H2 (.pointer (some ⟨b1, 0, none⟩)) v8 fun H9 =>
LdA 3 H9 (.pointer (some ⟨b1, 0, none⟩)) fun v10 =>
R (.returned (.tuple #[v10, (Value.int .i64 10)])) H9) (
Nil a0 fun v11 =>
FAddr 0 v11 fun v12 =>
Ld H2 v12 fun v13 =>
LenS v13 fun v14 =>
∃ (I15 : List Value → Hp → Prop) (m16 : List Value → Hp → Nat), JE I15 [(Value.int .i64 0), (Value.int .i64 0)] H2 ∧ ∀ w19 w20 : Value, ∀ H18 : Hp, I15 [w19, w20] H18 → ∀ gs17 : Fr,
Bin .num .lss w20 v14 fun v21 =>
Br v21 (
∀ J22 : List Value → Hp → Prop, (∀ w25 : Value, ∀ H24 : Hp, (∀ gs23 : Fr,
Bin .num .add w20 (Value.int .i64 1) fun v26 =>
Back I15 m16 [w25, v26] H24 [w19, w20] H18) → J22 [w25] H24) →
Nil a0 fun v27 =>
FAddr 0 v27 fun v28 =>
Ld H18 v28 fun v29 =>
IAddr 3 v29 w20 fun v30 =>
LdA 3 H18 v30 fun v31 =>
Nil a0 fun v32 =>
FAddr 0 v32 fun v33 =>
Ld H18 v33 fun v34 =>
IAddr 3 v34 w19 fun v35 =>
LdA 3 H18 v35 fun v36 =>
CallQ Try.prog g 39 #[v31, v36] H18 fun v37 =>
Br v37 (
JE J22 [w20] H18) (
JE J22 [w19] H18)) (
Nil a0 fun v38 =>
FAddr 0 v38 fun v39 =>
Ld H18 v39 fun v40 =>
IAddr 3 v40 w19 fun v41 =>
LdA 3 H18 v41 fun v42 =>
New H18 (.cells #[(Value.int .u64 0), (Value.bool false), (Value.int .i64 0)] 52 (0, 0)) fun b43 H44 =>
St 3 H44 (.pointer (some ⟨b43, 0, none⟩)) v42 fun H45 =>
Nil a0 fun v46 =>
FAddr 0 v46 fun v47 =>
Ld H45 v47 fun v48 =>
SliceE 3 v48 none (some w19) fun v49 =>
App Try.prog 52 3 24 (.agg #[(Value.int .u64 0), (Value.bool false), (Value.int .i64 0)]) H45 (.slice none 0 0) v49 fun v52 H53 =>
Nil a0 fun v54 =>
FAddr 0 v54 fun v55 =>
Ld H53 v55 fun v56 =>
Bin .num .add w19 (Value.int .i64 1) fun v57 =>
SliceE 3 v56 (some v57) none fun v58 =>
App Try.prog 52 3 24 (.agg #[(Value.int .u64 0), (Value.bool false), (Value.int .i64 0)]) H53 v52 v58 fun v61 H62 =>
Nil a0 fun v63 =>
FAddr 0 v63 fun v64 =>
St 1 H62 v64 v61 fun H65 =>
LdA 3 H65 (.pointer (some ⟨b43, 0, none⟩)) fun v66 =>
St 3 H65 (.pointer (some ⟨b1, 0, none⟩)) v66 fun H67 =>
LdA 3 H67 (.pointer (some ⟨b1, 0, none⟩)) fun v68 =>
R (.returned (.tuple #[v68, (Value.int .i64 0)])) H67))
theorem L18_eq (g : World) (a0 : Value) (H : Hp) (R : Ending → Hp → Prop) : denF Try.prog g Try.f18 (.h 0 [] [] .e (.h 0 [] [] .e (.h 0 [] [] .e (.h 0 [] [] (.h 0 [] [] .e (.h 0 [] [] (.h 0 [4, 20] [0, 2, 19] (.h 0 [] [] .e (.h 0 [] [] .e (.h 1 [4] [0, 2, 19, 20] .e .e))) .e) .e)) .e)))) [a0] H R = L18 g a0 H R := by kernel_rfl
theorem L18_sound {g : World} {a0 : Value} {H : Hp} {R : Ending → Hp → Prop} (h : L18 g a0 H R) : SCalls Try.prog g 18 #[a0] H R :=
  denF_sound (fn := Try.f18) (hn := (.h 0 [] [] .e (.h 0 [] [] .e (.h 0 [] [] .e (.h 0 [] [] (.h 0 [] [] .e (.h 0 [] [] (.h 0 [4, 20] [0, 2, 19] (.h 0 [] [] .e (.h 0 [] [] .e (.h 1 [4] [0, 2, 19, 20] .e .e))) .e) .e)) .e))))) Try.func18 (by rw [L18_eq]; exact h)
/-- thicket.thicketref03.Move -/
def L19 (g : World) (a0 a1 : Value) (H : Hp) (R : Ending → Hp → Prop) : Prop :=
New H (.cells (Value.cells a1) 52 (0, 0)) fun b1 H2 =>
LdA 3 H2 (.pointer (some ⟨b1, 0, none⟩)) fun v3 =>
CallF Try.prog g 38 #[a0, v3] H2 (fun v4 H5 =>
Bin .num .lss v4 (Value.int .i64 0) fun v6 =>
Br v6 (
R (.returned (Value.int .i64 10)) H5) (
DR H5 fun R7 =>
Nil a0 fun v8 =>
FAddr 0 v8 fun v9 =>
Ld R7 v9 fun v10 =>
FAddr 2 (.pointer (some ⟨b1, 0, none⟩)) fun v11 =>
Ld R7 v11 fun v12 =>
IAddr 3 v10 v4 fun v13 =>
FAddr 2 v13 fun v14 =>
St 1 H5 v14 v12 fun H15 =>
R (.returned (Value.int .i64 0)) H15)) (PanR R)
theorem L19_eq (g : World) (a0 a1 : Value) (H : Hp) (R : Ending → Hp → Prop) : denF Try.prog g Try.f19 (.h 0 [] [] .e (.h 0 [] [] .e (.h 0 [] [] .e (.h 0 [] [] (.h 0 [0, 1, 2, 3, 4, 5, 6, 7, 8, 9] [] .e .e) .e)))) [a0, a1] H R = L19 g a0 a1 H R := by kernel_rfl
theorem L19_sound {g : World} {a0 a1 : Value} {H : Hp} {R : Ending → Hp → Prop} (h : L19 g a0 a1 H R) : SCalls Try.prog g 19 #[a0, a1] H R :=
  denF_sound (fn := Try.f19) (hn := (.h 0 [] [] .e (.h 0 [] [] .e (.h 0 [] [] .e (.h 0 [] [] (.h 0 [0, 1, 2, 3, 4, 5, 6, 7, 8, 9] [] .e .e) .e))))) Try.func19 (by rw [L19_eq]; exact h)
/-- (*thicket.heap.Heap[uint64]).Key -/
def L20 (g : World) (a0 a1 : Value) (H : Hp) (R : Ending → Hp → Prop) : Prop :=
Bin .ptr .eql a0 (.pointer none) fun v1 =>
Br v1 (
R (.returned (.tuple #[(Value.int .i64 0), (Value.int .i64 10)])) H) (
Nil a0 fun v2 =>
FAddr 1 v2 fun v3 =>
Ld H v3 fun v4 =>
Look (.int .u64) (Value.int .i64 0) true H v4 a1 fun v5 =>
Ext 0 v5 fun v6 =>
Ext 1 v5 fun v7 =>
Un .not v7 fun v8 =>
Br v8 (
R (.returned (.tuple #[(Value.int .i64 0), (Value.int .i64 10)])) H) (
Nil a0 fun v9 =>
FAddr 0 v9 fun v10 =>
Ld H v10 fun v11 =>
IAddr 2 v11 v6 fun v12 =>
FAddr 1 v12 fun v13 =>
Ld H v13 fun v14 =>
R (.returned (.tuple #[v14, (Value.int .i64 0)])) H))
theorem L20_eq (g : World) (a0 a1 : Value) (H : Hp) (R : Ending → Hp → Prop) : denF Try.prog g Try.f20 .e [a0, a1] H R = L20 g a0 a1 H R := by kernel_rfl
theorem L20_sound {g : World} {a0 a1 : Value} {H : Hp} {R : Ending → Hp → Prop} (h : L20 g a0 a1 H R) : SCalls Try.prog g 20 #[a0, a1] H R :=
  denF_sound (fn := Try.f20) (hn := .e) Try.func20 (by rw [L20_eq]; exact h)
/-- thicket.thicketref03.Key -/
def L21 (g : World) (a0 a1 : Value) (H : Hp) (R : Ending → Hp → Prop) : Prop :=
New H (.cells (Value.cells a1) 52 (0, 0)) fun b1 H2 =>
LdA 3 H2 (.pointer (some ⟨b1, 0, none⟩)) fun v3 =>
CallF Try.prog g 38 #[a0, v3] H2 (fun v4 H5 =>
Bin .num .lss v4 (Value.int .i64 0) fun v6 =>
Br v6 (
R (.returned (.tuple #[(Value.int .i64 0), (Value.int .i64 10)])) H5) (
Nil a0 fun v7 =>
FAddr 0 v7 fun v8 =>
Ld H5 v8 fun v9 =>
IAddr 3 v9 v4 fun v10 =>
FAddr 2 v10 fun v11 =>
Ld H5 v11 fun v12 =>
R (.returned (.tuple #[v12, (Value.int .i64 0)])) H5)) (PanR R)
theorem L21_eq (g : World) (a0 a1 : Value) (H : Hp) (R : Ending → Hp → Prop) : denF Try.prog g Try.f21 .e [a0, a1] H R = L21 g a0 a1 H R := by kernel_rfl
theorem L21_sound {g : World} {a0 a1 : Value} {H : Hp} {R : Ending → Hp → Prop} (h : L21 g a0 a1 H R) : SCalls Try.prog g 21 #[a0, a1] H R :=
  denF_sound (fn := Try.f21) (hn := .e) Try.func21 (by rw [L21_eq]; exact h)
/-- (*thicket.heap.Heap[int]).Pop -/
def L22 (g : World) (a0 : Value) (H : Hp) (R : Ending → Hp → Prop) : Prop :=
Bin .ptr .eql a0 (.pointer none) fun v1 =>
Grp v1 false (fun t2 =>
Nil a0 fun v3 =>
FAddr 0 v3 fun v4 =>
Ld H v4 fun v5 =>
LenS v5 fun v6 =>
Bin .num .eql v6 (Value.int .i64 0) fun v7 =>
(H = H ∧ v7 = Value.bool t2)) (fun t2 => (Value.bool true) = Value.bool t2) fun t2 => ∀ gs8 : Fr,
Br (Value.bool t2) (
R (.returned (.tuple #[(Value.int .i64 0), (Value.int .i64 0), (Value.int .i64 10)])) H) (
Nil a0 fun v9 =>
FAddr 0 v9 fun v10 =>
Ld H v10 fun v11 =>
IAddr 2 v11 (Value.int .i64 0) fun v12 =>
LdA 2 H v12 fun v13 =>
New H (.cells #[(Value.int .i64 0), (Value.int .i64 0)] 90 (0, 0)) fun b14 H15 =>
St 2 H15 (.pointer (some ⟨b14, 0, none⟩)) v13 fun H16 =>
Nil a0 fun v17 =>
FAddr 0 v17 fun v18 =>
Ld H16 v18 fun v19 =>
LenS v19 fun v20 =>
Bin .num .sub v20 (Value.int .i64 1) fun v21 =>
Nil a0 fun v22 =>
FAddr 0 v22 fun v23 =>
Ld H16 v23 fun v24 =>
IAddr 2 v24 v21 fun v25 =>
LdA 2 H16 v25 fun v26 =>
New H16 (.cells #[(Value.int .i64 0), (Value.int .i64 0)] 90 (0, 0)) fun b27 H28 =>
St 2 H28 (.pointer (some ⟨b27, 0, none⟩)) v26 fun H29 =>
Nil a0 fun v30 =>
FAddr 0 v30 fun v31 =>
Ld H29 v31 fun v32 =>
SliceE 2 v32 none (some v21) fun v33 =>
Nil a0 fun v34 =>
FAddr 0 v34 fun v35 =>
St 1 H29 v35 v33 fun H36 =>
DR H36 fun R37 =>
Nil a0 fun v38 =>
FAddr 1 v38 fun v39 =>
Ld R37 v39 fun v40 =>
FAddr 0 (.pointer (some ⟨b14, 0, none⟩)) fun v41 =>
Ld R37 v41 fun v42 =>
MapDel (.int .i64) H36 v40 v42 fun H45 =>
∀ J46 : List Value → Hp → Prop, (∀ H48 : Hp, (∀ gs47 : Fr,
FAddr 0 (.pointer (some ⟨b14, 0, none⟩)) fun v49 =>
Ld H48 v49 fun v50 =>
FAddr 1 (.pointer (some ⟨b14, 0, none⟩)) fun v51 =>
Ld H48 v51 fun v52 =>
R (.returned (.tuple #[v50, v52, (Value.int .i64 0)])) H48) → J46 [] H48) →
Bin .num .gtr v21 (Value.int .i64 0) fun v53 =>
Br v53 (
LdA 2 H45 (.pointer (some ⟨b27, 0, none⟩)) fun v54 =>
CallF Try.prog g 40 #[a0, (Value.int .i64 0), v54] H45 (fun v55 H56 =>
CallF Try.prog g 41 #[a0, (Value.int .i64 0)] H56 (fun v57 H58 =>
JE J46 [] H58) (PanR R)) (PanR R)) (
JE J46 [] H45))
theorem L22_eq (g : World) (a0 : Value) (H : Hp) (R : Ending → Hp → Prop) : denF Try.prog g Try.f22 (.h 0 [] [] .e (.h 0 [] [] .e (.h 0 [] [] (.h 0 [] [] (.h 0 [] [1] .e .e) .e) (.h 0 [] [] .e (.h 0 [] [] .e (.h 0 [] [] .e (.h 0 [] [] .e (.h 0 [] [] (.h 0 [0, 1, 2, 3, 4, 5, 6] [] .e .e) (.h 1 [] [6] .e .e))))))))) [a0] H R = L22 g a0 H R := by kernel_rfl
theorem L22_sound {g : World} {a0 : Value} {H : Hp} {R : Ending → Hp → Prop} (h : L22 g a0 H R) : SCalls Try.prog g 22 #[a0] H R :=
  denF_sound (fn := Try.f22) (hn := (.h 0 [] [] .e (.h 0 [] [] .e (.h 0 [] [] (.h 0 [] [] (.h 0 [] [1] .e .e) .e) (.h 0 [] [] .e (.h 0 [] [] .e (.h 0 [] [] .e (.h 0 [] [] .e (.h 0 [] [] (.h 0 [0, 1, 2, 3, 4, 5, 6] [] .e .e) (.h 1 [] [6] .e .e)))))))))) Try.func22 (by rw [L22_eq]; exact h)
/-- (*thicket.heap.Heap[int]).Key -/
def L23 (g : World) (a0 a1 : Value) (H : Hp) (R : Ending → Hp → Prop) : Prop :=
Bin .ptr .eql a0 (.pointer none) fun v1 =>
Br v1 (
R (.returned (.tuple #[(Value.int .i64 0), (Value.int .i64 10)])) H) (
Nil a0 fun v2 =>
FAddr 1 v2 fun v3 =>
Ld H v3 fun v4 =>
Look (.int .i64) (Value.int .i64 0) true H v4 a1 fun v5 =>
Ext 0 v5 fun v6 =>
Ext 1 v5 fun v7 =>
Un .not v7 fun v8 =>
Br v8 (
R (.returned (.tuple #[(Value.int .i64 0), (Value.int .i64 10)])) H) (
Nil a0 fun v9 =>
FAddr 0 v9 fun v10 =>
Ld H v10 fun v11 =>
IAddr 2 v11 v6 fun v12 =>
FAddr 1 v12 fun v13 =>
Ld H v13 fun v14 =>
R (.returned (.tuple #[v14, (Value.int .i64 0)])) H))
theorem L23_eq (g : World) (a0 a1 : Value) (H : Hp) (R : Ending → Hp → Prop) : denF Try.prog g Try.f23 .e [a0, a1] H R = L23 g a0 a1 H R := by kernel_rfl
theorem L23_sound {g : World} {a0 a1 : Value} {H : Hp} {R : Ending → Hp → Prop} (h : L23 g a0 a1 H R) : SCalls Try.prog g 23 #[a0, a1] H R :=
  denF_sound (fn := Try.f23) (hn := .e) Try.func23 (by rw [L23_eq]; exact h)
/-- (*thicket.heap.Heap[int]).Push -/
def L24 (g : World) (a0 a1 a2 : Value) (H : Hp) (R : Ending → Hp → Prop) : Prop :=
Bin .ptr .eql a0 (.pointer none) fun v1 =>
Br v1 (
R (.returned (Value.int .i64 10)) H) (
Nil a0 fun v2 =>
FAddr 1 v2 fun v3 =>
Ld H v3 fun v4 =>
Look (.int .i64) (Value.int .i64 0) true H v4 a1 fun v5 =>
Ext 0 v5 fun v6 =>
Ext 1 v5 fun v7 =>
Br v7 (
R (.returned (Value.int .i64 11)) H) (
∀ J8 : List Value → Hp → Prop, (∀ H10 : Hp, (∀ gs9 : Fr,
Nil a0 fun v11 =>
FAddr 0 v11 fun v12 =>
Ld H10 v12 fun v13 =>
Build Try.prog 90 [(0, a1), (1, a2)] fun v14 =>
BuildSl Try.prog 85 1 [(0, v14)] H10 fun v15 H16 =>
App Try.prog 90 2 16 (.agg #[(Value.int .i64 0), (Value.int .i64 0)]) H16 v13 v15 fun v19 H20 =>
Nil a0 fun v21 =>
FAddr 0 v21 fun v22 =>
St 1 H20 v22 v19 fun H23 =>
Nil a0 fun v24 =>
FAddr 0 v24 fun v25 =>
Ld H23 v25 fun v26 =>
LenS v26 fun v27 =>
Bin .num .sub v27 (Value.int .i64 1) fun v28 =>
CallF Try.prog g 42 #[a0, v28] H23 (fun v29 H30 =>
R (.returned (Value.int .i64 0)) H30) (PanR R)) → J8 [] H10) →
Nil a0 fun v31 =>
FAddr 1 v31 fun v32 =>
Ld H v32 fun v33 =>
Bin .map .eql v33 (.map none) fun v34 =>
Br v34 (
MkMap H fun v35 H36 =>
Nil a0 fun v37 =>
FAddr 1 v37 fun v38 =>
St 1 H36 v38 v35 fun H39 =>
JE J8 [] H39) (
JE J8 [] H)))
theorem L24_eq (g : World) (a0 a1 a2 : Value) (H : Hp) (R : Ending → Hp → Prop) : denF Try.prog g Try.f24 (.h 0 [] [] .e (.h 0 [] [] .e (.h 0 [] [] .e (.h 1 [] [0, 1, 2] .e .e)))) [a0, a1, a2] H R = L24 g a0 a1 a2 H R := by kernel_rfl
theorem L24_sound {g : World} {a0 a1 a2 : Value} {H : Hp} {R : Ending → Hp → Prop} (h : L24 g a0 a1 a2 H R) : SCalls Try.prog g 24 #[a0, a1, a2] H R :=
  denF_sound (fn := Try.f24) (hn := (.h 0 [] [] .e (.h 0 [] [] .e (.h 0 [] [] .e (.h 1 [] [0, 1, 2] .e .e))))) Try.func24 (by rw [L24_eq]; exact h)
/-- (*thicket.heap.Heap[int]).Move -/
def L25 (g : World) (a0 a1 a2 : Value) (H : Hp) (R : Ending → Hp → Prop) : Prop :=
Bin .ptr .eql a0 (.pointer none) fun v1 =>
Br v1 (
R (.returned (Value.int .i64 10)) H) (
Nil a0 fun v2 =>
FAddr 1 v2 fun v3 =>
Ld H v3 fun v4 =>
Look (.int .i64) (Value.int .i64 0) true H v4 a1 fun v5 =>
Ext 0 v5 fun v6 =>
Ext 1 v5 fun v7 =>
Un .not v7 fun v8 =>
Br v8 (
R (.returned (Value.int .i64 10)) H) (
Nil a0 fun v9 =>
FAddr 0 v9 fun v10 =>
Ld H v10 fun v11 =>
IAddr 2 v11 v6 fun v12 =>
FAddr 1 v12 fun v13 =>
St 1 H v13 a2 fun H14 =>
CallF Try.prog g 42 #[a0, v6] H14 (fun v15 H16 =>
Nil a0 fun v17 =>
FAddr 1 v17 fun v18 =>
Ld H16 v18 fun v19 =>
Look (.int .i64) (Value.int .i64 0) false H16 v19 a1 fun v20 =>
CallF Try.prog g 41 #[a0, v20] H16 (fun v21 H22 =>
R (.returned (Value.int .i64 0)) H22) (PanR R)) (PanR R)))
theorem L25_eq (g : World) (a0 a1 a2 : Value) (H : Hp) (R : Ending → Hp → Prop) : denF Try.prog g Try.f25 .e [a0, a1, a2] H R = L25 g a0 a1 a2 H R := by kernel_rfl
theorem L25_sound {g : World} {a0 a1 a2 : Value} {H : Hp} {R : Ending → Hp → Prop} (h : L25 g a0 a1 a2 H R) : SCalls Try.prog g 25 #[a0, a1, a2] H R :=
  denF_sound (fn := Try.f25) (hn := .e) Try.func25 (by rw [L25_eq]; exact h)
/-- (*thicket.heap.Heap[int]).Len -/
def L26 (g : World) (a0 : Value) (H : Hp) (R : Ending → Hp → Prop) : Prop :=
Bin .ptr .eql a0 (.pointer none) fun v1 =>
Br v1 (
R (.returned (Value.int .i64 0)) H) (
Nil a0 fun v2 =>
FAddr 0 v2 fun v3 =>
Ld H v3 fun v4 =>
LenS v4 fun v5 =>
R (.returned v5) H)
theorem L26_eq (g : World) (a0 : Value) (H : Hp) (R : Ending → Hp → Prop) : denF Try.prog g Try.f26 .e [a0] H R = L26 g a0 H R := by kernel_rfl
theorem L26_sound {g : World} {a0 : Value} {H : Hp} {R : Ending → Hp → Prop} (h : L26 g a0 H R) : SCalls Try.prog g 26 #[a0] H R :=
  denF_sound (fn := Try.f26) (hn := .e) Try.func26 (by rw [L26_eq]; exact h)
/-- thicket.heap.New[int] -/
def L27 (g : World) (H : Hp) (R : Ending → Hp → Prop) : Prop :=
Build Try.prog 88 [] fun v1 =>
New H (.cells (Value.cells v1) 88 (0, 0)) fun b2 H3 =>
R (.returned (.pointer (some ⟨b2, 0, none⟩))) H3
theorem L27_eq (g : World) (H : Hp) (R : Ending → Hp → Prop) : denF Try.prog g Try.f27 .e [] H R = L27 g H R := by kernel_rfl
theorem L27_sound {g : World} {H : Hp} {R : Ending → Hp → Prop} (h : L27 g H R) : SCalls Try.prog g 27 #[] H R :=
  denF_sound (fn := Try.f27) (hn := .e) Try.func27 (by rw [L27_eq]; exact h)
/-- (*thicket.heap.Heap[uint64]).up -/
def L28 (g : World) (a0 a1 : Value) (H : Hp) (R : Ending → Hp → Prop) : Prop :=
Nil a0 fun v1 =>
FAddr 0 v1 fun v2 =>
Ld H v2 fun v3 =>
IAddr 2 v3 a1 fun v4 =>
LdA 2 H v4 fun v5 =>
New H (.cells #[(Value.int .u64 0), (Value.int .i64 0)] 75 (0, 0)) fun b6 H7 =>
St 2 H7 (.pointer (some ⟨b6, 0, none⟩)) v5 fun H8 =>
∃ (I9 : List Value → Hp → Prop) (m10 : List Value → Hp → Nat), JE I9 [a1] H8 ∧ ∀ w13 : Value, ∀ H12 : Hp, I9 [w13] H12 → ∀ gs11 : Fr,
Bin .num .gtr w13 (Value.int .i64 0) fun v14 =>
Grp v14 true (fun t15 =>
LdA 2 H12 (.pointer (some ⟨b6, 0, none⟩)) fun v16 =>
Nil a0 fun v17 =>
FAddr 0 v17 fun v18 =>
Ld H12 v18 fun v19 =>
Bin .num .sub w13 (Value.int .i64 1) fun v20 =>
Bin .num .quo v20 (Value.int .i64 2) fun v21 =>
IAddr 2 v19 v21 fun v22 =>
LdA 2 H12 v22 fun v23 =>
CallQ Try.prog g 43 #[v16, v23] H12 fun v24 =>
(H12 = H12 ∧ v24 = Value.bool t15)) (fun t15 => (Value.bool false) = Value.bool t15) fun t15 => ∀ gs25 : Fr,
Br (Value.bool t15) (
Nil a0 fun v26 =>
FAddr 0 v26 fun v27 =>
Ld H12 v27 fun v28 =>
Bin .num .sub w13 (Value.int .i64 1) fun v29 =>
Bin .num .quo v29 (Value.int .i64 2) fun v30 =>
IAddr 2 v28 v30 fun v31 =>
LdA 2 H12 v31 fun v32 =>
CallF Try.prog g 30 #[a0, w13, v32] H12 (fun v33 H34 =>
Bin .num .sub w13 (Value.int .i64 1) fun v35 =>
Bin .num .quo v35 (Value.int .i64 2) fun v36 =>
Back I9 m10 [v36] H34 [w13] H12) (PanR R)) (
LdA 2 H12 (.pointer (some ⟨b6, 0, none⟩)) fun v37 =>
CallF Try.prog g 30 #[a0, w13, v37] H12 (fun v38 H39 =>
R (.returned (.tuple #[])) H39) (PanR R))
theorem L28_eq (g : World) (a0 a1 : Value) (H : Hp) (R : Ending → Hp → Prop) : denF Try.prog g Try.f28 (.h 0 [] [] .e (.h 0 [] [] (.h 0 [] [] (.h 0 [1] [0, 4] .e .e) .e) .e)) [a0, a1] H R = L28 g a0 a1 H R := by kernel_rfl
theorem L28_sound {g : World} {a0 a1 : Value} {H : Hp} {R : Ending → Hp → Prop} (h : L28 g a0 a1 H R) : SCalls Try.prog g 28 #[a0, a1] H R :=
  denF_sound (fn := Try.f28) (hn := (.h 0 [] [] .e (.h 0 [] [] (.h 0 [] [] (.h 0 [1] [0, 4] .e .e) .e) .e))) Try.func28 (by rw [L28_eq]; exact h)
/-- (*thicket.heap.Heap[uint64]).down -/
def L29 (g : World) (a0 a1 : Value) (H : Hp) (R : Ending → Hp → Prop) : Prop :=
Nil a0 fun v1 =>
FAddr 0 v1 fun v2 =>
Ld H v2 fun v3 =>
IAddr 2 v3 a1 fun v4 =>
LdA 2 H v4 fun v5 =>
New H (.cells #[(Value.int .u64 0), (Value.int .i64 0)] 75 (0, 0)) fun b6 H7 =>
St 2 H7 (.pointer (some ⟨b6, 0, none⟩)) v5 fun H8 =>
∃ (I9 : List Value → Hp → Prop) (m10 : List Value → Hp → Nat), JE I9 [a1] H8 ∧ ∀ w13 : Value, ∀ H12 : Hp, I9 [w13] H12 → ∀ gs11 : Fr,
Bin .num .mul (Value.int .i64 2) w13 fun v14 =>
Bin .num .add v14 (Value.int .i64 1) fun v15 =>
∀ J16 : List Value → Hp → Prop, (∀ w19 : Value, ∀ H18 : Hp, (∀ gs17 : Fr,
Nil a0 fun v20 =>
FAddr 0 v20 fun v21 =>
Ld H18 v21 fun v22 =>
LenS v22 fun v23 =>
Bin .num .geq w19 v23 fun v24 =>
Grp v24 false (fun t25 =>
Nil a0 fun v26 =>
FAddr 0 v26 fun v27 =>
Ld H18 v27 fun v28 =>
IAddr 2 v28 w19 fun v29 =>
LdA 2 H18 v29 fun v30 =>
LdA 2 H18 (.pointer (some ⟨b6, 0, none⟩)) fun v31 =>
CallQ Try.prog g 43 #[v30, v31] H18 fun v32 =>
Un .not v32 fun v33 =>
(H18 = H18 ∧ v33 = Value.bool t25)) (fun t25 => (Value.bool true) = Value.bool t25) fun t25 => ∀ gs34 : Fr,
Br (Value.bool t25) (
LdA 2 H18 (.pointer (some ⟨b6, 0, none⟩)) fun v35 =>
CallF Try.prog g 30 #[a0, w13, v35] H18 (fun v36 H37 =>
R (.returned (.tuple #[])) H37) (PanR R)) (
Nil a0 fun v38 =>
FAddr 0 v38 fun v39 =>
Ld H18 v39 fun v40 =>
IAddr 2 v40 w19 fun v41 =>
LdA 2 H18 v41 fun v42 =>
CallF Try.prog g 30 #[a0, w13, v42] H18 (fun v43 H44 =>
Back I9 m10 [w19] H44 [w13] H12) (PanR R))) → J16 [w19] H18) →
Bin .num .add v15 (Value.int .i64 1) fun v45 =>
Nil a0 fun v46 =>
FAddr 0 v46 fun v47 =>
Ld H12 v47 fun v48 =>
LenS v48 fun v49 =>
Bin .num .lss v45 v49 fun v50 =>
Grp v50 true (fun t51 =>
Nil a0 fun v52 =>
FAddr 0 v52 fun v53 =>
Ld H12 v53 fun v54 =>
Bin .num .add v15 (Value.int .i64 1) fun v55 =>
IAddr 2 v54 v55 fun v56 =>
LdA 2 H12 v56 fun v57 =>
Nil a0 fun v58 =>
FAddr 0 v58 fun v59 =>
Ld H12 v59 fun v60 =>
IAddr 2 v60 v15 fun v61 =>
LdA 2 H12 v61 fun v62 =>
CallQ Try.prog g 43 #[v57, v62] H12 fun v63 =>
(H12 = H12 ∧ v63 = Value.bool t51)) (fun t51 => (Value.bool false) = Value.bool t51) fun t51 => ∀ gs64 : Fr,
Br (Value.bool t51) (
Bin .num .add v15 (Value.int .i64 1) fun v65 =>
JE J16 [v65] H12) (
JE J16 [v15] H12)
theorem L29_eq (g : World) (a0 a1 : Value) (H : Hp) (R : Ending → Hp → Prop) : denF Try.prog g Try.f29 (.h 0 [] [] .e (.h 0 [] [] (.h 0 [] [] (.h 0 [1] [0, 4] (.h 0 [] [] (.h 0 [] [] .e (.h 1 [5] [0, 1, 4] .e .e)) .e) .e) .e) .e)) [a0, a1] H R = L29 g a0 a1 H R := by kernel_rfl
theorem L29_sound {g : World} {a0 a1 : Value} {H : Hp} {R : Ending → Hp → Prop} (h : L29 g a0 a1 H R) : SCalls Try.prog g 29 #[a0, a1] H R :=
  denF_sound (fn := Try.f29) (hn := (.h 0 [] [] .e (.h 0 [] [] (.h 0 [] [] (.h 0 [1] [0, 4] (.h 0 [] [] (.h 0 [] [] .e (.h 1 [5] [0, 1, 4] .e .e)) .e) .e) .e) .e))) Try.func29 (by rw [L29_eq]; exact h)
/-- (*thicket.heap.Heap[uint64]).put -/
def L30 (g : World) (a0 a1 a2 : Value) (H : Hp) (R : Ending → Hp → Prop) : Prop :=
New H (.cells (Value.cells a2) 75 (0, 0)) fun b1 H2 =>
DR H2 fun R3 =>
Nil a0 fun v4 =>
FAddr 0 v4 fun v5 =>
Ld R3 v5 fun v6 =>
LdA 2 R3 (.pointer (some ⟨b1, 0, none⟩)) fun v7 =>
IAddr 2 v6 a1 fun v8 =>
St 2 H2 v8 v7 fun H9 =>
DR H9 fun R10 =>
Nil a0 fun v11 =>
FAddr 1 v11 fun v12 =>
Ld R10 v12 fun v13 =>
FAddr 0 (.pointer (some ⟨b1, 0, none⟩)) fun v14 =>
Ld R10 v14 fun v15 =>
MapUpd (.int .u64) H9 v13 v15 a1 fun H16 =>
R (.returned (.tuple #[])) H16
theorem L30_eq (g : World) (a0 a1 a2 : Value) (H : Hp) (R : Ending → Hp → Prop) : denF Try.prog g Try.f30 (.h 0 [] [] .e (.h 0 [] [] (.h 0 [0, 1, 2, 3, 4, 5, 6, 7] [] .e .e) (.h 0 [0, 1, 2, 3, 4, 5, 6, 7] [] .e .e))) [a0, a1, a2] H R = L30 g a0 a1 a2 H R := by kernel_rfl
theorem L30_sound {g : World} {a0 a1 a2 : Value} {H : Hp} {R : Ending → Hp → Prop} (h : L30 g a0 a1 a2 H R) : SCalls Try.prog g 30 #[a0, a1, a2] H R :=
  denF_sound (fn := Try.f30) (hn := (.h 0 [] [] .e (.h 0 [] [] (.h 0 [0, 1, 2, 3, 4, 5, 6, 7] [] .e .e) (.h 0 [0, 1, 2, 3, 4, 5, 6, 7] [] .e .e)))) Try.func30 (by rw [L30_eq]; exact h)
/-- thicket.thicketlaw03.number -/
def L31 (g : World) (a0 : Value) (H : Hp) (R : Ending → Hp → Prop) : Prop :=
New H (.cells (Value.cells a0) 48 (0, 0)) fun b1 H2 =>
FAddr 1 (.pointer (some ⟨b1, 0, none⟩)) fun v3 =>
Ld H2 v3 fun v4 =>
Bin .num .shr v4 (Value.int .u64 1) fun v5 =>
ConvI .i64 v5 fun v6 =>
FAddr 2 (.pointer (some ⟨b1, 0, none⟩)) fun v7 =>
Ld H2 v7 fun v8 =>
Br v8 (
Bin .num .sub (Value.int .i64 (-1)) v6 fun v9 =>
R (.returned v9) H2) (
R (.returned v6) H2)
theorem L31_eq (g : World) (a0 : Value) (H : Hp) (R : Ending → Hp → Prop) : denF Try.prog g Try.f31 .e [a0] H R = L31 g a0 H R := by kernel_rfl
theorem L31_sound {g : World} {a0 : Value} {H : Hp} {R : Ending → Hp → Prop} (h : L31 g a0 H R) : SCalls Try.prog g 31 #[a0] H R :=
  denF_sound (fn := Try.f31) (hn := .e) Try.func31 (by rw [L31_eq]; exact h)
/-- (*thicket.heap.Heap[thicket.thicketlaw03.num]).Push -/
def L32 (g : World) (a0 a1 a2 : Value) (H : Hp) (R : Ending → Hp → Prop) : Prop :=
Bin .ptr .eql a0 (.pointer none) fun v1 =>
Br v1 (
R (.returned (Value.int .i64 10)) H) (
Nil a0 fun v2 =>
FAddr 1 v2 fun v3 =>
Ld H v3 fun v4 =>
Look (.int .i64) (Value.int .i64 0) true H v4 a1 fun v5 =>
Ext 0 v5 fun v6 =>
Ext 1 v5 fun v7 =>
Br v7 (
R (.returned (Value.int .i64 11)) H) (
∀ J8 : List Value → Hp → Prop, (∀ H10 : Hp, (∀ gs9 : Fr,
Nil a0 fun v11 =>
FAddr 0 v11 fun v12 =>
Ld H10 v12 fun v13 =>
Build Try.prog 95 [(0, a1), (1, a2)] fun v14 =>
BuildSl Try.prog 39 1 [(0, v14)] H10 fun v15 H16 =>
App Try.prog 95 2 16 (.agg #[(Value.int .i64 0), (Value.int .i64 0)]) H16 v13 v15 fun v19 H20 =>
Nil a0 fun v21 =>
FAddr 0 v21 fun v22 =>
St 1 H20 v22 v19 fun H23 =>
Nil a0 fun v24 =>
FAddr 0 v24 fun v25 =>
Ld H23 v25 fun v26 =>
LenS v26 fun v27 =>
Bin .num .sub v27 (Value.int .i64 1) fun v28 =>
CallF Try.prog g 44 #[a0, v28] H23 (fun v29 H30 =>
R (.returned (Value.int .i64 0)) H30) (PanR R)) → J8 [] H10) →
Nil a0 fun v31 =>
FAddr 1 v31 fun v32 =>
Ld H v32 fun v33 =>
Bin .map .eql v33 (.map none) fun v34 =>
Br v34 (
MkMap H fun v35 H36 =>
Nil a0 fun v37 =>
FAddr 1 v37 fun v38 =>
St 1 H36 v38 v35 fun H39 =>
JE J8 [] H39) (
JE J8 [] H)))
theorem L32_eq (g : World) (a0 a1 a2 : Value) (H : Hp) (R : Ending → Hp → Prop) : denF Try.prog g Try.f32 (.h 0 [] [] .e (.h 0 [] [] .e (.h 0 [] [] .e (.h 1 [] [0, 1, 2] .e .e)))) [a0, a1, a2] H R = L32 g a0 a1 a2 H R := by kernel_rfl
theorem L32_sound {g : World} {a0 a1 a2 : Value} {H : Hp} {R : Ending → Hp → Prop} (h : L32 g a0 a1 a2 H R) : SCalls Try.prog g 32 #[a0, a1, a2] H R :=
  denF_sound (fn := Try.f32) (hn := (.h 0 [] [] .e (.h 0 [] [] .e (.h 0 [] [] .e (.h 1 [] [0, 1, 2] .e .e))))) Try.func32 (by rw [L32_eq]; exact h)
/-- thicket.thicketlaw03.thing -/
def L33 (g : World) (a0 a1 : Value) (H : Hp) (R : Ending → Hp → Prop) : Prop :=
New H (.cells #[(Value.int .u64 0), (Value.bool false), (Value.int .i64 0)] 52 (0, 0)) fun b1 H2 =>
Bin .num .lss a0 (Value.int .i64 0) fun v3 =>
Br v3 (
ConvI .u64 a0 fun v4 =>
Bin .num .sub v4 (Value.int .u64 9223372036854775808) fun v5 =>
Build Try.prog 52 [(0, v5), (1, (Value.bool true)), (2, a1)] fun v6 =>
St 3 H2 (.pointer (some ⟨b1, 0, none⟩)) v6 fun H7 =>
LdA 3 H7 (.pointer (some ⟨b1, 0, none⟩)) fun v8 =>
R (.returned v8) H7) (
ConvI .u64 a0 fun v9 =>
Build Try.prog 52 [(0, v9), (2, a1)] fun v10 =>
St 3 H2 (.pointer (some ⟨b1, 0, none⟩)) v10 fun H11 =>
LdA 3 H11 (.pointer (some ⟨b1, 0, none⟩)) fun v12 =>
R (.returned v12) H11)
theorem L33_eq (g : World) (a0 a1 : Value) (H : Hp) (R : Ending → Hp → Prop) : denF Try.prog g Try.f33 .e [a0, a1] H R = L33 g a0 a1 H R := by kernel_rfl
theorem L33_sound {g : World} {a0 a1 : Value} {H : Hp} {R : Ending → Hp → Prop} (h : L33 g a0 a1 H R) : SCalls Try.prog g 33 #[a0, a1] H R :=
  denF_sound (fn := Try.f33) (hn := .e) Try.func33 (by rw [L33_eq]; exact h)
/-- (*thicket.heap.Heap[thicket.thicketlaw03.num]).Pop -/
def L34 (g : World) (a0 : Value) (H : Hp) (R : Ending → Hp → Prop) : Prop :=
Bin .ptr .eql a0 (.pointer none) fun v1 =>
Grp v1 false (fun t2 =>
Nil a0 fun v3 =>
FAddr 0 v3 fun v4 =>
Ld H v4 fun v5 =>
LenS v5 fun v6 =>
Bin .num .eql v6 (Value.int .i64 0) fun v7 =>
(H = H ∧ v7 = Value.bool t2)) (fun t2 => (Value.bool true) = Value.bool t2) fun t2 => ∀ gs8 : Fr,
Br (Value.bool t2) (
R (.returned (.tuple #[(Value.int .i64 0), (Value.int .i64 0), (Value.int .i64 10)])) H) (
Nil a0 fun v9 =>
FAddr 0 v9 fun v10 =>
Ld H v10 fun v11 =>
IAddr 2 v11 (Value.int .i64 0) fun v12 =>
LdA 2 H v12 fun v13 =>
New H (.cells #[(Value.int .i64 0), (Value.int .i64 0)] 95 (0, 0)) fun b14 H15 =>
St 2 H15 (.pointer (some ⟨b14, 0, none⟩)) v13 fun H16 =>
Nil a0 fun v17 =>
FAddr 0 v17 fun v18 =>
Ld H16 v18 fun v19 =>
LenS v19 fun v20 =>
Bin .num .sub v20 (Value.int .i64 1) fun v21 =>
Nil a0 fun v22 =>
FAddr 0 v22 fun v23 =>
Ld H16 v23 fun v24 =>
IAddr 2 v24 v21 fun v25 =>
LdA 2 H16 v25 fun v26 =>
New H16 (.cells #[(Value.int .i64 0), (Value.int .i64 0)] 95 (0, 0)) fun b27 H28 =>
St 2 H28 (.pointer (some ⟨b27, 0, none⟩)) v26 fun H29 =>
Nil a0 fun v30 =>
FAddr 0 v30 fun v31 =>
Ld H29 v31 fun v32 =>
SliceE 2 v32 none (some v21) fun v33 =>
Nil a0 fun v34 =>
FAddr 0 v34 fun v35 =>
St 1 H29 v35 v33 fun H36 =>
DR H36 fun R37 =>
Nil a0 fun v38 =>
FAddr 1 v38 fun v39 =>
Ld R37 v39 fun v40 =>
FAddr 0 (.pointer (some ⟨b14, 0, none⟩)) fun v41 =>
Ld R37 v41 fun v42 =>
MapDel (.int .i64) H36 v40 v42 fun H45 =>
∀ J46 : List Value → Hp → Prop, (∀ H48 : Hp, (∀ gs47 : Fr,
FAddr 0 (.pointer (some ⟨b14, 0, none⟩)) fun v49 =>
Ld H48 v49 fun v50 =>
FAddr 1 (.pointer (some ⟨b14, 0, none⟩)) fun v51 =>
Ld H48 v51 fun v52 =>
R (.returned (.tuple #[v50, v52, (Value.int .i64 0)])) H48) → J46 [] H48) →
Bin .num .gtr v21 (Value.int .i64 0) fun v53 =>
Br v53 (
LdA 2 H45 (.pointer (some ⟨b27, 0, none⟩)) fun v54 =>
CallF Try.prog g 45 #[a0, (Value.int .i64 0), v54] H45 (fun v55 H56 =>
CallF Try.prog g 46 #[a0, (Value.int .i64 0)] H56 (fun v57 H58 =>
JE J46 [] H58) (PanR R)) (PanR R)) (
JE J46 [] H45))
theorem L34_eq (g : World) (a0 : Value) (H : Hp) (R : Ending → Hp → Prop) : denF Try.prog g Try.f34 (.h 0 [] [] .e (.h 0 [] [] .e (.h 0 [] [] (.h 0 [] [] (.h 0 [] [1] .e .e) .e) (.h 0 [] [] .e (.h 0 [] [] .e (.h 0 [] [] .e (.h 0 [] [] .e (.h 0 [] [] (.h 0 [0, 1, 2, 3, 4, 5, 6] [] .e .e) (.h 1 [] [6] .e .e))))))))) [a0] H R = L34 g a0 H R := by kernel_rfl
theorem L34_sound {g : World} {a0 : Value} {H : Hp} {R : Ending → Hp → Prop} (h : L34 g a0 H R) : SCalls Try.prog g 34 #[a0] H R :=
  denF_sound (fn := Try.f34) (hn := (.h 0 [] [] .e (.h 0 [] [] .e (.h 0 [] [] (.h 0 [] [] (.h 0 [] [1] .e .e) .e) (.h 0 [] [] .e (.h 0 [] [] .e (.h 0 [] [] .e (.h 0 [] [] .e (.h 0 [] [] (.h 0 [0, 1, 2, 3, 4, 5, 6] [] .e .e) (.h 1 [] [6] .e .e)))))))))) Try.func34 (by rw [L34_eq]; exact h)
/-- (*thicket.heap.Heap[thicket.thicketlaw03.num]).Move -/
def L35 (g : World) (a0 a1 a2 : Value) (H : Hp) (R : Ending → Hp → Prop) : Prop :=
Bin .ptr .eql a0 (.pointer none) fun v1 =>
Br v1 (
R (.returned (Value.int .i64 10)) H) (
Nil a0 fun v2 =>
FAddr 1 v2 fun v3 =>
Ld H v3 fun v4 =>
Look (.int .i64) (Value.int .i64 0) true H v4 a1 fun v5 =>
Ext 0 v5 fun v6 =>
Ext 1 v5 fun v7 =>
Un .not v7 fun v8 =>
Br v8 (
R (.returned (Value.int .i64 10)) H) (
Nil a0 fun v9 =>
FAddr 0 v9 fun v10 =>
Ld H v10 fun v11 =>
IAddr 2 v11 v6 fun v12 =>
FAddr 1 v12 fun v13 =>
St 1 H v13 a2 fun H14 =>
CallF Try.prog g 44 #[a0, v6] H14 (fun v15 H16 =>
Nil a0 fun v17 =>
FAddr 1 v17 fun v18 =>
Ld H16 v18 fun v19 =>
Look (.int .i64) (Value.int .i64 0) false H16 v19 a1 fun v20 =>
CallF Try.prog g 46 #[a0, v20] H16 (fun v21 H22 =>
R (.returned (Value.int .i64 0)) H22) (PanR R)) (PanR R)))
theorem L35_eq (g : World) (a0 a1 a2 : Value) (H : Hp) (R : Ending → Hp → Prop) : denF Try.prog g Try.f35 .e [a0, a1, a2] H R = L35 g a0 a1 a2 H R := by kernel_rfl
theorem L35_sound {g : World} {a0 a1 a2 : Value} {H : Hp} {R : Ending → Hp → Prop} (h : L35 g a0 a1 a2 H R) : SCalls Try.prog g 35 #[a0, a1, a2] H R :=
  denF_sound (fn := Try.f35) (hn := .e) Try.func35 (by rw [L35_eq]; exact h)
/-- (*thicket.heap.Heap[thicket.thicketlaw03.num]).Key -/
def L36 (g : World) (a0 a1 : Value) (H : Hp) (R : Ending → Hp → Prop) : Prop :=
Bin .ptr .eql a0 (.pointer none) fun v1 =>
Br v1 (
R (.returned (.tuple #[(Value.int .i64 0), (Value.int .i64 10)])) H) (
Nil a0 fun v2 =>
FAddr 1 v2 fun v3 =>
Ld H v3 fun v4 =>
Look (.int .i64) (Value.int .i64 0) true H v4 a1 fun v5 =>
Ext 0 v5 fun v6 =>
Ext 1 v5 fun v7 =>
Un .not v7 fun v8 =>
Br v8 (
R (.returned (.tuple #[(Value.int .i64 0), (Value.int .i64 10)])) H) (
Nil a0 fun v9 =>
FAddr 0 v9 fun v10 =>
Ld H v10 fun v11 =>
IAddr 2 v11 v6 fun v12 =>
FAddr 1 v12 fun v13 =>
Ld H v13 fun v14 =>
R (.returned (.tuple #[v14, (Value.int .i64 0)])) H))
theorem L36_eq (g : World) (a0 a1 : Value) (H : Hp) (R : Ending → Hp → Prop) : denF Try.prog g Try.f36 .e [a0, a1] H R = L36 g a0 a1 H R := by kernel_rfl
theorem L36_sound {g : World} {a0 a1 : Value} {H : Hp} {R : Ending → Hp → Prop} (h : L36 g a0 a1 H R) : SCalls Try.prog g 36 #[a0, a1] H R :=
  denF_sound (fn := Try.f36) (hn := .e) Try.func36 (by rw [L36_eq]; exact h)
/-- (*thicket.heap.Heap[thicket.thicketlaw03.num]).Len -/
def L37 (g : World) (a0 : Value) (H : Hp) (R : Ending → Hp → Prop) : Prop :=
Bin .ptr .eql a0 (.pointer none) fun v1 =>
Br v1 (
R (.returned (Value.int .i64 0)) H) (
Nil a0 fun v2 =>
FAddr 0 v2 fun v3 =>
Ld H v3 fun v4 =>
LenS v4 fun v5 =>
R (.returned v5) H)
theorem L37_eq (g : World) (a0 : Value) (H : Hp) (R : Ending → Hp → Prop) : denF Try.prog g Try.f37 .e [a0] H R = L37 g a0 H R := by kernel_rfl
theorem L37_sound {g : World} {a0 : Value} {H : Hp} {R : Ending → Hp → Prop} (h : L37 g a0 H R) : SCalls Try.prog g 37 #[a0] H R :=
  denF_sound (fn := Try.f37) (hn := .e) Try.func37 (by rw [L37_eq]; exact h)
/-- thicket.thicketref03.find -/
def L38 (g : World) (a0 a1 : Value) (H : Hp) (R : Ending → Hp → Prop) : Prop :=
New H (.cells (Value.cells a1) 52 (0, 0)) fun b1 H2 =>
Nil a0 fun v3 =>
FAddr 0 v3 fun v4 =>
Ld H2 v4 fun v5 =>
LenS v5 fun v6 =>
∃ (I7 : List Value → Hp → Prop) (m8 : List Value → Hp → Nat), JE I7 [(Value.int .i64 0)] H2 ∧ ∀ w11 : Value, ∀ H10 : Hp, I7 [w11] H10 → ∀ gs9 : Fr,
Bin .num .lss w11 v6 fun v12 =>
Br v12 (
Nil a0 fun v13 =>
FAddr 0 v13 fun v14 =>
Ld H10 v14 fun v15 =>
IAddr 3 v15 w11 fun v16 =>
LdA 3 H10 v16 fun v17 =>
LdA 3 H10 (.pointer (some ⟨b1, 0, none⟩)) fun v18 =>
CallQ Try.prog g 47 #[v17, v18] H10 fun v19 =>
Br v19 (
R (.returned w11) H10) (
Bin .num .add w11 (Value.int .i64 1) fun v20 =>
Back I7 m8 [v20] H10 [w11] H10)) (
R (.returned (Value.int .i64 (-1))) H10)
theorem L38_eq (g : World) (a0 a1 : Value) (H : Hp) (R : Ending → Hp → Prop) : denF Try.prog g Try.f38 (.h 0 [] [] .e (.h 0 [] [] (.h 0 [] [] .e (.h 0 [] [] (.h 0 [11] [0, 3, 10] .e .e) .e)) .e)) [a0, a1] H R = L38 g a0 a1 H R := by kernel_rfl
theorem L38_sound {g : World} {a0 a1 : Value} {H : Hp} {R : Ending → Hp → Prop} (h : L38 g a0 a1 H R) : SCalls Try.prog g 38 #[a0, a1] H R :=
  denF_sound (fn := Try.f38) (hn := (.h 0 [] [] .e (.h 0 [] [] (.h 0 [] [] .e (.h 0 [] [] (.h 0 [11] [0, 3, 10] .e .e) .e)) .e))) Try.func38 (by rw [L38_eq]; exact h)
/-- thicket.thicketref03.less -/
def L39 (g : World) (a0 a1 : Value) (H : Hp) (R : Ending → Hp → Prop) : Prop :=
New H (.cells (Value.cells a0) 52 (0, 0)) fun b1 H2 =>
New H2 (.cells (Value.cells a1) 52 (0, 0)) fun b3 H4 =>
FAddr 2 (.pointer (some ⟨b1, 0, none⟩)) fun v5 =>
Ld H4 v5 fun v6 =>
FAddr 2 (.pointer (some ⟨b3, 0, none⟩)) fun v7 =>
Ld H4 v7 fun v8 =>
Bin .num .neq v6 v8 fun v9 =>
Br v9 (
FAddr 2 (.pointer (some ⟨b1, 0, none⟩)) fun v10 =>
Ld H4 v10 fun v11 =>
FAddr 2 (.pointer (some ⟨b3, 0, none⟩)) fun v12 =>
Ld H4 v12 fun v13 =>
Bin .num .lss v11 v13 fun v14 =>
R (.returned v14) H4) (
FAddr 1 (.pointer (some ⟨b1, 0, none⟩)) fun v15 =>
Ld H4 v15 fun v16 =>
FAddr 1 (.pointer (some ⟨b3, 0, none⟩)) fun v17 =>
Ld H4 v17 fun v18 =>
Bin .bool .neq v16 v18 fun v19 =>
Br v19 (
FAddr 1 (.pointer (some ⟨b1, 0, none⟩)) fun v20 =>
Ld H4 v20 fun v21 =>
R (.returned v21) H4) (
FAddr 0 (.pointer (some ⟨b1, 0, none⟩)) fun v22 =>
Ld H4 v22 fun v23 =>
FAddr 0 (.pointer (some ⟨b3, 0, none⟩)) fun v24 =>
Ld H4 v24 fun v25 =>
Bin .num .lss v23 v25 fun v26 =>
R (.returned v26) H4))
theorem L39_eq (g : World) (a0 a1 : Value) (H : Hp) (R : Ending → Hp → Prop) : denF Try.prog g Try.f39 .e [a0, a1] H R = L39 g a0 a1 H R := by kernel_rfl
theorem L39_sound {g : World} {a0 a1 : Value} {H : Hp} {R : Ending → Hp → Prop} (h : L39 g a0 a1 H R) : SCalls Try.prog g 39 #[a0, a1] H R :=
  denF_sound (fn := Try.f39) (hn := .e) Try.func39 (by rw [L39_eq]; exact h)
/-- (*thicket.heap.Heap[int]).put -/
def L40 (g : World) (a0 a1 a2 : Value) (H : Hp) (R : Ending → Hp → Prop) : Prop :=
New H (.cells (Value.cells a2) 90 (0, 0)) fun b1 H2 =>
DR H2 fun R3 =>
Nil a0 fun v4 =>
FAddr 0 v4 fun v5 =>
Ld R3 v5 fun v6 =>
LdA 2 R3 (.pointer (some ⟨b1, 0, none⟩)) fun v7 =>
IAddr 2 v6 a1 fun v8 =>
St 2 H2 v8 v7 fun H9 =>
DR H9 fun R10 =>
Nil a0 fun v11 =>
FAddr 1 v11 fun v12 =>
Ld R10 v12 fun v13 =>
FAddr 0 (.pointer (some ⟨b1, 0, none⟩)) fun v14 =>
Ld R10 v14 fun v15 =>
MapUpd (.int .i64) H9 v13 v15 a1 fun H16 =>
R (.returned (.tuple #[])) H16
theorem L40_eq (g : World) (a0 a1 a2 : Value) (H : Hp) (R : Ending → Hp → Prop) : denF Try.prog g Try.f40 (.h 0 [] [] .e (.h 0 [] [] (.h 0 [0, 1, 2, 3, 4, 5, 6, 7] [] .e .e) (.h 0 [0, 1, 2, 3, 4, 5, 6, 7] [] .e .e))) [a0, a1, a2] H R = L40 g a0 a1 a2 H R := by kernel_rfl
theorem L40_sound {g : World} {a0 a1 a2 : Value} {H : Hp} {R : Ending → Hp → Prop} (h : L40 g a0 a1 a2 H R) : SCalls Try.prog g 40 #[a0, a1, a2] H R :=
  denF_sound (fn := Try.f40) (hn := (.h 0 [] [] .e (.h 0 [] [] (.h 0 [0, 1, 2, 3, 4, 5, 6, 7] [] .e .e) (.h 0 [0, 1, 2, 3, 4, 5, 6, 7] [] .e .e)))) Try.func40 (by rw [L40_eq]; exact h)
/-- (*thicket.heap.Heap[int]).down -/
def L41 (g : World) (a0 a1 : Value) (H : Hp) (R : Ending → Hp → Prop) : Prop :=
Nil a0 fun v1 =>
FAddr 0 v1 fun v2 =>
Ld H v2 fun v3 =>
IAddr 2 v3 a1 fun v4 =>
LdA 2 H v4 fun v5 =>
New H (.cells #[(Value.int .i64 0), (Value.int .i64 0)] 90 (0, 0)) fun b6 H7 =>
St 2 H7 (.pointer (some ⟨b6, 0, none⟩)) v5 fun H8 =>
∃ (I9 : List Value → Hp → Prop) (m10 : List Value → Hp → Nat), JE I9 [a1] H8 ∧ ∀ w13 : Value, ∀ H12 : Hp, I9 [w13] H12 → ∀ gs11 : Fr,
Bin .num .mul (Value.int .i64 2) w13 fun v14 =>
Bin .num .add v14 (Value.int .i64 1) fun v15 =>
∀ J16 : List Value → Hp → Prop, (∀ w19 : Value, ∀ H18 : Hp, (∀ gs17 : Fr,
Nil a0 fun v20 =>
FAddr 0 v20 fun v21 =>
Ld H18 v21 fun v22 =>
LenS v22 fun v23 =>
Bin .num .geq w19 v23 fun v24 =>
Grp v24 false (fun t25 =>
Nil a0 fun v26 =>
FAddr 0 v26 fun v27 =>
Ld H18 v27 fun v28 =>
IAddr 2 v28 w19 fun v29 =>
LdA 2 H18 v29 fun v30 =>
LdA 2 H18 (.pointer (some ⟨b6, 0, none⟩)) fun v31 =>
CallQ Try.prog g 48 #[v30, v31] H18 fun v32 =>
Un .not v32 fun v33 =>
(H18 = H18 ∧ v33 = Value.bool t25)) (fun t25 => (Value.bool true) = Value.bool t25) fun t25 => ∀ gs34 : Fr,
Br (Value.bool t25) (
LdA 2 H18 (.pointer (some ⟨b6, 0, none⟩)) fun v35 =>
CallF Try.prog g 40 #[a0, w13, v35] H18 (fun v36 H37 =>
R (.returned (.tuple #[])) H37) (PanR R)) (
Nil a0 fun v38 =>
FAddr 0 v38 fun v39 =>
Ld H18 v39 fun v40 =>
IAddr 2 v40 w19 fun v41 =>
LdA 2 H18 v41 fun v42 =>
CallF Try.prog g 40 #[a0, w13, v42] H18 (fun v43 H44 =>
Back I9 m10 [w19] H44 [w13] H12) (PanR R))) → J16 [w19] H18) →
Bin .num .add v15 (Value.int .i64 1) fun v45 =>
Nil a0 fun v46 =>
FAddr 0 v46 fun v47 =>
Ld H12 v47 fun v48 =>
LenS v48 fun v49 =>
Bin .num .lss v45 v49 fun v50 =>
Grp v50 true (fun t51 =>
Nil a0 fun v52 =>
FAddr 0 v52 fun v53 =>
Ld H12 v53 fun v54 =>
Bin .num .add v15 (Value.int .i64 1) fun v55 =>
IAddr 2 v54 v55 fun v56 =>
LdA 2 H12 v56 fun v57 =>
Nil a0 fun v58 =>
FAddr 0 v58 fun v59 =>
Ld H12 v59 fun v60 =>
IAddr 2 v60 v15 fun v61 =>
LdA 2 H12 v61 fun v62 =>
CallQ Try.prog g 48 #[v57, v62] H12 fun v63 =>
(H12 = H12 ∧ v63 = Value.bool t51)) (fun t51 => (Value.bool false) = Value.bool t51) fun t51 => ∀ gs64 : Fr,
Br (Value.bool t51) (
Bin .num .add v15 (Value.int .i64 1) fun v65 =>
JE J16 [v65] H12) (
JE J16 [v15] H12)
theorem L41_eq (g : World) (a0 a1 : Value) (H : Hp) (R : Ending → Hp → Prop) : denF Try.prog g Try.f41 (.h 0 [] [] .e (.h 0 [] [] (.h 0 [] [] (.h 0 [1] [0, 4] (.h 0 [] [] (.h 0 [] [] .e (.h 1 [5] [0, 1, 4] .e .e)) .e) .e) .e) .e)) [a0, a1] H R = L41 g a0 a1 H R := by kernel_rfl
theorem L41_sound {g : World} {a0 a1 : Value} {H : Hp} {R : Ending → Hp → Prop} (h : L41 g a0 a1 H R) : SCalls Try.prog g 41 #[a0, a1] H R :=
  denF_sound (fn := Try.f41) (hn := (.h 0 [] [] .e (.h 0 [] [] (.h 0 [] [] (.h 0 [1] [0, 4] (.h 0 [] [] (.h 0 [] [] .e (.h 1 [5] [0, 1, 4] .e .e)) .e) .e) .e) .e))) Try.func41 (by rw [L41_eq]; exact h)
/-- (*thicket.heap.Heap[int]).up -/
def L42 (g : World) (a0 a1 : Value) (H : Hp) (R : Ending → Hp → Prop) : Prop :=
Nil a0 fun v1 =>
FAddr 0 v1 fun v2 =>
Ld H v2 fun v3 =>
IAddr 2 v3 a1 fun v4 =>
LdA 2 H v4 fun v5 =>
New H (.cells #[(Value.int .i64 0), (Value.int .i64 0)] 90 (0, 0)) fun b6 H7 =>
St 2 H7 (.pointer (some ⟨b6, 0, none⟩)) v5 fun H8 =>
∃ (I9 : List Value → Hp → Prop) (m10 : List Value → Hp → Nat), JE I9 [a1] H8 ∧ ∀ w13 : Value, ∀ H12 : Hp, I9 [w13] H12 → ∀ gs11 : Fr,
Bin .num .gtr w13 (Value.int .i64 0) fun v14 =>
Grp v14 true (fun t15 =>
LdA 2 H12 (.pointer (some ⟨b6, 0, none⟩)) fun v16 =>
Nil a0 fun v17 =>
FAddr 0 v17 fun v18 =>
Ld H12 v18 fun v19 =>
Bin .num .sub w13 (Value.int .i64 1) fun v20 =>
Bin .num .quo v20 (Value.int .i64 2) fun v21 =>
IAddr 2 v19 v21 fun v22 =>
LdA 2 H12 v22 fun v23 =>
CallQ Try.prog g 48 #[v16, v23] H12 fun v24 =>
(H12 = H12 ∧ v24 = Value.bool t15)) (fun t15 => (Value.bool false) = Value.bool t15) fun t15 => ∀ gs25 : Fr,
Br (Value.bool t15) (
Nil a0 fun v26 =>
FAddr 0 v26 fun v27 =>
Ld H12 v27 fun v28 =>
Bin .num .sub w13 (Value.int .i64 1) fun v29 =>
Bin .num .quo v29 (Value.int .i64 2) fun v30 =>
IAddr 2 v28 v30 fun v31 =>
LdA 2 H12 v31 fun v32 =>
CallF Try.prog g 40 #[a0, w13, v32] H12 (fun v33 H34 =>
Bin .num .sub w13 (Value.int .i64 1) fun v35 =>
Bin .num .quo v35 (Value.int .i64 2) fun v36 =>
Back I9 m10 [v36] H34 [w13] H12) (PanR R)) (
LdA 2 H12 (.pointer (some ⟨b6, 0, none⟩)) fun v37 =>
CallF Try.prog g 40 #[a0, w13, v37] H12 (fun v38 H39 =>
R (.returned (.tuple #[])) H39) (PanR R))
theorem L42_eq (g : World) (a0 a1 : Value) (H : Hp) (R : Ending → Hp → Prop) : denF Try.prog g Try.f42 (.h 0 [] [] .e (.h 0 [] [] (.h 0 [] [] (.h 0 [1] [0, 4] .e .e) .e) .e)) [a0, a1] H R = L42 g a0 a1 H R := by kernel_rfl
theorem L42_sound {g : World} {a0 a1 : Value} {H : Hp} {R : Ending → Hp → Prop} (h : L42 g a0 a1 H R) : SCalls Try.prog g 42 #[a0, a1] H R :=
  denF_sound (fn := Try.f42) (hn := (.h 0 [] [] .e (.h 0 [] [] (.h 0 [] [] (.h 0 [1] [0, 4] .e .e) .e) .e))) Try.func42 (by rw [L42_eq]; exact h)
/-- (thicket.heap.item[uint64]).ahead -/
def L43 (g : World) (a0 a1 : Value) (H : Hp) (R : Ending → Hp → Prop) : Prop :=
New H (.cells (Value.cells a0) 75 (0, 0)) fun b1 H2 =>
New H2 (.cells (Value.cells a1) 75 (0, 0)) fun b3 H4 =>
FAddr 1 (.pointer (some ⟨b1, 0, none⟩)) fun v5 =>
Ld H4 v5 fun v6 =>
FAddr 1 (.pointer (some ⟨b3, 0, none⟩)) fun v7 =>
Ld H4 v7 fun v8 =>
Bin .num .lss v6 v8 fun v9 =>
Grp v9 false (fun t10 =>
FAddr 1 (.pointer (some ⟨b1, 0, none⟩)) fun v11 =>
Ld H4 v11 fun v12 =>
FAddr 1 (.pointer (some ⟨b3, 0, none⟩)) fun v13 =>
Ld H4 v13 fun v14 =>
Bin .num .eql v12 v14 fun v15 =>
Grp v15 true (fun t16 =>
FAddr 0 (.pointer (some ⟨b1, 0, none⟩)) fun v17 =>
Ld H4 v17 fun v18 =>
FAddr 0 (.pointer (some ⟨b3, 0, none⟩)) fun v19 =>
Ld H4 v19 fun v20 =>
Bin .num .lss v18 v20 fun v21 =>
(H4 = H4 ∧ v21 = Value.bool t16)) (fun t16 => (Value.bool false) = Value.bool t16) fun t16 => ∀ gs22 : Fr,
(H4 = H4 ∧ (Value.bool t16) = Value.bool t10)) (fun t10 => (Value.bool true) = Value.bool t10) fun t10 => ∀ gs23 : Fr,
R (.returned (Value.bool t10)) H4
theorem L43_eq (g : World) (a0 a1 : Value) (H : Hp) (R : Ending → Hp → Prop) : denF Try.prog g Try.f43 (.h 0 [] [] .e (.h 0 [] [] (.h 0 [] [1] .e .e) .e)) [a0, a1] H R = L43 g a0 a1 H R := by kernel_rfl
theorem L43_sound {g : World} {a0 a1 : Value} {H : Hp} {R : Ending → Hp → Prop} (h : L43 g a0 a1 H R) : SCalls Try.prog g 43 #[a0, a1] H R :=
  denF_sound (fn := Try.f43) (hn := (.h 0 [] [] .e (.h 0 [] [] (.h 0 [] [1] .e .e) .e))) Try.func43 (by rw [L43_eq]; exact h)
/-- (*thicket.heap.Heap[thicket.thicketlaw03.num]).up -/
def L44 (g : World) (a0 a1 : Value) (H : Hp) (R : Ending → Hp → Prop) : Prop :=
Nil a0 fun v1 =>
FAddr 0 v1 fun v2 =>
Ld H v2 fun v3 =>
IAddr 2 v3 a1 fun v4 =>
LdA 2 H v4 fun v5 =>
New H (.cells #[(Value.int .i64 0), (Value.int .i64 0)] 95 (0, 0)) fun b6 H7 =>
St 2 H7 (.pointer (some ⟨b6, 0, none⟩)) v5 fun H8 =>
∃ (I9 : List Value → Hp → Prop) (m10 : List Value → Hp → Nat), JE I9 [a1] H8 ∧ ∀ w13 : Value, ∀ H12 : Hp, I9 [w13] H12 → ∀ gs11 : Fr,
Bin .num .gtr w13 (Value.int .i64 0) fun v14 =>
Grp v14 true (fun t15 =>
LdA 2 H12 (.pointer (some ⟨b6, 0, none⟩)) fun v16 =>
Nil a0 fun v17 =>
FAddr 0 v17 fun v18 =>
Ld H12 v18 fun v19 =>
Bin .num .sub w13 (Value.int .i64 1) fun v20 =>
Bin .num .quo v20 (Value.int .i64 2) fun v21 =>
IAddr 2 v19 v21 fun v22 =>
LdA 2 H12 v22 fun v23 =>
CallQ Try.prog g 49 #[v16, v23] H12 fun v24 =>
(H12 = H12 ∧ v24 = Value.bool t15)) (fun t15 => (Value.bool false) = Value.bool t15) fun t15 => ∀ gs25 : Fr,
Br (Value.bool t15) (
Nil a0 fun v26 =>
FAddr 0 v26 fun v27 =>
Ld H12 v27 fun v28 =>
Bin .num .sub w13 (Value.int .i64 1) fun v29 =>
Bin .num .quo v29 (Value.int .i64 2) fun v30 =>
IAddr 2 v28 v30 fun v31 =>
LdA 2 H12 v31 fun v32 =>
CallF Try.prog g 45 #[a0, w13, v32] H12 (fun v33 H34 =>
Bin .num .sub w13 (Value.int .i64 1) fun v35 =>
Bin .num .quo v35 (Value.int .i64 2) fun v36 =>
Back I9 m10 [v36] H34 [w13] H12) (PanR R)) (
LdA 2 H12 (.pointer (some ⟨b6, 0, none⟩)) fun v37 =>
CallF Try.prog g 45 #[a0, w13, v37] H12 (fun v38 H39 =>
R (.returned (.tuple #[])) H39) (PanR R))
theorem L44_eq (g : World) (a0 a1 : Value) (H : Hp) (R : Ending → Hp → Prop) : denF Try.prog g Try.f44 (.h 0 [] [] .e (.h 0 [] [] (.h 0 [] [] (.h 0 [1] [0, 4] .e .e) .e) .e)) [a0, a1] H R = L44 g a0 a1 H R := by kernel_rfl
theorem L44_sound {g : World} {a0 a1 : Value} {H : Hp} {R : Ending → Hp → Prop} (h : L44 g a0 a1 H R) : SCalls Try.prog g 44 #[a0, a1] H R :=
  denF_sound (fn := Try.f44) (hn := (.h 0 [] [] .e (.h 0 [] [] (.h 0 [] [] (.h 0 [1] [0, 4] .e .e) .e) .e))) Try.func44 (by rw [L44_eq]; exact h)
/-- (*thicket.heap.Heap[thicket.thicketlaw03.num]).put -/
def L45 (g : World) (a0 a1 a2 : Value) (H : Hp) (R : Ending → Hp → Prop) : Prop :=
New H (.cells (Value.cells a2) 95 (0, 0)) fun b1 H2 =>
DR H2 fun R3 =>
Nil a0 fun v4 =>
FAddr 0 v4 fun v5 =>
Ld R3 v5 fun v6 =>
LdA 2 R3 (.pointer (some ⟨b1, 0, none⟩)) fun v7 =>
IAddr 2 v6 a1 fun v8 =>
St 2 H2 v8 v7 fun H9 =>
DR H9 fun R10 =>
Nil a0 fun v11 =>
FAddr 1 v11 fun v12 =>
Ld R10 v12 fun v13 =>
FAddr 0 (.pointer (some ⟨b1, 0, none⟩)) fun v14 =>
Ld R10 v14 fun v15 =>
MapUpd (.int .i64) H9 v13 v15 a1 fun H16 =>
R (.returned (.tuple #[])) H16
theorem L45_eq (g : World) (a0 a1 a2 : Value) (H : Hp) (R : Ending → Hp → Prop) : denF Try.prog g Try.f45 (.h 0 [] [] .e (.h 0 [] [] (.h 0 [0, 1, 2, 3, 4, 5, 6, 7] [] .e .e) (.h 0 [0, 1, 2, 3, 4, 5, 6, 7] [] .e .e))) [a0, a1, a2] H R = L45 g a0 a1 a2 H R := by kernel_rfl
theorem L45_sound {g : World} {a0 a1 a2 : Value} {H : Hp} {R : Ending → Hp → Prop} (h : L45 g a0 a1 a2 H R) : SCalls Try.prog g 45 #[a0, a1, a2] H R :=
  denF_sound (fn := Try.f45) (hn := (.h 0 [] [] .e (.h 0 [] [] (.h 0 [0, 1, 2, 3, 4, 5, 6, 7] [] .e .e) (.h 0 [0, 1, 2, 3, 4, 5, 6, 7] [] .e .e)))) Try.func45 (by rw [L45_eq]; exact h)
/-- (*thicket.heap.Heap[thicket.thicketlaw03.num]).down -/
def L46 (g : World) (a0 a1 : Value) (H : Hp) (R : Ending → Hp → Prop) : Prop :=
Nil a0 fun v1 =>
FAddr 0 v1 fun v2 =>
Ld H v2 fun v3 =>
IAddr 2 v3 a1 fun v4 =>
LdA 2 H v4 fun v5 =>
New H (.cells #[(Value.int .i64 0), (Value.int .i64 0)] 95 (0, 0)) fun b6 H7 =>
St 2 H7 (.pointer (some ⟨b6, 0, none⟩)) v5 fun H8 =>
∃ (I9 : List Value → Hp → Prop) (m10 : List Value → Hp → Nat), JE I9 [a1] H8 ∧ ∀ w13 : Value, ∀ H12 : Hp, I9 [w13] H12 → ∀ gs11 : Fr,
Bin .num .mul (Value.int .i64 2) w13 fun v14 =>
Bin .num .add v14 (Value.int .i64 1) fun v15 =>
∀ J16 : List Value → Hp → Prop, (∀ w19 : Value, ∀ H18 : Hp, (∀ gs17 : Fr,
Nil a0 fun v20 =>
FAddr 0 v20 fun v21 =>
Ld H18 v21 fun v22 =>
LenS v22 fun v23 =>
Bin .num .geq w19 v23 fun v24 =>
Grp v24 false (fun t25 =>
Nil a0 fun v26 =>
FAddr 0 v26 fun v27 =>
Ld H18 v27 fun v28 =>
IAddr 2 v28 w19 fun v29 =>
LdA 2 H18 v29 fun v30 =>
LdA 2 H18 (.pointer (some ⟨b6, 0, none⟩)) fun v31 =>
CallQ Try.prog g 49 #[v30, v31] H18 fun v32 =>
Un .not v32 fun v33 =>
(H18 = H18 ∧ v33 = Value.bool t25)) (fun t25 => (Value.bool true) = Value.bool t25) fun t25 => ∀ gs34 : Fr,
Br (Value.bool t25) (
LdA 2 H18 (.pointer (some ⟨b6, 0, none⟩)) fun v35 =>
CallF Try.prog g 45 #[a0, w13, v35] H18 (fun v36 H37 =>
R (.returned (.tuple #[])) H37) (PanR R)) (
Nil a0 fun v38 =>
FAddr 0 v38 fun v39 =>
Ld H18 v39 fun v40 =>
IAddr 2 v40 w19 fun v41 =>
LdA 2 H18 v41 fun v42 =>
CallF Try.prog g 45 #[a0, w13, v42] H18 (fun v43 H44 =>
Back I9 m10 [w19] H44 [w13] H12) (PanR R))) → J16 [w19] H18) →
Bin .num .add v15 (Value.int .i64 1) fun v45 =>
Nil a0 fun v46 =>
FAddr 0 v46 fun v47 =>
Ld H12 v47 fun v48 =>
LenS v48 fun v49 =>
Bin .num .lss v45 v49 fun v50 =>
Grp v50 true (fun t51 =>
Nil a0 fun v52 =>
FAddr 0 v52 fun v53 =>
Ld H12 v53 fun v54 =>
Bin .num .add v15 (Value.int .i64 1) fun v55 =>
IAddr 2 v54 v55 fun v56 =>
LdA 2 H12 v56 fun v57 =>
Nil a0 fun v58 =>
FAddr 0 v58 fun v59 =>
Ld H12 v59 fun v60 =>
IAddr 2 v60 v15 fun v61 =>
LdA 2 H12 v61 fun v62 =>
CallQ Try.prog g 49 #[v57, v62] H12 fun v63 =>
(H12 = H12 ∧ v63 = Value.bool t51)) (fun t51 => (Value.bool false) = Value.bool t51) fun t51 => ∀ gs64 : Fr,
Br (Value.bool t51) (
Bin .num .add v15 (Value.int .i64 1) fun v65 =>
JE J16 [v65] H12) (
JE J16 [v15] H12)
theorem L46_eq (g : World) (a0 a1 : Value) (H : Hp) (R : Ending → Hp → Prop) : denF Try.prog g Try.f46 (.h 0 [] [] .e (.h 0 [] [] (.h 0 [] [] (.h 0 [1] [0, 4] (.h 0 [] [] (.h 0 [] [] .e (.h 1 [5] [0, 1, 4] .e .e)) .e) .e) .e) .e)) [a0, a1] H R = L46 g a0 a1 H R := by kernel_rfl
theorem L46_sound {g : World} {a0 a1 : Value} {H : Hp} {R : Ending → Hp → Prop} (h : L46 g a0 a1 H R) : SCalls Try.prog g 46 #[a0, a1] H R :=
  denF_sound (fn := Try.f46) (hn := (.h 0 [] [] .e (.h 0 [] [] (.h 0 [] [] (.h 0 [1] [0, 4] (.h 0 [] [] (.h 0 [] [] .e (.h 1 [5] [0, 1, 4] .e .e)) .e) .e) .e) .e))) Try.func46 (by rw [L46_eq]; exact h)
/-- thicket.thicketref03.Same -/
def L47 (g : World) (a0 a1 : Value) (H : Hp) (R : Ending → Hp → Prop) : Prop :=
New H (.cells (Value.cells a0) 52 (0, 0)) fun b1 H2 =>
New H2 (.cells (Value.cells a1) 52 (0, 0)) fun b3 H4 =>
FAddr 0 (.pointer (some ⟨b1, 0, none⟩)) fun v5 =>
Ld H4 v5 fun v6 =>
FAddr 0 (.pointer (some ⟨b3, 0, none⟩)) fun v7 =>
Ld H4 v7 fun v8 =>
Bin .num .eql v6 v8 fun v9 =>
Grp v9 true (fun t10 =>
FAddr 1 (.pointer (some ⟨b1, 0, none⟩)) fun v11 =>
Ld H4 v11 fun v12 =>
FAddr 1 (.pointer (some ⟨b3, 0, none⟩)) fun v13 =>
Ld H4 v13 fun v14 =>
Bin .bool .eql v12 v14 fun v15 =>
(H4 = H4 ∧ v15 = Value.bool t10)) (fun t10 => (Value.bool false) = Value.bool t10) fun t10 => ∀ gs16 : Fr,
R (.returned (Value.bool t10)) H4
theorem L47_eq (g : World) (a0 a1 : Value) (H : Hp) (R : Ending → Hp → Prop) : denF Try.prog g Try.f47 (.h 0 [] [] .e (.h 0 [] [] (.h 0 [] [1] .e .e) .e)) [a0, a1] H R = L47 g a0 a1 H R := by kernel_rfl
theorem L47_sound {g : World} {a0 a1 : Value} {H : Hp} {R : Ending → Hp → Prop} (h : L47 g a0 a1 H R) : SCalls Try.prog g 47 #[a0, a1] H R :=
  denF_sound (fn := Try.f47) (hn := (.h 0 [] [] .e (.h 0 [] [] (.h 0 [] [1] .e .e) .e))) Try.func47 (by rw [L47_eq]; exact h)
/-- (thicket.heap.item[int]).ahead -/
def L48 (g : World) (a0 a1 : Value) (H : Hp) (R : Ending → Hp → Prop) : Prop :=
New H (.cells (Value.cells a0) 90 (0, 0)) fun b1 H2 =>
New H2 (.cells (Value.cells a1) 90 (0, 0)) fun b3 H4 =>
FAddr 1 (.pointer (some ⟨b1, 0, none⟩)) fun v5 =>
Ld H4 v5 fun v6 =>
FAddr 1 (.pointer (some ⟨b3, 0, none⟩)) fun v7 =>
Ld H4 v7 fun v8 =>
Bin .num .lss v6 v8 fun v9 =>
Grp v9 false (fun t10 =>
FAddr 1 (.pointer (some ⟨b1, 0, none⟩)) fun v11 =>
Ld H4 v11 fun v12 =>
FAddr 1 (.pointer (some ⟨b3, 0, none⟩)) fun v13 =>
Ld H4 v13 fun v14 =>
Bin .num .eql v12 v14 fun v15 =>
Grp v15 true (fun t16 =>
FAddr 0 (.pointer (some ⟨b1, 0, none⟩)) fun v17 =>
Ld H4 v17 fun v18 =>
FAddr 0 (.pointer (some ⟨b3, 0, none⟩)) fun v19 =>
Ld H4 v19 fun v20 =>
Bin .num .lss v18 v20 fun v21 =>
(H4 = H4 ∧ v21 = Value.bool t16)) (fun t16 => (Value.bool false) = Value.bool t16) fun t16 => ∀ gs22 : Fr,
(H4 = H4 ∧ (Value.bool t16) = Value.bool t10)) (fun t10 => (Value.bool true) = Value.bool t10) fun t10 => ∀ gs23 : Fr,
R (.returned (Value.bool t10)) H4
theorem L48_eq (g : World) (a0 a1 : Value) (H : Hp) (R : Ending → Hp → Prop) : denF Try.prog g Try.f48 (.h 0 [] [] .e (.h 0 [] [] (.h 0 [] [1] .e .e) .e)) [a0, a1] H R = L48 g a0 a1 H R := by kernel_rfl
theorem L48_sound {g : World} {a0 a1 : Value} {H : Hp} {R : Ending → Hp → Prop} (h : L48 g a0 a1 H R) : SCalls Try.prog g 48 #[a0, a1] H R :=
  denF_sound (fn := Try.f48) (hn := (.h 0 [] [] .e (.h 0 [] [] (.h 0 [] [1] .e .e) .e))) Try.func48 (by rw [L48_eq]; exact h)
/-- (thicket.heap.item[thicket.thicketlaw03.num]).ahead -/
def L49 (g : World) (a0 a1 : Value) (H : Hp) (R : Ending → Hp → Prop) : Prop :=
New H (.cells (Value.cells a0) 95 (0, 0)) fun b1 H2 =>
New H2 (.cells (Value.cells a1) 95 (0, 0)) fun b3 H4 =>
FAddr 1 (.pointer (some ⟨b1, 0, none⟩)) fun v5 =>
Ld H4 v5 fun v6 =>
FAddr 1 (.pointer (some ⟨b3, 0, none⟩)) fun v7 =>
Ld H4 v7 fun v8 =>
Bin .num .lss v6 v8 fun v9 =>
Grp v9 false (fun t10 =>
FAddr 1 (.pointer (some ⟨b1, 0, none⟩)) fun v11 =>
Ld H4 v11 fun v12 =>
FAddr 1 (.pointer (some ⟨b3, 0, none⟩)) fun v13 =>
Ld H4 v13 fun v14 =>
Bin .num .eql v12 v14 fun v15 =>
Grp v15 true (fun t16 =>
FAddr 0 (.pointer (some ⟨b1, 0, none⟩)) fun v17 =>
Ld H4 v17 fun v18 =>
FAddr 0 (.pointer (some ⟨b3, 0, none⟩)) fun v19 =>
Ld H4 v19 fun v20 =>
Bin .num .lss v18 v20 fun v21 =>
(H4 = H4 ∧ v21 = Value.bool t16)) (fun t16 => (Value.bool false) = Value.bool t16) fun t16 => ∀ gs22 : Fr,
(H4 = H4 ∧ (Value.bool t16) = Value.bool t10)) (fun t10 => (Value.bool true) = Value.bool t10) fun t10 => ∀ gs23 : Fr,
R (.returned (Value.bool t10)) H4
theorem L49_eq (g : World) (a0 a1 : Value) (H : Hp) (R : Ending → Hp → Prop) : denF Try.prog g Try.f49 (.h 0 [] [] .e (.h 0 [] [] (.h 0 [] [1] .e .e) .e)) [a0, a1] H R = L49 g a0 a1 H R := by kernel_rfl
theorem L49_sound {g : World} {a0 a1 : Value} {H : Hp} {R : Ending → Hp → Prop} (h : L49 g a0 a1 H R) : SCalls Try.prog g 49 #[a0, a1] H R :=
  denF_sound (fn := Try.f49) (hn := (.h 0 [] [] .e (.h 0 [] [] (.h 0 [] [1] .e .e) .e))) Try.func49 (by rw [L49_eq]; exact h)
end Go.Proofs
