/- listings, by program -/
import Derived.Test.YtlnfeedpfganpaaE3
import Derived.Test.YtlnfeedpfganpaaProg
set_option maxRecDepth 100000
set_option linter.unusedVariables false
namespace Go.Proofs
open Go Go.Sx
/-- thicket.thicketlaw19.ExactBests -/
def L3 (g : Gh) (a0 : Value) (H : Hp) (R : Ending → Hp → Prop) : Prop :=
CallF Try.prog g 9 #[] H (fun v1 H2 =>
Un .not v1 fun v3 =>
Br v3 (
R (.returned (Value.bool false)) H2) (
CallF Try.prog g 10 #[a0] H2 (fun v4 H5 =>
Un .not v4 fun v6 =>
Br v6 (
R (.returned (Value.bool true)) H5) (
CallF Try.prog g 12 #[a0] H5 (fun v7 H8 =>
CallF Try.prog g 11 #[v7] H8 (fun v9 H10 =>
Ext 0 v9 fun v11 =>
Ext 1 v9 fun v12 =>
Ext 2 v9 fun v13 =>
CallF Try.prog g 13 #[a0] H10 (fun v14 H15 =>
Ext 0 v14 fun v16 =>
Ext 1 v14 fun v17 =>
Ext 2 v14 fun v18 =>
∀ J19 : List Value → Hp → Prop, (∀ w22 : Value, ∀ H21 : Hp, (∀ gs20 : Fr,
R (.returned w22) H21) → J19 [w22] H21) →
Bin .num .eql v11 v16 fun v23 =>
Split v23 true (
CallF Try.prog g 14 #[v12, v17] H15 (fun v24 H25 =>
Pick (Value.bool true) v24 (Value.bool false) fun v26 =>
Split v26 true (
Bin .num .eql v13 v18 fun v27 =>
Pick (Value.bool true) v27 (Value.bool false) fun v28 =>
JE J19 [v28] H25) (
Pick (Value.bool false) undef (Value.bool false) fun v29 =>
JE J19 [v29] H25)) (PanR R)) (
Pick (Value.bool false) undef (Value.bool false) fun v30 =>
Pick v30 undef (Value.bool false) fun v31 =>
JE J19 [v31] H15)) (PanR R)) (PanR R)) (PanR R))) (PanR R))) (PanR R)
theorem L3_eq (g : Gh) (a0 : Value) (H : Hp) (R : Ending → Hp → Prop) : denF Try.prog g Try.f3 (.h 0 [] [] .e (.h 0 [] [] .e (.h 0 [] [] .e (.h 0 [] [] .e (.h 0 [] [] .e (.h 1 [2] [] .e .e)))))) [a0] H R = L3 g a0 H R := by kernel_rfl
theorem L3_sound {g : Gh} {a0 : Value} {H : Hp} {R : Ending → Hp → Prop} (h : L3 g a0 H R) : SCalls Try.prog g 3 #[a0] H R :=
  denF_sound (fn := Try.f3) (hn := (.h 0 [] [] .e (.h 0 [] [] .e (.h 0 [] [] .e (.h 0 [] [] .e (.h 0 [] [] .e (.h 1 [2] [] .e .e))))))) Try.func3 (by rw [L3_eq]; exact h)
/-- thicket.thicketlaw19.ExactWithins -/
def L4 (g : Gh) (a0 a1 : Value) (H : Hp) (R : Ending → Hp → Prop) : Prop :=
CallF Try.prog g 9 #[] H (fun v1 H2 =>
Un .not v1 fun v3 =>
Br v3 (
R (.returned (Value.bool false)) H2) (
CallF Try.prog g 10 #[a0] H2 (fun v4 H5 =>
Un .not v4 fun v6 =>
Br v6 (
R (.returned (Value.bool true)) H5) (
CallF Try.prog g 12 #[a0] H5 (fun v7 H8 =>
CallF Try.prog g 15 #[v7, a1] H8 (fun v9 H10 =>
Ext 0 v9 fun v11 =>
Ext 1 v9 fun v12 =>
CallF Try.prog g 16 #[a0, a1] H10 (fun v13 H14 =>
Ext 0 v13 fun v15 =>
Ext 1 v13 fun v16 =>
Bin .num .eql v11 v15 fun v17 =>
Grp v17 true (fun t18 =>
Bin .num .eql v12 v16 fun v19 =>
(H14 = H14 ∧ v19 = Value.bool t18)) (fun t18 => (Value.bool false) = Value.bool t18) fun t18 => ∀ gs20 : Fr,
R (.returned (Value.bool t18)) H14) (PanR R)) (PanR R)) (PanR R))) (PanR R))) (PanR R)
theorem L4_eq (g : Gh) (a0 a1 : Value) (H : Hp) (R : Ending → Hp → Prop) : denF Try.prog g Try.f4 (.h 0 [] [] .e (.h 0 [] [] .e (.h 0 [] [] .e (.h 0 [] [] .e (.h 0 [] [] .e (.h 0 [] [] (.h 0 [] [1] .e .e) .e)))))) [a0, a1] H R = L4 g a0 a1 H R := by kernel_rfl
theorem L4_sound {g : Gh} {a0 a1 : Value} {H : Hp} {R : Ending → Hp → Prop} (h : L4 g a0 a1 H R) : SCalls Try.prog g 4 #[a0, a1] H R :=
  denF_sound (fn := Try.f4) (hn := (.h 0 [] [] .e (.h 0 [] [] .e (.h 0 [] [] .e (.h 0 [] [] .e (.h 0 [] [] .e (.h 0 [] [] (.h 0 [] [1] .e .e) .e))))))) Try.func4 (by rw [L4_eq]; exact h)
/-- thicket.thicketlaw19.ExactKeeps -/
def L5 (g : Gh) (a0 a1 : Value) (H : Hp) (R : Ending → Hp → Prop) : Prop :=
CallF Try.prog g 9 #[] H (fun v1 H2 =>
Un .not v1 fun v3 =>
Br v3 (
R (.returned (Value.bool false)) H2) (
CallF Try.prog g 10 #[a0] H2 (fun v4 H5 =>
Un .not v4 fun v6 =>
Br v6 (
R (.returned (Value.bool true)) H5) (
LenS a0 fun v7 =>
∃ (I8 : List Value → Hp → Prop) (m9 : List Value → Hp → Nat), JE I8 [(.slice none 0 0), (.slice none 0 0), (Value.int .i64 0)] H5 ∧ ∀ w12 w13 w14 : Value, ∀ H11 : Hp, I8 [w12, w13, w14] H11 → ∀ gs10 : Fr,
Bin .num .lss w14 v7 fun v15 =>
Br v15 (
IAddr 2 a0 w14 fun v16 =>
LdA 2 H11 v16 fun v17 =>
New H11 (.cells #[(Value.int .i64 0), (.slice none 0 0)] 42 (0, 0)) fun b18 H19 =>
St 2 H19 (.pointer (some ⟨b18, 0, none⟩)) v17 fun H20 =>
BuildSl Try.prog 40 0 [] H20 fun v21 H22 =>
FAddr 1 (.pointer (some ⟨b18, 0, none⟩)) fun v23 =>
Ld H22 v23 fun v24 =>
App Try.prog 33 1 8 (Value.int .u64 0) H22 v21 v24 fun v27 H28 =>
BuildSl Try.prog 40 2 [(0, (Value.int .u64 51)), (1, (Value.int .u64 52))] H28 fun v29 H30 =>
App Try.prog 33 1 8 (Value.int .u64 0) H30 v27 v29 fun v33 H34 =>
BuildSl Try.prog 39 1 [(0, v33)] H34 fun v35 H36 =>
App Try.prog 40 1 24 (.slice none 0 0) H36 w13 v35 fun v39 H40 =>
DR H40 fun R41 =>
FAddr 0 (.pointer (some ⟨b18, 0, none⟩)) fun v42 =>
Ld R41 v42 fun v43 =>
FAddr 1 (.pointer (some ⟨b18, 0, none⟩)) fun v44 =>
Ld R41 v44 fun v45 =>
LenS v45 fun v46 =>
SliceE 1 v33 none (some v46) fun v47 =>
Build Try.prog 42 [(0, v43), (1, v47)] fun v48 =>
BuildSl Try.prog 22 1 [(0, v48)] H40 fun v49 H50 =>
Ent H50 R41 ∧
App Try.prog 42 2 32 (.agg #[(Value.int .i64 0), (.slice none 0 0)]) H50 w12 v49 fun v53 H54 =>
Ent H54 R41 ∧
Bin .num .add w14 (Value.int .i64 1) fun v55 =>
Back I8 m9 [v53, v39, v55] H54 [w12, w13, w14] H11) (
CallF Try.prog g 17 #[] H11 (fun v56 H57 =>
BuildSl Try.prog 22 1 [(0, v56)] H57 fun v58 H59 =>
App Try.prog 42 2 32 (.agg #[(Value.int .i64 0), (.slice none 0 0)]) H59 w12 v58 fun v62 H63 =>
LenS a0 fun v64 =>
SliceE 2 v62 none (some v64) fun v65 =>
CallF Try.prog g 13 #[a0] H63 (fun v66 H67 =>
Ext 0 v66 fun v68 =>
Ext 1 v66 fun v69 =>
Ext 2 v66 fun v70 =>
CallF Try.prog g 11 #[v65] H67 (fun v71 H72 =>
Ext 0 v71 fun v73 =>
Ext 1 v71 fun v74 =>
Ext 2 v71 fun v75 =>
CallF Try.prog g 11 #[v65] H72 (fun v76 H77 =>
Ext 0 v76 fun v78 =>
Ext 1 v76 fun v79 =>
Ext 2 v76 fun v80 =>
CallF Try.prog g 15 #[v65, a1] H77 (fun v81 H82 =>
∀ J83 : List Value → Hp → Prop, (∀ w86 : Value, ∀ H85 : Hp, (∀ gs84 : Fr,
Br w86 (
R (.returned (Value.bool false)) H85) (
LenS a0 fun v87 =>
∃ (I88 : List Value → Hp → Prop) (m89 : List Value → Hp → Nat), JE I88 [(Value.int .i64 0)] H85 ∧ ∀ w92 : Value, ∀ H91 : Hp, I88 [w92] H91 → ∀ gs90 : Fr,
Bin .num .lss w92 v87 fun v93 =>
Br v93 (
IAddr 2 a0 w92 fun v94 =>
LdA 2 H91 v94 fun v95 =>
New H91 (.cells #[(Value.int .i64 0), (.slice none 0 0)] 42 (0, 0)) fun b96 H97 =>
St 2 H97 (.pointer (some ⟨b96, 0, none⟩)) v95 fun H98 =>
FAddr 1 (.pointer (some ⟨b96, 0, none⟩)) fun v99 =>
Ld H98 v99 fun v100 =>
LenS v100 fun v101 =>
∀ J102 : List Value → Hp → Prop, (∀ w105 : Value, ∀ H104 : Hp, (∀ gs103 : Fr,
Br w105 (
R (.returned (Value.bool false)) H104) (
Bin .num .add w92 (Value.int .i64 1) fun v106 =>
Back I88 m89 [v106] H104 [w92] H91)) → J102 [w105] H104) →
DR H98 fun R107 =>
LdA 2 R107 (.pointer (some ⟨b96, 0, none⟩)) fun v108 =>
IAddr 2 v65 w92 fun v109 =>
FAddr 0 v109 fun v110 =>
Ld R107 v110 fun v111 =>
IAddr 1 w13 w92 fun v112 =>
Ld R107 v112 fun v113 =>
SliceE 1 v113 none (some v101) fun v114 =>
Build Try.prog 42 [(0, v111), (1, v114)] fun v115 =>
∀ F116 : Hp,
CallF Try.prog (g.add F116) 18 #[v108, v115] H98 (fun v117 H118 =>
Ent H118 R107 ∧
Un .not v117 fun v119 =>
Br v119 (
JE J102 [(Value.bool true)] H118) (
IAddr 1 w13 w92 fun v120 =>
Ld R107 v120 fun v121 =>
IAddr 1 v121 v101 fun v122 =>
Ld R107 v122 fun v123 =>
Bin .num .neq v123 (Value.int .u64 51) fun v124 =>
Pick (Value.bool false) (Value.bool true) v124 fun v125 =>
Br v125 (
JE J102 [(Value.bool true)] H118) (
IAddr 1 w13 w92 fun v126 =>
Ld R107 v126 fun v127 =>
Bin .num .add v101 (Value.int .i64 1) fun v128 =>
IAddr 1 v127 v128 fun v129 =>
Ld R107 v129 fun v130 =>
Bin .num .neq v130 (Value.int .u64 52) fun v131 =>
Pick (Value.bool false) (Value.bool true) v131 fun v132 =>
JE J102 [v132] H118))) NoKP) (
LenS v74 fun v133 =>
∃ (I134 : List Value → Hp → Prop) (m135 : List Value → Hp → Nat), JE I134 [(Value.int .i64 0)] H91 ∧ ∀ w138 : Value, ∀ H137 : Hp, I134 [w138] H137 → ∀ gs136 : Fr,
Bin .num .lss w138 v133 fun v139 =>
Br v139 (
Bin .num .add (Value.int .i64 70) w138 fun v140 =>
IAddr 1 v74 w138 fun v141 =>
St 1 H137 v141 v140 fun H142 =>
Bin .num .add w138 (Value.int .i64 1) fun v143 =>
Back I134 m135 [v143] H142 [w138] H137) (
BuildSl Try.prog 25 2 [(0, (Value.int .i64 1)), (1, (Value.int .i64 2))] H137 fun v144 H145 =>
App Try.prog 3 1 8 (Value.int .i64 0) H145 v74 v144 fun v148 H149 =>
LenS v65 fun v150 =>
∃ (I151 : List Value → Hp → Prop) (m152 : List Value → Hp → Nat), JE I151 [(Value.int .i64 0)] H149 ∧ ∀ w155 : Value, ∀ H154 : Hp, I151 [w155] H154 → ∀ gs153 : Fr,
Bin .num .lss w155 v150 fun v156 =>
Br v156 (
IAddr 2 v65 w155 fun v157 =>
LdA 2 H154 v157 fun v158 =>
New H154 (.cells #[(Value.int .i64 0), (.slice none 0 0)] 42 (0, 0)) fun b159 H160 =>
St 2 H160 (.pointer (some ⟨b159, 0, none⟩)) v158 fun H161 =>
FAddr 1 (.pointer (some ⟨b159, 0, none⟩)) fun v162 =>
Ld H161 v162 fun v163 =>
LenS v163 fun v164 =>
∃ (I165 : List Value → Hp → Prop) (m166 : List Value → Hp → Nat), JE I165 [(Value.int .i64 0)] H161 ∧ ∀ w169 : Value, ∀ H168 : Hp, I165 [w169] H168 → ∀ gs167 : Fr,
Bin .num .lss w169 v164 fun v170 =>
Br v170 (
FAddr 1 (.pointer (some ⟨b159, 0, none⟩)) fun v171 =>
Ld H168 v171 fun v172 =>
IAddr 1 v172 w169 fun v173 =>
Ld H168 v173 fun v174 =>
Bin .num .xor v174 (Value.int .u64 1) fun v175 =>
IAddr 1 v172 w169 fun v176 =>
St 1 H168 v176 v175 fun H177 =>
Bin .num .add w169 (Value.int .i64 1) fun v178 =>
Back I165 m166 [v178] H177 [w169] H168) (
Bin .num .add w155 (Value.int .i64 1) fun v179 =>
Back I151 m152 [v179] H168 [w155] H154)) (
CallF Try.prog g 12 #[v65] H154 (fun v180 H181 =>
CallF Try.prog g 13 #[v180] H181 (fun v182 H183 =>
Ext 0 v182 fun v184 =>
Ext 1 v182 fun v185 =>
Ext 2 v182 fun v186 =>
CallF Try.prog g 11 #[v65] H183 (fun v187 H188 =>
Ext 0 v187 fun v189 =>
Ext 1 v187 fun v190 =>
Ext 2 v187 fun v191 =>
∀ J192 : List Value → Hp → Prop, (∀ w195 : Value, ∀ H194 : Hp, (∀ gs193 : Fr,
Br w195 (
R (.returned (Value.bool false)) H194) (
BuildSl Try.prog 25 2 [(0, (Value.int .i64 3)), (1, (Value.int .i64 4))] H194 fun v196 H197 =>
App Try.prog 3 1 8 (Value.int .i64 0) H197 v79 v196 fun v200 H201 =>
LenS v148 fun v202 =>
Bin .num .sub v202 (Value.int .i64 2) fun v203 =>
IAddr 1 v148 v203 fun v204 =>
Ld H201 v204 fun v205 =>
Bin .num .eql v205 (Value.int .i64 1) fun v206 =>
Grp v206 true (fun t207 =>
LenS v200 fun v208 =>
Bin .num .sub v208 (Value.int .i64 2) fun v209 =>
IAddr 1 v200 v209 fun v210 =>
Ld H201 v210 fun v211 =>
Bin .num .eql v211 (Value.int .i64 3) fun v212 =>
(H201 = H201 ∧ v212 = Value.bool t207)) (fun t207 => (Value.bool false) = Value.bool t207) fun t207 => ∀ gs213 : Fr,
R (.returned (Value.bool t207)) H201)) → J192 [w195] H194) →
Bin .num .neq v189 v184 fun v214 =>
Split v214 false (
Bin .num .neq v191 v186 fun v215 =>
Pick (Value.bool false) (Value.bool true) v215 fun v216 =>
Split v216 false (
CallF Try.prog g 14 #[v190, v185] H188 (fun v217 H218 =>
Un .not v217 fun v219 =>
Pick (Value.bool false) (Value.bool true) v219 fun v220 =>
Split v220 false (
CallF Try.prog g 14 #[v79, v69] H218 (fun v221 H222 =>
Un .not v221 fun v223 =>
Pick (Value.bool false) (Value.bool true) v223 fun v224 =>
JE J192 [v224] H222) (PanR R)) (
Pick (Value.bool true) (Value.bool true) undef fun v225 =>
JE J192 [v225] H218)) (PanR R)) (
Pick (Value.bool true) (Value.bool true) undef fun v226 =>
Pick v226 (Value.bool true) undef fun v227 =>
JE J192 [v227] H188)) (
Pick (Value.bool true) (Value.bool true) undef fun v228 =>
Pick v228 (Value.bool true) undef fun v229 =>
Pick v229 (Value.bool true) undef fun v230 =>
JE J192 [v230] H188)) (PanR R)) (PanR R)) (PanR R)))))) → J83 [w86] H85) →
DR H82 fun R231 =>
Bin .num .neq v73 v68 fun v232 =>
Br v232 (
JE J83 [(Value.bool true)] H82) (
Bin .num .neq v78 v68 fun v233 =>
Pick (Value.bool false) (Value.bool true) v233 fun v234 =>
Br v234 (
JE J83 [(Value.bool true)] H82) (
Bin .num .neq v75 v70 fun v235 =>
Pick (Value.bool false) (Value.bool true) v235 fun v236 =>
Br v236 (
JE J83 [(Value.bool true)] H82) (
∀ F237 : Hp,
CallF Try.prog (g.add F237) 14 #[v74, v69] H82 (fun v238 H239 =>
Ent H239 R231 ∧
Un .not v238 fun v240 =>
Pick (Value.bool false) (Value.bool true) v240 fun v241 =>
Br v241 (
JE J83 [(Value.bool true)] H239) (
∀ F242 : Hp,
CallF Try.prog (g.add F242) 14 #[v79, v69] H239 (fun v243 H244 =>
Ent H244 R231 ∧
Un .not v243 fun v245 =>
Pick (Value.bool false) (Value.bool true) v245 fun v246 =>
Br v246 (
JE J83 [(Value.bool true)] H244) (
LenS a0 fun v247 =>
Bin .num .add v247 (Value.int .i64 1) fun v248 =>
SliceE 2 v65 none (some v248) fun v249 =>
LenS a0 fun v250 =>
IAddr 2 v249 v250 fun v251 =>
LdA 2 R231 v251 fun v252 =>
∀ F253 : Hp,
CallF Try.prog (g.add F253) 17 #[] H244 (fun v254 H255 =>
Ent H255 R231 ∧
∀ F256 : Hp,
CallF Try.prog (g.add F256) 18 #[v252, v254] H255 (fun v257 H258 =>
Ent H258 R231 ∧
Un .not v257 fun v259 =>
Pick (Value.bool false) (Value.bool true) v259 fun v260 =>
JE J83 [v260] H258) NoKP) NoKP)) NoKP)) NoKP)))) (PanR R)) (PanR R)) (PanR R)) (PanR R)) (PanR R)))) (PanR R))) (PanR R)
theorem L5_eq (g : Gh) (a0 a1 : Value) (H : Hp) (R : Ending → Hp → Prop) : denF Try.prog g Try.f5 (.h 0 [] [] .e (.h 0 [] [] .e (.h 0 [] [] .e (.h 0 [] [] .e (.h 0 [] [] .e (.h 0 [] [] (.h 0 [] [] .e (.h 0 [] [] (.h 0 [5, 6, 36] [0, 1, 34, 35] (.h 0 [] [] .e (.h 0 [] [] .e (.h 0 [] [] (.h 0 [] [] (.h 0 [] [] .e (.h 0 [] [] .e (.h 0 [] [] .e (.h 0 [0, 1, 2, 3, 4, 5, 6, 7, 8, 9, 10, 11] [] .e .e)))) .e) .e))) .e) .e)) (.h 0 [] [] .e (.h 0 [] [] .e (.h 0 [] [] .e (.h 0 [] [] .e (.h 0 [] [] .e (.h 0 [] [] (.h 1 [128] [0, 5, 6, 11, 14, 17] (.h 1 [] [] (.h 0 [0] [] (.h 0 [1] [] (.h 0 [2] [] (.h 2 [3] [] (.h 0 [4] [] (.h 0 [5] [] (.h 0 [6] [] (.h 3 [7] [] (.h 3 [8] [] (.h 0 [9] [] (.h 0 [10] [] (.h 0 [11] [] (.h 3 [12] [] (.h 3 [13] [] (.h 0 [14] [] (.h 0 [15] [] (.h 0 [16] [] (.h 0 [17] [] (.h 3 [18] [] (.h 3 [19] [] (.h 0 [20] [] (.h 0 [21] [] (.h 0 [22] [] (.h 0 [23] [] (.h 3 [24] [] (.h 3 [25] [] (.h 0 [26] [] (.h 0 [27] [] (.h 0 [28] [] (.h 0 [29] [] (.h 0 [30] [] (.h 0 [31] [] (.h 0 [32] [] (.h 0 [33] [] (.h 0 [34] [] (.h 0 [35] [] (.h 0 [36] [] (.h 0 [37] [] (.h 3 [38] [] .e .e) .e) .e) .e) .e) .e) .e) .e) .e) .e) .e) .e) .e) .e) .e) .e) .e) .e) .e) .e) .e) .e) .e) .e) .e) .e) .e) .e) .e) .e) .e) .e) .e) .e) .e) (.h 0 [4] [] (.h 0 [5] [] (.h 0 [6] [] (.h 0 [7] [] (.h 2 [8] [] (.h 0 [9] [] (.h 0 [10] [] (.h 0 [11] [] (.h 3 [12] [] (.h 3 [13] [] (.h 0 [14] [] (.h 0 [15] [] (.h 0 [16] [] (.h 0 [17] [] (.h 3 [18] [] (.h 3 [19] [] (.h 0 [20] [] (.h 0 [21] [] (.h 0 [22] [] (.h 0 [23] [] (.h 3 [24] [] (.h 3 [25] [] (.h 0 [26] [] (.h 0 [27] [] (.h 0 [28] [] (.h 0 [29] [] (.h 0 [30] [] (.h 0 [31] [] (.h 0 [32] [] (.h 0 [33] [] (.h 0 [34] [] (.h 0 [35] [] (.h 0 [36] [] (.h 0 [37] [] (.h 3 [38] [] .e .e) .e) .e) .e) .e) .e) .e) .e) .e) .e) .e) .e) .e) .e) .e) .e) .e) .e) .e) .e) .e) .e) .e) .e) .e) .e) .e) .e) .e) .e) (.h 0 [9] [] (.h 0 [10] [] (.h 0 [11] [] (.h 0 [12] [] (.h 2 [13] [] (.h 0 [14] [] (.h 0 [15] [] (.h 0 [16] [] (.h 0 [17] [] (.h 3 [18] [] (.h 3 [19] [] (.h 0 [20] [] (.h 0 [21] [] (.h 0 [22] [] (.h 0 [23] [] (.h 3 [24] [] (.h 3 [25] [] (.h 0 [26] [] (.h 0 [27] [] (.h 0 [28] [] (.h 0 [29] [] (.h 0 [30] [] (.h 0 [31] [] (.h 0 [32] [] (.h 0 [33] [] (.h 0 [34] [] (.h 0 [35] [] (.h 0 [36] [] (.h 0 [37] [] (.h 3 [38] [] .e .e) .e) .e) .e) .e) .e) .e) .e) .e) .e) .e) .e) .e) .e) .e) .e) .e) .e) .e) .e) .e) .e) .e) .e) .e) (.h 0 [14] [] (.h 0 [15] [] (.h 0 [16] [] (.h 0 [17] [] (.h 0 [18] [] (.h 2 [19] [] (.h 0 [20] [] (.h 0 [21] [] (.h 0 [22] [] (.h 0 [23] [] (.h 3 [24] [] (.h 3 [25] [] (.h 0 [26] [] (.h 0 [27] [] (.h 0 [28] [] (.h 0 [29] [] (.h 0 [30] [] (.h 0 [31] [] (.h 0 [32] [] (.h 0 [33] [] (.h 0 [34] [] (.h 0 [35] [] (.h 0 [36] [] (.h 0 [37] [] (.h 3 [38] [] .e .e) .e) .e) .e) .e) .e) .e) .e) .e) .e) .e) .e) .e) .e) .e) .e) .e) .e) .e) (.h 0 [20] [] (.h 0 [21] [] (.h 0 [22] [] (.h 0 [23] [] (.h 0 [24] [] (.h 2 [25] [] (.h 0 [26] [] (.h 0 [27] [] (.h 0 [28] [] (.h 0 [29] [] (.h 0 [30] [] (.h 0 [31] [] (.h 0 [32] [] (.h 0 [33] [] (.h 0 [34] [] (.h 0 [35] [] (.h 0 [36] [] (.h 0 [37] [] (.h 3 [38] [] .e .e) .e) .e) .e) .e) .e) .e) .e) .e) .e) .e) .e) .e) (.h 0 [26] [] (.h 0 [27] [] (.h 0 [28] [] (.h 0 [29] [] (.h 0 [30] [] (.h 0 [31] [] (.h 0 [32] [] (.h 0 [33] [] (.h 0 [34] [] (.h 0 [35] [] (.h 0 [36] [] (.h 0 [37] [] (.h 0 [38] [] .e .e) .e) .e) .e) .e) .e) .e) .e) .e) .e) .e) .e) .e)) .e) .e) .e) .e) .e)) .e) .e) .e) .e) .e)) .e) .e) .e) .e)) .e) .e) .e) .e)) .e) .e) .e) .e) .e) (.h 0 [] [] (.h 0 [] [] .e (.h 0 [] [] (.h 0 [131] [5, 6, 11, 14, 17, 129, 130] (.h 0 [] [] .e (.h 0 [] [] .e (.h 0 [] [] (.h 0 [] [] (.h 0 [] [] .e (.h 0 [] [] .e (.h 1 [174] [5, 6, 11, 14, 17, 129, 130, 131] (.h 1 [] [] (.h 0 [0] [] (.h 0 [1] [] (.h 0 [2] [] (.h 0 [3] [] (.h 0 [4] [] (.h 0 [5] [] (.h 0 [6] [] (.h 0 [7] [] (.h 0 [8] [] (.h 0 [9] [] (.h 0 [10] [] (.h 0 [11] [] (.h 0 [12] [] (.h 0 [13] [] (.h 0 [14] [] (.h 2 [15] [] (.h 0 [16] [] (.h 0 [17] [] (.h 0 [18] [] (.h 0 [19] [] (.h 0 [20] [] (.h 0 [21] [] (.h 0 [22] [] (.h 0 [23] [] (.h 3 [24] [] (.h 3 [25] [] (.h 0 [26] [] (.h 0 [27] [] (.h 0 [28] [] (.h 0 [29] [] (.h 0 [30] [] (.h 0 [31] [] (.h 0 [32] [] (.h 0 [33] [] (.h 0 [34] [] (.h 3 [35] [] .e .e) .e) .e) .e) .e) .e) .e) .e) .e) .e) .e) .e) .e) .e) .e) .e) .e) .e) .e) .e) (.h 0 [16] [] (.h 0 [17] [] (.h 0 [18] [] (.h 0 [19] [] (.h 0 [20] [] (.h 0 [21] [] (.h 0 [22] [] (.h 0 [23] [] (.h 0 [24] [] (.h 2 [25] [] (.h 0 [26] [] (.h 0 [27] [] (.h 0 [28] [] (.h 0 [29] [] (.h 0 [30] [] (.h 0 [31] [] (.h 0 [32] [] (.h 0 [33] [] (.h 0 [34] [] (.h 3 [35] [] .e .e) .e) .e) .e) .e) .e) .e) .e) .e) .e) (.h 0 [26] [] (.h 0 [27] [] (.h 0 [28] [] (.h 0 [29] [] (.h 0 [30] [] (.h 0 [31] [] (.h 0 [32] [] (.h 0 [33] [] (.h 0 [34] [] (.h 0 [35] [] .e .e) .e) .e) .e) .e) .e) .e) .e) .e) .e)) .e) .e) .e) .e) .e) .e) .e) .e) .e)) .e) .e) .e) .e) .e) .e) .e) .e) .e) .e) .e) .e) .e) .e) .e) .e) .e))) .e) .e))) .e) .e)) (.h 0 [] [] (.h 0 [] [] .e (.h 0 [] [] (.h 0 [178] [5, 11, 14, 17, 177] .e .e) .e)) (.h 0 [] [] .e (.h 0 [] [] (.h 0 [] [] .e (.h 0 [] [] (.h 0 [192] [5, 11, 14, 17, 190, 191] (.h 0 [] [] .e (.h 0 [] [] .e (.h 0 [] [] (.h 0 [] [] (.h 0 [] [] .e (.h 0 [] [] .e (.h 0 [] [] (.h 0 [199] [5, 11, 14, 17, 24, 190, 191, 192, 198] .e .e) .e))) .e) .e))) .e) .e)) (.h 0 [] [] .e (.h 0 [] [] .e (.h 0 [] [] .e (.h 0 [] [] (.h 1 [244] [14, 17] .e .e) (.h 0 [] [] .e (.h 0 [] [] (.h 0 [] [1] .e .e) .e)))))))))))))))))))))) [a0, a1] H R = L5 g a0 a1 H R := by kernel_rfl
theorem L5_sound {g : Gh} {a0 a1 : Value} {H : Hp} {R : Ending → Hp → Prop} (h : L5 g a0 a1 H R) : SCalls Try.prog g 5 #[a0, a1] H R :=
  denF_sound (fn := Try.f5) (hn := (.h 0 [] [] .e (.h 0 [] [] .e (.h 0 [] [] .e (.h 0 [] [] .e (.h 0 [] [] .e (.h 0 [] [] (.h 0 [] [] .e (.h 0 [] [] (.h 0 [5, 6, 36] [0, 1, 34, 35] (.h 0 [] [] .e (.h 0 [] [] .e (.h 0 [] [] (.h 0 [] [] (.h 0 [] [] .e (.h 0 [] [] .e (.h 0 [] [] .e (.h 0 [0, 1, 2, 3, 4, 5, 6, 7, 8, 9, 10, 11] [] .e .e)))) .e) .e))) .e) .e)) (.h 0 [] [] .e (.h 0 [] [] .e (.h 0 [] [] .e (.h 0 [] [] .e (.h 0 [] [] .e (.h 0 [] [] (.h 1 [128] [0, 5, 6, 11, 14, 17] (.h 1 [] [] (.h 0 [0] [] (.h 0 [1] [] (.h 0 [2] [] (.h 2 [3] [] (.h 0 [4] [] (.h 0 [5] [] (.h 0 [6] [] (.h 3 [7] [] (.h 3 [8] [] (.h 0 [9] [] (.h 0 [10] [] (.h 0 [11] [] (.h 3 [12] [] (.h 3 [13] [] (.h 0 [14] [] (.h 0 [15] [] (.h 0 [16] [] (.h 0 [17] [] (.h 3 [18] [] (.h 3 [19] [] (.h 0 [20] [] (.h 0 [21] [] (.h 0 [22] [] (.h 0 [23] [] (.h 3 [24] [] (.h 3 [25] [] (.h 0 [26] [] (.h 0 [27] [] (.h 0 [28] [] (.h 0 [29] [] (.h 0 [30] [] (.h 0 [31] [] (.h 0 [32] [] (.h 0 [33] [] (.h 0 [34] [] (.h 0 [35] [] (.h 0 [36] [] (.h 0 [37] [] (.h 3 [38] [] .e .e) .e) .e) .e) .e) .e) .e) .e) .e) .e) .e) .e) .e) .e) .e) .e) .e) .e) .e) .e) .e) .e) .e) .e) .e) .e) .e) .e) .e) .e) .e) .e) .e) .e) .e) (.h 0 [4] [] (.h 0 [5] [] (.h 0 [6] [] (.h 0 [7] [] (.h 2 [8] [] (.h 0 [9] [] (.h 0 [10] [] (.h 0 [11] [] (.h 3 [12] [] (.h 3 [13] [] (.h 0 [14] [] (.h 0 [15] [] (.h 0 [16] [] (.h 0 [17] [] (.h 3 [18] [] (.h 3 [19] [] (.h 0 [20] [] (.h 0 [21] [] (.h 0 [22] [] (.h 0 [23] [] (.h 3 [24] [] (.h 3 [25] [] (.h 0 [26] [] (.h 0 [27] [] (.h 0 [28] [] (.h 0 [29] [] (.h 0 [30] [] (.h 0 [31] [] (.h 0 [32] [] (.h 0 [33] [] (.h 0 [34] [] (.h 0 [35] [] (.h 0 [36] [] (.h 0 [37] [] (.h 3 [38] [] .e .e) .e) .e) .e) .e) .e) .e) .e) .e) .e) .e) .e) .e) .e) .e) .e) .e) .e) .e) .e) .e) .e) .e) .e) .e) .e) .e) .e) .e) .e) (.h 0 [9] [] (.h 0 [10] [] (.h 0 [11] [] (.h 0 [12] [] (.h 2 [13] [] (.h 0 [14] [] (.h 0 [15] [] (.h 0 [16] [] (.h 0 [17] [] (.h 3 [18] [] (.h 3 [19] [] (.h 0 [20] [] (.h 0 [21] [] (.h 0 [22] [] (.h 0 [23] [] (.h 3 [24] [] (.h 3 [25] [] (.h 0 [26] [] (.h 0 [27] [] (.h 0 [28] [] (.h 0 [29] [] (.h 0 [30] [] (.h 0 [31] [] (.h 0 [32] [] (.h 0 [33] [] (.h 0 [34] [] (.h 0 [35] [] (.h 0 [36] [] (.h 0 [37] [] (.h 3 [38] [] .e .e) .e) .e) .e) .e) .e) .e) .e) .e) .e) .e) .e) .e) .e) .e) .e) .e) .e) .e) .e) .e) .e) .e) .e) .e) (.h 0 [14] [] (.h 0 [15] [] (.h 0 [16] [] (.h 0 [17] [] (.h 0 [18] [] (.h 2 [19] [] (.h 0 [20] [] (.h 0 [21] [] (.h 0 [22] [] (.h 0 [23] [] (.h 3 [24] [] (.h 3 [25] [] (.h 0 [26] [] (.h 0 [27] [] (.h 0 [28] [] (.h 0 [29] [] (.h 0 [30] [] (.h 0 [31] [] (.h 0 [32] [] (.h 0 [33] [] (.h 0 [34] [] (.h 0 [35] [] (.h 0 [36] [] (.h 0 [37] [] (.h 3 [38] [] .e .e) .e) .e) .e) .e) .e) .e) .e) .e) .e) .e) .e) .e) .e) .e) .e) .e) .e) .e) (.h 0 [20] [] (.h 0 [21] [] (.h 0 [22] [] (.h 0 [23] [] (.h 0 [24] [] (.h 2 [25] [] (.h 0 [26] [] (.h 0 [27] [] (.h 0 [28] [] (.h 0 [29] [] (.h 0 [30] [] (.h 0 [31] [] (.h 0 [32] [] (.h 0 [33] [] (.h 0 [34] [] (.h 0 [35] [] (.h 0 [36] [] (.h 0 [37] [] (.h 3 [38] [] .e .e) .e) .e) .e) .e) .e) .e) .e) .e) .e) .e) .e) .e) (.h 0 [26] [] (.h 0 [27] [] (.h 0 [28] [] (.h 0 [29] [] (.h 0 [30] [] (.h 0 [31] [] (.h 0 [32] [] (.h 0 [33] [] (.h 0 [34] [] (.h 0 [35] [] (.h 0 [36] [] (.h 0 [37] [] (.h 0 [38] [] .e .e) .e) .e) .e) .e) .e) .e) .e) .e) .e) .e) .e) .e)) .e) .e) .e) .e) .e)) .e) .e) .e) .e) .e)) .e) .e) .e) .e)) .e) .e) .e) .e)) .e) .e) .e) .e) .e) (.h 0 [] [] (.h 0 [] [] .e (.h 0 [] [] (.h 0 [131] [5, 6, 11, 14, 17, 129, 130] (.h 0 [] [] .e (.h 0 [] [] .e (.h 0 [] [] (.h 0 [] [] (.h 0 [] [] .e (.h 0 [] [] .e (.h 1 [174] [5, 6, 11, 14, 17, 129, 130, 131] (.h 1 [] [] (.h 0 [0] [] (.h 0 [1] [] (.h 0 [2] [] (.h 0 [3] [] (.h 0 [4] [] (.h 0 [5] [] (.h 0 [6] [] (.h 0 [7] [] (.h 0 [8] [] (.h 0 [9] [] (.h 0 [10] [] (.h 0 [11] [] (.h 0 [12] [] (.h 0 [13] [] (.h 0 [14] [] (.h 2 [15] [] (.h 0 [16] [] (.h 0 [17] [] (.h 0 [18] [] (.h 0 [19] [] (.h 0 [20] [] (.h 0 [21] [] (.h 0 [22] [] (.h 0 [23] [] (.h 3 [24] [] (.h 3 [25] [] (.h 0 [26] [] (.h 0 [27] [] (.h 0 [28] [] (.h 0 [29] [] (.h 0 [30] [] (.h 0 [31] [] (.h 0 [32] [] (.h 0 [33] [] (.h 0 [34] [] (.h 3 [35] [] .e .e) .e) .e) .e) .e) .e) .e) .e) .e) .e) .e) .e) .e) .e) .e) .e) .e) .e) .e) .e) (.h 0 [16] [] (.h 0 [17] [] (.h 0 [18] [] (.h 0 [19] [] (.h 0 [20] [] (.h 0 [21] [] (.h 0 [22] [] (.h 0 [23] [] (.h 0 [24] [] (.h 2 [25] [] (.h 0 [26] [] (.h 0 [27] [] (.h 0 [28] [] (.h 0 [29] [] (.h 0 [30] [] (.h 0 [31] [] (.h 0 [32] [] (.h 0 [33] [] (.h 0 [34] [] (.h 3 [35] [] .e .e) .e) .e) .e) .e) .e) .e) .e) .e) .e) (.h 0 [26] [] (.h 0 [27] [] (.h 0 [28] [] (.h 0 [29] [] (.h 0 [30] [] (.h 0 [31] [] (.h 0 [32] [] (.h 0 [33] [] (.h 0 [34] [] (.h 0 [35] [] .e .e) .e) .e) .e) .e) .e) .e) .e) .e) .e)) .e) .e) .e) .e) .e) .e) .e) .e) .e)) .e) .e) .e) .e) .e) .e) .e) .e) .e) .e) .e) .e) .e) .e) .e) .e) .e))) .e) .e))) .e) .e)) (.h 0 [] [] (.h 0 [] [] .e (.h 0 [] [] (.h 0 [178] [5, 11, 14, 17, 177] .e .e) .e)) (.h 0 [] [] .e (.h 0 [] [] (.h 0 [] [] .e (.h 0 [] [] (.h 0 [192] [5, 11, 14, 17, 190, 191] (.h 0 [] [] .e (.h 0 [] [] .e (.h 0 [] [] (.h 0 [] [] (.h 0 [] [] .e (.h 0 [] [] .e (.h 0 [] [] (.h 0 [199] [5, 11, 14, 17, 24, 190, 191, 192, 198] .e .e) .e))) .e) .e))) .e) .e)) (.h 0 [] [] .e (.h 0 [] [] .e (.h 0 [] [] .e (.h 0 [] [] (.h 1 [244] [14, 17] .e .e) (.h 0 [] [] .e (.h 0 [] [] (.h 0 [] [1] .e .e) .e))))))))))))))))))))))) Try.func5 (by rw [L5_eq]; exact h)
/-- thicket.thicketlaw19.ExactRenames -/
def L6 (g : Gh) (a0 a1 : Value) (H : Hp) (R : Ending → Hp → Prop) : Prop :=
CallF Try.prog g 9 #[] H (fun v1 H2 =>
Un .not v1 fun v3 =>
Br v3 (
R (.returned (Value.bool false)) H2) (
CallF Try.prog g 19 #[a0, (Value.int .i64 8)] H2 (fun v4 H5 =>
Un .not v4 fun v6 =>
Br v6 (
R (.returned (Value.bool true)) H5) (
LenS a0 fun v7 =>
∃ (I8 : List Value → Hp → Prop) (m9 : List Value → Hp → Nat), JE I8 [(.slice none 0 0), (.slice none 0 0), (Value.int .i64 0)] H5 ∧ ∀ w12 w13 w14 : Value, ∀ H11 : Hp, I8 [w12, w13, w14] H11 → ∀ gs10 : Fr,
Bin .num .lss w14 v7 fun v15 =>
Br v15 (
IAddr 2 a0 w14 fun v16 =>
LdA 2 H11 v16 fun v17 =>
New H11 (.cells #[(Value.int .i64 0), (.slice none 0 0)] 42 (0, 0)) fun b18 H19 =>
St 2 H19 (.pointer (some ⟨b18, 0, none⟩)) v17 fun H20 =>
LdA 2 H20 (.pointer (some ⟨b18, 0, none⟩)) fun v21 =>
CallF Try.prog g 20 #[v21] H20 (fun v22 H23 =>
Ext 0 v22 fun v24 =>
Ext 1 v22 fun v25 =>
New H23 (.cells #[(Value.int .i64 0), (.slice none 0 0)] 42 (0, 0)) fun b26 H27 =>
St 2 H27 (.pointer (some ⟨b26, 0, none⟩)) v24 fun H28 =>
DR H28 fun R29 =>
LdA 2 R29 (.pointer (some ⟨b18, 0, none⟩)) fun v30 =>
∀ F31 : Hp,
BuildSl Try.prog 25 0 [] H28 fun v32 H33 =>
Ent H33 R29 ∧
∀ F34 : Hp,
App Try.prog 3 1 8 (Value.int .i64 0) H33 v32 a1 fun v37 H38 =>
Ent H38 R29 ∧
∀ F39 : Hp,
CallF Try.prog (g.add F39) 21 #[v30, v37] H38 (fun v40 H41 =>
Ent H41 R29 ∧
Ext 0 v40 fun v42 =>
Ext 1 v40 fun v43 =>
New H41 (.cells #[(Value.int .i64 0), (.slice none 0 0)] 42 (0, 0)) fun b44 H45 =>
∀ F46 : Hp,
St 2 H45 (.pointer (some ⟨b44, 0, none⟩)) v42 fun H47 =>
Ent H47 R29 ∧
Bin .num .neq v25 (Value.int .i64 0) fun v48 =>
Br v48 (
R (.returned (Value.bool false)) H47) (
Bin .num .neq v43 (Value.int .i64 0) fun v49 =>
Br v49 (
Bin .num .eql v43 (Value.int .i64 4) fun v50 =>
R (.returned v50) H47) (
DR H47 fun R51 =>
LdA 2 R51 (.pointer (some ⟨b26, 0, none⟩)) fun v52 =>
LdA 2 R51 (.pointer (some ⟨b44, 0, none⟩)) fun v53 =>
BuildSlC Try.prog 22 1 [(0, v53)] fun x54 =>
∀ F55 : Hp,
BuildSl Try.prog 22 1 [(0, v52)] H47 fun v56 H57 =>
Ent H57 R51 ∧
∀ F58 : Hp,
App Try.prog 42 2 32 (.agg #[(Value.int .i64 0), (.slice none 0 0)]) H57 w12 v56 fun v61 H62 =>
Ent H62 R51 ∧
New H62 x54.1 fun b63 H64 =>
∀ F65 : Hp,
App Try.prog 42 2 32 (.agg #[(Value.int .i64 0), (.slice none 0 0)]) H64 w13 (x54.2 b63) fun v68 H69 =>
Ent H69 R51 ∧
Bin .num .add w14 (Value.int .i64 1) fun v70 =>
Back I8 m9 [v61, v68, v70] H69 [w12, w13, w14] H11))) NoKP) (PanR R)) (
CallF Try.prog g 12 #[a0] H11 (fun v71 H72 =>
CallF Try.prog g 11 #[v71] H72 (fun v73 H74 =>
Ext 0 v73 fun v75 =>
Ext 1 v73 fun v76 =>
Ext 2 v73 fun v77 =>
CallF Try.prog g 11 #[w12] H74 (fun v78 H79 =>
Ext 0 v78 fun v80 =>
Ext 1 v78 fun v81 =>
Ext 2 v78 fun v82 =>
CallF Try.prog g 11 #[w13] H79 (fun v83 H84 =>
Ext 0 v83 fun v85 =>
Ext 1 v83 fun v86 =>
Ext 2 v83 fun v87 =>
∀ J88 : List Value → Hp → Prop, (∀ w91 : Value, ∀ H90 : Hp, (∀ gs89 : Fr,
R (.returned w91) H90) → J88 [w91] H90) →
Bin .num .eql v77 (Value.int .i64 0) fun v92 =>
Split v92 true (
Bin .num .eql v82 (Value.int .i64 0) fun v93 =>
Pick (Value.bool true) v93 (Value.bool false) fun v94 =>
Split v94 true (
Bin .num .eql v87 (Value.int .i64 0) fun v95 =>
Pick (Value.bool true) v95 (Value.bool false) fun v96 =>
Split v96 true (
Bin .num .eql v75 v80 fun v97 =>
Pick (Value.bool true) v97 (Value.bool false) fun v98 =>
Split v98 true (
CallF Try.prog g 14 #[v76, v81] H84 (fun v99 H100 =>
Pick (Value.bool true) v99 (Value.bool false) fun v101 =>
Split v101 true (
Bin .num .eql v85 v75 fun v102 =>
Pick (Value.bool true) v102 (Value.bool false) fun v103 =>
Split v103 true (
LenS v86 fun v104 =>
LenS v76 fun v105 =>
Bin .num .eql v104 v105 fun v106 =>
Pick (Value.bool true) v106 (Value.bool false) fun v107 =>
JE J88 [v107] H100) (
Pick (Value.bool false) undef (Value.bool false) fun v108 =>
JE J88 [v108] H100)) (
Pick (Value.bool false) undef (Value.bool false) fun v109 =>
Pick v109 undef (Value.bool false) fun v110 =>
JE J88 [v110] H100)) (PanR R)) (
Pick (Value.bool false) undef (Value.bool false) fun v111 =>
Pick v111 undef (Value.bool false) fun v112 =>
Pick v112 undef (Value.bool false) fun v113 =>
JE J88 [v113] H84)) (
Pick (Value.bool false) undef (Value.bool false) fun v114 =>
Pick v114 undef (Value.bool false) fun v115 =>
Pick v115 undef (Value.bool false) fun v116 =>
Pick v116 undef (Value.bool false) fun v117 =>
JE J88 [v117] H84)) (
Pick (Value.bool false) undef (Value.bool false) fun v118 =>
Pick v118 undef (Value.bool false) fun v119 =>
Pick v119 undef (Value.bool false) fun v120 =>
Pick v120 undef (Value.bool false) fun v121 =>
Pick v121 undef (Value.bool false) fun v122 =>
JE J88 [v122] H84)) (
Pick (Value.bool false) undef (Value.bool false) fun v123 =>
Pick v123 undef (Value.bool false) fun v124 =>
Pick v124 undef (Value.bool false) fun v125 =>
Pick v125 undef (Value.bool false) fun v126 =>
Pick v126 undef (Value.bool false) fun v127 =>
Pick v127 undef (Value.bool false) fun v128 =>
JE J88 [v128] H84)) (PanR R)) (PanR R)) (PanR R)) (PanR R)))) (PanR R))) (PanR R)
theorem L6_eq (g : Gh) (a0 a1 : Value) (H : Hp) (R : Ending → Hp → Prop) : denF Try.prog g Try.f6 (.h 0 [] [] .e (.h 0 [] [] .e (.h 0 [] [] .e (.h 0 [] [] .e (.h 0 [] [] (.h 0 [] [] .e (.h 0 [] [] (.h 0 [5, 6, 29] [0, 1, 27, 28] (.h 0 [] [] .e (.h 0 [] [] .e (.h 0 [] [] (.h 0 [] [] (.h 0 [] [] .e (.h 0 [] [] .e (.h 0 [] [] (.h 1 [] [] (.h 0 [0] [] (.h 0 [2] [] (.h 1 [8] [] (.h 0 [1] [] (.h 0 [3] [] (.h 0 [4] [] (.h 0 [5] [] (.h 0 [6] [] (.h 0 [7] [] (.h 0 [8] [] (.h 0 [9] [] (.h 0 [10] [] .e .e) .e) .e) .e) .e) .e) .e) .e) .e) .e) .e) .e) .e) (.h 0 [] [] .e (.h 0 [] [] .e (.h 1 [] [] (.h 0 [0] [] (.h 0 [1] [] (.h 0 [4] [] (.h 0 [5] [] (.h 1 [6] [] (.h 0 [2] [] (.h 0 [3] [] (.h 0 [6] [] (.h 0 [7] [] (.h 0 [8] [] (.h 0 [9] [] .e .e) .e) .e) .e) .e) .e) .e) .e) .e) .e) .e) .e)))))) .e) .e))) .e) .e)) (.h 0 [] [] .e (.h 0 [] [] .e (.h 0 [] [] .e (.h 1 [4] [] .e .e))))))))) [a0, a1] H R = L6 g a0 a1 H R := by kernel_rfl
theorem L6_sound {g : Gh} {a0 a1 : Value} {H : Hp} {R : Ending → Hp → Prop} (h : L6 g a0 a1 H R) : SCalls Try.prog g 6 #[a0, a1] H R :=
  denF_sound (fn := Try.f6) (hn := (.h 0 [] [] .e (.h 0 [] [] .e (.h 0 [] [] .e (.h 0 [] [] .e (.h 0 [] [] (.h 0 [] [] .e (.h 0 [] [] (.h 0 [5, 6, 29] [0, 1, 27, 28] (.h 0 [] [] .e (.h 0 [] [] .e (.h 0 [] [] (.h 0 [] [] (.h 0 [] [] .e (.h 0 [] [] .e (.h 0 [] [] (.h 1 [] [] (.h 0 [0] [] (.h 0 [2] [] (.h 1 [8] [] (.h 0 [1] [] (.h 0 [3] [] (.h 0 [4] [] (.h 0 [5] [] (.h 0 [6] [] (.h 0 [7] [] (.h 0 [8] [] (.h 0 [9] [] (.h 0 [10] [] .e .e) .e) .e) .e) .e) .e) .e) .e) .e) .e) .e) .e) .e) (.h 0 [] [] .e (.h 0 [] [] .e (.h 1 [] [] (.h 0 [0] [] (.h 0 [1] [] (.h 0 [4] [] (.h 0 [5] [] (.h 1 [6] [] (.h 0 [2] [] (.h 0 [3] [] (.h 0 [6] [] (.h 0 [7] [] (.h 0 [8] [] (.h 0 [9] [] .e .e) .e) .e) .e) .e) .e) .e) .e) .e) .e) .e) .e)))))) .e) .e))) .e) .e)) (.h 0 [] [] .e (.h 0 [] [] .e (.h 0 [] [] .e (.h 1 [4] [] .e .e)))))))))) Try.func6 (by rw [L6_eq]; exact h)
/-- thicket.thicketlaw19.ExactNoLess -/
def L7 (g : Gh) (a0 a1 : Value) (H : Hp) (R : Ending → Hp → Prop) : Prop :=
CallF Try.prog g 9 #[] H (fun v1 H2 =>
Un .not v1 fun v3 =>
Br v3 (
R (.returned (Value.bool false)) H2) (
CallF Try.prog g 19 #[a0, (Value.int .i64 9)] H2 (fun v4 H5 =>
Un .not v4 fun v6 =>
Br v6 (
R (.returned (Value.bool true)) H5) (
CallF Try.prog g 12 #[a0] H5 (fun v7 H8 =>
CallF Try.prog g 11 #[v7] H8 (fun v9 H10 =>
Ext 0 v9 fun v11 =>
Ext 1 v9 fun v12 =>
Ext 2 v9 fun v13 =>
CallF Try.prog g 12 #[a0] H10 (fun v14 H15 =>
BuildSl Try.prog 25 0 [] H15 fun v16 H17 =>
App Try.prog 3 1 8 (Value.int .i64 0) H17 v16 v12 fun v20 H21 =>
CallF Try.prog g 22 #[v14, v20] H21 (fun v22 H23 =>
Ext 0 v22 fun v24 =>
Ext 1 v22 fun v25 =>
Bin .num .neq v13 (Value.int .i64 0) fun v26 =>
Grp v26 false (fun t27 =>
Bin .num .neq v25 (Value.int .i64 0) fun v28 =>
(H23 = H23 ∧ v28 = Value.bool t27)) (fun t27 => (Value.bool true) = Value.bool t27) fun t27 => ∀ gs29 : Fr,
Grp (Value.bool t27) false (fun t30 =>
Bin .num .neq v24 v11 fun v31 =>
(H23 = H23 ∧ v31 = Value.bool t30)) (fun t30 => (Value.bool true) = Value.bool t30) fun t30 => ∀ gs32 : Fr,
Grp (Value.bool t30) false (fun t33 =>
LenS v12 fun v34 =>
IAddr 2 a0 (Value.int .i64 0) fun v35 =>
FAddr 0 v35 fun v36 =>
Ld H23 v36 fun v37 =>
Bin .num .neq v34 v37 fun v38 =>
(H23 = H23 ∧ v38 = Value.bool t33)) (fun t33 => (Value.bool true) = Value.bool t33) fun t33 => ∀ gs39 : Fr,
Br (Value.bool t33) (
R (.returned (Value.bool false)) H23) (
CallF Try.prog g 12 #[a0] H23 (fun v40 H41 =>
BuildSl Try.prog 25 0 [] H41 fun v42 H43 =>
App Try.prog 3 1 8 (Value.int .i64 0) H43 v42 a1 fun v46 H47 =>
CallF Try.prog g 22 #[v40, v46] H47 (fun v48 H49 =>
Ext 0 v48 fun v50 =>
Ext 1 v48 fun v51 =>
Bin .num .neq v51 (Value.int .i64 0) fun v52 =>
Br v52 (
R (.returned (Value.bool true)) H49) (
∀ J53 : List Value → Hp → Prop, (∀ w56 : Value, ∀ H55 : Hp, (∀ gs54 : Fr,
R (.returned w56) H55) → J53 [w56] H55) →
Bin .num .geq v50 v11 fun v57 =>
Split v57 true (
CallF Try.prog g 23 #[a1, v12] H49 (fun v58 H59 =>
Split v58 true (
Bin .num .eql v50 v11 fun v60 =>
Pick (Value.bool true) v60 (Value.bool false) fun v61 =>
Un .not v61 fun v62 =>
Pick (Value.bool true) v62 (Value.bool false) fun v63 =>
JE J53 [v63] H59) (
Pick (Value.bool false) undef (Value.bool false) fun v64 =>
Un .not v64 fun v65 =>
Pick (Value.bool true) v65 (Value.bool false) fun v66 =>
JE J53 [v66] H59)) (PanR R)) (
Pick (Value.bool false) undef (Value.bool false) fun v67 =>
JE J53 [v67] H49))) (PanR R)) (PanR R))) (PanR R)) (PanR R)) (PanR R)) (PanR R))) (PanR R))) (PanR R)
theorem L7_eq (g : Gh) (a0 a1 : Value) (H : Hp) (R : Ending → Hp → Prop) : denF Try.prog g Try.f7 (.h 0 [] [] .e (.h 0 [] [] .e (.h 0 [] [] .e (.h 0 [] [] .e (.h 0 [] [] .e (.h 0 [] [] (.h 0 [] [] (.h 0 [] [1] .e .e) .e) (.h 0 [] [] .e (.h 0 [] [] .e (.h 1 [4] [] .e .e))))))))) [a0, a1] H R = L7 g a0 a1 H R := by kernel_rfl
theorem L7_sound {g : Gh} {a0 a1 : Value} {H : Hp} {R : Ending → Hp → Prop} (h : L7 g a0 a1 H R) : SCalls Try.prog g 7 #[a0, a1] H R :=
  denF_sound (fn := Try.f7) (hn := (.h 0 [] [] .e (.h 0 [] [] .e (.h 0 [] [] .e (.h 0 [] [] .e (.h 0 [] [] .e (.h 0 [] [] (.h 0 [] [] (.h 0 [] [1] .e .e) .e) (.h 0 [] [] .e (.h 0 [] [] .e (.h 1 [4] [] .e .e)))))))))) Try.func7 (by rw [L7_eq]; exact h)
/-- thicket.thicketlaw19.ExactSplits -/
def L8 (g : Gh) (a0 a1 a2 : Value) (H : Hp) (R : Ending → Hp → Prop) : Prop :=
CallF Try.prog g 9 #[] H (fun v1 H2 =>
Un .not v1 fun v3 =>
Br v3 (
R (.returned (Value.bool false)) H2) (
CallF Try.prog g 19 #[a0, (Value.int .i64 6)] H2 (fun v4 H5 =>
Un .not v4 fun v6 =>
Br v6 (
R (.returned (Value.bool true)) H5) (
IAddr 2 a0 (Value.int .i64 0) fun v7 =>
FAddr 0 v7 fun v8 =>
Ld H5 v8 fun v9 =>
CallF Try.prog g 12 #[a0] H5 (fun v10 H11 =>
CallF Try.prog g 11 #[v10] H11 (fun v12 H13 =>
Ext 0 v12 fun v14 =>
Ext 1 v12 fun v15 =>
Ext 2 v12 fun v16 =>
CallF Try.prog g 12 #[a0] H13 (fun v17 H18 =>
CallF Try.prog g 15 #[v17, (Value.int .u64 0)] H18 (fun v19 H20 =>
Ext 0 v19 fun v21 =>
Ext 1 v19 fun v22 =>
DR H20 fun R23 =>
Bin .num .shl (Value.int .u64 1) v9 fun v24 =>
Bin .num .sub v24 (Value.int .u64 1) fun v25 =>
CallF Try.prog g 12 #[a0] H20 (fun v26 H27 =>
Ent H27 R23 ∧
CallF Try.prog g 15 #[v26, v25] H27 (fun v28 H29 =>
Ent H29 R23 ∧
Ext 0 v28 fun v30 =>
Ext 1 v28 fun v31 =>
Bin .num .neq v16 (Value.int .i64 0) fun v32 =>
Grp v32 false (fun t33 =>
Bin .num .neq v22 (Value.int .i64 0) fun v34 =>
(H29 = H29 ∧ v34 = Value.bool t33)) (fun t33 => (Value.bool true) = Value.bool t33) fun t33 => ∀ gs35 : Fr,
Grp (Value.bool t33) false (fun t36 =>
Bin .num .neq v31 (Value.int .i64 0) fun v37 =>
(H29 = H29 ∧ v37 = Value.bool t36)) (fun t36 => (Value.bool true) = Value.bool t36) fun t36 => ∀ gs38 : Fr,
Grp (Value.bool t36) false (fun t39 =>
Bin .num .neq v21 v14 fun v40 =>
(H29 = H29 ∧ v40 = Value.bool t39)) (fun t39 => (Value.bool true) = Value.bool t39) fun t39 => ∀ gs41 : Fr,
Grp (Value.bool t39) false (fun t42 =>
Bin .num .neq v30 v14 fun v43 =>
(H29 = H29 ∧ v43 = Value.bool t42)) (fun t42 => (Value.bool true) = Value.bool t42) fun t42 => ∀ gs44 : Fr,
Br (Value.bool t42) (
R (.returned (Value.bool false)) H29) (
∀ J45 : List Value → Hp → Prop, (∀ w48 : Value, ∀ H47 : Hp, (∀ gs46 : Fr,
∃ (I49 : List Value → Hp → Prop) (m50 : List Value → Hp → Nat), JE I49 [(Value.int .i64 (-1)), (Value.int .u64 0)] H47 ∧ ∀ w53 w54 : Value, ∀ H52 : Hp, I49 [w53, w54] H52 → ∀ gs51 : Fr,
Bin .num .shl (Value.int .u64 1) v9 fun v55 =>
Bin .num .lss w54 v55 fun v56 =>
Br v56 (
∀ J57 : List Value → Hp → Prop, (∀ w60 : Value, ∀ H59 : Hp, (∀ gs58 : Fr,
Bin .num .add w54 (Value.int .u64 1) fun v61 =>
Back I49 m50 [w60, v61] H59 [w53, w54] H52) → J57 [w60] H59) →
CallF Try.prog g 24 #[w54] H52 (fun v62 H63 =>
Bin .num .neq v62 w48 fun v64 =>
Br v64 (
JE J57 [w53] H63) (
CallF Try.prog g 12 #[a0] H63 (fun v65 H66 =>
CallF Try.prog g 15 #[v65, w54] H66 (fun v67 H68 =>
Ext 0 v67 fun v69 =>
Ext 1 v67 fun v70 =>
Bin .num .neq v70 (Value.int .i64 0) fun v71 =>
Grp v71 false (fun t72 =>
Bin .num .lss v69 v14 fun v73 =>
(H68 = H68 ∧ v73 = Value.bool t72)) (fun t72 => (Value.bool true) = Value.bool t72) fun t72 => ∀ gs74 : Fr,
Br (Value.bool t72) (
R (.returned (Value.bool false)) H68) (
Bin .num .lss w53 (Value.int .i64 0) fun v75 =>
Grp v75 false (fun t76 =>
Bin .num .lss v69 w53 fun v77 =>
(H68 = H68 ∧ v77 = Value.bool t76)) (fun t76 => (Value.bool true) = Value.bool t76) fun t76 => ∀ gs78 : Fr,
Br (Value.bool t76) (
JE J57 [v69] H68) (
JE J57 [w53] H68))) (PanR R)) (PanR R))) (PanR R)) (
Bin .num .neq w53 v14 fun v79 =>
Br v79 (
R (.returned (Value.bool false)) H52) (
CallF Try.prog g 12 #[a0] H52 (fun v80 H81 =>
BuildSl Try.prog 25 0 [] H81 fun v82 H83 =>
App Try.prog 3 1 8 (Value.int .i64 0) H83 v82 a2 fun v86 H87 =>
CallF Try.prog g 22 #[v80, v86] H87 (fun v88 H89 =>
Ext 0 v88 fun v90 =>
Ext 1 v88 fun v91 =>
Bin .num .neq v91 (Value.int .i64 0) fun v92 =>
Br v92 (
R (.returned (Value.bool true)) H89) (
SliceE 1 a2 none (some w48) fun v93 =>
LenS v93 fun v94 =>
∃ (I95 : List Value → Hp → Prop) (m96 : List Value → Hp → Nat), JE I95 [(Value.int .u64 0), (Value.int .i64 0)] H89 ∧ ∀ w99 w100 : Value, ∀ H98 : Hp, I95 [w99, w100] H98 → ∀ gs97 : Fr,
Bin .num .lss w100 v94 fun v101 =>
Br v101 (
IAddr 1 v93 w100 fun v102 =>
Ld H98 v102 fun v103 =>
Bin .num .shl (Value.int .u64 1) v103 fun v104 =>
Bin .num .or w99 v104 fun v105 =>
Bin .num .add w100 (Value.int .i64 1) fun v106 =>
Back I95 m96 [v105, v106] H98 [w99, w100] H98) (
CallF Try.prog g 12 #[a0] H98 (fun v107 H108 =>
CallF Try.prog g 15 #[v107, w99] H108 (fun v109 H110 =>
Ext 0 v109 fun v111 =>
Ext 1 v109 fun v112 =>
Bin .num .eql v112 (Value.int .i64 0) fun v113 =>
Grp v113 true (fun t114 =>
Bin .num .leq v111 v90 fun v115 =>
(H110 = H110 ∧ v115 = Value.bool t114)) (fun t114 => (Value.bool false) = Value.bool t114) fun t114 => ∀ gs116 : Fr,
R (.returned (Value.bool t114)) H110) (PanR R)) (PanR R)))) (PanR R)) (PanR R)))) → J45 [w48] H47) →
Bin .num .lss a1 (Value.int .i64 0) fun v117 =>
Grp v117 false (fun t118 =>
Bin .num .gtr a1 v9 fun v119 =>
(H29 = H29 ∧ v119 = Value.bool t118)) (fun t118 => (Value.bool true) = Value.bool t118) fun t118 => ∀ gs120 : Fr,
Br (Value.bool t118) (
Bin .num .quo v9 (Value.int .i64 2) fun v121 =>
JE J45 [v121] H29) (
JE J45 [a1] H29))) NoKP) NoKP) (PanR R)) (PanR R)) (PanR R)) (PanR R))) (PanR R))) (PanR R)
theorem L8_eq (g : Gh) (a0 a1 a2 : Value) (H : Hp) (R : Ending → Hp → Prop) : denF Try.prog g Try.f8 (.h 0 [] [] .e (.h 0 [] [] .e (.h 0 [] [] .e (.h 0 [] [] .e (.h 0 [] [] .e (.h 0 [] [] .e (.h 0 [] [] (.h 0 [0, 2, 3, 4, 1, 5, 6, 7, 8, 9, 10] [] .e .e) (.h 0 [] [] (.h 0 [] [] (.h 0 [] [1] .e .e) .e) (.h 1 [1] [0, 2, 7, 8] (.h 0 [] [] (.h 0 [] [1] .e .e) .e) (.h 0 [] [] .e (.h 0 [] [] (.h 0 [] [] .e (.h 0 [] [] (.h 0 [15, 16] [0, 1, 2, 7, 8] (.h 0 [] [] .e (.h 1 [15] [0, 1, 2, 7, 8, 16] (.h 0 [] [] (.h 0 [] [] .e (.h 0 [] [] .e (.h 0 [] [] (.h 0 [] [] (.h 0 [] [1] .e .e) .e) (.h 0 [] [] (.h 0 [] [1] .e .e) .e)))) .e) .e)) .e) .e)) (.h 0 [] [] .e (.h 0 [] [] .e (.h 0 [] [] .e (.h 0 [] [] .e (.h 0 [] [] (.h 0 [] [] .e (.h 0 [] [] (.h 0 [20, 134] [0, 19, 132, 133] .e .e) .e)) (.h 0 [] [] .e (.h 0 [] [] (.h 0 [] [1] .e .e) .e)))))))))))))))))) [a0, a1, a2] H R = L8 g a0 a1 a2 H R := by kernel_rfl
theorem L8_sound {g : Gh} {a0 a1 a2 : Value} {H : Hp} {R : Ending → Hp → Prop} (h : L8 g a0 a1 a2 H R) : SCalls Try.prog g 8 #[a0, a1, a2] H R :=
  denF_sound (fn := Try.f8) (hn := (.h 0 [] [] .e (.h 0 [] [] .e (.h 0 [] [] .e (.h 0 [] [] .e (.h 0 [] [] .e (.h 0 [] [] .e (.h 0 [] [] (.h 0 [0, 2, 3, 4, 1, 5, 6, 7, 8, 9, 10] [] .e .e) (.h 0 [] [] (.h 0 [] [] (.h 0 [] [1] .e .e) .e) (.h 1 [1] [0, 2, 7, 8] (.h 0 [] [] (.h 0 [] [1] .e .e) .e) (.h 0 [] [] .e (.h 0 [] [] (.h 0 [] [] .e (.h 0 [] [] (.h 0 [15, 16] [0, 1, 2, 7, 8] (.h 0 [] [] .e (.h 1 [15] [0, 1, 2, 7, 8, 16] (.h 0 [] [] (.h 0 [] [] .e (.h 0 [] [] .e (.h 0 [] [] (.h 0 [] [] (.h 0 [] [1] .e .e) .e) (.h 0 [] [] (.h 0 [] [1] .e .e) .e)))) .e) .e)) .e) .e)) (.h 0 [] [] .e (.h 0 [] [] .e (.h 0 [] [] .e (.h 0 [] [] .e (.h 0 [] [] (.h 0 [] [] .e (.h 0 [] [] (.h 0 [20, 134] [0, 19, 132, 133] .e .e) .e)) (.h 0 [] [] .e (.h 0 [] [] (.h 0 [] [1] .e .e) .e))))))))))))))))))) Try.func8 (by rw [L8_eq]; exact h)
/-- thicket.thicketlaw19.awake -/
def L9 (g : Gh) (H : Hp) (R : Ending → Hp → Prop) : Prop :=
CallF Try.prog g 17 #[] H (fun v1 H2 =>
BuildSl Try.prog 22 1 [(0, v1)] H2 fun v3 H4 =>
CallF Try.prog g 11 #[v3] H4 (fun v5 H6 =>
Ext 0 v5 fun v7 =>
Ext 1 v5 fun v8 =>
Ext 2 v5 fun v9 =>
CallF Try.prog g 17 #[] H6 (fun v10 H11 =>
BuildSl Try.prog 22 1 [(0, v10)] H11 fun v12 H13 =>
CallF Try.prog g 15 #[v12, (Value.int .u64 4)] H13 (fun v14 H15 =>
Ext 0 v14 fun v16 =>
Ext 1 v14 fun v17 =>
∀ J18 : List Value → Hp → Prop, (∀ w21 : Value, ∀ H20 : Hp, (∀ gs19 : Fr,
R (.returned w21) H20) → J18 [w21] H20) →
Bin .num .eql v7 (Value.int .i64 3) fun v22 =>
Split v22 true (
BuildSl Try.prog 25 3 [(0, (Value.int .i64 0)), (1, (Value.int .i64 1)), (2, (Value.int .i64 2))] H15 fun v23 H24 =>
CallF Try.prog g 14 #[v8, v23] H24 (fun v25 H26 =>
Pick (Value.bool true) v25 (Value.bool false) fun v27 =>
Split v27 true (
Bin .num .eql v9 (Value.int .i64 0) fun v28 =>
Pick (Value.bool true) v28 (Value.bool false) fun v29 =>
Split v29 true (
Bin .num .eql v16 (Value.int .i64 4) fun v30 =>
Pick (Value.bool true) v30 (Value.bool false) fun v31 =>
Split v31 true (
Bin .num .eql v17 (Value.int .i64 0) fun v32 =>
Pick (Value.bool true) v32 (Value.bool false) fun v33 =>
JE J18 [v33] H26) (
Pick (Value.bool false) undef (Value.bool false) fun v34 =>
JE J18 [v34] H26)) (
Pick (Value.bool false) undef (Value.bool false) fun v35 =>
Pick v35 undef (Value.bool false) fun v36 =>
JE J18 [v36] H26)) (
Pick (Value.bool false) undef (Value.bool false) fun v37 =>
Pick v37 undef (Value.bool false) fun v38 =>
Pick v38 undef (Value.bool false) fun v39 =>
JE J18 [v39] H26)) (PanR R)) (
Pick (Value.bool false) undef (Value.bool false) fun v40 =>
Pick v40 undef (Value.bool false) fun v41 =>
Pick v41 undef (Value.bool false) fun v42 =>
Pick v42 undef (Value.bool false) fun v43 =>
JE J18 [v43] H15)) (PanR R)) (PanR R)) (PanR R)) (PanR R)
theorem L9_eq (g : Gh) (H : Hp) (R : Ending → Hp → Prop) : denF Try.prog g Try.f9 (.h 0 [] [] .e (.h 0 [] [] .e (.h 0 [] [] .e (.h 1 [0] [] .e .e)))) [] H R = L9 g H R := by kernel_rfl
theorem L9_sound {g : Gh} {H : Hp} {R : Ending → Hp → Prop} (h : L9 g H R) : SCalls Try.prog g 9 #[] H R :=
  denF_sound (fn := Try.f9) (hn := (.h 0 [] [] .e (.h 0 [] [] .e (.h 0 [] [] .e (.h 1 [0] [] .e .e))))) Try.func9 (by rw [L9_eq]; exact h)
/-- thicket.thicketlaw19.few -/
def L10 (g : Gh) (a0 : Value) (H : Hp) (R : Ending → Hp → Prop) : Prop :=
LenS a0 fun v1 =>
∃ (I2 : List Value → Hp → Prop) (m3 : List Value → Hp → Nat), JE I2 [(Value.int .i64 0)] H ∧ ∀ w6 : Value, ∀ H5 : Hp, I2 [w6] H5 → ∀ gs4 : Fr,
Bin .num .lss w6 v1 fun v7 =>
Br v7 (
IAddr 2 a0 w6 fun v8 =>
LdA 2 H5 v8 fun v9 =>
New H5 (.cells #[(Value.int .i64 0), (.slice none 0 0)] 42 (0, 0)) fun b10 H11 =>
St 2 H11 (.pointer (some ⟨b10, 0, none⟩)) v9 fun H12 =>
LdA 2 H12 (.pointer (some ⟨b10, 0, none⟩)) fun v13 =>
CallF Try.prog g 25 #[v13] H12 (fun v14 H15 =>
Grp v14 true (fun t16 =>
FAddr 0 (.pointer (some ⟨b10, 0, none⟩)) fun v17 =>
Ld H15 v17 fun v18 =>
Bin .num .gtr v18 (Value.int .i64 7) fun v19 =>
(H15 = H15 ∧ v19 = Value.bool t16)) (fun t16 => (Value.bool false) = Value.bool t16) fun t16 => ∀ gs20 : Fr,
Grp (Value.bool t16) true (fun t21 =>
FAddr 0 (.pointer (some ⟨b10, 0, none⟩)) fun v22 =>
Ld H15 v22 fun v23 =>
Bin .num .leq v23 (Value.int .i64 12) fun v24 =>
(H15 = H15 ∧ v24 = Value.bool t21)) (fun t21 => (Value.bool false) = Value.bool t21) fun t21 => ∀ gs25 : Fr,
Br (Value.bool t21) (
R (.returned (Value.bool false)) H15) (
Bin .num .add w6 (Value.int .i64 1) fun v26 =>
Back I2 m3 [v26] H15 [w6] H5)) (PanR R)) (
LenS a0 fun v27 =>
Bin .num .leq v27 (Value.int .i64 12) fun v28 =>
R (.returned v28) H5)
theorem L10_eq (g : Gh) (a0 : Value) (H : Hp) (R : Ending → Hp → Prop) : denF Try.prog g Try.f10 (.h 0 [] [] .e (.h 0 [] [] (.h 0 [] [] .e (.h 0 [] [] (.h 0 [7] [0, 5, 6] (.h 0 [] [] .e (.h 0 [] [] .e (.h 0 [] [] (.h 0 [] [] (.h 0 [] [] .e (.h 0 [] [] (.h 0 [] [1] .e .e) .e)) .e) .e))) .e) .e)) .e)) [a0] H R = L10 g a0 H R := by kernel_rfl
theorem L10_sound {g : Gh} {a0 : Value} {H : Hp} {R : Ending → Hp → Prop} (h : L10 g a0 H R) : SCalls Try.prog g 10 #[a0] H R :=
  denF_sound (fn := Try.f10) (hn := (.h 0 [] [] .e (.h 0 [] [] (.h 0 [] [] .e (.h 0 [] [] (.h 0 [7] [0, 5, 6] (.h 0 [] [] .e (.h 0 [] [] .e (.h 0 [] [] (.h 0 [] [] (.h 0 [] [] .e (.h 0 [] [] (.h 0 [] [1] .e .e) .e)) .e) .e))) .e) .e)) .e))) Try.func10 (by rw [L10_eq]; exact h)
/-- thicket.exact.Best -/
def L11 (g : Gh) (a0 : Value) (H : Hp) (R : Ending → Hp → Prop) : Prop :=
CallF Try.prog g 26 #[a0] H (fun v1 H2 =>
Ext 0 v1 fun v3 =>
Ext 1 v1 fun v4 =>
Bin .num .neq v4 (Value.int .i64 0) fun v5 =>
Br v5 (
R (.returned (.tuple #[(Value.int .i64 0), (.slice none 0 0), v4])) H2) (
Nil v3 fun v6 =>
FAddr 1 v6 fun v7 =>
Ld H2 v7 fun v8 =>
Bin .num .gtr v8 (Value.int .i64 12) fun v9 =>
Br v9 (
R (.returned (.tuple #[(Value.int .i64 0), (.slice none 0 0), (Value.int .i64 6)])) H2) (
∃ (I10 : List Value → Hp → Prop) (m11 : List Value → Hp → Nat), JE I10 [(.slice none 0 0), (Value.int .i64 0)] H2 ∧ ∀ w14 w15 : Value, ∀ H13 : Hp, I10 [w14, w15] H13 → ∀ gs12 : Fr,
LenS w14 fun v16 =>
Nil v3 fun v17 =>
FAddr 1 v17 fun v18 =>
Ld H13 v18 fun v19 =>
Bin .num .lss v16 v19 fun v20 =>
Br v20 (
Nil v3 fun v21 =>
FAddr 1 v21 fun v22 =>
Ld H13 v22 fun v23 =>
∃ (I24 : List Value → Hp → Prop) (m25 : List Value → Hp → Nat), JE I24 [w14, w15, (Value.int .i64 0)] H13 ∧ ∀ w28 w29 w30 : Value, ∀ H27 : Hp, I24 [w28, w29, w30] H27 → ∀ gs26 : Fr,
Bin .num .lss w30 v23 fun v31 =>
Br v31 (
∀ J32 : List Value → Hp → Prop, (∀ w35 : Value, ∀ H34 : Hp, (∀ gs33 : Fr,
Br w35 (
BuildSl Try.prog 25 1 [(0, w30)] H34 fun v36 H37 =>
App Try.prog 3 1 8 (Value.int .i64 0) H37 w28 v36 fun v40 H41 =>
Bin .num .shl (Value.int .i64 1) w30 fun v42 =>
Bin .num .or w29 v42 fun v43 =>
Back I10 m11 [v40, v43] H41 [w14, w15] H13) (
Bin .num .add w30 (Value.int .i64 1) fun v44 =>
Back I24 m25 [w28, w29, v44] H34 [w28, w29, w30] H27)) → J32 [w35] H34) →
DR H27 fun R45 =>
Bin .num .shr w29 w30 fun v46 =>
Bin .num .and v46 (Value.int .i64 1) fun v47 =>
Bin .num .eql v47 (Value.int .i64 0) fun v48 =>
Br v48 (
Bin .num .shl (Value.int .i64 1) w30 fun v49 =>
Bin .num .or w29 v49 fun v50 =>
∀ F51 : Hp,
CallF Try.prog (g.add F51) 27 #[v3, w29, w30] H27 (fun v52 H53 =>
∀ F54 : Hp,
CallF Try.prog (g.add F54) 28 #[v3, v50] H53 (fun v55 H56 =>
Bin .num .add v52 v55 fun v57 =>
∀ F58 : Hp,
CallF Try.prog (g.add F58) 28 #[v3, w29] H56 (fun v59 H60 =>
Bin .num .eql v57 v59 fun v61 =>
Pick (Value.bool true) v61 (Value.bool false) fun v62 =>
JE J32 [v62] H60) NoKP) NoKP) NoKP) (
JE J32 [(Value.bool false)] H27)) (
Back I10 m11 [w28, w29] H27 [w14, w15] H13)) (
CallF Try.prog g 28 #[v3, (Value.int .i64 0)] H13 (fun v63 H64 =>
R (.returned (.tuple #[v63, w14, (Value.int .i64 0)])) H64) (PanR R))))) (PanR R)
theorem L11_eq (g : Gh) (a0 : Value) (H : Hp) (R : Ending → Hp → Prop) : denF Try.prog g Try.f11 (.h 0 [] [] .e (.h 0 [] [] .e (.h 0 [] [] .e (.h 0 [] [] .e (.h 0 [] [] .e (.h 0 [] [] .e (.h 0 [] [] (.h 0 [] [] (.h 0 [7, 8] [5] (.h 0 [] [] .e (.h 0 [] [] (.h 0 [] [] .e (.h 0 [] [] (.h 0 [7, 8, 34] [5, 33] (.h 0 [] [] .e (.h 0 [] [] .e (.h 0 [] [] (.h 0 [] [] (.h 0 [] [] .e (.h 1 [58] [5, 7, 8, 9, 33, 34] (.h 1 [] [] (.h 0 [0] [] (.h 0 [1] [] (.h 0 [2] [] (.h 0 [3] [] (.h 0 [4] [] (.h 2 [5] [] (.h 0 [6] [] (.h 0 [7] [] (.h 0 [8] [] (.h 0 [10] [] (.h 0 [11] [] (.h 0 [12] [] (.h 0 [13] [] (.h 0 [14] [] (.h 0 [17] [] (.h 0 [18] [] (.h 0 [9] [] (.h 0 [15] [] (.h 0 [16] [] (.h 0 [19] [] (.h 0 [20] [] (.h 0 [21] [] .e .e) .e) .e) .e) .e) .e) .e) .e) .e) .e) .e) .e) .e) .e) .e) .e) (.h 0 [6] [] (.h 0 [7] [] (.h 0 [8] [] (.h 0 [9] [] (.h 0 [10] [] (.h 0 [11] [] (.h 0 [12] [] (.h 0 [13] [] (.h 0 [14] [] (.h 0 [15] [] (.h 0 [16] [] (.h 0 [17] [] (.h 0 [18] [] (.h 0 [19] [] (.h 0 [20] [] (.h 3 [21] [] .e .e) .e) .e) .e) .e) .e) .e) .e) .e) .e) .e) .e) .e) .e) .e) .e)) .e) .e) .e) .e) .e) .e) .e)) .e) .e))) .e) .e)) .e)) .e) .e) .e))))))) [a0] H R = L11 g a0 H R := by kernel_rfl
theorem L11_sound {g : Gh} {a0 : Value} {H : Hp} {R : Ending → Hp → Prop} (h : L11 g a0 H R) : SCalls Try.prog g 11 #[a0] H R :=
  denF_sound (fn := Try.f11) (hn := (.h 0 [] [] .e (.h 0 [] [] .e (.h 0 [] [] .e (.h 0 [] [] .e (.h 0 [] [] .e (.h 0 [] [] .e (.h 0 [] [] (.h 0 [] [] (.h 0 [7, 8] [5] (.h 0 [] [] .e (.h 0 [] [] (.h 0 [] [] .e (.h 0 [] [] (.h 0 [7, 8, 34] [5, 33] (.h 0 [] [] .e (.h 0 [] [] .e (.h 0 [] [] (.h 0 [] [] (.h 0 [] [] .e (.h 1 [58] [5, 7, 8, 9, 33, 34] (.h 1 [] [] (.h 0 [0] [] (.h 0 [1] [] (.h 0 [2] [] (.h 0 [3] [] (.h 0 [4] [] (.h 2 [5] [] (.h 0 [6] [] (.h 0 [7] [] (.h 0 [8] [] (.h 0 [10] [] (.h 0 [11] [] (.h 0 [12] [] (.h 0 [13] [] (.h 0 [14] [] (.h 0 [17] [] (.h 0 [18] [] (.h 0 [9] [] (.h 0 [15] [] (.h 0 [16] [] (.h 0 [19] [] (.h 0 [20] [] (.h 0 [21] [] .e .e) .e) .e) .e) .e) .e) .e) .e) .e) .e) .e) .e) .e) .e) .e) .e) (.h 0 [6] [] (.h 0 [7] [] (.h 0 [8] [] (.h 0 [9] [] (.h 0 [10] [] (.h 0 [11] [] (.h 0 [12] [] (.h 0 [13] [] (.h 0 [14] [] (.h 0 [15] [] (.h 0 [16] [] (.h 0 [17] [] (.h 0 [18] [] (.h 0 [19] [] (.h 0 [20] [] (.h 3 [21] [] .e .e) .e) .e) .e) .e) .e) .e) .e) .e) .e) .e) .e) .e) .e) .e) .e)) .e) .e) .e) .e) .e) .e) .e)) .e) .e))) .e) .e)) .e)) .e) .e) .e)))))))) Try.func11 (by rw [L11_eq]; exact h)
/-- thicket.thicketlaw19.twins -/
def L12 (g : Gh) (a0 : Value) (H : Hp) (R : Ending → Hp → Prop) : Prop :=
LenS a0 fun v1 =>
∃ (I2 : List Value → Hp → Prop) (m3 : List Value → Hp → Nat), JE I2 [(.slice none 0 0), (Value.int .i64 0)] H ∧ ∀ w6 w7 : Value, ∀ H5 : Hp, I2 [w6, w7] H5 → ∀ gs4 : Fr,
Bin .num .lss w7 v1 fun v8 =>
Br v8 (
IAddr 2 a0 w7 fun v9 =>
LdA 2 H5 v9 fun v10 =>
New H5 (.cells #[(Value.int .i64 0), (.slice none 0 0)] 42 (0, 0)) fun b11 H12 =>
St 2 H12 (.pointer (some ⟨b11, 0, none⟩)) v10 fun H13 =>
DR H13 fun R14 =>
FAddr 0 (.pointer (some ⟨b11, 0, none⟩)) fun v15 =>
Ld R14 v15 fun v16 =>
FAddr 1 (.pointer (some ⟨b11, 0, none⟩)) fun v17 =>
Ld R14 v17 fun v18 =>
BuildSl Try.prog 40 0 [] H13 fun v19 H20 =>
Ent H20 R14 ∧
App Try.prog 33 1 8 (Value.int .u64 0) H20 v19 v18 fun v23 H24 =>
Ent H24 R14 ∧
Build Try.prog 42 [(0, v16), (1, v23)] fun v25 =>
BuildSl Try.prog 22 1 [(0, v25)] H24 fun v26 H27 =>
Ent H27 R14 ∧
App Try.prog 42 2 32 (.agg #[(Value.int .i64 0), (.slice none 0 0)]) H27 w6 v26 fun v30 H31 =>
Ent H31 R14 ∧
Bin .num .add w7 (Value.int .i64 1) fun v32 =>
Back I2 m3 [v30, v32] H31 [w6, w7] H5) (
R (.returned w6) H5)
theorem L12_eq (g : Gh) (a0 : Value) (H : Hp) (R : Ending → Hp → Prop) : denF Try.prog g Try.f12 (.h 0 [] [] .e (.h 0 [] [] .e (.h 0 [] [] (.h 0 [] [] .e (.h 0 [] [] (.h 0 [3, 8] [6, 7] (.h 0 [] [] .e (.h 0 [] [] .e (.h 0 [] [] (.h 0 [] [] (.h 0 [] [] .e (.h 0 [0, 1, 2, 4, 5, 3, 6, 7, 8, 9, 10] [] .e .e)) .e) .e))) .e) .e)) .e))) [a0] H R = L12 g a0 H R := by kernel_rfl
theorem L12_sound {g : Gh} {a0 : Value} {H : Hp} {R : Ending → Hp → Prop} (h : L12 g a0 H R) : SCalls Try.prog g 12 #[a0] H R :=
  denF_sound (fn := Try.f12) (hn := (.h 0 [] [] .e (.h 0 [] [] .e (.h 0 [] [] (.h 0 [] [] .e (.h 0 [] [] (.h 0 [3, 8] [6, 7] (.h 0 [] [] .e (.h 0 [] [] .e (.h 0 [] [] (.h 0 [] [] (.h 0 [] [] .e (.h 0 [0, 1, 2, 4, 5, 3, 6, 7, 8, 9, 10] [] .e .e)) .e) .e))) .e) .e)) .e)))) Try.func12 (by rw [L12_eq]; exact h)
/-- thicket.thicketref19.DocBest -/
def L13 (g : Gh) (a0 : Value) (H : Hp) (R : Ending → Hp → Prop) : Prop :=
CallF Try.prog g 29 #[a0] H (fun v1 H2 =>
Ext 0 v1 fun v3 =>
Ext 1 v1 fun v4 =>
Bin .num .neq v4 (Value.int .i64 0) fun v5 =>
Br v5 (
R (.returned (.tuple #[(Value.int .i64 0), (.slice none 0 0), v4])) H2) (
Bin .num .gtr v3 (Value.int .i64 12) fun v6 =>
Br v6 (
R (.returned (.tuple #[(Value.int .i64 0), (.slice none 0 0), (Value.int .i64 6)])) H2) (
CallF Try.prog g 30 #[a0, v3] H2 (fun v7 H8 =>
Ext 0 v7 fun v9 =>
Ext 1 v7 fun v10 =>
∃ (I11 : List Value → Hp → Prop) (m12 : List Value → Hp → Nat), JE I11 [(.slice none 0 0), (Value.int .i64 0)] H8 ∧ ∀ w15 w16 : Value, ∀ H14 : Hp, I11 [w15, w16] H14 → ∀ gs13 : Fr,
Bin .num .shl (Value.int .i64 1) v3 fun v17 =>
Bin .num .sub v17 (Value.int .i64 1) fun v18 =>
Bin .num .lss w16 v18 fun v19 =>
Br v19 (
∃ (I20 : List Value → Hp → Prop) (m21 : List Value → Hp → Nat), JE I20 [w15, w16, (Value.int .i64 0)] H14 ∧ ∀ w24 w25 w26 : Value, ∀ H23 : Hp, I20 [w24, w25, w26] H23 → ∀ gs22 : Fr,
Bin .num .lss w26 v3 fun v27 =>
Br v27 (
Bin .num .shr w25 w26 fun v28 =>
Bin .num .rem v28 (Value.int .i64 2) fun v29 =>
Bin .num .eql v29 (Value.int .i64 0) fun v30 =>
Grp v30 true (fun t31 =>
IAddr 1 v10 w25 fun v32 =>
Ld H23 v32 fun v33 =>
IAddr 1 v33 w26 fun v34 =>
Ld H23 v34 fun v35 =>
Bin .num .shl (Value.int .i64 1) w26 fun v36 =>
Bin .num .add w25 v36 fun v37 =>
IAddr 1 v9 v37 fun v38 =>
Ld H23 v38 fun v39 =>
Bin .num .add v35 v39 fun v40 =>
IAddr 1 v9 w25 fun v41 =>
Ld H23 v41 fun v42 =>
Bin .num .eql v40 v42 fun v43 =>
(H23 = H23 ∧ v43 = Value.bool t31)) (fun t31 => (Value.bool false) = Value.bool t31) fun t31 => ∀ gs44 : Fr,
Br (Value.bool t31) (
BuildSl Try.prog 25 1 [(0, w26)] H23 fun v45 H46 =>
App Try.prog 3 1 8 (Value.int .i64 0) H46 w24 v45 fun v49 H50 =>
Bin .num .shl (Value.int .i64 1) w26 fun v51 =>
Bin .num .add w25 v51 fun v52 =>
Back I11 m12 [v49, v52] H50 [w15, w16] H14) (
Bin .num .add w26 (Value.int .i64 1) fun v53 =>
Back I20 m21 [w24, w25, v53] H23 [w24, w25, w26] H23)) (
Back I11 m12 [w24, w25] H23 [w15, w16] H14)) (
IAddr 1 v9 (Value.int .i64 0) fun v54 =>
Ld H14 v54 fun v55 =>
R (.returned (.tuple #[v55, w15, (Value.int .i64 0)])) H14)) (PanR R)))) (PanR R)
theorem L13_eq (g : Gh) (a0 : Value) (H : Hp) (R : Ending → Hp → Prop) : denF Try.prog g Try.f13 (.h 0 [] [] .e (.h 0 [] [] .e (.h 0 [] [] .e (.h 0 [] [] .e (.h 0 [] [] .e (.h 0 [] [] .e (.h 0 [] [] (.h 0 [] [] .e (.h 0 [] [] (.h 0 [9, 10] [5, 7, 8] (.h 0 [] [] .e (.h 0 [] [] (.h 0 [] [] .e (.h 0 [] [] (.h 0 [9, 10, 11] [5, 7, 8] .e .e) .e)) .e)) .e) .e)) .e))))))) [a0] H R = L13 g a0 H R := by kernel_rfl
theorem L13_sound {g : Gh} {a0 : Value} {H : Hp} {R : Ending → Hp → Prop} (h : L13 g a0 H R) : SCalls Try.prog g 13 #[a0] H R :=
  denF_sound (fn := Try.f13) (hn := (.h 0 [] [] .e (.h 0 [] [] .e (.h 0 [] [] .e (.h 0 [] [] .e (.h 0 [] [] .e (.h 0 [] [] .e (.h 0 [] [] (.h 0 [] [] .e (.h 0 [] [] (.h 0 [9, 10] [5, 7, 8] (.h 0 [] [] .e (.h 0 [] [] (.h 0 [] [] .e (.h 0 [] [] (.h 0 [9, 10, 11] [5, 7, 8] .e .e) .e)) .e)) .e) .e)) .e)))))))) Try.func13 (by rw [L13_eq]; exact h)
/-- thicket.thicketlaw19.order -/
def L14 (g : Gh) (a0 a1 : Value) (H : Hp) (R : Ending → Hp → Prop) : Prop :=
LenS a0 fun v1 =>
LenS a1 fun v2 =>
Bin .num .neq v1 v2 fun v3 =>
Br v3 (
R (.returned (Value.bool false)) H) (
LenS a0 fun v4 =>
∃ (I5 : List Value → Hp → Prop) (m6 : List Value → Hp → Nat), JE I5 [(Value.int .i64 0)] H ∧ ∀ w9 : Value, ∀ H8 : Hp, I5 [w9] H8 → ∀ gs7 : Fr,
Bin .num .lss w9 v4 fun v10 =>
Br v10 (
IAddr 1 a0 w9 fun v11 =>
Ld H8 v11 fun v12 =>
IAddr 1 a1 w9 fun v13 =>
Ld H8 v13 fun v14 =>
Bin .num .neq v12 v14 fun v15 =>
Br v15 (
R (.returned (Value.bool false)) H8) (
Bin .num .add w9 (Value.int .i64 1) fun v16 =>
Back I5 m6 [v16] H8 [w9] H8)) (
R (.returned (Value.bool true)) H8))
theorem L14_eq (g : Gh) (a0 a1 : Value) (H : Hp) (R : Ending → Hp → Prop) : denF Try.prog g Try.f14 (.h 0 [] [] .e (.h 0 [] [] .e (.h 0 [] [] (.h 0 [] [] .e (.h 0 [] [] (.h 0 [13] [0, 1, 12] .e .e) .e)) .e))) [a0, a1] H R = L14 g a0 a1 H R := by kernel_rfl
theorem L14_sound {g : Gh} {a0 a1 : Value} {H : Hp} {R : Ending → Hp → Prop} (h : L14 g a0 a1 H R) : SCalls Try.prog g 14 #[a0, a1] H R :=
  denF_sound (fn := Try.f14) (hn := (.h 0 [] [] .e (.h 0 [] [] .e (.h 0 [] [] (.h 0 [] [] .e (.h 0 [] [] (.h 0 [13] [0, 1, 12] .e .e) .e)) .e)))) Try.func14 (by rw [L14_eq]; exact h)
/-- thicket.exact.Within -/
def L15 (g : Gh) (a0 a1 : Value) (H : Hp) (R : Ending → Hp → Prop) : Prop :=
CallF Try.prog g 26 #[a0] H (fun v1 H2 =>
Ext 0 v1 fun v3 =>
Ext 1 v1 fun v4 =>
Bin .num .neq v4 (Value.int .i64 0) fun v5 =>
Br v5 (
R (.returned (.tuple #[(Value.int .i64 0), v4])) H2) (
DR H2 fun R6 =>
Nil v3 fun v7 =>
FAddr 1 v7 fun v8 =>
Ld R6 v8 fun v9 =>
CallF Try.prog g 31 #[a1] H2 (fun v10 H11 =>
Ent H11 R6 ∧
Bin .num .gtr v10 v9 fun v12 =>
Br v12 (
R (.returned (.tuple #[(Value.int .i64 0), (Value.int .i64 2)])) H11) (
Nil v3 fun v13 =>
FAddr 1 v13 fun v14 =>
Ld H11 v14 fun v15 =>
Bin .num .gtr v15 (Value.int .i64 12) fun v16 =>
Br v16 (
R (.returned (.tuple #[(Value.int .i64 0), (Value.int .i64 6)])) H11) (
Nil v3 fun v17 =>
FAddr 2 v17 fun v18 =>
Ld H11 v18 fun v19 =>
ConvI .u64 v19 fun v20 =>
Bin .num .and a1 v20 fun v21 =>
CallF Try.prog g 32 #[] H11 (fun v22 H23 =>
CallF Try.prog g 33 #[v22, (Value.int .i64 0), (Value.int .i64 0)] H23 (fun v24 H25 =>
MkMap H25 fun v26 H27 =>
∃ (I28 : List Value → Hp → Prop) (m29 : List Value → Hp → Nat), JE I28 [] H27 ∧ ∀ H31 : Hp, I28 [] H31 → ∀ gs30 : Fr,
CallF Try.prog g 34 #[v22] H31 (fun v32 H33 =>
Ext 0 v32 fun v34 =>
Ext 1 v32 fun v35 =>
Ext 2 v32 fun v36 =>
ConvI .i64 v21 fun v37 =>
Bin .num .eql v34 v37 fun v38 =>
Br v38 (
CallF Try.prog g 28 #[v3, v34] H33 (fun v39 H40 =>
Bin .num .add v35 v39 fun v41 =>
R (.returned (.tuple #[v41, (Value.int .i64 0)])) H40) (PanR R)) (
MapUpd (.int .i64) H33 v26 v34 (Value.int .i64 1) fun H42 =>
Nil v3 fun v43 =>
FAddr 1 v43 fun v44 =>
Ld H42 v44 fun v45 =>
∃ (I46 : List Value → Hp → Prop) (m47 : List Value → Hp → Nat), JE I46 [(Value.int .i64 0)] H42 ∧ ∀ w50 : Value, ∀ H49 : Hp, I46 [w50] H49 → ∀ gs48 : Fr,
Bin .num .lss w50 v45 fun v51 =>
Br v51 (
∀ J52 : List Value → Hp → Prop, (∀ H54 : Hp, (∀ gs53 : Fr,
Bin .num .add w50 (Value.int .i64 1) fun v55 =>
Back I46 m47 [v55] H54 [w50] H49) → J52 [] H54) →
Bin .num .shl (Value.int .i64 1) w50 fun v56 =>
Bin .num .or v34 v56 fun v57 =>
Bin .num .eql v57 v34 fun v58 =>
Grp v58 false (fun t59 =>
Bin .num .shr v21 w50 fun v60 =>
Bin .num .and v60 (Value.int .u64 1) fun v61 =>
Bin .num .eql v61 (Value.int .u64 0) fun v62 =>
(H49 = H49 ∧ v62 = Value.bool t59)) (fun t59 => (Value.bool true) = Value.bool t59) fun t59 => ∀ gs63 : Fr,
Grp (Value.bool t59) false (fun t64 =>
Look (.int .i64) (Value.int .i64 0) false H49 v26 v57 fun v65 =>
Bin .num .gtr v65 (Value.int .i64 0) fun v66 =>
(H49 = H49 ∧ v66 = Value.bool t64)) (fun t64 => (Value.bool true) = Value.bool t64) fun t64 => ∀ gs67 : Fr,
Br (Value.bool t64) (
JE J52 [] H49) (
CallF Try.prog g 27 #[v3, v34, w50] H49 (fun v68 H69 =>
Bin .num .add v35 v68 fun v70 =>
CallF Try.prog g 35 #[v22, v57] H69 (fun v71 H72 =>
Ext 0 v71 fun v73 =>
Ext 1 v71 fun v74 =>
Bin .num .neq v74 (Value.int .i64 0) fun v75 =>
Br v75 (
CallF Try.prog g 33 #[v22, v57, v70] H72 (fun v76 H77 =>
JE J52 [] H77) (PanR R)) (
Bin .num .lss v70 v73 fun v78 =>
Br v78 (
CallF Try.prog g 36 #[v22, v57, v70] H72 (fun v79 H80 =>
JE J52 [] H80) (PanR R)) (
JE J52 [] H72))) (PanR R)) (PanR R))) (
Back I28 m29 [] H49 [] H31))) (PanR R)) (PanR R)) (PanR R)))) NoKP)) (PanR R)
theorem L15_eq (g : Gh) (a0 a1 : Value) (H : Hp) (R : Ending → Hp → Prop) : denF Try.prog g Try.f15 (.h 0 [] [] .e (.h 0 [] [] .e (.h 0 [] [] (.h 0 [] [] (.h 0 [] [] .e (.h 0 [] [] .e (.h 0 [] [] (.h 0 [0, 2, 3, 4, 5, 1, 6, 7] [] .e .e) .e))) .e) (.h 0 [] [] .e (.h 0 [] [] .e (.h 0 [] [] .e (.h 0 [] [] .e (.h 0 [] [] (.h 0 [] [1, 6, 8, 9] (.h 0 [] [] (.h 0 [] [] .e (.h 0 [] [] .e (.h 0 [] [] .e (.h 0 [] [] .e (.h 0 [] [] (.h 0 [73] [1, 6, 8, 9, 10, 11, 72] (.h 0 [] [] .e (.h 0 [] [] .e (.h 1 [] [1, 6, 8, 9, 10, 11, 72, 73] (.h 0 [] [] (.h 0 [] [] .e (.h 0 [] [] .e (.h 0 [] [] (.h 0 [] [] (.h 0 [] [1] .e .e) .e) .e))) .e) .e))) .e) .e))))) .e) .e) .e)))))))) [a0, a1] H R = L15 g a0 a1 H R := by kernel_rfl
theorem L15_sound {g : Gh} {a0 a1 : Value} {H : Hp} {R : Ending → Hp → Prop} (h : L15 g a0 a1 H R) : SCalls Try.prog g 15 #[a0, a1] H R :=
  denF_sound (fn := Try.f15) (hn := (.h 0 [] [] .e (.h 0 [] [] .e (.h 0 [] [] (.h 0 [] [] (.h 0 [] [] .e (.h 0 [] [] .e (.h 0 [] [] (.h 0 [0, 2, 3, 4, 5, 1, 6, 7] [] .e .e) .e))) .e) (.h 0 [] [] .e (.h 0 [] [] .e (.h 0 [] [] .e (.h 0 [] [] .e (.h 0 [] [] (.h 0 [] [1, 6, 8, 9] (.h 0 [] [] (.h 0 [] [] .e (.h 0 [] [] .e (.h 0 [] [] .e (.h 0 [] [] .e (.h 0 [] [] (.h 0 [73] [1, 6, 8, 9, 10, 11, 72] (.h 0 [] [] .e (.h 0 [] [] .e (.h 1 [] [1, 6, 8, 9, 10, 11, 72, 73] (.h 0 [] [] (.h 0 [] [] .e (.h 0 [] [] .e (.h 0 [] [] (.h 0 [] [] (.h 0 [] [1] .e .e) .e) .e))) .e) .e))) .e) .e))))) .e) .e) .e))))))))) Try.func15 (by rw [L15_eq]; exact h)
/-- thicket.thicketref19.DocWithin -/
def L16 (g : Gh) (a0 a1 : Value) (H : Hp) (R : Ending → Hp → Prop) : Prop :=
CallF Try.prog g 29 #[a0] H (fun v1 H2 =>
Ext 0 v1 fun v3 =>
Ext 1 v1 fun v4 =>
Bin .num .neq v4 (Value.int .i64 0) fun v5 =>
Br v5 (
R (.returned (.tuple #[(Value.int .i64 0), v4])) H2) (
Bin .num .shr a1 v3 fun v6 =>
Bin .num .gtr v6 (Value.int .u64 0) fun v7 =>
Br v7 (
R (.returned (.tuple #[(Value.int .i64 0), (Value.int .i64 2)])) H2) (
Bin .num .gtr v3 (Value.int .i64 12) fun v8 =>
Br v8 (
R (.returned (.tuple #[(Value.int .i64 0), (Value.int .i64 6)])) H2) (
CallF Try.prog g 30 #[a0, v3] H2 (fun v9 H10 =>
Ext 0 v9 fun v11 =>
Ext 1 v9 fun v12 =>
DR H10 fun R13 =>
ConvI .i64 a1 fun v14 =>
IAddr 1 v11 a1 fun v15 =>
Ld R13 v15 fun v16 =>
CallF Try.prog g 37 #[a0, v3, v14] H10 (fun v17 H18 =>
Ent H18 R13 ∧
Bin .num .add v17 v16 fun v19 =>
R (.returned (.tuple #[v19, (Value.int .i64 0)])) H18) NoKP) (PanR R))))) (PanR R)
theorem L16_eq (g : Gh) (a0 a1 : Value) (H : Hp) (R : Ending → Hp → Prop) : denF Try.prog g Try.f16 (.h 0 [] [] .e (.h 0 [] [] .e (.h 0 [] [] .e (.h 0 [] [] .e (.h 0 [] [] (.h 0 [0, 1, 2, 3, 5, 6, 7, 8, 4, 9, 10, 11] [] .e .e) .e))))) [a0, a1] H R = L16 g a0 a1 H R := by kernel_rfl
theorem L16_sound {g : Gh} {a0 a1 : Value} {H : Hp} {R : Ending → Hp → Prop} (h : L16 g a0 a1 H R) : SCalls Try.prog g 16 #[a0, a1] H R :=
  denF_sound (fn := Try.f16) (hn := (.h 0 [] [] .e (.h 0 [] [] .e (.h 0 [] [] .e (.h 0 [] [] .e (.h 0 [] [] (.h 0 [0, 1, 2, 3, 5, 6, 7, 8, 4, 9, 10, 11] [] .e .e) .e)))))) Try.func16 (by rw [L16_eq]; exact h)
/-- thicket.thicketlaw19.choice -/
def L17 (g : Gh) (H : Hp) (R : Ending → Hp → Prop) : Prop :=
New H (.cells #[(Value.int .i64 0), (.slice none 0 0)] 42 (0, 0)) fun b1 H2 =>
BuildSl Try.prog 40 1 [(0, (Value.int .u64 216))] H2 fun v3 H4 =>
Build Try.prog 42 [(0, (Value.int .i64 3)), (1, v3)] fun v5 =>
St 2 H4 (.pointer (some ⟨b1, 0, none⟩)) v5 fun H6 =>
LdA 2 H6 (.pointer (some ⟨b1, 0, none⟩)) fun v7 =>
R (.returned v7) H6
theorem L17_eq (g : Gh) (H : Hp) (R : Ending → Hp → Prop) : denF Try.prog g Try.f17 .e [] H R = L17 g H R := by kernel_rfl
theorem L17_sound {g : Gh} {H : Hp} {R : Ending → Hp → Prop} (h : L17 g H R) : SCalls Try.prog g 17 #[] H R :=
  denF_sound (fn := Try.f17) (hn := .e) Try.func17 (by rw [L17_eq]; exact h)
/-- thicket.thicketref05.Same -/
def L18 (g : Gh) (a0 a1 : Value) (H : Hp) (R : Ending → Hp → Prop) : Prop :=
New H (.cells (Value.cells a0) 42 (0, 0)) fun b1 H2 =>
New H2 (.cells (Value.cells a1) 42 (0, 0)) fun b3 H4 =>
FAddr 0 (.pointer (some ⟨b1, 0, none⟩)) fun v5 =>
Ld H4 v5 fun v6 =>
FAddr 0 (.pointer (some ⟨b3, 0, none⟩)) fun v7 =>
Ld H4 v7 fun v8 =>
Bin .num .neq v6 v8 fun v9 =>
Grp v9 false (fun t10 =>
FAddr 1 (.pointer (some ⟨b1, 0, none⟩)) fun v11 =>
Ld H4 v11 fun v12 =>
LenS v12 fun v13 =>
FAddr 1 (.pointer (some ⟨b3, 0, none⟩)) fun v14 =>
Ld H4 v14 fun v15 =>
LenS v15 fun v16 =>
Bin .num .neq v13 v16 fun v17 =>
(H4 = H4 ∧ v17 = Value.bool t10)) (fun t10 => (Value.bool true) = Value.bool t10) fun t10 => ∀ gs18 : Fr,
Br (Value.bool t10) (
R (.returned (Value.bool false)) H4) (
∃ (I19 : List Value → Hp → Prop) (m20 : List Value → Hp → Nat), JE I19 [(Value.int .i64 0)] H4 ∧ ∀ w23 : Value, ∀ H22 : Hp, I19 [w23] H22 → ∀ gs21 : Fr,
FAddr 1 (.pointer (some ⟨b1, 0, none⟩)) fun v24 =>
Ld H22 v24 fun v25 =>
LenS v25 fun v26 =>
Bin .num .lss w23 v26 fun v27 =>
Br v27 (
FAddr 1 (.pointer (some ⟨b1, 0, none⟩)) fun v28 =>
Ld H22 v28 fun v29 =>
IAddr 1 v29 w23 fun v30 =>
Ld H22 v30 fun v31 =>
FAddr 1 (.pointer (some ⟨b3, 0, none⟩)) fun v32 =>
Ld H22 v32 fun v33 =>
IAddr 1 v33 w23 fun v34 =>
Ld H22 v34 fun v35 =>
Bin .num .neq v31 v35 fun v36 =>
Br v36 (
R (.returned (Value.bool false)) H22) (
Bin .num .add w23 (Value.int .i64 1) fun v37 =>
Back I19 m20 [v37] H22 [w23] H22)) (
R (.returned (Value.bool true)) H22))
theorem L18_eq (g : Gh) (a0 a1 : Value) (H : Hp) (R : Ending → Hp → Prop) : denF Try.prog g Try.f18 (.h 0 [] [] .e (.h 0 [] [] (.h 0 [] [] (.h 0 [] [1] .e .e) .e) (.h 0 [] [] (.h 0 [] [] .e (.h 0 [] [] (.h 0 [5] [2, 3] .e .e) .e)) .e))) [a0, a1] H R = L18 g a0 a1 H R := by kernel_rfl
theorem L18_sound {g : Gh} {a0 a1 : Value} {H : Hp} {R : Ending → Hp → Prop} (h : L18 g a0 a1 H R) : SCalls Try.prog g 18 #[a0, a1] H R :=
  denF_sound (fn := Try.f18) (hn := (.h 0 [] [] .e (.h 0 [] [] (.h 0 [] [] (.h 0 [] [1] .e .e) .e) (.h 0 [] [] (.h 0 [] [] .e (.h 0 [] [] (.h 0 [5] [2, 3] .e .e) .e)) .e)))) Try.func18 (by rw [L18_eq]; exact h)
/-- thicket.thicketlaw19.good -/
def L19 (g : Gh) (a0 a1 : Value) (H : Hp) (R : Ending → Hp → Prop) : Prop :=
LenS a0 fun v1 =>
∃ (I2 : List Value → Hp → Prop) (m3 : List Value → Hp → Nat), JE I2 [(Value.int .i64 0)] H ∧ ∀ w6 : Value, ∀ H5 : Hp, I2 [w6] H5 → ∀ gs4 : Fr,
Bin .num .lss w6 v1 fun v7 =>
Br v7 (
IAddr 2 a0 w6 fun v8 =>
LdA 2 H5 v8 fun v9 =>
New H5 (.cells #[(Value.int .i64 0), (.slice none 0 0)] 42 (0, 0)) fun b10 H11 =>
St 2 H11 (.pointer (some ⟨b10, 0, none⟩)) v9 fun H12 =>
∀ J13 : List Value → Hp → Prop, (∀ w16 : Value, ∀ H15 : Hp, (∀ gs14 : Fr,
Br w16 (
R (.returned (Value.bool false)) H15) (
Bin .num .add w6 (Value.int .i64 1) fun v17 =>
Back I2 m3 [v17] H15 [w6] H5)) → J13 [w16] H15) →
DR H12 fun R18 =>
LdA 2 R18 (.pointer (some ⟨b10, 0, none⟩)) fun v19 =>
∀ F20 : Hp,
CallF Try.prog (g.add F20) 25 #[v19] H12 (fun v21 H22 =>
Ent H22 R18 ∧
Un .not v21 fun v23 =>
Br v23 (
JE J13 [(Value.bool true)] H22) (
FAddr 0 (.pointer (some ⟨b10, 0, none⟩)) fun v24 =>
Ld R18 v24 fun v25 =>
IAddr 2 a0 (Value.int .i64 0) fun v26 =>
FAddr 0 v26 fun v27 =>
Ld R18 v27 fun v28 =>
Bin .num .neq v25 v28 fun v29 =>
Pick (Value.bool false) (Value.bool true) v29 fun v30 =>
Br v30 (
JE J13 [(Value.bool true)] H22) (
FAddr 0 (.pointer (some ⟨b10, 0, none⟩)) fun v31 =>
Ld R18 v31 fun v32 =>
Bin .num .gtr v32 a1 fun v33 =>
Pick (Value.bool false) (Value.bool true) v33 fun v34 =>
JE J13 [v34] H22))) NoKP) (
LenS a0 fun v35 =>
Bin .num .gtr v35 (Value.int .i64 0) fun v36 =>
Grp v36 true (fun t37 =>
LenS a0 fun v38 =>
Bin .num .leq v38 (Value.int .i64 12) fun v39 =>
(H5 = H5 ∧ v39 = Value.bool t37)) (fun t37 => (Value.bool false) = Value.bool t37) fun t37 => ∀ gs40 : Fr,
R (.returned (Value.bool t37)) H5)
theorem L19_eq (g : Gh) (a0 a1 : Value) (H : Hp) (R : Ending → Hp → Prop) : denF Try.prog g Try.f19 (.h 0 [] [] .e (.h 0 [] [] (.h 0 [] [] .e (.h 0 [] [] (.h 0 [9] [0, 1, 7, 8] (.h 0 [] [] .e (.h 0 [] [] .e (.h 0 [] [] (.h 0 [] [] (.h 0 [] [] .e (.h 1 [30] [0, 1, 7, 8, 9] (.h 1 [] [] (.h 0 [0] [] (.h 0 [1] [] (.h 0 [2] [] (.h 2 [3] [] (.h 0 [4] [] (.h 0 [5] [] (.h 0 [6] [] (.h 0 [7] [] (.h 0 [8] [] (.h 0 [9] [] (.h 0 [10] [] (.h 3 [11] [] (.h 3 [12] [] (.h 0 [13] [] (.h 0 [14] [] (.h 0 [15] [] (.h 0 [16] [] (.h 3 [17] [] .e .e) .e) .e) .e) .e) .e) .e) .e) .e) .e) .e) .e) .e) .e) (.h 0 [4] [] (.h 0 [5] [] (.h 0 [6] [] (.h 0 [7] [] (.h 0 [8] [] (.h 0 [9] [] (.h 0 [10] [] (.h 0 [11] [] (.h 2 [12] [] (.h 0 [13] [] (.h 0 [14] [] (.h 0 [15] [] (.h 0 [16] [] (.h 3 [17] [] .e .e) .e) .e) .e) .e) (.h 0 [13] [] (.h 0 [14] [] (.h 0 [15] [] (.h 0 [16] [] (.h 0 [17] [] .e .e) .e) .e) .e) .e)) .e) .e) .e) .e) .e) .e) .e) .e)) .e) .e) .e) .e) .e)) .e) .e))) .e) .e)) (.h 0 [] [] (.h 0 [] [1] .e .e) .e))) [a0, a1] H R = L19 g a0 a1 H R := by kernel_rfl
theorem L19_sound {g : Gh} {a0 a1 : Value} {H : Hp} {R : Ending → Hp → Prop} (h : L19 g a0 a1 H R) : SCalls Try.prog g 19 #[a0, a1] H R :=
  denF_sound (fn := Try.f19) (hn := (.h 0 [] [] .e (.h 0 [] [] (.h 0 [] [] .e (.h 0 [] [] (.h 0 [9] [0, 1, 7, 8] (.h 0 [] [] .e (.h 0 [] [] .e (.h 0 [] [] (.h 0 [] [] (.h 0 [] [] .e (.h 1 [30] [0, 1, 7, 8, 9] (.h 1 [] [] (.h 0 [0] [] (.h 0 [1] [] (.h 0 [2] [] (.h 2 [3] [] (.h 0 [4] [] (.h 0 [5] [] (.h 0 [6] [] (.h 0 [7] [] (.h 0 [8] [] (.h 0 [9] [] (.h 0 [10] [] (.h 3 [11] [] (.h 3 [12] [] (.h 0 [13] [] (.h 0 [14] [] (.h 0 [15] [] (.h 0 [16] [] (.h 3 [17] [] .e .e) .e) .e) .e) .e) .e) .e) .e) .e) .e) .e) .e) .e) .e) (.h 0 [4] [] (.h 0 [5] [] (.h 0 [6] [] (.h 0 [7] [] (.h 0 [8] [] (.h 0 [9] [] (.h 0 [10] [] (.h 0 [11] [] (.h 2 [12] [] (.h 0 [13] [] (.h 0 [14] [] (.h 0 [15] [] (.h 0 [16] [] (.h 3 [17] [] .e .e) .e) .e) .e) .e) (.h 0 [13] [] (.h 0 [14] [] (.h 0 [15] [] (.h 0 [16] [] (.h 0 [17] [] .e .e) .e) .e) .e) .e)) .e) .e) .e) .e) .e) .e) .e) .e)) .e) .e) .e) .e) .e)) .e) .e))) .e) .e)) (.h 0 [] [] (.h 0 [] [1] .e .e) .e)))) Try.func19 (by rw [L19_eq]; exact h)
/-- thicket.truth.Not -/
def L20 (g : Gh) (a0 : Value) (H : Hp) (R : Ending → Hp → Prop) : Prop :=
New H (.cells (Value.cells a0) 42 (0, 0)) fun b1 H2 =>
New H2 (.cells #[(Value.int .i64 0), (.slice none 0 0)] 42 (0, 0)) fun b3 H4 =>
LdA 2 H4 (.pointer (some ⟨b1, 0, none⟩)) fun v5 =>
BuildSl Try.prog 22 1 [(0, v5)] H4 fun v6 H7 =>
CallF Try.prog g 38 #[v6] H7 (fun v8 H9 =>
Un .not v8 fun v10 =>
Br v10 (
Build Try.prog 42 [] fun v11 =>
St 2 H9 (.pointer (some ⟨b3, 0, none⟩)) v11 fun H12 =>
LdA 2 H12 (.pointer (some ⟨b3, 0, none⟩)) fun v13 =>
R (.returned (.tuple #[v13, (Value.int .i64 5)])) H12) (
FAddr 0 (.pointer (some ⟨b1, 0, none⟩)) fun v14 =>
Ld H9 v14 fun v15 =>
CallF Try.prog g 39 #[v15, (.func (.func 40) #[] #[(.pointer (some ⟨b1, 0, none⟩))])] H9 (fun v16 H17 =>
St 2 H17 (.pointer (some ⟨b3, 0, none⟩)) v16 fun H18 =>
LdA 2 H18 (.pointer (some ⟨b3, 0, none⟩)) fun v19 =>
R (.returned (.tuple #[v19, (Value.int .i64 0)])) H18) (PanR R))) (PanR R)
theorem L20_eq (g : Gh) (a0 : Value) (H : Hp) (R : Ending → Hp → Prop) : denF Try.prog g Try.f20 .e [a0] H R = L20 g a0 H R := by kernel_rfl
theorem L20_sound {g : Gh} {a0 : Value} {H : Hp} {R : Ending → Hp → Prop} (h : L20 g a0 H R) : SCalls Try.prog g 20 #[a0] H R :=
  denF_sound (fn := Try.f20) (hn := .e) Try.func20 (by rw [L20_eq]; exact h)
/-- thicket.truth.Renamed -/
def L21 (g : Gh) (a0 a1 : Value) (H : Hp) (R : Ending → Hp → Prop) : Prop :=
New H (.cells (Value.cells a0) 42 (0, 0)) fun b1 H2 =>
New H2 (.cells #[(Value.int .i64 0), (.slice none 0 0)] 42 (0, 0)) fun b3 H4 =>
LdA 2 H4 (.pointer (some ⟨b1, 0, none⟩)) fun v5 =>
BuildSl Try.prog 22 1 [(0, v5)] H4 fun v6 H7 =>
CallF Try.prog g 38 #[v6] H7 (fun v8 H9 =>
Un .not v8 fun v10 =>
Br v10 (
Build Try.prog 42 [] fun v11 =>
St 2 H9 (.pointer (some ⟨b3, 0, none⟩)) v11 fun H12 =>
LdA 2 H12 (.pointer (some ⟨b3, 0, none⟩)) fun v13 =>
R (.returned (.tuple #[v13, (Value.int .i64 5)])) H12) (
FAddr 0 (.pointer (some ⟨b1, 0, none⟩)) fun v14 =>
Ld H9 v14 fun v15 =>
MkSlice 4 1 1 (Value.bool false) H9 v15 v15 fun v16 H17 =>
LenS a1 fun v18 =>
∃ (I19 : List Value → Hp → Prop) (m20 : List Value → Hp → Nat), JE I19 [(Value.int .i64 0)] H17 ∧ ∀ w23 : Value, ∀ H22 : Hp, I19 [w23] H22 → ∀ gs21 : Fr,
Bin .num .lss w23 v18 fun v24 =>
Br v24 (
IAddr 1 a1 w23 fun v25 =>
Ld H22 v25 fun v26 =>
Bin .num .lss v26 (Value.int .i64 0) fun v27 =>
Grp v27 false (fun t28 =>
FAddr 0 (.pointer (some ⟨b1, 0, none⟩)) fun v29 =>
Ld H22 v29 fun v30 =>
Bin .num .geq v26 v30 fun v31 =>
(H22 = H22 ∧ v31 = Value.bool t28)) (fun t28 => (Value.bool true) = Value.bool t28) fun t28 => ∀ gs32 : Fr,
Grp (Value.bool t28) false (fun t33 =>
IAddr 1 v16 v26 fun v34 =>
Ld H22 v34 fun v35 =>
(H22 = H22 ∧ v35 = Value.bool t33)) (fun t33 => (Value.bool true) = Value.bool t33) fun t33 => ∀ gs36 : Fr,
Br (Value.bool t33) (
Build Try.prog 42 [] fun v37 =>
St 2 H22 (.pointer (some ⟨b3, 0, none⟩)) v37 fun H38 =>
LdA 2 H38 (.pointer (some ⟨b3, 0, none⟩)) fun v39 =>
R (.returned (.tuple #[v39, (Value.int .i64 4)])) H38) (
IAddr 1 v16 v26 fun v40 =>
St 1 H22 v40 (Value.bool true) fun H41 =>
Bin .num .add w23 (Value.int .i64 1) fun v42 =>
Back I19 m20 [v42] H41 [w23] H22)) (
LenS a1 fun v43 =>
FAddr 0 (.pointer (some ⟨b1, 0, none⟩)) fun v44 =>
Ld H22 v44 fun v45 =>
Bin .num .neq v43 v45 fun v46 =>
Br v46 (
Build Try.prog 42 [] fun v47 =>
St 2 H22 (.pointer (some ⟨b3, 0, none⟩)) v47 fun H48 =>
LdA 2 H48 (.pointer (some ⟨b3, 0, none⟩)) fun v49 =>
R (.returned (.tuple #[v49, (Value.int .i64 4)])) H48) (
FAddr 0 (.pointer (some ⟨b1, 0, none⟩)) fun v50 =>
Ld H22 v50 fun v51 =>
CallF Try.prog g 39 #[v51, (.func (.func 41) #[] #[])] H22 (fun v52 H53 =>
New H53 (.cells #[(Value.int .i64 0), (.slice none 0 0)] 42 (0, 0)) fun b54 H55 =>
St 2 H55 (.pointer (some ⟨b54, 0, none⟩)) v52 fun H56 =>
FAddr 0 (.pointer (some ⟨b1, 0, none⟩)) fun v57 =>
Ld H56 v57 fun v58 =>
Bin .num .shl (Value.int .i64 1) v58 fun v59 =>
∃ (I60 : List Value → Hp → Prop) (m61 : List Value → Hp → Nat), JE I60 [(Value.int .i64 0)] H56 ∧ ∀ w64 : Value, ∀ H63 : Hp, I60 [w64] H63 → ∀ gs62 : Fr,
Bin .num .lss w64 v59 fun v65 =>
Br v65 (
LenS a1 fun v66 =>
∃ (I67 : List Value → Hp → Prop) (m68 : List Value → Hp → Nat), JE I67 [(Value.int .i64 0), (Value.int .i64 0)] H63 ∧ ∀ w71 w72 : Value, ∀ H70 : Hp, I67 [w71, w72] H70 → ∀ gs69 : Fr,
Bin .num .lss w72 v66 fun v73 =>
Br v73 (
IAddr 1 a1 w72 fun v74 =>
Ld H70 v74 fun v75 =>
Bin .num .shr w64 w72 fun v76 =>
Bin .num .and v76 (Value.int .i64 1) fun v77 =>
Bin .num .shl v77 v75 fun v78 =>
Bin .num .or w71 v78 fun v79 =>
Bin .num .add w72 (Value.int .i64 1) fun v80 =>
Back I67 m68 [v79, v80] H70 [w71, w72] H70) (
DR H70 fun R81 =>
FAddr 1 (.pointer (some ⟨b54, 0, none⟩)) fun v82 =>
Ld R81 v82 fun v83 =>
Bin .num .quo w71 (Value.int .i64 64) fun v84 =>
IAddr 1 v83 v84 fun v85 =>
Ld R81 v85 fun v86 =>
FAddr 1 (.pointer (some ⟨b1, 0, none⟩)) fun v87 =>
Ld R81 v87 fun v88 =>
Bin .num .quo w64 (Value.int .i64 64) fun v89 =>
IAddr 1 v88 v89 fun v90 =>
Ld R81 v90 fun v91 =>
Bin .num .rem w64 (Value.int .i64 64) fun v92 =>
Bin .num .shr v91 v92 fun v93 =>
Bin .num .and v93 (Value.int .u64 1) fun v94 =>
Bin .num .rem w71 (Value.int .i64 64) fun v95 =>
Bin .num .shl v94 v95 fun v96 =>
Bin .num .or v86 v96 fun v97 =>
IAddr 1 v83 v84 fun v98 =>
St 1 H70 v98 v97 fun H99 =>
Bin .num .add w64 (Value.int .i64 1) fun v100 =>
Back I60 m61 [v100] H99 [w64] H63)) (
LdA 2 H63 (.pointer (some ⟨b54, 0, none⟩)) fun v101 =>
St 2 H63 (.pointer (some ⟨b3, 0, none⟩)) v101 fun H102 =>
LdA 2 H102 (.pointer (some ⟨b3, 0, none⟩)) fun v103 =>
R (.returned (.tuple #[v103, (Value.int .i64 0)])) H102)) (PanR R))))) (PanR R)
theorem L21_eq (g : Gh) (a0 a1 : Value) (H : Hp) (R : Ending → Hp → Prop) : denF Try.prog g Try.f21 (.h 0 [] [] .e (.h 0 [] [] .e (.h 0 [] [] .e (.h 0 [] [] (.h 0 [] [] .e (.h 0 [] [] (.h 0 [24] [1, 2, 4, 6, 22, 23] (.h 0 [] [] .e (.h 0 [] [] .e (.h 0 [] [] (.h 0 [] [] (.h 0 [] [] .e (.h 0 [] [] (.h 0 [] [] (.h 0 [] [1] .e .e) .e) .e)) .e) .e))) .e) .e)) (.h 0 [] [] .e (.h 0 [] [] .e (.h 0 [] [] (.h 0 [] [] .e (.h 0 [] [] (.h 0 [59] [1, 2, 4, 9, 58] (.h 0 [] [] .e (.h 0 [] [] .e (.h 0 [] [] (.h 0 [] [] (.h 0 [] [] .e (.h 0 [] [] .e (.h 0 [] [] (.h 0 [] [] .e (.h 0 [] [] (.h 0 [11, 64] [1, 2, 4, 9, 10, 58, 59, 62, 63] .e .e) .e)) (.h 0 [0, 1, 2, 3, 4, 5, 6, 7, 8, 9, 10, 11, 12, 13, 14, 15, 16, 17, 18, 19, 20, 21] [] .e .e)))) .e) .e))) .e) .e)) .e))))))) [a0, a1] H R = L21 g a0 a1 H R := by kernel_rfl
theorem L21_sound {g : Gh} {a0 a1 : Value} {H : Hp} {R : Ending → Hp → Prop} (h : L21 g a0 a1 H R) : SCalls Try.prog g 21 #[a0, a1] H R :=
  denF_sound (fn := Try.f21) (hn := (.h 0 [] [] .e (.h 0 [] [] .e (.h 0 [] [] .e (.h 0 [] [] (.h 0 [] [] .e (.h 0 [] [] (.h 0 [24] [1, 2, 4, 6, 22, 23] (.h 0 [] [] .e (.h 0 [] [] .e (.h 0 [] [] (.h 0 [] [] (.h 0 [] [] .e (.h 0 [] [] (.h 0 [] [] (.h 0 [] [1] .e .e) .e) .e)) .e) .e))) .e) .e)) (.h 0 [] [] .e (.h 0 [] [] .e (.h 0 [] [] (.h 0 [] [] .e (.h 0 [] [] (.h 0 [59] [1, 2, 4, 9, 58] (.h 0 [] [] .e (.h 0 [] [] .e (.h 0 [] [] (.h 0 [] [] (.h 0 [] [] .e (.h 0 [] [] .e (.h 0 [] [] (.h 0 [] [] .e (.h 0 [] [] (.h 0 [11, 64] [1, 2, 4, 9, 10, 58, 59, 62, 63] .e .e) .e)) (.h 0 [0, 1, 2, 3, 4, 5, 6, 7, 8, 9, 10, 11, 12, 13, 14, 15, 16, 17, 18, 19, 20, 21] [] .e .e)))) .e) .e))) .e) .e)) .e)))))))) Try.func21 (by rw [L21_eq]; exact h)
/-- thicket.shape.Size -/
def L22 (g : Gh) (a0 a1 : Value) (H : Hp) (R : Ending → Hp → Prop) : Prop :=
CallF Try.prog g 42 #[a0, a1] H (fun v1 H2 =>
Ext 0 v1 fun v3 =>
Ext 1 v1 fun v4 =>
LenS v3 fun v5 =>
∃ (I6 : List Value → Hp → Prop) (m7 : List Value → Hp → Nat), JE I6 [(Value.int .i64 0), (Value.int .i64 0)] H2 ∧ ∀ w10 w11 : Value, ∀ H9 : Hp, I6 [w10, w11] H9 → ∀ gs8 : Fr,
Bin .num .lss w11 v5 fun v12 =>
Br v12 (
IAddr 1 v3 w11 fun v13 =>
Ld H9 v13 fun v14 =>
Bin .num .add w10 v14 fun v15 =>
Bin .num .add w11 (Value.int .i64 1) fun v16 =>
Back I6 m7 [v15, v16] H9 [w10, w11] H9) (
R (.returned (.tuple #[w10, v4])) H9)) (PanR R)
theorem L22_eq (g : Gh) (a0 a1 : Value) (H : Hp) (R : Ending → Hp → Prop) : denF Try.prog g Try.f22 (.h 0 [] [] .e (.h 0 [] [] .e (.h 0 [] [] .e (.h 0 [] [] (.h 0 [] [] .e (.h 0 [] [] (.h 0 [8, 19] [7, 17, 18] .e .e) .e)) .e)))) [a0, a1] H R = L22 g a0 a1 H R := by kernel_rfl
theorem L22_sound {g : Gh} {a0 a1 : Value} {H : Hp} {R : Ending → Hp → Prop} (h : L22 g a0 a1 H R) : SCalls Try.prog g 22 #[a0, a1] H R :=
  denF_sound (fn := Try.f22) (hn := (.h 0 [] [] .e (.h 0 [] [] .e (.h 0 [] [] .e (.h 0 [] [] (.h 0 [] [] .e (.h 0 [] [] (.h 0 [8, 19] [7, 17, 18] .e .e) .e)) .e))))) Try.func22 (by rw [L22_eq]; exact h)
/-- thicket.thicketlaw19.ahead -/
def L23 (g : Gh) (a0 a1 : Value) (H : Hp) (R : Ending → Hp → Prop) : Prop :=
∃ (I1 : List Value → Hp → Prop) (m2 : List Value → Hp → Nat), JE I1 [(Value.int .i64 0)] H ∧ ∀ w5 : Value, ∀ H4 : Hp, I1 [w5] H4 → ∀ gs3 : Fr,
LenS a0 fun v6 =>
Bin .num .lss w5 v6 fun v7 =>
Grp v7 true (fun t8 =>
LenS a1 fun v9 =>
Bin .num .lss w5 v9 fun v10 =>
(H4 = H4 ∧ v10 = Value.bool t8)) (fun t8 => (Value.bool false) = Value.bool t8) fun t8 => ∀ gs11 : Fr,
Br (Value.bool t8) (
IAddr 1 a0 w5 fun v12 =>
Ld H4 v12 fun v13 =>
IAddr 1 a1 w5 fun v14 =>
Ld H4 v14 fun v15 =>
Bin .num .neq v13 v15 fun v16 =>
Br v16 (
IAddr 1 a0 w5 fun v17 =>
Ld H4 v17 fun v18 =>
IAddr 1 a1 w5 fun v19 =>
Ld H4 v19 fun v20 =>
Bin .num .lss v18 v20 fun v21 =>
R (.returned v21) H4) (
Bin .num .add w5 (Value.int .i64 1) fun v22 =>
Back I1 m2 [v22] H4 [w5] H4)) (
LenS a0 fun v23 =>
LenS a1 fun v24 =>
Bin .num .lss v23 v24 fun v25 =>
R (.returned v25) H4)
theorem L23_eq (g : Gh) (a0 a1 : Value) (H : Hp) (R : Ending → Hp → Prop) : denF Try.prog g Try.f23 (.h 0 [] [] .e (.h 0 [] [] (.h 0 [] [] .e (.h 0 [] [] (.h 0 [5] [0, 1] (.h 0 [] [] (.h 0 [] [] (.h 0 [] [1] .e .e) .e) .e) .e) .e)) .e)) [a0, a1] H R = L23 g a0 a1 H R := by kernel_rfl
theorem L23_sound {g : Gh} {a0 a1 : Value} {H : Hp} {R : Ending → Hp → Prop} (h : L23 g a0 a1 H R) : SCalls Try.prog g 23 #[a0, a1] H R :=
  denF_sound (fn := Try.f23) (hn := (.h 0 [] [] .e (.h 0 [] [] (.h 0 [] [] .e (.h 0 [] [] (.h 0 [5] [0, 1] (.h 0 [] [] (.h 0 [] [] (.h 0 [] [1] .e .e) .e) .e) .e) .e)) .e))) Try.func23 (by rw [L23_eq]; exact h)
/-- thicket.thicketlaw19.members -/
def L24 (g : Gh) (a0 : Value) (H : Hp) (R : Ending → Hp → Prop) : Prop :=
∃ (I1 : List Value → Hp → Prop) (m2 : List Value → Hp → Nat), JE I1 [a0, (Value.int .i64 0)] H ∧ ∀ w5 w6 : Value, ∀ H4 : Hp, I1 [w5, w6] H4 → ∀ gs3 : Fr,
Bin .num .gtr w5 (Value.int .u64 0) fun v7 =>
Br v7 (
Bin .num .add w6 (Value.int .i64 1) fun v8 =>
Bin .num .sub w5 (Value.int .u64 1) fun v9 =>
Bin .num .and w5 v9 fun v10 =>
Back I1 m2 [v10, v8] H4 [w5, w6] H4) (
R (.returned w6) H4)
theorem L24_eq (g : Gh) (a0 : Value) (H : Hp) (R : Ending → Hp → Prop) : denF Try.prog g Try.f24 (.h 0 [] [] .e (.h 0 [] [] .e (.h 0 [] [] (.h 0 [] [] (.h 0 [0, 3] [] .e .e) .e) .e))) [a0] H R = L24 g a0 H R := by kernel_rfl
theorem L24_sound {g : Gh} {a0 : Value} {H : Hp} {R : Ending → Hp → Prop} (h : L24 g a0 H R) : SCalls Try.prog g 24 #[a0] H R :=
  denF_sound (fn := Try.f24) (hn := (.h 0 [] [] .e (.h 0 [] [] .e (.h 0 [] [] (.h 0 [] [] (.h 0 [0, 3] [] .e .e) .e) .e)))) Try.func24 (by rw [L24_eq]; exact h)
/-- thicket.thicketref05.Form -/
def L25 (g : Gh) (a0 : Value) (H : Hp) (R : Ending → Hp → Prop) : Prop :=
New H (.cells (Value.cells a0) 42 (0, 0)) fun b1 H2 =>
∀ J3 : List Value → Hp → Prop, (∀ w6 : Value, ∀ H5 : Hp, (∀ gs4 : Fr,
Br w6 (
R (.returned (Value.bool false)) H5) (
FAddr 0 (.pointer (some ⟨b1, 0, none⟩)) fun v7 =>
Ld H5 v7 fun v8 =>
Bin .num .geq v8 (Value.int .i64 6) fun v9 =>
Grp v9 false (fun t10 =>
FAddr 1 (.pointer (some ⟨b1, 0, none⟩)) fun v11 =>
Ld H5 v11 fun v12 =>
IAddr 1 v12 (Value.int .i64 0) fun v13 =>
Ld H5 v13 fun v14 =>
FAddr 0 (.pointer (some ⟨b1, 0, none⟩)) fun v15 =>
Ld H5 v15 fun v16 =>
Bin .num .shl (Value.int .u64 1) v16 fun v17 =>
Bin .num .shr v14 v17 fun v18 =>
Bin .num .eql v18 (Value.int .u64 0) fun v19 =>
(H5 = H5 ∧ v19 = Value.bool t10)) (fun t10 => (Value.bool true) = Value.bool t10) fun t10 => ∀ gs20 : Fr,
R (.returned (Value.bool t10)) H5)) → J3 [w6] H5) →
DR H2 fun R21 =>
FAddr 0 (.pointer (some ⟨b1, 0, none⟩)) fun v22 =>
Ld R21 v22 fun v23 =>
Bin .num .lss v23 (Value.int .i64 0) fun v24 =>
Br v24 (
JE J3 [(Value.bool true)] H2) (
FAddr 0 (.pointer (some ⟨b1, 0, none⟩)) fun v25 =>
Ld R21 v25 fun v26 =>
Bin .num .gtr v26 (Value.int .i64 16) fun v27 =>
Pick (Value.bool false) (Value.bool true) v27 fun v28 =>
Br v28 (
JE J3 [(Value.bool true)] H2) (
FAddr 1 (.pointer (some ⟨b1, 0, none⟩)) fun v29 =>
Ld R21 v29 fun v30 =>
LenS v30 fun v31 =>
FAddr 0 (.pointer (some ⟨b1, 0, none⟩)) fun v32 =>
Ld R21 v32 fun v33 =>
∀ F34 : Hp,
CallF Try.prog (g.add F34) 43 #[v33] H2 (fun v35 H36 =>
Ent H36 R21 ∧
Bin .num .neq v31 v35 fun v37 =>
Pick (Value.bool false) (Value.bool true) v37 fun v38 =>
JE J3 [v38] H36) NoKP))
theorem L25_eq (g : Gh) (a0 : Value) (H : Hp) (R : Ending → Hp → Prop) : denF Try.prog g Try.f25 (.h 0 [] [] .e (.h 0 [] [] (.h 1 [19] [1] (.h 1 [] [] (.h 0 [0] [] (.h 0 [1] [] (.h 0 [2] [] (.h 2 [3] [] (.h 0 [4] [] (.h 0 [5] [] (.h 0 [6] [] (.h 3 [7] [] (.h 3 [8] [] (.h 0 [9] [] (.h 0 [10] [] (.h 0 [11] [] (.h 0 [12] [] (.h 0 [13] [] (.h 0 [14] [] (.h 0 [15] [] (.h 3 [16] [] .e .e) .e) .e) .e) .e) .e) .e) .e) .e) .e) .e) .e) .e) (.h 0 [4] [] (.h 0 [5] [] (.h 0 [6] [] (.h 0 [7] [] (.h 2 [8] [] (.h 0 [9] [] (.h 0 [10] [] (.h 0 [11] [] (.h 0 [12] [] (.h 0 [13] [] (.h 0 [14] [] (.h 0 [15] [] (.h 3 [16] [] .e .e) .e) .e) .e) .e) .e) .e) .e) (.h 0 [9] [] (.h 0 [10] [] (.h 0 [11] [] (.h 0 [12] [] (.h 0 [13] [] (.h 0 [14] [] (.h 0 [15] [] (.h 0 [16] [] .e .e) .e) .e) .e) .e) .e) .e) .e)) .e) .e) .e) .e)) .e) .e) .e) .e) .e) .e)) [a0] H R = L25 g a0 H R := by kernel_rfl
theorem L25_sound {g : Gh} {a0 : Value} {H : Hp} {R : Ending → Hp → Prop} (h : L25 g a0 H R) : SCalls Try.prog g 25 #[a0] H R :=
  denF_sound (fn := Try.f25) (hn := (.h 0 [] [] .e (.h 0 [] [] (.h 1 [19] [1] (.h 1 [] [] (.h 0 [0] [] (.h 0 [1] [] (.h 0 [2] [] (.h 2 [3] [] (.h 0 [4] [] (.h 0 [5] [] (.h 0 [6] [] (.h 3 [7] [] (.h 3 [8] [] (.h 0 [9] [] (.h 0 [10] [] (.h 0 [11] [] (.h 0 [12] [] (.h 0 [13] [] (.h 0 [14] [] (.h 0 [15] [] (.h 3 [16] [] .e .e) .e) .e) .e) .e) .e) .e) .e) .e) .e) .e) .e) .e) (.h 0 [4] [] (.h 0 [5] [] (.h 0 [6] [] (.h 0 [7] [] (.h 2 [8] [] (.h 0 [9] [] (.h 0 [10] [] (.h 0 [11] [] (.h 0 [12] [] (.h 0 [13] [] (.h 0 [14] [] (.h 0 [15] [] (.h 3 [16] [] .e .e) .e) .e) .e) .e) .e) .e) .e) (.h 0 [9] [] (.h 0 [10] [] (.h 0 [11] [] (.h 0 [12] [] (.h 0 [13] [] (.h 0 [14] [] (.h 0 [15] [] (.h 0 [16] [] .e .e) .e) .e) .e) .e) .e) .e) .e)) .e) .e) .e) .e)) .e) .e) .e) .e) .e) .e))) Try.func25 (by rw [L25_eq]; exact h)
/-- thicket.exact.check -/
def L26 (g : Gh) (a0 : Value) (H : Hp) (R : Ending → Hp → Prop) : Prop :=
MkMap H fun v1 H2 =>
MkMap H2 fun v3 H4 =>
Build Try.prog 60 [(0, a0), (3, v1), (4, v3)] fun v5 =>
New H4 (.cells (Value.cells v5) 60 (0, 0)) fun b6 H7 =>
LenS a0 fun v8 =>
Bin .num .eql v8 (Value.int .i64 0) fun v9 =>
Br v9 (
R (.returned (.tuple #[(.pointer (some ⟨b6, 0, none⟩)), (Value.int .i64 0)])) H7) (
CallF Try.prog g 44 #[a0] H7 (fun v10 H11 =>
Ext 0 v10 fun v12 =>
Ext 1 v10 fun v13 =>
Bin .num .neq v13 (Value.int .i64 0) fun v14 =>
Br v14 (
R (.returned (.tuple #[(.pointer none), v13])) H11) (
IAddr 2 a0 (Value.int .i64 0) fun v15 =>
FAddr 0 v15 fun v16 =>
Ld H11 v16 fun v17 =>
Nil (.pointer (some ⟨b6, 0, none⟩)) fun v18 =>
FAddr 1 v18 fun v19 =>
St 1 H11 v19 v17 fun H20 =>
LenS a0 fun v21 =>
∃ (I22 : List Value → Hp → Prop) (m23 : List Value → Hp → Nat), JE I22 [(Value.int .i64 0)] H20 ∧ ∀ w26 : Value, ∀ H25 : Hp, I22 [w26] H25 → ∀ gs24 : Fr,
Bin .num .lss w26 v21 fun v27 =>
Br v27 (
IAddr 2 a0 w26 fun v28 =>
LdA 2 H25 v28 fun v29 =>
New H25 (.cells #[(Value.int .i64 0), (.slice none 0 0)] 42 (0, 0)) fun b30 H31 =>
St 2 H31 (.pointer (some ⟨b30, 0, none⟩)) v29 fun H32 =>
LdA 2 H32 (.pointer (some ⟨b30, 0, none⟩)) fun v33 =>
CallF Try.prog g 45 #[v33] H32 (fun v34 H35 =>
Ext 0 v34 fun v36 =>
Ext 1 v34 fun v37 =>
Nil (.pointer (some ⟨b6, 0, none⟩)) fun v38 =>
FAddr 2 v38 fun v39 =>
Ld H35 v39 fun v40 =>
ConvI .i64 v36 fun v41 =>
Bin .num .or v40 v41 fun v42 =>
Nil (.pointer (some ⟨b6, 0, none⟩)) fun v43 =>
FAddr 2 v43 fun v44 =>
St 1 H35 v44 v42 fun H45 =>
Bin .num .add w26 (Value.int .i64 1) fun v46 =>
Back I22 m23 [v46] H45 [w26] H25) (PanR R)) (
R (.returned (.tuple #[(.pointer (some ⟨b6, 0, none⟩)), (Value.int .i64 0)])) H25))) (PanR R))
theorem L26_eq (g : Gh) (a0 : Value) (H : Hp) (R : Ending → Hp → Prop) : denF Try.prog g Try.f26 (.h 0 [] [] .e (.h 0 [] [] .e (.h 0 [] [] .e (.h 0 [] [] .e (.h 0 [] [] .e (.h 0 [] [] (.h 0 [] [] .e (.h 0 [] [] (.h 0 [37] [4, 35, 36] .e .e) .e)) .e)))))) [a0] H R = L26 g a0 H R := by kernel_rfl
theorem L26_sound {g : Gh} {a0 : Value} {H : Hp} {R : Ending → Hp → Prop} (h : L26 g a0 H R) : SCalls Try.prog g 26 #[a0] H R :=
  denF_sound (fn := Try.f26) (hn := (.h 0 [] [] .e (.h 0 [] [] .e (.h 0 [] [] .e (.h 0 [] [] .e (.h 0 [] [] .e (.h 0 [] [] (.h 0 [] [] .e (.h 0 [] [] (.h 0 [37] [4, 35, 36] .e .e) .e)) .e))))))) Try.func26 (by rw [L26_eq]; exact h)
/-- (*thicket.exact.plan).nodes -/
def L27 (g : Gh) (a0 a1 a2 : Value) (H : Hp) (R : Ending → Hp → Prop) : Prop :=
Nil a0 fun v1 =>
FAddr 2 v1 fun v2 =>
Ld H v2 fun v3 =>
Bin .num .shr v3 a2 fun v4 =>
Bin .num .and v4 (Value.int .i64 1) fun v5 =>
Bin .num .eql v5 (Value.int .i64 0) fun v6 =>
Br v6 (
R (.returned (Value.int .i64 0)) H) (
Nil a0 fun v7 =>
FAddr 2 v7 fun v8 =>
Ld H v8 fun v9 =>
Bin .num .and a1 v9 fun v10 =>
Build Try.prog 86 [(0, v10), (1, a2)] fun v11 =>
New H (.cells #[(Value.int .i64 0), (Value.int .i64 0)] 86 (0, 0)) fun b12 H13 =>
St 2 H13 (.pointer (some ⟨b12, 0, none⟩)) v11 fun H14 =>
Nil a0 fun v15 =>
FAddr 3 v15 fun v16 =>
Ld H14 v16 fun v17 =>
LdA 2 H14 (.pointer (some ⟨b12, 0, none⟩)) fun v18 =>
LookS Try.prog 86 (Value.int .i64 0) true H14 v17 v18 fun v19 =>
Ext 0 v19 fun v20 =>
Ext 1 v19 fun v21 =>
∀ J22 : List Value → Hp → Prop, (∀ w25 : Value, ∀ H24 : Hp, (∀ gs23 : Fr,
R (.returned w25) H24) → J22 [w25] H24) →
Un .not v21 fun v26 =>
Br v26 (
DR H14 fun R27 =>
Nil a0 fun v28 =>
FAddr 0 v28 fun v29 =>
Ld R27 v29 fun v30 =>
AAddr 2 1 (.pointer (some ⟨b12, 0, none⟩)) (Value.int .i64 0) fun v31 =>
Ld R27 v31 fun v32 =>
ConvI .u64 v32 fun v33 =>
CallF Try.prog g 46 #[v30, v33, a2] H14 (fun v34 H35 =>
Ent H35 R27 ∧
Ext 0 v34 fun v36 =>
Ext 1 v34 fun v37 =>
DR H35 fun R38 =>
Nil a0 fun v39 =>
FAddr 3 v39 fun v40 =>
Ld R38 v40 fun v41 =>
LdA 2 R38 (.pointer (some ⟨b12, 0, none⟩)) fun v42 =>
MapUpdS Try.prog 86 H35 v41 v42 v36 fun H43 =>
JE J22 [v36] H43) NoKP) (
JE J22 [v20] H14))
theorem L27_eq (g : Gh) (a0 a1 a2 : Value) (H : Hp) (R : Ending → Hp → Prop) : denF Try.prog g Try.f27 (.h 0 [] [] .e (.h 0 [] [] .e (.h 0 [] [] .e (.h 0 [] [] .e (.h 1 [8] [] (.h 0 [] [] .e (.h 0 [] [] (.h 0 [] [] (.h 0 [0, 1, 2, 3, 4, 5, 6, 7, 8, 9, 10, 11, 12] [] .e .e) (.h 0 [0, 1, 2, 3, 4, 5, 6] [] .e .e)) .e)) .e))))) [a0, a1, a2] H R = L27 g a0 a1 a2 H R := by kernel_rfl
theorem L27_sound {g : Gh} {a0 a1 a2 : Value} {H : Hp} {R : Ending → Hp → Prop} (h : L27 g a0 a1 a2 H R) : SCalls Try.prog g 27 #[a0, a1, a2] H R :=
  denF_sound (fn := Try.f27) (hn := (.h 0 [] [] .e (.h 0 [] [] .e (.h 0 [] [] .e (.h 0 [] [] .e (.h 1 [8] [] (.h 0 [] [] .e (.h 0 [] [] (.h 0 [] [] (.h 0 [0, 1, 2, 3, 4, 5, 6, 7, 8, 9, 10, 11, 12] [] .e .e) (.h 0 [0, 1, 2, 3, 4, 5, 6] [] .e .e)) .e)) .e)))))) Try.func27 (by rw [L27_eq]; exact h)
/-- (*thicket.exact.plan).below -/
def L28 (g : Gh) (a0 a1 : Value) (H : Hp) (R : Ending → Hp → Prop) : Prop :=
Nil a0 fun v1 =>
FAddr 2 v1 fun v2 =>
Ld H v2 fun v3 =>
Bin .num .and a1 v3 fun v4 =>
Nil a0 fun v5 =>
FAddr 2 v5 fun v6 =>
Ld H v6 fun v7 =>
Bin .num .eql v4 v7 fun v8 =>
Br v8 (
R (.returned (Value.int .i64 0)) H) (
Nil a0 fun v9 =>
FAddr 4 v9 fun v10 =>
Ld H v10 fun v11 =>
Look (.int .i64) (Value.int .i64 0) true H v11 v4 fun v12 =>
Ext 0 v12 fun v13 =>
Ext 1 v12 fun v14 =>
Br v14 (
R (.returned v13) H) (
Nil a0 fun v15 =>
FAddr 1 v15 fun v16 =>
Ld H v16 fun v17 =>
∃ (I18 : List Value → Hp → Prop) (m19 : List Value → Hp → Nat), JE I18 [(Value.int .i64 (-1)), (Value.int .i64 0)] H ∧ ∀ w22 w23 : Value, ∀ H21 : Hp, I18 [w22, w23] H21 → ∀ gs20 : Fr,
Bin .num .lss w23 v17 fun v24 =>
Br v24 (
∀ J25 : List Value → Hp → Prop, (∀ w28 : Value, ∀ H27 : Hp, (∀ gs26 : Fr,
Bin .num .add w23 (Value.int .i64 1) fun v29 =>
Back I18 m19 [w28, v29] H27 [w22, w23] H21) → J25 [w28] H27) →
Nil a0 fun v30 =>
FAddr 2 v30 fun v31 =>
Ld H21 v31 fun v32 =>
Un .xor v32 fun v33 =>
Bin .num .or v4 v33 fun v34 =>
Bin .num .shr v34 w23 fun v35 =>
Bin .num .and v35 (Value.int .i64 1) fun v36 =>
Bin .num .eql v36 (Value.int .i64 1) fun v37 =>
Br v37 (
JE J25 [w22] H21) (
DR H21 fun R38 =>
Bin .num .shl (Value.int .i64 1) w23 fun v39 =>
Bin .num .or v4 v39 fun v40 =>
CallF Try.prog g 27 #[a0, v4, w23] H21 (fun v41 H42 =>
CallF Try.prog g 28 #[a0, v40] H42 (fun v43 H44 =>
Bin .num .add v41 v43 fun v45 =>
Bin .num .lss w22 (Value.int .i64 0) fun v46 =>
Grp v46 false (fun t47 =>
Bin .num .lss v45 w22 fun v48 =>
(H44 = H44 ∧ v48 = Value.bool t47)) (fun t47 => (Value.bool true) = Value.bool t47) fun t47 => ∀ gs49 : Fr,
Br (Value.bool t47) (
JE J25 [v45] H44) (
JE J25 [w22] H44)) NoKP) NoKP)) (
Nil a0 fun v50 =>
FAddr 4 v50 fun v51 =>
Ld H21 v51 fun v52 =>
MapUpd (.int .i64) H21 v52 v4 w22 fun H53 =>
R (.returned w22) H53)))
theorem L28_eq (g : Gh) (a0 a1 : Value) (H : Hp) (R : Ending → Hp → Prop) : denF Try.prog g Try.f28 (.h 0 [] [] .e (.h 0 [] [] .e (.h 0 [] [] .e (.h 0 [] [] .e (.h 0 [] [] .e (.h 0 [] [] (.h 0 [] [] .e (.h 0 [] [] (.h 0 [7, 37] [0, 1, 36] (.h 0 [] [] .e (.h 0 [] [] .e (.h 1 [7] [0, 1, 36, 37] (.h 0 [] [] (.h 0 [] [] .e (.h 0 [] [] .e (.h 0 [] [] (.h 0 [0, 1, 2, 4, 5, 6, 7, 8, 3, 9, 10, 11] [] .e .e) (.h 0 [] [] (.h 0 [] [1] .e .e) .e)))) .e) .e))) .e) .e)) .e)))))) [a0, a1] H R = L28 g a0 a1 H R := by kernel_rfl
theorem L28_sound {g : Gh} {a0 a1 : Value} {H : Hp} {R : Ending → Hp → Prop} (h : L28 g a0 a1 H R) : SCalls Try.prog g 28 #[a0, a1] H R :=
  denF_sound (fn := Try.f28) (hn := (.h 0 [] [] .e (.h 0 [] [] .e (.h 0 [] [] .e (.h 0 [] [] .e (.h 0 [] [] .e (.h 0 [] [] (.h 0 [] [] .e (.h 0 [] [] (.h 0 [7, 37] [0, 1, 36] (.h 0 [] [] .e (.h 0 [] [] .e (.h 1 [7] [0, 1, 36, 37] (.h 0 [] [] (.h 0 [] [] .e (.h 0 [] [] .e (.h 0 [] [] (.h 0 [0, 1, 2, 4, 5, 6, 7, 8, 3, 9, 10, 11] [] .e .e) (.h 0 [] [] (.h 0 [] [1] .e .e) .e)))) .e) .e))) .e) .e)) .e))))))) Try.func28 (by rw [L28_eq]; exact h)
/-- thicket.thicketref19.check -/
def L29 (g : Gh) (a0 : Value) (H : Hp) (R : Ending → Hp → Prop) : Prop :=
LenS a0 fun v1 =>
∃ (I2 : List Value → Hp → Prop) (m3 : List Value → Hp → Nat), JE I2 [(Value.int .i64 0), (Value.int .i64 0)] H ∧ ∀ w6 w7 : Value, ∀ H5 : Hp, I2 [w6, w7] H5 → ∀ gs4 : Fr,
Bin .num .lss w7 v1 fun v8 =>
Br v8 (
IAddr 2 a0 w7 fun v9 =>
LdA 2 H5 v9 fun v10 =>
New H5 (.cells #[(Value.int .i64 0), (.slice none 0 0)] 42 (0, 0)) fun b11 H12 =>
St 2 H12 (.pointer (some ⟨b11, 0, none⟩)) v10 fun H13 =>
∀ J14 : List Value → Hp → Prop, (∀ w17 : Value, ∀ H16 : Hp, (∀ gs15 : Fr,
Br w17 (
R (.returned (.tuple #[(Value.int .i64 0), (Value.int .i64 5)])) H16) (
FAddr 0 (.pointer (some ⟨b11, 0, none⟩)) fun v18 =>
Ld H16 v18 fun v19 =>
Bin .num .add w7 (Value.int .i64 1) fun v20 =>
Back I2 m3 [v19, v20] H16 [w6, w7] H5)) → J14 [w17] H16) →
DR H13 fun R21 =>
LdA 2 R21 (.pointer (some ⟨b11, 0, none⟩)) fun v22 =>
∀ F23 : Hp,
CallF Try.prog (g.add F23) 25 #[v22] H13 (fun v24 H25 =>
Ent H25 R21 ∧
Un .not v24 fun v26 =>
Br v26 (
JE J14 [(Value.bool true)] H25) (
FAddr 0 (.pointer (some ⟨b11, 0, none⟩)) fun v27 =>
Ld R21 v27 fun v28 =>
IAddr 2 a0 (Value.int .i64 0) fun v29 =>
FAddr 0 v29 fun v30 =>
Ld R21 v30 fun v31 =>
Bin .num .neq v28 v31 fun v32 =>
Pick (Value.bool false) (Value.bool true) v32 fun v33 =>
JE J14 [v33] H25)) NoKP) (
R (.returned (.tuple #[w6, (Value.int .i64 0)])) H5)
theorem L29_eq (g : Gh) (a0 : Value) (H : Hp) (R : Ending → Hp → Prop) : denF Try.prog g Try.f29 (.h 0 [] [] .e (.h 0 [] [] .e (.h 0 [] [] (.h 0 [] [] .e (.h 0 [] [] (.h 0 [4, 9] [0, 7, 8] (.h 0 [] [] .e (.h 0 [] [] .e (.h 0 [] [] (.h 0 [] [] (.h 0 [] [] .e (.h 0 [] [] (.h 1 [24] [0, 6, 7, 8, 9] (.h 1 [] [] (.h 0 [0] [] (.h 0 [1] [] (.h 0 [2] [] (.h 2 [3] [] (.h 0 [4] [] (.h 0 [5] [] (.h 0 [6] [] (.h 0 [7] [] (.h 0 [8] [] (.h 0 [9] [] (.h 0 [10] [] (.h 3 [11] [] .e .e) .e) .e) .e) .e) .e) .e) .e) (.h 0 [4] [] (.h 0 [5] [] (.h 0 [6] [] (.h 0 [7] [] (.h 0 [8] [] (.h 0 [9] [] (.h 0 [10] [] (.h 0 [11] [] .e .e) .e) .e) .e) .e) .e) .e) .e)) .e) .e) .e) .e) .e) .e)) .e) .e))) .e) .e)) .e))) [a0] H R = L29 g a0 H R := by kernel_rfl
theorem L29_sound {g : Gh} {a0 : Value} {H : Hp} {R : Ending → Hp → Prop} (h : L29 g a0 H R) : SCalls Try.prog g 29 #[a0] H R :=
  denF_sound (fn := Try.f29) (hn := (.h 0 [] [] .e (.h 0 [] [] .e (.h 0 [] [] (.h 0 [] [] .e (.h 0 [] [] (.h 0 [4, 9] [0, 7, 8] (.h 0 [] [] .e (.h 0 [] [] .e (.h 0 [] [] (.h 0 [] [] (.h 0 [] [] .e (.h 0 [] [] (.h 1 [24] [0, 6, 7, 8, 9] (.h 1 [] [] (.h 0 [0] [] (.h 0 [1] [] (.h 0 [2] [] (.h 2 [3] [] (.h 0 [4] [] (.h 0 [5] [] (.h 0 [6] [] (.h 0 [7] [] (.h 0 [8] [] (.h 0 [9] [] (.h 0 [10] [] (.h 3 [11] [] .e .e) .e) .e) .e) .e) .e) .e) .e) (.h 0 [4] [] (.h 0 [5] [] (.h 0 [6] [] (.h 0 [7] [] (.h 0 [8] [] (.h 0 [9] [] (.h 0 [10] [] (.h 0 [11] [] .e .e) .e) .e) .e) .e) .e) .e) .e)) .e) .e) .e) .e) .e) .e)) .e) .e))) .e) .e)) .e)))) Try.func29 (by rw [L29_eq]; exact h)
/-- thicket.thicketref19.costs -/
def L30 (g : Gh) (a0 a1 : Value) (H : Hp) (R : Ending → Hp → Prop) : Prop :=
DR H fun R1 =>
Bin .num .shl (Value.int .i64 1) a1 fun v2 =>
Bin .num .shl (Value.int .i64 1) a1 fun v3 =>
MkSliceC 25 1 24 (.slice none 0 0) v3 v3 fun x4 =>
∀ F5 : Hp,
MkSlice 3 1 8 (Value.int .i64 0) H v2 v2 fun v6 H7 =>
New H7 x4.1 fun b8 H9 =>
Bin .num .shl (Value.int .i64 1) a1 fun v10 =>
Bin .num .sub v10 (Value.int .i64 2) fun v11 =>
∃ (I12 : List Value → Hp → Prop) (m13 : List Value → Hp → Nat), JE I12 [v11] H9 ∧ ∀ w16 : Value, ∀ H15 : Hp, I12 [w16] H15 → ∀ gs14 : Fr,
Bin .num .geq w16 (Value.int .i64 0) fun v17 =>
Br v17 (
MkSlice 3 1 8 (Value.int .i64 0) H15 a1 a1 fun v18 H19 =>
IAddr 1 (x4.2 b8) w16 fun v20 =>
St 1 H19 v20 v18 fun H21 =>
∃ (I22 : List Value → Hp → Prop) (m23 : List Value → Hp → Nat), JE I22 [(Value.int .i64 (-1)), (Value.int .i64 0)] H21 ∧ ∀ w26 w27 : Value, ∀ H25 : Hp, I22 [w26, w27] H25 → ∀ gs24 : Fr,
Bin .num .lss w27 a1 fun v28 =>
Br v28 (
∀ J29 : List Value → Hp → Prop, (∀ w32 : Value, ∀ H31 : Hp, (∀ gs30 : Fr,
Bin .num .add w27 (Value.int .i64 1) fun v33 =>
Back I22 m23 [w32, v33] H31 [w26, w27] H25) → J29 [w32] H31) →
Bin .num .shr w16 w27 fun v34 =>
Bin .num .rem v34 (Value.int .i64 2) fun v35 =>
Bin .num .eql v35 (Value.int .i64 1) fun v36 =>
Br v36 (
JE J29 [w26] H25) (
ConvI .u64 w16 fun v37 =>
CallF Try.prog g 47 #[a0, v37, w27] H25 (fun v38 H39 =>
Ext 0 v38 fun v40 =>
Ext 1 v38 fun v41 =>
IAddr 1 (x4.2 b8) w16 fun v42 =>
Ld H39 v42 fun v43 =>
IAddr 1 v43 w27 fun v44 =>
St 1 H39 v44 v40 fun H45 =>
Bin .num .lss w26 (Value.int .i64 0) fun v46 =>
Grp v46 false (fun t47 =>
Bin .num .shl (Value.int .i64 1) w27 fun v48 =>
Bin .num .add w16 v48 fun v49 =>
IAddr 1 v6 v49 fun v50 =>
Ld H45 v50 fun v51 =>
Bin .num .add v40 v51 fun v52 =>
Bin .num .lss v52 w26 fun v53 =>
(H45 = H45 ∧ v53 = Value.bool t47)) (fun t47 => (Value.bool true) = Value.bool t47) fun t47 => ∀ gs54 : Fr,
Br (Value.bool t47) (
Bin .num .shl (Value.int .i64 1) w27 fun v55 =>
Bin .num .add w16 v55 fun v56 =>
IAddr 1 v6 v56 fun v57 =>
Ld H45 v57 fun v58 =>
Bin .num .add v40 v58 fun v59 =>
JE J29 [v59] H45) (
JE J29 [w26] H45)) (PanR R))) (
IAddr 1 v6 w16 fun v60 =>
St 1 H25 v60 w26 fun H61 =>
Bin .num .sub w16 (Value.int .i64 1) fun v62 =>
Back I12 m13 [v62] H61 [w16] H15)) (
R (.returned (.tuple #[v6, (x4.2 b8)])) H15)
theorem L30_eq (g : Gh) (a0 a1 : Value) (H : Hp) (R : Ending → Hp → Prop) : denF Try.prog g Try.f30 (.h 0 [] [] .e (.h 0 [] [] (.h 1 [] [] (.h 0 [0] [] (.h 0 [1] [] (.h 0 [3] [] (.h 0 [4] [] (.h 1 [5] [] (.h 0 [2] [] (.h 0 [6] [] (.h 0 [5] [] (.h 0 [7] [] .e .e) .e) .e) .e) .e) .e) .e) .e) .e) .e) (.h 0 [] [] (.h 0 [] [] .e (.h 0 [] [] (.h 0 [8] [0, 1, 6, 7] (.h 0 [] [] .e (.h 0 [] [] (.h 0 [] [] (.h 0 [] [] .e (.h 0 [] [] .e (.h 0 [] [] (.h 0 [] [] .e (.h 0 [] [] (.h 0 [9, 10] [0, 1, 6, 7, 8] (.h 0 [] [] .e (.h 1 [9] [0, 1, 6, 7, 8, 10] (.h 0 [] [] (.h 0 [] [] .e (.h 0 [] [] .e (.h 0 [] [] .e (.h 0 [] [] (.h 0 [] [1] .e .e) .e)))) .e) .e)) .e) .e)) .e))) .e) .e)) .e) .e)) .e))) [a0, a1] H R = L30 g a0 a1 H R := by kernel_rfl
theorem L30_sound {g : Gh} {a0 a1 : Value} {H : Hp} {R : Ending → Hp → Prop} (h : L30 g a0 a1 H R) : SCalls Try.prog g 30 #[a0, a1] H R :=
  denF_sound (fn := Try.f30) (hn := (.h 0 [] [] .e (.h 0 [] [] (.h 1 [] [] (.h 0 [0] [] (.h 0 [1] [] (.h 0 [3] [] (.h 0 [4] [] (.h 1 [5] [] (.h 0 [2] [] (.h 0 [6] [] (.h 0 [5] [] (.h 0 [7] [] .e .e) .e) .e) .e) .e) .e) .e) .e) .e) .e) (.h 0 [] [] (.h 0 [] [] .e (.h 0 [] [] (.h 0 [8] [0, 1, 6, 7] (.h 0 [] [] .e (.h 0 [] [] (.h 0 [] [] (.h 0 [] [] .e (.h 0 [] [] .e (.h 0 [] [] (.h 0 [] [] .e (.h 0 [] [] (.h 0 [9, 10] [0, 1, 6, 7, 8] (.h 0 [] [] .e (.h 1 [9] [0, 1, 6, 7, 8, 10] (.h 0 [] [] (.h 0 [] [] .e (.h 0 [] [] .e (.h 0 [] [] .e (.h 0 [] [] (.h 0 [] [1] .e .e) .e)))) .e) .e)) .e) .e)) .e))) .e) .e)) .e) .e)) .e)))) Try.func30 (by rw [L30_eq]; exact h)
/-- math.bits.Len64 -/
def L31 (g : Gh) (a0 : Value) (H : Hp) (R : Ending → Hp → Prop) : Prop :=
∀ J1 : List Value → Hp → Prop, (∀ w4 w5 : Value, ∀ H3 : Hp, (∀ gs2 : Fr,
∀ J6 : List Value → Hp → Prop, (∀ w9 w10 : Value, ∀ H8 : Hp, (∀ gs7 : Fr,
∀ J11 : List Value → Hp → Prop, (∀ w14 w15 : Value, ∀ H13 : Hp, (∀ gs12 : Fr,
ConvI .u8 w14 fun v16 =>
StrIx (.string (ByteArray.mk #[0, 1, 2, 2, 3, 3, 3, 3, 4, 4, 4, 4, 4, 4, 4, 4, 5, 5, 5, 5, 5, 5, 5, 5, 5, 5, 5, 5, 5, 5, 5, 5, 6, 6, 6, 6, 6, 6, 6, 6, 6, 6, 6, 6, 6, 6, 6, 6, 6, 6, 6, 6, 6, 6, 6, 6, 6, 6, 6, 6, 6, 6, 6, 6, 7, 7, 7, 7, 7, 7, 7, 7, 7, 7, 7, 7, 7, 7, 7, 7, 7, 7, 7, 7, 7, 7, 7, 7, 7, 7, 7, 7, 7, 7, 7, 7, 7, 7, 7, 7, 7, 7, 7, 7, 7, 7, 7, 7, 7, 7, 7, 7, 7, 7, 7, 7, 7, 7, 7, 7, 7, 7, 7, 7, 7, 7, 7, 7, 8, 8, 8, 8, 8, 8, 8, 8, 8, 8, 8, 8, 8, 8, 8, 8, 8, 8, 8, 8, 8, 8, 8, 8, 8, 8, 8, 8, 8, 8, 8, 8, 8, 8, 8, 8, 8, 8, 8, 8, 8, 8, 8, 8, 8, 8, 8, 8, 8, 8, 8, 8, 8, 8, 8, 8, 8, 8, 8, 8, 8, 8, 8, 8, 8, 8, 8, 8, 8, 8, 8, 8, 8, 8, 8, 8, 8, 8, 8, 8, 8, 8, 8, 8, 8, 8, 8, 8, 8, 8, 8, 8, 8, 8, 8, 8, 8, 8, 8, 8, 8, 8, 8, 8, 8, 8, 8, 8, 8, 8, 8, 8, 8, 8, 8, 8, 8, 8, 8, 8, 8, 8, 8, 8, 8, 8, 8, 8])) v16 fun v17 =>
ConvI .i64 v17 fun v18 =>
Bin .num .add w15 v18 fun v19 =>
R (.returned v19) H13) → J11 [w14, w15] H13) →
Bin .num .geq w9 (Value.int .u64 256) fun v20 =>
Br v20 (
Bin .num .shr w9 (Value.int .u64 8) fun v21 =>
Bin .num .add w10 (Value.int .i64 8) fun v22 =>
JE J11 [v21, v22] H8) (
JE J11 [w9, w10] H8)) → J6 [w9, w10] H8) →
Bin .num .geq w4 (Value.int .u64 65536) fun v23 =>
Br v23 (
Bin .num .shr w4 (Value.int .u64 16) fun v24 =>
Bin .num .add w5 (Value.int .i64 16) fun v25 =>
JE J6 [v24, v25] H3) (
JE J6 [w4, w5] H3)) → J1 [w4, w5] H3) →
Bin .num .geq a0 (Value.int .u64 4294967296) fun v26 =>
Br v26 (
Bin .num .shr a0 (Value.int .u64 32) fun v27 =>
JE J1 [v27, (Value.int .i64 32)] H) (
JE J1 [a0, (Value.int .i64 0)] H)
theorem L31_eq (g : Gh) (a0 : Value) (H : Hp) (R : Ending → Hp → Prop) : denF Try.prog g Try.f31 (.h 0 [] [] .e (.h 1 [0, 2] [] .e (.h 1 [0, 2] [] .e (.h 1 [0, 2] [] .e .e)))) [a0] H R = L31 g a0 H R := by kernel_rfl
theorem L31_sound {g : Gh} {a0 : Value} {H : Hp} {R : Ending → Hp → Prop} (h : L31 g a0 H R) : SCalls Try.prog g 31 #[a0] H R :=
  denF_sound (fn := Try.f31) (hn := (.h 0 [] [] .e (.h 1 [0, 2] [] .e (.h 1 [0, 2] [] .e (.h 1 [0, 2] [] .e .e))))) Try.func31 (by rw [L31_eq]; exact h)
/-- thicket.heap.New[int] -/
def L32 (g : Gh) (H : Hp) (R : Ending → Hp → Prop) : Prop :=
Build Try.prog 92 [] fun v1 =>
New H (.cells (Value.cells v1) 92 (0, 0)) fun b2 H3 =>
R (.returned (.pointer (some ⟨b2, 0, none⟩))) H3
theorem L32_eq (g : Gh) (H : Hp) (R : Ending → Hp → Prop) : denF Try.prog g Try.f32 .e [] H R = L32 g H R := by kernel_rfl
theorem L32_sound {g : Gh} {H : Hp} {R : Ending → Hp → Prop} (h : L32 g H R) : SCalls Try.prog g 32 #[] H R :=
  denF_sound (fn := Try.f32) (hn := .e) Try.func32 (by rw [L32_eq]; exact h)
/-- (*thicket.heap.Heap[int]).Push -/
def L33 (g : Gh) (a0 a1 a2 : Value) (H : Hp) (R : Ending → Hp → Prop) : Prop :=
Bin .ptr .eql a0 (.pointer none) fun v1 =>
Br v1 (
R (.returned (Value.int .i64 10)) H) (
Nil a0 fun v2 =>
FAddr 1 v2 fun v3 =>
Ld H v3 fun v4 =>
Look (.int .i64) (Value.int .i64 0) true H v4 a1 fun v5 =>
Ext 0 v5 fun v6 =>
Ext 1 v5 fun v7 =>
Br v7 (
R (.returned (Value.int .i64 11)) H) (
∀ J8 : List Value → Hp → Prop, (∀ H10 : Hp, (∀ gs9 : Fr,
Nil a0 fun v11 =>
FAddr 0 v11 fun v12 =>
Ld H10 v12 fun v13 =>
Build Try.prog 94 [(0, a1), (1, a2)] fun v14 =>
BuildSl Try.prog 90 1 [(0, v14)] H10 fun v15 H16 =>
App Try.prog 94 2 16 (.agg #[(Value.int .i64 0), (Value.int .i64 0)]) H16 v13 v15 fun v19 H20 =>
Nil a0 fun v21 =>
FAddr 0 v21 fun v22 =>
St 1 H20 v22 v19 fun H23 =>
Nil a0 fun v24 =>
FAddr 0 v24 fun v25 =>
Ld H23 v25 fun v26 =>
LenS v26 fun v27 =>
Bin .num .sub v27 (Value.int .i64 1) fun v28 =>
CallF Try.prog g 48 #[a0, v28] H23 (fun v29 H30 =>
R (.returned (Value.int .i64 0)) H30) (PanR R)) → J8 [] H10) →
Nil a0 fun v31 =>
FAddr 1 v31 fun v32 =>
Ld H v32 fun v33 =>
Bin .map .eql v33 (.map none) fun v34 =>
Br v34 (
MkMap H fun v35 H36 =>
Nil a0 fun v37 =>
FAddr 1 v37 fun v38 =>
St 1 H36 v38 v35 fun H39 =>
JE J8 [] H39) (
JE J8 [] H)))
theorem L33_eq (g : Gh) (a0 a1 a2 : Value) (H : Hp) (R : Ending → Hp → Prop) : denF Try.prog g Try.f33 (.h 0 [] [] .e (.h 0 [] [] .e (.h 0 [] [] .e (.h 1 [] [0, 1, 2] .e .e)))) [a0, a1, a2] H R = L33 g a0 a1 a2 H R := by kernel_rfl
theorem L33_sound {g : Gh} {a0 a1 a2 : Value} {H : Hp} {R : Ending → Hp → Prop} (h : L33 g a0 a1 a2 H R) : SCalls Try.prog g 33 #[a0, a1, a2] H R :=
  denF_sound (fn := Try.f33) (hn := (.h 0 [] [] .e (.h 0 [] [] .e (.h 0 [] [] .e (.h 1 [] [0, 1, 2] .e .e))))) Try.func33 (by rw [L33_eq]; exact h)
/-- (*thicket.heap.Heap[int]).Pop -/
def L34 (g : Gh) (a0 : Value) (H : Hp) (R : Ending → Hp → Prop) : Prop :=
Bin .ptr .eql a0 (.pointer none) fun v1 =>
Grp v1 false (fun t2 =>
Nil a0 fun v3 =>
FAddr 0 v3 fun v4 =>
Ld H v4 fun v5 =>
LenS v5 fun v6 =>
Bin .num .eql v6 (Value.int .i64 0) fun v7 =>
(H = H ∧ v7 = Value.bool t2)) (fun t2 => (Value.bool true) = Value.bool t2) fun t2 => ∀ gs8 : Fr,
Br (Value.bool t2) (
R (.returned (.tuple #[(Value.int .i64 0), (Value.int .i64 0), (Value.int .i64 10)])) H) (
Nil a0 fun v9 =>
FAddr 0 v9 fun v10 =>
Ld H v10 fun v11 =>
IAddr 2 v11 (Value.int .i64 0) fun v12 =>
LdA 2 H v12 fun v13 =>
New H (.cells #[(Value.int .i64 0), (Value.int .i64 0)] 94 (0, 0)) fun b14 H15 =>
St 2 H15 (.pointer (some ⟨b14, 0, none⟩)) v13 fun H16 =>
Nil a0 fun v17 =>
FAddr 0 v17 fun v18 =>
Ld H16 v18 fun v19 =>
LenS v19 fun v20 =>
Bin .num .sub v20 (Value.int .i64 1) fun v21 =>
Nil a0 fun v22 =>
FAddr 0 v22 fun v23 =>
Ld H16 v23 fun v24 =>
IAddr 2 v24 v21 fun v25 =>
LdA 2 H16 v25 fun v26 =>
New H16 (.cells #[(Value.int .i64 0), (Value.int .i64 0)] 94 (0, 0)) fun b27 H28 =>
St 2 H28 (.pointer (some ⟨b27, 0, none⟩)) v26 fun H29 =>
Nil a0 fun v30 =>
FAddr 0 v30 fun v31 =>
Ld H29 v31 fun v32 =>
SliceE 2 v32 none (some v21) fun v33 =>
Nil a0 fun v34 =>
FAddr 0 v34 fun v35 =>
St 1 H29 v35 v33 fun H36 =>
DR H36 fun R37 =>
Nil a0 fun v38 =>
FAddr 1 v38 fun v39 =>
Ld R37 v39 fun v40 =>
FAddr 0 (.pointer (some ⟨b14, 0, none⟩)) fun v41 =>
Ld R37 v41 fun v42 =>
MapDel (.int .i64) H36 v40 v42 fun H45 =>
∀ J46 : List Value → Hp → Prop, (∀ H48 : Hp, (∀ gs47 : Fr,
FAddr 0 (.pointer (some ⟨b14, 0, none⟩)) fun v49 =>
Ld H48 v49 fun v50 =>
FAddr 1 (.pointer (some ⟨b14, 0, none⟩)) fun v51 =>
Ld H48 v51 fun v52 =>
R (.returned (.tuple #[v50, v52, (Value.int .i64 0)])) H48) → J46 [] H48) →
Bin .num .gtr v21 (Value.int .i64 0) fun v53 =>
Br v53 (
LdA 2 H45 (.pointer (some ⟨b27, 0, none⟩)) fun v54 =>
CallF Try.prog g 49 #[a0, (Value.int .i64 0), v54] H45 (fun v55 H56 =>
CallF Try.prog g 50 #[a0, (Value.int .i64 0)] H56 (fun v57 H58 =>
JE J46 [] H58) (PanR R)) (PanR R)) (
JE J46 [] H45))
theorem L34_eq (g : Gh) (a0 : Value) (H : Hp) (R : Ending → Hp → Prop) : denF Try.prog g Try.f34 (.h 0 [] [] .e (.h 0 [] [] .e (.h 0 [] [] (.h 0 [] [] (.h 0 [] [1] .e .e) .e) (.h 0 [] [] .e (.h 0 [] [] .e (.h 0 [] [] .e (.h 0 [] [] .e (.h 0 [] [] (.h 0 [0, 1, 2, 3, 4, 5, 6] [] .e .e) (.h 1 [] [6] .e .e))))))))) [a0] H R = L34 g a0 H R := by kernel_rfl
theorem L34_sound {g : Gh} {a0 : Value} {H : Hp} {R : Ending → Hp → Prop} (h : L34 g a0 H R) : SCalls Try.prog g 34 #[a0] H R :=
  denF_sound (fn := Try.f34) (hn := (.h 0 [] [] .e (.h 0 [] [] .e (.h 0 [] [] (.h 0 [] [] (.h 0 [] [1] .e .e) .e) (.h 0 [] [] .e (.h 0 [] [] .e (.h 0 [] [] .e (.h 0 [] [] .e (.h 0 [] [] (.h 0 [0, 1, 2, 3, 4, 5, 6] [] .e .e) (.h 1 [] [6] .e .e)))))))))) Try.func34 (by rw [L34_eq]; exact h)
/-- (*thicket.heap.Heap[int]).Key -/
def L35 (g : Gh) (a0 a1 : Value) (H : Hp) (R : Ending → Hp → Prop) : Prop :=
Bin .ptr .eql a0 (.pointer none) fun v1 =>
Br v1 (
R (.returned (.tuple #[(Value.int .i64 0), (Value.int .i64 10)])) H) (
Nil a0 fun v2 =>
FAddr 1 v2 fun v3 =>
Ld H v3 fun v4 =>
Look (.int .i64) (Value.int .i64 0) true H v4 a1 fun v5 =>
Ext 0 v5 fun v6 =>
Ext 1 v5 fun v7 =>
Un .not v7 fun v8 =>
Br v8 (
R (.returned (.tuple #[(Value.int .i64 0), (Value.int .i64 10)])) H) (
Nil a0 fun v9 =>
FAddr 0 v9 fun v10 =>
Ld H v10 fun v11 =>
IAddr 2 v11 v6 fun v12 =>
FAddr 1 v12 fun v13 =>
Ld H v13 fun v14 =>
R (.returned (.tuple #[v14, (Value.int .i64 0)])) H))
theorem L35_eq (g : Gh) (a0 a1 : Value) (H : Hp) (R : Ending → Hp → Prop) : denF Try.prog g Try.f35 .e [a0, a1] H R = L35 g a0 a1 H R := by kernel_rfl
theorem L35_sound {g : Gh} {a0 a1 : Value} {H : Hp} {R : Ending → Hp → Prop} (h : L35 g a0 a1 H R) : SCalls Try.prog g 35 #[a0, a1] H R :=
  denF_sound (fn := Try.f35) (hn := .e) Try.func35 (by rw [L35_eq]; exact h)
/-- (*thicket.heap.Heap[int]).Move -/
def L36 (g : Gh) (a0 a1 a2 : Value) (H : Hp) (R : Ending → Hp → Prop) : Prop :=
Bin .ptr .eql a0 (.pointer none) fun v1 =>
Br v1 (
R (.returned (Value.int .i64 10)) H) (
Nil a0 fun v2 =>
FAddr 1 v2 fun v3 =>
Ld H v3 fun v4 =>
Look (.int .i64) (Value.int .i64 0) true H v4 a1 fun v5 =>
Ext 0 v5 fun v6 =>
Ext 1 v5 fun v7 =>
Un .not v7 fun v8 =>
Br v8 (
R (.returned (Value.int .i64 10)) H) (
Nil a0 fun v9 =>
FAddr 0 v9 fun v10 =>
Ld H v10 fun v11 =>
IAddr 2 v11 v6 fun v12 =>
FAddr 1 v12 fun v13 =>
St 1 H v13 a2 fun H14 =>
CallF Try.prog g 48 #[a0, v6] H14 (fun v15 H16 =>
Nil a0 fun v17 =>
FAddr 1 v17 fun v18 =>
Ld H16 v18 fun v19 =>
Look (.int .i64) (Value.int .i64 0) false H16 v19 a1 fun v20 =>
CallF Try.prog g 50 #[a0, v20] H16 (fun v21 H22 =>
R (.returned (Value.int .i64 0)) H22) (PanR R)) (PanR R)))
theorem L36_eq (g : Gh) (a0 a1 a2 : Value) (H : Hp) (R : Ending → Hp → Prop) : denF Try.prog g Try.f36 .e [a0, a1, a2] H R = L36 g a0 a1 a2 H R := by kernel_rfl
theorem L36_sound {g : Gh} {a0 a1 a2 : Value} {H : Hp} {R : Ending → Hp → Prop} (h : L36 g a0 a1 a2 H R) : SCalls Try.prog g 36 #[a0, a1, a2] H R :=
  denF_sound (fn := Try.f36) (hn := .e) Try.func36 (by rw [L36_eq]; exact h)
/-- thicket.thicketref19.part -/
def L37 (g : Gh) (a0 a1 a2 : Value) (H : Hp) (R : Ending → Hp → Prop) : Prop :=
Bin .num .eql a2 (Value.int .i64 0) fun v1 =>
Br v1 (
R (.returned (Value.int .i64 0)) H) (
∃ (I2 : List Value → Hp → Prop) (m3 : List Value → Hp → Nat), JE I2 [(Value.int .i64 (-1)), (Value.int .i64 0)] H ∧ ∀ w6 w7 : Value, ∀ H5 : Hp, I2 [w6, w7] H5 → ∀ gs4 : Fr,
Bin .num .lss w7 a1 fun v8 =>
Br v8 (
∀ J9 : List Value → Hp → Prop, (∀ w12 : Value, ∀ H11 : Hp, (∀ gs10 : Fr,
Bin .num .add w7 (Value.int .i64 1) fun v13 =>
Back I2 m3 [w12, v13] H11 [w6, w7] H5) → J9 [w12] H11) →
Bin .num .shr a2 w7 fun v14 =>
Bin .num .rem v14 (Value.int .i64 2) fun v15 =>
Bin .num .eql v15 (Value.int .i64 0) fun v16 =>
Br v16 (
JE J9 [w6] H5) (
Bin .num .shl (Value.int .i64 1) w7 fun v17 =>
Bin .num .sub a2 v17 fun v18 =>
ConvI .u64 v18 fun v19 =>
CallF Try.prog g 47 #[a0, v19, w7] H5 (fun v20 H21 =>
Ext 0 v20 fun v22 =>
Ext 1 v20 fun v23 =>
Bin .num .shl (Value.int .i64 1) w7 fun v24 =>
Bin .num .sub a2 v24 fun v25 =>
CallF Try.prog g 37 #[a0, a1, v25] H21 (fun v26 H27 =>
Bin .num .add v22 v26 fun v28 =>
Bin .num .lss w6 (Value.int .i64 0) fun v29 =>
Grp v29 false (fun t30 =>
Bin .num .lss v28 w6 fun v31 =>
(H27 = H27 ∧ v31 = Value.bool t30)) (fun t30 => (Value.bool true) = Value.bool t30) fun t30 => ∀ gs32 : Fr,
Br (Value.bool t30) (
JE J9 [v28] H27) (
JE J9 [w6] H27)) (PanR R)) (PanR R))) (
R (.returned w6) H5))
theorem L37_eq (g : Gh) (a0 a1 a2 : Value) (H : Hp) (R : Ending → Hp → Prop) : denF Try.prog g Try.f37 (.h 0 [] [] .e (.h 0 [] [] .e (.h 0 [] [] .e (.h 0 [] [] (.h 0 [] [] .e (.h 0 [] [] (.h 0 [7, 8] [0, 1, 2] (.h 0 [] [] .e (.h 1 [7] [0, 1, 2, 8] (.h 0 [] [] (.h 0 [] [] .e (.h 0 [] [] .e (.h 0 [] [] .e (.h 0 [] [] (.h 0 [] [1] .e .e) .e)))) .e) .e)) .e) .e)) .e)))) [a0, a1, a2] H R = L37 g a0 a1 a2 H R := by kernel_rfl
theorem L37_sound {g : Gh} {a0 a1 a2 : Value} {H : Hp} {R : Ending → Hp → Prop} (h : L37 g a0 a1 a2 H R) : SCalls Try.prog g 37 #[a0, a1, a2] H R :=
  denF_sound (fn := Try.f37) (hn := (.h 0 [] [] .e (.h 0 [] [] .e (.h 0 [] [] .e (.h 0 [] [] (.h 0 [] [] .e (.h 0 [] [] (.h 0 [7, 8] [0, 1, 2] (.h 0 [] [] .e (.h 1 [7] [0, 1, 2, 8] (.h 0 [] [] (.h 0 [] [] .e (.h 0 [] [] .e (.h 0 [] [] .e (.h 0 [] [] (.h 0 [] [1] .e .e) .e)))) .e) .e)) .e) .e)) .e))))) Try.func37 (by rw [L37_eq]; exact h)
/-- thicket.truth.form -/
def L38 (g : Gh) (a0 : Value) (H : Hp) (R : Ending → Hp → Prop) : Prop :=
LenS a0 fun v1 =>
∃ (I2 : List Value → Hp → Prop) (m3 : List Value → Hp → Nat), JE I2 [(Value.int .i64 0)] H ∧ ∀ w6 : Value, ∀ H5 : Hp, I2 [w6] H5 → ∀ gs4 : Fr,
Bin .num .lss w6 v1 fun v7 =>
Br v7 (
IAddr 2 a0 w6 fun v8 =>
LdA 2 H5 v8 fun v9 =>
New H5 (.cells #[(Value.int .i64 0), (.slice none 0 0)] 42 (0, 0)) fun b10 H11 =>
St 2 H11 (.pointer (some ⟨b10, 0, none⟩)) v9 fun H12 =>
∀ J13 : List Value → Hp → Prop, (∀ w16 : Value, ∀ H15 : Hp, (∀ gs14 : Fr,
Br w16 (
R (.returned (Value.bool false)) H15) (
Bin .num .add w6 (Value.int .i64 1) fun v17 =>
Back I2 m3 [v17] H15 [w6] H5)) → J13 [w16] H15) →
DR H12 fun R18 =>
LdA 2 R18 (.pointer (some ⟨b10, 0, none⟩)) fun v19 =>
∀ F20 : Hp,
CallF Try.prog (g.add F20) 51 #[v19] H12 (fun v21 H22 =>
Ent H22 R18 ∧
Un .not v21 fun v23 =>
Br v23 (
JE J13 [(Value.bool true)] H22) (
FAddr 0 (.pointer (some ⟨b10, 0, none⟩)) fun v24 =>
Ld R18 v24 fun v25 =>
IAddr 2 a0 (Value.int .i64 0) fun v26 =>
FAddr 0 v26 fun v27 =>
Ld R18 v27 fun v28 =>
Bin .num .neq v25 v28 fun v29 =>
Pick (Value.bool false) (Value.bool true) v29 fun v30 =>
JE J13 [v30] H22)) NoKP) (
R (.returned (Value.bool true)) H5)
theorem L38_eq (g : Gh) (a0 : Value) (H : Hp) (R : Ending → Hp → Prop) : denF Try.prog g Try.f38 (.h 0 [] [] .e (.h 0 [] [] (.h 0 [] [] .e (.h 0 [] [] (.h 0 [7] [0, 5, 6] (.h 0 [] [] .e (.h 0 [] [] .e (.h 0 [] [] (.h 0 [] [] (.h 0 [] [] .e (.h 1 [22] [0, 5, 6, 7] (.h 1 [] [] (.h 0 [0] [] (.h 0 [1] [] (.h 0 [2] [] (.h 2 [3] [] (.h 0 [4] [] (.h 0 [5] [] (.h 0 [6] [] (.h 0 [7] [] (.h 0 [8] [] (.h 0 [9] [] (.h 0 [10] [] (.h 3 [11] [] .e .e) .e) .e) .e) .e) .e) .e) .e) (.h 0 [4] [] (.h 0 [5] [] (.h 0 [6] [] (.h 0 [7] [] (.h 0 [8] [] (.h 0 [9] [] (.h 0 [10] [] (.h 0 [11] [] .e .e) .e) .e) .e) .e) .e) .e) .e)) .e) .e) .e) .e) .e)) .e) .e))) .e) .e)) .e)) [a0] H R = L38 g a0 H R := by kernel_rfl
theorem L38_sound {g : Gh} {a0 : Value} {H : Hp} {R : Ending → Hp → Prop} (h : L38 g a0 H R) : SCalls Try.prog g 38 #[a0] H R :=
  denF_sound (fn := Try.f38) (hn := (.h 0 [] [] .e (.h 0 [] [] (.h 0 [] [] .e (.h 0 [] [] (.h 0 [7] [0, 5, 6] (.h 0 [] [] .e (.h 0 [] [] .e (.h 0 [] [] (.h 0 [] [] (.h 0 [] [] .e (.h 1 [22] [0, 5, 6, 7] (.h 1 [] [] (.h 0 [0] [] (.h 0 [1] [] (.h 0 [2] [] (.h 2 [3] [] (.h 0 [4] [] (.h 0 [5] [] (.h 0 [6] [] (.h 0 [7] [] (.h 0 [8] [] (.h 0 [9] [] (.h 0 [10] [] (.h 3 [11] [] .e .e) .e) .e) .e) .e) .e) .e) .e) (.h 0 [4] [] (.h 0 [5] [] (.h 0 [6] [] (.h 0 [7] [] (.h 0 [8] [] (.h 0 [9] [] (.h 0 [10] [] (.h 0 [11] [] .e .e) .e) .e) .e) .e) .e) .e) .e)) .e) .e) .e) .e) .e)) .e) .e))) .e) .e)) .e))) Try.func38 (by rw [L38_eq]; exact h)
/-- thicket.truth.laid -/
def L39 (g : Gh) (a0 a1 : Value) (H : Hp) (R : Ending → Hp → Prop) : Prop :=
New H (.cells #[(Value.int .i64 0), (.slice none 0 0)] 42 (0, 0)) fun b1 H2 =>
CallF Try.prog g 52 #[a0] H2 (fun v3 H4 =>
MkSlice 33 1 8 (Value.int .u64 0) H4 v3 v3 fun v5 H6 =>
Build Try.prog 42 [(0, a0), (1, v5)] fun v7 =>
New H6 (.cells #[(Value.int .i64 0), (.slice none 0 0)] 42 (0, 0)) fun b8 H9 =>
St 2 H9 (.pointer (some ⟨b8, 0, none⟩)) v7 fun H10 =>
FAddr 1 (.pointer (some ⟨b8, 0, none⟩)) fun v11 =>
Ld H10 v11 fun v12 =>
LenS v12 fun v13 =>
∃ (I14 : List Value → Hp → Prop) (m15 : List Value → Hp → Nat), JE I14 [(Value.int .i64 0)] H10 ∧ ∀ w18 : Value, ∀ H17 : Hp, I14 [w18] H17 → ∀ gs16 : Fr,
Bin .num .lss w18 v13 fun v19 =>
Br v19 (
DR H17 fun R20 =>
FAddr 1 (.pointer (some ⟨b8, 0, none⟩)) fun v21 =>
Ld R20 v21 fun v22 =>
CallV Try.prog g a1 #[w18] H17 (fun v23 H24 =>
Ent H24 R20 ∧
CallF Try.prog g 53 #[a0] H24 (fun v25 H26 =>
Ent H26 R20 ∧
Bin .num .and v23 v25 fun v27 =>
IAddr 1 v22 w18 fun v28 =>
St 1 H26 v28 v27 fun H29 =>
Bin .num .add w18 (Value.int .i64 1) fun v30 =>
Back I14 m15 [v30] H29 [w18] H17) NoKP) NoKP) (
LdA 2 H17 (.pointer (some ⟨b8, 0, none⟩)) fun v31 =>
St 2 H17 (.pointer (some ⟨b1, 0, none⟩)) v31 fun H32 =>
LdA 2 H32 (.pointer (some ⟨b1, 0, none⟩)) fun v33 =>
R (.returned v33) H32)) (PanR R)
theorem L39_eq (g : Gh) (a0 a1 : Value) (H : Hp) (R : Ending → Hp → Prop) : denF Try.prog g Try.f39 (.h 0 [] [] .e (.h 0 [] [] .e (.h 0 [] [] (.h 0 [] [] .e (.h 0 [] [] (.h 0 [15] [0, 1, 4, 5, 14] (.h 0 [] [] .e (.h 0 [] [] .e (.h 0 [] [] (.h 0 [] [] (.h 0 [] [] .e (.h 0 [0, 1, 2, 3, 4, 6, 5, 7, 8, 9, 10] [] .e .e)) .e) .e))) .e) .e)) .e))) [a0, a1] H R = L39 g a0 a1 H R := by kernel_rfl
theorem L39_sound {g : Gh} {a0 a1 : Value} {H : Hp} {R : Ending → Hp → Prop} (h : L39 g a0 a1 H R) : SCalls Try.prog g 39 #[a0, a1] H R :=
  denF_sound (fn := Try.f39) (hn := (.h 0 [] [] .e (.h 0 [] [] .e (.h 0 [] [] (.h 0 [] [] .e (.h 0 [] [] (.h 0 [15] [0, 1, 4, 5, 14] (.h 0 [] [] .e (.h 0 [] [] .e (.h 0 [] [] (.h 0 [] [] (.h 0 [] [] .e (.h 0 [0, 1, 2, 3, 4, 6, 5, 7, 8, 9, 10] [] .e .e)) .e) .e))) .e) .e)) .e)))) Try.func39 (by rw [L39_eq]; exact h)
/-- thicket.truth.Not$1 -/
def L40 (g : Gh) (a0 a1 : Value) (H : Hp) (R : Ending → Hp → Prop) : Prop :=
FAddr 1 a1 fun v1 =>
Ld H v1 fun v2 =>
IAddr 1 v2 a0 fun v3 =>
Ld H v3 fun v4 =>
Un .xor v4 fun v5 =>
R (.returned v5) H
theorem L40_eq (g : Gh) (a0 a1 : Value) (H : Hp) (R : Ending → Hp → Prop) : denF Try.prog g Try.f40 .e [a0, a1] H R = L40 g a0 a1 H R := by kernel_rfl
theorem L40_sound {g : Gh} {a0 a1 : Value} {H : Hp} {R : Ending → Hp → Prop} (h : L40 g a0 a1 H R) : SCalls Try.prog g 40 #[a0, a1] H R :=
  denF_sound (fn := Try.f40) (hn := .e) Try.func40 (by rw [L40_eq]; exact h)
/-- thicket.truth.Renamed$1 -/
def L41 (g : Gh) (a0 : Value) (H : Hp) (R : Ending → Hp → Prop) : Prop :=
R (.returned (Value.int .u64 0)) H
theorem L41_eq (g : Gh) (a0 : Value) (H : Hp) (R : Ending → Hp → Prop) : denF Try.prog g Try.f41 .e [a0] H R = L41 g a0 H R := by kernel_rfl
theorem L41_sound {g : Gh} {a0 : Value} {H : Hp} {R : Ending → Hp → Prop} (h : L41 g a0 H R) : SCalls Try.prog g 41 #[a0] H R :=
  denF_sound (fn := Try.f41) (hn := .e) Try.func41 (by rw [L41_eq]; exact h)
/-- thicket.shape.Profile -/
def L42 (g : Gh) (a0 a1 : Value) (H : Hp) (R : Ending → Hp → Prop) : Prop :=
CallF Try.prog g 54 #[a0] H (fun v1 H2 =>
Un .not v1 fun v3 =>
Br v3 (
R (.returned (.tuple #[(.slice none 0 0), (Value.int .i64 5)])) H2) (
∀ J4 : List Value → Hp → Prop, (∀ w7 : Value, ∀ H6 : Hp, (∀ gs5 : Fr,
Br w7 (
R (.returned (.tuple #[(.slice none 0 0), (Value.int .i64 4)])) H6) (
LenS a1 fun v8 =>
Bin .num .gtr v8 (Value.int .i64 16) fun v9 =>
Br v9 (
R (.returned (.tuple #[(.slice none 0 0), (Value.int .i64 6)])) H6) (
CallF Try.prog g 56 #[a0] H6 (fun v10 H11 =>
LenS a1 fun v12 =>
∃ (I13 : List Value → Hp → Prop) (m14 : List Value → Hp → Nat), JE I13 [(.slice none 0 0), v10, (Value.int .i64 0)] H11 ∧ ∀ w17 w18 w19 : Value, ∀ H16 : Hp, I13 [w17, w18, w19] H16 → ∀ gs15 : Fr,
Bin .num .lss w19 v12 fun v20 =>
Br v20 (
IAddr 1 a1 w19 fun v21 =>
Ld H16 v21 fun v22 =>
CallF Try.prog g 57 #[w18, v22] H16 (fun v23 H24 =>
Ext 0 v23 fun v25 =>
Ext 1 v23 fun v26 =>
BuildSl Try.prog 25 1 [(0, v26)] H24 fun v27 H28 =>
App Try.prog 3 1 8 (Value.int .i64 0) H28 w17 v27 fun v31 H32 =>
Bin .num .add w19 (Value.int .i64 1) fun v33 =>
Back I13 m14 [v31, v25, v33] H32 [w17, w18, w19] H16) (PanR R)) (
R (.returned (.tuple #[w17, (Value.int .i64 0)])) H16)) (PanR R)))) → J4 [w7] H6) →
LenS a0 fun v34 =>
Bin .num .gtr v34 (Value.int .i64 0) fun v35 =>
Split v35 true (
LenS a1 fun v36 =>
IAddr 2 a0 (Value.int .i64 0) fun v37 =>
FAddr 0 v37 fun v38 =>
Ld H2 v38 fun v39 =>
Bin .num .neq v36 v39 fun v40 =>
Pick (Value.bool true) v40 (Value.bool false) fun v41 =>
Split v41 false (
CallF Try.prog g 55 #[a1] H2 (fun v42 H43 =>
Bin .num .eql v42 (Value.int .i64 4) fun v44 =>
Pick (Value.bool false) (Value.bool true) v44 fun v45 =>
JE J4 [v45] H43) (PanR R)) (
Pick (Value.bool true) (Value.bool true) undef fun v46 =>
JE J4 [v46] H2)) (
Pick (Value.bool false) undef (Value.bool false) fun v47 =>
CallF Try.prog g 55 #[a1] H2 (fun v48 H49 =>
Bin .num .eql v48 (Value.int .i64 4) fun v50 =>
Pick v47 (Value.bool true) v50 fun v51 =>
JE J4 [v51] H49) (PanR R)))) (PanR R)
theorem L42_eq (g : Gh) (a0 a1 : Value) (H : Hp) (R : Ending → Hp → Prop) : denF Try.prog g Try.f42 (.h 0 [] [] .e (.h 0 [] [] .e (.h 0 [] [] (.h 1 [31] [0, 1] .e .e) (.h 0 [] [] .e (.h 0 [] [] .e (.h 0 [] [] .e (.h 0 [] [] (.h 0 [] [] .e (.h 0 [] [] (.h 0 [6, 7, 39] [37, 38] .e .e) .e)) .e))))))) [a0, a1] H R = L42 g a0 a1 H R := by kernel_rfl
theorem L42_sound {g : Gh} {a0 a1 : Value} {H : Hp} {R : Ending → Hp → Prop} (h : L42 g a0 a1 H R) : SCalls Try.prog g 42 #[a0, a1] H R :=
  denF_sound (fn := Try.f42) (hn := (.h 0 [] [] .e (.h 0 [] [] .e (.h 0 [] [] (.h 1 [31] [0, 1] .e .e) (.h 0 [] [] .e (.h 0 [] [] .e (.h 0 [] [] .e (.h 0 [] [] (.h 0 [] [] .e (.h 0 [] [] (.h 0 [6, 7, 39] [37, 38] .e .e) .e)) .e)))))))) Try.func42 (by rw [L42_eq]; exact h)
/-- thicket.thicketref05.Words -/
def L43 (g : Gh) (a0 : Value) (H : Hp) (R : Ending → Hp → Prop) : Prop :=
Bin .num .leq a0 (Value.int .i64 6) fun v1 =>
Br v1 (
R (.returned (Value.int .i64 1)) H) (
Bin .num .sub a0 (Value.int .i64 6) fun v2 =>
Bin .num .shl (Value.int .i64 1) v2 fun v3 =>
R (.returned v3) H)
theorem L43_eq (g : Gh) (a0 : Value) (H : Hp) (R : Ending → Hp → Prop) : denF Try.prog g Try.f43 .e [a0] H R = L43 g a0 H R := by kernel_rfl
theorem L43_sound {g : Gh} {a0 : Value} {H : Hp} {R : Ending → Hp → Prop} (h : L43 g a0 H R) : SCalls Try.prog g 43 #[a0] H R :=
  denF_sound (fn := Try.f43) (hn := .e) Try.func43 (by rw [L43_eq]; exact h)
/-- thicket.shape.Pairs -/
def L44 (g : Gh) (a0 : Value) (H : Hp) (R : Ending → Hp → Prop) : Prop :=
CallF Try.prog g 54 #[a0] H (fun v1 H2 =>
Un .not v1 fun v3 =>
Br v3 (
R (.returned (.tuple #[(.slice none 0 0), (Value.int .i64 5)])) H2) (
LenS a0 fun v4 =>
Bin .num .eql v4 (Value.int .i64 0) fun v5 =>
Br v5 (
R (.returned (.tuple #[(.slice none 0 0), (Value.int .i64 0)])) H2) (
IAddr 2 a0 (Value.int .i64 0) fun v6 =>
FAddr 0 v6 fun v7 =>
Ld H2 v7 fun v8 =>
MkSlice 33 1 8 (Value.int .u64 0) H2 v8 v8 fun v9 H10 =>
LenS a0 fun v11 =>
∃ (I12 : List Value → Hp → Prop) (m13 : List Value → Hp → Nat), JE I12 [(Value.int .i64 0)] H10 ∧ ∀ w16 : Value, ∀ H15 : Hp, I12 [w16] H15 → ∀ gs14 : Fr,
Bin .num .lss w16 v11 fun v17 =>
Br v17 (
IAddr 2 a0 w16 fun v18 =>
LdA 2 H15 v18 fun v19 =>
New H15 (.cells #[(Value.int .i64 0), (.slice none 0 0)] 42 (0, 0)) fun b20 H21 =>
St 2 H21 (.pointer (some ⟨b20, 0, none⟩)) v19 fun H22 =>
LdA 2 H22 (.pointer (some ⟨b20, 0, none⟩)) fun v23 =>
CallF Try.prog g 45 #[v23] H22 (fun v24 H25 =>
Ext 0 v24 fun v26 =>
Ext 1 v24 fun v27 =>
LenS v9 fun v28 =>
∃ (I29 : List Value → Hp → Prop) (m30 : List Value → Hp → Nat), JE I29 [(Value.int .i64 0)] H25 ∧ ∀ w33 : Value, ∀ H32 : Hp, I29 [w33] H32 → ∀ gs31 : Fr,
Bin .num .lss w33 v28 fun v34 =>
Br v34 (
∀ J35 : List Value → Hp → Prop, (∀ H37 : Hp, (∀ gs36 : Fr,
Bin .num .add w33 (Value.int .i64 1) fun v38 =>
Back I29 m30 [v38] H37 [w33] H32) → J35 [] H37) →
Bin .num .shr v26 w33 fun v39 =>
Bin .num .and v39 (Value.int .u64 1) fun v40 =>
Bin .num .eql v40 (Value.int .u64 1) fun v41 =>
Br v41 (
DR H32 fun R42 =>
IAddr 1 v9 w33 fun v43 =>
Ld R42 v43 fun v44 =>
Bin .num .shl (Value.int .u64 1) w33 fun v45 =>
Bin .num .andNot v26 v45 fun v46 =>
Bin .num .or v44 v46 fun v47 =>
IAddr 1 v9 w33 fun v48 =>
St 1 H32 v48 v47 fun H49 =>
JE J35 [] H49) (
JE J35 [] H32)) (
Bin .num .add w16 (Value.int .i64 1) fun v50 =>
Back I12 m13 [v50] H32 [w16] H15)) (PanR R)) (
R (.returned (.tuple #[v9, (Value.int .i64 0)])) H15)))) (PanR R)
theorem L44_eq (g : Gh) (a0 : Value) (H : Hp) (R : Ending → Hp → Prop) : denF Try.prog g Try.f44 (.h 0 [] [] .e (.h 0 [] [] .e (.h 0 [] [] .e (.h 0 [] [] .e (.h 0 [] [] (.h 0 [] [] .e (.h 0 [] [] (.h 0 [23] [4, 21, 22] (.h 0 [] [] .e (.h 0 [] [] .e (.h 0 [] [] (.h 0 [] [] (.h 0 [] [] .e (.h 0 [] [] .e (.h 0 [] [] .e (.h 0 [] [] (.h 0 [34] [4, 7, 21, 22, 23, 33] (.h 0 [] [] .e (.h 0 [] [] .e (.h 1 [] [4, 7, 21, 22, 23, 33, 34] (.h 0 [] [] (.h 0 [] [] .e (.h 0 [] [] .e (.h 0 [] [] (.h 0 [0, 1, 2, 3, 4, 5, 6, 7, 8, 9, 10] [] .e .e) .e))) .e) .e))) .e) .e)))) .e) .e))) .e) .e)) .e))))) [a0] H R = L44 g a0 H R := by kernel_rfl
theorem L44_sound {g : Gh} {a0 : Value} {H : Hp} {R : Ending → Hp → Prop} (h : L44 g a0 H R) : SCalls Try.prog g 44 #[a0] H R :=
  denF_sound (fn := Try.f44) (hn := (.h 0 [] [] .e (.h 0 [] [] .e (.h 0 [] [] .e (.h 0 [] [] .e (.h 0 [] [] (.h 0 [] [] .e (.h 0 [] [] (.h 0 [23] [4, 21, 22] (.h 0 [] [] .e (.h 0 [] [] .e (.h 0 [] [] (.h 0 [] [] (.h 0 [] [] .e (.h 0 [] [] .e (.h 0 [] [] .e (.h 0 [] [] (.h 0 [34] [4, 7, 21, 22, 23, 33] (.h 0 [] [] .e (.h 0 [] [] .e (.h 1 [] [4, 7, 21, 22, 23, 33, 34] (.h 0 [] [] (.h 0 [] [] .e (.h 0 [] [] .e (.h 0 [] [] (.h 0 [0, 1, 2, 3, 4, 5, 6, 7, 8, 9, 10] [] .e .e) .e))) .e) .e))) .e) .e)))) .e) .e))) .e) .e)) .e)))))) Try.func44 (by rw [L44_eq]; exact h)
/-- thicket.truth.Support -/
def L45 (g : Gh) (a0 : Value) (H : Hp) (R : Ending → Hp → Prop) : Prop :=
New H (.cells (Value.cells a0) 42 (0, 0)) fun b1 H2 =>
LdA 2 H2 (.pointer (some ⟨b1, 0, none⟩)) fun v3 =>
BuildSl Try.prog 22 1 [(0, v3)] H2 fun v4 H5 =>
CallF Try.prog g 38 #[v4] H5 (fun v6 H7 =>
Un .not v6 fun v8 =>
Br v8 (
R (.returned (.tuple #[(Value.int .u64 0), (Value.int .i64 5)])) H7) (
FAddr 0 (.pointer (some ⟨b1, 0, none⟩)) fun v9 =>
Ld H7 v9 fun v10 =>
∃ (I11 : List Value → Hp → Prop) (m12 : List Value → Hp → Nat), JE I11 [(Value.int .u64 0), (Value.int .i64 0)] H7 ∧ ∀ w15 w16 : Value, ∀ H14 : Hp, I11 [w15, w16] H14 → ∀ gs13 : Fr,
Bin .num .lss w16 v10 fun v17 =>
Br v17 (
∀ J18 : List Value → Hp → Prop, (∀ w21 : Value, ∀ H20 : Hp, (∀ gs19 : Fr,
Bin .num .add w16 (Value.int .i64 1) fun v22 =>
Back I11 m12 [w21, v22] H20 [w15, w16] H14) → J18 [w21] H20) →
DR H14 fun R23 =>
LdA 2 R23 (.pointer (some ⟨b1, 0, none⟩)) fun v24 =>
LdA 2 R23 (.pointer (some ⟨b1, 0, none⟩)) fun v25 =>
CallF Try.prog g 59 #[v24, w16, (Value.bool false)] H14 (fun v26 H27 =>
Ent H27 R23 ∧
Fld 1 v26 fun v28 =>
CallF Try.prog g 59 #[v25, w16, (Value.bool true)] H27 (fun v29 H30 =>
Ent H30 R23 ∧
Fld 1 v29 fun v31 =>
CallF Try.prog g 58 #[v28, v31] H30 (fun v32 H33 =>
Ent H33 R23 ∧
Un .not v32 fun v34 =>
Br v34 (
Bin .num .shl (Value.int .u64 1) w16 fun v35 =>
Bin .num .or w15 v35 fun v36 =>
JE J18 [v36] H33) (
JE J18 [w15] H33)) NoKP) NoKP) NoKP) (
R (.returned (.tuple #[w15, (Value.int .i64 0)])) H14))) (PanR R)
theorem L45_eq (g : Gh) (a0 : Value) (H : Hp) (R : Ending → Hp → Prop) : denF Try.prog g Try.f45 (.h 0 [] [] .e (.h 0 [] [] .e (.h 0 [] [] .e (.h 0 [] [] (.h 0 [] [] .e (.h 0 [] [] (.h 0 [4, 12] [1, 11] (.h 0 [] [] .e (.h 0 [] [] .e (.h 1 [4] [1, 11, 12] (.h 0 [] [] (.h 0 [] [] .e (.h 0 [] [] (.h 0 [0, 1, 4, 5, 2, 3, 6, 7, 8, 9] [] .e .e) .e)) .e) .e))) .e) .e)) .e)))) [a0] H R = L45 g a0 H R := by kernel_rfl
theorem L45_sound {g : Gh} {a0 : Value} {H : Hp} {R : Ending → Hp → Prop} (h : L45 g a0 H R) : SCalls Try.prog g 45 #[a0] H R :=
  denF_sound (fn := Try.f45) (hn := (.h 0 [] [] .e (.h 0 [] [] .e (.h 0 [] [] .e (.h 0 [] [] (.h 0 [] [] .e (.h 0 [] [] (.h 0 [4, 12] [1, 11] (.h 0 [] [] .e (.h 0 [] [] .e (.h 1 [4] [1, 11, 12] (.h 0 [] [] (.h 0 [] [] .e (.h 0 [] [] (.h 0 [0, 1, 4, 5, 2, 3, 6, 7, 8, 9] [] .e .e) .e)) .e) .e))) .e) .e)) .e))))) Try.func45 (by rw [L45_eq]; exact h)
/-- thicket.shape.Level -/
def L46 (g : Gh) (a0 a1 a2 : Value) (H : Hp) (R : Ending → Hp → Prop) : Prop :=
CallF Try.prog g 54 #[a0] H (fun v1 H2 =>
Un .not v1 fun v3 =>
Br v3 (
R (.returned (.tuple #[(Value.int .i64 0), (Value.int .i64 5)])) H2) (
∀ J4 : List Value → Hp → Prop, (∀ w7 : Value, ∀ H6 : Hp, (∀ gs5 : Fr,
Bin .num .lss a2 (Value.int .i64 0) fun v8 =>
Grp v8 false (fun t9 =>
Bin .num .geq a2 w7 fun v10 =>
(H6 = H6 ∧ v10 = Value.bool t9)) (fun t9 => (Value.bool true) = Value.bool t9) fun t9 => ∀ gs11 : Fr,
Grp (Value.bool t9) false (fun t12 =>
Bin .num .shr a1 w7 fun v13 =>
Bin .num .neq v13 (Value.int .u64 0) fun v14 =>
(H6 = H6 ∧ v14 = Value.bool t12)) (fun t12 => (Value.bool true) = Value.bool t12) fun t12 => ∀ gs15 : Fr,
Br (Value.bool t12) (
R (.returned (.tuple #[(Value.int .i64 0), (Value.int .i64 2)])) H6) (
Bin .num .shr a1 a2 fun v16 =>
Bin .num .and v16 (Value.int .u64 1) fun v17 =>
Bin .num .eql v17 (Value.int .u64 1) fun v18 =>
Br v18 (
R (.returned (.tuple #[(Value.int .i64 0), (Value.int .i64 4)])) H6) (
CallF Try.prog g 56 #[a0] H6 (fun v19 H20 =>
∃ (I21 : List Value → Hp → Prop) (m22 : List Value → Hp → Nat), JE I21 [v19, (Value.int .i64 0)] H20 ∧ ∀ w25 w26 : Value, ∀ H24 : Hp, I21 [w25, w26] H24 → ∀ gs23 : Fr,
Bin .num .lss w26 w7 fun v27 =>
Br v27 (
∀ J28 : List Value → Hp → Prop, (∀ w31 : Value, ∀ H30 : Hp, (∀ gs29 : Fr,
Bin .num .add w26 (Value.int .i64 1) fun v32 =>
Back I21 m22 [w31, v32] H30 [w25, w26] H24) → J28 [w31] H30) →
Bin .num .shr a1 w26 fun v33 =>
Bin .num .and v33 (Value.int .u64 1) fun v34 =>
Bin .num .eql v34 (Value.int .u64 1) fun v35 =>
Br v35 (
CallF Try.prog g 57 #[w25, w26] H24 (fun v36 H37 =>
Ext 0 v36 fun v38 =>
Ext 1 v36 fun v39 =>
JE J28 [v38] H37) (PanR R)) (
JE J28 [w25] H24)) (
CallF Try.prog g 57 #[w25, a2] H24 (fun v40 H41 =>
Ext 0 v40 fun v42 =>
Ext 1 v40 fun v43 =>
R (.returned (.tuple #[v43, (Value.int .i64 0)])) H41) (PanR R))) (PanR R)))) → J4 [w7] H6) →
LenS a0 fun v44 =>
Bin .num .gtr v44 (Value.int .i64 0) fun v45 =>
Br v45 (
IAddr 2 a0 (Value.int .i64 0) fun v46 =>
FAddr 0 v46 fun v47 =>
Ld H2 v47 fun v48 =>
JE J4 [v48] H2) (
JE J4 [(Value.int .i64 16)] H2))) (PanR R)
theorem L46_eq (g : Gh) (a0 a1 a2 : Value) (H : Hp) (R : Ending → Hp → Prop) : denF Try.prog g Try.f46 (.h 0 [] [] .e (.h 0 [] [] .e (.h 0 [] [] .e (.h 1 [8] [0, 1, 2] .e (.h 0 [] [] (.h 0 [] [] (.h 0 [] [1] .e .e) .e) (.h 0 [] [] .e (.h 0 [] [] .e (.h 0 [] [] (.h 0 [] [] .e (.h 0 [] [] (.h 0 [9, 44] [1, 2, 43] (.h 0 [] [] .e (.h 0 [] [] .e (.h 1 [9] [1, 2, 43, 44] .e .e))) .e) .e)) .e)))))))) [a0, a1, a2] H R = L46 g a0 a1 a2 H R := by kernel_rfl
theorem L46_sound {g : Gh} {a0 a1 a2 : Value} {H : Hp} {R : Ending → Hp → Prop} (h : L46 g a0 a1 a2 H R) : SCalls Try.prog g 46 #[a0, a1, a2] H R :=
  denF_sound (fn := Try.f46) (hn := (.h 0 [] [] .e (.h 0 [] [] .e (.h 0 [] [] .e (.h 1 [8] [0, 1, 2] .e (.h 0 [] [] (.h 0 [] [] (.h 0 [] [1] .e .e) .e) (.h 0 [] [] .e (.h 0 [] [] .e (.h 0 [] [] (.h 0 [] [] .e (.h 0 [] [] (.h 0 [9, 44] [1, 2, 43] (.h 0 [] [] .e (.h 0 [] [] .e (.h 1 [9] [1, 2, 43, 44] .e .e))) .e) .e)) .e))))))))) Try.func46 (by rw [L46_eq]; exact h)
/-- thicket.thicketref05.DocLevel -/
def L47 (g : Gh) (a0 a1 a2 : Value) (H : Hp) (R : Ending → Hp → Prop) : Prop :=
CallF Try.prog g 60 #[a0, (Value.int .i64 16)] H (fun v1 H2 =>
Ext 0 v1 fun v3 =>
Ext 1 v1 fun v4 =>
Bin .num .neq v4 (Value.int .i64 0) fun v5 =>
Br v5 (
R (.returned (.tuple #[(Value.int .i64 0), v4])) H2) (
Bin .num .lss a2 (Value.int .i64 0) fun v6 =>
Grp v6 false (fun t7 =>
Bin .num .geq a2 v3 fun v8 =>
(H2 = H2 ∧ v8 = Value.bool t7)) (fun t7 => (Value.bool true) = Value.bool t7) fun t7 => ∀ gs9 : Fr,
Grp (Value.bool t7) false (fun t10 =>
Bin .num .shr a1 v3 fun v11 =>
Bin .num .gtr v11 (Value.int .u64 0) fun v12 =>
(H2 = H2 ∧ v12 = Value.bool t10)) (fun t10 => (Value.bool true) = Value.bool t10) fun t10 => ∀ gs13 : Fr,
Br (Value.bool t10) (
R (.returned (.tuple #[(Value.int .i64 0), (Value.int .i64 2)])) H2) (
Bin .num .shr a1 a2 fun v14 =>
Bin .num .rem v14 (Value.int .u64 2) fun v15 =>
Bin .num .eql v15 (Value.int .u64 1) fun v16 =>
Br v16 (
R (.returned (.tuple #[(Value.int .i64 0), (Value.int .i64 4)])) H2) (
CallF Try.prog g 61 #[a0] H2 (fun v17 H18 =>
∃ (I19 : List Value → Hp → Prop) (m20 : List Value → Hp → Nat), JE I19 [v17, (Value.int .i64 0)] H18 ∧ ∀ w23 w24 : Value, ∀ H22 : Hp, I19 [w23, w24] H22 → ∀ gs21 : Fr,
Bin .num .lss w24 v3 fun v25 =>
Br v25 (
∀ J26 : List Value → Hp → Prop, (∀ w29 : Value, ∀ H28 : Hp, (∀ gs27 : Fr,
Bin .num .add w24 (Value.int .i64 1) fun v30 =>
Back I19 m20 [w29, v30] H28 [w23, w24] H22) → J26 [w29] H28) →
Bin .num .shr a1 w24 fun v31 =>
Bin .num .rem v31 (Value.int .u64 2) fun v32 =>
Bin .num .eql v32 (Value.int .u64 1) fun v33 =>
Br v33 (
CallF Try.prog g 62 #[w23, w24] H22 (fun v34 H35 =>
JE J26 [v34] H35) (PanR R)) (
JE J26 [w23] H22)) (
CallF Try.prog g 63 #[w23, a2] H22 (fun v36 H37 =>
LenS v36 fun v38 =>
R (.returned (.tuple #[v38, (Value.int .i64 0)])) H37) (PanR R))) (PanR R))))) (PanR R)
theorem L47_eq (g : Gh) (a0 a1 a2 : Value) (H : Hp) (R : Ending → Hp → Prop) : denF Try.prog g Try.f47 (.h 0 [] [] .e (.h 0 [] [] .e (.h 0 [] [] (.h 0 [] [] (.h 0 [] [] .e (.h 0 [] [] .e (.h 0 [] [] (.h 0 [] [1] .e .e) .e))) .e) (.h 0 [] [] .e (.h 0 [] [] (.h 0 [] [] .e (.h 0 [] [] (.h 0 [10, 11] [1, 2, 8] (.h 0 [] [] .e (.h 1 [10] [1, 2, 8, 11] .e .e)) .e) .e)) .e))))) [a0, a1, a2] H R = L47 g a0 a1 a2 H R := by kernel_rfl
theorem L47_sound {g : Gh} {a0 a1 a2 : Value} {H : Hp} {R : Ending → Hp → Prop} (h : L47 g a0 a1 a2 H R) : SCalls Try.prog g 47 #[a0, a1, a2] H R :=
  denF_sound (fn := Try.f47) (hn := (.h 0 [] [] .e (.h 0 [] [] .e (.h 0 [] [] (.h 0 [] [] (.h 0 [] [] .e (.h 0 [] [] .e (.h 0 [] [] (.h 0 [] [1] .e .e) .e))) .e) (.h 0 [] [] .e (.h 0 [] [] (.h 0 [] [] .e (.h 0 [] [] (.h 0 [10, 11] [1, 2, 8] (.h 0 [] [] .e (.h 1 [10] [1, 2, 8, 11] .e .e)) .e) .e)) .e)))))) Try.func47 (by rw [L47_eq]; exact h)
/-- (*thicket.heap.Heap[int]).up -/
def L48 (g : Gh) (a0 a1 : Value) (H : Hp) (R : Ending → Hp → Prop) : Prop :=
Nil a0 fun v1 =>
FAddr 0 v1 fun v2 =>
Ld H v2 fun v3 =>
IAddr 2 v3 a1 fun v4 =>
LdA 2 H v4 fun v5 =>
New H (.cells #[(Value.int .i64 0), (Value.int .i64 0)] 94 (0, 0)) fun b6 H7 =>
St 2 H7 (.pointer (some ⟨b6, 0, none⟩)) v5 fun H8 =>
∃ (I9 : List Value → Hp → Prop) (m10 : List Value → Hp → Nat), JE I9 [a1] H8 ∧ ∀ w13 : Value, ∀ H12 : Hp, I9 [w13] H12 → ∀ gs11 : Fr,
∀ J14 : List Value → Hp → Prop, (∀ w17 : Value, ∀ H16 : Hp, (∀ gs15 : Fr,
Br w17 (
Nil a0 fun v18 =>
FAddr 0 v18 fun v19 =>
Ld H16 v19 fun v20 =>
Bin .num .sub w13 (Value.int .i64 1) fun v21 =>
Bin .num .quo v21 (Value.int .i64 2) fun v22 =>
IAddr 2 v20 v22 fun v23 =>
LdA 2 H16 v23 fun v24 =>
CallF Try.prog g 49 #[a0, w13, v24] H16 (fun v25 H26 =>
Bin .num .sub w13 (Value.int .i64 1) fun v27 =>
Bin .num .quo v27 (Value.int .i64 2) fun v28 =>
Back I9 m10 [v28] H26 [w13] H12) (PanR R)) (
LdA 2 H16 (.pointer (some ⟨b6, 0, none⟩)) fun v29 =>
CallF Try.prog g 49 #[a0, w13, v29] H16 (fun v30 H31 =>
R (.returned (.tuple #[])) H31) (PanR R))) → J14 [w17] H16) →
DR H12 fun R32 =>
Bin .num .gtr w13 (Value.int .i64 0) fun v33 =>
Br v33 (
LdA 2 R32 (.pointer (some ⟨b6, 0, none⟩)) fun v34 =>
Nil a0 fun v35 =>
FAddr 0 v35 fun v36 =>
Ld R32 v36 fun v37 =>
Bin .num .sub w13 (Value.int .i64 1) fun v38 =>
Bin .num .quo v38 (Value.int .i64 2) fun v39 =>
IAddr 2 v37 v39 fun v40 =>
LdA 2 R32 v40 fun v41 =>
∀ F42 : Hp,
CallF Try.prog (g.add F42) 64 #[v34, v41] H12 (fun v43 H44 =>
Ent H44 R32 ∧
Pick (Value.bool true) v43 (Value.bool false) fun v45 =>
JE J14 [v45] H44) NoKP) (
JE J14 [(Value.bool false)] H12)
theorem L48_eq (g : Gh) (a0 a1 : Value) (H : Hp) (R : Ending → Hp → Prop) : denF Try.prog g Try.f48 (.h 0 [] [] .e (.h 0 [] [] (.h 0 [] [] (.h 0 [1] [0, 4] (.h 0 [] [] (.h 1 [26] [0, 1, 4] (.h 1 [] [] (.h 0 [0] [] (.h 0 [1] [] (.h 2 [2] [] (.h 0 [3] [] (.h 0 [4] [] (.h 0 [5] [] (.h 0 [6] [] (.h 0 [7] [] (.h 0 [8] [] (.h 0 [9] [] (.h 0 [10] [] (.h 0 [11] [] (.h 0 [12] [] (.h 0 [13] [] (.h 0 [14] [] .e .e) .e) .e) .e) .e) .e) .e) .e) .e) .e) .e) .e) (.h 0 [3] [] (.h 0 [4] [] (.h 0 [5] [] (.h 0 [6] [] (.h 0 [7] [] (.h 0 [8] [] (.h 0 [9] [] (.h 0 [10] [] (.h 0 [11] [] (.h 0 [12] [] (.h 0 [13] [] (.h 3 [14] [] .e .e) .e) .e) .e) .e) .e) .e) .e) .e) .e) .e) .e)) .e) .e) .e) .e) .e) .e) .e) .e)) [a0, a1] H R = L48 g a0 a1 H R := by kernel_rfl
theorem L48_sound {g : Gh} {a0 a1 : Value} {H : Hp} {R : Ending → Hp → Prop} (h : L48 g a0 a1 H R) : SCalls Try.prog g 48 #[a0, a1] H R :=
  denF_sound (fn := Try.f48) (hn := (.h 0 [] [] .e (.h 0 [] [] (.h 0 [] [] (.h 0 [1] [0, 4] (.h 0 [] [] (.h 1 [26] [0, 1, 4] (.h 1 [] [] (.h 0 [0] [] (.h 0 [1] [] (.h 2 [2] [] (.h 0 [3] [] (.h 0 [4] [] (.h 0 [5] [] (.h 0 [6] [] (.h 0 [7] [] (.h 0 [8] [] (.h 0 [9] [] (.h 0 [10] [] (.h 0 [11] [] (.h 0 [12] [] (.h 0 [13] [] (.h 0 [14] [] .e .e) .e) .e) .e) .e) .e) .e) .e) .e) .e) .e) .e) (.h 0 [3] [] (.h 0 [4] [] (.h 0 [5] [] (.h 0 [6] [] (.h 0 [7] [] (.h 0 [8] [] (.h 0 [9] [] (.h 0 [10] [] (.h 0 [11] [] (.h 0 [12] [] (.h 0 [13] [] (.h 3 [14] [] .e .e) .e) .e) .e) .e) .e) .e) .e) .e) .e) .e) .e)) .e) .e) .e) .e) .e) .e) .e) .e))) Try.func48 (by rw [L48_eq]; exact h)
/-- (*thicket.heap.Heap[int]).put -/
def L49 (g : Gh) (a0 a1 a2 : Value) (H : Hp) (R : Ending → Hp → Prop) : Prop :=
New H (.cells (Value.cells a2) 94 (0, 0)) fun b1 H2 =>
DR H2 fun R3 =>
Nil a0 fun v4 =>
FAddr 0 v4 fun v5 =>
Ld R3 v5 fun v6 =>
LdA 2 R3 (.pointer (some ⟨b1, 0, none⟩)) fun v7 =>
IAddr 2 v6 a1 fun v8 =>
St 2 H2 v8 v7 fun H9 =>
DR H9 fun R10 =>
Nil a0 fun v11 =>
FAddr 1 v11 fun v12 =>
Ld R10 v12 fun v13 =>
FAddr 0 (.pointer (some ⟨b1, 0, none⟩)) fun v14 =>
Ld R10 v14 fun v15 =>
MapUpd (.int .i64) H9 v13 v15 a1 fun H16 =>
R (.returned (.tuple #[])) H16
theorem L49_eq (g : Gh) (a0 a1 a2 : Value) (H : Hp) (R : Ending → Hp → Prop) : denF Try.prog g Try.f49 (.h 0 [] [] .e (.h 0 [] [] (.h 0 [0, 1, 2, 3, 4, 5, 6, 7] [] .e .e) (.h 0 [0, 1, 2, 3, 4, 5, 6, 7] [] .e .e))) [a0, a1, a2] H R = L49 g a0 a1 a2 H R := by kernel_rfl
theorem L49_sound {g : Gh} {a0 a1 a2 : Value} {H : Hp} {R : Ending → Hp → Prop} (h : L49 g a0 a1 a2 H R) : SCalls Try.prog g 49 #[a0, a1, a2] H R :=
  denF_sound (fn := Try.f49) (hn := (.h 0 [] [] .e (.h 0 [] [] (.h 0 [0, 1, 2, 3, 4, 5, 6, 7] [] .e .e) (.h 0 [0, 1, 2, 3, 4, 5, 6, 7] [] .e .e)))) Try.func49 (by rw [L49_eq]; exact h)
/-- (*thicket.heap.Heap[int]).down -/
def L50 (g : Gh) (a0 a1 : Value) (H : Hp) (R : Ending → Hp → Prop) : Prop :=
Nil a0 fun v1 =>
FAddr 0 v1 fun v2 =>
Ld H v2 fun v3 =>
IAddr 2 v3 a1 fun v4 =>
LdA 2 H v4 fun v5 =>
New H (.cells #[(Value.int .i64 0), (Value.int .i64 0)] 94 (0, 0)) fun b6 H7 =>
St 2 H7 (.pointer (some ⟨b6, 0, none⟩)) v5 fun H8 =>
∃ (I9 : List Value → Hp → Prop) (m10 : List Value → Hp → Nat), JE I9 [a1] H8 ∧ ∀ w13 : Value, ∀ H12 : Hp, I9 [w13] H12 → ∀ gs11 : Fr,
Bin .num .mul (Value.int .i64 2) w13 fun v14 =>
Bin .num .add v14 (Value.int .i64 1) fun v15 =>
∀ J16 : List Value → Hp → Prop, (∀ w19 : Value, ∀ H18 : Hp, (∀ gs17 : Fr,
∀ J20 : List Value → Hp → Prop, (∀ w23 : Value, ∀ H22 : Hp, (∀ gs21 : Fr,
Br w23 (
LdA 2 H22 (.pointer (some ⟨b6, 0, none⟩)) fun v24 =>
CallF Try.prog g 49 #[a0, w13, v24] H22 (fun v25 H26 =>
R (.returned (.tuple #[])) H26) (PanR R)) (
Nil a0 fun v27 =>
FAddr 0 v27 fun v28 =>
Ld H22 v28 fun v29 =>
IAddr 2 v29 w19 fun v30 =>
LdA 2 H22 v30 fun v31 =>
CallF Try.prog g 49 #[a0, w13, v31] H22 (fun v32 H33 =>
Back I9 m10 [w19] H33 [w13] H12) (PanR R))) → J20 [w23] H22) →
DR H18 fun R34 =>
Nil a0 fun v35 =>
FAddr 0 v35 fun v36 =>
Ld R34 v36 fun v37 =>
LenS v37 fun v38 =>
Bin .num .geq w19 v38 fun v39 =>
Br v39 (
JE J20 [(Value.bool true)] H18) (
Nil a0 fun v40 =>
FAddr 0 v40 fun v41 =>
Ld R34 v41 fun v42 =>
IAddr 2 v42 w19 fun v43 =>
LdA 2 R34 v43 fun v44 =>
LdA 2 R34 (.pointer (some ⟨b6, 0, none⟩)) fun v45 =>
∀ F46 : Hp,
CallF Try.prog (g.add F46) 64 #[v44, v45] H18 (fun v47 H48 =>
Ent H48 R34 ∧
Un .not v47 fun v49 =>
Pick (Value.bool false) (Value.bool true) v49 fun v50 =>
JE J20 [v50] H48) NoKP)) → J16 [w19] H18) →
∀ J51 : List Value → Hp → Prop, (∀ w54 : Value, ∀ H53 : Hp, (∀ gs52 : Fr,
Br w54 (
Bin .num .add v15 (Value.int .i64 1) fun v55 =>
JE J16 [v55] H53) (
JE J16 [v15] H53)) → J51 [w54] H53) →
DR H12 fun R56 =>
Bin .num .add v15 (Value.int .i64 1) fun v57 =>
Nil a0 fun v58 =>
FAddr 0 v58 fun v59 =>
Ld R56 v59 fun v60 =>
LenS v60 fun v61 =>
Bin .num .lss v57 v61 fun v62 =>
Br v62 (
Nil a0 fun v63 =>
FAddr 0 v63 fun v64 =>
Ld R56 v64 fun v65 =>
Bin .num .add v15 (Value.int .i64 1) fun v66 =>
IAddr 2 v65 v66 fun v67 =>
LdA 2 R56 v67 fun v68 =>
Nil a0 fun v69 =>
FAddr 0 v69 fun v70 =>
Ld R56 v70 fun v71 =>
IAddr 2 v71 v15 fun v72 =>
LdA 2 R56 v72 fun v73 =>
∀ F74 : Hp,
CallF Try.prog (g.add F74) 64 #[v68, v73] H12 (fun v75 H76 =>
Ent H76 R56 ∧
Pick (Value.bool true) v75 (Value.bool false) fun v77 =>
JE J51 [v77] H76) NoKP) (
JE J51 [(Value.bool false)] H12)
theorem L50_eq (g : Gh) (a0 a1 : Value) (H : Hp) (R : Ending → Hp → Prop) : denF Try.prog g Try.f50 (.h 0 [] [] .e (.h 0 [] [] (.h 0 [] [] (.h 0 [1] [0, 4] (.h 0 [] [] (.h 0 [] [] .e (.h 1 [5] [0, 1, 4] (.h 1 [41] [0, 1, 4, 5] (.h 1 [] [] (.h 0 [0] [] (.h 0 [1] [] (.h 0 [2] [] (.h 0 [3] [] (.h 0 [4] [] (.h 0 [5] [] (.h 0 [6] [] (.h 0 [7] [] (.h 2 [8] [] (.h 0 [9] [] (.h 0 [10] [] (.h 0 [11] [] (.h 0 [12] [] (.h 0 [13] [] (.h 0 [14] [] (.h 0 [15] [] (.h 0 [16] [] (.h 0 [17] [] (.h 0 [18] [] (.h 0 [19] [] (.h 0 [20] [] (.h 0 [21] [] (.h 0 [22] [] (.h 0 [23] [] (.h 0 [24] [] (.h 0 [25] [] .e .e) .e) .e) .e) .e) .e) .e) .e) .e) .e) .e) .e) .e) .e) .e) .e) .e) (.h 0 [9] [] (.h 0 [10] [] (.h 0 [11] [] (.h 0 [12] [] (.h 0 [13] [] (.h 0 [14] [] (.h 0 [15] [] (.h 0 [16] [] (.h 0 [17] [] (.h 0 [18] [] (.h 0 [19] [] (.h 0 [20] [] (.h 0 [21] [] (.h 0 [22] [] (.h 0 [23] [] (.h 0 [24] [] (.h 3 [25] [] .e .e) .e) .e) .e) .e) .e) .e) .e) .e) .e) .e) .e) .e) .e) .e) .e) .e)) .e) .e) .e) .e) .e) .e) .e) .e) .e) .e) (.h 0 [] [] (.h 1 [62] [0, 1, 4, 5] (.h 1 [] [] (.h 0 [0] [] (.h 0 [1] [] (.h 0 [2] [] (.h 0 [3] [] (.h 0 [4] [] (.h 0 [5] [] (.h 0 [6] [] (.h 2 [7] [] (.h 0 [8] [] (.h 0 [9] [] (.h 0 [10] [] (.h 0 [11] [] (.h 0 [12] [] (.h 0 [13] [] (.h 0 [14] [] (.h 0 [15] [] (.h 0 [16] [] (.h 0 [17] [] (.h 3 [18] [] .e .e) .e) .e) .e) .e) .e) .e) .e) .e) .e) .e) (.h 0 [8] [] (.h 0 [9] [] (.h 0 [10] [] (.h 0 [11] [] (.h 0 [12] [] (.h 0 [13] [] (.h 0 [14] [] (.h 0 [15] [] (.h 0 [16] [] (.h 0 [17] [] (.h 0 [18] [] .e .e) .e) .e) .e) .e) .e) .e) .e) .e) .e) .e)) .e) .e) .e) .e) .e) .e) .e) .e) .e) .e))) .e) .e) .e) .e)) [a0, a1] H R = L50 g a0 a1 H R := by kernel_rfl
theorem L50_sound {g : Gh} {a0 a1 : Value} {H : Hp} {R : Ending → Hp → Prop} (h : L50 g a0 a1 H R) : SCalls Try.prog g 50 #[a0, a1] H R :=
  denF_sound (fn := Try.f50) (hn := (.h 0 [] [] .e (.h 0 [] [] (.h 0 [] [] (.h 0 [1] [0, 4] (.h 0 [] [] (.h 0 [] [] .e (.h 1 [5] [0, 1, 4] (.h 1 [41] [0, 1, 4, 5] (.h 1 [] [] (.h 0 [0] [] (.h 0 [1] [] (.h 0 [2] [] (.h 0 [3] [] (.h 0 [4] [] (.h 0 [5] [] (.h 0 [6] [] (.h 0 [7] [] (.h 2 [8] [] (.h 0 [9] [] (.h 0 [10] [] (.h 0 [11] [] (.h 0 [12] [] (.h 0 [13] [] (.h 0 [14] [] (.h 0 [15] [] (.h 0 [16] [] (.h 0 [17] [] (.h 0 [18] [] (.h 0 [19] [] (.h 0 [20] [] (.h 0 [21] [] (.h 0 [22] [] (.h 0 [23] [] (.h 0 [24] [] (.h 0 [25] [] .e .e) .e) .e) .e) .e) .e) .e) .e) .e) .e) .e) .e) .e) .e) .e) .e) .e) (.h 0 [9] [] (.h 0 [10] [] (.h 0 [11] [] (.h 0 [12] [] (.h 0 [13] [] (.h 0 [14] [] (.h 0 [15] [] (.h 0 [16] [] (.h 0 [17] [] (.h 0 [18] [] (.h 0 [19] [] (.h 0 [20] [] (.h 0 [21] [] (.h 0 [22] [] (.h 0 [23] [] (.h 0 [24] [] (.h 3 [25] [] .e .e) .e) .e) .e) .e) .e) .e) .e) .e) .e) .e) .e) .e) .e) .e) .e) .e)) .e) .e) .e) .e) .e) .e) .e) .e) .e) .e) (.h 0 [] [] (.h 1 [62] [0, 1, 4, 5] (.h 1 [] [] (.h 0 [0] [] (.h 0 [1] [] (.h 0 [2] [] (.h 0 [3] [] (.h 0 [4] [] (.h 0 [5] [] (.h 0 [6] [] (.h 2 [7] [] (.h 0 [8] [] (.h 0 [9] [] (.h 0 [10] [] (.h 0 [11] [] (.h 0 [12] [] (.h 0 [13] [] (.h 0 [14] [] (.h 0 [15] [] (.h 0 [16] [] (.h 0 [17] [] (.h 3 [18] [] .e .e) .e) .e) .e) .e) .e) .e) .e) .e) .e) .e) (.h 0 [8] [] (.h 0 [9] [] (.h 0 [10] [] (.h 0 [11] [] (.h 0 [12] [] (.h 0 [13] [] (.h 0 [14] [] (.h 0 [15] [] (.h 0 [16] [] (.h 0 [17] [] (.h 0 [18] [] .e .e) .e) .e) .e) .e) .e) .e) .e) .e) .e) .e)) .e) .e) .e) .e) .e) .e) .e) .e) .e) .e))) .e) .e) .e) .e))) Try.func50 (by rw [L50_eq]; exact h)
/-- thicket.truth.Form -/
def L51 (g : Gh) (a0 : Value) (H : Hp) (R : Ending → Hp → Prop) : Prop :=
New H (.cells (Value.cells a0) 42 (0, 0)) fun b1 H2 =>
∀ J3 : List Value → Hp → Prop, (∀ w6 : Value, ∀ H5 : Hp, (∀ gs4 : Fr,
Br w6 (
R (.returned (Value.bool false)) H5) (
DR H5 fun R7 =>
FAddr 1 (.pointer (some ⟨b1, 0, none⟩)) fun v8 =>
Ld R7 v8 fun v9 =>
FAddr 1 (.pointer (some ⟨b1, 0, none⟩)) fun v10 =>
Ld R7 v10 fun v11 =>
LenS v11 fun v12 =>
Bin .num .sub v12 (Value.int .i64 1) fun v13 =>
IAddr 1 v9 v13 fun v14 =>
Ld R7 v14 fun v15 =>
FAddr 0 (.pointer (some ⟨b1, 0, none⟩)) fun v16 =>
Ld R7 v16 fun v17 =>
CallF Try.prog g 53 #[v17] H5 (fun v18 H19 =>
Ent H19 R7 ∧
Bin .num .andNot v15 v18 fun v20 =>
Bin .num .eql v20 (Value.int .u64 0) fun v21 =>
R (.returned v21) H19) NoKP)) → J3 [w6] H5) →
DR H2 fun R22 =>
FAddr 0 (.pointer (some ⟨b1, 0, none⟩)) fun v23 =>
Ld R22 v23 fun v24 =>
Bin .num .lss v24 (Value.int .i64 0) fun v25 =>
Br v25 (
JE J3 [(Value.bool true)] H2) (
FAddr 0 (.pointer (some ⟨b1, 0, none⟩)) fun v26 =>
Ld R22 v26 fun v27 =>
Bin .num .gtr v27 (Value.int .i64 16) fun v28 =>
Pick (Value.bool false) (Value.bool true) v28 fun v29 =>
Br v29 (
JE J3 [(Value.bool true)] H2) (
FAddr 1 (.pointer (some ⟨b1, 0, none⟩)) fun v30 =>
Ld R22 v30 fun v31 =>
LenS v31 fun v32 =>
FAddr 0 (.pointer (some ⟨b1, 0, none⟩)) fun v33 =>
Ld R22 v33 fun v34 =>
∀ F35 : Hp,
CallF Try.prog (g.add F35) 52 #[v34] H2 (fun v36 H37 =>
Ent H37 R22 ∧
Bin .num .neq v32 v36 fun v38 =>
Pick (Value.bool false) (Value.bool true) v38 fun v39 =>
JE J3 [v39] H37) NoKP))
theorem L51_eq (g : Gh) (a0 : Value) (H : Hp) (R : Ending → Hp → Prop) : denF Try.prog g Try.f51 (.h 0 [] [] .e (.h 0 [] [] (.h 1 [19] [1] (.h 1 [] [] (.h 0 [0] [] (.h 0 [1] [] (.h 0 [2] [] (.h 2 [3] [] (.h 0 [4] [] (.h 0 [5] [] (.h 0 [6] [] (.h 3 [7] [] (.h 3 [8] [] (.h 0 [9] [] (.h 0 [10] [] (.h 0 [11] [] (.h 0 [12] [] (.h 0 [13] [] (.h 0 [14] [] (.h 0 [15] [] (.h 3 [16] [] .e .e) .e) .e) .e) .e) .e) .e) .e) .e) .e) .e) .e) .e) (.h 0 [4] [] (.h 0 [5] [] (.h 0 [6] [] (.h 0 [7] [] (.h 2 [8] [] (.h 0 [9] [] (.h 0 [10] [] (.h 0 [11] [] (.h 0 [12] [] (.h 0 [13] [] (.h 0 [14] [] (.h 0 [15] [] (.h 3 [16] [] .e .e) .e) .e) .e) .e) .e) .e) .e) (.h 0 [9] [] (.h 0 [10] [] (.h 0 [11] [] (.h 0 [12] [] (.h 0 [13] [] (.h 0 [14] [] (.h 0 [15] [] (.h 0 [16] [] .e .e) .e) .e) .e) .e) .e) .e) .e)) .e) .e) .e) .e)) .e) .e) .e) .e) .e) (.h 0 [] [] (.h 0 [0, 1, 2, 3, 4, 5, 6, 7, 8, 9, 10, 11, 12, 13] [] .e .e) .e))) [a0] H R = L51 g a0 H R := by kernel_rfl
theorem L51_sound {g : Gh} {a0 : Value} {H : Hp} {R : Ending → Hp → Prop} (h : L51 g a0 H R) : SCalls Try.prog g 51 #[a0] H R :=
  denF_sound (fn := Try.f51) (hn := (.h 0 [] [] .e (.h 0 [] [] (.h 1 [19] [1] (.h 1 [] [] (.h 0 [0] [] (.h 0 [1] [] (.h 0 [2] [] (.h 2 [3] [] (.h 0 [4] [] (.h 0 [5] [] (.h 0 [6] [] (.h 3 [7] [] (.h 3 [8] [] (.h 0 [9] [] (.h 0 [10] [] (.h 0 [11] [] (.h 0 [12] [] (.h 0 [13] [] (.h 0 [14] [] (.h 0 [15] [] (.h 3 [16] [] .e .e) .e) .e) .e) .e) .e) .e) .e) .e) .e) .e) .e) .e) (.h 0 [4] [] (.h 0 [5] [] (.h 0 [6] [] (.h 0 [7] [] (.h 2 [8] [] (.h 0 [9] [] (.h 0 [10] [] (.h 0 [11] [] (.h 0 [12] [] (.h 0 [13] [] (.h 0 [14] [] (.h 0 [15] [] (.h 3 [16] [] .e .e) .e) .e) .e) .e) .e) .e) .e) (.h 0 [9] [] (.h 0 [10] [] (.h 0 [11] [] (.h 0 [12] [] (.h 0 [13] [] (.h 0 [14] [] (.h 0 [15] [] (.h 0 [16] [] .e .e) .e) .e) .e) .e) .e) .e) .e)) .e) .e) .e) .e)) .e) .e) .e) .e) .e) (.h 0 [] [] (.h 0 [0, 1, 2, 3, 4, 5, 6, 7, 8, 9, 10, 11, 12, 13] [] .e .e) .e)))) Try.func51 (by rw [L51_eq]; exact h)
/-- thicket.truth.words -/
def L52 (g : Gh) (a0 : Value) (H : Hp) (R : Ending → Hp → Prop) : Prop :=
Bin .num .shl (Value.int .i64 1) a0 fun v1 =>
Bin .num .shr v1 (Value.int .u64 6) fun v2 =>
MaxI (Value.int .i64 1) v2 fun v3 =>
R (.returned v3) H
theorem L52_eq (g : Gh) (a0 : Value) (H : Hp) (R : Ending → Hp → Prop) : denF Try.prog g Try.f52 .e [a0] H R = L52 g a0 H R := by kernel_rfl
theorem L52_sound {g : Gh} {a0 : Value} {H : Hp} {R : Ending → Hp → Prop} (h : L52 g a0 H R) : SCalls Try.prog g 52 #[a0] H R :=
  denF_sound (fn := Try.f52) (hn := .e) Try.func52 (by rw [L52_eq]; exact h)
/-- thicket.truth.full -/
def L53 (g : Gh) (a0 : Value) (H : Hp) (R : Ending → Hp → Prop) : Prop :=
Bin .num .geq a0 (Value.int .i64 6) fun v1 =>
Br v1 (
R (.returned (Value.int .u64 18446744073709551615)) H) (
Bin .num .shl (Value.int .u64 1) a0 fun v2 =>
Bin .num .shl (Value.int .u64 1) v2 fun v3 =>
Bin .num .sub v3 (Value.int .u64 1) fun v4 =>
R (.returned v4) H)
theorem L53_eq (g : Gh) (a0 : Value) (H : Hp) (R : Ending → Hp → Prop) : denF Try.prog g Try.f53 .e [a0] H R = L53 g a0 H R := by kernel_rfl
theorem L53_sound {g : Gh} {a0 : Value} {H : Hp} {R : Ending → Hp → Prop} (h : L53 g a0 H R) : SCalls Try.prog g 53 #[a0] H R :=
  denF_sound (fn := Try.f53) (hn := .e) Try.func53 (by rw [L53_eq]; exact h)
/-- thicket.shape.check -/
def L54 (g : Gh) (a0 : Value) (H : Hp) (R : Ending → Hp → Prop) : Prop :=
LenS a0 fun v1 =>
∃ (I2 : List Value → Hp → Prop) (m3 : List Value → Hp → Nat), JE I2 [(Value.int .i64 0)] H ∧ ∀ w6 : Value, ∀ H5 : Hp, I2 [w6] H5 → ∀ gs4 : Fr,
Bin .num .lss w6 v1 fun v7 =>
Br v7 (
IAddr 2 a0 w6 fun v8 =>
LdA 2 H5 v8 fun v9 =>
New H5 (.cells #[(Value.int .i64 0), (.slice none 0 0)] 42 (0, 0)) fun b10 H11 =>
St 2 H11 (.pointer (some ⟨b10, 0, none⟩)) v9 fun H12 =>
∀ J13 : List Value → Hp → Prop, (∀ w16 : Value, ∀ H15 : Hp, (∀ gs14 : Fr,
Br w16 (
R (.returned (Value.bool false)) H15) (
Bin .num .add w6 (Value.int .i64 1) fun v17 =>
Back I2 m3 [v17] H15 [w6] H5)) → J13 [w16] H15) →
DR H12 fun R18 =>
LdA 2 R18 (.pointer (some ⟨b10, 0, none⟩)) fun v19 =>
∀ F20 : Hp,
CallF Try.prog (g.add F20) 51 #[v19] H12 (fun v21 H22 =>
Ent H22 R18 ∧
Un .not v21 fun v23 =>
Br v23 (
JE J13 [(Value.bool true)] H22) (
FAddr 0 (.pointer (some ⟨b10, 0, none⟩)) fun v24 =>
Ld R18 v24 fun v25 =>
IAddr 2 a0 (Value.int .i64 0) fun v26 =>
FAddr 0 v26 fun v27 =>
Ld R18 v27 fun v28 =>
Bin .num .neq v25 v28 fun v29 =>
Pick (Value.bool false) (Value.bool true) v29 fun v30 =>
JE J13 [v30] H22)) NoKP) (
R (.returned (Value.bool true)) H5)
theorem L54_eq (g : Gh) (a0 : Value) (H : Hp) (R : Ending → Hp → Prop) : denF Try.prog g Try.f54 (.h 0 [] [] .e (.h 0 [] [] (.h 0 [] [] .e (.h 0 [] [] (.h 0 [7] [0, 5, 6] (.h 0 [] [] .e (.h 0 [] [] .e (.h 0 [] [] (.h 0 [] [] (.h 0 [] [] .e (.h 1 [22] [0, 5, 6, 7] (.h 1 [] [] (.h 0 [0] [] (.h 0 [1] [] (.h 0 [2] [] (.h 2 [3] [] (.h 0 [4] [] (.h 0 [5] [] (.h 0 [6] [] (.h 0 [7] [] (.h 0 [8] [] (.h 0 [9] [] (.h 0 [10] [] (.h 3 [11] [] .e .e) .e) .e) .e) .e) .e) .e) .e) (.h 0 [4] [] (.h 0 [5] [] (.h 0 [6] [] (.h 0 [7] [] (.h 0 [8] [] (.h 0 [9] [] (.h 0 [10] [] (.h 0 [11] [] .e .e) .e) .e) .e) .e) .e) .e) .e)) .e) .e) .e) .e) .e)) .e) .e))) .e) .e)) .e)) [a0] H R = L54 g a0 H R := by kernel_rfl
theorem L54_sound {g : Gh} {a0 : Value} {H : Hp} {R : Ending → Hp → Prop} (h : L54 g a0 H R) : SCalls Try.prog g 54 #[a0] H R :=
  denF_sound (fn := Try.f54) (hn := (.h 0 [] [] .e (.h 0 [] [] (.h 0 [] [] .e (.h 0 [] [] (.h 0 [7] [0, 5, 6] (.h 0 [] [] .e (.h 0 [] [] .e (.h 0 [] [] (.h 0 [] [] (.h 0 [] [] .e (.h 1 [22] [0, 5, 6, 7] (.h 1 [] [] (.h 0 [0] [] (.h 0 [1] [] (.h 0 [2] [] (.h 2 [3] [] (.h 0 [4] [] (.h 0 [5] [] (.h 0 [6] [] (.h 0 [7] [] (.h 0 [8] [] (.h 0 [9] [] (.h 0 [10] [] (.h 3 [11] [] .e .e) .e) .e) .e) .e) .e) .e) .e) (.h 0 [4] [] (.h 0 [5] [] (.h 0 [6] [] (.h 0 [7] [] (.h 0 [8] [] (.h 0 [9] [] (.h 0 [10] [] (.h 0 [11] [] .e .e) .e) .e) .e) .e) .e) .e) .e)) .e) .e) .e) .e) .e)) .e) .e))) .e) .e)) .e))) Try.func54 (by rw [L54_eq]; exact h)
/-- thicket.perm.Check -/
def L55 (g : Gh) (a0 : Value) (H : Hp) (R : Ending → Hp → Prop) : Prop :=
LenS a0 fun v1 =>
MkSlice 4 1 1 (Value.bool false) H v1 v1 fun v2 H3 =>
LenS a0 fun v4 =>
∃ (I5 : List Value → Hp → Prop) (m6 : List Value → Hp → Nat), JE I5 [(Value.int .i64 0)] H3 ∧ ∀ w9 : Value, ∀ H8 : Hp, I5 [w9] H8 → ∀ gs7 : Fr,
Bin .num .lss w9 v4 fun v10 =>
Br v10 (
IAddr 1 a0 w9 fun v11 =>
Ld H8 v11 fun v12 =>
Bin .num .lss v12 (Value.int .i64 0) fun v13 =>
Grp v13 false (fun t14 =>
LenS a0 fun v15 =>
Bin .num .geq v12 v15 fun v16 =>
(H8 = H8 ∧ v16 = Value.bool t14)) (fun t14 => (Value.bool true) = Value.bool t14) fun t14 => ∀ gs17 : Fr,
Grp (Value.bool t14) false (fun t18 =>
IAddr 1 v2 v12 fun v19 =>
Ld H8 v19 fun v20 =>
(H8 = H8 ∧ v20 = Value.bool t18)) (fun t18 => (Value.bool true) = Value.bool t18) fun t18 => ∀ gs21 : Fr,
Br (Value.bool t18) (
R (.returned (Value.int .i64 4)) H8) (
IAddr 1 v2 v12 fun v22 =>
St 1 H8 v22 (Value.bool true) fun H23 =>
Bin .num .add w9 (Value.int .i64 1) fun v24 =>
Back I5 m6 [v24] H23 [w9] H8)) (
LenS a0 fun v25 =>
Bin .num .gtr v25 (Value.int .i64 64) fun v26 =>
Br v26 (
R (.returned (Value.int .i64 13)) H8) (
R (.returned (Value.int .i64 0)) H8))
theorem L55_eq (g : Gh) (a0 : Value) (H : Hp) (R : Ending → Hp → Prop) : denF Try.prog g Try.f55 (.h 0 [] [] .e (.h 0 [] [] .e (.h 0 [] [] (.h 0 [] [] .e (.h 0 [] [] (.h 0 [11] [0, 3, 9, 10] (.h 0 [] [] .e (.h 0 [] [] .e (.h 0 [] [] (.h 0 [] [] (.h 0 [] [] .e (.h 0 [] [] (.h 0 [] [] (.h 0 [] [1] .e .e) .e) .e)) .e) .e))) .e) .e)) .e))) [a0] H R = L55 g a0 H R := by kernel_rfl
theorem L55_sound {g : Gh} {a0 : Value} {H : Hp} {R : Ending → Hp → Prop} (h : L55 g a0 H R) : SCalls Try.prog g 55 #[a0] H R :=
  denF_sound (fn := Try.f55) (hn := (.h 0 [] [] .e (.h 0 [] [] .e (.h 0 [] [] (.h 0 [] [] .e (.h 0 [] [] (.h 0 [11] [0, 3, 9, 10] (.h 0 [] [] .e (.h 0 [] [] .e (.h 0 [] [] (.h 0 [] [] (.h 0 [] [] .e (.h 0 [] [] (.h 0 [] [] (.h 0 [] [1] .e .e) .e) .e)) .e) .e))) .e) .e)) .e)))) Try.func55 (by rw [L55_eq]; exact h)
/-- thicket.shape.of -/
def L56 (g : Gh) (a0 : Value) (H : Hp) (R : Ending → Hp → Prop) : Prop :=
MkMap H fun v1 H2 =>
LenS a0 fun v3 =>
∃ (I4 : List Value → Hp → Prop) (m5 : List Value → Hp → Nat), JE I4 [(Value.int .i64 0)] H2 ∧ ∀ w8 : Value, ∀ H7 : Hp, I4 [w8] H7 → ∀ gs6 : Fr,
Bin .num .lss w8 v3 fun v9 =>
Br v9 (
IAddr 2 a0 w8 fun v10 =>
LdA 2 H7 v10 fun v11 =>
New H7 (.cells #[(Value.int .i64 0), (.slice none 0 0)] 42 (0, 0)) fun b12 H13 =>
St 2 H13 (.pointer (some ⟨b12, 0, none⟩)) v11 fun H14 =>
LdA 2 H14 (.pointer (some ⟨b12, 0, none⟩)) fun v15 =>
CallF Try.prog g 65 #[v1, v15] H14 (fun v16 H17 =>
Bin .num .add w8 (Value.int .i64 1) fun v18 =>
Back I4 m5 [v18] H17 [w8] H7) (PanR R)) (
R (.returned v1) H7)
theorem L56_eq (g : Gh) (a0 : Value) (H : Hp) (R : Ending → Hp → Prop) : denF Try.prog g Try.f56 (.h 0 [] [] .e (.h 0 [] [] .e (.h 0 [] [] (.h 0 [] [] .e (.h 0 [] [] (.h 0 [9] [3, 7, 8] .e .e) .e)) .e))) [a0] H R = L56 g a0 H R := by kernel_rfl
theorem L56_sound {g : Gh} {a0 : Value} {H : Hp} {R : Ending → Hp → Prop} (h : L56 g a0 H R) : SCalls Try.prog g 56 #[a0] H R :=
  denF_sound (fn := Try.f56) (hn := (.h 0 [] [] .e (.h 0 [] [] .e (.h 0 [] [] (.h 0 [] [] .e (.h 0 [] [] (.h 0 [9] [3, 7, 8] .e .e) .e)) .e)))) Try.func56 (by rw [L56_eq]; exact h)
/-- (thicket.shape.set).given -/
def L57 (g : Gh) (a0 a1 : Value) (H : Hp) (R : Ending → Hp → Prop) : Prop :=
MkMap H fun v1 H2 =>
Rng H2 a0 fun v3 H4 =>
∃ (I5 : List Value → Hp → Prop) (m6 : List Value → Hp → Nat), JE I5 [(Value.int .i64 0)] H4 ∧ ∀ w9 : Value, ∀ H8 : Hp, I5 [w9] H8 → ∀ gs7 : Fr,
Nxt H8 v3 fun v10 H11 =>
Ext 0 v10 fun v12 =>
Br v12 (
Entr H11 v3 fun v13 =>
Ext 1 v13 fun v14 =>
New H11 (.cells #[(Value.int .i64 0), (.slice none 0 0)] 42 (0, 0)) fun b15 H16 =>
St 2 H16 (.pointer (some ⟨b15, 0, none⟩)) v14 fun H17 =>
LdA 2 H17 (.pointer (some ⟨b15, 0, none⟩)) fun v18 =>
CallF Try.prog g 66 #[v18, a1, (Value.bool false)] H17 (fun v19 H20 =>
Ext 0 v19 fun v21 =>
Ext 1 v19 fun v22 =>
New H20 (.cells #[(Value.int .i64 0), (.slice none 0 0)] 42 (0, 0)) fun b23 H24 =>
St 2 H24 (.pointer (some ⟨b23, 0, none⟩)) v21 fun H25 =>
LdA 2 H25 (.pointer (some ⟨b15, 0, none⟩)) fun v26 =>
CallF Try.prog g 66 #[v26, a1, (Value.bool true)] H25 (fun v27 H28 =>
Ext 0 v27 fun v29 =>
Ext 1 v27 fun v30 =>
New H28 (.cells #[(Value.int .i64 0), (.slice none 0 0)] 42 (0, 0)) fun b31 H32 =>
St 2 H32 (.pointer (some ⟨b31, 0, none⟩)) v29 fun H33 =>
DR H33 fun R34 =>
LdA 2 R34 (.pointer (some ⟨b23, 0, none⟩)) fun v35 =>
LdA 2 R34 (.pointer (some ⟨b31, 0, none⟩)) fun v36 =>
CallF Try.prog g 67 #[v35] H33 (fun v37 H38 =>
Ent H38 R34 ∧
CallF Try.prog g 67 #[v36] H38 (fun v39 H40 =>
Ent H40 R34 ∧
∀ J41 : List Value → Hp → Prop, (∀ w44 : Value, ∀ H43 : Hp, (∀ gs42 : Fr,
DR H43 fun R45 =>
LdA 2 R45 (.pointer (some ⟨b23, 0, none⟩)) fun v46 =>
LdA 2 R45 (.pointer (some ⟨b31, 0, none⟩)) fun v47 =>
MapUpd (.string) H43 v1 v37 v46 fun H48 =>
Ent H48 R45 ∧
MapUpd (.string) H48 v1 v39 v47 fun H49 =>
Back I5 m6 [w44] H49 [w9] H8) → J41 [w44] H43) →
Bin .str .neq v37 v39 fun v50 =>
Br v50 (
Bin .num .add w9 (Value.int .i64 1) fun v51 =>
JE J41 [v51] H40) (
JE J41 [w9] H40)) NoKP) NoKP) (PanR R)) (PanR R)) (
R (.returned (.tuple #[v1, w9])) H11)
theorem L57_eq (g : Gh) (a0 a1 : Value) (H : Hp) (R : Ending → Hp → Prop) : denF Try.prog g Try.f57 (.h 0 [] [] .e (.h 0 [] [] .e (.h 0 [] [] (.h 0 [] [] .e (.h 0 [] [] (.h 0 [7] [1, 6, 18] (.h 0 [] [] .e (.h 0 [] [] .e (.h 0 [] [] (.h 0 [] [] .e (.h 0 [] [] .e (.h 0 [] [] .e (.h 0 [] [] (.h 0 [0, 2, 1, 3, 4, 5] [] .e .e) (.h 1 [7] [1, 6, 10, 12, 14, 15, 18] .e (.h 0 [0, 1, 2, 3, 4, 5, 6, 7] [] .e .e)))))) .e))) .e) .e)) .e))) [a0, a1] H R = L57 g a0 a1 H R := by kernel_rfl
theorem L57_sound {g : Gh} {a0 a1 : Value} {H : Hp} {R : Ending → Hp → Prop} (h : L57 g a0 a1 H R) : SCalls Try.prog g 57 #[a0, a1] H R :=
  denF_sound (fn := Try.f57) (hn := (.h 0 [] [] .e (.h 0 [] [] .e (.h 0 [] [] (.h 0 [] [] .e (.h 0 [] [] (.h 0 [7] [1, 6, 18] (.h 0 [] [] .e (.h 0 [] [] .e (.h 0 [] [] (.h 0 [] [] .e (.h 0 [] [] .e (.h 0 [] [] .e (.h 0 [] [] (.h 0 [0, 2, 1, 3, 4, 5] [] .e .e) (.h 1 [7] [1, 6, 10, 12, 14, 15, 18] .e (.h 0 [0, 1, 2, 3, 4, 5, 6, 7] [] .e .e)))))) .e))) .e) .e)) .e)))) Try.func57 (by rw [L57_eq]; exact h)
/-- slices.Equal[[]uint64,uint64] -/
def L58 (g : Gh) (a0 a1 : Value) (H : Hp) (R : Ending → Hp → Prop) : Prop :=
LenS a0 fun v1 =>
LenS a1 fun v2 =>
Bin .num .neq v1 v2 fun v3 =>
Br v3 (
R (.returned (Value.bool false)) H) (
LenS a0 fun v4 =>
∃ (I5 : List Value → Hp → Prop) (m6 : List Value → Hp → Nat), JE I5 [(Value.int .i64 0)] H ∧ ∀ w9 : Value, ∀ H8 : Hp, I5 [w9] H8 → ∀ gs7 : Fr,
Bin .num .lss w9 v4 fun v10 =>
Br v10 (
IAddr 1 a0 w9 fun v11 =>
Ld H8 v11 fun v12 =>
IAddr 1 a1 w9 fun v13 =>
Ld H8 v13 fun v14 =>
Bin .num .neq v12 v14 fun v15 =>
Br v15 (
R (.returned (Value.bool false)) H8) (
Bin .num .add w9 (Value.int .i64 1) fun v16 =>
Back I5 m6 [v16] H8 [w9] H8)) (
R (.returned (Value.bool true)) H8))
theorem L58_eq (g : Gh) (a0 a1 : Value) (H : Hp) (R : Ending → Hp → Prop) : denF Try.prog g Try.f58 (.h 0 [] [] .e (.h 0 [] [] .e (.h 0 [] [] (.h 0 [] [] .e (.h 0 [] [] (.h 0 [13] [0, 1, 12] .e .e) .e)) .e))) [a0, a1] H R = L58 g a0 a1 H R := by kernel_rfl
theorem L58_sound {g : Gh} {a0 a1 : Value} {H : Hp} {R : Ending → Hp → Prop} (h : L58 g a0 a1 H R) : SCalls Try.prog g 58 #[a0, a1] H R :=
  denF_sound (fn := Try.f58) (hn := (.h 0 [] [] .e (.h 0 [] [] .e (.h 0 [] [] (.h 0 [] [] .e (.h 0 [] [] (.h 0 [13] [0, 1, 12] .e .e) .e)) .e)))) Try.func58 (by rw [L58_eq]; exact h)
/-- thicket.truth.half -/
def L59 (g : Gh) (a0 a1 a2 : Value) (H : Hp) (R : Ending → Hp → Prop) : Prop :=
New H (.cells (Value.cells a0) 42 (0, 0)) fun b1 H2 =>
New H2 (.cells (Value.cells a1) 3 (0, 0)) fun b3 H4 =>
New H4 (.cells (Value.cells a2) 4 (0, 0)) fun b5 H6 =>
New H6 (.cells #[(Value.int .i64 0), (.slice none 0 0)] 42 (0, 0)) fun b7 H8 =>
FAddr 0 (.pointer (some ⟨b1, 0, none⟩)) fun v9 =>
Ld H8 v9 fun v10 =>
CallF Try.prog g 39 #[v10, (.func (.func 68) #[] #[(.pointer (some ⟨b3, 0, none⟩)), (.pointer (some ⟨b5, 0, none⟩)), (.pointer (some ⟨b1, 0, none⟩))])] H8 (fun v11 H12 =>
St 2 H12 (.pointer (some ⟨b7, 0, none⟩)) v11 fun H13 =>
LdA 2 H13 (.pointer (some ⟨b7, 0, none⟩)) fun v14 =>
R (.returned v14) H13) (PanR R)
theorem L59_eq (g : Gh) (a0 a1 a2 : Value) (H : Hp) (R : Ending → Hp → Prop) : denF Try.prog g Try.f59 .e [a0, a1, a2] H R = L59 g a0 a1 a2 H R := by kernel_rfl
theorem L59_sound {g : Gh} {a0 a1 a2 : Value} {H : Hp} {R : Ending → Hp → Prop} (h : L59 g a0 a1 a2 H R) : SCalls Try.prog g 59 #[a0, a1, a2] H R :=
  denF_sound (fn := Try.f59) (hn := .e) Try.func59 (by rw [L59_eq]; exact h)
/-- thicket.thicketref05.check -/
def L60 (g : Gh) (a0 a1 : Value) (H : Hp) (R : Ending → Hp → Prop) : Prop :=
LenS a0 fun v1 =>
∃ (I2 : List Value → Hp → Prop) (m3 : List Value → Hp → Nat), JE I2 [a1, (Value.int .i64 0)] H ∧ ∀ w6 w7 : Value, ∀ H5 : Hp, I2 [w6, w7] H5 → ∀ gs4 : Fr,
Bin .num .lss w7 v1 fun v8 =>
Br v8 (
IAddr 2 a0 w7 fun v9 =>
LdA 2 H5 v9 fun v10 =>
New H5 (.cells #[(Value.int .i64 0), (.slice none 0 0)] 42 (0, 0)) fun b11 H12 =>
St 2 H12 (.pointer (some ⟨b11, 0, none⟩)) v10 fun H13 =>
∀ J14 : List Value → Hp → Prop, (∀ w17 : Value, ∀ H16 : Hp, (∀ gs15 : Fr,
Br w17 (
R (.returned (.tuple #[(Value.int .i64 0), (Value.int .i64 5)])) H16) (
FAddr 0 (.pointer (some ⟨b11, 0, none⟩)) fun v18 =>
Ld H16 v18 fun v19 =>
Bin .num .add w7 (Value.int .i64 1) fun v20 =>
Back I2 m3 [v19, v20] H16 [w6, w7] H5)) → J14 [w17] H16) →
DR H13 fun R21 =>
LdA 2 R21 (.pointer (some ⟨b11, 0, none⟩)) fun v22 =>
∀ F23 : Hp,
CallF Try.prog (g.add F23) 25 #[v22] H13 (fun v24 H25 =>
Ent H25 R21 ∧
Un .not v24 fun v26 =>
Br v26 (
JE J14 [(Value.bool true)] H25) (
FAddr 0 (.pointer (some ⟨b11, 0, none⟩)) fun v27 =>
Ld R21 v27 fun v28 =>
IAddr 2 a0 (Value.int .i64 0) fun v29 =>
FAddr 0 v29 fun v30 =>
Ld R21 v30 fun v31 =>
Bin .num .neq v28 v31 fun v32 =>
Pick (Value.bool false) (Value.bool true) v32 fun v33 =>
JE J14 [v33] H25)) NoKP) (
R (.returned (.tuple #[w6, (Value.int .i64 0)])) H5)
theorem L60_eq (g : Gh) (a0 a1 : Value) (H : Hp) (R : Ending → Hp → Prop) : denF Try.prog g Try.f60 (.h 0 [] [] .e (.h 0 [] [] (.h 0 [] [] .e (.h 0 [] [] (.h 0 [1, 10] [0, 8, 9] (.h 0 [] [] .e (.h 0 [] [] .e (.h 0 [] [] (.h 0 [] [] (.h 0 [] [] .e (.h 0 [] [] (.h 1 [25] [0, 7, 8, 9, 10] (.h 1 [] [] (.h 0 [0] [] (.h 0 [1] [] (.h 0 [2] [] (.h 2 [3] [] (.h 0 [4] [] (.h 0 [5] [] (.h 0 [6] [] (.h 0 [7] [] (.h 0 [8] [] (.h 0 [9] [] (.h 0 [10] [] (.h 3 [11] [] .e .e) .e) .e) .e) .e) .e) .e) .e) (.h 0 [4] [] (.h 0 [5] [] (.h 0 [6] [] (.h 0 [7] [] (.h 0 [8] [] (.h 0 [9] [] (.h 0 [10] [] (.h 0 [11] [] .e .e) .e) .e) .e) .e) .e) .e) .e)) .e) .e) .e) .e) .e) .e)) .e) .e))) .e) .e)) .e)) [a0, a1] H R = L60 g a0 a1 H R := by kernel_rfl
theorem L60_sound {g : Gh} {a0 a1 : Value} {H : Hp} {R : Ending → Hp → Prop} (h : L60 g a0 a1 H R) : SCalls Try.prog g 60 #[a0, a1] H R :=
  denF_sound (fn := Try.f60) (hn := (.h 0 [] [] .e (.h 0 [] [] (.h 0 [] [] .e (.h 0 [] [] (.h 0 [1, 10] [0, 8, 9] (.h 0 [] [] .e (.h 0 [] [] .e (.h 0 [] [] (.h 0 [] [] (.h 0 [] [] .e (.h 0 [] [] (.h 1 [25] [0, 7, 8, 9, 10] (.h 1 [] [] (.h 0 [0] [] (.h 0 [1] [] (.h 0 [2] [] (.h 2 [3] [] (.h 0 [4] [] (.h 0 [5] [] (.h 0 [6] [] (.h 0 [7] [] (.h 0 [8] [] (.h 0 [9] [] (.h 0 [10] [] (.h 3 [11] [] .e .e) .e) .e) .e) .e) .e) .e) .e) (.h 0 [4] [] (.h 0 [5] [] (.h 0 [6] [] (.h 0 [7] [] (.h 0 [8] [] (.h 0 [9] [] (.h 0 [10] [] (.h 0 [11] [] .e .e) .e) .e) .e) .e) .e) .e) .e)) .e) .e) .e) .e) .e) .e)) .e) .e))) .e) .e)) .e))) Try.func60 (by rw [L60_eq]; exact h)
/-- thicket.thicketref05.Unlike -/
def L61 (g : Gh) (a0 : Value) (H : Hp) (R : Ending → Hp → Prop) : Prop :=
LenS a0 fun v1 =>
∃ (I2 : List Value → Hp → Prop) (m3 : List Value → Hp → Nat), JE I2 [(.slice none 0 0), (Value.int .i64 0)] H ∧ ∀ w6 w7 : Value, ∀ H5 : Hp, I2 [w6, w7] H5 → ∀ gs4 : Fr,
Bin .num .lss w7 v1 fun v8 =>
Br v8 (
∀ J9 : List Value → Hp → Prop, (∀ w12 : Value, ∀ H11 : Hp, (∀ gs10 : Fr,
Bin .num .add w7 (Value.int .i64 1) fun v13 =>
Back I2 m3 [w12, v13] H11 [w6, w7] H5) → J9 [w12] H11) →
IAddr 2 a0 w7 fun v14 =>
LdA 2 H5 v14 fun v15 =>
New H5 (.cells #[(Value.int .i64 0), (.slice none 0 0)] 42 (0, 0)) fun b16 H17 =>
St 2 H17 (.pointer (some ⟨b16, 0, none⟩)) v15 fun H18 =>
LdA 2 H18 (.pointer (some ⟨b16, 0, none⟩)) fun v19 =>
CallF Try.prog g 70 #[w6, v19] H18 (fun v20 H21 =>
Un .not v20 fun v22 =>
Br v22 (
LdA 2 H21 (.pointer (some ⟨b16, 0, none⟩)) fun v23 =>
BuildSl Try.prog 22 1 [(0, v23)] H21 fun v24 H25 =>
App Try.prog 42 2 32 (.agg #[(Value.int .i64 0), (.slice none 0 0)]) H25 w6 v24 fun v28 H29 =>
JE J9 [v28] H29) (
JE J9 [w6] H21)) (PanR R)) (
R (.returned w6) H5)
theorem L61_eq (g : Gh) (a0 : Value) (H : Hp) (R : Ending → Hp → Prop) : denF Try.prog g Try.f61 (.h 0 [] [] .e (.h 0 [] [] .e (.h 0 [] [] (.h 0 [] [] .e (.h 0 [] [] (.h 0 [3, 8] [6, 7] (.h 0 [] [] .e (.h 0 [] [] .e (.h 1 [3] [6, 7, 8] .e .e))) .e) .e)) .e))) [a0] H R = L61 g a0 H R := by kernel_rfl
theorem L61_sound {g : Gh} {a0 : Value} {H : Hp} {R : Ending → Hp → Prop} (h : L61 g a0 H R) : SCalls Try.prog g 61 #[a0] H R :=
  denF_sound (fn := Try.f61) (hn := (.h 0 [] [] .e (.h 0 [] [] .e (.h 0 [] [] (.h 0 [] [] .e (.h 0 [] [] (.h 0 [3, 8] [6, 7] (.h 0 [] [] .e (.h 0 [] [] .e (.h 1 [3] [6, 7, 8] .e .e))) .e) .e)) .e)))) Try.func61 (by rw [L61_eq]; exact h)
/-- thicket.thicketref05.Given -/
def L62 (g : Gh) (a0 a1 : Value) (H : Hp) (R : Ending → Hp → Prop) : Prop :=
LenS a0 fun v1 =>
∃ (I2 : List Value → Hp → Prop) (m3 : List Value → Hp → Nat), JE I2 [(.slice none 0 0), (Value.int .i64 0)] H ∧ ∀ w6 w7 : Value, ∀ H5 : Hp, I2 [w6, w7] H5 → ∀ gs4 : Fr,
Bin .num .lss w7 v1 fun v8 =>
Br v8 (
∀ J9 : List Value → Hp → Prop, (∀ w12 : Value, ∀ H11 : Hp, (∀ gs10 : Fr,
Bin .num .add w7 (Value.int .i64 1) fun v13 =>
Back I2 m3 [w12, v13] H11 [w6, w7] H5) → J9 [w12] H11) →
IAddr 2 a0 w7 fun v14 =>
LdA 2 H5 v14 fun v15 =>
New H5 (.cells #[(Value.int .i64 0), (.slice none 0 0)] 42 (0, 0)) fun b16 H17 =>
St 2 H17 (.pointer (some ⟨b16, 0, none⟩)) v15 fun H18 =>
DR H18 fun R19 =>
LdA 2 R19 (.pointer (some ⟨b16, 0, none⟩)) fun v20 =>
LdA 2 R19 (.pointer (some ⟨b16, 0, none⟩)) fun v21 =>
∀ F22 : Hp,
CallF Try.prog (g.add F22) 71 #[v20, a1, (Value.bool false)] H18 (fun v23 H24 =>
Ent H24 R19 ∧
∀ F25 : Hp,
CallF Try.prog (g.add F25) 71 #[v21, a1, (Value.bool true)] H24 (fun v26 H27 =>
Ent H27 R19 ∧
New H27 (.cells #[(Value.int .i64 0), (.slice none 0 0)] 42 (0, 0)) fun b28 H29 =>
New H29 (.cells #[(Value.int .i64 0), (.slice none 0 0)] 42 (0, 0)) fun b30 H31 =>
∀ F32 : Hp,
St 2 H31 (.pointer (some ⟨b28, 0, none⟩)) v23 fun H33 =>
Ent H33 R19 ∧
∀ F34 : Hp,
St 2 H33 (.pointer (some ⟨b30, 0, none⟩)) v26 fun H35 =>
∀ J36 : List Value → Hp → Prop, (∀ w39 : Value, ∀ H38 : Hp, (∀ gs37 : Fr,
LdA 2 H38 (.pointer (some ⟨b30, 0, none⟩)) fun v40 =>
CallF Try.prog g 70 #[w39, v40] H38 (fun v41 H42 =>
Un .not v41 fun v43 =>
Br v43 (
LdA 2 H42 (.pointer (some ⟨b30, 0, none⟩)) fun v44 =>
BuildSl Try.prog 22 1 [(0, v44)] H42 fun v45 H46 =>
App Try.prog 42 2 32 (.agg #[(Value.int .i64 0), (.slice none 0 0)]) H46 w39 v45 fun v49 H50 =>
JE J9 [v49] H50) (
JE J9 [w39] H42)) (PanR R)) → J36 [w39] H38) →
LdA 2 H35 (.pointer (some ⟨b28, 0, none⟩)) fun v51 =>
CallF Try.prog g 70 #[w6, v51] H35 (fun v52 H53 =>
Un .not v52 fun v54 =>
Br v54 (
LdA 2 H53 (.pointer (some ⟨b28, 0, none⟩)) fun v55 =>
BuildSl Try.prog 22 1 [(0, v55)] H53 fun v56 H57 =>
App Try.prog 42 2 32 (.agg #[(Value.int .i64 0), (.slice none 0 0)]) H57 w6 v56 fun v60 H61 =>
JE J36 [v60] H61) (
JE J36 [w6] H53)) (PanR R)) NoKP) NoKP) (
R (.returned w6) H5)
theorem L62_eq (g : Gh) (a0 a1 : Value) (H : Hp) (R : Ending → Hp → Prop) : denF Try.prog g Try.f62 (.h 0 [] [] .e (.h 0 [] [] .e (.h 0 [] [] (.h 0 [] [] .e (.h 0 [] [] (.h 0 [5, 12] [1, 10, 11] (.h 0 [] [] .e (.h 0 [] [] .e (.h 1 [5] [1, 10, 11, 12] (.h 0 [] [] (.h 0 [] [] .e (.h 0 [] [] (.h 1 [] [] (.h 0 [0] [] (.h 0 [1] [] (.h 0 [3] [] (.h 0 [4] [] (.h 1 [6] [] (.h 1 [7] [] (.h 0 [2] [] (.h 0 [5] [] (.h 0 [6] [] (.h 0 [7] [] (.h 0 [8] [] (.h 0 [9] [] .e .e) .e) .e) .e) .e) .e) .e) .e) .e) .e) .e) .e) .e) (.h 1 [5] [1, 9, 10, 11, 12] .e .e))) .e) .e))) .e) .e)) .e))) [a0, a1] H R = L62 g a0 a1 H R := by kernel_rfl
theorem L62_sound {g : Gh} {a0 a1 : Value} {H : Hp} {R : Ending → Hp → Prop} (h : L62 g a0 a1 H R) : SCalls Try.prog g 62 #[a0, a1] H R :=
  denF_sound (fn := Try.f62) (hn := (.h 0 [] [] .e (.h 0 [] [] .e (.h 0 [] [] (.h 0 [] [] .e (.h 0 [] [] (.h 0 [5, 12] [1, 10, 11] (.h 0 [] [] .e (.h 0 [] [] .e (.h 1 [5] [1, 10, 11, 12] (.h 0 [] [] (.h 0 [] [] .e (.h 0 [] [] (.h 1 [] [] (.h 0 [0] [] (.h 0 [1] [] (.h 0 [3] [] (.h 0 [4] [] (.h 1 [6] [] (.h 1 [7] [] (.h 0 [2] [] (.h 0 [5] [] (.h 0 [6] [] (.h 0 [7] [] (.h 0 [8] [] (.h 0 [9] [] .e .e) .e) .e) .e) .e) .e) .e) .e) .e) .e) .e) .e) .e) (.h 1 [5] [1, 9, 10, 11, 12] .e .e))) .e) .e))) .e) .e)) .e)))) Try.func62 (by rw [L62_eq]; exact h)
/-- thicket.thicketref05.Nodes -/
def L63 (g : Gh) (a0 a1 : Value) (H : Hp) (R : Ending → Hp → Prop) : Prop :=
LenS a0 fun v1 =>
∃ (I2 : List Value → Hp → Prop) (m3 : List Value → Hp → Nat), JE I2 [(.slice none 0 0), (Value.int .i64 0)] H ∧ ∀ w6 w7 : Value, ∀ H5 : Hp, I2 [w6, w7] H5 → ∀ gs4 : Fr,
Bin .num .lss w7 v1 fun v8 =>
Br v8 (
∀ J9 : List Value → Hp → Prop, (∀ w12 : Value, ∀ H11 : Hp, (∀ gs10 : Fr,
Bin .num .add w7 (Value.int .i64 1) fun v13 =>
Back I2 m3 [w12, v13] H11 [w6, w7] H5) → J9 [w12] H11) →
IAddr 2 a0 w7 fun v14 =>
LdA 2 H5 v14 fun v15 =>
New H5 (.cells #[(Value.int .i64 0), (.slice none 0 0)] 42 (0, 0)) fun b16 H17 =>
St 2 H17 (.pointer (some ⟨b16, 0, none⟩)) v15 fun H18 =>
LdA 2 H18 (.pointer (some ⟨b16, 0, none⟩)) fun v19 =>
CallF Try.prog g 72 #[v19, a1] H18 (fun v20 H21 =>
Br v20 (
LdA 2 H21 (.pointer (some ⟨b16, 0, none⟩)) fun v22 =>
BuildSl Try.prog 22 1 [(0, v22)] H21 fun v23 H24 =>
App Try.prog 42 2 32 (.agg #[(Value.int .i64 0), (.slice none 0 0)]) H24 w6 v23 fun v27 H28 =>
JE J9 [v27] H28) (
JE J9 [w6] H21)) (PanR R)) (
R (.returned w6) H5)
theorem L63_eq (g : Gh) (a0 a1 : Value) (H : Hp) (R : Ending → Hp → Prop) : denF Try.prog g Try.f63 (.h 0 [] [] .e (.h 0 [] [] .e (.h 0 [] [] (.h 0 [] [] .e (.h 0 [] [] (.h 0 [5, 10] [1, 8, 9] (.h 0 [] [] .e (.h 0 [] [] .e (.h 1 [5] [1, 8, 9, 10] .e .e))) .e) .e)) .e))) [a0, a1] H R = L63 g a0 a1 H R := by kernel_rfl
theorem L63_sound {g : Gh} {a0 a1 : Value} {H : Hp} {R : Ending → Hp → Prop} (h : L63 g a0 a1 H R) : SCalls Try.prog g 63 #[a0, a1] H R :=
  denF_sound (fn := Try.f63) (hn := (.h 0 [] [] .e (.h 0 [] [] .e (.h 0 [] [] (.h 0 [] [] .e (.h 0 [] [] (.h 0 [5, 10] [1, 8, 9] (.h 0 [] [] .e (.h 0 [] [] .e (.h 1 [5] [1, 8, 9, 10] .e .e))) .e) .e)) .e)))) Try.func63 (by rw [L63_eq]; exact h)
/-- (thicket.heap.item[int]).ahead -/
def L64 (g : Gh) (a0 a1 : Value) (H : Hp) (R : Ending → Hp → Prop) : Prop :=
New H (.cells (Value.cells a0) 94 (0, 0)) fun b1 H2 =>
New H2 (.cells (Value.cells a1) 94 (0, 0)) fun b3 H4 =>
FAddr 1 (.pointer (some ⟨b1, 0, none⟩)) fun v5 =>
Ld H4 v5 fun v6 =>
FAddr 1 (.pointer (some ⟨b3, 0, none⟩)) fun v7 =>
Ld H4 v7 fun v8 =>
Bin .num .lss v6 v8 fun v9 =>
Grp v9 false (fun t10 =>
FAddr 1 (.pointer (some ⟨b1, 0, none⟩)) fun v11 =>
Ld H4 v11 fun v12 =>
FAddr 1 (.pointer (some ⟨b3, 0, none⟩)) fun v13 =>
Ld H4 v13 fun v14 =>
Bin .num .eql v12 v14 fun v15 =>
Grp v15 true (fun t16 =>
FAddr 0 (.pointer (some ⟨b1, 0, none⟩)) fun v17 =>
Ld H4 v17 fun v18 =>
FAddr 0 (.pointer (some ⟨b3, 0, none⟩)) fun v19 =>
Ld H4 v19 fun v20 =>
Bin .num .lss v18 v20 fun v21 =>
(H4 = H4 ∧ v21 = Value.bool t16)) (fun t16 => (Value.bool false) = Value.bool t16) fun t16 => ∀ gs22 : Fr,
(H4 = H4 ∧ (Value.bool t16) = Value.bool t10)) (fun t10 => (Value.bool true) = Value.bool t10) fun t10 => ∀ gs23 : Fr,
R (.returned (Value.bool t10)) H4
theorem L64_eq (g : Gh) (a0 a1 : Value) (H : Hp) (R : Ending → Hp → Prop) : denF Try.prog g Try.f64 (.h 0 [] [] .e (.h 0 [] [] (.h 0 [] [1] .e .e) .e)) [a0, a1] H R = L64 g a0 a1 H R := by kernel_rfl
theorem L64_sound {g : Gh} {a0 a1 : Value} {H : Hp} {R : Ending → Hp → Prop} (h : L64 g a0 a1 H R) : SCalls Try.prog g 64 #[a0, a1] H R :=
  denF_sound (fn := Try.f64) (hn := (.h 0 [] [] .e (.h 0 [] [] (.h 0 [] [1] .e .e) .e))) Try.func64 (by rw [L64_eq]; exact h)
/-- (thicket.shape.set).add -/
def L65 (g : Gh) (a0 a1 : Value) (H : Hp) (R : Ending → Hp → Prop) : Prop :=
New H (.cells (Value.cells a1) 42 (0, 0)) fun b1 H2 =>
DR H2 fun R3 =>
LdA 2 R3 (.pointer (some ⟨b1, 0, none⟩)) fun v4 =>
LdA 2 R3 (.pointer (some ⟨b1, 0, none⟩)) fun v5 =>
CallF Try.prog g 67 #[v4] H2 (fun v6 H7 =>
Ent H7 R3 ∧
MapUpd (.string) H7 a0 v6 v5 fun H8 =>
R (.returned (.tuple #[])) H8) NoKP
theorem L65_eq (g : Gh) (a0 a1 : Value) (H : Hp) (R : Ending → Hp → Prop) : denF Try.prog g Try.f65 (.h 0 [] [] .e (.h 0 [0, 1, 3, 2, 4] [] .e .e)) [a0, a1] H R = L65 g a0 a1 H R := by kernel_rfl
theorem L65_sound {g : Gh} {a0 a1 : Value} {H : Hp} {R : Ending → Hp → Prop} (h : L65 g a0 a1 H R) : SCalls Try.prog g 65 #[a0, a1] H R :=
  denF_sound (fn := Try.f65) (hn := (.h 0 [] [] .e (.h 0 [0, 1, 3, 2, 4] [] .e .e))) Try.func65 (by rw [L65_eq]; exact h)
/-- thicket.truth.Cofactor -/
def L66 (g : Gh) (a0 a1 a2 : Value) (H : Hp) (R : Ending → Hp → Prop) : Prop :=
New H (.cells (Value.cells a0) 42 (0, 0)) fun b1 H2 =>
New H2 (.cells #[(Value.int .i64 0), (.slice none 0 0)] 42 (0, 0)) fun b3 H4 =>
LdA 2 H4 (.pointer (some ⟨b1, 0, none⟩)) fun v5 =>
CallF Try.prog g 73 #[v5, a1] H4 (fun v6 H7 =>
Bin .num .neq v6 (Value.int .i64 0) fun v8 =>
Br v8 (
Build Try.prog 42 [] fun v9 =>
St 2 H7 (.pointer (some ⟨b3, 0, none⟩)) v9 fun H10 =>
LdA 2 H10 (.pointer (some ⟨b3, 0, none⟩)) fun v11 =>
R (.returned (.tuple #[v11, v6])) H10) (
LdA 2 H7 (.pointer (some ⟨b1, 0, none⟩)) fun v12 =>
CallF Try.prog g 59 #[v12, a1, a2] H7 (fun v13 H14 =>
St 2 H14 (.pointer (some ⟨b3, 0, none⟩)) v13 fun H15 =>
LdA 2 H15 (.pointer (some ⟨b3, 0, none⟩)) fun v16 =>
R (.returned (.tuple #[v16, (Value.int .i64 0)])) H15) (PanR R))) (PanR R)
theorem L66_eq (g : Gh) (a0 a1 a2 : Value) (H : Hp) (R : Ending → Hp → Prop) : denF Try.prog g Try.f66 .e [a0, a1, a2] H R = L66 g a0 a1 a2 H R := by kernel_rfl
theorem L66_sound {g : Gh} {a0 a1 a2 : Value} {H : Hp} {R : Ending → Hp → Prop} (h : L66 g a0 a1 a2 H R) : SCalls Try.prog g 66 #[a0, a1, a2] H R :=
  denF_sound (fn := Try.f66) (hn := .e) Try.func66 (by rw [L66_eq]; exact h)
/-- thicket.shape.key -/
def L67 (g : Gh) (a0 : Value) (H : Hp) (R : Ending → Hp → Prop) : Prop :=
New H (.cells (Value.cells a0) 42 (0, 0)) fun b1 H2 =>
FAddr 1 (.pointer (some ⟨b1, 0, none⟩)) fun v3 =>
Ld H2 v3 fun v4 =>
LenS v4 fun v5 =>
∃ (I6 : List Value → Hp → Prop) (m7 : List Value → Hp → Nat), JE I6 [(.slice none 0 0), (Value.int .i64 0)] H2 ∧ ∀ w10 w11 : Value, ∀ H9 : Hp, I6 [w10, w11] H9 → ∀ gs8 : Fr,
Bin .num .lss w11 v5 fun v12 =>
Br v12 (
IAddr 1 v4 w11 fun v13 =>
Ld H9 v13 fun v14 =>
∃ (I15 : List Value → Hp → Prop) (m16 : List Value → Hp → Nat), JE I15 [w10, (Value.int .i64 0)] H9 ∧ ∀ w19 w20 : Value, ∀ H18 : Hp, I15 [w19, w20] H18 → ∀ gs17 : Fr,
Bin .num .lss w20 (Value.int .i64 8) fun v21 =>
Br v21 (
Bin .num .mul (Value.int .i64 8) w20 fun v22 =>
Bin .num .shr v14 v22 fun v23 =>
ConvI .u8 v23 fun v24 =>
BuildSl Try.prog 115 1 [(0, v24)] H18 fun v25 H26 =>
App Try.prog 5 1 1 (Value.int .u8 0) H26 w19 v25 fun v29 H30 =>
Bin .num .add w20 (Value.int .i64 1) fun v31 =>
Back I15 m16 [v29, v31] H30 [w19, w20] H18) (
Bin .num .add w11 (Value.int .i64 1) fun v32 =>
Back I6 m7 [w19, v32] H18 [w10, w11] H9)) (
BytesS H9 w10 fun v33 =>
R (.returned v33) H9)
theorem L67_eq (g : Gh) (a0 : Value) (H : Hp) (R : Ending → Hp → Prop) : denF Try.prog g Try.f67 (.h 0 [] [] .e (.h 0 [] [] .e (.h 0 [] [] (.h 0 [] [] .e (.h 0 [] [] (.h 0 [3, 10] [8, 9] (.h 0 [] [] .e (.h 0 [] [] .e (.h 0 [] [] (.h 0 [] [] (.h 0 [] [] .e (.h 0 [] [] .e (.h 0 [] [] (.h 0 [3, 14] [5, 8, 9, 10] .e .e) .e))) .e) .e))) .e) .e)) .e))) [a0] H R = L67 g a0 H R := by kernel_rfl
theorem L67_sound {g : Gh} {a0 : Value} {H : Hp} {R : Ending → Hp → Prop} (h : L67 g a0 H R) : SCalls Try.prog g 67 #[a0] H R :=
  denF_sound (fn := Try.f67) (hn := (.h 0 [] [] .e (.h 0 [] [] .e (.h 0 [] [] (.h 0 [] [] .e (.h 0 [] [] (.h 0 [3, 10] [8, 9] (.h 0 [] [] .e (.h 0 [] [] .e (.h 0 [] [] (.h 0 [] [] (.h 0 [] [] .e (.h 0 [] [] .e (.h 0 [] [] (.h 0 [3, 14] [5, 8, 9, 10] .e .e) .e))) .e) .e))) .e) .e)) .e)))) Try.func67 (by rw [L67_eq]; exact h)
/-- thicket.truth.half$1 -/
def L68 (g : Gh) (a0 a1 a2 a3 : Value) (H : Hp) (R : Ending → Hp → Prop) : Prop :=
Ld H a1 fun v1 =>
Bin .num .geq v1 (Value.int .i64 6) fun v2 =>
Br v2 (
Ld H a1 fun v3 =>
Bin .num .sub v3 (Value.int .i64 6) fun v4 =>
Bin .num .shl (Value.int .i64 1) v4 fun v5 =>
Bin .num .andNot a0 v5 fun v6 =>
∀ J7 : List Value → Hp → Prop, (∀ w10 : Value, ∀ H9 : Hp, (∀ gs8 : Fr,
FAddr 1 a3 fun v11 =>
Ld H9 v11 fun v12 =>
IAddr 1 v12 w10 fun v13 =>
Ld H9 v13 fun v14 =>
R (.returned v14) H9) → J7 [w10] H9) →
Ld H a2 fun v15 =>
Br v15 (
Ld H a1 fun v16 =>
Bin .num .sub v16 (Value.int .i64 6) fun v17 =>
Bin .num .shl (Value.int .i64 1) v17 fun v18 =>
Bin .num .or v6 v18 fun v19 =>
JE J7 [v19] H) (
JE J7 [v6] H)) (
DR H fun R20 =>
Ld R20 a1 fun v21 =>
Ld R20 a1 fun v22 =>
Bin .num .shl (Value.int .i64 1) v22 fun v23 =>
CallF Try.prog g 69 #[v21, (Value.int .i64 0)] H (fun v24 H25 =>
Ent H25 R20 ∧
Ld H25 a2 fun v26 =>
Br v26 (
FAddr 1 a3 fun v27 =>
Ld H25 v27 fun v28 =>
IAddr 1 v28 a0 fun v29 =>
Ld H25 v29 fun v30 =>
Bin .num .and v30 v24 fun v31 =>
Bin .num .shr v31 v23 fun v32 =>
Bin .num .or v31 v32 fun v33 =>
R (.returned v33) H25) (
FAddr 1 a3 fun v34 =>
Ld H25 v34 fun v35 =>
IAddr 1 v35 a0 fun v36 =>
Ld H25 v36 fun v37 =>
Bin .num .andNot v37 v24 fun v38 =>
Bin .num .shl v38 v23 fun v39 =>
Bin .num .or v38 v39 fun v40 =>
R (.returned v40) H25)) NoKP)
theorem L68_eq (g : Gh) (a0 a1 a2 a3 : Value) (H : Hp) (R : Ending → Hp → Prop) : denF Try.prog g Try.f68 (.h 0 [] [] .e (.h 0 [] [] (.h 0 [] [] .e (.h 0 [] [] (.h 0 [] [] .e (.h 1 [6] [3] .e .e)) .e)) (.h 0 [] [] (.h 0 [0, 2, 3, 1, 4, 5] [] .e .e) .e))) [a0, a1, a2, a3] H R = L68 g a0 a1 a2 a3 H R := by kernel_rfl
theorem L68_sound {g : Gh} {a0 a1 a2 a3 : Value} {H : Hp} {R : Ending → Hp → Prop} (h : L68 g a0 a1 a2 a3 H R) : SCalls Try.prog g 68 #[a0, a1, a2, a3] H R :=
  denF_sound (fn := Try.f68) (hn := (.h 0 [] [] .e (.h 0 [] [] (.h 0 [] [] .e (.h 0 [] [] (.h 0 [] [] .e (.h 1 [6] [3] .e .e)) .e)) (.h 0 [] [] (.h 0 [0, 2, 3, 1, 4, 5] [] .e .e) .e)))) Try.func68 (by rw [L68_eq]; exact h)
/-- thicket.truth.column -/
def L69 (g : Gh) (a0 a1 : Value) (H : Hp) (R : Ending → Hp → Prop) : Prop :=
Bin .num .geq a0 (Value.int .i64 6) fun v1 =>
Br v1 (
ConvI .u64 a1 fun v2 =>
Bin .num .sub a0 (Value.int .i64 6) fun v3 =>
Bin .num .shr v2 v3 fun v4 =>
Bin .num .and v4 (Value.int .u64 1) fun v5 =>
Un .neg v5 fun v6 =>
R (.returned v6) H) (
∃ (I7 : List Value → Hp → Prop) (m8 : List Value → Hp → Nat), JE I7 [(Value.int .u64 0), (Value.int .i64 0)] H ∧ ∀ w11 w12 : Value, ∀ H10 : Hp, I7 [w11, w12] H10 → ∀ gs9 : Fr,
Bin .num .lss w12 (Value.int .i64 64) fun v13 =>
Br v13 (
Bin .num .shr w12 a0 fun v14 =>
Bin .num .and v14 (Value.int .i64 1) fun v15 =>
ConvI .u64 v15 fun v16 =>
Bin .num .shl v16 w12 fun v17 =>
Bin .num .or w11 v17 fun v18 =>
Bin .num .add w12 (Value.int .i64 1) fun v19 =>
Back I7 m8 [v18, v19] H10 [w11, w12] H10) (
R (.returned w11) H10))
theorem L69_eq (g : Gh) (a0 a1 : Value) (H : Hp) (R : Ending → Hp → Prop) : denF Try.prog g Try.f69 (.h 0 [] [] .e (.h 0 [] [] .e (.h 0 [] [] .e (.h 0 [] [] (.h 0 [] [] .e (.h 0 [] [] (.h 0 [5, 16] [0] .e .e) .e)) .e)))) [a0, a1] H R = L69 g a0 a1 H R := by kernel_rfl
theorem L69_sound {g : Gh} {a0 a1 : Value} {H : Hp} {R : Ending → Hp → Prop} (h : L69 g a0 a1 H R) : SCalls Try.prog g 69 #[a0, a1] H R :=
  denF_sound (fn := Try.f69) (hn := (.h 0 [] [] .e (.h 0 [] [] .e (.h 0 [] [] .e (.h 0 [] [] (.h 0 [] [] .e (.h 0 [] [] (.h 0 [5, 16] [0] .e .e) .e)) .e))))) Try.func69 (by rw [L69_eq]; exact h)
/-- thicket.thicketref05.In -/
def L70 (g : Gh) (a0 a1 : Value) (H : Hp) (R : Ending → Hp → Prop) : Prop :=
New H (.cells (Value.cells a1) 42 (0, 0)) fun b1 H2 =>
LenS a0 fun v3 =>
∃ (I4 : List Value → Hp → Prop) (m5 : List Value → Hp → Nat), JE I4 [(Value.int .i64 0)] H2 ∧ ∀ w8 : Value, ∀ H7 : Hp, I4 [w8] H7 → ∀ gs6 : Fr,
Bin .num .lss w8 v3 fun v9 =>
Br v9 (
IAddr 2 a0 w8 fun v10 =>
LdA 2 H7 v10 fun v11 =>
New H7 (.cells #[(Value.int .i64 0), (.slice none 0 0)] 42 (0, 0)) fun b12 H13 =>
St 2 H13 (.pointer (some ⟨b12, 0, none⟩)) v11 fun H14 =>
LdA 2 H14 (.pointer (some ⟨b1, 0, none⟩)) fun v15 =>
LdA 2 H14 (.pointer (some ⟨b12, 0, none⟩)) fun v16 =>
CallF Try.prog g 18 #[v15, v16] H14 (fun v17 H18 =>
Br v17 (
R (.returned (Value.bool true)) H18) (
Bin .num .add w8 (Value.int .i64 1) fun v19 =>
Back I4 m5 [v19] H18 [w8] H7)) (PanR R)) (
R (.returned (Value.bool false)) H7)
theorem L70_eq (g : Gh) (a0 a1 : Value) (H : Hp) (R : Ending → Hp → Prop) : denF Try.prog g Try.f70 (.h 0 [] [] .e (.h 0 [] [] (.h 0 [] [] .e (.h 0 [] [] (.h 0 [9] [3, 7, 8] .e .e) .e)) .e)) [a0, a1] H R = L70 g a0 a1 H R := by kernel_rfl
theorem L70_sound {g : Gh} {a0 a1 : Value} {H : Hp} {R : Ending → Hp → Prop} (h : L70 g a0 a1 H R) : SCalls Try.prog g 70 #[a0, a1] H R :=
  denF_sound (fn := Try.f70) (hn := (.h 0 [] [] .e (.h 0 [] [] (.h 0 [] [] .e (.h 0 [] [] (.h 0 [9] [3, 7, 8] .e .e) .e)) .e))) Try.func70 (by rw [L70_eq]; exact h)
/-- thicket.thicketref05.Cof -/
def L71 (g : Gh) (a0 a1 a2 : Value) (H : Hp) (R : Ending → Hp → Prop) : Prop :=
New H (.cells (Value.cells a0) 42 (0, 0)) fun b1 H2 =>
New H2 (.cells #[(Value.int .i64 0), (.slice none 0 0)] 42 (0, 0)) fun b3 H4 =>
DR H4 fun R5 =>
FAddr 0 (.pointer (some ⟨b1, 0, none⟩)) fun v6 =>
Ld R5 v6 fun v7 =>
FAddr 1 (.pointer (some ⟨b1, 0, none⟩)) fun v8 =>
Ld R5 v8 fun v9 =>
LenS v9 fun v10 =>
∀ F11 : Hp,
MkSlice 33 1 8 (Value.int .u64 0) H4 v10 v10 fun v12 H13 =>
Ent H13 R5 ∧
Build Try.prog 42 [(0, v7), (1, v12)] fun v14 =>
New H13 (.cells #[(Value.int .i64 0), (.slice none 0 0)] 42 (0, 0)) fun b15 H16 =>
∀ F17 : Hp,
St 2 H16 (.pointer (some ⟨b15, 0, none⟩)) v14 fun H18 =>
Bin .num .geq a1 (Value.int .i64 6) fun v19 =>
Br v19 (
Bin .num .sub a1 (Value.int .i64 6) fun v20 =>
Bin .num .shl (Value.int .i64 1) v20 fun v21 =>
∃ (I22 : List Value → Hp → Prop) (m23 : List Value → Hp → Nat), JE I22 [(Value.int .i64 0)] H18 ∧ ∀ w26 : Value, ∀ H25 : Hp, I22 [w26] H25 → ∀ gs24 : Fr,
FAddr 1 (.pointer (some ⟨b1, 0, none⟩)) fun v27 =>
Ld H25 v27 fun v28 =>
LenS v28 fun v29 =>
Bin .num .lss w26 v29 fun v30 =>
Br v30 (
Bin .num .quo w26 v21 fun v31 =>
Bin .num .rem v31 (Value.int .i64 2) fun v32 =>
Bin .num .mul v32 v21 fun v33 =>
Bin .num .sub w26 v33 fun v34 =>
∀ J35 : List Value → Hp → Prop, (∀ w38 : Value, ∀ H37 : Hp, (∀ gs36 : Fr,
DR H37 fun R39 =>
FAddr 1 (.pointer (some ⟨b15, 0, none⟩)) fun v40 =>
Ld R39 v40 fun v41 =>
FAddr 1 (.pointer (some ⟨b1, 0, none⟩)) fun v42 =>
Ld R39 v42 fun v43 =>
IAddr 1 v43 w38 fun v44 =>
Ld R39 v44 fun v45 =>
IAddr 1 v41 w26 fun v46 =>
St 1 H37 v46 v45 fun H47 =>
Bin .num .add w26 (Value.int .i64 1) fun v48 =>
Back I22 m23 [v48] H47 [w26] H25) → J35 [w38] H37) →
Br a2 (
Bin .num .add v34 v21 fun v49 =>
JE J35 [v49] H25) (
JE J35 [v34] H25)) (
LdA 2 H25 (.pointer (some ⟨b15, 0, none⟩)) fun v50 =>
St 2 H25 (.pointer (some ⟨b3, 0, none⟩)) v50 fun H51 =>
LdA 2 H51 (.pointer (some ⟨b3, 0, none⟩)) fun v52 =>
R (.returned v52) H51)) (
CallF Try.prog g 74 #[(Value.int .i64 6), a1] H18 (fun v53 H54 =>
Fld 1 v53 fun v55 =>
IAddr 1 v55 (Value.int .i64 0) fun v56 =>
Ld H54 v56 fun v57 =>
∃ (I58 : List Value → Hp → Prop) (m59 : List Value → Hp → Nat), JE I58 [(Value.int .i64 0)] H54 ∧ ∀ w62 : Value, ∀ H61 : Hp, I58 [w62] H61 → ∀ gs60 : Fr,
FAddr 1 (.pointer (some ⟨b1, 0, none⟩)) fun v63 =>
Ld H61 v63 fun v64 =>
LenS v64 fun v65 =>
Bin .num .lss w62 v65 fun v66 =>
Br v66 (
∀ J67 : List Value → Hp → Prop, (∀ H69 : Hp, (∀ gs68 : Fr,
Bin .num .add w62 (Value.int .i64 1) fun v70 =>
Back I58 m59 [v70] H69 [w62] H61) → J67 [] H69) →
Br a2 (
FAddr 1 (.pointer (some ⟨b1, 0, none⟩)) fun v71 =>
Ld H61 v71 fun v72 =>
IAddr 1 v72 w62 fun v73 =>
Ld H61 v73 fun v74 =>
Bin .num .and v74 v57 fun v75 =>
DR H61 fun R76 =>
FAddr 1 (.pointer (some ⟨b15, 0, none⟩)) fun v77 =>
Ld R76 v77 fun v78 =>
Bin .num .shl (Value.int .u64 1) a1 fun v79 =>
Bin .num .shr v75 v79 fun v80 =>
Bin .num .or v75 v80 fun v81 =>
IAddr 1 v78 w62 fun v82 =>
St 1 H61 v82 v81 fun H83 =>
JE J67 [] H83) (
FAddr 1 (.pointer (some ⟨b1, 0, none⟩)) fun v84 =>
Ld H61 v84 fun v85 =>
IAddr 1 v85 w62 fun v86 =>
Ld H61 v86 fun v87 =>
Bin .num .andNot v87 v57 fun v88 =>
DR H61 fun R89 =>
FAddr 1 (.pointer (some ⟨b15, 0, none⟩)) fun v90 =>
Ld R89 v90 fun v91 =>
Bin .num .shl (Value.int .u64 1) a1 fun v92 =>
Bin .num .shl v88 v92 fun v93 =>
Bin .num .or v88 v93 fun v94 =>
IAddr 1 v91 w62 fun v95 =>
St 1 H61 v95 v94 fun H96 =>
JE J67 [] H96)) (
LdA 2 H61 (.pointer (some ⟨b15, 0, none⟩)) fun v97 =>
St 2 H61 (.pointer (some ⟨b3, 0, none⟩)) v97 fun H98 =>
LdA 2 H98 (.pointer (some ⟨b3, 0, none⟩)) fun v99 =>
R (.returned v99) H98)) (PanR R))
theorem L71_eq (g : Gh) (a0 a1 a2 : Value) (H : Hp) (R : Ending → Hp → Prop) : denF Try.prog g Try.f71 (.h 0 [] [] .e (.h 0 [] [] (.h 1 [] [] (.h 0 [0] [] (.h 0 [1] [] (.h 0 [2] [] (.h 0 [3] [] (.h 0 [4] [] (.h 1 [7] [] (.h 0 [5] [] (.h 0 [6] [] (.h 0 [7] [] (.h 0 [8] [] .e .e) .e) .e) .e) .e) .e) .e) .e) .e) .e) .e) (.h 0 [] [] (.h 0 [] [] .e (.h 0 [] [] (.h 0 [] [] .e (.h 0 [] [] (.h 0 [] [] .e (.h 0 [] [] (.h 0 [9] [2, 3, 6, 7, 8] (.h 0 [] [] .e (.h 0 [] [] (.h 0 [] [] (.h 0 [] [] .e (.h 1 [10] [2, 3, 6, 7, 8, 9] .e (.h 0 [0, 1, 2, 3, 4, 5, 6, 7, 8, 9] [] .e .e))) .e) .e)) .e) .e)) .e)) .e)) (.h 0 [] [] .e (.h 0 [] [] (.h 0 [] [] .e (.h 0 [] [] (.h 0 [12] [1, 2, 3, 6, 7, 11] (.h 0 [] [] .e (.h 1 [] [1, 2, 3, 6, 7, 11, 12] (.h 0 [] [] (.h 0 [] [] .e (.h 0 [] [] (.h 0 [] [] .e (.h 0 [0, 1, 2, 3, 4, 5, 6, 7, 8, 9, 10] [] .e .e)) (.h 0 [] [] .e (.h 0 [0, 1, 2, 3, 4, 5, 6, 7, 8, 9, 10] [] .e .e)))) .e) .e)) .e) .e)) .e))))) [a0, a1, a2] H R = L71 g a0 a1 a2 H R := by kernel_rfl
theorem L71_sound {g : Gh} {a0 a1 a2 : Value} {H : Hp} {R : Ending → Hp → Prop} (h : L71 g a0 a1 a2 H R) : SCalls Try.prog g 71 #[a0, a1, a2] H R :=
  denF_sound (fn := Try.f71) (hn := (.h 0 [] [] .e (.h 0 [] [] (.h 1 [] [] (.h 0 [0] [] (.h 0 [1] [] (.h 0 [2] [] (.h 0 [3] [] (.h 0 [4] [] (.h 1 [7] [] (.h 0 [5] [] (.h 0 [6] [] (.h 0 [7] [] (.h 0 [8] [] .e .e) .e) .e) .e) .e) .e) .e) .e) .e) .e) .e) (.h 0 [] [] (.h 0 [] [] .e (.h 0 [] [] (.h 0 [] [] .e (.h 0 [] [] (.h 0 [] [] .e (.h 0 [] [] (.h 0 [9] [2, 3, 6, 7, 8] (.h 0 [] [] .e (.h 0 [] [] (.h 0 [] [] (.h 0 [] [] .e (.h 1 [10] [2, 3, 6, 7, 8, 9] .e (.h 0 [0, 1, 2, 3, 4, 5, 6, 7, 8, 9] [] .e .e))) .e) .e)) .e) .e)) .e)) .e)) (.h 0 [] [] .e (.h 0 [] [] (.h 0 [] [] .e (.h 0 [] [] (.h 0 [12] [1, 2, 3, 6, 7, 11] (.h 0 [] [] .e (.h 1 [] [1, 2, 3, 6, 7, 11, 12] (.h 0 [] [] (.h 0 [] [] .e (.h 0 [] [] (.h 0 [] [] .e (.h 0 [0, 1, 2, 3, 4, 5, 6, 7, 8, 9, 10] [] .e .e)) (.h 0 [] [] .e (.h 0 [0, 1, 2, 3, 4, 5, 6, 7, 8, 9, 10] [] .e .e)))) .e) .e)) .e) .e)) .e)))))) Try.func71 (by rw [L71_eq]; exact h)
/-- thicket.thicketref05.Depends -/
def L72 (g : Gh) (a0 a1 : Value) (H : Hp) (R : Ending → Hp → Prop) : Prop :=
New H (.cells (Value.cells a0) 42 (0, 0)) fun b1 H2 =>
DR H2 fun R3 =>
LdA 2 R3 (.pointer (some ⟨b1, 0, none⟩)) fun v4 =>
LdA 2 R3 (.pointer (some ⟨b1, 0, none⟩)) fun v5 =>
CallF Try.prog g 71 #[v4, a1, (Value.bool false)] H2 (fun v6 H7 =>
Ent H7 R3 ∧
CallF Try.prog g 71 #[v5, a1, (Value.bool true)] H7 (fun v8 H9 =>
Ent H9 R3 ∧
CallF Try.prog g 18 #[v6, v8] H9 (fun v10 H11 =>
Ent H11 R3 ∧
Un .not v10 fun v12 =>
R (.returned v12) H11) NoKP) NoKP) NoKP
theorem L72_eq (g : Gh) (a0 a1 : Value) (H : Hp) (R : Ending → Hp → Prop) : denF Try.prog g Try.f72 (.h 0 [] [] .e (.h 0 [] [] (.h 0 [0, 1, 3, 4, 2, 5, 6, 7, 8] [] .e .e) .e)) [a0, a1] H R = L72 g a0 a1 H R := by kernel_rfl
theorem L72_sound {g : Gh} {a0 a1 : Value} {H : Hp} {R : Ending → Hp → Prop} (h : L72 g a0 a1 H R) : SCalls Try.prog g 72 #[a0, a1] H R :=
  denF_sound (fn := Try.f72) (hn := (.h 0 [] [] .e (.h 0 [] [] (.h 0 [0, 1, 3, 4, 2, 5, 6, 7, 8] [] .e .e) .e))) Try.func72 (by rw [L72_eq]; exact h)
/-- thicket.truth.of -/
def L73 (g : Gh) (a0 a1 : Value) (H : Hp) (R : Ending → Hp → Prop) : Prop :=
New H (.cells (Value.cells a0) 42 (0, 0)) fun b1 H2 =>
LdA 2 H2 (.pointer (some ⟨b1, 0, none⟩)) fun v3 =>
BuildSl Try.prog 22 1 [(0, v3)] H2 fun v4 H5 =>
CallF Try.prog g 38 #[v4] H5 (fun v6 H7 =>
Un .not v6 fun v8 =>
Br v8 (
R (.returned (Value.int .i64 5)) H7) (
Bin .num .lss a1 (Value.int .i64 0) fun v9 =>
Grp v9 false (fun t10 =>
FAddr 0 (.pointer (some ⟨b1, 0, none⟩)) fun v11 =>
Ld H7 v11 fun v12 =>
Bin .num .geq a1 v12 fun v13 =>
(H7 = H7 ∧ v13 = Value.bool t10)) (fun t10 => (Value.bool true) = Value.bool t10) fun t10 => ∀ gs14 : Fr,
Br (Value.bool t10) (
R (.returned (Value.int .i64 2)) H7) (
R (.returned (Value.int .i64 0)) H7))) (PanR R)
theorem L73_eq (g : Gh) (a0 a1 : Value) (H : Hp) (R : Ending → Hp → Prop) : denF Try.prog g Try.f73 (.h 0 [] [] .e (.h 0 [] [] (.h 0 [] [] (.h 0 [] [] .e (.h 0 [] [] .e (.h 0 [] [] (.h 0 [] [1] .e .e) .e))) .e) .e)) [a0, a1] H R = L73 g a0 a1 H R := by kernel_rfl
theorem L73_sound {g : Gh} {a0 a1 : Value} {H : Hp} {R : Ending → Hp → Prop} (h : L73 g a0 a1 H R) : SCalls Try.prog g 73 #[a0, a1] H R :=
  denF_sound (fn := Try.f73) (hn := (.h 0 [] [] .e (.h 0 [] [] (.h 0 [] [] (.h 0 [] [] .e (.h 0 [] [] .e (.h 0 [] [] (.h 0 [] [1] .e .e) .e))) .e) .e))) Try.func73 (by rw [L73_eq]; exact h)
/-- thicket.thicketref05.Var -/
def L74 (g : Gh) (a0 a1 : Value) (H : Hp) (R : Ending → Hp → Prop) : Prop :=
New H (.cells #[(Value.int .i64 0), (.slice none 0 0)] 42 (0, 0)) fun b1 H2 =>
Bin .num .shl (Value.int .i64 1) a0 fun v3 =>
MkSlice 4 1 1 (Value.bool false) H2 v3 v3 fun v4 H5 =>
∃ (I6 : List Value → Hp → Prop) (m7 : List Value → Hp → Nat), JE I6 [(Value.int .i64 0)] H5 ∧ ∀ w10 : Value, ∀ H9 : Hp, I6 [w10] H9 → ∀ gs8 : Fr,
LenS v4 fun v11 =>
Bin .num .lss w10 v11 fun v12 =>
Br v12 (
Bin .num .shr w10 a1 fun v13 =>
Bin .num .rem v13 (Value.int .i64 2) fun v14 =>
Bin .num .eql v14 (Value.int .i64 1) fun v15 =>
IAddr 1 v4 w10 fun v16 =>
St 1 H9 v16 v15 fun H17 =>
Bin .num .add w10 (Value.int .i64 1) fun v18 =>
Back I6 m7 [v18] H17 [w10] H9) (
CallF Try.prog g 75 #[a0, v4] H9 (fun v19 H20 =>
St 2 H20 (.pointer (some ⟨b1, 0, none⟩)) v19 fun H21 =>
LdA 2 H21 (.pointer (some ⟨b1, 0, none⟩)) fun v22 =>
R (.returned v22) H21) (PanR R))
theorem L74_eq (g : Gh) (a0 a1 : Value) (H : Hp) (R : Ending → Hp → Prop) : denF Try.prog g Try.f74 (.h 0 [] [] .e (.h 0 [] [] .e (.h 0 [] [] (.h 0 [] [] .e (.h 0 [] [] (.h 0 [6] [0, 1, 4, 5] .e .e) .e)) .e))) [a0, a1] H R = L74 g a0 a1 H R := by kernel_rfl
theorem L74_sound {g : Gh} {a0 a1 : Value} {H : Hp} {R : Ending → Hp → Prop} (h : L74 g a0 a1 H R) : SCalls Try.prog g 74 #[a0, a1] H R :=
  denF_sound (fn := Try.f74) (hn := (.h 0 [] [] .e (.h 0 [] [] .e (.h 0 [] [] (.h 0 [] [] .e (.h 0 [] [] (.h 0 [6] [0, 1, 4, 5] .e .e) .e)) .e)))) Try.func74 (by rw [L74_eq]; exact h)
/-- thicket.thicketref05.Fill -/
def L75 (g : Gh) (a0 a1 : Value) (H : Hp) (R : Ending → Hp → Prop) : Prop :=
New H (.cells #[(Value.int .i64 0), (.slice none 0 0)] 42 (0, 0)) fun b1 H2 =>
CallF Try.prog g 43 #[a0] H2 (fun v3 H4 =>
MkSlice 33 1 8 (Value.int .u64 0) H4 v3 v3 fun v5 H6 =>
Build Try.prog 42 [(0, a0), (1, v5)] fun v7 =>
New H6 (.cells #[(Value.int .i64 0), (.slice none 0 0)] 42 (0, 0)) fun b8 H9 =>
St 2 H9 (.pointer (some ⟨b8, 0, none⟩)) v7 fun H10 =>
∃ (I11 : List Value → Hp → Prop) (m12 : List Value → Hp → Nat), JE I11 [(Value.int .i64 0)] H10 ∧ ∀ w15 : Value, ∀ H14 : Hp, I11 [w15] H14 → ∀ gs13 : Fr,
LenS a1 fun v16 =>
Bin .num .lss w15 v16 fun v17 =>
Br v17 (
∀ J18 : List Value → Hp → Prop, (∀ H20 : Hp, (∀ gs19 : Fr,
Bin .num .add w15 (Value.int .i64 1) fun v21 =>
Back I11 m12 [v21] H20 [w15] H14) → J18 [] H20) →
IAddr 1 a1 w15 fun v22 =>
Ld H14 v22 fun v23 =>
Br v23 (
DR H14 fun R24 =>
FAddr 1 (.pointer (some ⟨b8, 0, none⟩)) fun v25 =>
Ld R24 v25 fun v26 =>
Bin .num .quo w15 (Value.int .i64 64) fun v27 =>
IAddr 1 v26 v27 fun v28 =>
Ld R24 v28 fun v29 =>
Bin .num .rem w15 (Value.int .i64 64) fun v30 =>
Bin .num .shl (Value.int .u64 1) v30 fun v31 =>
Bin .num .add v29 v31 fun v32 =>
IAddr 1 v26 v27 fun v33 =>
St 1 H14 v33 v32 fun H34 =>
JE J18 [] H34) (
JE J18 [] H14)) (
LdA 2 H14 (.pointer (some ⟨b8, 0, none⟩)) fun v35 =>
St 2 H14 (.pointer (some ⟨b1, 0, none⟩)) v35 fun H36 =>
LdA 2 H36 (.pointer (some ⟨b1, 0, none⟩)) fun v37 =>
R (.returned v37) H36)) (PanR R)
theorem L75_eq (g : Gh) (a0 a1 : Value) (H : Hp) (R : Ending → Hp → Prop) : denF Try.prog g Try.f75 (.h 0 [] [] .e (.h 0 [] [] .e (.h 0 [] [] (.h 0 [] [] .e (.h 0 [] [] (.h 0 [6] [1, 4, 5] (.h 0 [] [] .e (.h 1 [] [1, 4, 5, 6] (.h 0 [] [] (.h 0 [] [] .e (.h 0 [] [] (.h 0 [0, 1, 2, 3, 4, 5, 6, 7, 8, 9, 10, 11] [] .e .e) .e)) .e) .e)) .e) .e)) .e))) [a0, a1] H R = L75 g a0 a1 H R := by kernel_rfl
theorem L75_sound {g : Gh} {a0 a1 : Value} {H : Hp} {R : Ending → Hp → Prop} (h : L75 g a0 a1 H R) : SCalls Try.prog g 75 #[a0, a1] H R :=
  denF_sound (fn := Try.f75) (hn := (.h 0 [] [] .e (.h 0 [] [] .e (.h 0 [] [] (.h 0 [] [] .e (.h 0 [] [] (.h 0 [6] [1, 4, 5] (.h 0 [] [] .e (.h 1 [] [1, 4, 5, 6] (.h 0 [] [] (.h 0 [] [] .e (.h 0 [] [] (.h 0 [0, 1, 2, 3, 4, 5, 6, 7, 8, 9, 10, 11] [] .e .e) .e)) .e) .e)) .e) .e)) .e)))) Try.func75 (by rw [L75_eq]; exact h)
end Go.Proofs
