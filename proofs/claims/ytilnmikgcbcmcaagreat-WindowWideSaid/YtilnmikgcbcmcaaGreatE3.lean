import Derived.Test.YtilnmikgcbcmcaaGreatE2
import Derived.Test.YtilnmikgcbcmcaaGreatProg
set_option linter.unusedVariables false
set_option linter.unusedSimpArgs false
set_option linter.unusedSectionVars false
set_option maxRecDepth 100000
namespace Go.Proofs
open Go Go.Sx
def L3 (g : Gh) (a0 a1 a2 a3 a4 : Value) (H : Hp) (R : Ending → Hp → Prop) : Prop :=
CallF Tryz.prog g 9 #[] H (fun v1 H2 =>
Un .not v1 fun v3 =>
Br v3 (
R (.returned (Value.bool false)) H2) (
Bin .num .lss a0 (Value.int .i64 1) fun v4 =>
Grp v4 false (fun t5 =>
Bin .num .gtr a0 (Value.int .i64 64) fun v6 =>
(H2 = H2 ∧ v6 = Value.bool t5)) (fun t5 => (Value.bool true) = Value.bool t5) fun t5 => ∀ gs7 : Fr,
Br (Value.bool t5) (
R (.returned (Value.bool true)) H2) (
CallF Tryz.prog g 10 #[a0, (Value.int .i64 400)] H2 (fun v8 H9 =>
Ext 0 v8 fun v10 =>
Ext 1 v8 fun v11 =>
Bin .num .neq v11 (Value.int .i64 0) fun v12 =>
Grp v12 false (fun t13 =>
Bin .ptr .eql v10 (.pointer none) fun v14 =>
(H9 = H9 ∧ v14 = Value.bool t13)) (fun t13 => (Value.bool true) = Value.bool t13) fun t13 => ∀ gs15 : Fr,
Br (Value.bool t13) (
R (.returned (Value.bool false)) H9) (
LenS a1 fun v16 =>
∃ (I17 : List Value → Hp → Prop) (m18 : List Value → Hp → Nat), JE I17 [(Value.int .u64 0), (Value.int .i64 0)] H9 ∧ ∀ w21 w22 : Value, ∀ H20 : Hp, I17 [w21, w22] H20 → ∀ gs19 : Fr,
Bin .num .lss w22 v16 fun v23 =>
Br v23 (
∀ J24 : List Value → Hp → Prop, (∀ w27 : Value, ∀ H26 : Hp, (∀ gs25 : Fr,
Bin .num .add w22 (Value.int .i64 1) fun v28 =>
Back I17 m18 [w27, v28] H26 [w21, w22] H20) → J24 [w27] H26) →
IAddr 1 a1 w22 fun v29 =>
Ld H20 v29 fun v30 =>
Bin .num .geq v30 (Value.int .i64 0) fun v31 =>
Grp v31 true (fun t32 =>
Bin .num .lss v30 a0 fun v33 =>
(H20 = H20 ∧ v33 = Value.bool t32)) (fun t32 => (Value.bool false) = Value.bool t32) fun t32 => ∀ gs34 : Fr,
Br (Value.bool t32) (
Bin .num .shl (Value.int .u64 1) v30 fun v35 =>
Bin .num .or w21 v35 fun v36 =>
JE J24 [v36] H20) (
JE J24 [w21] H20)) (
Bin .num .sub a0 (Value.int .i64 1) fun v37 =>
∃ (I38 : List Value → Hp → Prop) (m39 : List Value → Hp → Nat), JE I38 [(Value.int .u32 1), v37] H20 ∧ ∀ w42 w43 : Value, ∀ H41 : Hp, I38 [w42, w43] H41 → ∀ gs40 : Fr,
Bin .num .geq w43 (Value.int .i64 0) fun v44 =>
Br v44 (
∀ J45 : List Value → Hp → Prop, (∀ w48 : Value, ∀ H47 : Hp, (∀ gs46 : Fr,
Bin .num .sub w43 (Value.int .i64 1) fun v49 =>
Back I38 m39 [w48, v49] H47 [w42, w43] H41) → J45 [w48] H47) →
Bin .num .shr w21 w43 fun v50 =>
Bin .num .rem v50 (Value.int .u64 2) fun v51 =>
Bin .num .eql v51 (Value.int .u64 1) fun v52 =>
Br v52 (
CallF Tryz.prog g 11 #[v10, w43, (Value.int .u32 0), w42] H41 (fun v53 H54 =>
Ext 0 v53 fun v55 =>
Ext 1 v53 fun v56 =>
∀ J57 : List Value → Hp → Prop, (∀ w60 : Value, ∀ H59 : Hp, (∀ gs58 : Fr,
Br w60 (
R (.returned (Value.bool false)) H59) (
JE J45 [v55] H59)) → J57 [w60] H59) →
Bin .num .neq v56 (Value.int .i64 0) fun v61 =>
Split v61 false (
CallF Tryz.prog g 12 #[v10, w42] H54 (fun v62 H63 =>
Bin .num .neq v62 (Value.int .i64 0) fun v64 =>
Pick (Value.bool false) (Value.bool true) v64 fun v65 =>
JE J57 [v65] H63) (PanR R)) (
Pick (Value.bool true) (Value.bool true) undef fun v66 =>
JE J57 [v66] H54)) (PanR R)) (
JE J45 [w42] H41)) (
CallF Tryz.prog g 13 #[v10] H41 (fun v67 H68 =>
CallF Tryz.prog g 14 #[v10] H68 (fun v69 H70 =>
CallF Tryz.prog g 15 #[v10] H70 (fun v71 H72 =>
CallF Tryz.prog g 16 #[v10, a2, a3] H72 (fun v73 H74 =>
Ext 0 v73 fun v75 =>
Ext 1 v73 fun v76 =>
New H74 (.cells #[(Value.int .i64 0), (Value.int .i64 0), (Value.int .i64 0), (Value.bool false)] 38 (0, 0)) fun b77 H78 =>
St 4 H78 (.pointer (some ⟨b77, 0, none⟩)) v75 fun H79 =>
Bin .num .lss a2 (Value.int .i64 2) fun v80 =>
Grp v80 false (fun t81 =>
Bin .num .gtr a2 (Value.int .i64 4) fun v82 =>
(H79 = H79 ∧ v82 = Value.bool t81)) (fun t81 => (Value.bool true) = Value.bool t81) fun t81 => ∀ gs83 : Fr,
Grp (Value.bool t81) false (fun t84 =>
Bin .num .lss a3 (Value.int .i64 0) fun v85 =>
(H79 = H79 ∧ v85 = Value.bool t84)) (fun t84 => (Value.bool true) = Value.bool t84) fun t84 => ∀ gs86 : Fr,
Grp (Value.bool t84) false (fun t87 =>
Bin .num .sub a0 a2 fun v88 =>
Bin .num .gtr a3 v88 fun v89 =>
(H79 = H79 ∧ v89 = Value.bool t87)) (fun t87 => (Value.bool true) = Value.bool t87) fun t87 => ∀ gs90 : Fr,
Br (Value.bool t87) (
Bin .num .eql v76 (Value.int .i64 1) fun v91 =>
Grp v91 true (fun t92 =>
LdA 4 H79 (.pointer (some ⟨b77, 0, none⟩)) fun v93 =>
Build Tryz.prog 38 [] fun v94 =>
RunP Tryz.prog g (opAt Tryz.f3 27 5) (ev (fun s => cond (Nat.beq s 128) v93 (cond (Nat.beq s 129) v94 (undef)))) H79 fun v95 =>
(H79 = H79 ∧ v95 = Value.bool t92)) (fun t92 => (Value.bool false) = Value.bool t92) fun t92 => ∀ gs96 : Fr,
R (.returned (Value.bool t92)) H79) (
CallF Tryz.prog g 17 #[v10, a2] H79 (fun v97 H98 =>
Ext 0 v97 fun v99 =>
Ext 1 v97 fun v100 =>
New H98 (.cells #[(Value.int .i64 0), (Value.int .i64 0), (Value.int .i64 0), (Value.bool false)] 38 (0, 0)) fun b101 H102 =>
St 4 H102 (.pointer (some ⟨b101, 0, none⟩)) v99 fun H103 =>
CallF Tryz.prog g 18 #[a2] H103 (fun v104 H105 =>
Bin .num .sub v104 (Value.int .i64 1) fun v106 =>
Bin .num .mul (Value.int .i64 2) v106 fun v107 =>
Build Tryz.prog 38 [(0, v69), (1, v69), (2, v107)] fun v108 =>
New H105 (.cells #[(Value.int .i64 0), (Value.int .i64 0), (Value.int .i64 0), (Value.bool false)] 38 (0, 0)) fun b109 H110 =>
St 4 H110 (.pointer (some ⟨b109, 0, none⟩)) v108 fun H111 =>
∀ J112 : List Value → Hp → Prop, (∀ w115 : Value, ∀ H114 : Hp, (∀ gs113 : Fr,
Br w115 (
R (.returned (Value.bool false)) H114) (
BuildSl Tryz.prog 23 3 [(0, w21), (1, (Value.int .u64 0)), (2, (Value.int .u64 9223372036854775807))] H114 fun v116 H117 =>
App Tryz.prog 29 1 8 (Value.int .u64 0) H117 v116 a4 fun v120 H121 =>
LenS v120 fun v122 =>
∃ (I123 : List Value → Hp → Prop) (m124 : List Value → Hp → Nat), JE I123 [(Value.int .i64 0)] H121 ∧ ∀ w127 : Value, ∀ H126 : Hp, I123 [w127] H126 → ∀ gs125 : Fr,
Bin .num .lss w127 v122 fun v128 =>
Br v128 (
IAddr 1 v120 w127 fun v129 =>
Ld H126 v129 fun v130 =>
CallF Tryz.prog g 20 #[v10, w42, v130] H126 (fun v131 H132 =>
Ext 0 v131 fun v133 =>
Ext 1 v131 fun v134 =>
Un .not v134 fun v135 =>
Grp v135 false (fun t136 =>
Bin .num .and v130 w21 fun v137 =>
Bin .num .eql v137 w21 fun v138 =>
Bin .bool .neq v133 v138 fun v139 =>
(H132 = H132 ∧ v139 = Value.bool t136)) (fun t136 => (Value.bool true) = Value.bool t136) fun t136 => ∀ gs140 : Fr,
Br (Value.bool t136) (
R (.returned (Value.bool false)) H132) (
Bin .num .add w127 (Value.int .i64 1) fun v141 =>
Back I123 m124 [v141] H132 [w127] H126)) (PanR R)) (
R (.returned (Value.bool true)) H126))) → J112 [w115] H114) →
Bin .num .neq v76 (Value.int .i64 0) fun v142 =>
Split v142 false (
Bin .num .neq v100 (Value.int .i64 0) fun v143 =>
Pick (Value.bool false) (Value.bool true) v143 fun v144 =>
Split v144 false (
LdA 4 H111 (.pointer (some ⟨b77, 0, none⟩)) fun v145 =>
LdA 4 H111 (.pointer (some ⟨b109, 0, none⟩)) fun v146 =>
RunP Tryz.prog g (opAt Tryz.f3 30 9) (ev (fun s => cond (Nat.beq s 152) v145 (cond (Nat.beq s 153) v146 (undef)))) H111 fun v147 =>
Pick (Value.bool false) (Value.bool true) v147 fun v148 =>
Split v148 false (
FAddr 2 (.pointer (some ⟨b101, 0, none⟩)) fun v149 =>
Ld H111 v149 fun v150 =>
Bin .num .sub a0 a2 fun v151 =>
Bin .num .add v151 (Value.int .i64 1) fun v152 =>
FAddr 2 (.pointer (some ⟨b109, 0, none⟩)) fun v153 =>
Ld H111 v153 fun v154 =>
Bin .num .mul v152 v154 fun v155 =>
Bin .num .neq v150 v155 fun v156 =>
Pick (Value.bool false) (Value.bool true) v156 fun v157 =>
Split v157 false (
FAddr 1 (.pointer (some ⟨b101, 0, none⟩)) fun v158 =>
Ld H111 v158 fun v159 =>
Bin .num .neq v159 v69 fun v160 =>
Pick (Value.bool false) (Value.bool true) v160 fun v161 =>
Split v161 false (
CallF Tryz.prog g 13 #[v10] H111 (fun v162 H163 =>
CallF Tryz.prog g 19 #[v67, v162] H163 (fun v164 H165 =>
Un .not v164 fun v166 =>
Pick (Value.bool false) (Value.bool true) v166 fun v167 =>
Split v167 false (
CallF Tryz.prog g 15 #[v10] H165 (fun v168 H169 =>
Bin .num .neq v168 v71 fun v170 =>
Pick (Value.bool false) (Value.bool true) v170 fun v171 =>
JE J112 [v171] H169) (PanR R)) (
Pick (Value.bool true) (Value.bool true) undef fun v172 =>
JE J112 [v172] H165)) (PanR R)) (PanR R)) (
Pick (Value.bool true) (Value.bool true) undef fun v173 =>
Pick v173 (Value.bool true) undef fun v174 =>
JE J112 [v174] H111)) (
Pick (Value.bool true) (Value.bool true) undef fun v175 =>
Pick v175 (Value.bool true) undef fun v176 =>
Pick v176 (Value.bool true) undef fun v177 =>
JE J112 [v177] H111)) (
Pick (Value.bool true) (Value.bool true) undef fun v178 =>
Pick v178 (Value.bool true) undef fun v179 =>
Pick v179 (Value.bool true) undef fun v180 =>
Pick v180 (Value.bool true) undef fun v181 =>
JE J112 [v181] H111)) (
Pick (Value.bool true) (Value.bool true) undef fun v182 =>
Pick v182 (Value.bool true) undef fun v183 =>
Pick v183 (Value.bool true) undef fun v184 =>
Pick v184 (Value.bool true) undef fun v185 =>
Pick v185 (Value.bool true) undef fun v186 =>
JE J112 [v186] H111)) (
Pick (Value.bool true) (Value.bool true) undef fun v187 =>
Pick v187 (Value.bool true) undef fun v188 =>
Pick v188 (Value.bool true) undef fun v189 =>
Pick v189 (Value.bool true) undef fun v190 =>
Pick v190 (Value.bool true) undef fun v191 =>
Pick v191 (Value.bool true) undef fun v192 =>
JE J112 [v192] H111)) (PanR R)) (PanR R))) (PanR R)) (PanR R)) (PanR R)) (PanR R))))) (PanR R)))) (PanR R)
theorem L3_eq (g : Gh) (a0 a1 a2 a3 a4 : Value) (H : Hp) (R : Ending → Hp → Prop) : denF Tryz.prog g Tryz.f3 (.h 0 [] [] .e (.h 0 [] [] .e (.h 0 [] [] (.h 0 [] [] (.h 0 [] [1] .e .e) .e) (.h 0 [] [] .e (.h 0 [] [] (.h 0 [] [] (.h 0 [] [1] .e .e) .e) (.h 0 [] [] .e (.h 0 [] [] (.h 0 [] [] .e (.h 0 [] [] (.h 0 [13, 52] [0, 2, 3, 4, 11, 50, 51] (.h 0 [] [] .e (.h 0 [] [] .e (.h 1 [13] [0, 2, 3, 4, 11, 50, 51, 52] (.h 0 [] [] (.h 0 [] [] .e (.h 0 [] [] (.h 0 [] [1] .e .e) .e)) .e) .e))) .e) .e)) (.h 0 [] [] .e (.h 0 [] [] (.h 0 [] [] .e (.h 0 [] [] (.h 0 [16, 17] [0, 2, 3, 4, 11, 13] (.h 0 [] [] .e (.h 1 [16] [0, 2, 3, 4, 11, 13, 17] (.h 0 [] [] (.h 0 [] [] .e (.h 0 [] [] (.h 0 [] [] .e (.h 0 [] [] (.h 1 [93] [0, 2, 3, 4, 11, 13, 17, 18] .e .e) .e)) .e)) .e) .e)) .e) .e)) (.h 0 [] [] .e (.h 0 [] [] .e (.h 0 [] [] (.h 0 [] [] (.h 0 [] [1] .e .e) (.h 0 [] [] (.h 0 [] [] (.h 0 [] [1] .e .e) .e) .e)) (.h 0 [] [] .e (.h 0 [] [] .e (.h 0 [] [] (.h 1 [186] [4, 11, 13, 16] .e .e) (.h 0 [] [] (.h 0 [] [] .e (.h 0 [] [] (.h 0 [192] [11, 13, 16, 190, 191] (.h 0 [] [] .e (.h 0 [] [] .e (.h 0 [] [] (.h 0 [] [] (.h 0 [] [] .e (.h 0 [] [] .e (.h 0 [] [] (.h 0 [] [1] .e .e) .e))) .e) .e))) .e) .e)) .e)))))))))))))))) [a0, a1, a2, a3, a4] H R = L3 g a0 a1 a2 a3 a4 H R := by kernel_rfl
theorem L3_sound {g : Gh} {a0 a1 a2 a3 a4 : Value} {H : Hp} {R : Ending → Hp → Prop} (h : L3 g a0 a1 a2 a3 a4 H R) : SCalls Tryz.prog g 3 #[a0, a1, a2, a3, a4] H R :=
  denF_sound (fn := Tryz.f3) (hn := (.h 0 [] [] .e (.h 0 [] [] .e (.h 0 [] [] (.h 0 [] [] (.h 0 [] [1] .e .e) .e) (.h 0 [] [] .e (.h 0 [] [] (.h 0 [] [] (.h 0 [] [1] .e .e) .e) (.h 0 [] [] .e (.h 0 [] [] (.h 0 [] [] .e (.h 0 [] [] (.h 0 [13, 52] [0, 2, 3, 4, 11, 50, 51] (.h 0 [] [] .e (.h 0 [] [] .e (.h 1 [13] [0, 2, 3, 4, 11, 50, 51, 52] (.h 0 [] [] (.h 0 [] [] .e (.h 0 [] [] (.h 0 [] [1] .e .e) .e)) .e) .e))) .e) .e)) (.h 0 [] [] .e (.h 0 [] [] (.h 0 [] [] .e (.h 0 [] [] (.h 0 [16, 17] [0, 2, 3, 4, 11, 13] (.h 0 [] [] .e (.h 1 [16] [0, 2, 3, 4, 11, 13, 17] (.h 0 [] [] (.h 0 [] [] .e (.h 0 [] [] (.h 0 [] [] .e (.h 0 [] [] (.h 1 [93] [0, 2, 3, 4, 11, 13, 17, 18] .e .e) .e)) .e)) .e) .e)) .e) .e)) (.h 0 [] [] .e (.h 0 [] [] .e (.h 0 [] [] (.h 0 [] [] (.h 0 [] [1] .e .e) (.h 0 [] [] (.h 0 [] [] (.h 0 [] [1] .e .e) .e) .e)) (.h 0 [] [] .e (.h 0 [] [] .e (.h 0 [] [] (.h 1 [186] [4, 11, 13, 16] .e .e) (.h 0 [] [] (.h 0 [] [] .e (.h 0 [] [] (.h 0 [192] [11, 13, 16, 190, 191] (.h 0 [] [] .e (.h 0 [] [] .e (.h 0 [] [] (.h 0 [] [] (.h 0 [] [] .e (.h 0 [] [] .e (.h 0 [] [] (.h 0 [] [1] .e .e) .e))) .e) .e))) .e) .e)) .e))))))))))))))))) Tryz.func3 (by rw [L3_eq]; exact h)
def L4 (g : Gh) (H : Hp) (R : Ending → Hp → Prop) : Prop :=
CallF Tryz.prog g 9 #[] H (fun v1 H2 =>
Un .not v1 fun v3 =>
Br v3 (
R (.returned (Value.bool false)) H2) (
BuildSl Tryz.prog 22 4 [(0, (Value.int .i64 0)), (1, (Value.int .i64 2)), (2, (Value.int .i64 1)), (3, (Value.int .i64 3))] H2 fun v4 H5 =>
CallF Tryz.prog g 22 #[] H5 (fun v6 H7 =>
BuildSl Tryz.prog 49 1 [(0, v6)] H7 fun v8 H9 =>
CallF Tryz.prog g 21 #[(Value.int .i64 100), v4, v8] H9 (fun v10 H11 =>
Ext 0 v10 fun v12 =>
Ext 1 v10 fun v13 =>
Ext 2 v10 fun v14 =>
New H11 (.cells #[(.pointer none), (.pointer none), (.slice none 0 0), (.slice none 0 0)] 51 (0, 0)) fun b15 H16 =>
St 4 H16 (.pointer (some ⟨b15, 0, none⟩)) v12 fun H17 =>
Un .not v14 fun v18 =>
Br v18 (
R (.returned (Value.bool false)) H17) (
FAddr 0 (.pointer (some ⟨b15, 0, none⟩)) fun v19 =>
Ld H17 v19 fun v20 =>
CallF Tryz.prog g 16 #[v20, (Value.int .i64 2), (Value.int .i64 3)] H17 (fun v21 H22 =>
Ext 0 v21 fun v23 =>
Ext 1 v21 fun v24 =>
New H22 (.cells #[(Value.int .i64 0), (Value.int .i64 0), (Value.int .i64 0), (Value.bool false)] 38 (0, 0)) fun b25 H26 =>
St 4 H26 (.pointer (some ⟨b25, 0, none⟩)) v23 fun H27 =>
FAddr 0 (.pointer (some ⟨b15, 0, none⟩)) fun v28 =>
Ld H27 v28 fun v29 =>
CallF Tryz.prog g 16 #[v29, (Value.int .i64 5), (Value.int .i64 0)] H27 (fun v30 H31 =>
Ext 0 v30 fun v32 =>
Ext 1 v30 fun v33 =>
New H31 (.cells #[(Value.int .i64 0), (Value.int .i64 0), (Value.int .i64 0), (Value.bool false)] 38 (0, 0)) fun b34 H35 =>
St 4 H35 (.pointer (some ⟨b34, 0, none⟩)) v32 fun H36 =>
FAddr 0 (.pointer (some ⟨b15, 0, none⟩)) fun v37 =>
Ld H36 v37 fun v38 =>
CallF Tryz.prog g 16 #[v38, (Value.int .i64 2), (Value.int .i64 (-1))] H36 (fun v39 H40 =>
Ext 0 v39 fun v41 =>
Ext 1 v39 fun v42 =>
New H40 (.cells #[(Value.int .i64 0), (Value.int .i64 0), (Value.int .i64 0), (Value.bool false)] 38 (0, 0)) fun b43 H44 =>
St 4 H44 (.pointer (some ⟨b43, 0, none⟩)) v41 fun H45 =>
FAddr 0 (.pointer (some ⟨b15, 0, none⟩)) fun v46 =>
Ld H45 v46 fun v47 =>
CallF Tryz.prog g 16 #[v47, (Value.int .i64 1), (Value.int .i64 0)] H45 (fun v48 H49 =>
Ext 0 v48 fun v50 =>
Ext 1 v48 fun v51 =>
New H49 (.cells #[(Value.int .i64 0), (Value.int .i64 0), (Value.int .i64 0), (Value.bool false)] 38 (0, 0)) fun b52 H53 =>
St 4 H53 (.pointer (some ⟨b52, 0, none⟩)) v50 fun H54 =>
FAddr 0 (.pointer (some ⟨b15, 0, none⟩)) fun v55 =>
Ld H54 v55 fun v56 =>
CallF Tryz.prog g 17 #[v56, (Value.int .i64 5)] H54 (fun v57 H58 =>
Ext 0 v57 fun v59 =>
Ext 1 v57 fun v60 =>
New H58 (.cells #[(Value.int .i64 0), (Value.int .i64 0), (Value.int .i64 0), (Value.bool false)] 38 (0, 0)) fun b61 H62 =>
St 4 H62 (.pointer (some ⟨b61, 0, none⟩)) v59 fun H63 =>
FAddr 0 (.pointer (some ⟨b15, 0, none⟩)) fun v64 =>
Ld H63 v64 fun v65 =>
CallF Tryz.prog g 23 #[v65, (Value.int .i64 1)] H63 (fun v66 H67 =>
Ext 0 v66 fun v68 =>
Ext 1 v66 fun v69 =>
Ext 2 v66 fun v70 =>
New H67 (.cells #[(Value.int .i64 0), (Value.int .i64 0), (Value.int .i64 0), (Value.bool false)] 38 (0, 0)) fun b71 H72 =>
St 4 H72 (.pointer (some ⟨b71, 0, none⟩)) v68 fun H73 =>
∀ J74 : List Value → Hp → Prop, (∀ w77 : Value, ∀ H76 : Hp, (∀ gs75 : Fr,
Br w77 (
R (.returned (Value.bool false)) H76) (
CallF Tryz.prog g 16 #[(.pointer none), (Value.int .i64 9), (Value.int .i64 9)] H76 (fun v78 H79 =>
Ext 0 v78 fun v80 =>
Ext 1 v78 fun v81 =>
New H79 (.cells #[(Value.int .i64 0), (Value.int .i64 0), (Value.int .i64 0), (Value.bool false)] 38 (0, 0)) fun b82 H83 =>
St 4 H83 (.pointer (some ⟨b82, 0, none⟩)) v80 fun H84 =>
CallF Tryz.prog g 17 #[(.pointer none), (Value.int .i64 2)] H84 (fun v85 H86 =>
Ext 0 v85 fun v87 =>
Ext 1 v85 fun v88 =>
New H86 (.cells #[(Value.int .i64 0), (Value.int .i64 0), (Value.int .i64 0), (Value.bool false)] 38 (0, 0)) fun b89 H90 =>
St 4 H90 (.pointer (some ⟨b89, 0, none⟩)) v87 fun H91 =>
CallF Tryz.prog g 23 #[(.pointer none), (Value.int .i64 1)] H91 (fun v92 H93 =>
Ext 0 v92 fun v94 =>
Ext 1 v92 fun v95 =>
Ext 2 v92 fun v96 =>
New H93 (.cells #[(Value.int .i64 0), (Value.int .i64 0), (Value.int .i64 0), (Value.bool false)] 38 (0, 0)) fun b97 H98 =>
St 4 H98 (.pointer (some ⟨b97, 0, none⟩)) v94 fun H99 =>
Bin .num .neq v81 (Value.int .i64 10) fun v100 =>
Grp v100 false (fun t101 =>
Bin .num .neq v88 (Value.int .i64 10) fun v102 =>
(H99 = H99 ∧ v102 = Value.bool t101)) (fun t101 => (Value.bool true) = Value.bool t101) fun t101 => ∀ gs103 : Fr,
Grp (Value.bool t101) false (fun t104 =>
Bin .num .neq v96 (Value.int .i64 10) fun v105 =>
(H99 = H99 ∧ v105 = Value.bool t104)) (fun t104 => (Value.bool true) = Value.bool t104) fun t104 => ∀ gs106 : Fr,
Grp (Value.bool t104) false (fun t107 =>
Bin .num .neq v95 (Value.int .i64 0) fun v108 =>
(H99 = H99 ∧ v108 = Value.bool t107)) (fun t107 => (Value.bool true) = Value.bool t107) fun t107 => ∀ gs109 : Fr,
Grp (Value.bool t107) false (fun t110 =>
LdA 4 H99 (.pointer (some ⟨b82, 0, none⟩)) fun v111 =>
Build Tryz.prog 38 [] fun v112 =>
RunP Tryz.prog g (opAt Tryz.f4 17 17) (ev (fun s => cond (Nat.beq s 133) v111 (cond (Nat.beq s 134) v112 (undef)))) H99 fun v113 =>
(H99 = H99 ∧ v113 = Value.bool t110)) (fun t110 => (Value.bool true) = Value.bool t110) fun t110 => ∀ gs114 : Fr,
Grp (Value.bool t110) false (fun t115 =>
LdA 4 H99 (.pointer (some ⟨b89, 0, none⟩)) fun v116 =>
Build Tryz.prog 38 [] fun v117 =>
RunP Tryz.prog g (opAt Tryz.f4 17 22) (ev (fun s => cond (Nat.beq s 138) v116 (cond (Nat.beq s 139) v117 (undef)))) H99 fun v118 =>
(H99 = H99 ∧ v118 = Value.bool t115)) (fun t115 => (Value.bool true) = Value.bool t115) fun t115 => ∀ gs119 : Fr,
Grp (Value.bool t115) false (fun t120 =>
LdA 4 H99 (.pointer (some ⟨b97, 0, none⟩)) fun v121 =>
Build Tryz.prog 38 [] fun v122 =>
RunP Tryz.prog g (opAt Tryz.f4 17 27) (ev (fun s => cond (Nat.beq s 143) v121 (cond (Nat.beq s 144) v122 (undef)))) H99 fun v123 =>
(H99 = H99 ∧ v123 = Value.bool t120)) (fun t120 => (Value.bool true) = Value.bool t120) fun t120 => ∀ gs124 : Fr,
Br (Value.bool t120) (
R (.returned (Value.bool false)) H99) (
CallF Tryz.prog g 10 #[(Value.int .i64 3), (Value.int .i64 2)] H99 (fun v125 H126 =>
Ext 0 v125 fun v127 =>
Ext 1 v125 fun v128 =>
CallF Tryz.prog g 16 #[v127, (Value.int .i64 3), (Value.int .i64 0)] H126 (fun v129 H130 =>
Ext 0 v129 fun v131 =>
Ext 1 v129 fun v132 =>
St 4 H130 (.pointer (some ⟨b82, 0, none⟩)) v131 fun H133 =>
CallF Tryz.prog g 17 #[v127, (Value.int .i64 4)] H133 (fun v134 H135 =>
Ext 0 v134 fun v136 =>
Ext 1 v134 fun v137 =>
St 4 H135 (.pointer (some ⟨b89, 0, none⟩)) v136 fun H138 =>
∀ J139 : List Value → Hp → Prop, (∀ w142 : Value, ∀ H141 : Hp, (∀ gs140 : Fr,
Br w142 (
R (.returned (Value.bool false)) H141) (
BuildSl Tryz.prog 22 4 [(0, (Value.int .i64 0)), (1, (Value.int .i64 1)), (2, (Value.int .i64 2)), (3, (Value.int .i64 3))] H141 fun v143 H144 =>
CallF Tryz.prog g 22 #[] H144 (fun v145 H146 =>
BuildSl Tryz.prog 49 1 [(0, v145)] H146 fun v147 H148 =>
CallF Tryz.prog g 21 #[(Value.int .i64 7), v143, v147] H148 (fun v149 H150 =>
Ext 0 v149 fun v151 =>
Ext 1 v149 fun v152 =>
Ext 2 v149 fun v153 =>
New H150 (.cells #[(.pointer none), (.pointer none), (.slice none 0 0), (.slice none 0 0)] 51 (0, 0)) fun b154 H155 =>
St 4 H155 (.pointer (some ⟨b154, 0, none⟩)) v151 fun H156 =>
FAddr 0 (.pointer (some ⟨b154, 0, none⟩)) fun v157 =>
Ld H156 v157 fun v158 =>
CallF Tryz.prog g 16 #[v158, (Value.int .i64 2), (Value.int .i64 1)] H156 (fun v159 H160 =>
Ext 0 v159 fun v161 =>
Ext 1 v159 fun v162 =>
St 4 H160 (.pointer (some ⟨b82, 0, none⟩)) v161 fun H163 =>
∀ J164 : List Value → Hp → Prop, (∀ w167 : Value, ∀ H166 : Hp, (∀ gs165 : Fr,
R (.returned w167) H166) → J164 [w167] H166) →
Split v153 true (
Bin .num .eql v162 (Value.int .i64 0) fun v168 =>
Pick (Value.bool true) v168 (Value.bool false) fun v169 =>
Split v169 true (
LdA 4 H163 (.pointer (some ⟨b82, 0, none⟩)) fun v170 =>
Build Tryz.prog 38 [(0, (Value.int .i64 4)), (1, (Value.int .i64 4))] fun v171 =>
RunP Tryz.prog g (opAt Tryz.f4 26 8) (ev (fun s => cond (Nat.beq s 202) v170 (cond (Nat.beq s 203) v171 (undef)))) H163 fun v172 =>
Pick (Value.bool true) v172 (Value.bool false) fun v173 =>
Split v173 true (
LdA 4 H163 (.pointer (some ⟨b154, 0, none⟩)) fun v174 =>
CallF Tryz.prog g 24 #[v174] H163 (fun v175 H176 =>
Pick (Value.bool true) v175 (Value.bool false) fun v177 =>
JE J164 [v177] H176) (PanR R)) (
Pick (Value.bool false) undef (Value.bool false) fun v178 =>
JE J164 [v178] H163)) (
Pick (Value.bool false) undef (Value.bool false) fun v179 =>
Pick v179 undef (Value.bool false) fun v180 =>
JE J164 [v180] H163)) (
Pick (Value.bool false) undef (Value.bool false) fun v181 =>
Pick v181 undef (Value.bool false) fun v182 =>
Pick v182 undef (Value.bool false) fun v183 =>
JE J164 [v183] H163)) (PanR R)) (PanR R)) (PanR R))) → J139 [w142] H141) →
Bin .num .neq v132 (Value.int .i64 0) fun v184 =>
Split v184 false (
Bin .num .neq v137 (Value.int .i64 0) fun v185 =>
Pick (Value.bool false) (Value.bool true) v185 fun v186 =>
Split v186 false (
LdA 4 H138 (.pointer (some ⟨b82, 0, none⟩)) fun v187 =>
Build Tryz.prog 38 [(2, (Value.int .i64 10))] fun v188 =>
RunP Tryz.prog g (opAt Tryz.f4 22 9) (ev (fun s => cond (Nat.beq s 168) v187 (cond (Nat.beq s 169) v188 (undef)))) H138 fun v189 =>
Pick (Value.bool false) (Value.bool true) v189 fun v190 =>
Split v190 false (
LdA 4 H138 (.pointer (some ⟨b89, 0, none⟩)) fun v191 =>
Build Tryz.prog 38 [] fun v192 =>
RunP Tryz.prog g (opAt Tryz.f4 22 14) (ev (fun s => cond (Nat.beq s 173) v191 (cond (Nat.beq s 174) v192 (undef)))) H138 fun v193 =>
Pick (Value.bool false) (Value.bool true) v193 fun v194 =>
Split v194 false (
CallF Tryz.prog g 15 #[v127] H138 (fun v195 H196 =>
Bin .num .neq v195 (Value.int .i64 0) fun v197 =>
Pick (Value.bool false) (Value.bool true) v197 fun v198 =>
JE J139 [v198] H196) (PanR R)) (
Pick (Value.bool true) (Value.bool true) undef fun v199 =>
JE J139 [v199] H138)) (
Pick (Value.bool true) (Value.bool true) undef fun v200 =>
Pick v200 (Value.bool true) undef fun v201 =>
JE J139 [v201] H138)) (
Pick (Value.bool true) (Value.bool true) undef fun v202 =>
Pick v202 (Value.bool true) undef fun v203 =>
Pick v203 (Value.bool true) undef fun v204 =>
JE J139 [v204] H138)) (
Pick (Value.bool true) (Value.bool true) undef fun v205 =>
Pick v205 (Value.bool true) undef fun v206 =>
Pick v206 (Value.bool true) undef fun v207 =>
Pick v207 (Value.bool true) undef fun v208 =>
JE J139 [v208] H138)) (PanR R)) (PanR R)) (PanR R))) (PanR R)) (PanR R)) (PanR R))) → J74 [w77] H76) →
Bin .num .neq v24 (Value.int .i64 1) fun v209 =>
Split v209 false (
Bin .num .neq v33 (Value.int .i64 1) fun v210 =>
Pick (Value.bool false) (Value.bool true) v210 fun v211 =>
Split v211 false (
Bin .num .neq v42 (Value.int .i64 1) fun v212 =>
Pick (Value.bool false) (Value.bool true) v212 fun v213 =>
Split v213 false (
Bin .num .neq v51 (Value.int .i64 1) fun v214 =>
Pick (Value.bool false) (Value.bool true) v214 fun v215 =>
Split v215 false (
Bin .num .neq v60 (Value.int .i64 1) fun v216 =>
Pick (Value.bool false) (Value.bool true) v216 fun v217 =>
Split v217 false (
Bin .num .neq v70 (Value.int .i64 1) fun v218 =>
Pick (Value.bool false) (Value.bool true) v218 fun v219 =>
Split v219 false (
Bin .num .neq v69 (Value.int .i64 0) fun v220 =>
Pick (Value.bool false) (Value.bool true) v220 fun v221 =>
Split v221 false (
FAddr 0 (.pointer (some ⟨b15, 0, none⟩)) fun v222 =>
Ld H73 v222 fun v223 =>
CallF Tryz.prog g 15 #[v223] H73 (fun v224 H225 =>
Bin .num .neq v224 (Value.int .i64 0) fun v226 =>
Pick (Value.bool false) (Value.bool true) v226 fun v227 =>
JE J74 [v227] H225) (PanR R)) (
Pick (Value.bool true) (Value.bool true) undef fun v228 =>
JE J74 [v228] H73)) (
Pick (Value.bool true) (Value.bool true) undef fun v229 =>
Pick v229 (Value.bool true) undef fun v230 =>
JE J74 [v230] H73)) (
Pick (Value.bool true) (Value.bool true) undef fun v231 =>
Pick v231 (Value.bool true) undef fun v232 =>
Pick v232 (Value.bool true) undef fun v233 =>
JE J74 [v233] H73)) (
Pick (Value.bool true) (Value.bool true) undef fun v234 =>
Pick v234 (Value.bool true) undef fun v235 =>
Pick v235 (Value.bool true) undef fun v236 =>
Pick v236 (Value.bool true) undef fun v237 =>
JE J74 [v237] H73)) (
Pick (Value.bool true) (Value.bool true) undef fun v238 =>
Pick v238 (Value.bool true) undef fun v239 =>
Pick v239 (Value.bool true) undef fun v240 =>
Pick v240 (Value.bool true) undef fun v241 =>
Pick v241 (Value.bool true) undef fun v242 =>
JE J74 [v242] H73)) (
Pick (Value.bool true) (Value.bool true) undef fun v243 =>
Pick v243 (Value.bool true) undef fun v244 =>
Pick v244 (Value.bool true) undef fun v245 =>
Pick v245 (Value.bool true) undef fun v246 =>
Pick v246 (Value.bool true) undef fun v247 =>
Pick v247 (Value.bool true) undef fun v248 =>
JE J74 [v248] H73)) (
Pick (Value.bool true) (Value.bool true) undef fun v249 =>
Pick v249 (Value.bool true) undef fun v250 =>
Pick v250 (Value.bool true) undef fun v251 =>
Pick v251 (Value.bool true) undef fun v252 =>
Pick v252 (Value.bool true) undef fun v253 =>
Pick v253 (Value.bool true) undef fun v254 =>
Pick v254 (Value.bool true) undef fun v255 =>
JE J74 [v255] H73)) (PanR R)) (PanR R)) (PanR R)) (PanR R)) (PanR R)) (PanR R))) (PanR R)) (PanR R))) (PanR R)
theorem L4_eq (g : Gh) (H : Hp) (R : Ending → Hp → Prop) : denF Tryz.prog g Tryz.f4 (.h 0 [] [] .e (.h 0 [] [] .e (.h 0 [] [] .e (.h 0 [] [] .e (.h 0 [] [] .e (.h 0 [] [] .e (.h 0 [] [] .e (.h 0 [] [] .e (.h 0 [] [] .e (.h 0 [] [] .e (.h 0 [] [] (.h 1 [104] [] .e .e) (.h 0 [] [] .e (.h 0 [] [] .e (.h 0 [] [] .e (.h 0 [] [] (.h 0 [] [] (.h 0 [] [1] .e .e) .e) (.h 0 [] [] .e (.h 0 [] [] .e (.h 0 [] [] .e (.h 0 [] [] (.h 1 [181] [17] .e .e) (.h 0 [] [] .e (.h 0 [] [] .e (.h 1 [0] [] .e .e)))))))))))))))))))))) [] H R = L4 g H R := by kernel_rfl
theorem L4_sound {g : Gh} {H : Hp} {R : Ending → Hp → Prop} (h : L4 g H R) : SCalls Tryz.prog g 4 #[] H R :=
  denF_sound (fn := Tryz.f4) (hn := (.h 0 [] [] .e (.h 0 [] [] .e (.h 0 [] [] .e (.h 0 [] [] .e (.h 0 [] [] .e (.h 0 [] [] .e (.h 0 [] [] .e (.h 0 [] [] .e (.h 0 [] [] .e (.h 0 [] [] .e (.h 0 [] [] (.h 1 [104] [] .e .e) (.h 0 [] [] .e (.h 0 [] [] .e (.h 0 [] [] .e (.h 0 [] [] (.h 0 [] [] (.h 0 [] [1] .e .e) .e) (.h 0 [] [] .e (.h 0 [] [] .e (.h 0 [] [] .e (.h 0 [] [] (.h 1 [181] [17] .e .e) (.h 0 [] [] .e (.h 0 [] [] .e (.h 1 [0] [] .e .e))))))))))))))))))))))) Tryz.func4 (by rw [L4_eq]; exact h)
def L9 (g : Gh) (H : Hp) (R : Ending → Hp → Prop) : Prop :=
BuildSl Tryz.prog 22 4 [(0, (Value.int .i64 0)), (1, (Value.int .i64 2)), (2, (Value.int .i64 1)), (3, (Value.int .i64 3))] H fun v1 H2 =>
CallF Tryz.prog g 22 #[] H2 (fun v3 H4 =>
BuildSl Tryz.prog 49 1 [(0, v3)] H4 fun v5 H6 =>
CallF Tryz.prog g 21 #[(Value.int .i64 100), v1, v5] H6 (fun v7 H8 =>
Ext 0 v7 fun v9 =>
Ext 1 v7 fun v10 =>
Ext 2 v7 fun v11 =>
New H8 (.cells #[(.pointer none), (.pointer none), (.slice none 0 0), (.slice none 0 0)] 51 (0, 0)) fun b12 H13 =>
St 4 H13 (.pointer (some ⟨b12, 0, none⟩)) v9 fun H14 =>
Un .not v11 fun v15 =>
Br v15 (
R (.returned (Value.bool false)) H14) (
FAddr 0 (.pointer (some ⟨b12, 0, none⟩)) fun v16 =>
Ld H14 v16 fun v17 =>
CallF Tryz.prog g 16 #[v17, (Value.int .i64 2), (Value.int .i64 1)] H14 (fun v18 H19 =>
Ext 0 v18 fun v20 =>
Ext 1 v18 fun v21 =>
New H19 (.cells #[(Value.int .i64 0), (Value.int .i64 0), (Value.int .i64 0), (Value.bool false)] 38 (0, 0)) fun b22 H23 =>
St 4 H23 (.pointer (some ⟨b22, 0, none⟩)) v20 fun H24 =>
FAddr 0 (.pointer (some ⟨b12, 0, none⟩)) fun v25 =>
Ld H24 v25 fun v26 =>
CallF Tryz.prog g 16 #[v26, (Value.int .i64 2), (Value.int .i64 1)] H24 (fun v27 H28 =>
Ext 0 v27 fun v29 =>
Ext 1 v27 fun v30 =>
New H28 (.cells #[(Value.int .i64 0), (Value.int .i64 0), (Value.int .i64 0), (Value.bool false)] 38 (0, 0)) fun b31 H32 =>
St 4 H32 (.pointer (some ⟨b31, 0, none⟩)) v29 fun H33 =>
FAddr 0 (.pointer (some ⟨b12, 0, none⟩)) fun v34 =>
Ld H33 v34 fun v35 =>
CallF Tryz.prog g 17 #[v35, (Value.int .i64 2)] H33 (fun v36 H37 =>
Ext 0 v36 fun v38 =>
Ext 1 v36 fun v39 =>
New H37 (.cells #[(Value.int .i64 0), (Value.int .i64 0), (Value.int .i64 0), (Value.bool false)] 38 (0, 0)) fun b40 H41 =>
St 4 H41 (.pointer (some ⟨b40, 0, none⟩)) v38 fun H42 =>
FAddr 0 (.pointer (some ⟨b12, 0, none⟩)) fun v43 =>
Ld H42 v43 fun v44 =>
CallF Tryz.prog g 23 #[v44, (Value.int .i64 3)] H42 (fun v45 H46 =>
Ext 0 v45 fun v47 =>
Ext 1 v45 fun v48 =>
Ext 2 v45 fun v49 =>
New H46 (.cells #[(Value.int .i64 0), (Value.int .i64 0), (Value.int .i64 0), (Value.bool false)] 38 (0, 0)) fun b50 H51 =>
St 4 H51 (.pointer (some ⟨b50, 0, none⟩)) v47 fun H52 =>
Bin .num .neq v21 (Value.int .i64 0) fun v53 =>
Grp v53 false (fun t54 =>
Bin .num .neq v30 (Value.int .i64 0) fun v55 =>
(H52 = H52 ∧ v55 = Value.bool t54)) (fun t54 => (Value.bool true) = Value.bool t54) fun t54 => ∀ gs56 : Fr,
Grp (Value.bool t54) false (fun t57 =>
Bin .num .neq v39 (Value.int .i64 0) fun v58 =>
(H52 = H52 ∧ v58 = Value.bool t57)) (fun t57 => (Value.bool true) = Value.bool t57) fun t57 => ∀ gs59 : Fr,
Grp (Value.bool t57) false (fun t60 =>
Bin .num .neq v49 (Value.int .i64 0) fun v61 =>
(H52 = H52 ∧ v61 = Value.bool t60)) (fun t60 => (Value.bool true) = Value.bool t60) fun t60 => ∀ gs62 : Fr,
Grp (Value.bool t60) false (fun t63 =>
Bin .num .neq v48 (Value.int .i64 1) fun v64 =>
(H52 = H52 ∧ v64 = Value.bool t63)) (fun t63 => (Value.bool true) = Value.bool t63) fun t63 => ∀ gs65 : Fr,
Br (Value.bool t63) (
R (.returned (Value.bool false)) H52) (
LdA 4 H52 (.pointer (some ⟨b22, 0, none⟩)) fun v66 =>
Build Tryz.prog 38 [(0, (Value.int .i64 6)), (1, (Value.int .i64 4)), (2, (Value.int .i64 1))] fun v67 =>
RunP Tryz.prog g (opAt Tryz.f9 10 2) (ev (fun s => cond (Nat.beq s 66) v66 (cond (Nat.beq s 67) v67 (undef)))) H52 fun v68 =>
Grp v68 true (fun t69 =>
LdA 4 H52 (.pointer (some ⟨b31, 0, none⟩)) fun v70 =>
Build Tryz.prog 38 [(0, (Value.int .i64 4)), (1, (Value.int .i64 4)), (2, (Value.int .i64 2))] fun v71 =>
RunP Tryz.prog g (opAt Tryz.f9 10 6) (ev (fun s => cond (Nat.beq s 70) v70 (cond (Nat.beq s 71) v71 (undef)))) H52 fun v72 =>
(H52 = H52 ∧ v72 = Value.bool t69)) (fun t69 => (Value.bool false) = Value.bool t69) fun t69 => ∀ gs73 : Fr,
Grp (Value.bool t69) true (fun t74 =>
LdA 4 H52 (.pointer (some ⟨b40, 0, none⟩)) fun v75 =>
Build Tryz.prog 38 [(0, (Value.int .i64 4)), (1, (Value.int .i64 4)), (2, (Value.int .i64 6))] fun v76 =>
RunP Tryz.prog g (opAt Tryz.f9 10 11) (ev (fun s => cond (Nat.beq s 75) v75 (cond (Nat.beq s 76) v76 (undef)))) H52 fun v77 =>
(H52 = H52 ∧ v77 = Value.bool t74)) (fun t74 => (Value.bool false) = Value.bool t74) fun t74 => ∀ gs78 : Fr,
R (.returned (Value.bool t74)) H52)) (PanR R)) (PanR R)) (PanR R)) (PanR R))) (PanR R)) (PanR R)
theorem L9_eq (g : Gh) (H : Hp) (R : Ending → Hp → Prop) : denF Tryz.prog g Tryz.f9 (.h 0 [] [] .e (.h 0 [] [] .e (.h 0 [] [] .e (.h 0 [] [] .e (.h 0 [] [] .e (.h 0 [] [] .e (.h 0 [] [] .e (.h 0 [] [] (.h 0 [] [] (.h 0 [] [1] .e .e) .e) (.h 0 [] [] (.h 0 [] [1] .e .e) .e))))))))) [] H R = L9 g H R := by kernel_rfl
theorem L9_sound {g : Gh} {H : Hp} {R : Ending → Hp → Prop} (h : L9 g H R) : SCalls Tryz.prog g 9 #[] H R :=
  denF_sound (fn := Tryz.f9) (hn := (.h 0 [] [] .e (.h 0 [] [] .e (.h 0 [] [] .e (.h 0 [] [] .e (.h 0 [] [] .e (.h 0 [] [] .e (.h 0 [] [] .e (.h 0 [] [] (.h 0 [] [] (.h 0 [] [1] .e .e) .e) (.h 0 [] [] (.h 0 [] [1] .e .e) .e)))))))))) Tryz.func9 (by rw [L9_eq]; exact h)
def L10 (g : Gh) (a0 a1 : Value) (H : Hp) (R : Ending → Hp → Prop) : Prop :=
CallF Tryz.prog g 43 #[a0] H (fun v1 H2 =>
Ext 0 v1 fun v3 =>
Ext 1 v1 fun v4 =>
Bin .num .neq v4 (Value.int .i64 0) fun v5 =>
Grp v5 false (fun t6 =>
Bin .num .lss a0 (Value.int .i64 1) fun v7 =>
(H2 = H2 ∧ v7 = Value.bool t6)) (fun t6 => (Value.bool true) = Value.bool t6) fun t6 => ∀ gs8 : Fr,
Grp (Value.bool t6) false (fun t9 =>
Bin .num .lss a1 (Value.int .i64 2) fun v10 =>
(H2 = H2 ∧ v10 = Value.bool t9)) (fun t9 => (Value.bool true) = Value.bool t9) fun t9 => ∀ gs11 : Fr,
Grp (Value.bool t9) false (fun t12 =>
Bin .num .gtr a1 (Value.int .i64 1048576) fun v13 =>
(H2 = H2 ∧ v13 = Value.bool t12)) (fun t12 => (Value.bool true) = Value.bool t12) fun t12 => ∀ gs14 : Fr,
Br (Value.bool t12) (
R (.returned (.tuple #[(.pointer none), (Value.int .i64 1)])) H2) (
CallF Tryz.prog g 44 #[a0] H2 (fun v15 H16 =>
Ext 0 v15 fun v17 =>
Ext 1 v15 fun v18 =>
Bin .num .neq v18 (Value.int .i64 0) fun v19 =>
Br v19 (
R (.returned (.tuple #[(.pointer none), v18])) H16) (
CallF Tryz.prog g 45 #[a1, v17] H16 (fun v20 H21 =>
Ext 0 v20 fun v22 =>
Ext 1 v20 fun v23 =>
New H21 (.cells #[(.pointer none), (.pointer none), (.slice none 0 0), (.slice none 0 0)] 92 (0, 0)) fun b24 H25 =>
St 4 H25 (.pointer (some ⟨b24, 0, none⟩)) v22 fun H26 =>
Bin .num .neq v23 (Value.int .i64 0) fun v27 =>
Br v27 (
R (.returned (.tuple #[(.pointer none), v23])) H26) (
DR H26 fun R28 =>
LdA 4 R28 (.pointer (some ⟨b24, 0, none⟩)) fun v29 =>
CallF Tryz.prog g 46 #[v3] H26 (fun v30 H31 =>
Ent H31 R28 ∧
Build Tryz.prog 96 [(0, v29), (1, a0), (2, v3), (3, v30)] fun v32 =>
New H31 (.cells (Value.cells v32) 96 (0, 0)) fun b33 H34 =>
Ent H34 R28 ∧
R (.returned (.tuple #[(.pointer (some ⟨b33, 0, none⟩)), (Value.int .i64 0)])) H34) NoKP)) (PanR R))) (PanR R))) (PanR R)
theorem L10_eq (g : Gh) (a0 a1 : Value) (H : Hp) (R : Ending → Hp → Prop) : denF Tryz.prog g Tryz.f10 (.h 0 [] [] .e (.h 0 [] [] .e (.h 0 [] [] (.h 0 [] [] (.h 0 [] [1] .e .e) .e) (.h 0 [] [] .e (.h 0 [] [] .e (.h 0 [] [] .e (.h 0 [] [] .e (.h 0 [] [] (.h 0 [0, 1, 2, 3, 4, 5, 6, 7, 8] [] .e .e) .e)))))))) [a0, a1] H R = L10 g a0 a1 H R := by kernel_rfl
theorem L10_sound {g : Gh} {a0 a1 : Value} {H : Hp} {R : Ending → Hp → Prop} (h : L10 g a0 a1 H R) : SCalls Tryz.prog g 10 #[a0, a1] H R :=
  denF_sound (fn := Tryz.f10) (hn := (.h 0 [] [] .e (.h 0 [] [] .e (.h 0 [] [] (.h 0 [] [] (.h 0 [] [1] .e .e) .e) (.h 0 [] [] .e (.h 0 [] [] .e (.h 0 [] [] .e (.h 0 [] [] .e (.h 0 [] [] (.h 0 [0, 1, 2, 3, 4, 5, 6, 7, 8] [] .e .e) .e))))))))) Tryz.func10 (by rw [L10_eq]; exact h)
def L11 (g : Gh) (a0 a1 a2 a3 : Value) (H : Hp) (R : Ending → Hp → Prop) : Prop :=
Bin .ptr .eql a0 (.pointer none) fun v1 =>
Br v1 (
R (.returned (.tuple #[(Value.int .u32 0), (Value.int .i64 10)])) H) (
CallF Tryz.prog g 47 #[a0, a1, a2, a3] H (fun v2 H3 =>
Bin .num .neq v2 (Value.int .i64 0) fun v4 =>
Br v4 (
R (.returned (.tuple #[(Value.int .u32 0), v2])) H3) (
CallF Tryz.prog g 48 #[a0, a1, a2, a3] H3 (fun v5 H6 =>
Ext 0 v5 fun v7 =>
Ext 1 v5 fun v8 =>
∀ J9 : List Value → Hp → Prop, (∀ w12 : Value, ∀ H11 : Hp, (∀ gs10 : Fr,
CallF Tryz.prog g 51 #[a0, w12] H11 (fun v13 H14 =>
Bin .num .neq v13 (Value.int .i64 0) fun v15 =>
Br v15 (
R (.returned (.tuple #[(Value.int .u32 0), v13])) H14) (
R (.returned (.tuple #[w12, (Value.int .i64 0)])) H14)) (PanR R)) → J9 [w12] H11) →
Un .not v8 fun v16 =>
Br v16 (
Nil a0 fun v17 =>
FAddr 0 v17 fun v18 =>
CallF Tryz.prog g 49 #[v18, (Value.int .i64 1)] H6 (fun v19 H20 =>
Un .not v19 fun v21 =>
Br v21 (
R (.returned (.tuple #[(Value.int .u32 0), (Value.int .i64 9)])) H20) (
Nil a0 fun v22 =>
FAddr 0 v22 fun v23 =>
Build Tryz.prog 103 [(0, a1), (1, a2), (2, a3)] fun v24 =>
CallF Tryz.prog g 50 #[v23, v24] H20 (fun v25 H26 =>
JE J9 [v25] H26) (PanR R))) (PanR R)) (
JE J9 [v7] H6)) (PanR R))) (PanR R))
theorem L11_eq (g : Gh) (a0 a1 a2 a3 : Value) (H : Hp) (R : Ending → Hp → Prop) : denF Tryz.prog g Tryz.f11 (.h 0 [] [] .e (.h 0 [] [] .e (.h 0 [] [] .e (.h 0 [] [] .e (.h 1 [11] [0] .e .e))))) [a0, a1, a2, a3] H R = L11 g a0 a1 a2 a3 H R := by kernel_rfl
theorem L11_sound {g : Gh} {a0 a1 a2 a3 : Value} {H : Hp} {R : Ending → Hp → Prop} (h : L11 g a0 a1 a2 a3 H R) : SCalls Tryz.prog g 11 #[a0, a1, a2, a3] H R :=
  denF_sound (fn := Tryz.f11) (hn := (.h 0 [] [] .e (.h 0 [] [] .e (.h 0 [] [] .e (.h 0 [] [] .e (.h 1 [11] [0] .e .e)))))) Tryz.func11 (by rw [L11_eq]; exact h)
def L12 (g : Gh) (a0 a1 : Value) (H : Hp) (R : Ending → Hp → Prop) : Prop :=
Bin .ptr .eql a0 (.pointer none) fun v1 =>
Br v1 (
R (.returned (Value.int .i64 10)) H) (
∀ J2 : List Value → Hp → Prop, (∀ H4 : Hp, (∀ gs3 : Fr,
Nil a0 fun v5 =>
FAddr 7 v5 fun v6 =>
St 1 H4 v6 (.slice none 0 0) fun H7 =>
R (.returned (Value.int .i64 0)) H7) → J2 [] H4) →
Bin .num .gtr a1 (Value.int .u32 1) fun v8 =>
Br v8 (
CallF Tryz.prog g 52 #[a0, a1] H (fun v9 H10 =>
Bin .num .eql v9 (Value.int .i64 0) fun v11 =>
Br v11 (
R (.returned (Value.int .i64 3)) H10) (
Nil a0 fun v12 =>
FAddr 0 v12 fun v13 =>
FAddr 3 v13 fun v14 =>
Ld H10 v14 fun v15 =>
IAddr 1 v15 a1 fun v16 =>
Ld H10 v16 fun v17 =>
Bin .num .sub v17 (Value.int .i32 1) fun v18 =>
IAddr 1 v15 a1 fun v19 =>
St 1 H10 v19 v18 fun H20 =>
Nil a0 fun v21 =>
FAddr 0 v21 fun v22 =>
FAddr 3 v22 fun v23 =>
Ld H20 v23 fun v24 =>
IAddr 1 v24 a1 fun v25 =>
Ld H20 v25 fun v26 =>
Bin .num .eql v26 (Value.int .i32 0) fun v27 =>
Br v27 (
Nil a0 fun v28 =>
FAddr 0 v28 fun v29 =>
CallF Tryz.prog g 53 #[v29, a1] H20 (fun v30 H31 =>
JE J2 [] H31) (PanR R)) (
JE J2 [] H20))) (PanR R)) (
JE J2 [] H))
theorem L12_eq (g : Gh) (a0 a1 : Value) (H : Hp) (R : Ending → Hp → Prop) : denF Tryz.prog g Tryz.f12 (.h 0 [] [] .e (.h 0 [] [] .e (.h 1 [] [0] .e .e))) [a0, a1] H R = L12 g a0 a1 H R := by kernel_rfl
theorem L12_sound {g : Gh} {a0 a1 : Value} {H : Hp} {R : Ending → Hp → Prop} (h : L12 g a0 a1 H R) : SCalls Tryz.prog g 12 #[a0, a1] H R :=
  denF_sound (fn := Tryz.f12) (hn := (.h 0 [] [] .e (.h 0 [] [] .e (.h 1 [] [0] .e .e)))) Tryz.func12 (by rw [L12_eq]; exact h)
def L13 (g : Gh) (a0 : Value) (H : Hp) (R : Ending → Hp → Prop) : Prop :=
Bin .ptr .eql a0 (.pointer none) fun v1 =>
Br v1 (
R (.returned (.slice none 0 0)) H) (
Nil a0 fun v2 =>
FAddr 5 v2 fun v3 =>
Ld H v3 fun v4 =>
CallF Tryz.prog g 46 #[v4] H (fun v5 H6 =>
R (.returned v5) H6) (PanR R))
theorem L13_eq (g : Gh) (a0 : Value) (H : Hp) (R : Ending → Hp → Prop) : denF Tryz.prog g Tryz.f13 .e [a0] H R = L13 g a0 H R := by kernel_rfl
theorem L13_sound {g : Gh} {a0 : Value} {H : Hp} {R : Ending → Hp → Prop} (h : L13 g a0 H R) : SCalls Tryz.prog g 13 #[a0] H R :=
  denF_sound (fn := Tryz.f13) (hn := .e) Tryz.func13 (by rw [L13_eq]; exact h)
def L14 (g : Gh) (a0 : Value) (H : Hp) (R : Ending → Hp → Prop) : Prop :=
Bin .ptr .eql a0 (.pointer none) fun v1 =>
Br v1 (
R (.returned (Value.int .i64 0)) H) (
Nil a0 fun v2 =>
FAddr 0 v2 fun v3 =>
FAddr 0 v3 fun v4 =>
Ld H v4 fun v5 =>
CallF Tryz.prog g 54 #[v5] H (fun v6 H7 =>
Bin .num .sub v6 (Value.int .i64 2) fun v8 =>
R (.returned v8) H7) (PanR R))
theorem L14_eq (g : Gh) (a0 : Value) (H : Hp) (R : Ending → Hp → Prop) : denF Tryz.prog g Tryz.f14 .e [a0] H R = L14 g a0 H R := by kernel_rfl
theorem L14_sound {g : Gh} {a0 : Value} {H : Hp} {R : Ending → Hp → Prop} (h : L14 g a0 H R) : SCalls Tryz.prog g 14 #[a0] H R :=
  denF_sound (fn := Tryz.f14) (hn := .e) Tryz.func14 (by rw [L14_eq]; exact h)
def L15 (g : Gh) (a0 : Value) (H : Hp) (R : Ending → Hp → Prop) : Prop :=
Bin .ptr .eql a0 (.pointer none) fun v1 =>
Br v1 (
R (.returned (Value.int .i64 0)) H) (
Nil a0 fun v2 =>
FAddr 7 v2 fun v3 =>
Ld H v3 fun v4 =>
LenS v4 fun v5 =>
R (.returned v5) H)
theorem L15_eq (g : Gh) (a0 : Value) (H : Hp) (R : Ending → Hp → Prop) : denF Tryz.prog g Tryz.f15 .e [a0] H R = L15 g a0 H R := by kernel_rfl
theorem L15_sound {g : Gh} {a0 : Value} {H : Hp} {R : Ending → Hp → Prop} (h : L15 g a0 H R) : SCalls Tryz.prog g 15 #[a0] H R :=
  denF_sound (fn := Tryz.f15) (hn := .e) Tryz.func15 (by rw [L15_eq]; exact h)
def L16 (g : Gh) (a0 a1 a2 : Value) (H : Hp) (R : Ending → Hp → Prop) : Prop :=
New H (.cells #[(Value.int .i64 0), (Value.int .i64 0), (Value.int .i64 0), (Value.bool false)] 38 (0, 0)) fun b1 H2 =>
CallF Tryz.prog g 55 #[a0, a1] H2 (fun v3 H4 =>
Bin .num .neq v3 (Value.int .i64 0) fun v5 =>
Br v5 (
Build Tryz.prog 38 [] fun v6 =>
St 4 H4 (.pointer (some ⟨b1, 0, none⟩)) v6 fun H7 =>
LdA 4 H7 (.pointer (some ⟨b1, 0, none⟩)) fun v8 =>
R (.returned (.tuple #[v8, v3])) H7) (
∀ J9 : List Value → Hp → Prop, (∀ w12 : Value, ∀ H11 : Hp, (∀ gs10 : Fr,
Br w12 (
Build Tryz.prog 38 [] fun v13 =>
St 4 H11 (.pointer (some ⟨b1, 0, none⟩)) v13 fun H14 =>
LdA 4 H14 (.pointer (some ⟨b1, 0, none⟩)) fun v15 =>
R (.returned (.tuple #[v15, (Value.int .i64 1)])) H14) (
CallF Tryz.prog g 57 #[a0, a1] H11 (fun v16 H17 =>
CallF Tryz.prog g 58 #[v16, a0, a2] H17 (fun v18 H19 =>
Nil v16 fun v20 =>
FAddr 1 v20 fun v21 =>
LdA 4 H19 v21 fun v22 =>
St 4 H19 (.pointer (some ⟨b1, 0, none⟩)) v22 fun H23 =>
LdA 4 H23 (.pointer (some ⟨b1, 0, none⟩)) fun v24 =>
R (.returned (.tuple #[v24, (Value.int .i64 0)])) H23) (PanR R)) (PanR R))) → J9 [w12] H11) →
Bin .num .lss a2 (Value.int .i64 0) fun v25 =>
Split v25 false (
CallF Tryz.prog g 56 #[a0] H4 (fun v26 H27 =>
Bin .num .sub v26 a1 fun v28 =>
Bin .num .gtr a2 v28 fun v29 =>
Pick (Value.bool false) (Value.bool true) v29 fun v30 =>
JE J9 [v30] H27) (PanR R)) (
Pick (Value.bool true) (Value.bool true) undef fun v31 =>
JE J9 [v31] H4))) (PanR R)
theorem L16_eq (g : Gh) (a0 a1 a2 : Value) (H : Hp) (R : Ending → Hp → Prop) : denF Tryz.prog g Tryz.f16 (.h 0 [] [] .e (.h 0 [] [] .e (.h 0 [] [] (.h 1 [26] [0, 1, 2, 6] .e .e) .e))) [a0, a1, a2] H R = L16 g a0 a1 a2 H R := by kernel_rfl
theorem L16_sound {g : Gh} {a0 a1 a2 : Value} {H : Hp} {R : Ending → Hp → Prop} (h : L16 g a0 a1 a2 H R) : SCalls Tryz.prog g 16 #[a0, a1, a2] H R :=
  denF_sound (fn := Tryz.f16) (hn := (.h 0 [] [] .e (.h 0 [] [] .e (.h 0 [] [] (.h 1 [26] [0, 1, 2, 6] .e .e) .e)))) Tryz.func16 (by rw [L16_eq]; exact h)
def L17 (g : Gh) (a0 a1 : Value) (H : Hp) (R : Ending → Hp → Prop) : Prop :=
New H (.cells #[(Value.int .i64 0), (Value.int .i64 0), (Value.int .i64 0), (Value.bool false)] 38 (0, 0)) fun b1 H2 =>
CallF Tryz.prog g 55 #[a0, a1] H2 (fun v3 H4 =>
Bin .num .neq v3 (Value.int .i64 0) fun v5 =>
Br v5 (
Build Tryz.prog 38 [] fun v6 =>
St 4 H4 (.pointer (some ⟨b1, 0, none⟩)) v6 fun H7 =>
LdA 4 H7 (.pointer (some ⟨b1, 0, none⟩)) fun v8 =>
R (.returned (.tuple #[v8, v3])) H7) (
CallF Tryz.prog g 57 #[a0, a1] H4 (fun v9 H10 =>
CallF Tryz.prog g 59 #[v9, a0, a1] H10 (fun v11 H12 =>
Nil v9 fun v13 =>
FAddr 1 v13 fun v14 =>
LdA 4 H12 v14 fun v15 =>
St 4 H12 (.pointer (some ⟨b1, 0, none⟩)) v15 fun H16 =>
LdA 4 H16 (.pointer (some ⟨b1, 0, none⟩)) fun v17 =>
R (.returned (.tuple #[v17, (Value.int .i64 0)])) H16) (PanR R)) (PanR R))) (PanR R)
theorem L17_eq (g : Gh) (a0 a1 : Value) (H : Hp) (R : Ending → Hp → Prop) : denF Tryz.prog g Tryz.f17 .e [a0, a1] H R = L17 g a0 a1 H R := by kernel_rfl
theorem L17_sound {g : Gh} {a0 a1 : Value} {H : Hp} {R : Ending → Hp → Prop} (h : L17 g a0 a1 H R) : SCalls Tryz.prog g 17 #[a0, a1] H R :=
  denF_sound (fn := Tryz.f17) (hn := .e) Tryz.func17 (by rw [L17_eq]; exact h)
def L18 (g : Gh) (a0 : Value) (H : Hp) (R : Ending → Hp → Prop) : Prop :=
∃ (I1 : List Value → Hp → Prop) (m2 : List Value → Hp → Nat), JE I1 [(Value.int .i64 1), (Value.int .i64 2)] H ∧ ∀ w5 w6 : Value, ∀ H4 : Hp, I1 [w5, w6] H4 → ∀ gs3 : Fr,
Bin .num .leq w6 a0 fun v7 =>
Br v7 (
Bin .num .mul w5 w6 fun v8 =>
Bin .num .add w6 (Value.int .i64 1) fun v9 =>
Back I1 m2 [v8, v9] H4 [w5, w6] H4) (
R (.returned w5) H4)
theorem L18_eq (g : Gh) (a0 : Value) (H : Hp) (R : Ending → Hp → Prop) : denF Tryz.prog g Tryz.f18 (.h 0 [] [] .e (.h 0 [] [] .e (.h 0 [] [] (.h 0 [] [] .e (.h 0 [] [] (.h 0 [3, 4] [0] .e .e) .e)) .e))) [a0] H R = L18 g a0 H R := by kernel_rfl
theorem L18_sound {g : Gh} {a0 : Value} {H : Hp} {R : Ending → Hp → Prop} (h : L18 g a0 H R) : SCalls Tryz.prog g 18 #[a0] H R :=
  denF_sound (fn := Tryz.f18) (hn := (.h 0 [] [] .e (.h 0 [] [] .e (.h 0 [] [] (.h 0 [] [] .e (.h 0 [] [] (.h 0 [3, 4] [0] .e .e) .e)) .e)))) Tryz.func18 (by rw [L18_eq]; exact h)
def L19 (g : Gh) (a0 a1 : Value) (H : Hp) (R : Ending → Hp → Prop) : Prop :=
LenS a0 fun v1 =>
LenS a1 fun v2 =>
Bin .num .neq v1 v2 fun v3 =>
Br v3 (
R (.returned (Value.bool false)) H) (
∃ (I4 : List Value → Hp → Prop) (m5 : List Value → Hp → Nat), JE I4 [(Value.int .i64 0)] H ∧ ∀ w8 : Value, ∀ H7 : Hp, I4 [w8] H7 → ∀ gs6 : Fr,
LenS a0 fun v9 =>
Bin .num .lss w8 v9 fun v10 =>
Br v10 (
IAddr 1 a0 w8 fun v11 =>
Ld H7 v11 fun v12 =>
IAddr 1 a1 w8 fun v13 =>
Ld H7 v13 fun v14 =>
Bin .num .neq v12 v14 fun v15 =>
Br v15 (
R (.returned (Value.bool false)) H7) (
Bin .num .add w8 (Value.int .i64 1) fun v16 =>
Back I4 m5 [v16] H7 [w8] H7)) (
R (.returned (Value.bool true)) H7))
theorem L19_eq (g : Gh) (a0 a1 : Value) (H : Hp) (R : Ending → Hp → Prop) : denF Tryz.prog g Tryz.f19 (.h 0 [] [] .e (.h 0 [] [] .e (.h 0 [] [] (.h 0 [] [] .e (.h 0 [] [] (.h 0 [5] [0, 1] .e .e) .e)) .e))) [a0, a1] H R = L19 g a0 a1 H R := by kernel_rfl
theorem L19_sound {g : Gh} {a0 a1 : Value} {H : Hp} {R : Ending → Hp → Prop} (h : L19 g a0 a1 H R) : SCalls Tryz.prog g 19 #[a0, a1] H R :=
  denF_sound (fn := Tryz.f19) (hn := (.h 0 [] [] .e (.h 0 [] [] .e (.h 0 [] [] (.h 0 [] [] .e (.h 0 [] [] (.h 0 [5] [0, 1] .e .e) .e)) .e)))) Tryz.func19 (by rw [L19_eq]; exact h)
def L20 (g : Gh) (a0 a1 a2 : Value) (H : Hp) (R : Ending → Hp → Prop) : Prop :=
∃ (I1 : List Value → Hp → Prop) (m2 : List Value → Hp → Nat), JE I1 [a1, (Value.int .i64 0)] H ∧ ∀ w5 w6 : Value, ∀ H4 : Hp, I1 [w5, w6] H4 → ∀ gs3 : Fr,
Bin .num .lss w6 (Value.int .i64 70) fun v7 =>
Br v7 (
∀ J8 : List Value → Hp → Prop, (∀ w11 : Value, ∀ H10 : Hp, (∀ gs9 : Fr,
Bin .num .add w6 (Value.int .i64 1) fun v12 =>
Back I1 m2 [w11, v12] H10 [w5, w6] H4) → J8 [w11] H10) →
Bin .num .lss w5 (Value.int .u32 2) fun v13 =>
Br v13 (
Bin .num .eql w5 (Value.int .u32 1) fun v14 =>
R (.returned (.tuple #[v14, (Value.bool true)])) H4) (
CallF Tryz.prog g 60 #[a0, w5] H4 (fun v15 H16 =>
Ext 0 v15 fun v17 =>
Ext 1 v15 fun v18 =>
New H16 (.cells #[(Value.int .i64 0), (Value.int .u32 0), (Value.int .u32 0)] 103 (0, 0)) fun b19 H20 =>
St 3 H20 (.pointer (some ⟨b19, 0, none⟩)) v17 fun H21 =>
Bin .num .neq v18 (Value.int .i64 0) fun v22 =>
Grp v22 false (fun t23 =>
FAddr 0 (.pointer (some ⟨b19, 0, none⟩)) fun v24 =>
Ld H21 v24 fun v25 =>
Bin .num .lss v25 (Value.int .i64 0) fun v26 =>
(H21 = H21 ∧ v26 = Value.bool t23)) (fun t23 => (Value.bool true) = Value.bool t23) fun t23 => ∀ gs27 : Fr,
Grp (Value.bool t23) false (fun t28 =>
FAddr 0 (.pointer (some ⟨b19, 0, none⟩)) fun v29 =>
Ld H21 v29 fun v30 =>
Bin .num .gtr v30 (Value.int .i64 63) fun v31 =>
(H21 = H21 ∧ v31 = Value.bool t28)) (fun t28 => (Value.bool true) = Value.bool t28) fun t28 => ∀ gs32 : Fr,
Br (Value.bool t28) (
R (.returned (.tuple #[(Value.bool false), (Value.bool false)])) H21) (
FAddr 1 (.pointer (some ⟨b19, 0, none⟩)) fun v33 =>
Ld H21 v33 fun v34 =>
FAddr 0 (.pointer (some ⟨b19, 0, none⟩)) fun v35 =>
Ld H21 v35 fun v36 =>
Bin .num .shr a2 v36 fun v37 =>
Bin .num .rem v37 (Value.int .u64 2) fun v38 =>
Bin .num .eql v38 (Value.int .u64 1) fun v39 =>
Br v39 (
FAddr 2 (.pointer (some ⟨b19, 0, none⟩)) fun v40 =>
Ld H21 v40 fun v41 =>
JE J8 [v41] H21) (
JE J8 [v34] H21))) (PanR R))) (
R (.returned (.tuple #[(Value.bool false), (Value.bool false)])) H4)
theorem L20_eq (g : Gh) (a0 a1 a2 : Value) (H : Hp) (R : Ending → Hp → Prop) : denF Tryz.prog g Tryz.f20 (.h 0 [] [] .e (.h 0 [] [] (.h 0 [] [] .e (.h 0 [] [] (.h 0 [1, 8] [0, 2] (.h 0 [] [] .e (.h 1 [1] [0, 2, 8] (.h 0 [] [] (.h 0 [] [] .e (.h 0 [] [] .e (.h 0 [] [] (.h 0 [] [] (.h 0 [] [1] .e .e) .e) .e))) .e) .e)) .e) .e)) .e)) [a0, a1, a2] H R = L20 g a0 a1 a2 H R := by kernel_rfl
theorem L20_sound {g : Gh} {a0 a1 a2 : Value} {H : Hp} {R : Ending → Hp → Prop} (h : L20 g a0 a1 a2 H R) : SCalls Tryz.prog g 20 #[a0, a1, a2] H R :=
  denF_sound (fn := Tryz.f20) (hn := (.h 0 [] [] .e (.h 0 [] [] (.h 0 [] [] .e (.h 0 [] [] (.h 0 [1, 8] [0, 2] (.h 0 [] [] .e (.h 1 [1] [0, 2, 8] (.h 0 [] [] (.h 0 [] [] .e (.h 0 [] [] .e (.h 0 [] [] (.h 0 [] [] (.h 0 [] [1] .e .e) .e) .e))) .e) .e)) .e) .e)) .e))) Tryz.func20 (by rw [L20_eq]; exact h)
def L21 (g : Gh) (a0 a1 a2 : Value) (H : Hp) (R : Ending → Hp → Prop) : Prop :=
New H (.cells #[(.pointer none), (.pointer none), (.slice none 0 0), (.slice none 0 0)] 51 (0, 0)) fun b1 H2 =>
LenS a1 fun v3 =>
∀ J4 : List Value → Hp → Prop, (∀ w7 : Value, ∀ H6 : Hp, (∀ gs5 : Fr,
Br w7 (
LdA 4 H6 (.pointer (some ⟨b1, 0, none⟩)) fun v8 =>
St 4 H6 (.pointer (some ⟨b1, 0, none⟩)) v8 fun H9 =>
LdA 4 H9 (.pointer (some ⟨b1, 0, none⟩)) fun v10 =>
R (.returned (.tuple #[v10, (Value.bool false), (Value.bool true)])) H9) (
LenS a2 fun v11 =>
∃ (I12 : List Value → Hp → Prop) (m13 : List Value → Hp → Nat), JE I12 [(Value.int .i64 0)] H6 ∧ ∀ w16 : Value, ∀ H15 : Hp, I12 [w16] H15 → ∀ gs14 : Fr,
Bin .num .lss w16 v11 fun v17 =>
Br v17 (
IAddr 2 a2 w16 fun v18 =>
LdA 2 H15 v18 fun v19 =>
New H15 (.cells #[(Value.int .i64 0), (.slice none 0 0)] 55 (0, 0)) fun b20 H21 =>
St 2 H21 (.pointer (some ⟨b20, 0, none⟩)) v19 fun H22 =>
LdA 2 H22 (.pointer (some ⟨b20, 0, none⟩)) fun v23 =>
CallF Tryz.prog g 62 #[v23] H22 (fun v24 H25 =>
Un .not v24 fun v26 =>
Grp v26 false (fun t27 =>
FAddr 0 (.pointer (some ⟨b20, 0, none⟩)) fun v28 =>
Ld H25 v28 fun v29 =>
Bin .num .neq v29 v3 fun v30 =>
(H25 = H25 ∧ v30 = Value.bool t27)) (fun t27 => (Value.bool true) = Value.bool t27) fun t27 => ∀ gs31 : Fr,
Br (Value.bool t27) (
LdA 4 H25 (.pointer (some ⟨b1, 0, none⟩)) fun v32 =>
St 4 H25 (.pointer (some ⟨b1, 0, none⟩)) v32 fun H33 =>
LdA 4 H33 (.pointer (some ⟨b1, 0, none⟩)) fun v34 =>
R (.returned (.tuple #[v34, (Value.bool false), (Value.bool true)])) H33) (
Bin .num .add w16 (Value.int .i64 1) fun v35 =>
Back I12 m13 [v35] H25 [w16] H15)) (PanR R)) (
CallF Tryz.prog g 10 #[v3, a0] H15 (fun v36 H37 =>
Ext 0 v36 fun v38 =>
Ext 1 v36 fun v39 =>
Bin .num .neq v39 (Value.int .i64 0) fun v40 =>
Grp v40 false (fun t41 =>
Bin .ptr .eql v38 (.pointer none) fun v42 =>
(H37 = H37 ∧ v42 = Value.bool t41)) (fun t41 => (Value.bool true) = Value.bool t41) fun t41 => ∀ gs43 : Fr,
Br (Value.bool t41) (
LdA 4 H37 (.pointer (some ⟨b1, 0, none⟩)) fun v44 =>
St 4 H37 (.pointer (some ⟨b1, 0, none⟩)) v44 fun H45 =>
LdA 4 H45 (.pointer (some ⟨b1, 0, none⟩)) fun v46 =>
R (.returned (.tuple #[v46, (Value.bool true), (Value.bool false)])) H45) (
CallF Tryz.prog g 63 #[v3, a0] H37 (fun v47 H48 =>
Build Tryz.prog 51 [(0, v38), (1, v47)] fun v49 =>
St 4 H48 (.pointer (some ⟨b1, 0, none⟩)) v49 fun H50 =>
FAddr 1 (.pointer (some ⟨b1, 0, none⟩)) fun v51 =>
Ld H50 v51 fun v52 =>
Nil v52 fun v53 =>
FAddr 2 v53 fun v54 =>
Ld H50 v54 fun v55 =>
CallF Tryz.prog g 64 #[v55, a1] H50 (fun v56 H57 =>
Ext 0 v56 fun v58 =>
Ext 1 v56 fun v59 =>
LenS v58 fun v60 =>
∃ (I61 : List Value → Hp → Prop) (m62 : List Value → Hp → Nat), JE I61 [(Value.int .i64 0)] H57 ∧ ∀ w65 : Value, ∀ H64 : Hp, I61 [w65] H64 → ∀ gs63 : Fr,
Bin .num .lss w65 v60 fun v66 =>
Br v66 (
IAddr 1 v58 w65 fun v67 =>
Ld H64 v67 fun v68 =>
∀ J69 : List Value → Hp → Prop, (∀ w72 : Value, ∀ H71 : Hp, (∀ gs70 : Fr,
Br w72 (
LdA 4 H71 (.pointer (some ⟨b1, 0, none⟩)) fun v73 =>
St 4 H71 (.pointer (some ⟨b1, 0, none⟩)) v73 fun H74 =>
LdA 4 H74 (.pointer (some ⟨b1, 0, none⟩)) fun v75 =>
R (.returned (.tuple #[v75, (Value.bool true), (Value.bool false)])) H74) (
Bin .num .add w65 (Value.int .i64 1) fun v76 =>
Back I61 m62 [v76] H71 [w65] H64)) → J69 [w72] H71) →
CallF Tryz.prog g 28 #[v38, v68] H64 (fun v77 H78 =>
Bin .num .neq v77 (Value.int .i64 0) fun v79 =>
Split v79 false (
FAddr 1 (.pointer (some ⟨b1, 0, none⟩)) fun v80 =>
Ld H78 v80 fun v81 =>
CallF Tryz.prog g 65 #[v81, v68] H78 (fun v82 H83 =>
Bin .num .neq v82 (Value.int .i64 0) fun v84 =>
Pick (Value.bool false) (Value.bool true) v84 fun v85 =>
JE J69 [v85] H83) (PanR R)) (
Pick (Value.bool true) (Value.bool true) undef fun v86 =>
JE J69 [v86] H78)) (PanR R)) (
CallF Tryz.prog g 51 #[v38, (Value.int .u32 1)] H64 (fun v87 H88 =>
Bin .num .neq v87 (Value.int .i64 0) fun v89 =>
Br v89 (
LdA 4 H88 (.pointer (some ⟨b1, 0, none⟩)) fun v90 =>
St 4 H88 (.pointer (some ⟨b1, 0, none⟩)) v90 fun H91 =>
LdA 4 H91 (.pointer (some ⟨b1, 0, none⟩)) fun v92 =>
R (.returned (.tuple #[v92, (Value.bool true), (Value.bool false)])) H91) (
FAddr 1 (.pointer (some ⟨b1, 0, none⟩)) fun v93 =>
Ld H88 v93 fun v94 =>
Nil v94 fun v95 =>
FAddr 4 v95 fun v96 =>
St 1 H88 v96 (.slice none 0 0) fun H97 =>
LenS a2 fun v98 =>
∃ (I99 : List Value → Hp → Prop) (m100 : List Value → Hp → Nat), JE I99 [(Value.int .i64 0)] H97 ∧ ∀ w103 : Value, ∀ H102 : Hp, I99 [w103] H102 → ∀ gs101 : Fr,
Bin .num .lss w103 v98 fun v104 =>
Br v104 (
∀ J105 : List Value → Hp → Prop, (∀ H107 : Hp, (∀ gs106 : Fr,
Bin .num .add w103 (Value.int .i64 1) fun v108 =>
Back I99 m100 [v108] H107 [w103] H102) → J105 [] H107) →
IAddr 2 a2 w103 fun v109 =>
LdA 2 H102 v109 fun v110 =>
New H102 (.cells #[(Value.int .i64 0), (.slice none 0 0)] 55 (0, 0)) fun b111 H112 =>
St 2 H112 (.pointer (some ⟨b111, 0, none⟩)) v110 fun H113 =>
FAddr 1 (.pointer (some ⟨b1, 0, none⟩)) fun v114 =>
Ld H113 v114 fun v115 =>
LdA 2 H113 (.pointer (some ⟨b111, 0, none⟩)) fun v116 =>
BuildSl Tryz.prog 49 1 [(0, v116)] H113 fun v117 H118 =>
CallF Tryz.prog g 66 #[v115, v117] H118 (fun v119 H120 =>
Un .not v119 fun v121 =>
Br v121 (
JE J105 [] H120) (
LdA 2 H120 (.pointer (some ⟨b111, 0, none⟩)) fun v122 =>
CallF Tryz.prog g 67 #[v38, a1, v122, (Value.int .i64 0)] H120 (fun v123 H124 =>
Ext 0 v123 fun v125 =>
Ext 1 v123 fun v126 =>
Bin .num .neq v126 (Value.int .i64 0) fun v127 =>
Br v127 (
LdA 4 H124 (.pointer (some ⟨b1, 0, none⟩)) fun v128 =>
St 4 H124 (.pointer (some ⟨b1, 0, none⟩)) v128 fun H129 =>
LdA 4 H129 (.pointer (some ⟨b1, 0, none⟩)) fun v130 =>
R (.returned (.tuple #[v130, (Value.bool true), (Value.bool false)])) H129) (
FAddr 1 (.pointer (some ⟨b1, 0, none⟩)) fun v131 =>
Ld H124 v131 fun v132 =>
LdA 2 H124 (.pointer (some ⟨b111, 0, none⟩)) fun v133 =>
CallF Tryz.prog g 68 #[v132, v133] H124 (fun v134 H135 =>
FAddr 2 (.pointer (some ⟨b1, 0, none⟩)) fun v136 =>
Ld H135 v136 fun v137 =>
BuildSl Tryz.prog 48 1 [(0, v125)] H135 fun v138 H139 =>
App Tryz.prog 31 1 4 (Value.int .u32 0) H139 v137 v138 fun v142 H143 =>
FAddr 2 (.pointer (some ⟨b1, 0, none⟩)) fun v144 =>
St 1 H143 v144 v142 fun H145 =>
FAddr 3 (.pointer (some ⟨b1, 0, none⟩)) fun v146 =>
Ld H145 v146 fun v147 =>
LdA 2 H145 (.pointer (some ⟨b111, 0, none⟩)) fun v148 =>
BuildSl Tryz.prog 49 1 [(0, v148)] H145 fun v149 H150 =>
App Tryz.prog 55 2 32 (.agg #[(Value.int .i64 0), (.slice none 0 0)]) H150 v147 v149 fun v153 H154 =>
FAddr 3 (.pointer (some ⟨b1, 0, none⟩)) fun v155 =>
St 1 H154 v155 v153 fun H156 =>
JE J105 [] H156) (PanR R))) (PanR R))) (PanR R)) (
DR H102 fun R157 =>
LdA 4 R157 (.pointer (some ⟨b1, 0, none⟩)) fun v158 =>
LdA 4 R157 (.pointer (some ⟨b1, 0, none⟩)) fun v159 =>
CallF Tryz.prog g 24 #[v159] H102 (fun v160 H161 =>
Ent H161 R157 ∧
St 4 H161 (.pointer (some ⟨b1, 0, none⟩)) v158 fun H162 =>
LdA 4 H162 (.pointer (some ⟨b1, 0, none⟩)) fun v163 =>
R (.returned (.tuple #[v163, (Value.bool true), v160])) H162) NoKP))) (PanR R))) (PanR R)) (PanR R))) (PanR R)))) → J4 [w7] H6) →
Bin .num .lss v3 (Value.int .i64 1) fun v164 =>
Split v164 false (
Bin .num .gtr v3 (Value.int .i64 8) fun v165 =>
Pick (Value.bool false) (Value.bool true) v165 fun v166 =>
Split v166 false (
CallF Tryz.prog g 61 #[a1, v3] H2 (fun v167 H168 =>
Un .not v167 fun v169 =>
Pick (Value.bool false) (Value.bool true) v169 fun v170 =>
Split v170 false (
Bin .num .lss a0 (Value.int .i64 2) fun v171 =>
Pick (Value.bool false) (Value.bool true) v171 fun v172 =>
Split v172 false (
Bin .num .gtr a0 (Value.int .i64 1048576) fun v173 =>
Pick (Value.bool false) (Value.bool true) v173 fun v174 =>
Split v174 false (
LenS a2 fun v175 =>
Bin .num .gtr v175 (Value.int .i64 60000) fun v176 =>
Pick (Value.bool false) (Value.bool true) v176 fun v177 =>
JE J4 [v177] H168) (
Pick (Value.bool true) (Value.bool true) undef fun v178 =>
JE J4 [v178] H168)) (
Pick (Value.bool true) (Value.bool true) undef fun v179 =>
Pick v179 (Value.bool true) undef fun v180 =>
JE J4 [v180] H168)) (
Pick (Value.bool true) (Value.bool true) undef fun v181 =>
Pick v181 (Value.bool true) undef fun v182 =>
Pick v182 (Value.bool true) undef fun v183 =>
JE J4 [v183] H168)) (PanR R)) (
Pick (Value.bool true) (Value.bool true) undef fun v184 =>
Pick v184 (Value.bool true) undef fun v185 =>
Pick v185 (Value.bool true) undef fun v186 =>
Pick v186 (Value.bool true) undef fun v187 =>
JE J4 [v187] H2)) (
Pick (Value.bool true) (Value.bool true) undef fun v188 =>
Pick v188 (Value.bool true) undef fun v189 =>
Pick v189 (Value.bool true) undef fun v190 =>
Pick v190 (Value.bool true) undef fun v191 =>
Pick v191 (Value.bool true) undef fun v192 =>
JE J4 [v192] H2)
theorem L21_eq (g : Gh) (a0 a1 a2 : Value) (H : Hp) (R : Ending → Hp → Prop) : denF Tryz.prog g Tryz.f21 (.h 0 [] [] .e (.h 0 [] [] .e (.h 0 [] [] (.h 1 [48] [0, 1, 2, 6, 9] .e .e) (.h 0 [] [] (.h 0 [] [] .e (.h 0 [] [] (.h 0 [52] [0, 1, 2, 6, 9, 50, 51] (.h 0 [] [] .e (.h 0 [] [] .e (.h 0 [] [] (.h 0 [] [] (.h 0 [] [] .e (.h 0 [] [] (.h 0 [] [1] .e .e) .e)) .e) .e))) .e) .e)) (.h 0 [] [] .e (.h 0 [] [] (.h 0 [] [] (.h 0 [] [1] .e .e) .e) (.h 0 [] [] .e (.h 0 [] [] .e (.h 0 [] [] (.h 0 [] [] .e (.h 0 [] [] (.h 0 [97] [1, 2, 6, 12, 95, 96] (.h 0 [] [] .e (.h 0 [] [] .e (.h 0 [] [] (.h 0 [] [] (.h 0 [] [] .e (.h 1 [111] [1, 2, 6, 12, 95, 96, 97] .e .e)) .e) .e))) .e) .e)) (.h 0 [] [] .e (.h 0 [] [] .e (.h 0 [] [] (.h 0 [] [] .e (.h 0 [] [] (.h 0 [124] [1, 6, 12, 122, 123] (.h 0 [] [] .e (.h 0 [] [] .e (.h 1 [] [1, 6, 12, 122, 123, 124] .e .e))) .e) .e)) (.h 0 [] [] (.h 0 [0, 1, 2, 3, 4, 5] [] .e .e) .e))))))))))))) [a0, a1, a2] H R = L21 g a0 a1 a2 H R := by kernel_rfl
theorem L21_sound {g : Gh} {a0 a1 a2 : Value} {H : Hp} {R : Ending → Hp → Prop} (h : L21 g a0 a1 a2 H R) : SCalls Tryz.prog g 21 #[a0, a1, a2] H R :=
  denF_sound (fn := Tryz.f21) (hn := (.h 0 [] [] .e (.h 0 [] [] .e (.h 0 [] [] (.h 1 [48] [0, 1, 2, 6, 9] .e .e) (.h 0 [] [] (.h 0 [] [] .e (.h 0 [] [] (.h 0 [52] [0, 1, 2, 6, 9, 50, 51] (.h 0 [] [] .e (.h 0 [] [] .e (.h 0 [] [] (.h 0 [] [] (.h 0 [] [] .e (.h 0 [] [] (.h 0 [] [1] .e .e) .e)) .e) .e))) .e) .e)) (.h 0 [] [] .e (.h 0 [] [] (.h 0 [] [] (.h 0 [] [1] .e .e) .e) (.h 0 [] [] .e (.h 0 [] [] .e (.h 0 [] [] (.h 0 [] [] .e (.h 0 [] [] (.h 0 [97] [1, 2, 6, 12, 95, 96] (.h 0 [] [] .e (.h 0 [] [] .e (.h 0 [] [] (.h 0 [] [] (.h 0 [] [] .e (.h 1 [111] [1, 2, 6, 12, 95, 96, 97] .e .e)) .e) .e))) .e) .e)) (.h 0 [] [] .e (.h 0 [] [] .e (.h 0 [] [] (.h 0 [] [] .e (.h 0 [] [] (.h 0 [124] [1, 6, 12, 122, 123] (.h 0 [] [] .e (.h 0 [] [] .e (.h 1 [] [1, 6, 12, 122, 123, 124] .e .e))) .e) .e)) (.h 0 [] [] (.h 0 [0, 1, 2, 3, 4, 5] [] .e .e) .e)))))))))))))) Tryz.func21 (by rw [L21_eq]; exact h)
def L22 (g : Gh) (H : Hp) (R : Ending → Hp → Prop) : Prop :=
New H (.cells #[(Value.int .i64 0), (.slice none 0 0)] 55 (0, 0)) fun b1 H2 =>
∃ (I3 : List Value → Hp → Prop) (m4 : List Value → Hp → Nat), JE I3 [(.slice none 0 0), (Value.int .i64 0)] H2 ∧ ∀ w7 w8 : Value, ∀ H6 : Hp, I3 [w7, w8] H6 → ∀ gs5 : Fr,
Bin .num .lss w8 (Value.int .i64 16) fun v9 =>
Br v9 (
Bin .num .and w8 (Value.int .i64 3) fun v10 =>
Bin .num .eql v10 (Value.int .i64 3) fun v11 =>
Grp v11 false (fun t12 =>
Bin .num .and w8 (Value.int .i64 12) fun v13 =>
Bin .num .eql v13 (Value.int .i64 12) fun v14 =>
(H6 = H6 ∧ v14 = Value.bool t12)) (fun t12 => (Value.bool true) = Value.bool t12) fun t12 => ∀ gs15 : Fr,
BuildSl Tryz.prog 76 1 [(0, (Value.bool t12))] H6 fun v16 H17 =>
App Tryz.prog 4 1 1 (Value.bool false) H17 w7 v16 fun v20 H21 =>
Bin .num .add w8 (Value.int .i64 1) fun v22 =>
Back I3 m4 [v20, v22] H21 [w7, w8] H6) (
CallF Tryz.prog g 37 #[(Value.int .i64 4), w7] H6 (fun v23 H24 =>
St 2 H24 (.pointer (some ⟨b1, 0, none⟩)) v23 fun H25 =>
LdA 2 H25 (.pointer (some ⟨b1, 0, none⟩)) fun v26 =>
R (.returned v26) H25) (PanR R))
theorem L22_eq (g : Gh) (H : Hp) (R : Ending → Hp → Prop) : denF Tryz.prog g Tryz.f22 (.h 0 [] [] .e (.h 0 [] [] .e (.h 0 [] [] (.h 0 [] [] .e (.h 0 [] [] (.h 0 [1, 2] [0] (.h 0 [] [] .e (.h 0 [] [] (.h 0 [] [] (.h 0 [] [1] .e .e) .e) .e)) .e) .e)) .e))) [] H R = L22 g H R := by kernel_rfl
theorem L22_sound {g : Gh} {H : Hp} {R : Ending → Hp → Prop} (h : L22 g H R) : SCalls Tryz.prog g 22 #[] H R :=
  denF_sound (fn := Tryz.f22) (hn := (.h 0 [] [] .e (.h 0 [] [] .e (.h 0 [] [] (.h 0 [] [] .e (.h 0 [] [] (.h 0 [1, 2] [0] (.h 0 [] [] .e (.h 0 [] [] (.h 0 [] [] (.h 0 [] [1] .e .e) .e) .e)) .e) .e)) .e)))) Tryz.func22 (by rw [L22_eq]; exact h)
def L23 (g : Gh) (a0 a1 : Value) (H : Hp) (R : Ending → Hp → Prop) : Prop :=
New H (.cells #[(Value.int .i64 0), (Value.int .i64 0), (Value.int .i64 0), (Value.bool false)] 38 (0, 0)) fun b1 H2 =>
CallF Tryz.prog g 55 #[a0, a1] H2 (fun v3 H4 =>
Bin .num .neq v3 (Value.int .i64 0) fun v5 =>
Br v5 (
Build Tryz.prog 38 [] fun v6 =>
St 4 H4 (.pointer (some ⟨b1, 0, none⟩)) v6 fun H7 =>
LdA 4 H7 (.pointer (some ⟨b1, 0, none⟩)) fun v8 =>
R (.returned (.tuple #[v8, (Value.int .i64 0), v3])) H7) (
CallF Tryz.prog g 57 #[a0, a1] H4 (fun v9 H10 =>
∃ (I11 : List Value → Hp → Prop) (m12 : List Value → Hp → Nat), JE I11 [(Value.int .i64 1)] H10 ∧ ∀ w15 : Value, ∀ H14 : Hp, I11 [w15] H14 → ∀ gs13 : Fr,
CallF Tryz.prog g 14 #[a0] H14 (fun v16 H17 =>
CallF Tryz.prog g 59 #[v9, a0, a1] H17 (fun v18 H19 =>
CallF Tryz.prog g 14 #[a0] H19 (fun v20 H21 =>
Bin .num .geq v20 v16 fun v22 =>
Br v22 (
Nil v9 fun v23 =>
FAddr 1 v23 fun v24 =>
LdA 4 H21 v24 fun v25 =>
St 4 H21 (.pointer (some ⟨b1, 0, none⟩)) v25 fun H26 =>
LdA 4 H26 (.pointer (some ⟨b1, 0, none⟩)) fun v27 =>
R (.returned (.tuple #[v27, w15, (Value.int .i64 0)])) H26) (
Bin .num .add w15 (Value.int .i64 1) fun v28 =>
Back I11 m12 [v28] H21 [w15] H14)) (PanR R)) (PanR R)) (PanR R)) (PanR R))) (PanR R)
theorem L23_eq (g : Gh) (a0 a1 : Value) (H : Hp) (R : Ending → Hp → Prop) : denF Tryz.prog g Tryz.f23 (.h 0 [] [] .e (.h 0 [] [] .e (.h 0 [] [] .e (.h 0 [] [] .e (.h 0 [] [] (.h 0 [9] [0, 1, 4, 8] .e .e) .e))))) [a0, a1] H R = L23 g a0 a1 H R := by kernel_rfl
theorem L23_sound {g : Gh} {a0 a1 : Value} {H : Hp} {R : Ending → Hp → Prop} (h : L23 g a0 a1 H R) : SCalls Tryz.prog g 23 #[a0, a1] H R :=
  denF_sound (fn := Tryz.f23) (hn := (.h 0 [] [] .e (.h 0 [] [] .e (.h 0 [] [] .e (.h 0 [] [] .e (.h 0 [] [] (.h 0 [9] [0, 1, 4, 8] .e .e) .e)))))) Tryz.func23 (by rw [L23_eq]; exact h)
def L24 (g : Gh) (a0 : Value) (H : Hp) (R : Ending → Hp → Prop) : Prop :=
New H (.cells (Value.cells a0) 51 (0, 0)) fun b1 H2 =>
∀ J3 : List Value → Hp → Prop, (∀ w6 : Value, ∀ H5 : Hp, (∀ gs4 : Fr,
Br w6 (
R (.returned (Value.bool false)) H5) (
FAddr 2 (.pointer (some ⟨b1, 0, none⟩)) fun v7 =>
Ld H5 v7 fun v8 =>
LenS v8 fun v9 =>
∃ (I10 : List Value → Hp → Prop) (m11 : List Value → Hp → Nat), JE I10 [(Value.int .i64 0)] H5 ∧ ∀ w14 : Value, ∀ H13 : Hp, I10 [w14] H13 → ∀ gs12 : Fr,
Bin .num .lss w14 v9 fun v15 =>
Br v15 (
IAddr 1 v8 w14 fun v16 =>
Ld H13 v16 fun v17 =>
DR H13 fun R18 =>
FAddr 0 (.pointer (some ⟨b1, 0, none⟩)) fun v19 =>
Ld R18 v19 fun v20 =>
FAddr 1 (.pointer (some ⟨b1, 0, none⟩)) fun v21 =>
Ld R18 v21 fun v22 =>
Nil v22 fun v23 =>
FAddr 0 v23 fun v24 =>
Ld R18 v24 fun v25 =>
∀ F26 : Hp,
CallF Tryz.prog (g.add F26) 71 #[v20, v17, v25, (Value.int .i64 0)] H13 (fun v27 H28 =>
Ent H28 R18 ∧
Ext 0 v27 fun v29 =>
Ext 1 v27 fun v30 =>
New H28 (.cells #[(Value.int .i64 0), (.slice none 0 0)] 55 (0, 0)) fun b31 H32 =>
∀ F33 : Hp,
St 2 H32 (.pointer (some ⟨b31, 0, none⟩)) v29 fun H34 =>
Ent H34 R18 ∧
∀ J35 : List Value → Hp → Prop, (∀ w38 : Value, ∀ H37 : Hp, (∀ gs36 : Fr,
Br w38 (
R (.returned (Value.bool false)) H37) (
Bin .num .add w14 (Value.int .i64 1) fun v39 =>
Back I10 m11 [v39] H37 [w14] H13)) → J35 [w38] H37) →
DR H34 fun R40 =>
Un .not v30 fun v41 =>
Br v41 (
JE J35 [(Value.bool true)] H34) (
LdA 2 R40 (.pointer (some ⟨b31, 0, none⟩)) fun v42 =>
FAddr 3 (.pointer (some ⟨b1, 0, none⟩)) fun v43 =>
Ld R40 v43 fun v44 =>
IAddr 2 v44 w14 fun v45 =>
LdA 2 R40 v45 fun v46 =>
∀ F47 : Hp,
CallF Tryz.prog (g.add F47) 72 #[v42, v46] H34 (fun v48 H49 =>
Ent H49 R40 ∧
Un .not v48 fun v50 =>
Pick (Value.bool false) (Value.bool true) v50 fun v51 =>
Br v51 (
JE J35 [(Value.bool true)] H49) (
FAddr 0 (.pointer (some ⟨b1, 0, none⟩)) fun v52 =>
Ld R40 v52 fun v53 =>
FAddr 1 (.pointer (some ⟨b1, 0, none⟩)) fun v54 =>
Ld R40 v54 fun v55 =>
LdA 2 R40 (.pointer (some ⟨b31, 0, none⟩)) fun v56 =>
∀ F57 : Hp,
CallF Tryz.prog (g.add F57) 52 #[v53, v17] H49 (fun v58 H59 =>
Ent H59 R40 ∧
∀ F60 : Hp,
CallF Tryz.prog (g.add F60) 73 #[v55, v56] H59 (fun v61 H62 =>
Ent H62 R40 ∧
Bin .num .neq v58 v61 fun v63 =>
Pick (Value.bool false) (Value.bool true) v63 fun v64 =>
JE J35 [v64] H62) NoKP) NoKP)) NoKP)) NoKP) (
R (.returned (Value.bool true)) H13))) → J3 [w6] H5) →
DR H2 fun R65 =>
FAddr 0 (.pointer (some ⟨b1, 0, none⟩)) fun v66 =>
Ld R65 v66 fun v67 =>
FAddr 1 (.pointer (some ⟨b1, 0, none⟩)) fun v68 =>
Ld R65 v68 fun v69 =>
Nil v69 fun v70 =>
FAddr 2 v70 fun v71 =>
Ld R65 v71 fun v72 =>
∀ F73 : Hp,
CallF Tryz.prog (g.add F73) 13 #[v67] H2 (fun v74 H75 =>
Ent H75 R65 ∧
∀ F76 : Hp,
CallF Tryz.prog (g.add F76) 19 #[v74, v72] H75 (fun v77 H78 =>
Ent H78 R65 ∧
Un .not v77 fun v79 =>
Br v79 (
JE J3 [(Value.bool true)] H78) (
FAddr 0 (.pointer (some ⟨b1, 0, none⟩)) fun v80 =>
Ld R65 v80 fun v81 =>
FAddr 1 (.pointer (some ⟨b1, 0, none⟩)) fun v82 =>
Ld R65 v82 fun v83 =>
Nil v83 fun v84 =>
FAddr 4 v84 fun v85 =>
Ld R65 v85 fun v86 =>
LenS v86 fun v87 =>
∀ F88 : Hp,
CallF Tryz.prog (g.add F88) 15 #[v81] H78 (fun v89 H90 =>
Ent H90 R65 ∧
Bin .num .neq v89 v87 fun v91 =>
Pick (Value.bool false) (Value.bool true) v91 fun v92 =>
Br v92 (
JE J3 [(Value.bool true)] H90) (
FAddr 0 (.pointer (some ⟨b1, 0, none⟩)) fun v93 =>
Ld R65 v93 fun v94 =>
FAddr 1 (.pointer (some ⟨b1, 0, none⟩)) fun v95 =>
Ld R65 v95 fun v96 =>
∀ F97 : Hp,
CallF Tryz.prog (g.add F97) 14 #[v94] H90 (fun v98 H99 =>
Ent H99 R65 ∧
∀ F100 : Hp,
CallF Tryz.prog (g.add F100) 69 #[v96] H99 (fun v101 H102 =>
Ent H102 R65 ∧
Bin .num .neq v98 v101 fun v103 =>
Pick (Value.bool false) (Value.bool true) v103 fun v104 =>
Br v104 (
JE J3 [(Value.bool true)] H102) (
FAddr 0 (.pointer (some ⟨b1, 0, none⟩)) fun v105 =>
Ld R65 v105 fun v106 =>
FAddr 1 (.pointer (some ⟨b1, 0, none⟩)) fun v107 =>
Ld R65 v107 fun v108 =>
Nil v108 fun v109 =>
FAddr 3 v109 fun v110 =>
Ld R65 v110 fun v111 =>
LenS v111 fun v112 =>
∀ F113 : Hp,
CallF Tryz.prog (g.add F113) 70 #[v106] H102 (fun v114 H115 =>
Ent H115 R65 ∧
LenS v114 fun v116 =>
Bin .num .neq v116 v112 fun v117 =>
Pick (Value.bool false) (Value.bool true) v117 fun v118 =>
JE J3 [v118] H115) NoKP)) NoKP) NoKP)) NoKP)) NoKP) NoKP
theorem L24_eq (g : Gh) (a0 : Value) (H : Hp) (R : Ending → Hp → Prop) : denF Tryz.prog g Tryz.f24 (.h 0 [] [] .e (.h 0 [] [] (.h 1 [50] [1] (.h 1 [] [] (.h 0 [0] [] (.h 0 [1] [] (.h 0 [3] [] (.h 0 [4] [] (.h 0 [5] [] (.h 0 [6] [] (.h 0 [7] [] (.h 0 [2] [] (.h 0 [8] [] (.h 0 [9] [] (.h 2 [10] [] (.h 0 [11] [] (.h 0 [12] [] (.h 0 [13] [] (.h 0 [14] [] (.h 0 [15] [] (.h 0 [16] [] (.h 0 [17] [] (.h 0 [18] [] (.h 0 [19] [] (.h 0 [20] [] (.h 3 [21] [] (.h 3 [22] [] (.h 0 [23] [] (.h 0 [24] [] (.h 0 [25] [] (.h 0 [26] [] (.h 0 [27] [] (.h 0 [28] [] (.h 0 [29] [] (.h 3 [30] [] (.h 3 [31] [] (.h 0 [32] [] (.h 0 [33] [] (.h 0 [34] [] (.h 0 [35] [] (.h 0 [36] [] (.h 0 [37] [] (.h 0 [38] [] (.h 0 [39] [] (.h 0 [40] [] (.h 0 [41] [] (.h 0 [42] [] (.h 3 [43] [] .e .e) .e) .e) .e) .e) .e) .e) .e) .e) .e) .e) .e) .e) .e) .e) .e) .e) .e) .e) .e) .e) .e) .e) .e) .e) .e) .e) .e) .e) .e) .e) .e) .e) (.h 0 [11] [] (.h 0 [12] [] (.h 0 [14] [] (.h 0 [15] [] (.h 0 [16] [] (.h 0 [17] [] (.h 0 [18] [] (.h 0 [19] [] (.h 0 [13] [] (.h 0 [20] [] (.h 0 [21] [] (.h 2 [22] [] (.h 0 [23] [] (.h 0 [24] [] (.h 0 [25] [] (.h 0 [26] [] (.h 0 [27] [] (.h 0 [28] [] (.h 0 [29] [] (.h 3 [30] [] (.h 3 [31] [] (.h 0 [32] [] (.h 0 [33] [] (.h 0 [34] [] (.h 0 [35] [] (.h 0 [36] [] (.h 0 [37] [] (.h 0 [38] [] (.h 0 [39] [] (.h 0 [40] [] (.h 0 [41] [] (.h 0 [42] [] (.h 3 [43] [] .e .e) .e) .e) .e) .e) .e) .e) .e) .e) .e) .e) .e) .e) .e) .e) .e) .e) .e) .e) .e) .e) (.h 0 [23] [] (.h 0 [24] [] (.h 0 [26] [] (.h 0 [27] [] (.h 0 [25] [] (.h 0 [28] [] (.h 0 [29] [] (.h 0 [30] [] (.h 2 [31] [] (.h 0 [32] [] (.h 0 [33] [] (.h 0 [34] [] (.h 0 [35] [] (.h 0 [36] [] (.h 0 [37] [] (.h 0 [38] [] (.h 0 [39] [] (.h 0 [40] [] (.h 0 [41] [] (.h 0 [42] [] (.h 3 [43] [] .e .e) .e) .e) .e) .e) .e) .e) .e) .e) .e) .e) .e) (.h 0 [32] [] (.h 0 [33] [] (.h 0 [36] [] (.h 0 [37] [] (.h 0 [38] [] (.h 0 [39] [] (.h 0 [40] [] (.h 0 [41] [] (.h 0 [34] [] (.h 0 [35] [] (.h 0 [42] [] (.h 0 [43] [] .e .e) .e) .e) .e) .e) .e) .e) .e) .e) .e) .e) .e)) .e) .e) .e) .e) .e) .e) .e) .e)) .e) .e) .e) .e) .e) .e) .e) .e) .e) .e) .e)) .e) .e) .e) .e) .e) .e) .e) .e) .e) .e) .e) .e) (.h 0 [] [] (.h 0 [] [] .e (.h 0 [] [] (.h 0 [54] [1, 52, 53] (.h 0 [] [] .e (.h 0 [] [] .e (.h 0 [] [] (.h 0 [] [] (.h 0 [] [] .e (.h 0 [] [] (.h 1 [] [] (.h 0 [0] [] (.h 0 [1] [] (.h 0 [2] [] (.h 0 [3] [] (.h 0 [4] [] (.h 0 [5] [] (.h 0 [6] [] (.h 0 [7] [] (.h 1 [12] [] (.h 0 [8] [] (.h 0 [9] [] (.h 0 [10] [] (.h 0 [11] [] (.h 0 [12] [] (.h 0 [13] [] (.h 0 [14] [] .e .e) .e) .e) .e) .e) .e) .e) .e) .e) .e) .e) .e) .e) .e) .e) .e) .e) (.h 1 [93] [1, 52, 53, 54] (.h 1 [] [] (.h 0 [0] [] (.h 0 [1] [] (.h 2 [2] [] (.h 0 [3] [] (.h 0 [4] [] (.h 0 [5] [] (.h 0 [6] [] (.h 0 [7] [] (.h 0 [8] [] (.h 0 [9] [] (.h 0 [10] [] (.h 3 [11] [] (.h 3 [12] [] (.h 0 [13] [] (.h 0 [14] [] (.h 0 [15] [] (.h 0 [16] [] (.h 0 [17] [] (.h 0 [18] [] (.h 0 [19] [] (.h 0 [20] [] (.h 0 [21] [] (.h 3 [22] [] .e .e) .e) .e) .e) .e) .e) .e) .e) .e) .e) .e) .e) .e) .e) .e) .e) .e) .e) .e) .e) (.h 0 [3] [] (.h 0 [4] [] (.h 0 [5] [] (.h 0 [6] [] (.h 0 [7] [] (.h 0 [8] [] (.h 0 [9] [] (.h 0 [10] [] (.h 0 [11] [] (.h 2 [12] [] (.h 0 [13] [] (.h 0 [14] [] (.h 0 [15] [] (.h 0 [16] [] (.h 0 [17] [] (.h 0 [18] [] (.h 0 [19] [] (.h 0 [20] [] (.h 0 [21] [] (.h 3 [22] [] .e .e) .e) .e) .e) .e) .e) .e) .e) .e) .e) (.h 0 [13] [] (.h 0 [14] [] (.h 0 [15] [] (.h 0 [17] [] (.h 0 [18] [] (.h 0 [19] [] (.h 0 [16] [] (.h 0 [20] [] (.h 0 [21] [] (.h 0 [22] [] .e .e) .e) .e) .e) .e) .e) .e) .e) .e) .e)) .e) .e) .e) .e) .e) .e) .e) .e) .e)) .e) .e) .e) .e))) .e) .e))) .e) .e)) .e))) [a0] H R = L24 g a0 H R := by kernel_rfl
theorem L24_sound {g : Gh} {a0 : Value} {H : Hp} {R : Ending → Hp → Prop} (h : L24 g a0 H R) : SCalls Tryz.prog g 24 #[a0] H R :=
  denF_sound (fn := Tryz.f24) (hn := (.h 0 [] [] .e (.h 0 [] [] (.h 1 [50] [1] (.h 1 [] [] (.h 0 [0] [] (.h 0 [1] [] (.h 0 [3] [] (.h 0 [4] [] (.h 0 [5] [] (.h 0 [6] [] (.h 0 [7] [] (.h 0 [2] [] (.h 0 [8] [] (.h 0 [9] [] (.h 2 [10] [] (.h 0 [11] [] (.h 0 [12] [] (.h 0 [13] [] (.h 0 [14] [] (.h 0 [15] [] (.h 0 [16] [] (.h 0 [17] [] (.h 0 [18] [] (.h 0 [19] [] (.h 0 [20] [] (.h 3 [21] [] (.h 3 [22] [] (.h 0 [23] [] (.h 0 [24] [] (.h 0 [25] [] (.h 0 [26] [] (.h 0 [27] [] (.h 0 [28] [] (.h 0 [29] [] (.h 3 [30] [] (.h 3 [31] [] (.h 0 [32] [] (.h 0 [33] [] (.h 0 [34] [] (.h 0 [35] [] (.h 0 [36] [] (.h 0 [37] [] (.h 0 [38] [] (.h 0 [39] [] (.h 0 [40] [] (.h 0 [41] [] (.h 0 [42] [] (.h 3 [43] [] .e .e) .e) .e) .e) .e) .e) .e) .e) .e) .e) .e) .e) .e) .e) .e) .e) .e) .e) .e) .e) .e) .e) .e) .e) .e) .e) .e) .e) .e) .e) .e) .e) .e) (.h 0 [11] [] (.h 0 [12] [] (.h 0 [14] [] (.h 0 [15] [] (.h 0 [16] [] (.h 0 [17] [] (.h 0 [18] [] (.h 0 [19] [] (.h 0 [13] [] (.h 0 [20] [] (.h 0 [21] [] (.h 2 [22] [] (.h 0 [23] [] (.h 0 [24] [] (.h 0 [25] [] (.h 0 [26] [] (.h 0 [27] [] (.h 0 [28] [] (.h 0 [29] [] (.h 3 [30] [] (.h 3 [31] [] (.h 0 [32] [] (.h 0 [33] [] (.h 0 [34] [] (.h 0 [35] [] (.h 0 [36] [] (.h 0 [37] [] (.h 0 [38] [] (.h 0 [39] [] (.h 0 [40] [] (.h 0 [41] [] (.h 0 [42] [] (.h 3 [43] [] .e .e) .e) .e) .e) .e) .e) .e) .e) .e) .e) .e) .e) .e) .e) .e) .e) .e) .e) .e) .e) .e) (.h 0 [23] [] (.h 0 [24] [] (.h 0 [26] [] (.h 0 [27] [] (.h 0 [25] [] (.h 0 [28] [] (.h 0 [29] [] (.h 0 [30] [] (.h 2 [31] [] (.h 0 [32] [] (.h 0 [33] [] (.h 0 [34] [] (.h 0 [35] [] (.h 0 [36] [] (.h 0 [37] [] (.h 0 [38] [] (.h 0 [39] [] (.h 0 [40] [] (.h 0 [41] [] (.h 0 [42] [] (.h 3 [43] [] .e .e) .e) .e) .e) .e) .e) .e) .e) .e) .e) .e) .e) (.h 0 [32] [] (.h 0 [33] [] (.h 0 [36] [] (.h 0 [37] [] (.h 0 [38] [] (.h 0 [39] [] (.h 0 [40] [] (.h 0 [41] [] (.h 0 [34] [] (.h 0 [35] [] (.h 0 [42] [] (.h 0 [43] [] .e .e) .e) .e) .e) .e) .e) .e) .e) .e) .e) .e) .e)) .e) .e) .e) .e) .e) .e) .e) .e)) .e) .e) .e) .e) .e) .e) .e) .e) .e) .e) .e)) .e) .e) .e) .e) .e) .e) .e) .e) .e) .e) .e) .e) (.h 0 [] [] (.h 0 [] [] .e (.h 0 [] [] (.h 0 [54] [1, 52, 53] (.h 0 [] [] .e (.h 0 [] [] .e (.h 0 [] [] (.h 0 [] [] (.h 0 [] [] .e (.h 0 [] [] (.h 1 [] [] (.h 0 [0] [] (.h 0 [1] [] (.h 0 [2] [] (.h 0 [3] [] (.h 0 [4] [] (.h 0 [5] [] (.h 0 [6] [] (.h 0 [7] [] (.h 1 [12] [] (.h 0 [8] [] (.h 0 [9] [] (.h 0 [10] [] (.h 0 [11] [] (.h 0 [12] [] (.h 0 [13] [] (.h 0 [14] [] .e .e) .e) .e) .e) .e) .e) .e) .e) .e) .e) .e) .e) .e) .e) .e) .e) .e) (.h 1 [93] [1, 52, 53, 54] (.h 1 [] [] (.h 0 [0] [] (.h 0 [1] [] (.h 2 [2] [] (.h 0 [3] [] (.h 0 [4] [] (.h 0 [5] [] (.h 0 [6] [] (.h 0 [7] [] (.h 0 [8] [] (.h 0 [9] [] (.h 0 [10] [] (.h 3 [11] [] (.h 3 [12] [] (.h 0 [13] [] (.h 0 [14] [] (.h 0 [15] [] (.h 0 [16] [] (.h 0 [17] [] (.h 0 [18] [] (.h 0 [19] [] (.h 0 [20] [] (.h 0 [21] [] (.h 3 [22] [] .e .e) .e) .e) .e) .e) .e) .e) .e) .e) .e) .e) .e) .e) .e) .e) .e) .e) .e) .e) .e) (.h 0 [3] [] (.h 0 [4] [] (.h 0 [5] [] (.h 0 [6] [] (.h 0 [7] [] (.h 0 [8] [] (.h 0 [9] [] (.h 0 [10] [] (.h 0 [11] [] (.h 2 [12] [] (.h 0 [13] [] (.h 0 [14] [] (.h 0 [15] [] (.h 0 [16] [] (.h 0 [17] [] (.h 0 [18] [] (.h 0 [19] [] (.h 0 [20] [] (.h 0 [21] [] (.h 3 [22] [] .e .e) .e) .e) .e) .e) .e) .e) .e) .e) .e) (.h 0 [13] [] (.h 0 [14] [] (.h 0 [15] [] (.h 0 [17] [] (.h 0 [18] [] (.h 0 [19] [] (.h 0 [16] [] (.h 0 [20] [] (.h 0 [21] [] (.h 0 [22] [] .e .e) .e) .e) .e) .e) .e) .e) .e) .e) .e)) .e) .e) .e) .e) .e) .e) .e) .e) .e)) .e) .e) .e) .e))) .e) .e))) .e) .e)) .e)))) Tryz.func24 (by rw [L24_eq]; exact h)
def L26 (g : Gh) (a0 : Value) (H : Hp) (R : Ending → Hp → Prop) : Prop :=
Bin .num .eql a0 (Value.int .i64 2) fun v1 =>
Br v1 (
BuildSl Tryz.prog 22 1 [(0, (Value.int .i64 0))] H fun v2 H3 =>
R (.returned (.tuple #[v2, (Value.int .i64 0)])) H3) (
Bin .num .eql a0 (Value.int .i64 3) fun v4 =>
Br v4 (
BuildSl Tryz.prog 22 5 [(0, (Value.int .i64 1)), (1, (Value.int .i64 0)), (2, (Value.int .i64 1)), (3, (Value.int .i64 0)), (4, (Value.int .i64 1))] H fun v5 H6 =>
R (.returned (.tuple #[v5, (Value.int .i64 0)])) H6) (
Bin .num .eql a0 (Value.int .i64 4) fun v7 =>
Br v7 (
BuildSl Tryz.prog 22 23 [(0, (Value.int .i64 2)), (1, (Value.int .i64 1)), (2, (Value.int .i64 0)), (3, (Value.int .i64 2)), (4, (Value.int .i64 0)), (5, (Value.int .i64 1)), (6, (Value.int .i64 2)), (7, (Value.int .i64 0)), (8, (Value.int .i64 2)), (9, (Value.int .i64 1)), (10, (Value.int .i64 0)), (11, (Value.int .i64 2)), (12, (Value.int .i64 0)), (13, (Value.int .i64 1)), (14, (Value.int .i64 2)), (15, (Value.int .i64 0)), (16, (Value.int .i64 2)), (17, (Value.int .i64 1)), (18, (Value.int .i64 0)), (19, (Value.int .i64 2)), (20, (Value.int .i64 0)), (21, (Value.int .i64 1)), (22, (Value.int .i64 2))] H fun v8 H9 =>
R (.returned (.tuple #[v8, (Value.int .i64 0)])) H9) (
R (.returned (.tuple #[(.slice none 0 0), (Value.int .i64 1)])) H)))
theorem L26_eq (g : Gh) (a0 : Value) (H : Hp) (R : Ending → Hp → Prop) : denF Tryz.prog g Tryz.f26 .e [a0] H R = L26 g a0 H R := by kernel_rfl
theorem L26_sound {g : Gh} {a0 : Value} {H : Hp} {R : Ending → Hp → Prop} (h : L26 g a0 H R) : SCalls Tryz.prog g 26 #[a0] H R :=
  denF_sound (fn := Tryz.f26) (hn := .e) Tryz.func26 (by rw [L26_eq]; exact h)
def L28 (g : Gh) (a0 a1 : Value) (H : Hp) (R : Ending → Hp → Prop) : Prop :=
Bin .ptr .eql a0 (.pointer none) fun v1 =>
Br v1 (
R (.returned (Value.int .i64 10)) H) (
Bin .num .lss a1 (Value.int .i64 0) fun v2 =>
Grp v2 false (fun t3 =>
Nil a0 fun v4 =>
FAddr 4 v4 fun v5 =>
Ld H v5 fun v6 =>
Bin .num .sub v6 (Value.int .i64 2) fun v7 =>
Bin .num .gtr a1 v7 fun v8 =>
(H = H ∧ v8 = Value.bool t3)) (fun t3 => (Value.bool true) = Value.bool t3) fun t3 => ∀ gs9 : Fr,
Br (Value.bool t3) (
R (.returned (Value.int .i64 1)) H) (
CallF Tryz.prog g 76 #[a0, a1] H (fun v10 H11 =>
Un .not v10 fun v12 =>
Br v12 (
R (.returned (Value.int .i64 9)) H11) (
Nil a0 fun v13 =>
FAddr 7 v13 fun v14 =>
Ld H11 v14 fun v15 =>
BuildSl Tryz.prog 22 1 [(0, a1)] H11 fun v16 H17 =>
App Tryz.prog 3 1 8 (Value.int .i64 0) H17 v15 v16 fun v20 H21 =>
Nil a0 fun v22 =>
FAddr 7 v22 fun v23 =>
St 1 H21 v23 v20 fun H24 =>
R (.returned (Value.int .i64 0)) H24)) (PanR R)))
theorem L28_eq (g : Gh) (a0 a1 : Value) (H : Hp) (R : Ending → Hp → Prop) : denF Tryz.prog g Tryz.f28 (.h 0 [] [] .e (.h 0 [] [] (.h 0 [] [] (.h 0 [] [] .e (.h 0 [] [] .e (.h 0 [] [] (.h 0 [] [1] .e .e) .e))) .e) .e)) [a0, a1] H R = L28 g a0 a1 H R := by kernel_rfl
theorem L28_sound {g : Gh} {a0 a1 : Value} {H : Hp} {R : Ending → Hp → Prop} (h : L28 g a0 a1 H R) : SCalls Tryz.prog g 28 #[a0, a1] H R :=
  denF_sound (fn := Tryz.f28) (hn := (.h 0 [] [] .e (.h 0 [] [] (.h 0 [] [] (.h 0 [] [] .e (.h 0 [] [] .e (.h 0 [] [] (.h 0 [] [1] .e .e) .e))) .e) .e))) Tryz.func28 (by rw [L28_eq]; exact h)
def L29 (g : Gh) (a0 : Value) (H : Hp) (R : Ending → Hp → Prop) : Prop :=
Bin .ptr .eql a0 (.pointer none) fun v1 =>
Grp v1 false (fun t2 =>
Nil a0 fun v3 =>
FAddr 7 v3 fun v4 =>
Ld H v4 fun v5 =>
LenS v5 fun v6 =>
Bin .num .eql v6 (Value.int .i64 0) fun v7 =>
(H = H ∧ v7 = Value.bool t2)) (fun t2 => (Value.bool true) = Value.bool t2) fun t2 => ∀ gs8 : Fr,
Br (Value.bool t2) (
R (.returned (.tuple #[(Value.int .i64 0), (Value.int .i64 10)])) H) (
Nil a0 fun v9 =>
FAddr 7 v9 fun v10 =>
Ld H v10 fun v11 =>
LenS v11 fun v12 =>
Bin .num .sub v12 (Value.int .i64 1) fun v13 =>
Nil a0 fun v14 =>
FAddr 7 v14 fun v15 =>
Ld H v15 fun v16 =>
IAddr 1 v16 v13 fun v17 =>
Ld H v17 fun v18 =>
CallF Tryz.prog g 76 #[a0, v18] H (fun v19 H20 =>
Nil a0 fun v21 =>
FAddr 7 v21 fun v22 =>
Ld H20 v22 fun v23 =>
SliceE 1 v23 none (some v13) fun v24 =>
Nil a0 fun v25 =>
FAddr 7 v25 fun v26 =>
St 1 H20 v26 v24 fun H27 =>
R (.returned (.tuple #[v18, (Value.int .i64 0)])) H27) (PanR R))
theorem L29_eq (g : Gh) (a0 : Value) (H : Hp) (R : Ending → Hp → Prop) : denF Tryz.prog g Tryz.f29 (.h 0 [] [] .e (.h 0 [] [] (.h 0 [] [] (.h 0 [] [1] .e .e) .e) .e)) [a0] H R = L29 g a0 H R := by kernel_rfl
theorem L29_sound {g : Gh} {a0 : Value} {H : Hp} {R : Ending → Hp → Prop} (h : L29 g a0 H R) : SCalls Tryz.prog g 29 #[a0] H R :=
  denF_sound (fn := Tryz.f29) (hn := (.h 0 [] [] .e (.h 0 [] [] (.h 0 [] [] (.h 0 [] [1] .e .e) .e) .e))) Tryz.func29 (by rw [L29_eq]; exact h)
def L35 (g : Gh) (a0 : Value) (H : Hp) (R : Ending → Hp → Prop) : Prop :=
∃ (I1 : List Value → Hp → Prop) (m2 : List Value → Hp → Nat), JE I1 [(Value.int .i64 0)] H ∧ ∀ w5 : Value, ∀ H4 : Hp, I1 [w5] H4 → ∀ gs3 : Fr,
LenS a0 fun v6 =>
Bin .num .lss w5 v6 fun v7 =>
Br v7 (
CallF Tryz.prog g 86 #[a0, w5] H4 (fun v8 H9 =>
Bin .num .lss v8 (Value.int .i64 0) fun v10 =>
Br v10 (
R (.returned (Value.int .i64 4)) H9) (
Bin .num .add w5 (Value.int .i64 1) fun v11 =>
Back I1 m2 [v11] H9 [w5] H4)) (PanR R)) (
LenS a0 fun v12 =>
Bin .num .gtr v12 (Value.int .i64 64) fun v13 =>
Br v13 (
R (.returned (Value.int .i64 13)) H4) (
R (.returned (Value.int .i64 0)) H4))
theorem L35_eq (g : Gh) (a0 : Value) (H : Hp) (R : Ending → Hp → Prop) : denF Tryz.prog g Tryz.f35 (.h 0 [] [] .e (.h 0 [] [] (.h 0 [] [] .e (.h 0 [] [] (.h 0 [3] [0] .e .e) .e)) .e)) [a0] H R = L35 g a0 H R := by kernel_rfl
theorem L35_sound {g : Gh} {a0 : Value} {H : Hp} {R : Ending → Hp → Prop} (h : L35 g a0 H R) : SCalls Tryz.prog g 35 #[a0] H R :=
  denF_sound (fn := Tryz.f35) (hn := (.h 0 [] [] .e (.h 0 [] [] (.h 0 [] [] .e (.h 0 [] [] (.h 0 [3] [0] .e .e) .e)) .e))) Tryz.func35 (by rw [L35_eq]; exact h)
def L37 (g : Gh) (a0 a1 : Value) (H : Hp) (R : Ending → Hp → Prop) : Prop :=
New H (.cells #[(Value.int .i64 0), (.slice none 0 0)] 55 (0, 0)) fun b1 H2 =>
CallF Tryz.prog g 87 #[a0] H2 (fun v3 H4 =>
MkSlice 29 1 8 (Value.int .u64 0) H4 v3 v3 fun v5 H6 =>
Build Tryz.prog 55 [(0, a0), (1, v5)] fun v7 =>
New H6 (.cells #[(Value.int .i64 0), (.slice none 0 0)] 55 (0, 0)) fun b8 H9 =>
St 2 H9 (.pointer (some ⟨b8, 0, none⟩)) v7 fun H10 =>
∃ (I11 : List Value → Hp → Prop) (m12 : List Value → Hp → Nat), JE I11 [(Value.int .i64 0)] H10 ∧ ∀ w15 : Value, ∀ H14 : Hp, I11 [w15] H14 → ∀ gs13 : Fr,
LenS a1 fun v16 =>
Bin .num .lss w15 v16 fun v17 =>
Br v17 (
∀ J18 : List Value → Hp → Prop, (∀ H20 : Hp, (∀ gs19 : Fr,
Bin .num .add w15 (Value.int .i64 1) fun v21 =>
Back I11 m12 [v21] H20 [w15] H14) → J18 [] H20) →
IAddr 1 a1 w15 fun v22 =>
Ld H14 v22 fun v23 =>
Br v23 (
DR H14 fun R24 =>
FAddr 1 (.pointer (some ⟨b8, 0, none⟩)) fun v25 =>
Ld R24 v25 fun v26 =>
Bin .num .quo w15 (Value.int .i64 64) fun v27 =>
IAddr 1 v26 v27 fun v28 =>
Ld R24 v28 fun v29 =>
Bin .num .rem w15 (Value.int .i64 64) fun v30 =>
Bin .num .shl (Value.int .u64 1) v30 fun v31 =>
Bin .num .add v29 v31 fun v32 =>
IAddr 1 v26 v27 fun v33 =>
St 1 H14 v33 v32 fun H34 =>
JE J18 [] H34) (
JE J18 [] H14)) (
LdA 2 H14 (.pointer (some ⟨b8, 0, none⟩)) fun v35 =>
St 2 H14 (.pointer (some ⟨b1, 0, none⟩)) v35 fun H36 =>
LdA 2 H36 (.pointer (some ⟨b1, 0, none⟩)) fun v37 =>
R (.returned v37) H36)) (PanR R)
theorem L37_eq (g : Gh) (a0 a1 : Value) (H : Hp) (R : Ending → Hp → Prop) : denF Tryz.prog g Tryz.f37 (.h 0 [] [] .e (.h 0 [] [] .e (.h 0 [] [] (.h 0 [] [] .e (.h 0 [] [] (.h 0 [6] [1, 4, 5] (.h 0 [] [] .e (.h 1 [] [1, 4, 5, 6] (.h 0 [] [] (.h 0 [] [] .e (.h 0 [] [] (.h 0 [0, 1, 2, 3, 4, 5, 6, 7, 8, 9, 10, 11] [] .e .e) .e)) .e) .e)) .e) .e)) .e))) [a0, a1] H R = L37 g a0 a1 H R := by kernel_rfl
theorem L37_sound {g : Gh} {a0 a1 : Value} {H : Hp} {R : Ending → Hp → Prop} (h : L37 g a0 a1 H R) : SCalls Tryz.prog g 37 #[a0, a1] H R :=
  denF_sound (fn := Tryz.f37) (hn := (.h 0 [] [] .e (.h 0 [] [] .e (.h 0 [] [] (.h 0 [] [] .e (.h 0 [] [] (.h 0 [6] [1, 4, 5] (.h 0 [] [] .e (.h 1 [] [1, 4, 5, 6] (.h 0 [] [] (.h 0 [] [] .e (.h 0 [] [] (.h 0 [0, 1, 2, 3, 4, 5, 6, 7, 8, 9, 10, 11] [] .e .e) .e)) .e) .e)) .e) .e)) .e)))) Tryz.func37 (by rw [L37_eq]; exact h)
def L43 (g : Gh) (a0 : Value) (H : Hp) (R : Ending → Hp → Prop) : Prop :=
Bin .num .lss a0 (Value.int .i64 0) fun v1 =>
Grp v1 false (fun t2 =>
Bin .num .gtr a0 (Value.int .i64 64) fun v3 =>
(H = H ∧ v3 = Value.bool t2)) (fun t2 => (Value.bool true) = Value.bool t2) fun t2 => ∀ gs4 : Fr,
Br (Value.bool t2) (
R (.returned (.tuple #[(.slice none 0 0), (Value.int .i64 1)])) H) (
CallF Tryz.prog g 95 #[a0] H (fun v5 H6 =>
R (.returned (.tuple #[v5, (Value.int .i64 0)])) H6) (PanR R))
theorem L43_eq (g : Gh) (a0 : Value) (H : Hp) (R : Ending → Hp → Prop) : denF Tryz.prog g Tryz.f43 (.h 0 [] [] .e (.h 0 [] [] (.h 0 [] [] (.h 0 [] [1] .e .e) .e) .e)) [a0] H R = L43 g a0 H R := by kernel_rfl
theorem L43_sound {g : Gh} {a0 : Value} {H : Hp} {R : Ending → Hp → Prop} (h : L43 g a0 H R) : SCalls Tryz.prog g 43 #[a0] H R :=
  denF_sound (fn := Tryz.f43) (hn := (.h 0 [] [] .e (.h 0 [] [] (.h 0 [] [] (.h 0 [] [1] .e .e) .e) .e))) Tryz.func43 (by rw [L43_eq]; exact h)
def L44 (g : Gh) (a0 : Value) (H : Hp) (R : Ending → Hp → Prop) : Prop :=
Bin .num .lss a0 (Value.int .i64 1) fun v1 =>
Grp v1 false (fun t2 =>
Bin .num .gtr a0 (Value.int .i64 64) fun v3 =>
(H = H ∧ v3 = Value.bool t2)) (fun t2 => (Value.bool true) = Value.bool t2) fun t2 => ∀ gs4 : Fr,
Br (Value.bool t2) (
R (.returned (.tuple #[(.pointer none), (Value.int .i64 1)])) H) (
MkSlice 147 1 8 (.map none) H a0 a0 fun v5 H6 =>
Build Tryz.prog 146 [(0, v5)] fun v7 =>
New H6 (.cells (Value.cells v7) 146 (0, 0)) fun b8 H9 =>
∃ (I10 : List Value → Hp → Prop) (m11 : List Value → Hp → Nat), JE I10 [(Value.int .i64 0)] H9 ∧ ∀ w14 : Value, ∀ H13 : Hp, I10 [w14] H13 → ∀ gs12 : Fr,
Bin .num .lss w14 a0 fun v15 =>
Br v15 (
Nil (.pointer (some ⟨b8, 0, none⟩)) fun v16 =>
FAddr 0 v16 fun v17 =>
Ld H13 v17 fun v18 =>
MkMap H13 fun v19 H20 =>
IAddr 1 v18 w14 fun v21 =>
St 1 H20 v21 v19 fun H22 =>
Bin .num .add w14 (Value.int .i64 1) fun v23 =>
Back I10 m11 [v23] H22 [w14] H13) (
R (.returned (.tuple #[(.pointer (some ⟨b8, 0, none⟩)), (Value.int .i64 0)])) H13))
theorem L44_eq (g : Gh) (a0 : Value) (H : Hp) (R : Ending → Hp → Prop) : denF Tryz.prog g Tryz.f44 (.h 0 [] [] .e (.h 0 [] [] (.h 0 [] [] (.h 0 [] [1] .e .e) .e) (.h 0 [] [] .e (.h 0 [] [] (.h 0 [] [] .e (.h 0 [] [] (.h 0 [17] [4, 16] .e .e) .e)) .e)))) [a0] H R = L44 g a0 H R := by kernel_rfl
theorem L44_sound {g : Gh} {a0 : Value} {H : Hp} {R : Ending → Hp → Prop} (h : L44 g a0 H R) : SCalls Tryz.prog g 44 #[a0] H R :=
  denF_sound (fn := Tryz.f44) (hn := (.h 0 [] [] .e (.h 0 [] [] (.h 0 [] [] (.h 0 [] [1] .e .e) .e) (.h 0 [] [] .e (.h 0 [] [] (.h 0 [] [] .e (.h 0 [] [] (.h 0 [17] [4, 16] .e .e) .e)) .e))))) Tryz.func44 (by rw [L44_eq]; exact h)
def L45 (g : Gh) (a0 a1 : Value) (H : Hp) (R : Ending → Hp → Prop) : Prop :=
New H (.cells #[(.pointer none), (.pointer none), (.slice none 0 0), (.slice none 0 0)] 92 (0, 0)) fun b1 H2 =>
CallF Tryz.prog g 96 #[a0] H2 (fun v3 H4 =>
Ext 0 v3 fun v5 =>
Ext 1 v3 fun v6 =>
Build Tryz.prog 92 [(0, v5), (1, a1)] fun v7 =>
St 4 H4 (.pointer (some ⟨b1, 0, none⟩)) v7 fun H8 =>
LdA 4 H8 (.pointer (some ⟨b1, 0, none⟩)) fun v9 =>
R (.returned (.tuple #[v9, v6])) H8) (PanR R)
theorem L45_eq (g : Gh) (a0 a1 : Value) (H : Hp) (R : Ending → Hp → Prop) : denF Tryz.prog g Tryz.f45 .e [a0, a1] H R = L45 g a0 a1 H R := by kernel_rfl
theorem L45_sound {g : Gh} {a0 a1 : Value} {H : Hp} {R : Ending → Hp → Prop} (h : L45 g a0 a1 H R) : SCalls Tryz.prog g 45 #[a0, a1] H R :=
  denF_sound (fn := Tryz.f45) (hn := .e) Tryz.func45 (by rw [L45_eq]; exact h)
def L46 (g : Gh) (a0 : Value) (H : Hp) (R : Ending → Hp → Prop) : Prop :=
Bin .slice .eql a0 (.slice none 0 0) fun v1 =>
Br v1 (
R (.returned (.slice none 0 0)) H) (
BuildSl Tryz.prog 22 0 [] H fun v2 H3 =>
App Tryz.prog 3 1 8 (Value.int .i64 0) H3 v2 a0 fun v6 H7 =>
R (.returned v6) H7)
theorem L46_eq (g : Gh) (a0 : Value) (H : Hp) (R : Ending → Hp → Prop) : denF Tryz.prog g Tryz.f46 .e [a0] H R = L46 g a0 H R := by kernel_rfl
theorem L46_sound {g : Gh} {a0 : Value} {H : Hp} {R : Ending → Hp → Prop} (h : L46 g a0 H R) : SCalls Tryz.prog g 46 #[a0] H R :=
  denF_sound (fn := Tryz.f46) (hn := .e) Tryz.func46 (by rw [L46_eq]; exact h)
def L47 (g : Gh) (a0 a1 a2 a3 : Value) (H : Hp) (R : Ending → Hp → Prop) : Prop :=
CallF Tryz.prog g 94 #[a0, a1] H (fun v1 H2 =>
Un .not v1 fun v3 =>
Br v3 (
R (.returned (Value.int .i64 2)) H2) (
∀ J4 : List Value → Hp → Prop, (∀ w7 : Value, ∀ H6 : Hp, (∀ gs5 : Fr,
Br w7 (
R (.returned (Value.int .i64 3)) H6) (
∀ J8 : List Value → Hp → Prop, (∀ w11 : Value, ∀ H10 : Hp, (∀ gs9 : Fr,
Br w11 (
R (.returned (Value.int .i64 4)) H10) (
R (.returned (Value.int .i64 0)) H10)) → J8 [w11] H10) →
DR H6 fun R12 =>
Bin .num .neq a2 a3 fun v13 =>
Br v13 (
Nil a0 fun v14 =>
FAddr 6 v14 fun v15 =>
Ld R12 v15 fun v16 =>
IAddr 1 v16 a1 fun v17 =>
Ld R12 v17 fun v18 =>
∀ F19 : Hp,
CallF Tryz.prog (g.add F19) 98 #[a0, a2] H6 (fun v20 H21 =>
Ent H21 R12 ∧
∀ F22 : Hp,
CallF Tryz.prog (g.add F22) 98 #[a0, a3] H21 (fun v23 H24 =>
Ent H24 R12 ∧
MinI v20 v23 fun v25 =>
Bin .num .geq v18 v25 fun v26 =>
Pick (Value.bool true) v26 (Value.bool false) fun v27 =>
JE J8 [v27] H24) NoKP) NoKP) (
JE J8 [(Value.bool false)] H6))) → J4 [w7] H6) →
Nil a0 fun v28 =>
FAddr 0 v28 fun v29 =>
CallF Tryz.prog g 97 #[v29, a2] H2 (fun v30 H31 =>
Un .not v30 fun v32 =>
Split v32 false (
Nil a0 fun v33 =>
FAddr 0 v33 fun v34 =>
CallF Tryz.prog g 97 #[v34, a3] H31 (fun v35 H36 =>
Un .not v35 fun v37 =>
Pick (Value.bool false) (Value.bool true) v37 fun v38 =>
JE J4 [v38] H36) (PanR R)) (
Pick (Value.bool true) (Value.bool true) undef fun v39 =>
JE J4 [v39] H31)) (PanR R))) (PanR R)
theorem L47_eq (g : Gh) (a0 a1 a2 a3 : Value) (H : Hp) (R : Ending → Hp → Prop) : denF Tryz.prog g Tryz.f47 (.h 0 [] [] .e (.h 0 [] [] (.h 0 [] [] (.h 0 [] [] .e (.h 0 [] [] .e (.h 1 [14] [0, 1, 2, 3] .e (.h 0 [] [] .e (.h 1 [29] [] (.h 1 [] [] (.h 0 [0] [] (.h 0 [1] [] (.h 0 [2] [] (.h 2 [3] [] (.h 0 [4] [] (.h 0 [5] [] (.h 0 [6] [] (.h 0 [7] [] (.h 0 [8] [] (.h 0 [9] [] (.h 0 [10] [] (.h 0 [11] [] (.h 0 [12] [] (.h 0 [14] [] (.h 0 [15] [] (.h 0 [13] [] (.h 0 [16] [] (.h 0 [17] [] (.h 0 [18] [] (.h 0 [19] [] (.h 0 [20] [] .e .e) .e) .e) .e) .e) .e) .e) .e) .e) .e) .e) .e) .e) .e) .e) .e) .e) (.h 0 [4] [] (.h 0 [5] [] (.h 0 [6] [] (.h 0 [7] [] (.h 0 [8] [] (.h 0 [9] [] (.h 0 [10] [] (.h 0 [11] [] (.h 0 [12] [] (.h 0 [13] [] (.h 0 [14] [] (.h 0 [15] [] (.h 0 [16] [] (.h 0 [17] [] (.h 0 [18] [] (.h 3 [19] [] (.h 3 [20] [] .e .e) .e) .e) .e) .e) .e) .e) .e) .e) .e) .e) .e) .e) .e) .e) .e) .e)) .e) .e) .e) .e) .e))))) .e) .e)) [a0, a1, a2, a3] H R = L47 g a0 a1 a2 a3 H R := by kernel_rfl
theorem L47_sound {g : Gh} {a0 a1 a2 a3 : Value} {H : Hp} {R : Ending → Hp → Prop} (h : L47 g a0 a1 a2 a3 H R) : SCalls Tryz.prog g 47 #[a0, a1, a2, a3] H R :=
  denF_sound (fn := Tryz.f47) (hn := (.h 0 [] [] .e (.h 0 [] [] (.h 0 [] [] (.h 0 [] [] .e (.h 0 [] [] .e (.h 1 [14] [0, 1, 2, 3] .e (.h 0 [] [] .e (.h 1 [29] [] (.h 1 [] [] (.h 0 [0] [] (.h 0 [1] [] (.h 0 [2] [] (.h 2 [3] [] (.h 0 [4] [] (.h 0 [5] [] (.h 0 [6] [] (.h 0 [7] [] (.h 0 [8] [] (.h 0 [9] [] (.h 0 [10] [] (.h 0 [11] [] (.h 0 [12] [] (.h 0 [14] [] (.h 0 [15] [] (.h 0 [13] [] (.h 0 [16] [] (.h 0 [17] [] (.h 0 [18] [] (.h 0 [19] [] (.h 0 [20] [] .e .e) .e) .e) .e) .e) .e) .e) .e) .e) .e) .e) .e) .e) .e) .e) .e) .e) (.h 0 [4] [] (.h 0 [5] [] (.h 0 [6] [] (.h 0 [7] [] (.h 0 [8] [] (.h 0 [9] [] (.h 0 [10] [] (.h 0 [11] [] (.h 0 [12] [] (.h 0 [13] [] (.h 0 [14] [] (.h 0 [15] [] (.h 0 [16] [] (.h 0 [17] [] (.h 0 [18] [] (.h 3 [19] [] (.h 3 [20] [] .e .e) .e) .e) .e) .e) .e) .e) .e) .e) .e) .e) .e) .e) .e) .e) .e) .e)) .e) .e) .e) .e) .e))))) .e) .e))) Tryz.func47 (by rw [L47_eq]; exact h)
def L48 (g : Gh) (a0 a1 a2 a3 : Value) (H : Hp) (R : Ending → Hp → Prop) : Prop :=
Bin .num .eql a2 a3 fun v1 =>
Br v1 (
R (.returned (.tuple #[a2, (Value.bool true)])) H) (
Nil a0 fun v2 =>
FAddr 0 v2 fun v3 =>
FAddr 1 v3 fun v4 =>
Ld H v4 fun v5 =>
Build Tryz.prog 103 [(0, a1), (1, a2), (2, a3)] fun v6 =>
CallF Tryz.prog g 99 #[v5, v6] H (fun v7 H8 =>
Ext 0 v7 fun v9 =>
Ext 1 v7 fun v10 =>
R (.returned (.tuple #[v9, v10])) H8) (PanR R))
theorem L48_eq (g : Gh) (a0 a1 a2 a3 : Value) (H : Hp) (R : Ending → Hp → Prop) : denF Tryz.prog g Tryz.f48 .e [a0, a1, a2, a3] H R = L48 g a0 a1 a2 a3 H R := by kernel_rfl
theorem L48_sound {g : Gh} {a0 a1 a2 a3 : Value} {H : Hp} {R : Ending → Hp → Prop} (h : L48 g a0 a1 a2 a3 H R) : SCalls Tryz.prog g 48 #[a0, a1, a2, a3] H R :=
  denF_sound (fn := Tryz.f48) (hn := .e) Tryz.func48 (by rw [L48_eq]; exact h)
def L49 (g : Gh) (a0 a1 : Value) (H : Hp) (R : Ending → Hp → Prop) : Prop :=
DR H fun R1 =>
Nil a0 fun v2 =>
FAddr 0 v2 fun v3 =>
Ld R1 v3 fun v4 =>
Nil a0 fun v5 =>
FAddr 0 v5 fun v6 =>
Ld R1 v6 fun v7 =>
CallF Tryz.prog g 54 #[v4] H (fun v8 H9 =>
Ent H9 R1 ∧
Bin .num .add v8 a1 fun v10 =>
CallF Tryz.prog g 100 #[v7] H9 (fun v11 H12 =>
Ent H12 R1 ∧
Bin .num .leq v10 v11 fun v13 =>
R (.returned v13) H12) NoKP) NoKP
theorem L49_eq (g : Gh) (a0 a1 : Value) (H : Hp) (R : Ending → Hp → Prop) : denF Tryz.prog g Tryz.f49 (.h 0 [] [] .e (.h 0 [] [] (.h 0 [0, 1, 2, 3, 5, 7, 8, 9, 10, 4, 6, 11, 12, 13] [] .e .e) .e)) [a0, a1] H R = L49 g a0 a1 H R := by kernel_rfl
theorem L49_sound {g : Gh} {a0 a1 : Value} {H : Hp} {R : Ending → Hp → Prop} (h : L49 g a0 a1 H R) : SCalls Tryz.prog g 49 #[a0, a1] H R :=
  denF_sound (fn := Tryz.f49) (hn := (.h 0 [] [] .e (.h 0 [] [] (.h 0 [0, 1, 2, 3, 5, 7, 8, 9, 10, 4, 6, 11, 12, 13] [] .e .e) .e))) Tryz.func49 (by rw [L49_eq]; exact h)
def L50 (g : Gh) (a0 a1 : Value) (H : Hp) (R : Ending → Hp → Prop) : Prop :=
New H (.cells (Value.cells a1) 103 (0, 0)) fun b1 H2 =>
DR H2 fun R3 =>
Nil a0 fun v4 =>
FAddr 0 v4 fun v5 =>
Ld R3 v5 fun v6 =>
LdA 3 R3 (.pointer (some ⟨b1, 0, none⟩)) fun v7 =>
CallF Tryz.prog g 101 #[v6, v7] H2 (fun v8 H9 =>
Ent H9 R3 ∧
Ext 0 v8 fun v10 =>
Ext 1 v8 fun v11 =>
∃ (I12 : List Value → Hp → Prop) (m13 : List Value → Hp → Nat), JE I12 [] H9 ∧ ∀ H15 : Hp, I12 [] H15 → ∀ gs14 : Fr,
ConvI .i64 v10 fun v16 =>
Nil a0 fun v17 =>
FAddr 2 v17 fun v18 =>
Ld H15 v18 fun v19 =>
LenS v19 fun v20 =>
Bin .num .geq v16 v20 fun v21 =>
Br v21 (
Nil a0 fun v22 =>
FAddr 2 v22 fun v23 =>
Ld H15 v23 fun v24 =>
BuildSl Tryz.prog 90 1 [(0, (Value.int .i32 0))] H15 fun v25 H26 =>
App Tryz.prog 21 1 4 (Value.int .i32 0) H26 v24 v25 fun v29 H30 =>
Nil a0 fun v31 =>
FAddr 2 v31 fun v32 =>
St 1 H30 v32 v29 fun H33 =>
Nil a0 fun v34 =>
FAddr 3 v34 fun v35 =>
Ld H33 v35 fun v36 =>
BuildSl Tryz.prog 90 1 [(0, (Value.int .i32 0))] H33 fun v37 H38 =>
App Tryz.prog 21 1 4 (Value.int .i32 0) H38 v36 v37 fun v41 H42 =>
Nil a0 fun v43 =>
FAddr 3 v43 fun v44 =>
St 1 H42 v44 v41 fun H45 =>
Back I12 m13 [] H45 [] H15) (
DR H15 fun R46 =>
Nil a0 fun v47 =>
FAddr 2 v47 fun v48 =>
Ld R46 v48 fun v49 =>
Nil a0 fun v50 =>
FAddr 3 v50 fun v51 =>
Ld R46 v51 fun v52 =>
IAddr 1 v49 v10 fun v53 =>
St 1 H15 v53 (Value.int .i32 0) fun H54 =>
IAddr 1 v52 v10 fun v55 =>
St 1 H54 v55 (Value.int .i32 0) fun H56 =>
FAddr 1 (.pointer (some ⟨b1, 0, none⟩)) fun v57 =>
Ld H56 v57 fun v58 =>
CallF Tryz.prog g 102 #[a0, v58] H56 (fun v59 H60 =>
FAddr 2 (.pointer (some ⟨b1, 0, none⟩)) fun v61 =>
Ld H60 v61 fun v62 =>
CallF Tryz.prog g 102 #[a0, v62] H60 (fun v63 H64 =>
DR H64 fun R65 =>
Nil a0 fun v66 =>
FAddr 1 v66 fun v67 =>
Ld R65 v67 fun v68 =>
LdA 3 R65 (.pointer (some ⟨b1, 0, none⟩)) fun v69 =>
CallF Tryz.prog g 103 #[v68, v69, v10] H64 (fun v70 H71 =>
R (.returned v10) H71) NoKP) (PanR R)) (PanR R))) NoKP
theorem L50_eq (g : Gh) (a0 a1 : Value) (H : Hp) (R : Ending → Hp → Prop) : denF Tryz.prog g Tryz.f50 (.h 0 [] [] .e (.h 0 [] [] (.h 0 [0, 1, 2, 3, 4, 5, 6, 7, 8, 9, 10] [] .e .e) (.h 0 [] [] (.h 0 [] [] (.h 0 [] [0, 3, 5] .e .e) .e) (.h 0 [] [] (.h 0 [0, 1, 2, 3, 4, 5, 6, 7, 8, 9, 10, 11, 12, 13] [] .e .e) (.h 0 [] [] .e (.h 0 [] [] .e (.h 0 [] [] (.h 0 [0, 1, 2, 3, 4, 5, 6] [] .e .e) .e))))))) [a0, a1] H R = L50 g a0 a1 H R := by kernel_rfl
theorem L50_sound {g : Gh} {a0 a1 : Value} {H : Hp} {R : Ending → Hp → Prop} (h : L50 g a0 a1 H R) : SCalls Tryz.prog g 50 #[a0, a1] H R :=
  denF_sound (fn := Tryz.f50) (hn := (.h 0 [] [] .e (.h 0 [] [] (.h 0 [0, 1, 2, 3, 4, 5, 6, 7, 8, 9, 10] [] .e .e) (.h 0 [] [] (.h 0 [] [] (.h 0 [] [0, 3, 5] .e .e) .e) (.h 0 [] [] (.h 0 [0, 1, 2, 3, 4, 5, 6, 7, 8, 9, 10, 11, 12, 13] [] .e .e) (.h 0 [] [] .e (.h 0 [] [] .e (.h 0 [] [] (.h 0 [0, 1, 2, 3, 4, 5, 6] [] .e .e) .e)))))))) Tryz.func50 (by rw [L50_eq]; exact h)
def L51 (g : Gh) (a0 a1 : Value) (H : Hp) (R : Ending → Hp → Prop) : Prop :=
Bin .ptr .eql a0 (.pointer none) fun v1 =>
Br v1 (
R (.returned (Value.int .i64 10)) H) (
Nil a0 fun v2 =>
FAddr 0 v2 fun v3 =>
CallF Tryz.prog g 97 #[v3, a1] H (fun v4 H5 =>
Un .not v4 fun v6 =>
Br v6 (
R (.returned (Value.int .i64 3)) H5) (
∀ J7 : List Value → Hp → Prop, (∀ H9 : Hp, (∀ gs8 : Fr,
Nil a0 fun v10 =>
FAddr 7 v10 fun v11 =>
St 1 H9 v11 (.slice none 0 0) fun H12 =>
R (.returned (Value.int .i64 0)) H12) → J7 [] H9) →
Bin .num .gtr a1 (Value.int .u32 1) fun v13 =>
Br v13 (
Nil a0 fun v14 =>
FAddr 0 v14 fun v15 =>
FAddr 3 v15 fun v16 =>
Ld H5 v16 fun v17 =>
IAddr 1 v17 a1 fun v18 =>
Ld H5 v18 fun v19 =>
Bin .num .eql v19 (Value.int .i32 65535) fun v20 =>
Br v20 (
R (.returned (Value.int .i64 8)) H5) (
Nil a0 fun v21 =>
FAddr 0 v21 fun v22 =>
FAddr 3 v22 fun v23 =>
Ld H5 v23 fun v24 =>
IAddr 1 v24 a1 fun v25 =>
Ld H5 v25 fun v26 =>
Bin .num .add v26 (Value.int .i32 1) fun v27 =>
IAddr 1 v24 a1 fun v28 =>
St 1 H5 v28 v27 fun H29 =>
Nil a0 fun v30 =>
FAddr 0 v30 fun v31 =>
FAddr 3 v31 fun v32 =>
Ld H29 v32 fun v33 =>
IAddr 1 v33 a1 fun v34 =>
Ld H29 v34 fun v35 =>
Bin .num .eql v35 (Value.int .i32 1) fun v36 =>
Br v36 (
Nil a0 fun v37 =>
FAddr 0 v37 fun v38 =>
FAddr 2 v38 fun v39 =>
Ld H29 v39 fun v40 =>
IAddr 1 v40 a1 fun v41 =>
Ld H29 v41 fun v42 =>
Bin .num .add v42 (Value.int .i32 1) fun v43 =>
IAddr 1 v40 a1 fun v44 =>
St 1 H29 v44 v43 fun H45 =>
JE J7 [] H45) (
JE J7 [] H29))) (
JE J7 [] H5))) (PanR R))
theorem L51_eq (g : Gh) (a0 a1 : Value) (H : Hp) (R : Ending → Hp → Prop) : denF Tryz.prog g Tryz.f51 (.h 0 [] [] .e (.h 0 [] [] .e (.h 1 [] [0] .e .e))) [a0, a1] H R = L51 g a0 a1 H R := by kernel_rfl
theorem L51_sound {g : Gh} {a0 a1 : Value} {H : Hp} {R : Ending → Hp → Prop} (h : L51 g a0 a1 H R) : SCalls Tryz.prog g 51 #[a0, a1] H R :=
  denF_sound (fn := Tryz.f51) (hn := (.h 0 [] [] .e (.h 0 [] [] .e (.h 1 [] [0] .e .e)))) Tryz.func51 (by rw [L51_eq]; exact h)
def L52 (g : Gh) (a0 a1 : Value) (H : Hp) (R : Ending → Hp → Prop) : Prop :=
Bin .ptr .eql a0 (.pointer none) fun v1 =>
Grp v1 false (fun t2 =>
ConvI .i64 a1 fun v3 =>
Nil a0 fun v4 =>
FAddr 0 v4 fun v5 =>
FAddr 3 v5 fun v6 =>
Ld H v6 fun v7 =>
LenS v7 fun v8 =>
Bin .num .geq v3 v8 fun v9 =>
(H = H ∧ v9 = Value.bool t2)) (fun t2 => (Value.bool true) = Value.bool t2) fun t2 => ∀ gs10 : Fr,
Br (Value.bool t2) (
R (.returned (Value.int .i64 0)) H) (
Nil a0 fun v11 =>
FAddr 0 v11 fun v12 =>
FAddr 3 v12 fun v13 =>
Ld H v13 fun v14 =>
IAddr 1 v14 a1 fun v15 =>
Ld H v15 fun v16 =>
ConvI .i64 v16 fun v17 =>
R (.returned v17) H)
theorem L52_eq (g : Gh) (a0 a1 : Value) (H : Hp) (R : Ending → Hp → Prop) : denF Tryz.prog g Tryz.f52 (.h 0 [] [] .e (.h 0 [] [] (.h 0 [] [] (.h 0 [] [1] .e .e) .e) .e)) [a0, a1] H R = L52 g a0 a1 H R := by kernel_rfl
theorem L52_sound {g : Gh} {a0 a1 : Value} {H : Hp} {R : Ending → Hp → Prop} (h : L52 g a0 a1 H R) : SCalls Tryz.prog g 52 #[a0, a1] H R :=
  denF_sound (fn := Tryz.f52) (hn := (.h 0 [] [] .e (.h 0 [] [] (.h 0 [] [] (.h 0 [] [1] .e .e) .e) .e))) Tryz.func52 (by rw [L52_eq]; exact h)
def L53 (g : Gh) (a0 a1 : Value) (H : Hp) (R : Ending → Hp → Prop) : Prop :=
BuildSl Tryz.prog 48 1 [(0, a1)] H fun v1 H2 =>
∃ (I3 : List Value → Hp → Prop) (m4 : List Value → Hp → Nat), JE I3 [v1] H2 ∧ ∀ w7 : Value, ∀ H6 : Hp, I3 [w7] H6 → ∀ gs5 : Fr,
LenS w7 fun v8 =>
Bin .num .gtr v8 (Value.int .i64 0) fun v9 =>
Br v9 (
LenS w7 fun v10 =>
Bin .num .sub v10 (Value.int .i64 1) fun v11 =>
IAddr 1 w7 v11 fun v12 =>
Ld H6 v12 fun v13 =>
SliceE 1 w7 none (some v11) fun v14 =>
Bin .num .leq v13 (Value.int .u32 1) fun v15 =>
Br v15 (
Back I3 m4 [v14] H6 [w7] H6) (
Nil a0 fun v16 =>
FAddr 2 v16 fun v17 =>
Ld H6 v17 fun v18 =>
IAddr 1 v18 v13 fun v19 =>
Ld H6 v19 fun v20 =>
Bin .num .sub v20 (Value.int .i32 1) fun v21 =>
IAddr 1 v18 v13 fun v22 =>
St 1 H6 v22 v21 fun H23 =>
Nil a0 fun v24 =>
FAddr 2 v24 fun v25 =>
Ld H23 v25 fun v26 =>
IAddr 1 v26 v13 fun v27 =>
Ld H23 v27 fun v28 =>
Bin .num .gtr v28 (Value.int .i32 0) fun v29 =>
Br v29 (
Back I3 m4 [v14] H23 [w7] H6) (
CallF Tryz.prog g 104 #[a0, v13] H23 (fun v30 H31 =>
New H31 (.cells #[(Value.int .i64 0), (Value.int .u32 0), (Value.int .u32 0)] 103 (0, 0)) fun b32 H33 =>
St 3 H33 (.pointer (some ⟨b32, 0, none⟩)) v30 fun H34 =>
DR H34 fun R35 =>
Nil a0 fun v36 =>
FAddr 1 v36 fun v37 =>
Ld R35 v37 fun v38 =>
LdA 3 R35 (.pointer (some ⟨b32, 0, none⟩)) fun v39 =>
CallF Tryz.prog g 105 #[v38, v39] H34 (fun v40 H41 =>
Nil a0 fun v42 =>
FAddr 0 v42 fun v43 =>
Ld H41 v43 fun v44 =>
CallF Tryz.prog g 106 #[v44, v13] H41 (fun v45 H46 =>
FAddr 1 (.pointer (some ⟨b32, 0, none⟩)) fun v47 =>
Ld H46 v47 fun v48 =>
FAddr 2 (.pointer (some ⟨b32, 0, none⟩)) fun v49 =>
Ld H46 v49 fun v50 =>
BuildSl Tryz.prog 48 2 [(0, v48), (1, v50)] H46 fun v51 H52 =>
App Tryz.prog 31 1 4 (Value.int .u32 0) H52 v14 v51 fun v55 H56 =>
Back I3 m4 [v55] H56 [w7] H6) (PanR R)) NoKP) (PanR R)))) (
R (.returned (.tuple #[])) H6)
theorem L53_eq (g : Gh) (a0 a1 : Value) (H : Hp) (R : Ending → Hp → Prop) : denF Tryz.prog g Tryz.f53 (.h 0 [] [] .e (.h 0 [] [] (.h 0 [4] [0] (.h 0 [] [] .e (.h 0 [] [] (.h 0 [] [] .e (.h 0 [] [] .e (.h 0 [] [] .e (.h 0 [] [] .e (.h 0 [] [] .e (.h 0 [] [] .e (.h 0 [] [] (.h 0 [0, 1, 2, 3, 4, 5] [] .e .e) .e))))))) .e)) .e) .e)) [a0, a1] H R = L53 g a0 a1 H R := by kernel_rfl
theorem L53_sound {g : Gh} {a0 a1 : Value} {H : Hp} {R : Ending → Hp → Prop} (h : L53 g a0 a1 H R) : SCalls Tryz.prog g 53 #[a0, a1] H R :=
  denF_sound (fn := Tryz.f53) (hn := (.h 0 [] [] .e (.h 0 [] [] (.h 0 [4] [0] (.h 0 [] [] .e (.h 0 [] [] (.h 0 [] [] .e (.h 0 [] [] .e (.h 0 [] [] .e (.h 0 [] [] .e (.h 0 [] [] .e (.h 0 [] [] .e (.h 0 [] [] (.h 0 [0, 1, 2, 3, 4, 5] [] .e .e) .e))))))) .e)) .e) .e))) Tryz.func53 (by rw [L53_eq]; exact h)
def L54 (g : Gh) (a0 : Value) (H : Hp) (R : Ending → Hp → Prop) : Prop :=
Bin .ptr .eql a0 (.pointer none) fun v1 =>
Br v1 (
R (.returned (Value.int .i64 0)) H) (
Nil a0 fun v2 =>
FAddr 3 v2 fun v3 =>
Ld H v3 fun v4 =>
R (.returned v4) H)
theorem L54_eq (g : Gh) (a0 : Value) (H : Hp) (R : Ending → Hp → Prop) : denF Tryz.prog g Tryz.f54 .e [a0] H R = L54 g a0 H R := by kernel_rfl
theorem L54_sound {g : Gh} {a0 : Value} {H : Hp} {R : Ending → Hp → Prop} (h : L54 g a0 H R) : SCalls Tryz.prog g 54 #[a0] H R :=
  denF_sound (fn := Tryz.f54) (hn := .e) Tryz.func54 (by rw [L54_eq]; exact h)
def L55 (g : Gh) (a0 a1 : Value) (H : Hp) (R : Ending → Hp → Prop) : Prop :=
Bin .ptr .eql a0 (.pointer none) fun v1 =>
Br v1 (
R (.returned (Value.int .i64 10)) H) (
Bin .num .lss a1 (Value.int .i64 2) fun v2 =>
Grp v2 false (fun t3 =>
Bin .num .gtr a1 (Value.int .i64 4) fun v4 =>
(H = H ∧ v4 = Value.bool t3)) (fun t3 => (Value.bool true) = Value.bool t3) fun t3 => ∀ gs5 : Fr,
Br (Value.bool t3) (
R (.returned (Value.int .i64 1)) H) (
R (.returned (Value.int .i64 0)) H))
theorem L55_eq (g : Gh) (a0 a1 : Value) (H : Hp) (R : Ending → Hp → Prop) : denF Tryz.prog g Tryz.f55 (.h 0 [] [] .e (.h 0 [] [] (.h 0 [] [] (.h 0 [] [] .e (.h 0 [] [] .e (.h 0 [] [] (.h 0 [] [1] .e .e) .e))) .e) .e)) [a0, a1] H R = L55 g a0 a1 H R := by kernel_rfl
theorem L55_sound {g : Gh} {a0 a1 : Value} {H : Hp} {R : Ending → Hp → Prop} (h : L55 g a0 a1 H R) : SCalls Tryz.prog g 55 #[a0, a1] H R :=
  denF_sound (fn := Tryz.f55) (hn := (.h 0 [] [] .e (.h 0 [] [] (.h 0 [] [] (.h 0 [] [] .e (.h 0 [] [] .e (.h 0 [] [] (.h 0 [] [1] .e .e) .e))) .e) .e))) Tryz.func55 (by rw [L55_eq]; exact h)
def L56 (g : Gh) (a0 : Value) (H : Hp) (R : Ending → Hp → Prop) : Prop :=
Bin .ptr .eql a0 (.pointer none) fun v1 =>
Br v1 (
R (.returned (Value.int .i64 0)) H) (
Nil a0 fun v2 =>
FAddr 4 v2 fun v3 =>
Ld H v3 fun v4 =>
R (.returned v4) H)
theorem L56_eq (g : Gh) (a0 : Value) (H : Hp) (R : Ending → Hp → Prop) : denF Tryz.prog g Tryz.f56 .e [a0] H R = L56 g a0 H R := by kernel_rfl
theorem L56_sound {g : Gh} {a0 : Value} {H : Hp} {R : Ending → Hp → Prop} (h : L56 g a0 H R) : SCalls Tryz.prog g 56 #[a0] H R :=
  denF_sound (fn := Tryz.f56) (hn := .e) Tryz.func56 (by rw [L56_eq]; exact h)
def L57 (g : Gh) (a0 a1 : Value) (H : Hp) (R : Ending → Hp → Prop) : Prop :=
New H (.cells (Value.cells a0) 25 (0, 0)) fun b1 H2 =>
DR H2 fun R3 =>
Ld R3 (.pointer (some ⟨b1, 0, none⟩)) fun v4 =>
Ld R3 (.pointer (some ⟨b1, 0, none⟩)) fun v5 =>
CallF Tryz.prog g 14 #[v4] H2 (fun v6 H7 =>
Ent H7 R3 ∧
CallF Tryz.prog g 14 #[v5] H7 (fun v8 H9 =>
Ent H9 R3 ∧
Build Tryz.prog 38 [(0, v6), (1, v8)] fun v10 =>
Build Tryz.prog 111 [(1, v10)] fun v11 =>
New H9 (.cells (Value.cells v11) 111 (0, 0)) fun b12 H13 =>
Ent H13 R3 ∧
CallF Tryz.prog g 26 #[a1] H13 (fun v14 H15 =>
Ext 0 v14 fun v16 =>
Ext 1 v14 fun v17 =>
New H15 (.cells #[(.slice none 0 0)] 22 (0, 0)) fun b18 H19 =>
St 1 H19 (.pointer (some ⟨b18, 0, none⟩)) v16 fun H20 =>
Nil (.pointer (some ⟨b12, 0, none⟩)) fun v21 =>
FAddr 0 v21 fun v22 =>
St 1 H20 v22 (.func (.func 107) #[] #[(.pointer (some ⟨b1, 0, none⟩)), (.pointer (some ⟨b18, 0, none⟩))]) fun H23 =>
R (.returned (.pointer (some ⟨b12, 0, none⟩))) H23) (PanR R)) NoKP) NoKP
theorem L57_eq (g : Gh) (a0 a1 : Value) (H : Hp) (R : Ending → Hp → Prop) : denF Tryz.prog g Tryz.f57 (.h 0 [] [] .e (.h 0 [] [] (.h 0 [0, 2, 1, 3, 4, 5, 6, 7] [] .e .e) .e)) [a0, a1] H R = L57 g a0 a1 H R := by kernel_rfl
theorem L57_sound {g : Gh} {a0 a1 : Value} {H : Hp} {R : Ending → Hp → Prop} (h : L57 g a0 a1 H R) : SCalls Tryz.prog g 57 #[a0, a1] H R :=
  denF_sound (fn := Tryz.f57) (hn := (.h 0 [] [] .e (.h 0 [] [] (.h 0 [0, 2, 1, 3, 4, 5, 6, 7] [] .e .e) .e))) Tryz.func57 (by rw [L57_eq]; exact h)
def L58 (g : Gh) (a0 a1 a2 : Value) (H : Hp) (R : Ending → Hp → Prop) : Prop :=
DR H fun R1 =>
Nil a0 fun v2 =>
FAddr 1 v2 fun v3 =>
FAddr 2 v3 fun v4 =>
Ld R1 v4 fun v5 =>
Nil a0 fun v6 =>
FAddr 0 v6 fun v7 =>
Ld R1 v7 fun v8 =>
CallV Tryz.prog g v8 #[a2] H (fun v9 H10 =>
Ent H10 R1 ∧
Bin .num .add v5 v9 fun v11 =>
Nil a0 fun v12 =>
FAddr 1 v12 fun v13 =>
FAddr 2 v13 fun v14 =>
St 1 H10 v14 v11 fun H15 =>
CallF Tryz.prog g 14 #[a1] H15 (fun v16 H17 =>
Nil a0 fun v18 =>
FAddr 1 v18 fun v19 =>
FAddr 1 v19 fun v20 =>
St 1 H17 v20 v16 fun H21 =>
R (.returned (.tuple #[])) H21) (PanR R)) NoKP
theorem L58_eq (g : Gh) (a0 a1 a2 : Value) (H : Hp) (R : Ending → Hp → Prop) : denF Tryz.prog g Tryz.f58 (.h 0 [] [] (.h 0 [0, 1, 2, 3, 4, 5, 6, 7, 8, 9, 10, 11, 12, 13, 14, 15] [] .e .e) .e) [a0, a1, a2] H R = L58 g a0 a1 a2 H R := by kernel_rfl
theorem L58_sound {g : Gh} {a0 a1 a2 : Value} {H : Hp} {R : Ending → Hp → Prop} (h : L58 g a0 a1 a2 H R) : SCalls Tryz.prog g 58 #[a0, a1, a2] H R :=
  denF_sound (fn := Tryz.f58) (hn := (.h 0 [] [] (.h 0 [0, 1, 2, 3, 4, 5, 6, 7, 8, 9, 10, 11, 12, 13, 14, 15] [] .e .e) .e)) Tryz.func58 (by rw [L58_eq]; exact h)
def L59 (g : Gh) (a0 a1 a2 : Value) (H : Hp) (R : Ending → Hp → Prop) : Prop :=
∃ (I1 : List Value → Hp → Prop) (m2 : List Value → Hp → Nat), JE I1 [(Value.int .i64 0)] H ∧ ∀ w5 : Value, ∀ H4 : Hp, I1 [w5] H4 → ∀ gs3 : Fr,
Bin .num .add w5 a2 fun v6 =>
CallF Tryz.prog g 56 #[a1] H4 (fun v7 H8 =>
Bin .num .leq v6 v7 fun v9 =>
Br v9 (
CallF Tryz.prog g 58 #[a0, a1, w5] H8 (fun v10 H11 =>
Bin .num .add w5 (Value.int .i64 1) fun v12 =>
Back I1 m2 [v12] H11 [w5] H4) (PanR R)) (
R (.returned (.tuple #[])) H8)) (PanR R)
theorem L59_eq (g : Gh) (a0 a1 a2 : Value) (H : Hp) (R : Ending → Hp → Prop) : denF Tryz.prog g Tryz.f59 (.h 0 [] [] .e (.h 0 [] [] (.h 0 [6] [0, 1, 2] .e .e) .e)) [a0, a1, a2] H R = L59 g a0 a1 a2 H R := by kernel_rfl
theorem L59_sound {g : Gh} {a0 a1 a2 : Value} {H : Hp} {R : Ending → Hp → Prop} (h : L59 g a0 a1 a2 H R) : SCalls Tryz.prog g 59 #[a0, a1, a2] H R :=
  denF_sound (fn := Tryz.f59) (hn := (.h 0 [] [] .e (.h 0 [] [] (.h 0 [6] [0, 1, 2] .e .e) .e))) Tryz.func59 (by rw [L59_eq]; exact h)
def L60 (g : Gh) (a0 a1 : Value) (H : Hp) (R : Ending → Hp → Prop) : Prop :=
New H (.cells #[(Value.int .i64 0), (Value.int .u32 0), (Value.int .u32 0)] 103 (0, 0)) fun b1 H2 =>
Bin .ptr .eql a0 (.pointer none) fun v3 =>
Br v3 (
Build Tryz.prog 103 [] fun v4 =>
St 3 H2 (.pointer (some ⟨b1, 0, none⟩)) v4 fun H5 =>
LdA 3 H5 (.pointer (some ⟨b1, 0, none⟩)) fun v6 =>
R (.returned (.tuple #[v6, (Value.int .i64 10)])) H5) (
Nil a0 fun v7 =>
FAddr 0 v7 fun v8 =>
CallF Tryz.prog g 97 #[v8, a1] H2 (fun v9 H10 =>
Un .not v9 fun v11 =>
Br v11 (
Build Tryz.prog 103 [] fun v12 =>
St 3 H10 (.pointer (some ⟨b1, 0, none⟩)) v12 fun H13 =>
LdA 3 H13 (.pointer (some ⟨b1, 0, none⟩)) fun v14 =>
R (.returned (.tuple #[v14, (Value.int .i64 3)])) H13) (
Nil a0 fun v15 =>
FAddr 0 v15 fun v16 =>
CallF Tryz.prog g 104 #[v16, a1] H10 (fun v17 H18 =>
St 3 H18 (.pointer (some ⟨b1, 0, none⟩)) v17 fun H19 =>
LdA 3 H19 (.pointer (some ⟨b1, 0, none⟩)) fun v20 =>
R (.returned (.tuple #[v20, (Value.int .i64 0)])) H19) (PanR R))) (PanR R))
theorem L60_eq (g : Gh) (a0 a1 : Value) (H : Hp) (R : Ending → Hp → Prop) : denF Tryz.prog g Tryz.f60 .e [a0, a1] H R = L60 g a0 a1 H R := by kernel_rfl
theorem L60_sound {g : Gh} {a0 a1 : Value} {H : Hp} {R : Ending → Hp → Prop} (h : L60 g a0 a1 H R) : SCalls Tryz.prog g 60 #[a0, a1] H R :=
  denF_sound (fn := Tryz.f60) (hn := .e) Tryz.func60 (by rw [L60_eq]; exact h)
def L61 (g : Gh) (a0 a1 : Value) (H : Hp) (R : Ending → Hp → Prop) : Prop :=
LenS a0 fun v1 =>
Bin .num .neq v1 a1 fun v2 =>
Br v2 (
R (.returned (Value.bool false)) H) (
∃ (I3 : List Value → Hp → Prop) (m4 : List Value → Hp → Nat), JE I3 [(Value.int .i64 0)] H ∧ ∀ w7 : Value, ∀ H6 : Hp, I3 [w7] H6 → ∀ gs5 : Fr,
Bin .num .lss w7 a1 fun v8 =>
Br v8 (
LenS a0 fun v9 =>
∃ (I10 : List Value → Hp → Prop) (m11 : List Value → Hp → Nat), JE I10 [(Value.int .i64 0), (Value.int .i64 0)] H6 ∧ ∀ w14 w15 : Value, ∀ H13 : Hp, I10 [w14, w15] H13 → ∀ gs12 : Fr,
Bin .num .lss w15 v9 fun v16 =>
Br v16 (
∀ J17 : List Value → Hp → Prop, (∀ w20 : Value, ∀ H19 : Hp, (∀ gs18 : Fr,
Bin .num .add w15 (Value.int .i64 1) fun v21 =>
Back I10 m11 [w20, v21] H19 [w14, w15] H13) → J17 [w20] H19) →
IAddr 1 a0 w15 fun v22 =>
Ld H13 v22 fun v23 =>
Bin .num .eql v23 w7 fun v24 =>
Br v24 (
Bin .num .add w14 (Value.int .i64 1) fun v25 =>
JE J17 [v25] H13) (
JE J17 [w14] H13)) (
Bin .num .neq w14 (Value.int .i64 1) fun v26 =>
Br v26 (
R (.returned (Value.bool false)) H13) (
Bin .num .add w7 (Value.int .i64 1) fun v27 =>
Back I3 m4 [v27] H13 [w7] H6))) (
R (.returned (Value.bool true)) H6))
theorem L61_eq (g : Gh) (a0 a1 : Value) (H : Hp) (R : Ending → Hp → Prop) : denF Tryz.prog g Tryz.f61 (.h 0 [] [] .e (.h 0 [] [] .e (.h 0 [] [] (.h 0 [] [] .e (.h 0 [] [] (.h 0 [5] [0, 1] (.h 0 [] [] .e (.h 0 [] [] (.h 0 [] [] (.h 0 [] [] .e (.h 0 [] [] (.h 0 [] [] .e (.h 0 [] [] (.h 0 [6, 20] [0, 1, 5, 18, 19] (.h 0 [] [] .e (.h 0 [] [] .e (.h 1 [6] [0, 1, 5, 18, 19, 20] .e .e))) .e) .e)) .e)) .e) .e)) .e) .e)) .e))) [a0, a1] H R = L61 g a0 a1 H R := by kernel_rfl
theorem L61_sound {g : Gh} {a0 a1 : Value} {H : Hp} {R : Ending → Hp → Prop} (h : L61 g a0 a1 H R) : SCalls Tryz.prog g 61 #[a0, a1] H R :=
  denF_sound (fn := Tryz.f61) (hn := (.h 0 [] [] .e (.h 0 [] [] .e (.h 0 [] [] (.h 0 [] [] .e (.h 0 [] [] (.h 0 [5] [0, 1] (.h 0 [] [] .e (.h 0 [] [] (.h 0 [] [] (.h 0 [] [] .e (.h 0 [] [] (.h 0 [] [] .e (.h 0 [] [] (.h 0 [6, 20] [0, 1, 5, 18, 19] (.h 0 [] [] .e (.h 0 [] [] .e (.h 1 [6] [0, 1, 5, 18, 19, 20] .e .e))) .e) .e)) .e)) .e) .e)) .e) .e)) .e)))) Tryz.func61 (by rw [L61_eq]; exact h)
def L62 (g : Gh) (a0 : Value) (H : Hp) (R : Ending → Hp → Prop) : Prop :=
New H (.cells (Value.cells a0) 55 (0, 0)) fun b1 H2 =>
∀ J3 : List Value → Hp → Prop, (∀ w6 : Value, ∀ H5 : Hp, (∀ gs4 : Fr,
Br w6 (
R (.returned (Value.bool false)) H5) (
FAddr 0 (.pointer (some ⟨b1, 0, none⟩)) fun v7 =>
Ld H5 v7 fun v8 =>
Bin .num .geq v8 (Value.int .i64 6) fun v9 =>
Grp v9 false (fun t10 =>
FAddr 1 (.pointer (some ⟨b1, 0, none⟩)) fun v11 =>
Ld H5 v11 fun v12 =>
IAddr 1 v12 (Value.int .i64 0) fun v13 =>
Ld H5 v13 fun v14 =>
FAddr 0 (.pointer (some ⟨b1, 0, none⟩)) fun v15 =>
Ld H5 v15 fun v16 =>
Bin .num .shl (Value.int .u64 1) v16 fun v17 =>
Bin .num .shr v14 v17 fun v18 =>
Bin .num .eql v18 (Value.int .u64 0) fun v19 =>
(H5 = H5 ∧ v19 = Value.bool t10)) (fun t10 => (Value.bool true) = Value.bool t10) fun t10 => ∀ gs20 : Fr,
R (.returned (Value.bool t10)) H5)) → J3 [w6] H5) →
DR H2 fun R21 =>
FAddr 0 (.pointer (some ⟨b1, 0, none⟩)) fun v22 =>
Ld R21 v22 fun v23 =>
Bin .num .lss v23 (Value.int .i64 0) fun v24 =>
Br v24 (
JE J3 [(Value.bool true)] H2) (
FAddr 0 (.pointer (some ⟨b1, 0, none⟩)) fun v25 =>
Ld R21 v25 fun v26 =>
Bin .num .gtr v26 (Value.int .i64 16) fun v27 =>
Pick (Value.bool false) (Value.bool true) v27 fun v28 =>
Br v28 (
JE J3 [(Value.bool true)] H2) (
FAddr 1 (.pointer (some ⟨b1, 0, none⟩)) fun v29 =>
Ld R21 v29 fun v30 =>
LenS v30 fun v31 =>
FAddr 0 (.pointer (some ⟨b1, 0, none⟩)) fun v32 =>
Ld R21 v32 fun v33 =>
∀ F34 : Hp,
CallF Tryz.prog (g.add F34) 87 #[v33] H2 (fun v35 H36 =>
Ent H36 R21 ∧
Bin .num .neq v31 v35 fun v37 =>
Pick (Value.bool false) (Value.bool true) v37 fun v38 =>
JE J3 [v38] H36) NoKP))
theorem L62_eq (g : Gh) (a0 : Value) (H : Hp) (R : Ending → Hp → Prop) : denF Tryz.prog g Tryz.f62 (.h 0 [] [] .e (.h 0 [] [] (.h 1 [19] [1] (.h 1 [] [] (.h 0 [0] [] (.h 0 [1] [] (.h 0 [2] [] (.h 2 [3] [] (.h 0 [4] [] (.h 0 [5] [] (.h 0 [6] [] (.h 3 [7] [] (.h 3 [8] [] (.h 0 [9] [] (.h 0 [10] [] (.h 0 [11] [] (.h 0 [12] [] (.h 0 [13] [] (.h 0 [14] [] (.h 0 [15] [] (.h 3 [16] [] .e .e) .e) .e) .e) .e) .e) .e) .e) .e) .e) .e) .e) .e) (.h 0 [4] [] (.h 0 [5] [] (.h 0 [6] [] (.h 0 [7] [] (.h 2 [8] [] (.h 0 [9] [] (.h 0 [10] [] (.h 0 [11] [] (.h 0 [12] [] (.h 0 [13] [] (.h 0 [14] [] (.h 0 [15] [] (.h 3 [16] [] .e .e) .e) .e) .e) .e) .e) .e) .e) (.h 0 [9] [] (.h 0 [10] [] (.h 0 [11] [] (.h 0 [12] [] (.h 0 [13] [] (.h 0 [14] [] (.h 0 [15] [] (.h 0 [16] [] .e .e) .e) .e) .e) .e) .e) .e) .e)) .e) .e) .e) .e)) .e) .e) .e) .e) .e) .e)) [a0] H R = L62 g a0 H R := by kernel_rfl
theorem L62_sound {g : Gh} {a0 : Value} {H : Hp} {R : Ending → Hp → Prop} (h : L62 g a0 H R) : SCalls Tryz.prog g 62 #[a0] H R :=
  denF_sound (fn := Tryz.f62) (hn := (.h 0 [] [] .e (.h 0 [] [] (.h 1 [19] [1] (.h 1 [] [] (.h 0 [0] [] (.h 0 [1] [] (.h 0 [2] [] (.h 2 [3] [] (.h 0 [4] [] (.h 0 [5] [] (.h 0 [6] [] (.h 3 [7] [] (.h 3 [8] [] (.h 0 [9] [] (.h 0 [10] [] (.h 0 [11] [] (.h 0 [12] [] (.h 0 [13] [] (.h 0 [14] [] (.h 0 [15] [] (.h 3 [16] [] .e .e) .e) .e) .e) .e) .e) .e) .e) .e) .e) .e) .e) .e) (.h 0 [4] [] (.h 0 [5] [] (.h 0 [6] [] (.h 0 [7] [] (.h 2 [8] [] (.h 0 [9] [] (.h 0 [10] [] (.h 0 [11] [] (.h 0 [12] [] (.h 0 [13] [] (.h 0 [14] [] (.h 0 [15] [] (.h 3 [16] [] .e .e) .e) .e) .e) .e) .e) .e) .e) (.h 0 [9] [] (.h 0 [10] [] (.h 0 [11] [] (.h 0 [12] [] (.h 0 [13] [] (.h 0 [14] [] (.h 0 [15] [] (.h 0 [16] [] .e .e) .e) .e) .e) .e) .e) .e) .e)) .e) .e) .e) .e)) .e) .e) .e) .e) .e) .e))) Tryz.func62 (by rw [L62_eq]; exact h)
def L63 (g : Gh) (a0 a1 : Value) (H : Hp) (R : Ending → Hp → Prop) : Prop :=
Build Tryz.prog 121 [(0, a0), (1, a1)] fun v1 =>
New H (.cells (Value.cells v1) 121 (0, 0)) fun b2 H3 =>
∃ (I4 : List Value → Hp → Prop) (m5 : List Value → Hp → Nat), JE I4 [(Value.int .i64 0)] H3 ∧ ∀ w8 : Value, ∀ H7 : Hp, I4 [w8] H7 → ∀ gs6 : Fr,
Bin .num .lss w8 a0 fun v9 =>
Br v9 (
Nil (.pointer (some ⟨b2, 0, none⟩)) fun v10 =>
FAddr 2 v10 fun v11 =>
Ld H7 v11 fun v12 =>
BuildSl Tryz.prog 22 1 [(0, w8)] H7 fun v13 H14 =>
App Tryz.prog 3 1 8 (Value.int .i64 0) H14 v12 v13 fun v17 H18 =>
Nil (.pointer (some ⟨b2, 0, none⟩)) fun v19 =>
FAddr 2 v19 fun v20 =>
St 1 H18 v20 v17 fun H21 =>
Bin .num .add w8 (Value.int .i64 1) fun v22 =>
Back I4 m5 [v22] H21 [w8] H7) (
R (.returned (.pointer (some ⟨b2, 0, none⟩))) H7)
theorem L63_eq (g : Gh) (a0 a1 : Value) (H : Hp) (R : Ending → Hp → Prop) : denF Tryz.prog g Tryz.f63 (.h 0 [] [] .e (.h 0 [] [] .e (.h 0 [] [] (.h 0 [] [] .e (.h 0 [] [] (.h 0 [6] [0, 5] .e .e) .e)) .e))) [a0, a1] H R = L63 g a0 a1 H R := by kernel_rfl
theorem L63_sound {g : Gh} {a0 a1 : Value} {H : Hp} {R : Ending → Hp → Prop} (h : L63 g a0 a1 H R) : SCalls Tryz.prog g 63 #[a0, a1] H R :=
  denF_sound (fn := Tryz.f63) (hn := (.h 0 [] [] .e (.h 0 [] [] .e (.h 0 [] [] (.h 0 [] [] .e (.h 0 [] [] (.h 0 [6] [0, 5] .e .e) .e)) .e)))) Tryz.func63 (by rw [L63_eq]; exact h)
def L64 (g : Gh) (a0 a1 : Value) (H : Hp) (R : Ending → Hp → Prop) : Prop :=
CallF Tryz.prog g 110 #[a0, a1] H (fun v1 H2 =>
Bin .num .neq v1 (Value.int .i64 0) fun v3 =>
Br v3 (
R (.returned (.tuple #[(.slice none 0 0), v1])) H2) (
∃ (I4 : List Value → Hp → Prop) (m5 : List Value → Hp → Nat), JE I4 [a0, (.slice none 0 0), (Value.int .i64 0)] H2 ∧ ∀ w8 w9 w10 : Value, ∀ H7 : Hp, I4 [w8, w9, w10] H7 → ∀ gs6 : Fr,
LenS a1 fun v11 =>
Bin .num .lss w10 v11 fun v12 =>
Br v12 (
IAddr 1 a1 w10 fun v13 =>
Ld H7 v13 fun v14 =>
CallF Tryz.prog g 86 #[w8, v14] H7 (fun v15 H16 =>
∃ (I17 : List Value → Hp → Prop) (m18 : List Value → Hp → Nat), JE I17 [w8, w9, v15] H16 ∧ ∀ w21 w22 w23 : Value, ∀ H20 : Hp, I17 [w21, w22, w23] H20 → ∀ gs19 : Fr,
Bin .num .gtr w23 w10 fun v24 =>
Br v24 (
Bin .num .sub w23 (Value.int .i64 1) fun v25 =>
CallF Tryz.prog g 111 #[w21, v25] H20 (fun v26 H27 =>
Bin .num .sub w23 (Value.int .i64 1) fun v28 =>
BuildSl Tryz.prog 22 1 [(0, v28)] H27 fun v29 H30 =>
App Tryz.prog 3 1 8 (Value.int .i64 0) H30 w22 v29 fun v33 H34 =>
Bin .num .sub w23 (Value.int .i64 1) fun v35 =>
Back I17 m18 [v26, v33, v35] H34 [w21, w22, w23] H20) (PanR R)) (
Bin .num .add w10 (Value.int .i64 1) fun v36 =>
Back I4 m5 [w21, w22, v36] H20 [w8, w9, w10] H7)) (PanR R)) (
R (.returned (.tuple #[w9, (Value.int .i64 0)])) H7))) (PanR R)
theorem L64_eq (g : Gh) (a0 a1 : Value) (H : Hp) (R : Ending → Hp → Prop) : denF Tryz.prog g Tryz.f64 (.h 0 [] [] .e (.h 0 [] [] .e (.h 0 [] [] .e (.h 0 [] [] .e (.h 0 [] [] (.h 0 [] [] .e (.h 0 [] [] (.h 0 [0, 7, 8] [1] (.h 0 [] [] .e (.h 0 [] [] (.h 0 [] [] (.h 0 [] [] .e (.h 0 [] [] (.h 0 [0, 7, 9] [1, 8] .e .e) .e)) .e) .e)) .e) .e)) .e))))) [a0, a1] H R = L64 g a0 a1 H R := by kernel_rfl
theorem L64_sound {g : Gh} {a0 a1 : Value} {H : Hp} {R : Ending → Hp → Prop} (h : L64 g a0 a1 H R) : SCalls Tryz.prog g 64 #[a0, a1] H R :=
  denF_sound (fn := Tryz.f64) (hn := (.h 0 [] [] .e (.h 0 [] [] .e (.h 0 [] [] .e (.h 0 [] [] .e (.h 0 [] [] (.h 0 [] [] .e (.h 0 [] [] (.h 0 [0, 7, 8] [1] (.h 0 [] [] .e (.h 0 [] [] (.h 0 [] [] (.h 0 [] [] .e (.h 0 [] [] (.h 0 [0, 7, 9] [1, 8] .e .e) .e)) .e) .e)) .e) .e)) .e)))))) Tryz.func64 (by rw [L64_eq]; exact h)
def L65 (g : Gh) (a0 a1 : Value) (H : Hp) (R : Ending → Hp → Prop) : Prop :=
Bin .num .lss a1 (Value.int .i64 0) fun v1 =>
Grp v1 false (fun t2 =>
Nil a0 fun v3 =>
FAddr 0 v3 fun v4 =>
Ld H v4 fun v5 =>
Bin .num .sub v5 (Value.int .i64 2) fun v6 =>
Bin .num .gtr a1 v6 fun v7 =>
(H = H ∧ v7 = Value.bool t2)) (fun t2 => (Value.bool true) = Value.bool t2) fun t2 => ∀ gs8 : Fr,
Br (Value.bool t2) (
R (.returned (Value.int .i64 1)) H) (
DR H fun R9 =>
Nil a0 fun v10 =>
FAddr 1 v10 fun v11 =>
Ld R9 v11 fun v12 =>
CallF Tryz.prog g 112 #[a0, a1] H (fun v13 H14 =>
Ent H14 R9 ∧
Bin .num .add (Value.int .i64 2) v13 fun v15 =>
Bin .num .gtr v15 v12 fun v16 =>
Br v16 (
R (.returned (Value.int .i64 9)) H14) (
Nil a0 fun v17 =>
FAddr 2 v17 fun v18 =>
Ld H14 v18 fun v19 =>
CallF Tryz.prog g 113 #[v19, a1] H14 (fun v20 H21 =>
Nil a0 fun v22 =>
FAddr 2 v22 fun v23 =>
St 1 H21 v23 v20 fun H24 =>
Nil a0 fun v25 =>
FAddr 4 v25 fun v26 =>
Ld H24 v26 fun v27 =>
BuildSl Tryz.prog 22 1 [(0, a1)] H24 fun v28 H29 =>
App Tryz.prog 3 1 8 (Value.int .i64 0) H29 v27 v28 fun v32 H33 =>
Nil a0 fun v34 =>
FAddr 4 v34 fun v35 =>
St 1 H33 v35 v32 fun H36 =>
R (.returned (Value.int .i64 0)) H36) (PanR R))) NoKP)
theorem L65_eq (g : Gh) (a0 a1 : Value) (H : Hp) (R : Ending → Hp → Prop) : denF Tryz.prog g Tryz.f65 (.h 0 [] [] .e (.h 0 [] [] (.h 0 [] [] (.h 0 [] [] (.h 0 [] [1] .e .e) (.h 0 [] [] .e (.h 0 [] [] (.h 0 [0, 1, 4, 5, 6, 7, 2, 3, 8, 9] [] .e .e) .e))) .e) .e)) [a0, a1] H R = L65 g a0 a1 H R := by kernel_rfl
theorem L65_sound {g : Gh} {a0 a1 : Value} {H : Hp} {R : Ending → Hp → Prop} (h : L65 g a0 a1 H R) : SCalls Tryz.prog g 65 #[a0, a1] H R :=
  denF_sound (fn := Tryz.f65) (hn := (.h 0 [] [] .e (.h 0 [] [] (.h 0 [] [] (.h 0 [] [] (.h 0 [] [1] .e .e) (.h 0 [] [] .e (.h 0 [] [] (.h 0 [0, 1, 4, 5, 6, 7, 2, 3, 8, 9] [] .e .e) .e))) .e) .e))) Tryz.func65 (by rw [L65_eq]; exact h)
def L66 (g : Gh) (a0 a1 : Value) (H : Hp) (R : Ending → Hp → Prop) : Prop :=
CallF Tryz.prog g 114 #[a0] H (fun v1 H2 =>
App Tryz.prog 55 2 32 (.agg #[(Value.int .i64 0), (.slice none 0 0)]) H2 (.slice none 0 0) v1 fun v5 H6 =>
App Tryz.prog 55 2 32 (.agg #[(Value.int .i64 0), (.slice none 0 0)]) H6 v5 a1 fun v9 H10 =>
DR H10 fun R11 =>
Nil a0 fun v12 =>
FAddr 1 v12 fun v13 =>
Ld R11 v13 fun v14 =>
CallF Tryz.prog g 115 #[a0, v9] H10 (fun v15 H16 =>
Ent H16 R11 ∧
Bin .num .add (Value.int .i64 2) v15 fun v17 =>
Bin .num .leq v17 v14 fun v18 =>
R (.returned v18) H16) NoKP) (PanR R)
theorem L66_eq (g : Gh) (a0 a1 : Value) (H : Hp) (R : Ending → Hp → Prop) : denF Tryz.prog g Tryz.f66 (.h 0 [] [] .e (.h 0 [] [] .e (.h 0 [] [] .e (.h 0 [] [] .e (.h 0 [] [] (.h 0 [0, 1, 4, 5, 6, 7, 2, 3, 8, 9] [] .e .e) .e))))) [a0, a1] H R = L66 g a0 a1 H R := by kernel_rfl
theorem L66_sound {g : Gh} {a0 a1 : Value} {H : Hp} {R : Ending → Hp → Prop} (h : L66 g a0 a1 H R) : SCalls Tryz.prog g 66 #[a0, a1] H R :=
  denF_sound (fn := Tryz.f66) (hn := (.h 0 [] [] .e (.h 0 [] [] .e (.h 0 [] [] .e (.h 0 [] [] .e (.h 0 [] [] (.h 0 [0, 1, 4, 5, 6, 7, 2, 3, 8, 9] [] .e .e) .e)))))) Tryz.func66 (by rw [L66_eq]; exact h)
def L67 (g : Gh) (a0 a1 a2 a3 : Value) (H : Hp) (R : Ending → Hp → Prop) : Prop :=
New H (.cells (Value.cells a2) 55 (0, 0)) fun b1 H2 =>
LdA 2 H2 (.pointer (some ⟨b1, 0, none⟩)) fun v3 =>
CallF Tryz.prog g 116 #[v3] H2 (fun v4 H5 =>
Br v4 (
LdA 2 H5 (.pointer (some ⟨b1, 0, none⟩)) fun v6 =>
CallF Tryz.prog g 117 #[v6, (Value.int .i64 0)] H5 (fun v7 H8 =>
Br v7 (
R (.returned (.tuple #[(Value.int .u32 1), (Value.int .i64 0)])) H8) (
R (.returned (.tuple #[(Value.int .u32 0), (Value.int .i64 0)])) H8)) (PanR R)) (
∃ (I9 : List Value → Hp → Prop) (m10 : List Value → Hp → Nat), JE I9 [a3] H5 ∧ ∀ w13 : Value, ∀ H12 : Hp, I9 [w13] H12 → ∀ gs11 : Fr,
DR H12 fun R14 =>
LdA 2 R14 (.pointer (some ⟨b1, 0, none⟩)) fun v15 =>
IAddr 1 a1 w13 fun v16 =>
Ld R14 v16 fun v17 =>
CallF Tryz.prog g 118 #[v15, v17] H12 (fun v18 H19 =>
Un .not v18 fun v20 =>
Br v20 (
Bin .num .add w13 (Value.int .i64 1) fun v21 =>
Back I9 m10 [v21] H19 [w13] H12) (
DR H19 fun R22 =>
LdA 2 R22 (.pointer (some ⟨b1, 0, none⟩)) fun v23 =>
IAddr 1 a1 w13 fun v24 =>
Ld R22 v24 fun v25 =>
Bin .num .add w13 (Value.int .i64 1) fun v26 =>
CallF Tryz.prog g 119 #[v23, v25, (Value.bool false)] H19 (fun v27 H28 =>
Ent H28 R22 ∧
CallF Tryz.prog g 67 #[a0, a1, v27, v26] H28 (fun v29 H30 =>
Ent H30 R22 ∧
Ext 0 v29 fun v31 =>
Ext 1 v29 fun v32 =>
Bin .num .neq v32 (Value.int .i64 0) fun v33 =>
Br v33 (
R (.returned (.tuple #[(Value.int .u32 0), v32])) H30) (
DR H30 fun R34 =>
LdA 2 R34 (.pointer (some ⟨b1, 0, none⟩)) fun v35 =>
IAddr 1 a1 w13 fun v36 =>
Ld R34 v36 fun v37 =>
Bin .num .add w13 (Value.int .i64 1) fun v38 =>
CallF Tryz.prog g 119 #[v35, v37, (Value.bool true)] H30 (fun v39 H40 =>
Ent H40 R34 ∧
CallF Tryz.prog g 67 #[a0, a1, v39, v38] H40 (fun v41 H42 =>
Ent H42 R34 ∧
Ext 0 v41 fun v43 =>
Ext 1 v41 fun v44 =>
Bin .num .neq v44 (Value.int .i64 0) fun v45 =>
Br v45 (
CallF Tryz.prog g 12 #[a0, v31] H42 (fun v46 H47 =>
R (.returned (.tuple #[(Value.int .u32 0), v44])) H47) (PanR R)) (
IAddr 1 a1 w13 fun v48 =>
Ld H42 v48 fun v49 =>
CallF Tryz.prog g 11 #[a0, v49, v31, v43] H42 (fun v50 H51 =>
Ext 0 v50 fun v52 =>
Ext 1 v50 fun v53 =>
CallF Tryz.prog g 12 #[a0, v31] H51 (fun v54 H55 =>
CallF Tryz.prog g 12 #[a0, v43] H55 (fun v56 H57 =>
R (.returned (.tuple #[v52, v53])) H57) (PanR R)) (PanR R)) (PanR R))) NoKP) NoKP)) NoKP) NoKP)) NoKP)) (PanR R)
theorem L67_eq (g : Gh) (a0 a1 a2 a3 : Value) (H : Hp) (R : Ending → Hp → Prop) : denF Tryz.prog g Tryz.f67 (.h 0 [] [] .e (.h 0 [] [] .e (.h 0 [] [] (.h 0 [] [] (.h 0 [3] [0, 1, 6] (.h 0 [] [] (.h 0 [] [] (.h 0 [0, 1, 2, 3, 4, 5, 6] [] .e .e) .e) .e) .e) .e) (.h 0 [] [] (.h 0 [0, 1, 2, 3, 4, 5, 6, 8, 9, 7, 10, 11, 12, 13, 14, 15] [] .e .e) (.h 0 [] [] .e (.h 0 [] [] (.h 0 [0, 1, 2, 3, 4, 5, 6, 8, 9, 7, 10, 11, 12, 13, 14, 15] [] .e .e) .e)))))) [a0, a1, a2, a3] H R = L67 g a0 a1 a2 a3 H R := by kernel_rfl
theorem L67_sound {g : Gh} {a0 a1 a2 a3 : Value} {H : Hp} {R : Ending → Hp → Prop} (h : L67 g a0 a1 a2 a3 H R) : SCalls Tryz.prog g 67 #[a0, a1, a2, a3] H R :=
  denF_sound (fn := Tryz.f67) (hn := (.h 0 [] [] .e (.h 0 [] [] .e (.h 0 [] [] (.h 0 [] [] (.h 0 [3] [0, 1, 6] (.h 0 [] [] (.h 0 [] [] (.h 0 [0, 1, 2, 3, 4, 5, 6] [] .e .e) .e) .e) .e) .e) (.h 0 [] [] (.h 0 [0, 1, 2, 3, 4, 5, 6, 8, 9, 7, 10, 11, 12, 13, 14, 15] [] .e .e) (.h 0 [] [] .e (.h 0 [] [] (.h 0 [0, 1, 2, 3, 4, 5, 6, 8, 9, 7, 10, 11, 12, 13, 14, 15] [] .e .e) .e))))))) Tryz.func67 (by rw [L67_eq]; exact h)
def L68 (g : Gh) (a0 a1 : Value) (H : Hp) (R : Ending → Hp → Prop) : Prop :=
New H (.cells (Value.cells a1) 55 (0, 0)) fun b1 H2 =>
LdA 2 H2 (.pointer (some ⟨b1, 0, none⟩)) fun v3 =>
CallF Tryz.prog g 116 #[v3] H2 (fun v4 H5 =>
Br v4 (
R (.returned (Value.int .i64 0)) H5) (
∃ (I6 : List Value → Hp → Prop) (m7 : List Value → Hp → Nat), JE I6 [(Value.int .i64 0)] H5 ∧ ∀ w10 : Value, ∀ H9 : Hp, I6 [w10] H9 → ∀ gs8 : Fr,
Nil a0 fun v11 =>
FAddr 3 v11 fun v12 =>
Ld H9 v12 fun v13 =>
LenS v13 fun v14 =>
Bin .num .lss w10 v14 fun v15 =>
Br v15 (
DR H9 fun R16 =>
Nil a0 fun v17 =>
FAddr 3 v17 fun v18 =>
Ld R16 v18 fun v19 =>
IAddr 3 v19 w10 fun v20 =>
FAddr 0 v20 fun v21 =>
LdA 2 R16 v21 fun v22 =>
LdA 2 R16 (.pointer (some ⟨b1, 0, none⟩)) fun v23 =>
CallF Tryz.prog g 72 #[v22, v23] H9 (fun v24 H25 =>
Ent H25 R16 ∧
Br v24 (
Nil a0 fun v26 =>
FAddr 3 v26 fun v27 =>
Ld H25 v27 fun v28 =>
IAddr 3 v28 w10 fun v29 =>
FAddr 2 v29 fun v30 =>
Ld H25 v30 fun v31 =>
Bin .num .geq v31 (Value.int .i64 65535) fun v32 =>
Br v32 (
R (.returned (Value.int .i64 8)) H25) (
Nil a0 fun v33 =>
FAddr 3 v33 fun v34 =>
Ld H25 v34 fun v35 =>
IAddr 3 v35 w10 fun v36 =>
FAddr 2 v36 fun v37 =>
Ld H25 v37 fun v38 =>
Bin .num .add v38 (Value.int .i64 1) fun v39 =>
IAddr 3 v35 w10 fun v40 =>
FAddr 2 v40 fun v41 =>
St 1 H25 v41 v39 fun H42 =>
R (.returned (Value.int .i64 0)) H42)) (
Bin .num .add w10 (Value.int .i64 1) fun v43 =>
Back I6 m7 [v43] H25 [w10] H9)) NoKP) (
DR H9 fun R44 =>
Nil a0 fun v45 =>
FAddr 3 v45 fun v46 =>
Ld R44 v46 fun v47 =>
LdA 2 R44 (.pointer (some ⟨b1, 0, none⟩)) fun v48 =>
Build Tryz.prog 173 [(0, v48), (1, (Value.int .i64 1))] fun v49 =>
BuildSl Tryz.prog 119 1 [(0, v49)] H9 fun v50 H51 =>
Ent H51 R44 ∧
App Tryz.prog 173 3 40 (.agg #[(Value.int .i64 0), (.slice none 0 0), (Value.int .i64 0)]) H51 v47 v50 fun v54 H55 =>
Ent H55 R44 ∧
Nil a0 fun v56 =>
FAddr 3 v56 fun v57 =>
St 1 H55 v57 v54 fun H58 =>
R (.returned (Value.int .i64 0)) H58))) (PanR R)
theorem L68_eq (g : Gh) (a0 a1 : Value) (H : Hp) (R : Ending → Hp → Prop) : denF Tryz.prog g Tryz.f68 (.h 0 [] [] .e (.h 0 [] [] .e (.h 0 [] [] (.h 0 [] [] .e (.h 0 [] [] (.h 0 [5] [0, 3] (.h 0 [] [] .e (.h 0 [] [] (.h 0 [] [] (.h 0 [] [] (.h 0 [0, 1, 2, 3, 4, 5, 6, 7, 8, 9] [] .e .e) .e) .e) .e)) .e) .e)) (.h 0 [] [] (.h 0 [0, 1, 2, 3, 4, 5, 6, 7, 8, 9, 10, 11] [] .e .e) .e)))) [a0, a1] H R = L68 g a0 a1 H R := by kernel_rfl
theorem L68_sound {g : Gh} {a0 a1 : Value} {H : Hp} {R : Ending → Hp → Prop} (h : L68 g a0 a1 H R) : SCalls Tryz.prog g 68 #[a0, a1] H R :=
  denF_sound (fn := Tryz.f68) (hn := (.h 0 [] [] .e (.h 0 [] [] .e (.h 0 [] [] (.h 0 [] [] .e (.h 0 [] [] (.h 0 [5] [0, 3] (.h 0 [] [] .e (.h 0 [] [] (.h 0 [] [] (.h 0 [] [] (.h 0 [0, 1, 2, 3, 4, 5, 6, 7, 8, 9] [] .e .e) .e) .e) .e)) .e) .e)) (.h 0 [] [] (.h 0 [0, 1, 2, 3, 4, 5, 6, 7, 8, 9, 10, 11] [] .e .e) .e))))) Tryz.func68 (by rw [L68_eq]; exact h)
def L69 (g : Gh) (a0 : Value) (H : Hp) (R : Ending → Hp → Prop) : Prop :=
CallF Tryz.prog g 114 #[a0] H (fun v1 H2 =>
CallF Tryz.prog g 115 #[a0, v1] H2 (fun v3 H4 =>
R (.returned v3) H4) (PanR R)) (PanR R)
theorem L69_eq (g : Gh) (a0 : Value) (H : Hp) (R : Ending → Hp → Prop) : denF Tryz.prog g Tryz.f69 .e [a0] H R = L69 g a0 H R := by kernel_rfl
theorem L69_sound {g : Gh} {a0 : Value} {H : Hp} {R : Ending → Hp → Prop} (h : L69 g a0 H R) : SCalls Tryz.prog g 69 #[a0] H R :=
  denF_sound (fn := Tryz.f69) (hn := .e) Tryz.func69 (by rw [L69_eq]; exact h)
def L70 (g : Gh) (a0 : Value) (H : Hp) (R : Ending → Hp → Prop) : Prop :=
Bin .ptr .eql a0 (.pointer none) fun v1 =>
Br v1 (
R (.returned (.slice none 0 0)) H) (
Nil a0 fun v2 =>
FAddr 0 v2 fun v3 =>
FAddr 3 v3 fun v4 =>
Ld H v4 fun v5 =>
LenS v5 fun v6 =>
∃ (I7 : List Value → Hp → Prop) (m8 : List Value → Hp → Nat), JE I7 [(.slice none 0 0), (Value.int .i64 0)] H ∧ ∀ w11 w12 : Value, ∀ H10 : Hp, I7 [w11, w12] H10 → ∀ gs9 : Fr,
Bin .num .lss w12 v6 fun v13 =>
Br v13 (
∀ J14 : List Value → Hp → Prop, (∀ w17 : Value, ∀ H16 : Hp, (∀ gs15 : Fr,
Bin .num .add w12 (Value.int .i64 1) fun v18 =>
Back I7 m8 [w17, v18] H16 [w11, w12] H10) → J14 [w17] H16) →
IAddr 1 v5 w12 fun v19 =>
Ld H10 v19 fun v20 =>
Bin .num .gtr v20 (Value.int .i32 0) fun v21 =>
Br v21 (
ConvI .u32 w12 fun v22 =>
BuildSl Tryz.prog 48 1 [(0, v22)] H10 fun v23 H24 =>
App Tryz.prog 31 1 4 (Value.int .u32 0) H24 w11 v23 fun v27 H28 =>
JE J14 [v27] H28) (
JE J14 [w11] H10)) (
R (.returned w11) H10))
theorem L70_eq (g : Gh) (a0 : Value) (H : Hp) (R : Ending → Hp → Prop) : denF Tryz.prog g Tryz.f70 (.h 0 [] [] .e (.h 0 [] [] .e (.h 0 [] [] .e (.h 0 [] [] (.h 0 [] [] .e (.h 0 [] [] (.h 0 [3, 14] [12, 13] (.h 0 [] [] .e (.h 0 [] [] .e (.h 1 [3] [12, 13, 14] .e .e))) .e) .e)) .e)))) [a0] H R = L70 g a0 H R := by kernel_rfl
theorem L70_sound {g : Gh} {a0 : Value} {H : Hp} {R : Ending → Hp → Prop} (h : L70 g a0 H R) : SCalls Tryz.prog g 70 #[a0] H R :=
  denF_sound (fn := Tryz.f70) (hn := (.h 0 [] [] .e (.h 0 [] [] .e (.h 0 [] [] .e (.h 0 [] [] (.h 0 [] [] .e (.h 0 [] [] (.h 0 [3, 14] [12, 13] (.h 0 [] [] .e (.h 0 [] [] .e (.h 1 [3] [12, 13, 14] .e .e))) .e) .e)) .e))))) Tryz.func70 (by rw [L70_eq]; exact h)
def L71 (g : Gh) (a0 a1 a2 a3 : Value) (H : Hp) (R : Ending → Hp → Prop) : Prop :=
New H (.cells #[(Value.int .i64 0), (.slice none 0 0)] 55 (0, 0)) fun b1 H2 =>
Bin .num .eql a1 (Value.int .u32 0) fun v3 =>
Grp v3 false (fun t4 =>
Bin .num .eql a1 (Value.int .u32 1) fun v5 =>
(H2 = H2 ∧ v5 = Value.bool t4)) (fun t4 => (Value.bool true) = Value.bool t4) fun t4 => ∀ gs6 : Fr,
Br (Value.bool t4) (
Bin .num .eql a1 (Value.int .u32 1) fun v7 =>
CallF Tryz.prog g 120 #[a2, v7] H2 (fun v8 H9 =>
St 2 H9 (.pointer (some ⟨b1, 0, none⟩)) v8 fun H10 =>
LdA 2 H10 (.pointer (some ⟨b1, 0, none⟩)) fun v11 =>
R (.returned (.tuple #[v11, (Value.bool true)])) H10) (PanR R)) (
CallF Tryz.prog g 60 #[a0, a1] H2 (fun v12 H13 =>
Ext 0 v12 fun v14 =>
Ext 1 v12 fun v15 =>
New H13 (.cells #[(Value.int .i64 0), (Value.int .u32 0), (Value.int .u32 0)] 103 (0, 0)) fun b16 H17 =>
St 3 H17 (.pointer (some ⟨b16, 0, none⟩)) v14 fun H18 =>
Bin .num .neq v15 (Value.int .i64 0) fun v19 =>
Grp v19 false (fun t20 =>
Bin .num .gtr a3 a2 fun v21 =>
(H18 = H18 ∧ v21 = Value.bool t20)) (fun t20 => (Value.bool true) = Value.bool t20) fun t20 => ∀ gs22 : Fr,
Grp (Value.bool t20) false (fun t23 =>
FAddr 0 (.pointer (some ⟨b16, 0, none⟩)) fun v24 =>
Ld H18 v24 fun v25 =>
Bin .num .lss v25 (Value.int .i64 0) fun v26 =>
(H18 = H18 ∧ v26 = Value.bool t23)) (fun t23 => (Value.bool true) = Value.bool t23) fun t23 => ∀ gs27 : Fr,
Grp (Value.bool t23) false (fun t28 =>
FAddr 0 (.pointer (some ⟨b16, 0, none⟩)) fun v29 =>
Ld H18 v29 fun v30 =>
Bin .num .geq v30 a2 fun v31 =>
(H18 = H18 ∧ v31 = Value.bool t28)) (fun t28 => (Value.bool true) = Value.bool t28) fun t28 => ∀ gs32 : Fr,
Br (Value.bool t28) (
Build Tryz.prog 55 [] fun v33 =>
St 2 H18 (.pointer (some ⟨b1, 0, none⟩)) v33 fun H34 =>
LdA 2 H34 (.pointer (some ⟨b1, 0, none⟩)) fun v35 =>
R (.returned (.tuple #[v35, (Value.bool false)])) H34) (
FAddr 1 (.pointer (some ⟨b16, 0, none⟩)) fun v36 =>
Ld H18 v36 fun v37 =>
Bin .num .add a3 (Value.int .i64 1) fun v38 =>
CallF Tryz.prog g 71 #[a0, v37, a2, v38] H18 (fun v39 H40 =>
Ext 0 v39 fun v41 =>
Ext 1 v39 fun v42 =>
New H40 (.cells #[(Value.int .i64 0), (.slice none 0 0)] 55 (0, 0)) fun b43 H44 =>
St 2 H44 (.pointer (some ⟨b43, 0, none⟩)) v41 fun H45 =>
FAddr 2 (.pointer (some ⟨b16, 0, none⟩)) fun v46 =>
Ld H45 v46 fun v47 =>
Bin .num .add a3 (Value.int .i64 1) fun v48 =>
CallF Tryz.prog g 71 #[a0, v47, a2, v48] H45 (fun v49 H50 =>
Ext 0 v49 fun v51 =>
Ext 1 v49 fun v52 =>
New H50 (.cells #[(Value.int .i64 0), (.slice none 0 0)] 55 (0, 0)) fun b53 H54 =>
St 2 H54 (.pointer (some ⟨b53, 0, none⟩)) v51 fun H55 =>
Un .not v42 fun v56 =>
Grp v56 false (fun t57 =>
Un .not v52 fun v58 =>
(H55 = H55 ∧ v58 = Value.bool t57)) (fun t57 => (Value.bool true) = Value.bool t57) fun t57 => ∀ gs59 : Fr,
Br (Value.bool t57) (
Build Tryz.prog 55 [] fun v60 =>
St 2 H55 (.pointer (some ⟨b1, 0, none⟩)) v60 fun H61 =>
LdA 2 H61 (.pointer (some ⟨b1, 0, none⟩)) fun v62 =>
R (.returned (.tuple #[v62, (Value.bool false)])) H61) (
FAddr 0 (.pointer (some ⟨b16, 0, none⟩)) fun v63 =>
Ld H55 v63 fun v64 =>
LdA 2 H55 (.pointer (some ⟨b43, 0, none⟩)) fun v65 =>
LdA 2 H55 (.pointer (some ⟨b53, 0, none⟩)) fun v66 =>
CallF Tryz.prog g 121 #[v64, v65, v66] H55 (fun v67 H68 =>
St 2 H68 (.pointer (some ⟨b1, 0, none⟩)) v67 fun H69 =>
LdA 2 H69 (.pointer (some ⟨b1, 0, none⟩)) fun v70 =>
R (.returned (.tuple #[v70, (Value.bool true)])) H69) (PanR R))) (PanR R)) (PanR R))) (PanR R))
theorem L71_eq (g : Gh) (a0 a1 a2 a3 : Value) (H : Hp) (R : Ending → Hp → Prop) : denF Tryz.prog g Tryz.f71 (.h 0 [] [] .e (.h 0 [] [] (.h 0 [] [] (.h 0 [] [1] .e .e) .e) (.h 0 [] [] .e (.h 0 [] [] (.h 0 [] [] (.h 0 [] [1] .e .e) .e) (.h 0 [] [] .e (.h 0 [] [] .e (.h 0 [] [] (.h 0 [] [] (.h 0 [] [1] .e .e) .e) .e))))))) [a0, a1, a2, a3] H R = L71 g a0 a1 a2 a3 H R := by kernel_rfl
theorem L71_sound {g : Gh} {a0 a1 a2 a3 : Value} {H : Hp} {R : Ending → Hp → Prop} (h : L71 g a0 a1 a2 a3 H R) : SCalls Tryz.prog g 71 #[a0, a1, a2, a3] H R :=
  denF_sound (fn := Tryz.f71) (hn := (.h 0 [] [] .e (.h 0 [] [] (.h 0 [] [] (.h 0 [] [1] .e .e) .e) (.h 0 [] [] .e (.h 0 [] [] (.h 0 [] [] (.h 0 [] [1] .e .e) .e) (.h 0 [] [] .e (.h 0 [] [] .e (.h 0 [] [] (.h 0 [] [] (.h 0 [] [1] .e .e) .e) .e)))))))) Tryz.func71 (by rw [L71_eq]; exact h)
def L72 (g : Gh) (a0 a1 : Value) (H : Hp) (R : Ending → Hp → Prop) : Prop :=
New H (.cells (Value.cells a0) 55 (0, 0)) fun b1 H2 =>
New H2 (.cells (Value.cells a1) 55 (0, 0)) fun b3 H4 =>
FAddr 0 (.pointer (some ⟨b1, 0, none⟩)) fun v5 =>
Ld H4 v5 fun v6 =>
FAddr 0 (.pointer (some ⟨b3, 0, none⟩)) fun v7 =>
Ld H4 v7 fun v8 =>
Bin .num .neq v6 v8 fun v9 =>
Grp v9 false (fun t10 =>
FAddr 1 (.pointer (some ⟨b1, 0, none⟩)) fun v11 =>
Ld H4 v11 fun v12 =>
LenS v12 fun v13 =>
FAddr 1 (.pointer (some ⟨b3, 0, none⟩)) fun v14 =>
Ld H4 v14 fun v15 =>
LenS v15 fun v16 =>
Bin .num .neq v13 v16 fun v17 =>
(H4 = H4 ∧ v17 = Value.bool t10)) (fun t10 => (Value.bool true) = Value.bool t10) fun t10 => ∀ gs18 : Fr,
Br (Value.bool t10) (
R (.returned (Value.bool false)) H4) (
∃ (I19 : List Value → Hp → Prop) (m20 : List Value → Hp → Nat), JE I19 [(Value.int .i64 0)] H4 ∧ ∀ w23 : Value, ∀ H22 : Hp, I19 [w23] H22 → ∀ gs21 : Fr,
FAddr 1 (.pointer (some ⟨b1, 0, none⟩)) fun v24 =>
Ld H22 v24 fun v25 =>
LenS v25 fun v26 =>
Bin .num .lss w23 v26 fun v27 =>
Br v27 (
FAddr 1 (.pointer (some ⟨b1, 0, none⟩)) fun v28 =>
Ld H22 v28 fun v29 =>
IAddr 1 v29 w23 fun v30 =>
Ld H22 v30 fun v31 =>
FAddr 1 (.pointer (some ⟨b3, 0, none⟩)) fun v32 =>
Ld H22 v32 fun v33 =>
IAddr 1 v33 w23 fun v34 =>
Ld H22 v34 fun v35 =>
Bin .num .neq v31 v35 fun v36 =>
Br v36 (
R (.returned (Value.bool false)) H22) (
Bin .num .add w23 (Value.int .i64 1) fun v37 =>
Back I19 m20 [v37] H22 [w23] H22)) (
R (.returned (Value.bool true)) H22))
theorem L72_eq (g : Gh) (a0 a1 : Value) (H : Hp) (R : Ending → Hp → Prop) : denF Tryz.prog g Tryz.f72 (.h 0 [] [] .e (.h 0 [] [] (.h 0 [] [] (.h 0 [] [1] .e .e) .e) (.h 0 [] [] (.h 0 [] [] .e (.h 0 [] [] (.h 0 [5] [2, 3] .e .e) .e)) .e))) [a0, a1] H R = L72 g a0 a1 H R := by kernel_rfl
theorem L72_sound {g : Gh} {a0 a1 : Value} {H : Hp} {R : Ending → Hp → Prop} (h : L72 g a0 a1 H R) : SCalls Tryz.prog g 72 #[a0, a1] H R :=
  denF_sound (fn := Tryz.f72) (hn := (.h 0 [] [] .e (.h 0 [] [] (.h 0 [] [] (.h 0 [] [1] .e .e) .e) (.h 0 [] [] (.h 0 [] [] .e (.h 0 [] [] (.h 0 [5] [2, 3] .e .e) .e)) .e)))) Tryz.func72 (by rw [L72_eq]; exact h)
def L73 (g : Gh) (a0 a1 : Value) (H : Hp) (R : Ending → Hp → Prop) : Prop :=
New H (.cells (Value.cells a1) 55 (0, 0)) fun b1 H2 =>
Nil a0 fun v3 =>
FAddr 3 v3 fun v4 =>
Ld H2 v4 fun v5 =>
LenS v5 fun v6 =>
∃ (I7 : List Value → Hp → Prop) (m8 : List Value → Hp → Nat), JE I7 [(Value.int .i64 0)] H2 ∧ ∀ w11 : Value, ∀ H10 : Hp, I7 [w11] H10 → ∀ gs9 : Fr,
Bin .num .lss w11 v6 fun v12 =>
Br v12 (
IAddr 3 v5 w11 fun v13 =>
LdA 3 H10 v13 fun v14 =>
New H10 (.cells #[(Value.int .i64 0), (.slice none 0 0), (Value.int .i64 0)] 173 (0, 0)) fun b15 H16 =>
St 3 H16 (.pointer (some ⟨b15, 0, none⟩)) v14 fun H17 =>
FAddr 0 (.pointer (some ⟨b15, 0, none⟩)) fun v18 =>
LdA 2 H17 v18 fun v19 =>
LdA 2 H17 (.pointer (some ⟨b1, 0, none⟩)) fun v20 =>
CallF Tryz.prog g 72 #[v19, v20] H17 (fun v21 H22 =>
Br v21 (
FAddr 2 (.pointer (some ⟨b15, 0, none⟩)) fun v23 =>
Ld H22 v23 fun v24 =>
R (.returned v24) H22) (
Bin .num .add w11 (Value.int .i64 1) fun v25 =>
Back I7 m8 [v25] H22 [w11] H10)) (PanR R)) (
R (.returned (Value.int .i64 0)) H10)
theorem L73_eq (g : Gh) (a0 a1 : Value) (H : Hp) (R : Ending → Hp → Prop) : denF Tryz.prog g Tryz.f73 (.h 0 [] [] .e (.h 0 [] [] (.h 0 [] [] .e (.h 0 [] [] (.h 0 [12] [3, 10, 11] .e .e) .e)) .e)) [a0, a1] H R = L73 g a0 a1 H R := by kernel_rfl
theorem L73_sound {g : Gh} {a0 a1 : Value} {H : Hp} {R : Ending → Hp → Prop} (h : L73 g a0 a1 H R) : SCalls Tryz.prog g 73 #[a0, a1] H R :=
  denF_sound (fn := Tryz.f73) (hn := (.h 0 [] [] .e (.h 0 [] [] (.h 0 [] [] .e (.h 0 [] [] (.h 0 [12] [3, 10, 11] .e .e) .e)) .e))) Tryz.func73 (by rw [L73_eq]; exact h)
def L76 (g : Gh) (a0 a1 : Value) (H : Hp) (R : Ending → Hp → Prop) : Prop :=
Nil a0 fun v1 =>
FAddr 5 v1 fun v2 =>
Ld H v2 fun v3 =>
IAddr 1 v3 a1 fun v4 =>
Ld H v4 fun v5 =>
Nil a0 fun v6 =>
FAddr 5 v6 fun v7 =>
Ld H v7 fun v8 =>
Bin .num .add a1 (Value.int .i64 1) fun v9 =>
IAddr 1 v8 v9 fun v10 =>
Ld H v10 fun v11 =>
CallF Tryz.prog g 126 #[a0, v5, v11] H (fun v12 H13 =>
DR H13 fun R14 =>
Nil a0 fun v15 =>
FAddr 0 v15 fun v16 =>
CallF Tryz.prog g 127 #[a0, v5, v12] H13 (fun v17 H18 =>
CallF Tryz.prog g 49 #[v16, v17] H18 (fun v19 H20 =>
Un .not v19 fun v21 =>
Br v21 (
R (.returned (Value.bool false)) H20) (
LenS v12 fun v22 =>
∃ (I23 : List Value → Hp → Prop) (m24 : List Value → Hp → Nat), JE I23 [(Value.int .i64 0)] H20 ∧ ∀ w27 : Value, ∀ H26 : Hp, I23 [w27] H26 → ∀ gs25 : Fr,
Bin .num .lss w27 v22 fun v28 =>
Br v28 (
IAddr 8 v12 w27 fun v29 =>
LdA 8 H26 v29 fun v30 =>
New H26 (.cells #[(Value.int .u32 0), (Value.int .i64 0), (Value.int .u32 0), (Value.int .u32 0), (Value.int .u32 0), (Value.int .u32 0), (Value.int .u32 0), (Value.int .u32 0)] 186 (0, 0)) fun b31 H32 =>
St 8 H32 (.pointer (some ⟨b31, 0, none⟩)) v30 fun H33 =>
DR H33 fun R34 =>
Nil a0 fun v35 =>
FAddr 0 v35 fun v36 =>
FAddr 1 v36 fun v37 =>
Ld R34 v37 fun v38 =>
FAddr 1 (.pointer (some ⟨b31, 0, none⟩)) fun v39 =>
LdA 3 R34 v39 fun v40 =>
CallF Tryz.prog g 105 #[v38, v40] H33 (fun v41 H42 =>
Bin .num .add w27 (Value.int .i64 1) fun v43 =>
Back I23 m24 [v43] H42 [w27] H26) NoKP) (
LenS v12 fun v44 =>
∃ (I45 : List Value → Hp → Prop) (m46 : List Value → Hp → Nat), JE I45 [(Value.int .i64 0)] H26 ∧ ∀ w49 : Value, ∀ H48 : Hp, I45 [w49] H48 → ∀ gs47 : Fr,
Bin .num .lss w49 v44 fun v50 =>
Br v50 (
IAddr 8 v12 w49 fun v51 =>
LdA 8 H48 v51 fun v52 =>
New H48 (.cells #[(Value.int .u32 0), (Value.int .i64 0), (Value.int .u32 0), (Value.int .u32 0), (Value.int .u32 0), (Value.int .u32 0), (Value.int .u32 0), (Value.int .u32 0)] 186 (0, 0)) fun b53 H54 =>
St 8 H54 (.pointer (some ⟨b53, 0, none⟩)) v52 fun H55 =>
DR H55 fun R56 =>
Nil a0 fun v57 =>
FAddr 0 v57 fun v58 =>
FAddr 4 (.pointer (some ⟨b53, 0, none⟩)) fun v59 =>
Ld R56 v59 fun v60 =>
FAddr 6 (.pointer (some ⟨b53, 0, none⟩)) fun v61 =>
Ld R56 v61 fun v62 =>
CallF Tryz.prog g 128 #[v58, v5, v60, v62] H55 (fun v63 H64 =>
Nil a0 fun v65 =>
FAddr 0 v65 fun v66 =>
CallF Tryz.prog g 102 #[v66, v63] H64 (fun v67 H68 =>
DR H68 fun R69 =>
Nil a0 fun v70 =>
FAddr 0 v70 fun v71 =>
FAddr 5 (.pointer (some ⟨b53, 0, none⟩)) fun v72 =>
Ld R69 v72 fun v73 =>
FAddr 7 (.pointer (some ⟨b53, 0, none⟩)) fun v74 =>
Ld R69 v74 fun v75 =>
CallF Tryz.prog g 128 #[v71, v5, v73, v75] H68 (fun v76 H77 =>
Nil a0 fun v78 =>
FAddr 0 v78 fun v79 =>
CallF Tryz.prog g 102 #[v79, v76] H77 (fun v80 H81 =>
Build Tryz.prog 103 [(0, v11), (1, v63), (2, v76)] fun v82 =>
New H81 (.cells #[(Value.int .i64 0), (Value.int .u32 0), (Value.int .u32 0)] 103 (0, 0)) fun b83 H84 =>
St 3 H84 (.pointer (some ⟨b83, 0, none⟩)) v82 fun H85 =>
DR H85 fun R86 =>
Nil a0 fun v87 =>
FAddr 0 v87 fun v88 =>
FAddr 0 v88 fun v89 =>
Ld R86 v89 fun v90 =>
FAddr 0 (.pointer (some ⟨b53, 0, none⟩)) fun v91 =>
Ld R86 v91 fun v92 =>
LdA 3 R86 (.pointer (some ⟨b83, 0, none⟩)) fun v93 =>
CallF Tryz.prog g 129 #[v90, v92, v93] H85 (fun v94 H95 =>
DR H95 fun R96 =>
Nil a0 fun v97 =>
FAddr 0 v97 fun v98 =>
FAddr 1 v98 fun v99 =>
Ld R96 v99 fun v100 =>
LdA 3 R96 (.pointer (some ⟨b83, 0, none⟩)) fun v101 =>
FAddr 0 (.pointer (some ⟨b53, 0, none⟩)) fun v102 =>
Ld R96 v102 fun v103 =>
CallF Tryz.prog g 103 #[v100, v101, v103] H95 (fun v104 H105 =>
Bin .num .add w49 (Value.int .i64 1) fun v106 =>
Back I45 m46 [v106] H105 [w49] H48) NoKP) NoKP) (PanR R)) NoKP) (PanR R)) NoKP) (
LenS v12 fun v107 =>
∃ (I108 : List Value → Hp → Prop) (m109 : List Value → Hp → Nat), JE I108 [(Value.int .i64 0)] H48 ∧ ∀ w112 : Value, ∀ H111 : Hp, I108 [w112] H111 → ∀ gs110 : Fr,
Bin .num .lss w112 v107 fun v113 =>
Br v113 (
IAddr 8 v12 w112 fun v114 =>
LdA 8 H111 v114 fun v115 =>
New H111 (.cells #[(Value.int .u32 0), (Value.int .i64 0), (Value.int .u32 0), (Value.int .u32 0), (Value.int .u32 0), (Value.int .u32 0), (Value.int .u32 0), (Value.int .u32 0)] 186 (0, 0)) fun b116 H117 =>
St 8 H117 (.pointer (some ⟨b116, 0, none⟩)) v115 fun H118 =>
DR H118 fun R119 =>
Nil a0 fun v120 =>
FAddr 0 v120 fun v121 =>
FAddr 1 (.pointer (some ⟨b116, 0, none⟩)) fun v122 =>
FAddr 1 v122 fun v123 =>
Ld R119 v123 fun v124 =>
CallF Tryz.prog g 53 #[v121, v124] H118 (fun v125 H126 =>
DR H126 fun R127 =>
Nil a0 fun v128 =>
FAddr 0 v128 fun v129 =>
FAddr 1 (.pointer (some ⟨b116, 0, none⟩)) fun v130 =>
FAddr 2 v130 fun v131 =>
Ld R127 v131 fun v132 =>
CallF Tryz.prog g 53 #[v129, v132] H126 (fun v133 H134 =>
Bin .num .add w112 (Value.int .i64 1) fun v135 =>
Back I108 m109 [v135] H134 [w112] H111) NoKP) NoKP) (
DR H111 fun R136 =>
Nil a0 fun v137 =>
FAddr 5 v137 fun v138 =>
Ld R136 v138 fun v139 =>
Nil a0 fun v140 =>
FAddr 5 v140 fun v141 =>
Ld R136 v141 fun v142 =>
Bin .num .add a1 (Value.int .i64 1) fun v143 =>
IAddr 1 v139 a1 fun v144 =>
St 1 H111 v144 v11 fun H145 =>
IAddr 1 v142 v143 fun v146 =>
St 1 H145 v146 v5 fun H147 =>
DR H147 fun R148 =>
Nil a0 fun v149 =>
FAddr 6 v149 fun v150 =>
Ld R148 v150 fun v151 =>
Nil a0 fun v152 =>
FAddr 6 v152 fun v153 =>
Ld R148 v153 fun v154 =>
Bin .num .add a1 (Value.int .i64 1) fun v155 =>
IAddr 1 v151 v5 fun v156 =>
St 1 H147 v156 v155 fun H157 =>
IAddr 1 v154 v11 fun v158 =>
St 1 H157 v158 a1 fun H159 =>
R (.returned (Value.bool true)) H159))))) NoKP) NoKP) (PanR R)
theorem L76_eq (g : Gh) (a0 a1 : Value) (H : Hp) (R : Ending → Hp → Prop) : denF Tryz.prog g Tryz.f76 (.h 0 [] [] .e (.h 0 [] [] .e (.h 0 [] [] .e (.h 0 [] [] (.h 0 [] [] (.h 0 [0, 1, 2, 3, 4, 5, 6, 7, 8] [] .e .e) .e) (.h 0 [] [] (.h 0 [] [] .e (.h 0 [] [] (.h 0 [47] [0, 1, 5, 6, 7, 45, 46] (.h 0 [] [] .e (.h 0 [] [] .e (.h 0 [] [] (.h 0 [] [] (.h 0 [] [] .e (.h 0 [0, 1, 2, 3, 4, 5, 6, 7] [] .e .e)) .e) .e))) .e) .e)) (.h 0 [] [] (.h 0 [] [] .e (.h 0 [] [] (.h 0 [62] [0, 1, 5, 6, 7, 60, 61] (.h 0 [] [] .e (.h 0 [] [] .e (.h 0 [] [] (.h 0 [] [] (.h 0 [] [] .e (.h 0 [] [] (.h 0 [0, 1, 2, 3, 4, 5, 6, 7, 8, 9] [] .e .e) (.h 0 [] [] .e (.h 0 [] [] (.h 0 [0, 1, 2, 3, 4, 5, 6, 7, 8, 9] [] .e .e) (.h 0 [] [] .e (.h 0 [] [] .e (.h 0 [] [] (.h 0 [0, 1, 2, 3, 4, 5, 6, 7, 8] [] .e .e) (.h 0 [0, 1, 2, 3, 4, 5, 6, 7, 8] [] .e .e)))))))) .e) .e))) .e) .e)) (.h 0 [] [] (.h 0 [] [] .e (.h 0 [] [] (.h 0 [119] [0, 1, 5, 6, 117, 118] (.h 0 [] [] .e (.h 0 [] [] .e (.h 0 [] [] (.h 0 [] [] (.h 0 [] [] .e (.h 0 [] [] (.h 0 [0, 1, 2, 3, 4, 5, 6] [] .e .e) (.h 0 [0, 1, 2, 3, 4, 5, 6] [] .e .e))) .e) .e))) .e) .e)) (.h 0 [] [] (.h 0 [0, 1, 2, 3, 4, 5, 6, 7, 8, 9, 10, 11, 12, 13, 14, 15, 16] [] .e .e) (.h 0 [] [] (.h 0 [0, 1, 2, 3, 4, 5, 6, 7, 8, 9, 10, 11, 12, 13, 14, 15, 16] [] .e .e) .e))))))))) [a0, a1] H R = L76 g a0 a1 H R := by kernel_rfl
theorem L76_sound {g : Gh} {a0 a1 : Value} {H : Hp} {R : Ending → Hp → Prop} (h : L76 g a0 a1 H R) : SCalls Tryz.prog g 76 #[a0, a1] H R :=
  denF_sound (fn := Tryz.f76) (hn := (.h 0 [] [] .e (.h 0 [] [] .e (.h 0 [] [] .e (.h 0 [] [] (.h 0 [] [] (.h 0 [0, 1, 2, 3, 4, 5, 6, 7, 8] [] .e .e) .e) (.h 0 [] [] (.h 0 [] [] .e (.h 0 [] [] (.h 0 [47] [0, 1, 5, 6, 7, 45, 46] (.h 0 [] [] .e (.h 0 [] [] .e (.h 0 [] [] (.h 0 [] [] (.h 0 [] [] .e (.h 0 [0, 1, 2, 3, 4, 5, 6, 7] [] .e .e)) .e) .e))) .e) .e)) (.h 0 [] [] (.h 0 [] [] .e (.h 0 [] [] (.h 0 [62] [0, 1, 5, 6, 7, 60, 61] (.h 0 [] [] .e (.h 0 [] [] .e (.h 0 [] [] (.h 0 [] [] (.h 0 [] [] .e (.h 0 [] [] (.h 0 [0, 1, 2, 3, 4, 5, 6, 7, 8, 9] [] .e .e) (.h 0 [] [] .e (.h 0 [] [] (.h 0 [0, 1, 2, 3, 4, 5, 6, 7, 8, 9] [] .e .e) (.h 0 [] [] .e (.h 0 [] [] .e (.h 0 [] [] (.h 0 [0, 1, 2, 3, 4, 5, 6, 7, 8] [] .e .e) (.h 0 [0, 1, 2, 3, 4, 5, 6, 7, 8] [] .e .e)))))))) .e) .e))) .e) .e)) (.h 0 [] [] (.h 0 [] [] .e (.h 0 [] [] (.h 0 [119] [0, 1, 5, 6, 117, 118] (.h 0 [] [] .e (.h 0 [] [] .e (.h 0 [] [] (.h 0 [] [] (.h 0 [] [] .e (.h 0 [] [] (.h 0 [0, 1, 2, 3, 4, 5, 6] [] .e .e) (.h 0 [0, 1, 2, 3, 4, 5, 6] [] .e .e))) .e) .e))) .e) .e)) (.h 0 [] [] (.h 0 [0, 1, 2, 3, 4, 5, 6, 7, 8, 9, 10, 11, 12, 13, 14, 15, 16] [] .e .e) (.h 0 [] [] (.h 0 [0, 1, 2, 3, 4, 5, 6, 7, 8, 9, 10, 11, 12, 13, 14, 15, 16] [] .e .e) .e)))))))))) Tryz.func76 (by rw [L76_eq]; exact h)
def L86 (g : Gh) (a0 a1 : Value) (H : Hp) (R : Ending → Hp → Prop) : Prop :=
LenS a0 fun v1 =>
∃ (I2 : List Value → Hp → Prop) (m3 : List Value → Hp → Nat), JE I2 [(Value.int .i64 0)] H ∧ ∀ w6 : Value, ∀ H5 : Hp, I2 [w6] H5 → ∀ gs4 : Fr,
Bin .num .lss w6 v1 fun v7 =>
Br v7 (
IAddr 1 a0 w6 fun v8 =>
Ld H5 v8 fun v9 =>
Bin .num .eql v9 a1 fun v10 =>
Br v10 (
R (.returned w6) H5) (
Bin .num .add w6 (Value.int .i64 1) fun v11 =>
Back I2 m3 [v11] H5 [w6] H5)) (
R (.returned (Value.int .i64 (-1))) H5)
theorem L86_eq (g : Gh) (a0 a1 : Value) (H : Hp) (R : Ending → Hp → Prop) : denF Tryz.prog g Tryz.f86 (.h 0 [] [] .e (.h 0 [] [] (.h 0 [] [] .e (.h 0 [] [] (.h 0 [9] [1, 7, 8] .e .e) .e)) .e)) [a0, a1] H R = L86 g a0 a1 H R := by kernel_rfl
theorem L86_sound {g : Gh} {a0 a1 : Value} {H : Hp} {R : Ending → Hp → Prop} (h : L86 g a0 a1 H R) : SCalls Tryz.prog g 86 #[a0, a1] H R :=
  denF_sound (fn := Tryz.f86) (hn := (.h 0 [] [] .e (.h 0 [] [] (.h 0 [] [] .e (.h 0 [] [] (.h 0 [9] [1, 7, 8] .e .e) .e)) .e))) Tryz.func86 (by rw [L86_eq]; exact h)
def L87 (g : Gh) (a0 : Value) (H : Hp) (R : Ending → Hp → Prop) : Prop :=
Bin .num .leq a0 (Value.int .i64 6) fun v1 =>
Br v1 (
R (.returned (Value.int .i64 1)) H) (
Bin .num .sub a0 (Value.int .i64 6) fun v2 =>
Bin .num .shl (Value.int .i64 1) v2 fun v3 =>
R (.returned v3) H)
theorem L87_eq (g : Gh) (a0 : Value) (H : Hp) (R : Ending → Hp → Prop) : denF Tryz.prog g Tryz.f87 .e [a0] H R = L87 g a0 H R := by kernel_rfl
theorem L87_sound {g : Gh} {a0 : Value} {H : Hp} {R : Ending → Hp → Prop} (h : L87 g a0 H R) : SCalls Tryz.prog g 87 #[a0] H R :=
  denF_sound (fn := Tryz.f87) (hn := .e) Tryz.func87 (by rw [L87_eq]; exact h)
def L94 (g : Gh) (a0 a1 : Value) (H : Hp) (R : Ending → Hp → Prop) : Prop :=
Bin .num .geq a1 (Value.int .i64 0) fun v1 =>
Grp v1 true (fun t2 =>
Nil a0 fun v3 =>
FAddr 4 v3 fun v4 =>
Ld H v4 fun v5 =>
Bin .num .lss a1 v5 fun v6 =>
(H = H ∧ v6 = Value.bool t2)) (fun t2 => (Value.bool false) = Value.bool t2) fun t2 => ∀ gs7 : Fr,
R (.returned (Value.bool t2)) H
theorem L94_eq (g : Gh) (a0 a1 : Value) (H : Hp) (R : Ending → Hp → Prop) : denF Tryz.prog g Tryz.f94 (.h 0 [] [] .e (.h 0 [] [] (.h 0 [] [1] .e .e) .e)) [a0, a1] H R = L94 g a0 a1 H R := by kernel_rfl
theorem L94_sound {g : Gh} {a0 a1 : Value} {H : Hp} {R : Ending → Hp → Prop} (h : L94 g a0 a1 H R) : SCalls Tryz.prog g 94 #[a0, a1] H R :=
  denF_sound (fn := Tryz.f94) (hn := (.h 0 [] [] .e (.h 0 [] [] (.h 0 [] [1] .e .e) .e))) Tryz.func94 (by rw [L94_eq]; exact h)
def L95 (g : Gh) (a0 : Value) (H : Hp) (R : Ending → Hp → Prop) : Prop :=
MkSlice 3 1 8 (Value.int .i64 0) H a0 a0 fun v1 H2 =>
∃ (I3 : List Value → Hp → Prop) (m4 : List Value → Hp → Nat), JE I3 [(Value.int .i64 0)] H2 ∧ ∀ w7 : Value, ∀ H6 : Hp, I3 [w7] H6 → ∀ gs5 : Fr,
Bin .num .lss w7 a0 fun v8 =>
Br v8 (
IAddr 1 v1 w7 fun v9 =>
St 1 H6 v9 w7 fun H10 =>
Bin .num .add w7 (Value.int .i64 1) fun v11 =>
Back I3 m4 [v11] H10 [w7] H6) (
R (.returned v1) H6)
theorem L95_eq (g : Gh) (a0 : Value) (H : Hp) (R : Ending → Hp → Prop) : denF Tryz.prog g Tryz.f95 (.h 0 [] [] .e (.h 0 [] [] .e (.h 0 [] [] (.h 0 [] [] .e (.h 0 [] [] (.h 0 [8] [3, 7] .e .e) .e)) .e))) [a0] H R = L95 g a0 H R := by kernel_rfl
theorem L95_sound {g : Gh} {a0 : Value} {H : Hp} {R : Ending → Hp → Prop} (h : L95 g a0 H R) : SCalls Tryz.prog g 95 #[a0] H R :=
  denF_sound (fn := Tryz.f95) (hn := (.h 0 [] [] .e (.h 0 [] [] .e (.h 0 [] [] (.h 0 [] [] .e (.h 0 [] [] (.h 0 [8] [3, 7] .e .e) .e)) .e)))) Tryz.func95 (by rw [L95_eq]; exact h)
def L96 (g : Gh) (a0 : Value) (H : Hp) (R : Ending → Hp → Prop) : Prop :=
Bin .num .lss a0 (Value.int .i64 2) fun v1 =>
Grp v1 false (fun t2 =>
Bin .num .gtr a0 (Value.int .i64 1048576) fun v3 =>
(H = H ∧ v3 = Value.bool t2)) (fun t2 => (Value.bool true) = Value.bool t2) fun t2 => ∀ gs4 : Fr,
Br (Value.bool t2) (
R (.returned (.tuple #[(.pointer none), (Value.int .i64 1)])) H) (
Build Tryz.prog 159 [(0, a0), (3, (Value.int .i64 2))] fun v5 =>
New H (.cells (Value.cells v5) 159 (0, 0)) fun b6 H7 =>
∃ (I8 : List Value → Hp → Prop) (m9 : List Value → Hp → Nat), JE I8 [(Value.int .u32 0)] H7 ∧ ∀ w12 : Value, ∀ H11 : Hp, I8 [w12] H11 → ∀ gs10 : Fr,
Bin .num .lss w12 (Value.int .u32 2) fun v13 =>
Br v13 (
Nil (.pointer (some ⟨b6, 0, none⟩)) fun v14 =>
FAddr 1 v14 fun v15 =>
Ld H11 v15 fun v16 =>
Build Tryz.prog 103 [(0, (Value.int .i64 (-1))), (1, w12), (2, w12)] fun v17 =>
Build Tryz.prog 197 [(0, v17), (1, (Value.bool true)), (2, (Value.int .u8 255))] fun v18 =>
BuildSl Tryz.prog 157 1 [(0, v18)] H11 fun v19 H20 =>
App Tryz.prog 197 5 24 (.agg #[(Value.int .i64 0), (Value.int .u32 0), (Value.int .u32 0), (Value.bool false), (Value.int .u8 0)]) H20 v16 v19 fun v23 H24 =>
Nil (.pointer (some ⟨b6, 0, none⟩)) fun v25 =>
FAddr 1 v25 fun v26 =>
St 1 H24 v26 v23 fun H27 =>
Bin .num .add w12 (Value.int .u32 1) fun v28 =>
Back I8 m9 [v28] H27 [w12] H11) (
R (.returned (.tuple #[(.pointer (some ⟨b6, 0, none⟩)), (Value.int .i64 0)])) H11))
theorem L96_eq (g : Gh) (a0 : Value) (H : Hp) (R : Ending → Hp → Prop) : denF Tryz.prog g Tryz.f96 (.h 0 [] [] .e (.h 0 [] [] (.h 0 [] [] (.h 0 [] [1] .e .e) .e) (.h 0 [] [] .e (.h 0 [] [] (.h 0 [] [] .e (.h 0 [] [] (.h 0 [15] [4] .e .e) .e)) .e)))) [a0] H R = L96 g a0 H R := by kernel_rfl
theorem L96_sound {g : Gh} {a0 : Value} {H : Hp} {R : Ending → Hp → Prop} (h : L96 g a0 H R) : SCalls Tryz.prog g 96 #[a0] H R :=
  denF_sound (fn := Tryz.f96) (hn := (.h 0 [] [] .e (.h 0 [] [] (.h 0 [] [] (.h 0 [] [1] .e .e) .e) (.h 0 [] [] .e (.h 0 [] [] (.h 0 [] [] .e (.h 0 [] [] (.h 0 [15] [4] .e .e) .e)) .e))))) Tryz.func96 (by rw [L96_eq]; exact h)
def L97 (g : Gh) (a0 a1 : Value) (H : Hp) (R : Ending → Hp → Prop) : Prop :=
Nil a0 fun v1 =>
FAddr 0 v1 fun v2 =>
Ld H v2 fun v3 =>
CallF Tryz.prog g 137 #[v3, a1] H (fun v4 H5 =>
Ext 0 v4 fun v6 =>
Ext 1 v4 fun v7 =>
New H5 (.cells #[(Value.int .i64 0), (Value.int .u32 0), (Value.int .u32 0)] 103 (0, 0)) fun b8 H9 =>
St 3 H9 (.pointer (some ⟨b8, 0, none⟩)) v6 fun H10 =>
Bin .num .eql v7 (Value.int .i64 0) fun v11 =>
R (.returned v11) H10) (PanR R)
theorem L97_eq (g : Gh) (a0 a1 : Value) (H : Hp) (R : Ending → Hp → Prop) : denF Tryz.prog g Tryz.f97 .e [a0, a1] H R = L97 g a0 a1 H R := by kernel_rfl
theorem L97_sound {g : Gh} {a0 a1 : Value} {H : Hp} {R : Ending → Hp → Prop} (h : L97 g a0 a1 H R) : SCalls Tryz.prog g 97 #[a0, a1] H R :=
  denF_sound (fn := Tryz.f97) (hn := .e) Tryz.func97 (by rw [L97_eq]; exact h)
def L98 (g : Gh) (a0 a1 : Value) (H : Hp) (R : Ending → Hp → Prop) : Prop :=
Nil a0 fun v1 =>
FAddr 0 v1 fun v2 =>
CallF Tryz.prog g 104 #[v2, a1] H (fun v3 H4 =>
New H4 (.cells #[(Value.int .i64 0), (Value.int .u32 0), (Value.int .u32 0)] 103 (0, 0)) fun b5 H6 =>
St 3 H6 (.pointer (some ⟨b5, 0, none⟩)) v3 fun H7 =>
FAddr 0 (.pointer (some ⟨b5, 0, none⟩)) fun v8 =>
Ld H7 v8 fun v9 =>
Bin .num .geq v9 (Value.int .i64 0) fun v10 =>
Br v10 (
Nil a0 fun v11 =>
FAddr 6 v11 fun v12 =>
Ld H7 v12 fun v13 =>
FAddr 0 (.pointer (some ⟨b5, 0, none⟩)) fun v14 =>
Ld H7 v14 fun v15 =>
IAddr 1 v13 v15 fun v16 =>
Ld H7 v16 fun v17 =>
R (.returned v17) H7) (
Nil a0 fun v18 =>
FAddr 4 v18 fun v19 =>
Ld H7 v19 fun v20 =>
R (.returned v20) H7)) (PanR R)
theorem L98_eq (g : Gh) (a0 a1 : Value) (H : Hp) (R : Ending → Hp → Prop) : denF Tryz.prog g Tryz.f98 .e [a0, a1] H R = L98 g a0 a1 H R := by kernel_rfl
theorem L98_sound {g : Gh} {a0 a1 : Value} {H : Hp} {R : Ending → Hp → Prop} (h : L98 g a0 a1 H R) : SCalls Tryz.prog g 98 #[a0, a1] H R :=
  denF_sound (fn := Tryz.f98) (hn := .e) Tryz.func98 (by rw [L98_eq]; exact h)
def L99 (g : Gh) (a0 a1 : Value) (H : Hp) (R : Ending → Hp → Prop) : Prop :=
New H (.cells (Value.cells a1) 103 (0, 0)) fun b1 H2 =>
FAddr 0 (.pointer (some ⟨b1, 0, none⟩)) fun v3 =>
Ld H2 v3 fun v4 =>
CallF Tryz.prog g 138 #[a0, v4] H2 (fun v5 H6 =>
Bin .num .neq v5 (Value.int .i64 0) fun v7 =>
Br v7 (
R (.returned (.tuple #[(Value.int .u32 0), (Value.bool false)])) H6) (
Nil a0 fun v8 =>
FAddr 0 v8 fun v9 =>
Ld H6 v9 fun v10 =>
FAddr 0 (.pointer (some ⟨b1, 0, none⟩)) fun v11 =>
Ld H6 v11 fun v12 =>
IAddr 1 v10 v12 fun v13 =>
Ld H6 v13 fun v14 =>
LdA 3 H6 (.pointer (some ⟨b1, 0, none⟩)) fun v15 =>
LookS Tryz.prog 103 (Value.int .u32 0) true H6 v14 v15 fun v16 =>
Ext 0 v16 fun v17 =>
Ext 1 v16 fun v18 =>
R (.returned (.tuple #[v17, v18])) H6)) (PanR R)
theorem L99_eq (g : Gh) (a0 a1 : Value) (H : Hp) (R : Ending → Hp → Prop) : denF Tryz.prog g Tryz.f99 .e [a0, a1] H R = L99 g a0 a1 H R := by kernel_rfl
theorem L99_sound {g : Gh} {a0 a1 : Value} {H : Hp} {R : Ending → Hp → Prop} (h : L99 g a0 a1 H R) : SCalls Tryz.prog g 99 #[a0, a1] H R :=
  denF_sound (fn := Tryz.f99) (hn := .e) Tryz.func99 (by rw [L99_eq]; exact h)
def L100 (g : Gh) (a0 : Value) (H : Hp) (R : Ending → Hp → Prop) : Prop :=
Bin .ptr .eql a0 (.pointer none) fun v1 =>
Br v1 (
R (.returned (Value.int .i64 0)) H) (
Nil a0 fun v2 =>
FAddr 0 v2 fun v3 =>
Ld H v3 fun v4 =>
R (.returned v4) H)
theorem L100_eq (g : Gh) (a0 : Value) (H : Hp) (R : Ending → Hp → Prop) : denF Tryz.prog g Tryz.f100 .e [a0] H R = L100 g a0 H R := by kernel_rfl
theorem L100_sound {g : Gh} {a0 : Value} {H : Hp} {R : Ending → Hp → Prop} (h : L100 g a0 H R) : SCalls Tryz.prog g 100 #[a0] H R :=
  denF_sound (fn := Tryz.f100) (hn := .e) Tryz.func100 (by rw [L100_eq]; exact h)
def L101 (g : Gh) (a0 a1 : Value) (H : Hp) (R : Ending → Hp → Prop) : Prop :=
New H (.cells (Value.cells a1) 103 (0, 0)) fun b1 H2 =>
Bin .ptr .eql a0 (.pointer none) fun v3 =>
Br v3 (
R (.returned (.tuple #[(Value.int .u32 0), (Value.int .i64 10)])) H2) (
LdA 3 H2 (.pointer (some ⟨b1, 0, none⟩)) fun v4 =>
CallF Tryz.prog g 139 #[a0, v4] H2 (fun v5 H6 =>
Bin .num .neq v5 (Value.int .i64 0) fun v7 =>
Br v7 (
R (.returned (.tuple #[(Value.int .u32 0), v5])) H6) (
Nil a0 fun v8 =>
FAddr 2 v8 fun v9 =>
Ld H6 v9 fun v10 =>
LenS v10 fun v11 =>
Bin .num .gtr v11 (Value.int .i64 0) fun v12 =>
Br v12 (
Nil a0 fun v13 =>
FAddr 2 v13 fun v14 =>
Ld H6 v14 fun v15 =>
Bin .num .sub v11 (Value.int .i64 1) fun v16 =>
IAddr 1 v15 v16 fun v17 =>
Ld H6 v17 fun v18 =>
Nil a0 fun v19 =>
FAddr 2 v19 fun v20 =>
Ld H6 v20 fun v21 =>
Bin .num .sub v11 (Value.int .i64 1) fun v22 =>
SliceE 1 v21 none (some v22) fun v23 =>
Nil a0 fun v24 =>
FAddr 2 v24 fun v25 =>
St 1 H6 v25 v23 fun H26 =>
DR H26 fun R27 =>
Nil a0 fun v28 =>
FAddr 1 v28 fun v29 =>
Ld R27 v29 fun v30 =>
LdA 3 R27 (.pointer (some ⟨b1, 0, none⟩)) fun v31 =>
Build Tryz.prog 197 [(0, v31), (1, (Value.bool true))] fun v32 =>
IAddr 5 v30 v18 fun v33 =>
St 5 H26 v33 v32 fun H34 =>
Nil a0 fun v35 =>
FAddr 3 v35 fun v36 =>
Ld H34 v36 fun v37 =>
Bin .num .add v37 (Value.int .i64 1) fun v38 =>
Nil a0 fun v39 =>
FAddr 3 v39 fun v40 =>
St 1 H34 v40 v38 fun H41 =>
R (.returned (.tuple #[v18, (Value.int .i64 0)])) H41) (
Nil a0 fun v42 =>
FAddr 1 v42 fun v43 =>
Ld H6 v43 fun v44 =>
LenS v44 fun v45 =>
Nil a0 fun v46 =>
FAddr 0 v46 fun v47 =>
Ld H6 v47 fun v48 =>
Bin .num .geq v45 v48 fun v49 =>
Br v49 (
R (.returned (.tuple #[(Value.int .u32 0), (Value.int .i64 9)])) H6) (
DR H6 fun R50 =>
Nil a0 fun v51 =>
FAddr 1 v51 fun v52 =>
Ld R50 v52 fun v53 =>
LdA 3 R50 (.pointer (some ⟨b1, 0, none⟩)) fun v54 =>
Build Tryz.prog 197 [(0, v54), (1, (Value.bool true))] fun v55 =>
BuildSl Tryz.prog 157 1 [(0, v55)] H6 fun v56 H57 =>
Ent H57 R50 ∧
App Tryz.prog 197 5 24 (.agg #[(Value.int .i64 0), (Value.int .u32 0), (Value.int .u32 0), (Value.bool false), (Value.int .u8 0)]) H57 v53 v56 fun v60 H61 =>
Ent H61 R50 ∧
Nil a0 fun v62 =>
FAddr 1 v62 fun v63 =>
St 1 H61 v63 v60 fun H64 =>
Nil a0 fun v65 =>
FAddr 3 v65 fun v66 =>
Ld H64 v66 fun v67 =>
Bin .num .add v67 (Value.int .i64 1) fun v68 =>
Nil a0 fun v69 =>
FAddr 3 v69 fun v70 =>
St 1 H64 v70 v68 fun H71 =>
Nil a0 fun v72 =>
FAddr 1 v72 fun v73 =>
Ld H71 v73 fun v74 =>
LenS v74 fun v75 =>
Bin .num .sub v75 (Value.int .i64 1) fun v76 =>
ConvI .u32 v76 fun v77 =>
R (.returned (.tuple #[v77, (Value.int .i64 0)])) H71)))) (PanR R))
theorem L101_eq (g : Gh) (a0 a1 : Value) (H : Hp) (R : Ending → Hp → Prop) : denF Tryz.prog g Tryz.f101 (.h 0 [] [] .e (.h 0 [] [] .e (.h 0 [] [] .e (.h 0 [] [] (.h 0 [] [] .e (.h 0 [] [] .e (.h 0 [] [] (.h 0 [] [] .e (.h 0 [] [] .e (.h 0 [] [] (.h 0 [0, 1, 2, 3, 4, 5, 6, 7, 8] [] .e .e) .e))) .e))) (.h 0 [] [] .e (.h 0 [] [] (.h 0 [0, 1, 2, 3, 4, 5, 6, 7, 8, 9, 10, 11] [] .e .e) .e)))))) [a0, a1] H R = L101 g a0 a1 H R := by kernel_rfl
theorem L101_sound {g : Gh} {a0 a1 : Value} {H : Hp} {R : Ending → Hp → Prop} (h : L101 g a0 a1 H R) : SCalls Tryz.prog g 101 #[a0, a1] H R :=
  denF_sound (fn := Tryz.f101) (hn := (.h 0 [] [] .e (.h 0 [] [] .e (.h 0 [] [] .e (.h 0 [] [] (.h 0 [] [] .e (.h 0 [] [] .e (.h 0 [] [] (.h 0 [] [] .e (.h 0 [] [] .e (.h 0 [] [] (.h 0 [0, 1, 2, 3, 4, 5, 6, 7, 8] [] .e .e) .e))) .e))) (.h 0 [] [] .e (.h 0 [] [] (.h 0 [0, 1, 2, 3, 4, 5, 6, 7, 8, 9, 10, 11] [] .e .e) .e))))))) Tryz.func101 (by rw [L101_eq]; exact h)
def L102 (g : Gh) (a0 a1 : Value) (H : Hp) (R : Ending → Hp → Prop) : Prop :=
Bin .num .gtr a1 (Value.int .u32 1) fun v1 =>
Br v1 (
Nil a0 fun v2 =>
FAddr 2 v2 fun v3 =>
Ld H v3 fun v4 =>
IAddr 1 v4 a1 fun v5 =>
Ld H v5 fun v6 =>
Bin .num .add v6 (Value.int .i32 1) fun v7 =>
IAddr 1 v4 a1 fun v8 =>
St 1 H v8 v7 fun H9 =>
R (.returned (.tuple #[])) H9) (
R (.returned (.tuple #[])) H)
theorem L102_eq (g : Gh) (a0 a1 : Value) (H : Hp) (R : Ending → Hp → Prop) : denF Tryz.prog g Tryz.f102 .e [a0, a1] H R = L102 g a0 a1 H R := by kernel_rfl
theorem L102_sound {g : Gh} {a0 a1 : Value} {H : Hp} {R : Ending → Hp → Prop} (h : L102 g a0 a1 H R) : SCalls Tryz.prog g 102 #[a0, a1] H R :=
  denF_sound (fn := Tryz.f102) (hn := .e) Tryz.func102 (by rw [L102_eq]; exact h)
def L103 (g : Gh) (a0 a1 a2 : Value) (H : Hp) (R : Ending → Hp → Prop) : Prop :=
New H (.cells (Value.cells a1) 103 (0, 0)) fun b1 H2 =>
FAddr 0 (.pointer (some ⟨b1, 0, none⟩)) fun v3 =>
Ld H2 v3 fun v4 =>
CallF Tryz.prog g 138 #[a0, v4] H2 (fun v5 H6 =>
Bin .num .neq v5 (Value.int .i64 0) fun v7 =>
Br v7 (
R (.returned v5) H6) (
Nil a0 fun v8 =>
FAddr 0 v8 fun v9 =>
Ld H6 v9 fun v10 =>
FAddr 0 (.pointer (some ⟨b1, 0, none⟩)) fun v11 =>
Ld H6 v11 fun v12 =>
IAddr 1 v10 v12 fun v13 =>
Ld H6 v13 fun v14 =>
LdA 3 H6 (.pointer (some ⟨b1, 0, none⟩)) fun v15 =>
LookS Tryz.prog 103 (Value.int .u32 0) true H6 v14 v15 fun v16 =>
Ext 0 v16 fun v17 =>
Ext 1 v16 fun v18 =>
Br v18 (
R (.returned (Value.int .i64 11)) H6) (
DR H6 fun R19 =>
Nil a0 fun v20 =>
FAddr 0 v20 fun v21 =>
Ld R19 v21 fun v22 =>
FAddr 0 (.pointer (some ⟨b1, 0, none⟩)) fun v23 =>
Ld R19 v23 fun v24 =>
IAddr 1 v22 v24 fun v25 =>
Ld R19 v25 fun v26 =>
LdA 3 R19 (.pointer (some ⟨b1, 0, none⟩)) fun v27 =>
MapUpdS Tryz.prog 103 H6 v26 v27 a2 fun H28 =>
R (.returned (Value.int .i64 0)) H28))) (PanR R)
theorem L103_eq (g : Gh) (a0 a1 a2 : Value) (H : Hp) (R : Ending → Hp → Prop) : denF Tryz.prog g Tryz.f103 (.h 0 [] [] .e (.h 0 [] [] .e (.h 0 [] [] .e (.h 0 [] [] (.h 0 [0, 1, 2, 3, 4, 5, 6, 7, 8, 9, 10] [] .e .e) .e)))) [a0, a1, a2] H R = L103 g a0 a1 a2 H R := by kernel_rfl
theorem L103_sound {g : Gh} {a0 a1 a2 : Value} {H : Hp} {R : Ending → Hp → Prop} (h : L103 g a0 a1 a2 H R) : SCalls Tryz.prog g 103 #[a0, a1, a2] H R :=
  denF_sound (fn := Tryz.f103) (hn := (.h 0 [] [] .e (.h 0 [] [] .e (.h 0 [] [] .e (.h 0 [] [] (.h 0 [0, 1, 2, 3, 4, 5, 6, 7, 8, 9, 10] [] .e .e) .e))))) Tryz.func103 (by rw [L103_eq]; exact h)
def L104 (g : Gh) (a0 a1 : Value) (H : Hp) (R : Ending → Hp → Prop) : Prop :=
New H (.cells #[(Value.int .i64 0), (Value.int .u32 0), (Value.int .u32 0)] 103 (0, 0)) fun b1 H2 =>
Nil a0 fun v3 =>
FAddr 0 v3 fun v4 =>
Ld H2 v4 fun v5 =>
CallF Tryz.prog g 137 #[v5, a1] H2 (fun v6 H7 =>
Ext 0 v6 fun v8 =>
Ext 1 v6 fun v9 =>
New H7 (.cells #[(Value.int .i64 0), (Value.int .u32 0), (Value.int .u32 0)] 103 (0, 0)) fun b10 H11 =>
St 3 H11 (.pointer (some ⟨b10, 0, none⟩)) v8 fun H12 =>
LdA 3 H12 (.pointer (some ⟨b10, 0, none⟩)) fun v13 =>
St 3 H12 (.pointer (some ⟨b1, 0, none⟩)) v13 fun H14 =>
LdA 3 H14 (.pointer (some ⟨b1, 0, none⟩)) fun v15 =>
R (.returned v15) H14) (PanR R)
theorem L104_eq (g : Gh) (a0 a1 : Value) (H : Hp) (R : Ending → Hp → Prop) : denF Tryz.prog g Tryz.f104 .e [a0, a1] H R = L104 g a0 a1 H R := by kernel_rfl
theorem L104_sound {g : Gh} {a0 a1 : Value} {H : Hp} {R : Ending → Hp → Prop} (h : L104 g a0 a1 H R) : SCalls Tryz.prog g 104 #[a0, a1] H R :=
  denF_sound (fn := Tryz.f104) (hn := .e) Tryz.func104 (by rw [L104_eq]; exact h)
def L105 (g : Gh) (a0 a1 : Value) (H : Hp) (R : Ending → Hp → Prop) : Prop :=
New H (.cells (Value.cells a1) 103 (0, 0)) fun b1 H2 =>
FAddr 0 (.pointer (some ⟨b1, 0, none⟩)) fun v3 =>
Ld H2 v3 fun v4 =>
CallF Tryz.prog g 138 #[a0, v4] H2 (fun v5 H6 =>
Bin .num .neq v5 (Value.int .i64 0) fun v7 =>
Br v7 (
R (.returned v5) H6) (
Nil a0 fun v8 =>
FAddr 0 v8 fun v9 =>
Ld H6 v9 fun v10 =>
FAddr 0 (.pointer (some ⟨b1, 0, none⟩)) fun v11 =>
Ld H6 v11 fun v12 =>
IAddr 1 v10 v12 fun v13 =>
Ld H6 v13 fun v14 =>
LdA 3 H6 (.pointer (some ⟨b1, 0, none⟩)) fun v15 =>
LookS Tryz.prog 103 (Value.int .u32 0) true H6 v14 v15 fun v16 =>
Ext 0 v16 fun v17 =>
Ext 1 v16 fun v18 =>
Un .not v18 fun v19 =>
Br v19 (
R (.returned (Value.int .i64 10)) H6) (
DR H6 fun R20 =>
Nil a0 fun v21 =>
FAddr 0 v21 fun v22 =>
Ld R20 v22 fun v23 =>
FAddr 0 (.pointer (some ⟨b1, 0, none⟩)) fun v24 =>
Ld R20 v24 fun v25 =>
IAddr 1 v23 v25 fun v26 =>
Ld R20 v26 fun v27 =>
LdA 3 R20 (.pointer (some ⟨b1, 0, none⟩)) fun v28 =>
MapDelS Tryz.prog 103 H6 v27 v28 fun H31 =>
Ent H31 R20 ∧
R (.returned (Value.int .i64 0)) H31))) (PanR R)
theorem L105_eq (g : Gh) (a0 a1 : Value) (H : Hp) (R : Ending → Hp → Prop) : denF Tryz.prog g Tryz.f105 (.h 0 [] [] .e (.h 0 [] [] .e (.h 0 [] [] .e (.h 0 [] [] (.h 0 [0, 1, 2, 3, 4, 5, 6, 7, 8, 9] [] .e .e) .e)))) [a0, a1] H R = L105 g a0 a1 H R := by kernel_rfl
theorem L105_sound {g : Gh} {a0 a1 : Value} {H : Hp} {R : Ending → Hp → Prop} (h : L105 g a0 a1 H R) : SCalls Tryz.prog g 105 #[a0, a1] H R :=
  denF_sound (fn := Tryz.f105) (hn := (.h 0 [] [] .e (.h 0 [] [] .e (.h 0 [] [] .e (.h 0 [] [] (.h 0 [0, 1, 2, 3, 4, 5, 6, 7, 8, 9] [] .e .e) .e))))) Tryz.func105 (by rw [L105_eq]; exact h)
def L106 (g : Gh) (a0 a1 : Value) (H : Hp) (R : Ending → Hp → Prop) : Prop :=
Bin .ptr .eql a0 (.pointer none) fun v1 =>
Br v1 (
R (.returned (Value.int .i64 10)) H) (
CallF Tryz.prog g 140 #[a0, a1] H (fun v2 H3 =>
Bin .num .neq v2 (Value.int .i64 0) fun v4 =>
Br v4 (
R (.returned v2) H3) (
Nil a0 fun v5 =>
FAddr 1 v5 fun v6 =>
Ld H3 v6 fun v7 =>
Build Tryz.prog 197 [] fun v8 =>
IAddr 5 v7 a1 fun v9 =>
St 5 H3 v9 v8 fun H10 =>
Nil a0 fun v11 =>
FAddr 2 v11 fun v12 =>
Ld H10 v12 fun v13 =>
BuildSl Tryz.prog 48 1 [(0, a1)] H10 fun v14 H15 =>
App Tryz.prog 31 1 4 (Value.int .u32 0) H15 v13 v14 fun v18 H19 =>
Nil a0 fun v20 =>
FAddr 2 v20 fun v21 =>
St 1 H19 v21 v18 fun H22 =>
Nil a0 fun v23 =>
FAddr 3 v23 fun v24 =>
Ld H22 v24 fun v25 =>
Bin .num .sub v25 (Value.int .i64 1) fun v26 =>
Nil a0 fun v27 =>
FAddr 3 v27 fun v28 =>
St 1 H22 v28 v26 fun H29 =>
R (.returned (Value.int .i64 0)) H29)) (PanR R))
theorem L106_eq (g : Gh) (a0 a1 : Value) (H : Hp) (R : Ending → Hp → Prop) : denF Tryz.prog g Tryz.f106 .e [a0, a1] H R = L106 g a0 a1 H R := by kernel_rfl
theorem L106_sound {g : Gh} {a0 a1 : Value} {H : Hp} {R : Ending → Hp → Prop} (h : L106 g a0 a1 H R) : SCalls Tryz.prog g 106 #[a0, a1] H R :=
  denF_sound (fn := Tryz.f106) (hn := .e) Tryz.func106 (by rw [L106_eq]; exact h)
def L107 (g : Gh) (a0 a1 a2 : Value) (H : Hp) (R : Ending → Hp → Prop) : Prop :=
DR H fun R1 =>
Ld R1 a1 fun v2 =>
Ld R1 a1 fun v3 =>
CallF Tryz.prog g 15 #[v2] H (fun v4 H5 =>
Ent H5 R1 ∧
CallF Tryz.prog g 14 #[v3] H5 (fun v6 H7 =>
Ent H7 R1 ∧
∀ J8 : List Value → Hp → Prop, (∀ w11 w12 : Value, ∀ H10 : Hp, (∀ gs9 : Fr,
Ld H10 a1 fun v13 =>
Bin .num .add v4 w11 fun v14 =>
CallF Tryz.prog g 109 #[v13, v14] H10 (fun v15 H16 =>
Ext 0 v15 fun v17 =>
Ext 1 v15 fun v18 =>
Bin .num .add w12 v17 fun v19 =>
R (.returned v19) H16) (PanR R)) → J8 [w11, w12] H10) →
Ld H7 a2 fun v20 =>
LenS v20 fun v21 =>
∃ (I22 : List Value → Hp → Prop) (m23 : List Value → Hp → Nat), JE I22 [v6, (Value.int .i64 0), (Value.int .i64 0), (Value.int .i64 0)] H7 ∧ ∀ w26 w27 w28 w29 : Value, ∀ H25 : Hp, I22 [w26, w27, w28, w29] H25 → ∀ gs24 : Fr,
Bin .num .lss w29 v21 fun v30 =>
Br v30 (
∀ J31 : List Value → Hp → Prop, (∀ w34 w35 w36 : Value, ∀ H33 : Hp, (∀ gs32 : Fr,
Bin .num .add w29 (Value.int .i64 1) fun v37 =>
Back I22 m23 [w34, w35, w36, v37] H33 [w26, w27, w28, w29] H25) → J31 [w34, w35, w36] H33) →
IAddr 1 v20 w29 fun v38 =>
Ld H25 v38 fun v39 =>
Ld H25 a1 fun v40 =>
Bin .num .add a0 v39 fun v41 =>
CallF Tryz.prog g 108 #[v40, v41] H25 (fun v42 H43 =>
Ext 0 v42 fun v44 =>
Ext 1 v42 fun v45 =>
New H43 (.cells #[(Value.int .i64 0), (Value.int .i64 0), (Value.int .i64 0)] 161 (0, 0)) fun b46 H47 =>
St 3 H47 (.pointer (some ⟨b46, 0, none⟩)) v44 fun H48 =>
Bin .num .neq v45 (Value.int .i64 0) fun v49 =>
Br v49 (
JE J8 [w27, w28] H48) (
Bin .num .add w28 (Value.int .i64 1) fun v50 =>
FAddr 2 (.pointer (some ⟨b46, 0, none⟩)) fun v51 =>
Ld H48 v51 fun v52 =>
Bin .num .lss v52 w26 fun v53 =>
Br v53 (
FAddr 2 (.pointer (some ⟨b46, 0, none⟩)) fun v54 =>
Ld H48 v54 fun v55 =>
JE J31 [v55, v50, v50] H48) (
JE J31 [w26, w27, v50] H48))) (PanR R)) (
JE J8 [w27, w28] H25)) NoKP) NoKP
theorem L107_eq (g : Gh) (a0 a1 a2 : Value) (H : Hp) (R : Ending → Hp → Prop) : denF Tryz.prog g Tryz.f107 (.h 0 [] [] .e (.h 0 [] [] (.h 0 [0, 2, 1, 3, 4, 5, 6, 7] [] .e .e) (.h 1 [7, 8] [1, 5] (.h 0 [] [] .e (.h 0 [] [] (.h 0 [6, 7, 8, 21] [0, 1, 5, 19, 20] (.h 0 [] [] .e (.h 0 [] [] .e (.h 1 [6, 7, 8] [0, 1, 5, 19, 20, 21] .e .e))) .e) .e)) .e))) [a0, a1, a2] H R = L107 g a0 a1 a2 H R := by kernel_rfl
theorem L107_sound {g : Gh} {a0 a1 a2 : Value} {H : Hp} {R : Ending → Hp → Prop} (h : L107 g a0 a1 a2 H R) : SCalls Tryz.prog g 107 #[a0, a1, a2] H R :=
  denF_sound (fn := Tryz.f107) (hn := (.h 0 [] [] .e (.h 0 [] [] (.h 0 [0, 2, 1, 3, 4, 5, 6, 7] [] .e .e) (.h 1 [7, 8] [1, 5] (.h 0 [] [] .e (.h 0 [] [] (.h 0 [6, 7, 8, 21] [0, 1, 5, 19, 20] (.h 0 [] [] .e (.h 0 [] [] .e (.h 1 [6, 7, 8] [0, 1, 5, 19, 20, 21] .e .e))) .e) .e)) .e)))) Tryz.func107 (by rw [L107_eq]; exact h)
def L108 (g : Gh) (a0 a1 : Value) (H : Hp) (R : Ending → Hp → Prop) : Prop :=
New H (.cells #[(Value.int .i64 0), (Value.int .i64 0), (Value.int .i64 0)] 161 (0, 0)) fun b1 H2 =>
CallF Tryz.prog g 14 #[a0] H2 (fun v3 H4 =>
Build Tryz.prog 161 [(0, a1), (1, v3)] fun v5 =>
New H4 (.cells #[(Value.int .i64 0), (Value.int .i64 0), (Value.int .i64 0)] 161 (0, 0)) fun b6 H7 =>
St 3 H7 (.pointer (some ⟨b6, 0, none⟩)) v5 fun H8 =>
CallF Tryz.prog g 28 #[a0, a1] H8 (fun v9 H10 =>
Bin .num .neq v9 (Value.int .i64 0) fun v11 =>
Br v11 (
Build Tryz.prog 161 [] fun v12 =>
St 3 H10 (.pointer (some ⟨b1, 0, none⟩)) v12 fun H13 =>
LdA 3 H13 (.pointer (some ⟨b1, 0, none⟩)) fun v14 =>
R (.returned (.tuple #[v14, v9])) H13) (
CallF Tryz.prog g 14 #[a0] H10 (fun v15 H16 =>
FAddr 2 (.pointer (some ⟨b6, 0, none⟩)) fun v17 =>
St 1 H16 v17 v15 fun H18 =>
LdA 3 H18 (.pointer (some ⟨b6, 0, none⟩)) fun v19 =>
St 3 H18 (.pointer (some ⟨b1, 0, none⟩)) v19 fun H20 =>
LdA 3 H20 (.pointer (some ⟨b1, 0, none⟩)) fun v21 =>
R (.returned (.tuple #[v21, (Value.int .i64 0)])) H20) (PanR R))) (PanR R)) (PanR R)
theorem L108_eq (g : Gh) (a0 a1 : Value) (H : Hp) (R : Ending → Hp → Prop) : denF Tryz.prog g Tryz.f108 .e [a0, a1] H R = L108 g a0 a1 H R := by kernel_rfl
theorem L108_sound {g : Gh} {a0 a1 : Value} {H : Hp} {R : Ending → Hp → Prop} (h : L108 g a0 a1 H R) : SCalls Tryz.prog g 108 #[a0, a1] H R :=
  denF_sound (fn := Tryz.f108) (hn := .e) Tryz.func108 (by rw [L108_eq]; exact h)
def L109 (g : Gh) (a0 a1 : Value) (H : Hp) (R : Ending → Hp → Prop) : Prop :=
Bin .ptr .eql a0 (.pointer none) fun v1 =>
Br v1 (
R (.returned (.tuple #[(Value.int .i64 0), (Value.int .i64 10)])) H) (
∀ J2 : List Value → Hp → Prop, (∀ w5 : Value, ∀ H4 : Hp, (∀ gs3 : Fr,
Br w5 (
R (.returned (.tuple #[(Value.int .i64 0), (Value.int .i64 1)])) H4) (
∃ (I6 : List Value → Hp → Prop) (m7 : List Value → Hp → Nat), JE I6 [(Value.int .i64 0)] H4 ∧ ∀ w10 : Value, ∀ H9 : Hp, I6 [w10] H9 → ∀ gs8 : Fr,
CallF Tryz.prog g 15 #[a0] H9 (fun v11 H12 =>
Bin .num .gtr v11 a1 fun v13 =>
Br v13 (
CallF Tryz.prog g 29 #[a0] H12 (fun v14 H15 =>
Bin .num .add w10 (Value.int .i64 1) fun v16 =>
Back I6 m7 [v16] H15 [w10] H9) (PanR R)) (
R (.returned (.tuple #[w10, (Value.int .i64 0)])) H12)) (PanR R))) → J2 [w5] H4) →
Bin .num .lss a1 (Value.int .i64 0) fun v17 =>
Split v17 false (
CallF Tryz.prog g 15 #[a0] H (fun v18 H19 =>
Bin .num .gtr a1 v18 fun v20 =>
Pick (Value.bool false) (Value.bool true) v20 fun v21 =>
JE J2 [v21] H19) (PanR R)) (
Pick (Value.bool true) (Value.bool true) undef fun v22 =>
JE J2 [v22] H))
theorem L109_eq (g : Gh) (a0 a1 : Value) (H : Hp) (R : Ending → Hp → Prop) : denF Tryz.prog g Tryz.f109 (.h 0 [] [] .e (.h 0 [] [] .e (.h 0 [] [] (.h 1 [16] [0, 1] .e .e) (.h 0 [] [] .e (.h 0 [] [] (.h 0 [] [] (.h 0 [6] [0, 1] .e .e) .e) .e))))) [a0, a1] H R = L109 g a0 a1 H R := by kernel_rfl
theorem L109_sound {g : Gh} {a0 a1 : Value} {H : Hp} {R : Ending → Hp → Prop} (h : L109 g a0 a1 H R) : SCalls Tryz.prog g 109 #[a0, a1] H R :=
  denF_sound (fn := Tryz.f109) (hn := (.h 0 [] [] .e (.h 0 [] [] .e (.h 0 [] [] (.h 1 [16] [0, 1] .e .e) (.h 0 [] [] .e (.h 0 [] [] (.h 0 [] [] (.h 0 [6] [0, 1] .e .e) .e) .e)))))) Tryz.func109 (by rw [L109_eq]; exact h)
def L110 (g : Gh) (a0 a1 : Value) (H : Hp) (R : Ending → Hp → Prop) : Prop :=
CallF Tryz.prog g 35 #[a0] H (fun v1 H2 =>
CallF Tryz.prog g 35 #[a1] H2 (fun v3 H4 =>
Bin .num .eql v1 (Value.int .i64 4) fun v5 =>
Grp v5 false (fun t6 =>
Bin .num .eql v3 (Value.int .i64 4) fun v7 =>
(H4 = H4 ∧ v7 = Value.bool t6)) (fun t6 => (Value.bool true) = Value.bool t6) fun t6 => ∀ gs8 : Fr,
Grp (Value.bool t6) false (fun t9 =>
LenS a0 fun v10 =>
LenS a1 fun v11 =>
Bin .num .neq v10 v11 fun v12 =>
(H4 = H4 ∧ v12 = Value.bool t9)) (fun t9 => (Value.bool true) = Value.bool t9) fun t9 => ∀ gs13 : Fr,
Br (Value.bool t9) (
R (.returned (Value.int .i64 4)) H4) (
Bin .num .neq v1 (Value.int .i64 0) fun v14 =>
Br v14 (
R (.returned v1) H4) (
R (.returned v3) H4))) (PanR R)) (PanR R)
theorem L110_eq (g : Gh) (a0 a1 : Value) (H : Hp) (R : Ending → Hp → Prop) : denF Tryz.prog g Tryz.f110 (.h 0 [] [] .e (.h 0 [] [] .e (.h 0 [] [] (.h 0 [] [] (.h 0 [] [] (.h 0 [] [1] .e .e) .e) .e) .e))) [a0, a1] H R = L110 g a0 a1 H R := by kernel_rfl
theorem L110_sound {g : Gh} {a0 a1 : Value} {H : Hp} {R : Ending → Hp → Prop} (h : L110 g a0 a1 H R) : SCalls Tryz.prog g 110 #[a0, a1] H R :=
  denF_sound (fn := Tryz.f110) (hn := (.h 0 [] [] .e (.h 0 [] [] .e (.h 0 [] [] (.h 0 [] [] (.h 0 [] [] (.h 0 [] [1] .e .e) .e) .e) .e)))) Tryz.func110 (by rw [L110_eq]; exact h)
def L111 (g : Gh) (a0 a1 : Value) (H : Hp) (R : Ending → Hp → Prop) : Prop :=
App Tryz.prog 3 1 8 (Value.int .i64 0) H (.slice none 0 0) a0 fun v3 H4 =>
DR H4 fun R5 =>
Bin .num .add a1 (Value.int .i64 1) fun v6 =>
Bin .num .add a1 (Value.int .i64 1) fun v7 =>
IAddr 1 v3 v7 fun v8 =>
Ld R5 v8 fun v9 =>
IAddr 1 v3 a1 fun v10 =>
Ld R5 v10 fun v11 =>
IAddr 1 v3 a1 fun v12 =>
St 1 H4 v12 v9 fun H13 =>
IAddr 1 v3 v6 fun v14 =>
St 1 H13 v14 v11 fun H15 =>
R (.returned v3) H15
theorem L111_eq (g : Gh) (a0 a1 : Value) (H : Hp) (R : Ending → Hp → Prop) : denF Tryz.prog g Tryz.f111 (.h 0 [] [] .e (.h 0 [] [] .e (.h 0 [] [] .e (.h 0 [] [] (.h 0 [0, 1, 2, 3, 4, 5, 6, 7, 8, 9, 10, 11, 12, 13, 14, 15, 16, 17] [] .e .e) .e)))) [a0, a1] H R = L111 g a0 a1 H R := by kernel_rfl
theorem L111_sound {g : Gh} {a0 a1 : Value} {H : Hp} {R : Ending → Hp → Prop} (h : L111 g a0 a1 H R) : SCalls Tryz.prog g 111 #[a0, a1] H R :=
  denF_sound (fn := Tryz.f111) (hn := (.h 0 [] [] .e (.h 0 [] [] .e (.h 0 [] [] .e (.h 0 [] [] (.h 0 [0, 1, 2, 3, 4, 5, 6, 7, 8, 9, 10, 11, 12, 13, 14, 15, 16, 17] [] .e .e) .e))))) Tryz.func111 (by rw [L111_eq]; exact h)
def L112 (g : Gh) (a0 a1 : Value) (H : Hp) (R : Ending → Hp → Prop) : Prop :=
CallF Tryz.prog g 141 #[a0] H (fun v1 H2 =>
LenS v1 fun v3 =>
∃ (I4 : List Value → Hp → Prop) (m5 : List Value → Hp → Nat), JE I4 [(.slice none 0 0), (Value.int .i64 0)] H2 ∧ ∀ w8 w9 : Value, ∀ H7 : Hp, I4 [w8, w9] H7 → ∀ gs6 : Fr,
Bin .num .lss w9 v3 fun v10 =>
Br v10 (
IAddr 1 v1 w9 fun v11 =>
Ld H7 v11 fun v12 =>
App Tryz.prog 55 2 32 (.agg #[(Value.int .i64 0), (.slice none 0 0)]) H7 w8 v12 fun v15 H16 =>
Bin .num .add w9 (Value.int .i64 1) fun v17 =>
Back I4 m5 [v15, v17] H16 [w8, w9] H7) (
DR H7 fun R18 =>
Nil a0 fun v19 =>
FAddr 2 v19 fun v20 =>
Ld R18 v20 fun v21 =>
CallF Tryz.prog g 114 #[a0] H7 (fun v22 H23 =>
Ent H23 R18 ∧
CallF Tryz.prog g 113 #[v21, a1] H23 (fun v24 H25 =>
Ent H25 R18 ∧
CallF Tryz.prog g 142 #[v22, v24] H25 (fun v26 H27 =>
Ent H27 R18 ∧
LenS v26 fun v28 =>
∃ (I29 : List Value → Hp → Prop) (m30 : List Value → Hp → Nat), JE I29 [w8, (Value.int .i64 0)] H27 ∧ ∀ w33 w34 : Value, ∀ H32 : Hp, I29 [w33, w34] H32 → ∀ gs31 : Fr,
Bin .num .lss w34 v28 fun v35 =>
Br v35 (
IAddr 1 v26 w34 fun v36 =>
Ld H32 v36 fun v37 =>
App Tryz.prog 55 2 32 (.agg #[(Value.int .i64 0), (.slice none 0 0)]) H32 w33 v37 fun v40 H41 =>
Bin .num .add w34 (Value.int .i64 1) fun v42 =>
Back I29 m30 [v40, v42] H41 [w33, w34] H32) (
CallF Tryz.prog g 143 #[w33] H32 (fun v43 H44 =>
LenS v43 fun v45 =>
R (.returned v45) H44) (PanR R))) NoKP) NoKP) NoKP)) (PanR R)
theorem L112_eq (g : Gh) (a0 a1 : Value) (H : Hp) (R : Ending → Hp → Prop) : denF Tryz.prog g Tryz.f112 (.h 0 [] [] .e (.h 0 [] [] .e (.h 0 [] [] (.h 0 [] [] .e (.h 0 [] [] (.h 0 [5, 13] [0, 1, 11, 12] .e .e) .e)) (.h 0 [] [] (.h 0 [] [] (.h 0 [0, 2, 3, 4, 5, 6, 10, 1, 7, 8, 9] [] .e .e) (.h 0 [] [] (.h 0 [5, 31] [29, 30] .e .e) .e)) .e)))) [a0, a1] H R = L112 g a0 a1 H R := by kernel_rfl
theorem L112_sound {g : Gh} {a0 a1 : Value} {H : Hp} {R : Ending → Hp → Prop} (h : L112 g a0 a1 H R) : SCalls Tryz.prog g 112 #[a0, a1] H R :=
  denF_sound (fn := Tryz.f112) (hn := (.h 0 [] [] .e (.h 0 [] [] .e (.h 0 [] [] (.h 0 [] [] .e (.h 0 [] [] (.h 0 [5, 13] [0, 1, 11, 12] .e .e) .e)) (.h 0 [] [] (.h 0 [] [] (.h 0 [0, 2, 3, 4, 5, 6, 10, 1, 7, 8, 9] [] .e .e) (.h 0 [] [] (.h 0 [5, 31] [29, 30] .e .e) .e)) .e))))) Tryz.func112 (by rw [L112_eq]; exact h)
def L113 (g : Gh) (a0 a1 : Value) (H : Hp) (R : Ending → Hp → Prop) : Prop :=
App Tryz.prog 3 1 8 (Value.int .i64 0) H (.slice none 0 0) a0 fun v3 H4 =>
DR H4 fun R5 =>
Bin .num .add a1 (Value.int .i64 1) fun v6 =>
Bin .num .add a1 (Value.int .i64 1) fun v7 =>
IAddr 1 v3 v7 fun v8 =>
Ld R5 v8 fun v9 =>
IAddr 1 v3 a1 fun v10 =>
Ld R5 v10 fun v11 =>
IAddr 1 v3 a1 fun v12 =>
St 1 H4 v12 v9 fun H13 =>
IAddr 1 v3 v6 fun v14 =>
St 1 H13 v14 v11 fun H15 =>
R (.returned v3) H15
theorem L113_eq (g : Gh) (a0 a1 : Value) (H : Hp) (R : Ending → Hp → Prop) : denF Tryz.prog g Tryz.f113 (.h 0 [] [] .e (.h 0 [] [] .e (.h 0 [] [] .e (.h 0 [] [] (.h 0 [0, 1, 2, 3, 4, 5, 6, 7, 8, 9, 10, 11, 12, 13, 14, 15, 16, 17] [] .e .e) .e)))) [a0, a1] H R = L113 g a0 a1 H R := by kernel_rfl
theorem L113_sound {g : Gh} {a0 a1 : Value} {H : Hp} {R : Ending → Hp → Prop} (h : L113 g a0 a1 H R) : SCalls Tryz.prog g 113 #[a0, a1] H R :=
  denF_sound (fn := Tryz.f113) (hn := (.h 0 [] [] .e (.h 0 [] [] .e (.h 0 [] [] .e (.h 0 [] [] (.h 0 [0, 1, 2, 3, 4, 5, 6, 7, 8, 9, 10, 11, 12, 13, 14, 15, 16, 17] [] .e .e) .e))))) Tryz.func113 (by rw [L113_eq]; exact h)
def L114 (g : Gh) (a0 : Value) (H : Hp) (R : Ending → Hp → Prop) : Prop :=
Nil a0 fun v1 =>
FAddr 3 v1 fun v2 =>
Ld H v2 fun v3 =>
LenS v3 fun v4 =>
∃ (I5 : List Value → Hp → Prop) (m6 : List Value → Hp → Nat), JE I5 [(.slice none 0 0), (Value.int .i64 0)] H ∧ ∀ w9 w10 : Value, ∀ H8 : Hp, I5 [w9, w10] H8 → ∀ gs7 : Fr,
Bin .num .lss w10 v4 fun v11 =>
Br v11 (
IAddr 3 v3 w10 fun v12 =>
LdA 3 H8 v12 fun v13 =>
New H8 (.cells #[(Value.int .i64 0), (.slice none 0 0), (Value.int .i64 0)] 173 (0, 0)) fun b14 H15 =>
St 3 H15 (.pointer (some ⟨b14, 0, none⟩)) v13 fun H16 =>
FAddr 0 (.pointer (some ⟨b14, 0, none⟩)) fun v17 =>
LdA 2 H16 v17 fun v18 =>
BuildSl Tryz.prog 49 1 [(0, v18)] H16 fun v19 H20 =>
App Tryz.prog 55 2 32 (.agg #[(Value.int .i64 0), (.slice none 0 0)]) H20 w9 v19 fun v23 H24 =>
Bin .num .add w10 (Value.int .i64 1) fun v25 =>
Back I5 m6 [v23, v25] H24 [w9, w10] H8) (
R (.returned w9) H8)
theorem L114_eq (g : Gh) (a0 : Value) (H : Hp) (R : Ending → Hp → Prop) : denF Tryz.prog g Tryz.f114 (.h 0 [] [] .e (.h 0 [] [] .e (.h 0 [] [] (.h 0 [] [] .e (.h 0 [] [] (.h 0 [3, 11] [9, 10] .e .e) .e)) .e))) [a0] H R = L114 g a0 H R := by kernel_rfl
theorem L114_sound {g : Gh} {a0 : Value} {H : Hp} {R : Ending → Hp → Prop} (h : L114 g a0 H R) : SCalls Tryz.prog g 114 #[a0] H R :=
  denF_sound (fn := Tryz.f114) (hn := (.h 0 [] [] .e (.h 0 [] [] .e (.h 0 [] [] (.h 0 [] [] .e (.h 0 [] [] (.h 0 [3, 11] [9, 10] .e .e) .e)) .e)))) Tryz.func114 (by rw [L114_eq]; exact h)
def L115 (g : Gh) (a0 a1 : Value) (H : Hp) (R : Ending → Hp → Prop) : Prop :=
Nil a0 fun v1 =>
FAddr 2 v1 fun v2 =>
Ld H v2 fun v3 =>
CallF Tryz.prog g 144 #[a1, v3] H (fun v4 H5 =>
R (.returned v4) H5) (PanR R)
theorem L115_eq (g : Gh) (a0 a1 : Value) (H : Hp) (R : Ending → Hp → Prop) : denF Tryz.prog g Tryz.f115 .e [a0, a1] H R = L115 g a0 a1 H R := by kernel_rfl
theorem L115_sound {g : Gh} {a0 a1 : Value} {H : Hp} {R : Ending → Hp → Prop} (h : L115 g a0 a1 H R) : SCalls Tryz.prog g 115 #[a0, a1] H R :=
  denF_sound (fn := Tryz.f115) (hn := .e) Tryz.func115 (by rw [L115_eq]; exact h)
def L116 (g : Gh) (a0 : Value) (H : Hp) (R : Ending → Hp → Prop) : Prop :=
New H (.cells (Value.cells a0) 55 (0, 0)) fun b1 H2 =>
∀ J3 : List Value → Hp → Prop, (∀ w6 : Value, ∀ H5 : Hp, (∀ gs4 : Fr,
R (.returned w6) H5) → J3 [w6] H5) →
DR H2 fun R7 =>
LdA 2 R7 (.pointer (some ⟨b1, 0, none⟩)) fun v8 =>
FAddr 0 (.pointer (some ⟨b1, 0, none⟩)) fun v9 =>
Ld R7 v9 fun v10 =>
∀ F11 : Hp,
CallF Tryz.prog (g.add F11) 120 #[v10, (Value.bool false)] H2 (fun v12 H13 =>
Ent H13 R7 ∧
∀ F14 : Hp,
CallF Tryz.prog (g.add F14) 72 #[v8, v12] H13 (fun v15 H16 =>
Ent H16 R7 ∧
Br v15 (
JE J3 [(Value.bool true)] H16) (
LdA 2 R7 (.pointer (some ⟨b1, 0, none⟩)) fun v17 =>
FAddr 0 (.pointer (some ⟨b1, 0, none⟩)) fun v18 =>
Ld R7 v18 fun v19 =>
∀ F20 : Hp,
CallF Tryz.prog (g.add F20) 120 #[v19, (Value.bool true)] H16 (fun v21 H22 =>
Ent H22 R7 ∧
∀ F23 : Hp,
CallF Tryz.prog (g.add F23) 72 #[v17, v21] H22 (fun v24 H25 =>
Ent H25 R7 ∧
Pick (Value.bool false) (Value.bool true) v24 fun v26 =>
JE J3 [v26] H25) NoKP) NoKP)) NoKP) NoKP
theorem L116_eq (g : Gh) (a0 : Value) (H : Hp) (R : Ending → Hp → Prop) : denF Tryz.prog g Tryz.f116 (.h 0 [] [] .e (.h 1 [2] [] (.h 1 [] [] (.h 0 [0] [] (.h 0 [1] [] (.h 0 [2] [] (.h 0 [3] [] (.h 0 [4] [] (.h 2 [5] [] (.h 0 [6] [] (.h 0 [7] [] (.h 0 [8] [] (.h 0 [9] [] (.h 0 [10] [] (.h 3 [11] [] (.h 3 [12] [] .e .e) .e) .e) .e) .e) .e) .e) (.h 0 [6] [] (.h 0 [7] [] (.h 0 [8] [] (.h 0 [9] [] (.h 0 [10] [] (.h 0 [11] [] (.h 0 [12] [] .e .e) .e) .e) .e) .e) .e) .e)) .e) .e) .e) .e) .e) .e) .e)) [a0] H R = L116 g a0 H R := by kernel_rfl
theorem L116_sound {g : Gh} {a0 : Value} {H : Hp} {R : Ending → Hp → Prop} (h : L116 g a0 H R) : SCalls Tryz.prog g 116 #[a0] H R :=
  denF_sound (fn := Tryz.f116) (hn := (.h 0 [] [] .e (.h 1 [2] [] (.h 1 [] [] (.h 0 [0] [] (.h 0 [1] [] (.h 0 [2] [] (.h 0 [3] [] (.h 0 [4] [] (.h 2 [5] [] (.h 0 [6] [] (.h 0 [7] [] (.h 0 [8] [] (.h 0 [9] [] (.h 0 [10] [] (.h 3 [11] [] (.h 3 [12] [] .e .e) .e) .e) .e) .e) .e) .e) (.h 0 [6] [] (.h 0 [7] [] (.h 0 [8] [] (.h 0 [9] [] (.h 0 [10] [] (.h 0 [11] [] (.h 0 [12] [] .e .e) .e) .e) .e) .e) .e) .e)) .e) .e) .e) .e) .e) .e) .e))) Tryz.func116 (by rw [L116_eq]; exact h)
def L117 (g : Gh) (a0 a1 : Value) (H : Hp) (R : Ending → Hp → Prop) : Prop :=
New H (.cells (Value.cells a0) 55 (0, 0)) fun b1 H2 =>
FAddr 1 (.pointer (some ⟨b1, 0, none⟩)) fun v3 =>
Ld H2 v3 fun v4 =>
Bin .num .quo a1 (Value.int .i64 64) fun v5 =>
IAddr 1 v4 v5 fun v6 =>
Ld H2 v6 fun v7 =>
Bin .num .rem a1 (Value.int .i64 64) fun v8 =>
Bin .num .shr v7 v8 fun v9 =>
Bin .num .rem v9 (Value.int .u64 2) fun v10 =>
Bin .num .eql v10 (Value.int .u64 1) fun v11 =>
R (.returned v11) H2
theorem L117_eq (g : Gh) (a0 a1 : Value) (H : Hp) (R : Ending → Hp → Prop) : denF Tryz.prog g Tryz.f117 .e [a0, a1] H R = L117 g a0 a1 H R := by kernel_rfl
theorem L117_sound {g : Gh} {a0 a1 : Value} {H : Hp} {R : Ending → Hp → Prop} (h : L117 g a0 a1 H R) : SCalls Tryz.prog g 117 #[a0, a1] H R :=
  denF_sound (fn := Tryz.f117) (hn := .e) Tryz.func117 (by rw [L117_eq]; exact h)
def L118 (g : Gh) (a0 a1 : Value) (H : Hp) (R : Ending → Hp → Prop) : Prop :=
New H (.cells (Value.cells a0) 55 (0, 0)) fun b1 H2 =>
DR H2 fun R3 =>
LdA 2 R3 (.pointer (some ⟨b1, 0, none⟩)) fun v4 =>
LdA 2 R3 (.pointer (some ⟨b1, 0, none⟩)) fun v5 =>
CallF Tryz.prog g 119 #[v4, a1, (Value.bool false)] H2 (fun v6 H7 =>
Ent H7 R3 ∧
CallF Tryz.prog g 119 #[v5, a1, (Value.bool true)] H7 (fun v8 H9 =>
Ent H9 R3 ∧
CallF Tryz.prog g 72 #[v6, v8] H9 (fun v10 H11 =>
Ent H11 R3 ∧
Un .not v10 fun v12 =>
R (.returned v12) H11) NoKP) NoKP) NoKP
theorem L118_eq (g : Gh) (a0 a1 : Value) (H : Hp) (R : Ending → Hp → Prop) : denF Tryz.prog g Tryz.f118 (.h 0 [] [] .e (.h 0 [] [] (.h 0 [0, 1, 3, 4, 2, 5, 6, 7, 8] [] .e .e) .e)) [a0, a1] H R = L118 g a0 a1 H R := by kernel_rfl
theorem L118_sound {g : Gh} {a0 a1 : Value} {H : Hp} {R : Ending → Hp → Prop} (h : L118 g a0 a1 H R) : SCalls Tryz.prog g 118 #[a0, a1] H R :=
  denF_sound (fn := Tryz.f118) (hn := (.h 0 [] [] .e (.h 0 [] [] (.h 0 [0, 1, 3, 4, 2, 5, 6, 7, 8] [] .e .e) .e))) Tryz.func118 (by rw [L118_eq]; exact h)
end Go.Proofs
