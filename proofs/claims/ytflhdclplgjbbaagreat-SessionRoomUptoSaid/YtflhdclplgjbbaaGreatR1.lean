import Derived.WalkKit
import Derived.Still
import Derived.KernelRfl
import Derived.Deep.Quiet
import Derived.OrdersHeld
import Derived.ProofKit
import Derived.OpenShut
import Derived.Below
import Derived.ChangeKeysEq
import Derived.Laws.StructEq
set_option linter.unusedVariables false
set_option linter.unusedSimpArgs false
set_option linter.unusedSectionVars false
theorem zM{α:Type _}{x:α}{l:List α}(h:x∈l:=by repeat (first|assumption|exact List.Mem.head _|apply List.Mem.tail|apply List.mem_append_right)):x∈l:=h
theorem zS{α:Type _}{A B:List α}(h:∀x∈A,x∈B:=by intro _ h;repeat (first|exact h|apply List.mem_cons_of_mem|apply List.mem_append_right)):∀x∈A,x∈B:=h
theorem zO{p:Prop}(h:p:=by omega):p:=h
theorem zI{p:Prop}(h:p:=by simp):p:=h
theorem zD{p:Prop}(h:p:=by decide):p:=h
theorem zK{p:Prop}(h:p:=by kernel_rfl):p:=h
theorem zP{p:Prop}(h:p:=by simp;omega):p:=h
theorem zC{p:Prop}(h:p:=by intro c h;cases h):p:=h
abbrev zL:=List Nat
abbrev zV:=Go.Value
abbrev zZ:Nat×Nat:=(0,0)
set_option linter.defProp false
def xaa:=@List.getElem?_eq_getElem
def xab:=@if_neg
def xac:=@List.mem_append_right
def xad:=@if_pos
def xae:=@List.mem_append_left
def xaf:=@List.length_append
def xag:=@cond_false
def xah:=@List.getElem?_eq_some_iff
def xai:=@List.append_assoc
def xaj:=@Nat.le_refl
def xak:=@List.mem_cons
def xal:=@decide_eq_false
def xam:=@decide_eq_true
def xan:=@List.mem_map
def xao:=@List.mem_append
def xap:=@cond_true
def xaq:=@List.getD_eq_getElem?_getD
def xar:=@Option.some.injEq
def xas:=@Array.getD_eq_getD_getElem?
def xat:=@List.getElem?_map
def xau:=@List.cons.injEq
def xav:=@List.mem_of_getElem?
def xaw:=@List.mem_singleton
def xax:=@Nat.pow_le_pow_right
def xay:=@List.map_cons
def xaz:=@List.length_cons
def xaA:=@Nat.lt_of_le_of_lt
def xaB:=@List.map_append
def xaC:=@List.getElem?_eq_none
def xaD:=@Classical.byContradiction
def xaE:=@List.length_map
def xaF:=@Bool.and_eq_true
def xaG:=@Bool.or_eq_false_iff
def xaH:=@List.getElem_mem
def xaI:=@Nat.eq_of_beq_eq_true
def xaJ:=@decide_eq_true_eq
def xaK:=@List.length_range
def xaL:=@List.append_nil
def xaM:=@List.mem_range
def xaN:=@Nat.zero_le
def xaO:=@Bool.false_eq_true
def xaP:=@Nat.lt_of_lt_of_le
def xaQ:=@List.cons_append
def xaR:=@List.not_mem_nil
def xaS:=@Array.getElem?_eq_some_iff
def xaT:=@List.mem_map_of_mem
def xaU:=@List.perm_middle
def xaV:=@Nat.eq_of_testBit_eq
def xaW:=@List.nodup_cons
def xaX:=@Nat.mul_le_mul_right
def xaY:=@List.getElem?_append_left
def xaZ:=@decide_eq_decide
def xa0:=@Nat.shiftRight_eq_div_pow
def xa1:=@and_true
def xa2:=@if_false
def xa3:=@List.nodup_append
def xa4:=@Bool.decide_or
def xa5:=@Nat.zero_add
def xa6:=@Nat.one_shiftLeft
def xa7:=@if_true
def xa8:=@List.take_succ_eq_append_getElem
def xa9:=@Ne.symm
def xba:=@List.mem_iff_getElem
def xbb:=@List.perm_append_comm
def xbc:=@Array.getElem?_toList
def xbd:=@List.ext_getElem?
def xbe:=@Int.toNat_natCast
def xbf:=@List.count_append
def xbg:=@Option.some.inj
def xbh:=@List.map_congr_left
def xbi:=@Nat.testBit_and
def xbj:=@List.take_length
def xbk:=@Nat.mod_eq_of_lt
def xbl:=@List.nodup_range
def xbm:=@Nat.shiftRight_le
def xbn:=@List.getElem?_set
def xbo:=@List.take_add_one
def xbp:=@decide_eq_false_iff_not
def xbq:=@List.take_append_drop
def xbr:=@List.drop_eq_getElem_cons
def xbs:=@Bool.or_eq_true
def xbt:=@List.mem_cons_of_mem
def xbu:=@Nat.succ_mul
def xbv:=@List.find?_cons
def xbw:=@Nat.two_pow_pos
def xbx:=@Nat.pow_lt_pow_right
def xby:=@List.filter_cons
def xbz:=@Nat.testBit_mod_two_pow
def xbA:=@Array.getElem?_eq_getElem
def xbB:=@Nat.mod_lt
def xbC:=@Nat.testBit_shiftRight
def xbD:=@or_false
def xbE:=@Bool.eq_iff_iff
def xbF:=@List.length_take
def xbG:=@Bool.not_eq_true'
def xbH:=@Nat.or_lt_two_pow
def xbI:=@Nat.le_trans
def xbJ:=@List.pairwise_map
def xbK:=@List.getElem?_set_ne
def xbL:=@List.mem_cons_self
def xbM:=@List.getElem?_set_self
def xbN:=@List.count_pos_iff
def xbO:=@Array.getElem?_setIfInBounds_self_of_lt
def xbP:=@Array.getElem?_setIfInBounds_ne
def xbQ:=@List.getElem?_append_right
def xbR:=@List.length_set
def xbS:=@List.nil_append
def xbT:=@Nat.and_one_is_mod
def xbU:=@List.filter_append
def xbV:=@List.mem_filter
def xbW:=@List.eq_nil_of_length_eq_zero
def xbX:=@Nat.testBit_two_pow
def xbY:=@Array.getElem?_modify
def xbZ:=@List.Perm.append_left
def xb0:=@List.eq_of_mem_replicate
def xb1:=@Nat.testBit_or
def xb2:=@List.length_filter_le
def xb3:=@List.length_singleton
def xb4:=@Nat.mul_one
def xb5:=@List.count_cons
def xb6:=@Nat.add_sub_cancel
def xb7:=@Nat.le_of_lt
def xb8:=@List.map_map
def xb9:=@Nat.testBit_lt_two_pow
def xca:=@Nat.mul_le_mul
def xcb:=@of_decide_eq_true
def xcc:=@Array.length_toList
def xcd:=@List.filter_eq_self
def xce:=@List.length_nil
def xcf:=@List.mem_or_eq_of_mem_set
def xcg:=@Nat.and_le_left
def xch:=@Option.map_some
def xci:=@List.range_succ
def xcj:=@Classical.choose_spec
def xck:=@congrArg
def xcl:=@List.map_nil
def xcm:=@Nat.mul_comm
def xcn:=@Nat.shiftLeft_eq
def xco:=@Bool.true_and
def xcp:=@Array.getElem?_setIfInBounds
def xcq:=@Bool.not_false
def xcr:=@List.flatten_append
def xcs:=@List.perm_iff_count
def xct:=@Array.getElem?_eq_none
def xcu:=@Nat.add_zero
def xcv:=@List.take_of_length_le
def xcw:=@Bool.not_true
def xcx:=@List.any_eq_true
def xcy:=@Nat.zero_testBit
def xcz:=@List.set_cons_zero
def xcA:=@List.set_append_right
def xcB:=@List.eq_nil_iff_forall_not_mem
def xcC:=@Nat.not_lt_zero
def xcD:=@Nat.min_eq_left
def xcE:=@List.mem_of_mem_take
def xcF:=@List.foldl_cons
def xcG:=@BitVec.ofInt_natCast
def xcH:=@List.count_singleton
def xcI:=@Nat.succ_le_of_lt
def xcJ:=@Nat.lt_trichotomy
def xcK:=@Nat.add_assoc
def xcL:=@Nat.mul_assoc
def xcM:=@List.getElem?_cons_zero
def xcN:=@List.length_eq_zero_iff
def xcO:=@beq_iff_eq
def xcP:=@List.find?_eq_none
def xcQ:=@List.map_set
def xcR:=@Nat.testBit_two_pow_sub_one
def xcS:=@Nat.le_of_ble_eq_true
def xcT:=@Iff.rfl
def xcU:=@true_and
def xcV:=@List.perm_ext_iff_of_nodup
def xcW:=@List.size_toArray
def xcX:=@List.flatten_cons
def xcY:=@List.filter_congr
def xcZ:=@Array.mem_toList_iff
def xc0:=@List.set_append_left
def xc1:=@List.set_eq_take_append_cons_drop
def xc2:=@Array.getElem?_replicate
def xc3:=@List.all_eq_true
def xc4:=@Nat.sub_zero
def xc5:=@Nat.le_of_not_lt
def xc6:=@Nat.and_le_right
def xc7:=@Nat.sub_self
def xc8:=@Nat.testBit_eq_decide_div_mod_eq
def xc9:=@List.replicate_succ
def xda:=@Nat.mul_le_mul_left
def xdb:=@List.length_pos_iff
def xdc:=@Array.empty_append
def xdd:=@List.append_of_mem
def xde:=@Int.natCast_nonneg
def xdf:=@Array.ext'
def xdg:=@of_decide_eq_false
def xdh:=@List.filter_filter
def xdi:=@Array.getElem?_extract
def xdj:=@List.drop_eq_nil_of_le
def xdk:=@Nat.one_mul
def xdl:=@List.filter_eq_nil_iff
def xdm:=@List.foldl_append
def xdn:=@decide_false
def xdo:=@List.getElem?_toArray
def xdp:=@Nat.ne_of_gt
def xdq:=@Array.toArray_toList
def xdr:=@Nat.div_eq_of_lt
def xds:=@Nat.min_eq_right
def xdt:=@Nat.sub_le
def xdu:=@Bool.or_false
def xdv:=@Prod.mk.injEq
def xdw:=@List.perm_append_singleton
def xdx:=@Bool.false_or
def xdy:=@Nat.pow_add
def xdz:=@Nat.mul_add
def xdA:=@Array.getElem?_push
def xdB:=@List.getElem?_range
def xdC:=@List.toList_toArray
def xdD:=@Decidable.byContradiction
def xdE:=@Array.append_empty
def xdF:=@Option.isSome_iff_exists
def xdG:=@Nat.lt_succ_iff_lt_or_eq
def xdH:=@Nat.shiftRight_add
def xdI:=@List.count_eq_zero
def xdJ:=@Bool.or_true
def xdK:=@List.count_nil
def xdL:=@List.count_set
def xdM:=@List.getElem?_replicate
def xdN:=@List.take_sublist
def xdO:=@Array.getElem?_setIfInBounds_self
def xdP:=@Option.map_eq_some_iff
def xdQ:=@Bool.and_true
def xdR:=@Array.toList_map
def xdS:=@Array.getElem?_append
def xdT:=@List.length_replicate
def xdU:=@List.eraseIdx_sublist
def xdV:=@Nat.testBit_shiftLeft
def xdW:=@dif_pos
def xdX:=@List.getElem?_append
def xdY:=@Nat.div_lt_of_lt_mul
def xdZ:=@Nat.zero_mul
def xd0:=@Nat.and_two_pow_sub_one_eq_mod
def xd1:=@List.of_mem_zip
def xd2:=@Nat.pow_succ
def xd3:=@Bool.decide_and
def xd4:=@List.find?_eq_some_iff_append
def xd5:=@List.take_succ_cons
def xd6:=@List.mapM_cons
def xd7:=@List.take_left
def xd8:=@Bool.false_and
def xd9:=@Nat.testBit_two_pow_sub_succ
def xea:=@List.dropLast_concat_getLast
def xeb:=@Bool.and_false
def xec:=@List.take_zero
def xed:=@List.set_cons_succ
def xee:=@Nat.pos_of_ne_zero
def xef:=@Nat.one_le_two_pow
def xeg:=@List.idxOf_lt_length_of_mem
def xeh:=@Array.toList_push
def xei:=@List.flatMap_cons
def xej:=@List.mem_range'_1
def xek:=@Classical.not_not
def xel:=@Bool.not_eq_true
def xem:=@Array.mem_filter
def xen:=@Option.bind_some
def xeo:=@beq_self_eq_true
def xep:=@Nat.lt_or_ge
def xeq:=@List.take_append
def xer:=@List.getElem_inj
def xes:=@List.drop_append
def xet:=@List.drop_length
def xeu:=@Array.map_empty
def xev:=@List.forIn_cons
def xew:=@Nat.div_add_mod
def xex:=@Int.natCast_inj
def xey:=@Nat.le_antisymm
def xez:=@List.take_left'
def xeA:=@not_congr
def xeB:=@List.countP_map
def xeC:=@Nat.add_mul
def xeD:=@List.map_id
abbrev zX:ByteArray:=ByteArray.mk #[0,1,2,2,3,3,3,3,4,4,4,4,4,4,4,4,5,5,5,5,5,5,5,5,5,5,5,5,5,5,5,5,6,6,6,6,6,6,6,6,6,6,6,6,6,6,6,6,6,6,6,6,6,6,6,6,6,6,6,6,6,6,6,6,7,7,7,7,7,7,7,7,7,7,7,7,7,7,7,7,7,7,7,7,7,7,7,7,7,7,7,7,7,7,7,7,7,7,7,7,7,7,7,7,7,7,7,7,7,7,7,7,7,7,7,7,7,7,7,7,7,7,7,7,7,7,7,7,8,8,8,8,8,8,8,8,8,8,8,8,8,8,8,8,8,8,8,8,8,8,8,8,8,8,8,8,8,8,8,8,8,8,8,8,8,8,8,8,8,8,8,8,8,8,8,8,8,8,8,8,8,8,8,8,8,8,8,8,8,8,8,8,8,8,8,8,8,8,8,8,8,8,8,8,8,8,8,8,8,8,8,8,8,8,8,8,8,8,8,8,8,8,8,8,8,8,8,8,8,8,8,8,8,8,8,8,8,8,8,8,8,8,8,8,8,8,8,8,8,8,8,8,8,8,8,8]
namespace Go.Sx
open Go
abbrev Hp:=List (Nat×Obj)
structure Gh where
 w:World
 fr:Hp
def Gh.add(g:Gh)(F:Hp):Gh:=⟨g.w,F++g.fr⟩
structure Own(g:Gh)(H:Hp)(w:World):Prop where
 os:w.os=g.w.os
 out:w.output=g.w.output
 tape:w.tape=g.w.tape
 nd:((H++g.fr).map Prod.fst).Nodup
 Bj:∀x,x∈H++g.fr->w.heap[x.1]? =some x.2
theorem Own.has{g:Gh}{H:Hp}{w:World}(h:Own g H w)(x:Nat×Obj)(hx:x∈H):w.heap[x.1]? =some x.2:=h.Bj x (xae _ hx)
theorem Own.perm{g:Gh}{H H':Hp}{w:World}(h:Own g H w)(p:H.Perm H'):Own g H' w:=
 ⟨h.os,h.out,h.tape,((p.append_right _).map _).nodup_iff.1 h.nd,λx hx=>h.Bj x ((p.append_right _).mem_iff.2 hx)⟩
theorem Own.right{g:Gh}{A B:Hp}{w:World}(h:Own g (A++B) w):Own g B w:=
 ⟨h.os,h.out,h.tape,by have:=h.nd;rw[xai,xaB]at this;exact(xa3.1 this).2.1,λx hx=>h.Bj x (by rw[xai];exact xac _ hx)⟩
theorem Own.left{g:Gh}{A B:Hp}{w:World}(h:Own g (A++B) w):Own g A w:=Own.right (A:=B) (h.perm xbb)
theorem Own.tail{g:Gh}{x:Nat×Obj}{B:Hp}{w:World}(h:Own g (x::B) w):Own g B w:=Own.right (A:=[x]) h
theorem Own.fj{g:Gh}{A F:Hp}{w:World}:Own g (A++F) w↔Own (g.add F) A w:=by
 constructor
 ·intro h;exact⟨h.os,h.out,h.tape,by have:=h.nd;rw[xai]at this;exact this,λx hx=>h.Bj x (by rw[xai];exact hx)⟩
 intro h;exact⟨h.os,h.out,h.tape,by have:=h.nd;rw[xai];exact this,λx hx=>h.Bj x (by rw[xai]at hx;exact hx)⟩
def aM(H H':Hp):Prop:=∀g w,Own g H w->Own g H' w
theorem aM.refl(H:Hp):aM H H:=λ_ _ h=>h
theorem aM.trans{A B C:Hp}(h:aM A B)(h':aM B C):aM A C:=λg w x=>h' g w (h g w x)
theorem aM.perm{A B:Hp}(p:A.Perm B):aM A B:=λ_ _ h=>h.perm p
theorem aM.right{A B:Hp}:aM (A++B) B:=λ_ _ h=>h.right
theorem aM.left{A B:Hp}:aM (A++B) A:=λ_ _ h=>h.left
theorem aM.tail{x:Nat×Obj}{B:Hp}:aM (x::B) B:=λ_ _ h=>h.tail
theorem aM.frame{A B:Hp}(h:aM A B)(F:Hp):aM (A++F) (B++F):=λ_ _ o=>Own.fj.2 (h _ _ (Own.fj.1 o))
theorem aM.de{A B:Hp}(h:aM A B)(F:Hp):aM (F++A) (F++B):=(aM.perm xbb).trans ((h.frame F).trans (.perm xbb))
inductive c8(b:Nat)(o o':Obj):Hp->Hp->Prop
 |head (R:Hp):c8 b o o' ((b,o)::R) ((b,o')::R)
 |tail {x:Nat×Obj} {R R':Hp} (h:c8 b o o' R R'):c8 b o o' (x::R) (x::R')
theorem c8.mem{b:Nat}{o o':Obj}{H H':Hp}(h:c8 b o o' H H'):(b,o)∈H:=by
 induction h with
 |head R=>simp
 |tail _ ih=>simp[ih]
theorem c8.keys{b:Nat}{o o':Obj}{H H':Hp}(h:c8 b o o' H H'):H'.map Prod.fst=H.map Prod.fst:=by
 induction h with
 |head R=>simp
 |tail _ ih=>simp[ih]
theorem c8.MJ{b:Nat}{o o':Obj}{H H':Hp}(h:c8 b o o' H H')(nd:(H.map Prod.fst).Nodup):∀x∈H',x=(b,o')\/(x∈H/\x.1≠b):=by
 induction h with
 |head R=>
  intro x hx;rcases xak.1 hx with rfl|hx
  ·exact .inl rfl
  refine .inr ⟨by simp[hx],λe=>?_⟩;simp only[xay,xaW]at nd;exact nd.1 (e▸xaT hx)
 | @tail y R R' h ih=>
  intro x hx;simp only[xay,xaW]at nd;rcases xak.1 hx with rfl|hx
  ·refine .inr ⟨by simp,λe=>?_⟩;exact nd.1 (e▸xaT (f:=Prod.fst) h.mem)
  rcases ih nd.2 x hx with h1|h1
  ·exact .inl h1
  exact .inr ⟨by simp[h1.1],h1.2⟩
theorem c8.append{b:Nat}{o o':Obj}{C C':Hp}(h:c8 b o o' C C')(B:Hp):c8 b o o' (C++B) (C'++B):=by
 induction h with
 |head R=>exact .head _
 |tail _ ih=>exact .tail ih
theorem Own.bK{g:Gh}{H H':Hp}{w w':World}{b:Nat}{o o':Obj}(h:Own g H w)(u:c8 b o o' H H')
 (hos:w'.os=w.os)(hout:w'.output=w.output)(RG:w'.tape=w.tape)
 (hb:w'.heap[b]? =some o')(hr:∀c,c≠b->w'.heap[c]? =w.heap[c]?):Own g H' w':=
 ⟨hos.trans h.os,hout.trans h.out,RG.trans h.tape,by rw[(u.append g.fr).keys];exact h.nd,λx hx=>by
  rcases(u.append g.fr).MJ h.nd x hx with rfl|⟨h1,h2⟩
  ·exact hb
  rw[hr _ h2];exact h.Bj x h1⟩
theorem Own.same{g:Gh}{H:Hp}{w w':World}(h:Own g H w)(hos:w'.os=w.os)(hout:w'.output=w.output)(RG:w'.tape=w.tape)
 (hr:∀(c:Nat) (o:Obj),w.heap[c]? =some o->w'.heap[c]? =some o):Own g H w':=
 ⟨hos.trans h.os,hout.trans h.out,RG.trans h.tape,h.nd,λx hx=>hr _ _ (h.Bj x hx)⟩
theorem Own.drew{g:Gh}{H:Hp}{w:World}(h:Own g H w):Own g H w.drew:=h.same rfl rfl rfl λ_ _ h=>h
theorem Own.zY{g:Gh}{H:Hp}{w:World}(h:Own g H w):Own g H {w with drawn:=w.drawn+1}:=h.drew
theorem Own.lt0{g:Gh}{H:Hp}{w:World}(h:Own g H w){x:Nat×Obj}(hx:x∈H++g.fr):x.1<w.heap.size:=by
 have:=h.Bj x hx;exact(xaS.1 this).1
theorem Own.lt{g:Gh}{H:Hp}{w:World}(h:Own g H w){x:Nat×Obj}(hx:x∈H):x.1<w.heap.size:=h.lt0 (xae _ hx)
theorem Own.SK{g:Gh}{H:Hp}{w:World}(h:Own g H w):w.heap.size∉(H++g.fr).map Prod.fst:=by
 intro hm;obtain⟨x,hx,e⟩:=xan.1 hm;have:=h.lt0 hx;omega
theorem Own.fresh{g:Gh}{H:Hp}{w:World}(h:Own g H w):w.heap.size∉H.map Prod.fst:=λhm=>h.SK (by rw[xaB];exact xae _ hm)
theorem Own.alloc{g:Gh}{H:Hp}{w:World}(h:Own g H w)(o:Obj):Own g ((w.heap.size,o)::H) (w.alloc o):=by
 refine⟨h.os,h.out,h.tape,?_,?_⟩
 ·rw[xaQ,xay,xaW];exact⟨h.SK,h.nd⟩
 intro x hx;rw[xaQ]at hx;rcases xak.1 hx with rfl|hx
 ·show(w.heap.push o)[w.heap.size]? =some o;rw[xdA,xad rfl]
 have:=h.Bj x hx;have hl:=h.lt0 hx;show(w.heap.push o)[x.1]? =some x.2;rw[xdA,xab zO];exact this
theorem Own.cell{g:Gh}{H:Hp}{w:World}(h:Own g H w){b:Nat}{c:Array zV}{T:TypeId}{fz:Nat×Nat}(hm:(b,Obj.cells c T fz)∈H)(off:Nat):
  w.cell? ⟨b,off,none⟩=c[off]? :=by
 have:=h.has _ hm;simp only[World.cell?];simp only at this;rw[this];rfl
theorem Own.frozen{g:Gh}{H:Hp}{w:World}(h:Own g H w){b:Nat}{c:Array zV}{T:TypeId}(hm:(b,Obj.cells c T zZ)∈H)(off:Nat)(sp:Option Nat):
  w.frozen? ⟨b,off,sp⟩=false:=by
 have:=h.has _ hm;simp only at this;simp[World.frozen?,this]
def jV(c:Array zV)(off:Nat):List zV->Array zV
 | []=>c
 |v::r=>jV (c.setIfInBounds off v) (off+1) r
theorem Own.setCell{g:Gh}{H:Hp}{w:World}(h:Own g H w){b:Nat}{c:Array zV}{T:TypeId}{fz:Nat×Nat}{H':Hp}(off:Nat)(v:zV)
 (u:c8 b (.cells c T fz) (.cells (c.setIfInBounds off v) T fz) H H'):Own g H' (w.setCell ⟨b,off,none⟩ v):=by
 refine h.bK u rfl rfl rfl ?_ ?_
 ·have:=h.has _ u.mem;simp only at this;simp[World.setCell,xbY,this]
 intro d hd;simp only[World.setCell];rw[xbY,xab (λe=>hd (Eq.symm e))]
theorem c8.re{b:Nat}{o o':Obj}{H H':Hp}(u:c8 b o o' H H')(o₁:Obj):∃H₁,c8 b o o₁ H H₁/\c8 b o₁ o' H₁ H':=by
 induction u with
 |head R=>exact⟨_,.head R,.head R⟩
 |tail _ ih=>obtain⟨H₁,u1,u2⟩:=ih;exact⟨_,.tail u1,.tail u2⟩
theorem gm{P:Program}{g:Gh}{b:Nat}{T:TypeId}(off:Nat):∀(l:List zV) (i:Nat) (c:Array zV) (H H':Hp) (w:World),Own g H w->
  c8 b (.cells c T zZ) (.cells (jV c (off+i) l) T zZ) H H'->(∀v∈l,v.oneCell'=true)->off+i+l.length<=c.size->
  ∃w',(storeCells ⟨b,off,none⟩ l i).run P w=.ok () w'/\Own g H' w'
 | [],i,c,H,H',w,h,u,_,_=>by
  refine⟨w,rfl,?_⟩;exact h.bK u rfl rfl rfl (h.has _ u.mem) λ_ _=>rfl
 |v::r,i,c,H,H',w,h,u,h1,hs=>by
  obtain⟨H₁,u1,u2⟩:=u.re (.cells (c.setIfInBounds (off+i) v) T zZ);have nJ:=h.setCell (off+i) v u1;simp only[xaz]at hs;obtain⟨w',hr,ho⟩:=gm (P:=P) off r (i+1) (c.setIfInBounds (off+i) v) H₁ H' _ nJ (by simpa[jV,xcK]using u2) (λx hx=>h1 x (by simp[hx])) zP;refine⟨w',?_,ho⟩;have hc:w.cell? ⟨b,off+i,none⟩=some c[off+i]:=by
   rw[h.cell u.mem,xbA]
  have hf:=h.frozen u.mem (off+i) none;have ha:Addr.add ⟨b,off,none⟩ i=⟨b,off+i,none⟩:=Addr.add_lit _ _ _;simp only[storeCells,Sem.run_bind,ha,run_store P w _ v .plain (h1 v zI),hc,hf,xaO,xa2,Result.andThen_ok,hr]
theorem kG{P:Program}{g:Gh}{H:Hp}{w:World}(h:Own g H w){b:Nat}{c:Array zV}{T:TypeId}{fz:Nat×Nat}(hm:(b,Obj.cells c T fz)∈H)
 (off n:Nat)(hs:off+n<=c.size):(loadCells ⟨b,off,none⟩ n).run P w=.ok (c.extract off (off+n)) w:=by
 have hl:((c.extract off (off+n)).toList).length=n:=by simp;omega
 have:=run_loadCells_list (P:=P) w ⟨b,off,none⟩ (c.extract off (off+n)).toList (λj v hj=>by
  rw[Addr.add_lit,h.cell hm];have Ul:j<n:=by
   have:=(xah.1 hj).1;omega
  rw[xbc,xdi]at hj;rw[xad zO]at hj;exact hj)
 rw[hl]at this;exact this
end Go.Sx
namespace Go.Sx
open Go
abbrev Fr:=Nat->zV
def bK(fr:Fr)(d:Option Nat)(v:zV):Fr:=
 match d with
 |none=>fr
 |some d=>λs=>cond (Nat.beq s d) v (fr s)
def ev(fr:Fr):Operand->zV
 | .tmp t=>fr t
 | .const v=>v
 | .global g=>.pointer (some ⟨g,0,none⟩)
 | .func f=>.func (.func f) #[] #[]
def eG(n:Nat):Option Nat->Bool
 |none=>true
 |some d=>Nat.blt d n
structure cA(ds:List Deferred)(n:Nat)(a:Act)(fr:Fr):Prop where
 defers:a.defers=ds
 size:a.tmps.size=n
 get:∀s,a.tmps.getD s undef=fr s
theorem cA.eval{ds:List Deferred}{n:Nat}{a:Act}{fr:Fr}(h:cA ds n a fr):a.eval=ev fr:=by
 funext x
 cases x<;>simp only[Act.eval,ev];exact h.get _
theorem cA.put{ds:List Deferred}{n:Nat}{a:Act}{fr:Fr}(h:cA ds n a fr){d:Option Nat}(hd:eG n d=true)(v:zV):cA ds n (a.put d v) (bK fr d v):=by
 cases d with
 |none=>exact h
 |some d=>
  have hlt:d<n:=by simpa[eG,Nat.blt_eq]using hd
  refine⟨h.defers,by simp[Act.put,h.size],λs=>?_⟩;simp only[Act.put,bK];have hs:=h.size;by_cases e:s=d
  ·subst e;simp[hs,hlt]
  have e':d≠s:=λx=>e x.symm;have hb:Nat.beq s d=false:=by
   cases hh:Nat.beq s d
   ·rfl
   exact absurd (xaI hh) e
  rw[hb];simp only[xag];have:=h.get s;simpa[xas,xbP e']using this
def bC(P:Program)(g:Gh)(f:FuncId)(args:Array zV)(H:Hp)(R:Ending->Hp->Prop):Prop:=
 ∀w,Own g H w->Calls P f args w λe w'=>∃H',Own g H' w'/\R e H'
theorem bC.mono{P:Program}{g:Gh}{f:FuncId}{args:Array zV}{H:Hp}{R R':Ending->Hp->Prop}(h:bC P g f args H R)(hr:∀e H',R e H'->R' e H'):
  bC P g f args H R':=λw hw=>(h w hw).mono λe w' ⟨H',o,r⟩=>⟨H',o,hr _ _ r⟩
theorem bC.pre{P:Program}{g:Gh}{f:FuncId}{args:Array zV}{H H':Hp}{R:Ending->Hp->Prop}(h:bC P g f args H' R)(he:aM H H'):
  bC P g f args H R:=λw hw=>h w (he _ _ hw)
theorem bC.post{P:Program}{g:Gh}{f:FuncId}{args:Array zV}{H:Hp}{R R':Ending->Hp->Prop}(h:bC P g f args H R)
 (hr:∀e H',R e H'->∃nH,aM H' nH/\R' e nH):bC P g f args H R':=λw hw=>(h w hw).mono λe w' ⟨H',o,r⟩=>
 let ⟨nH,en,r'⟩:=hr _ _ r;⟨nH,en _ _ o,r'⟩
def aem(K:zV->Hp->Prop)(KP:List PanicEntry->Hp->Prop):Ending->Hp->Prop
 | .returned v,H=>K v H
 | .panicked ch,H=>KP ch H
 | .outgrown,_=>False
def oK(P:Program)(g:Gh)(K:zV->Hp->Prop)(KP:List PanicEntry->Hp->Prop):Result Next->Prop
 | .ok (.value v) w=>∃H,Own g H w/\K v H
 | .ok .skip w=>∃H,Own g H w/\K undef H
 | .ok (.enter f args) w=>Calls P f args w λe w'=>∃H,Own g H w'/\aem K KP e H
 | .halt (.panic v) w=>∃H,Own g H w/\KP [{v,recovered:=false}] H
 |_=>False
def oI(P:Program)(g:Gh)(o:Oper)(ρ:Operand->zV)(H:Hp)(K:zV->Hp->Prop)(KP:List PanicEntry->Hp->Prop):Prop:=
 ∀w,Own g H w->oK P g K KP ((execOp ρ o).run P w)
def N7(H:Hp)(o:Obj)(k:Nat->Hp->Prop):Prop:=∀b,b∉H.map Prod.fst->k b ((b,o)::H)
def aH(c a b:zV)(k:zV->Prop):Prop:=∃t,c=.bool t/\k (cond t a b)
def Ld(H:Hp)(p:zV)(k:zV->Prop):Prop:=
 ∃b off c T fz v,p=.pointer (some ⟨b,off,none⟩)/\(b,Obj.cells c T fz)∈H/\c[off]? =some v/\k v
def az(n:Nat)(H:Hp)(p:zV)(k:zV->Prop):Prop:=
 ∃b off c T fz,p=.pointer (some ⟨b,off,none⟩)/\(b,Obj.cells c T fz)∈H/\off+n<=c.size/\k (.agg (c.extract off (off+n)))
def St(n:Nat)(H:Hp)(p x:zV)(k:Hp->Prop):Prop:=
 ∃b off c T H',p=.pointer (some ⟨b,off,none⟩)/\x.cells.size=n/\off+n<=c.size/\(∀v∈x.cells.toList,v.oneCell'=true)/\
  c8 b (.cells c T zZ) (.cells (jV c off x.cells.toList) T zZ) H H'/\k H'
inductive BK|num|bool|ptr|slice|map|func|str|other
def Bz:TypeDesc->BK
 | .bool=>.bool
 | .int _=>.num
 | .pointer _=>.ptr
 | .slice _=>.slice
 | .map _ _=>.map
 | .func _ _ _=>.func
 | .string=>.str
 |_=>.other
def mS(op:BinOp)(k:IntKind)(a b:Int):Option zV:=
 match op with
 | .add=>some (.int k (k.wrap (a+b)))
 | .sub=>some (.int k (k.wrap (a-b)))
 | .mul=>some (.int k (k.wrap (a*b)))
 | .quo=>if b=0 then none else some (.int k (k.wrap (a.tdiv b)))
 | .rem=>if b=0 then none else some (.int k (a.tmod b))
 | .and=>some (.int k (bits .and k a b))
 | .or=>some (.int k (bits .or k a b))
 | .xor=>some (.int k (bits .xor k a b))
 | .andNot=>some (.int k (bits .andNot k a b))
 | .eql=>some (.bool (a==b))
 | .neq=>some (.bool (a !=b))
 | .lss=>some (.bool (decide (a<b)))
 | .leq=>some (.bool (decide (a<=b)))
 | .gtr=>some (.bool (decide (b<a)))
 | .geq=>some (.bool (decide (b<=a)))
 |_=>none
def g8(kd:BK)(op:BinOp)(x y:zV):Option zV:=
 match x with
 | .int k a=>
  match y with
  | .int k' b=>
   match op with
   | .shl=>if b<0 then none else some (.int k (k.wrap (a*2^(min b.toNat k.bits))))
   | .shr=>if b<0 then none else some (.int k (a.fdiv (2^(min b.toNat k.bits))))
   |op=>if k=k' then mS op k a b else none
  |_=>none
 | .bool a=>
  match kd,op,y with
  | .bool,.eql,.bool b=>some (.bool (a==b))
  | .bool,.neq,.bool b=>some (.bool (!(a==b)))
  |_,_,_=>none
 | .string a=>
  match op,y with
  | .eql,.string b=>some (.bool (a.toList==b.toList))
  | .neq,.string b=>some (.bool (!(a.toList==b.toList)))
  |_,_=>none
 | .pointer a=>
  match kd,op,y with
  | .ptr,.eql,.pointer b=>if a.isNone\/b.isNone then some (.bool (a.isNone&&b.isNone))else none
  | .ptr,.neq,.pointer b=>if a.isNone\/b.isNone then some (.bool (!(a.isNone&&b.isNone)))else none
  |_,_,_=>none
 | .slice a n c=>
  match kd,op,y with
  | .slice,.eql,.slice b _ _=>if a.isNone\/b.isNone then some (.bool (a.isNone&&b.isNone))else none
  | .slice,.neq,.slice b _ _=>if a.isNone\/b.isNone then some (.bool (!(a.isNone&&b.isNone)))else none
  |_,_,_=>none
 | .map a=>
  match kd,op,y with
  | .map,.eql,.map b=>if a.isNone\/b.isNone then some (.bool (a.isNone&&b.isNone))else none
  | .map,.neq,.map b=>if a.isNone\/b.isNone then some (.bool (!(a.isNone&&b.isNone)))else none
  |_,_,_=>none
 |_=>none
def ae(kd:BK)(op:BinOp)(x y:zV)(k:zV->Prop):Prop:=∃v,g8 kd op x y=some v/\k v
def unV(op:UnOp)(x:zV):Option zV:=
 match op,x with
 | .neg,.int k n=>some (.int k (k.wrap (0-n)))
 | .not,.bool b=>some (.bool !b)
 | .xor,.int k n=>some (.int k (bits .xor k (if k.signed then-1 else k.max) n))
 |_,_=>none
def Un(op:UnOp)(x:zV)(k:zV->Prop):Prop:=∃v,unV op x=some v/\k v
def br(kd:IntKind)(x:zV)(k:zV->Prop):Prop:=∃j n,x=.int j n/\k (.int kd (kd.wrap n))
def ai(off:Nat)(x:zV)(k:zV->Prop):Prop:=∃b o,x=.pointer (some ⟨b,o,none⟩)/\k (.pointer (some ⟨b,o+off,none⟩))
def Az(off:Nat)(x:zV)(k:zV->Prop):Prop:=∃cs v,x=.agg cs/\cs[off]? =some v/\k v
def Xx(off n:Nat)(x:zV)(k:zV->Prop):Prop:=∃cs,x=.agg cs/\k (.agg (cs.extract off (off+n)))
def av(size:Nat)(x ix:zV)(k:zV->Prop):Prop:=
 ∃b o n c kd i,x=.slice (some ⟨b,o,none⟩) n c/\ix=.int kd i/\0<=i/\i<(n:Int)/\k (.pointer (some ⟨b,o+i.toNat*size,none⟩))
def iX(len size:Nat)(x ix:zV)(k:zV->Prop):Prop:=
 ∃b o kd i,x=.pointer (some ⟨b,o,none⟩)/\ix=.int kd i/\0<=i/\i<(len:Int)/\k (.pointer (some ⟨b,o+i.toNat*size,none⟩))
def VU:Option zV->Option Int
 |none=>some 0
 |some (.int _ n)=>some n
 |_=>none
def M6(len:Nat):Option zV->Option Int
 |none=>some len
 |some (.int _ n)=>some n
 |_=>none
def gx(size:Nat)(x:zV)(lo hi:Option zV)(k:zV->Prop):Prop:=
 ∃a n c l h,x=.slice a n c/\VU lo=some l/\M6 n hi=some h/\0<=l/\l<=h/\h<=(c:Int)/\
  k (.slice (if c=l.toNat then a else a.map (·.add (l.toNat*size))) (h.toNat-l.toNat) (c-l.toNat))
def Ext(i:Nat)(x:zV)(k:zV->Prop):Prop:=∃vs v,x=.tuple vs/\vs[i]? =some v/\k v
def aR(x:zV)(k:zV->Prop):Prop:=∃a n c,x=.slice a n c/\k (.int .i64 n)
def BG(H:Hp)(x:zV)(k:zV->Prop):Prop:=
 ∃m,x=.map m/\((m=none/\k (.int .i64 0))\/∃b es clock,m=some b/\(b,Obj.map es clock)∈H/\k (.int .i64 es.size))
def Cells(H:Hp)(base:Option Addr)(n:Nat)(cs:Array zV):Prop:=
 match base with
 |none=>cs=#[]
 |some a=>(n=0/\cs=#[])\/(a.spot=none/\∃c T fz,(a.block,Obj.cells c T fz)∈H/\a.off+n<=c.size/\cs=c.extract a.off (a.off+n))
def App(P:Program)(elem size bytes:Nat)(zero:zV)(H:Hp)(s x:zV)(k:zV->Hp->Prop):Prop:=
 ∃base n cap xb m xc olds news,s=.slice base n cap/\x=.slice xb m xc/\Cells H base (n*size) olds/\Cells H xb (m*size) news/\
  news.size=m*size/\olds.size=n*size/\(∀v∈news.toList,v.oneCell'=true)/\
  (n+m<=cap->match base with
   |none=>k (.slice none (n+m) cap) H
   |some a=>∃c T H',a.spot=none/\a.off+n*size+m*size<=c.size/\c8 a.block (.cells c T zZ) (.cells (jV c (a.off+n*size) news.toList) T zZ) H H'/\k (.slice (some a) (n+m) cap) H')/\
  (cap<n+m->(n+m)*bytes<=140737488355328/\(n+m:Nat)<=9223372036854775807/\∀gp,n+m<=gp->
   N7 H (.cells (olds++news++Builtin.zeroCells zero.cells (gp-(n+m))) elem zZ) λb H'=>∃nH,aM H' nH/\k (.slice (some ⟨b,0,none⟩) (n+m) gp) nH)
def cU(elem size bytes:Nat)(zero:zV)(H:Hp)(l c:zV)(k:zV->Hp->Prop):Prop:=
 ∃kl kc ln cn,l=.int kl (ln:Nat)/\c=.int kc (cn:Nat)/\ln<=cn/\(cn:Int)<=9223372036854775807/\cn*bytes<=281474976710656/\
  N7 H (.cells (madeCells zero.cells (cn*size)) elem zZ) λb H'=>k (.slice (some ⟨b,0,none⟩) ln cn) H'
def gH(H:Hp)(k:zV->Hp->Prop):Prop:=N7 H (.map #[] 0) λb H'=>k (.map (some b)) H'
def Ls(H:Hp)(m:zV)(es:Array MapEntry):Prop:=(m=.map none/\es=#[])\/∃b clock,m=.map (some b)/\(b,Obj.map es clock)∈H
def c6(kd:TypeDesc)(zero:zV)(ok:Bool)(H:Hp)(m key:zV)(k:zV->Prop):Prop:=
 ∃es r,Ls H m es/\Instr.findNow kd key es.toList 0=some r/\
  k (match r with
   |some (_,v)=>cond ok (.tuple #[v,.bool true]) v
   |none=>cond ok (.tuple #[zero,.bool false]) zero)
def aW(kd:TypeDesc)(H:Hp)(m key val:zV)(k:Hp->Prop):Prop:=
 ∃b es clock r,m=.map (some b)/\Instr.findNow kd key es.toList 0=some r/\
  match r with
  |some (i,_)=>(∀e,es[i]? =some e->Instr.sameBits 10000 e.key key=true)/\i<es.size/\∃H',c8 b (.map es clock) (.map (es.modify i λe=>{e with key,val}) clock) H H'/\k H'
  |none=>∃H',c8 b (.map es clock) (.map (es.push {key,val,born:=clock}) (clock+1)) H H'/\k H'
def oJ(kd:TypeDesc)(H:Hp)(m key:zV)(k:Hp->Prop):Prop:=
 (m=.map none/\k H)\/∃b es clock r,m=.map (some b)/\Instr.findNow kd key es.toList 0=some r/\
  match r with
  |some (i,_)=>∃H',c8 b (.map es clock) (.map (es.eraseIdxIfInBounds i) clock) H H'/\k H'
  |none=>(b,Obj.map es clock)∈H/\k H
def aU(P:Program)(f:FuncId):Bool:=
 match P.funcs[f]? with
 |none=>false
 |some fn=> !(fn.name== "runtime.NumGoroutine") &&fn.body.isSome
def aa(P:Program)(g:Gh)(f:FuncId)(args:Array zV)(H:Hp)(K:zV->Hp->Prop)(KP:List PanicEntry->Hp->Prop):Prop:=
 bC P g f args H (aem K KP)
def aE(P:Program)(g:Gh)(fv:zV)(args:Array zV)(H:Hp)(K:zV->Hp->Prop)(KP:List PanicEntry->Hp->Prop):Prop:=
 ∃f first captured,fv=.func (.func f) first captured/\aU P f=true/\aa P g f (first++args++captured) H K KP
def BI(P:Program)(kt:TypeId)(x y:zV)(b:Bool):Prop:=∀w,(Op.equal kt x y).run P w=.ok b w
def mw(P:Program)(kt:TypeId)(x:zV):Prop:=∀e w,(Instr.checkKey e 10000 kt x).run P w=.ok () w
def nu(P:Program)(kt:TypeId)(key:zV):List MapEntry->Nat->Option (Nat×zV)->Prop
 | [],_,r=>r=none
 |e::es,i,r=>∃b,BI P kt key e.key b/\(b=true->r=some (i,e.val))/\(b=false->nu P kt key es (i+1) r)
def j7(P:Program)(kt:TypeId)(zero:zV)(ok:Bool)(H:Hp)(m key:zV)(k:zV->Prop):Prop:=
 ∃es r,Ls H m es/\mw P kt key/\nu P kt key es.toList 0 r/\
  k (match r with
   |some (_,v)=>cond ok (.tuple #[v,.bool true]) v
   |none=>cond ok (.tuple #[zero,.bool false]) zero)
def iJ(P:Program)(kt:TypeId)(H:Hp)(m key val:zV)(k:Hp->Prop):Prop:=
 ∃b es clock r,m=.map (some b)/\mw P kt key/\nu P kt key es.toList 0 r/\
  match r with
  |some (i,_)=>(∀e,es[i]? =some e->Instr.sameBits 10000 e.key key=true)/\i<es.size/\∃H',c8 b (.map es clock) (.map (es.modify i λe=>{e with key,val}) clock) H H'/\k H'
  |none=>∃H',c8 b (.map es clock) (.map (es.push {key,val,born:=clock}) (clock+1)) H H'/\k H'
def r7(P:Program)(kt:TypeId)(H:Hp)(m key:zV)(k:Hp->Prop):Prop:=
 mw P kt key/\((m=.map none/\k H)\/∃b es clock r,m=.map (some b)/\nu P kt key es.toList 0 r/\
  match r with
  |some (i,_)=>∃H',c8 b (.map es clock) (.map (es.eraseIdxIfInBounds i) clock) H H'/\k H'
  |none=>(b,Obj.map es clock)∈H/\k H)
def Rng(H:Hp)(x:zV)(k:zV->Hp->Prop):Prop:=
 (x=.map none/\N7 H (.mapIter none 0 #[] 0) λb H'=>k (.pointer (some ⟨b,0,none⟩)) H')\/
 ∃m es clock,x=.map (some m)/\(m,Obj.map es clock)∈H/\N7 H (.mapIter (some m) clock #[] clock) λb H'=>k (.pointer (some ⟨b,0,none⟩)) H'
def Nxt(H:Hp)(it:zV)(k:zV->Hp->Prop):Prop:=
 ∃b mo since seen last,it=.pointer (some ⟨b,0,none⟩)/\(b,Obj.mapIter mo since seen last)∈H/\
  match mo with
  |none=>k (.tuple #[.bool false]) H
  |some m=>∃es clock,(m,Obj.map es clock)∈H/\(∀e∈es.toList,e.born<since/\e.born<last)/\
   (∀e∈es.toList,e.born∉seen->∃H',c8 b (.mapIter (some m) since seen last) (.mapIter (some m) since (seen.push e.born) clock) H H'/\k (.tuple #[.bool true,e.key,e.val]) H')/\
   ((∀e∈es.toList,e.born∈seen)->k (.tuple #[.bool false]) H)
def Pc(H:Hp)(it:zV)(k:zV->Prop):Prop:=
 ∃b m since seen stamp clock es e,it=.pointer (some ⟨b,0,none⟩)/\(b,Obj.mapIter (some m) since seen clock)∈H/\seen.back?=some stamp/\(m,Obj.map es clock)∈H/\es.find? (·.born==stamp)=some e/\k (.tuple #[e.key,e.val])
def Xv(x y:zV)(k:zV->Prop):Prop:=∃kd a b,x=.int kd a/\y=.int kd b/\k (.int kd (if b>a then b else a))
def aaI(x y:zV)(k:zV->Prop):Prop:=∃kd a b,x=.int kd a/\y=.int kd b/\k (.int kd (if b<a then b else a))
def k6(H:Hp)(x:zV)(k:zV->Prop):Prop:=
 ∃base n c,∃bs:List UInt8,x=.slice base n c/\Cells H base n ((bs.map λb=>Value.int .u8 b.toNat).toArray)/\bs.length=n/\k (.string ⟨bs.toArray⟩)
def Yz(x i:zV)(k:zV->Prop):Prop:=∃s kd j b,x=.string s/\i=.int kd j/\0<=j/\s[j.toNat]? =some b/\k (.int .u8 b.toNat)
def aaJ(x:zV)(k:zV->Prop):Prop:=∃s,x=.string s/\k (.int .i64 s.size)
def plainKey:TypeDesc->Bool
 | .int _| .string| .bool=>true
 |_=>false
def cP:TypeDesc->Bool
 | .struct _| .array _ _=>true
 |_=>false
end Go.Sx
namespace Go.Sx
open Go
section
variable {P:Program} {g:Gh} {H:Hp} {K:zV->Hp->Prop} {KP:List PanicEntry->Hp->Prop}
theorem dU{t:TypeId}{i:TypeInfo}{z:zV}(hi:P.info? t=some i)(hz:i.zero=some z)(w:World):(zeroValue t).run P w=.ok z w:=by
 simp[zeroValue,typeInfo,hi,hz]
theorem oW{t:TypeId}{d:TypeDesc}(hd:P.underlying t=some d)(w:World):(isAgg t).run P w=.ok (cP d) w:=by
 simp only[isAgg,Sem.run_bind,run_underlying hd,Result.andThen_ok];cases d<;>rfl
theorem run_sizeOf{t:TypeId}{i:TypeInfo}(hi:P.info? t=some i)(w:World):(sizeOf t).run P w=.ok i.size w:=by
 simp[sizeOf,typeInfo,hi]
theorem Ld.run{p:zV}{k:zV->Prop}(h:Ld H p k){w:World}(hw:Own g H w){t:TypeId}{d:TypeDesc}(hd:P.underlying t=some d)(ha:cP d=false):
  ∃v,(Instr.loadAt t p).run P w=.ok v w/\k v:=by
 obtain⟨b,off,c,T,fz,v,rfl,hm,hc,hk⟩:=h;refine⟨v,?_,hk⟩;have:=hw.cell hm off;rw[hc]at this;simp only[Instr.loadAt,Instr.sureAddr,loadVar,Sem.run_bind,Sem.run_pure,Result.andThen_ok,oW hd,ha,Sem.run_ite,xaO,xa2,run_load,this]
theorem az.run{n:Nat}{p:zV}{k:zV->Prop}(h:az n H p k){w:World}(hw:Own g H w){t:TypeId}{d:TypeDesc}(hd:P.underlying t=some d)(ha:cP d=true)
 {i:TypeInfo}(hi:P.info? t=some i)(hn:i.size=n):
  ∃v,(Instr.loadAt t p).run P w=.ok v w/\k v:=by
 obtain⟨b,off,c,T,fz,rfl,hm,hs,hk⟩:=h;refine⟨_,?_,hk⟩;simp only[Instr.loadAt,Instr.sureAddr,loadVar,Sem.run_bind,Sem.run_pure,Result.andThen_ok,oW hd,ha,Sem.run_ite,xa7,run_sizeOf hi,hn,kG hw hm off n hs]
theorem St.run{n:Nat}{p x:zV}{k:Hp->Prop}(h:St n H p x k){w:World}(hw:Own g H w){t:TypeId}{i:TypeInfo}(hi:P.info? t=some i)(hn:i.size=n):
  ∃w' H',(Instr.storeAt t p x).run P w=.ok () w'/\Own g H' w'/\k H':=by
 obtain⟨b,off,c,T,H',rfl,hx,hs,hv,hu,hk⟩:=h;obtain⟨w',hr,ho⟩:=gm (P:=P) off x.cells.toList 0 c H H' w hw (by simpa using hu) hv zP;refine⟨w',H',?_,ho,hk⟩;simp only[Instr.storeAt,Instr.sureAddr,storeVar,Sem.run_bind,Sem.run_pure,Result.andThen_ok,run_sizeOf hi,hn,hx,ne_eq,not_true,xa2,hr]
theorem Ru{op:BinOp}{k:IntKind}{a b:Int}{v:zV}{t:TypeId}(h:mS op k a b=some v)(w:World)(hs:op≠.shl/\op≠.shr):
  (binOp op t (.int k a) (.int k b)).run P w=.ok v w:=by
 cases op<;>simp[mS]at h hs<;>try subst h
 case quo=> 
  obtain⟨h0,rfl⟩:=h;simp[binOp,Op.intDiv,h0]
 case rem=>
  obtain⟨h0,rfl⟩:=h;simp[binOp,Op.intDiv,h0]
 all_goals first
  |simp[binOp,Op.intArith];done
  |simp[binOp,Op.intCmp];done
  |(simp only[binOp_and,binOp_or,binOp_xor,binOp_andNot,intBits_and,intBits_or,intBits_xor,intBits_andNot];rfl)
theorem ju{t:TypeId}{x y:zV}{r:Result Bool}{w:World}(h:∀d,(Op.equalIn (d+1) t x y).run P w=r):(Op.equal t x y).run P w=r:=h 9999
theorem run_eql_bool{t:TypeId}(hd:P.underlying t=some .bool)(a b:Bool)(w:World):(Op.equal t (.bool a) (.bool b)).run P w=.ok (a==b) w:=
 ju λd=>by simp[Op.equalIn,run_underlying hd]
theorem Cv{t e:TypeId}(hd:P.underlying t=some (.pointer e))(a b:Option Addr)(hab:a.isNone\/b.isNone)(w:World):(Op.equal t (.pointer a) (.pointer b)).run P w=.ok (a.isNone&&b.isNone) w:=
 ju λd=>by cases a<;>cases b<;>simp at hab<;>simp[Op.equalIn,run_underlying hd]
theorem xY{t e:TypeId}(hd:P.underlying t=some (.slice e))(a b:Option Addr)(n c n' c':Nat)(hab:a.isNone\/b.isNone)(w:World):(Op.equal t (.slice a n c) (.slice b n' c')).run P w=.ok (a.isNone&&b.isNone) w:=
 ju λd=>by cases a<;>cases b<;>simp at hab<;>simp[Op.equalIn,run_underlying hd]
theorem Cw{t e f:TypeId}(hd:P.underlying t=some (.map e f))(a b:Option Nat)(hab:a.isNone\/b.isNone)(w:World):(Op.equal t (.map a) (.map b)).run P w=.ok (a.isNone&&b.isNone) w:=
 ju λd=>by cases a<;>cases b<;>simp at hab<;>simp[Op.equalIn,run_underlying hd]
theorem Ts{kd:BK}{op:BinOp}{x y v:zV}{t:TypeId}{d:TypeDesc}(hd:P.underlying t=some d)(hk:Bz d=kd)(h:g8 kd op x y=some v)(w:World):
  (binOp op t x y).run P w=.ok v w:=by
 cases x<;>simp only[g8]at h<;>try (simp at h;done)
 case int k a=>
  cases y<;>simp only at h<;>try (simp at h;done)
  rename_i k' b;by_cases hs:op=.shl
  ·subst hs;simp only at h;split at h
   ·simp at h
   simp only[xar]at h;subst h;rename_i hb;simp[binOp,Op.shift,hb]
  by_cases hs':op=.shr
  ·subst hs';simp only at h;split at h
   ·simp at h
   simp only[xar]at h;subst h;rename_i hb;simp[binOp,Op.shift,hb]
  have h2:(if k=k' then mS op k a b else none)=some v:=by
   cases op<;>first|exact h|exact absurd rfl hs|exact absurd rfl hs'
  split at h2
  ·rename_i e;subst e;exact Ru h2 w ⟨hs,hs'⟩
  simp at h2
 case bool a=>
  split at h<;>simp only[xar,reduceCtorEq]at h;all_goals
   subst h;have:d=.bool:=by cases d<;>simp_all[Bz]
   subst this;simp[binOp,run_eql_bool hd]
 case string a=>
  split at h<;>simp only[xar,reduceCtorEq]at h;all_goals
   subst h;first|rfl|(simp only[binOp,Op.stringOp];rfl)
 case pointer a=>
  split at h<;>try (simp at h;done)
  all_goals
   have:∃e,d=.pointer e:=by cases d<;>simp_all[Bz]
   obtain⟨e,rfl⟩:=this;split at h<;>simp only[xar,reduceCtorEq]at h;subst h;rename_i bb hab;simp[binOp,Cv hd _ _ hab]
 case slice a n c=>
  split at h<;>try (simp at h;done)
  all_goals
   have:∃e,d=.slice e:=by cases d<;>simp_all[Bz]
   obtain⟨e,rfl⟩:=this;split at h<;>simp only[xar,reduceCtorEq]at h;subst h;rename_i bb _ _ hab;simp[binOp,xY hd _ _ _ _ _ _ hab]
 case map a=>
  split at h<;>try (simp at h;done)
  all_goals
   have:∃e f,d=.map e f:=by cases d<;>simp_all[Bz]
   obtain⟨e,f,rfl⟩:=this;split at h<;>simp only[xar,reduceCtorEq]at h;subst h;rename_i bb hab;simp[binOp,Cw hd _ _ hab]
theorem Gz{kd:BK}{op:BinOp}{x y v:zV}{t:TypeId}{ox oy:Operand}(h:g8 kd op x y=some v):eqGuard op t ox oy x y=pure ():=by
 cases x<;>simp[g8]at h<;>cases op<;>rfl
theorem ae.run{kd:BK}{op:BinOp}{x y:zV}{k:zV->Prop}(h:ae kd op x y k)(w:World){t:TypeId}{d:TypeDesc}{ox oy:Operand}(hd:P.underlying t=some d)(hk:Bz d=kd):
  ∃v,(do eqGuard op t ox oy x y;binOp op t x y:Sem zV).run P w=.ok v w/\k v:=by
 obtain⟨v,hv,hkv⟩:=h;refine⟨v,?_,hkv⟩;rw[Sem.run_bind,Gz hv];simp only[Sem.run_pure,Result.andThen_ok];exact Ts hd hk hv w
theorem Un.run{op:UnOp}{x:zV}{k:zV->Prop}(h:Un op x k)(w:World):∃v,(Op.unary op x).run P w=.ok v w/\k v:=by
 obtain⟨v,hv,hk⟩:=h;refine⟨v,?_,hk⟩;cases op<;>cases x<;>simp[unV]at hv<;>subst hv;all_goals first|(simp[Op.unary,Op.intArith];done)|rfl
theorem br.run{kd:IntKind}{x:zV}{k:zV->Prop}(h:br kd x k)(w:World){src dst:TypeId}{ds dd:TypeDesc}(hs:P.underlying src=some ds)(hd:P.underlying dst=some dd)(hk:dd=.int kd):
  ∃v,(convert src dst x).run P w=.ok v w/\k v:=by
 obtain⟨j,n,rfl,hkv⟩:=h;subst hk;refine⟨_,?_,hkv⟩;simp only[convert,Sem.run_bind,run_underlying hs,run_underlying hd,Result.andThen_ok];cases ds<;>rfl
theorem ai.run{off:Nat}{x:zV}{k:zV->Prop}(h:ai off x k)(w:World){s:TypeId}{fs:Array Field}{f:Nat}{fl:Field}{i:TypeInfo}(hs:P.underlying s=some (.struct fs))(hf:fs[f]? =some fl)
 (hi:P.info? fl.type=some i)(h0:i.size≠0)(ho:fl.offset=off):∃v,(Instr.fieldAt s x f).run P w=.ok v w/\k v:=by
 obtain⟨b,o,rfl,hk⟩:=h;refine⟨_,?_,hk⟩;subst ho;simp[Instr.fieldAt,run_underlying hs,hf,Instr.sureAddr,fieldPlace,run_sizeOf hi,h0,Addr.add_lit]
theorem Az.run{off:Nat}{x:zV}{k:zV->Prop}(h:Az off x k)(w:World){s:TypeId}{fs:Array Field}{f:Nat}{fl:Field}{d:TypeDesc}(hs:P.underlying s=some (.struct fs))(hf:fs[f]? =some fl)
 (hd:P.underlying fl.type=some d)(ha:cP d=false)(ho:fl.offset=off):∃v,(Instr.field s x f).run P w=.ok v w/\k v:=by
 obtain⟨cs,v,rfl,hc,hk⟩:=h;refine⟨v,?_,hk⟩;subst ho;simp[Instr.field,run_underlying hs,hf,asAgg,part,oW hd,ha,hc]
theorem Xx.run{off n:Nat}{x:zV}{k:zV->Prop}(h:Xx off n x k)(w:World){s:TypeId}{fs:Array Field}{f:Nat}{fl:Field}{d:TypeDesc}{i:TypeInfo}(hs:P.underlying s=some (.struct fs))(hf:fs[f]? =some fl)
 (hd:P.underlying fl.type=some d)(ha:cP d=true)(hi:P.info? fl.type=some i)(hn:i.size=n)(ho:fl.offset=off):∃v,(Instr.field s x f).run P w=.ok v w/\k v:=by
 obtain⟨cs,rfl,hk⟩:=h;refine⟨_,?_,hk⟩;subst ho;subst hn;simp[Instr.field,run_underlying hs,hf,asAgg,part,oW hd,ha,run_sizeOf hi]
theorem av.run{size:Nat}{x ix:zV}{k:zV->Prop}(h:av size x ix k)(w:World){t e:TypeId}{i:TypeInfo}(ht:P.underlying t=some (.slice e))(hi:P.info? e=some i)(hn:i.size=size):
  ∃v,(Instr.indexAt t x ix).run P w=.ok v w/\k v:=by
 obtain⟨b,o,n,c,kd,j,rfl,rfl,h0,h1,hk⟩:=h;refine⟨_,?_,hk⟩;subst hn;simp[Instr.indexAt,run_underlying ht,asIntOf,h0,h1,run_sizeOf hi,Addr.add_lit]
theorem iX.run{len size:Nat}{x ix:zV}{k:zV->Prop}(h:iX len size x ix k)(w:World){t e:TypeId}{i:TypeInfo}(ht:P.underlying t=some (.array len e))(hi:P.info? e=some i)(hn:i.size=size):
  ∃v,(Instr.indexAt t x ix).run P w=.ok v w/\k v:=by
 obtain⟨b,o,kd,j,rfl,rfl,h0,h1,hk⟩:=h;refine⟨_,?_,hk⟩;subst hn;simp[Instr.indexAt,run_underlying ht,asIntOf,h0,h1,run_sizeOf hi,Addr.add_lit,Instr.sureAddr]
theorem gx.run{size:Nat}{x:zV}{lo hi:Option zV}{k:zV->Prop}(h:gx size x lo hi k)(w:World){t e:TypeId}{i:TypeInfo}(ht:P.underlying t=some (.slice e))(hi':P.info? e=some i)(hn:i.size=size):
  ∃v,(Instr.sliceAt t x lo hi none).run P w=.ok v w/\k v:=by
 obtain⟨a,n,c,l,hh,rfl,hl,l7,h0,h1,h2,hk⟩:=h;refine⟨_,?_,hk⟩;subst hn;have bl:∀(kk:IntKind) (z:Int) (y:Nat) (cd:BoundsCode),0<=z->z<=y->(Instr.sliceBound (.int kk z) y cd).run P w=.ok z.toNat w:=by
  intro kk z y cd a1 a2;simp[Instr.sliceBound,asIntOf,a1,a2]
 have fO:∀(m l:Nat),(if m=l then a else a.map (·.add (l*i.size)))=(if m=l then a else a.map λx=>x.add (l*i.size)):=λ_ _=>rfl;have e1:l<=((hh.toNat:Nat):Int):=by omega
 cases lo with
 |none=>
  simp only[VU,xar]at hl;subst hl;cases hi with
  |none=>
   simp only[M6,xar]at l7;subst l7;simp[Instr.sliceAt,run_underlying ht,Instr.slice,Instr.sliceBounds,run_sizeOf hi']
  |some v=>
   cases v<;>simp only[M6,reduceCtorEq,xar]at l7;subst l7;simp[Instr.sliceAt,run_underlying ht,Instr.slice,Instr.sliceBounds,run_sizeOf hi',bl _ _ c .sliceAcap zO h2]
 |some vl=>
  cases vl<;>simp only[VU,reduceCtorEq,xar]at hl;subst hl;cases hi with
  |none=>
   simp only[M6,xar]at l7;subst l7;have:=bl ‹_› _ n .sliceB h0 h1;simp[Instr.sliceAt,run_underlying ht,Instr.slice,Instr.sliceBounds,run_sizeOf hi',this]
  |some v=>
   cases v<;>simp only[M6,reduceCtorEq,xar]at l7;subst l7;rename_i k1 n1 k2 n2;have b1:=bl k2 n2 c .sliceAcap zO h2;have b2:=bl k1 n1 n2.toNat .sliceB h0 zO;simp[Instr.sliceAt,run_underlying ht,Instr.slice,Instr.sliceBounds,run_sizeOf hi',b1,b2]
theorem Ext.run{i:Nat}{x:zV}{k:zV->Prop}(h:Ext i x k)(w:World):∃v,(Instr.extract x i).run P w=.ok v w/\k v:=by
 obtain⟨vs,v,rfl,hv,hk⟩:=h;exact⟨v,by simp[Instr.extract,hv],hk⟩
theorem aR.run{x:zV}{k:zV->Prop}(h:aR x k)(w:World){t e ty:TypeId}(ht:P.underlying t=some (.slice e)):∃v,(Builtin.len_ #[t] ty #[x]).run P w=.ok v w/\k v:=by
 obtain⟨a,n,c,rfl,hk⟩:=h;exact⟨_,by simp[Builtin.len_,run_underlying ht,goInt],hk⟩
theorem aY{w:World}(hw:Own g H w){b:Nat}{es:Array MapEntry}{clock:Nat}(hm:(b,Obj.map es clock)∈H):(getObj b).run P w=.ok (.map es clock) w:=by
 have:=hw.has _ hm;simp only at this;simp[getObj,Sem.run,this]
theorem BG.run{x:zV}{k:zV->Prop}(h:BG H x k){w:World}(hw:Own g H w){t e e' ty:TypeId}(ht:P.underlying t=some (.map e e')):∃v,(Builtin.len_ #[t] ty #[x]).run P w=.ok v w/\k v:=by
 obtain⟨m,rfl,⟨rfl,hk⟩|⟨b,es,clock,rfl,hm,hk⟩⟩:=h
 ·exact⟨_,by simp[Builtin.len_,run_underlying ht,goInt],hk⟩
 exact⟨_,by simp[Builtin.len_,run_underlying ht,goInt,aY hw hm],hk⟩
end
end Go.Sx
namespace Go.Sx
open Go
section
variable {P:Program} {g:Gh} {H:Hp} {K:zV->Hp->Prop} {KP:List PanicEntry->Hp->Prop}
theorem Cells.run{w:World}(hw:Own g H w){base:Option Addr}{size n cap:Nat}{cs:Array zV}(h:Cells H base (n*size) cs):
  (Builtin.firstCells size n (.slice base n cap)).run P w=.ok cs w:=by
 cases base with
 |none=>simp only[Cells]at h;subst h;simp[Builtin.firstCells]
 |some a=>
  rcases h with⟨hn,rfl⟩|⟨h0,c,T,fz,hm,hs,rfl⟩
  ·simp only[Builtin.firstCells,hn];rfl
  obtain⟨b,o,sp⟩:=a;simp only at h0 hm hs;subst h0;simp only[Builtin.firstCells,kG hw hm _ _ hs]
theorem App.run{elem size bytes:Nat}{zero:zV}{s x:zV}{k:zV->Hp->Prop}(h:App P elem size bytes zero H s x k){w:World}(hw:Own g H w){t t' ty:TypeId}{i:TypeInfo}
 (ht:P.underlying t=some (.slice elem))(ht':∃e,P.underlying t'=some (.slice e))(hi:P.info? elem=some i)(hz:i.zero=some zero)(hn:i.size=size)(hb:i.bytes=bytes):
  ∃v w' H',(Builtin.append_ #[t,t'] ty #[s,x]).run P w=.ok v w'/\Own g H' w'/\k v H':=by
 obtain⟨base,n,cap,xb,m,xc,olds,news,rfl,rfl,hco,hcn,Wj,hso,hone,hfit,hgrow⟩:=h;obtain⟨e',ht'⟩:=ht';subst hn;subst hb;by_cases hc:n+m<=cap
 ·have hk:=hfit hc;have hnew:=Cells.run (P:=P) (cap:=xc) hw hcn;cases base with
  |none=>
   refine⟨_,w,H,?_,hw,hk⟩;simp[Builtin.append_,run_underlying ht,run_underlying ht',run_sizeOf hi,Builtin.lenOf,hc,hnew]
  |some a=>
   obtain⟨c,T,H',h0,hs,hu,hk⟩:=hk;obtain⟨b,o,sp⟩:=a;simp only at h0 hu hs;subst h0;obtain⟨w',hr,ho⟩:=gm (P:=P) (o+n*i.size) news.toList 0 c H H' w hw (by simpa using hu) hone zP;refine⟨_,w',H',?_,ho,hk⟩;simp[Builtin.append_,run_underlying ht,run_underlying ht',run_sizeOf hi,Builtin.lenOf,hc,hnew,Addr.add_lit,hr]
 obtain⟨ag6,h63,hk⟩:=hgrow zO;have nJ:=hw.drew;have hnew:=Cells.run (P:=P) (cap:=xc) nJ hcn;have hold:=Cells.run (P:=P) (cap:=cap) nJ hco;have EG:Builtin.nextslicecap (n+m) cap*i.bytes<=281474976710656:=growslice_fits zO ag6;have WS:¬(281474976710656<Builtin.nextslicecap (n+m) cap*i.bytes):=by omega
 have ahI:¬(9223372036854775807<((n:Int)+(m:Int))):=by omega
 obtain⟨nH,wv,hkk⟩:=hk (grownCap w (n+m) cap elem) (by simp only[grownCap,Question.cut];omega) _ nJ.fresh;refine⟨_,_,_,?_,wv _ _ (nJ.alloc _),hkk⟩;simp[Builtin.append_,run_underlying ht,run_underlying ht',sizeOf,typeInfo,zeroValue,hi,hz,Builtin.lenOf,hc,ahI,WS,Question.forced,hnew,hold,newRow,grownCap]
theorem cU.run{elem size bytes:Nat}{zero:zV}{l c:zV}{k:zV->Hp->Prop}(h:cU elem size bytes zero H l c k){w:World}(hw:Own g H w){t:TypeId}{i:TypeInfo}
 (ht:P.underlying t=some (.slice elem))(hi:P.info? elem=some i)(hz:i.zero=some zero)(hn:i.size=size)(hb:i.bytes=bytes):
  ∃v w' H',(Instr.makeSlice t l c).run P w=.ok v w'/\Own g H' w'/\k v H':=by
 obtain⟨kl,kc,ln,cn,rfl,rfl,hlc,cI,hby,hk⟩:=h;subst hn;subst hb;refine⟨_,_,_,?_,hw.alloc _,hk _ hw.fresh⟩;have e1:IntKind.i64.wrap (ln:Int)=ln:=IntWalk.i64_in _ zO;have e2:IntKind.i64.wrap (cn:Int)=cn:=IntWalk.i64_in _ zO;have e3:¬((i.bytes:Int)*(cn:Int)>281474976710656):=by
  have:((cn*i.bytes:Nat):Int)<=281474976710656:=by omega
  rw[Int.mul_comm];push_cast at this;omega
 have e4:¬((cn:Int)<ln):=by omega
 by_cases h0:cn*i.size=0
 ·simp[Instr.makeSlice,run_underlying ht,asInt,asIntOf,typeInfo,hi,e1,e2,e3,e4,sizeOf,zeroValue,hz,newRow,madeCells,h0,show¬((cn:Int)<0)from by omega,show¬((ln:Int)<0)from by omega];have:Array.range 0=#[]:=rfl;simp[this]
 simp[Instr.makeSlice,run_underlying ht,asInt,asIntOf,typeInfo,hi,e1,e2,e3,e4,sizeOf,zeroValue,hz,newRow,madeCells,h0,show¬((cn:Int)<0)from by omega,show¬((ln:Int)<0)from by omega]
theorem Ls.run{m:zV}{es:Array MapEntry}(h:Ls H m es){w:World}(hw:Own g H w):
  (m=.map none/\es=#[])\/∃b clock,m=.map (some b)/\(getObj b).run P w=.ok (.map es clock) w:=by
 rcases h with h|⟨b,clock,hm,hb⟩
 ·exact .inl h
 exact .inr ⟨b,clock,hm,aY hw hb⟩
theorem run_checkKey(e:Bool){t:TypeId}{d:TypeDesc}(hd:P.underlying t=some d)(hp:plainKey d=true)(v:zV)(w:World):(Instr.checkKey e 10000 t v).run P w=.ok () w:=by
 have:∀n,(Instr.checkKey e (n+1) t v).run P w=.ok () w:=λn=>by
  simp only[Instr.checkKey,Sem.run_bind,run_underlying hd,Result.andThen_ok];cases d<;>first|(simp[plainKey]at hp;done)|rfl
 exact this 9999
theorem run_findKey{t:TypeId}{d:TypeDesc}(hd:P.underlying t=some d){key:zV}{es:List MapEntry}{r:Option (Nat×zV)}(h:Instr.findNow d key es 0=some r)(w:World):
  (Instr.findKey t key es).run P w=.ok r w:=by
 simp[Instr.findKey,run_underlying hd,h]
theorem c6.run{kd:TypeDesc}{zero:zV}{ok:Bool}{m key:zV}{k:zV->Prop}(h:c6 kd zero ok H m key k){w:World}(hw:Own g H w){t kt e:TypeId}{i:TypeInfo}
 (ht:P.underlying t=some (.map kt e))(hk:P.underlying kt=some kd)(hp:plainKey kd=true)(hi:P.info? e=some i)(hz:i.zero=some zero):
  ∃v,(Instr.lookup t m key ok).run P w=.ok v w/\k v:=by
 obtain⟨es,r,hm,hf,hkv⟩:=h;have fE:=λb=>run_checkKey (P:=P) b hk hp key w;have pD:=run_findKey (P:=P) hk hf w;refine⟨_,?_,hkv⟩;rcases hm.run (P:=P) hw with⟨rfl,rfl⟩|⟨b,clock,rfl,hg⟩
 ·cases r with
  |none=>cases ok<;>simp[Instr.lookup,run_underlying ht,fE,pD,dU hi hz]
  |some x=>obtain⟨j,v⟩:=x;cases ok<;>simp[Instr.lookup,run_underlying ht,fE,pD]
 ·cases r with
  |none=>cases ok<;>simp[Instr.lookup,run_underlying ht,fE,pD,dU hi hz,hg]
  |some x=>obtain⟨j,v⟩:=x;cases ok<;>simp[Instr.lookup,run_underlying ht,fE,pD,hg]
theorem bW{w:World}(hw:Own g H w){b:Nat}{es:Array MapEntry}{clock:Nat}(es':Array MapEntry)(clock':Nat){H':Hp}(hu:c8 b (.map es clock) (.map es' clock') H H'):
  ∃w',(setObj b (.map es' clock')).run P w=.ok () w'/\Own g H' w':=by
 have hm:=hw.has _ hu.mem;simp only at hm;refine⟨{w with heap:=w.heap.setIfInBounds b (.map es' clock')},by simp[setObj,Sem.run,hm],?_⟩;have hlt:=hw.lt hu.mem;refine hw.bK hu rfl rfl rfl ?_ ?_
 ·simp only at hlt;simp[hlt]
 intro c hc;rw[xcp,xab (λe=>hc (Eq.symm e))]
theorem aW.run{kd:TypeDesc}{m key val:zV}{k:Hp->Prop}(h:aW kd H m key val k){w:World}(hw:Own g H w){t kt e:TypeId}
 (ht:P.underlying t=some (.map kt e))(hk:P.underlying kt=some kd)(hp:plainKey kd=true):
  ∃w' H',(Instr.mapUpdate t m key val).run P w=.ok () w'/\Own g H' w'/\k H':=by
 obtain⟨b,es,clock,r,rfl,hf,hr⟩:=h;have fE:=λb=>run_checkKey (P:=P) b hk hp key w;have pD:=run_findKey (P:=P) hk hf w;cases r with
 |none=>
  obtain⟨H',hu,hkk⟩:=hr;obtain⟨w',hs,ho⟩:=bW (P:=P) hw _ _ hu;refine⟨w',H',?_,ho,hkk⟩;simp[Instr.mapUpdate,run_underlying ht,aY hw hu.mem,fE,pD,hs]
 |some x=>
  obtain⟨j,v⟩:=x;obtain⟨hsame,hj,H',hu,hkk⟩:=hr;obtain⟨w',hs,ho⟩:=bW (P:=P) hw _ _ hu;refine⟨w',H',?_,ho,hkk⟩;have hsb:=hsame es[j] (xbA hj);simp[Instr.mapUpdate,run_underlying ht,aY hw hu.mem,fE,pD,hj,Instr.keyThatStays,hsb,hs]
theorem oJ.run{kd:TypeDesc}{m key:zV}{k:Hp->Prop}(h:oJ kd H m key k){w:World}(hw:Own g H w){t kt e ty:TypeId}{as:Array TypeId}(has:as[0]? =some t)
 (ht:P.underlying t=some (.map kt e))(hk:P.underlying kt=some kd)(hp:plainKey kd=true):
  ∃w' H',(Builtin.delete_ as ty #[m,key]).run P w=.ok (.tuple #[]) w'/\Own g H' w'/\k H':=by
 have fE:=λb=>run_checkKey (P:=P) b hk hp key w;rcases h with⟨rfl,hkk⟩|⟨b,es,clock,r,rfl,hf,hr⟩
 ·exact⟨w,H,by simp[Builtin.delete_,has,run_underlying ht,fE],hw,hkk⟩
 have pD:=run_findKey (P:=P) hk hf w;cases r with
 |none=>
  obtain⟨hm,hkk⟩:=hr;have hu:∃H',c8 b (.map es clock) (.map es clock) H H'/\H'=H:=by
   clear hkk hf pD hw;induction H with
   |nil=>simp at hm
   |cons x R ih=>
    rcases xak.1 hm with e|hm'
    ·subst e;exact⟨_,.head _,rfl⟩
    obtain⟨H',u,rfl⟩:=ih hm';exact⟨_,.tail u,rfl⟩
  obtain⟨H',hu,rfl⟩:=hu;obtain⟨w',hs,ho⟩:=bW (P:=P) hw _ _ hu;exact⟨w',_,by simp[Builtin.delete_,has,run_underlying ht,aY hw hm,fE,pD,hs],ho,hkk⟩
 |some x=>
  obtain⟨j,v⟩:=x;obtain⟨H',hu,hkk⟩:=hr;obtain⟨w',hs,ho⟩:=bW (P:=P) hw _ _ hu;exact⟨w',_,by simp[Builtin.delete_,has,run_underlying ht,aY hw hu.mem,fE,pD,hs],ho,hkk⟩
theorem DV{kd:TypeDesc}(h:cP kd=true)(key:zV)(es:List MapEntry)(i:Nat):Instr.findNow kd key es i=if es=[]then some none else none:=by
 cases es with
 |nil=>rfl
 |cons e r=>
  simp only[Instr.findNow,reduceCtorEq,xa2];cases kd<;>simp[cP]at h<;>rfl
theorem nT{kt:TypeId}{key:zV}:∀{es:List MapEntry} {i:Nat} {r:Option (Nat×zV)},nu P kt key es i r->∀w,(Instr.findAsking kt key es i).run P w=.ok r w
 | [],i,r,h,w=>by simp only[nu]at h;subst h;rfl
 |e::es,i,r,h,w=>by
  obtain⟨b,he,h1,h2⟩:=h;simp only[Instr.findAsking,Sem.run_bind,he w,Result.andThen_ok];cases b
  ·simp only[xaO,xa2];exact nT (h2 rfl) w
  simp only[xa7,h1 rfl,Sem.run_pure]
theorem gM{t:TypeId}{d:TypeDesc}(hd:P.underlying t=some d)(ha:cP d=true){key:zV}{es:List MapEntry}{r:Option (Nat×zV)}(h:nu P t key es 0 r)(w:World):
  (Instr.findKey t key es).run P w=.ok r w:=by
 simp only[Instr.findKey,Sem.run_bind,run_underlying hd,Result.andThen_ok,DV ha];cases es with
 |nil=>simp only[nu]at h;subst h;simp
 |cons e es=>simp only[reduceCtorEq,xa2];exact nT h w
theorem j7.run{zero:zV}{ok:Bool}{m key:zV}{k:zV->Prop}{t kt e:TypeId}{kd:TypeDesc}(h:j7 P kt zero ok H m key k){w:World}(hw:Own g H w){i:TypeInfo}
 (ht:P.underlying t=some (.map kt e))(hk:P.underlying kt=some kd)(hp:cP kd=true)(hi:P.info? e=some i)(hz:i.zero=some zero):
  ∃v,(Instr.lookup t m key ok).run P w=.ok v w/\k v:=by
 obtain⟨es,r,hm,hc,hf,hkv⟩:=h;have fE:=λb=>hc b w;have pD:=gM (P:=P) hk hp hf w;refine⟨_,?_,hkv⟩;rcases hm.run (P:=P) hw with⟨rfl,rfl⟩|⟨b,clock,rfl,hg⟩
 ·cases r with
  |none=>cases ok<;>simp[Instr.lookup,run_underlying ht,fE,pD,dU hi hz]
  |some x=>obtain⟨j,v⟩:=x;cases ok<;>simp[Instr.lookup,run_underlying ht,fE,pD]
 ·cases r with
  |none=>cases ok<;>simp[Instr.lookup,run_underlying ht,fE,pD,dU hi hz,hg]
  |some x=>obtain⟨j,v⟩:=x;cases ok<;>simp[Instr.lookup,run_underlying ht,fE,pD,hg]
theorem iJ.run{m key val:zV}{k:Hp->Prop}{t kt e:TypeId}{kd:TypeDesc}(h:iJ P kt H m key val k){w:World}(hw:Own g H w)
 (ht:P.underlying t=some (.map kt e))(hk:P.underlying kt=some kd)(hp:cP kd=true):
  ∃w' H',(Instr.mapUpdate t m key val).run P w=.ok () w'/\Own g H' w'/\k H':=by
 obtain⟨b,es,clock,r,rfl,hc,hf,hr⟩:=h;have fE:=λb=>hc b w;have pD:=gM (P:=P) hk hp hf w;cases r with
 |none=>
  obtain⟨H',hu,hkk⟩:=hr;obtain⟨w',hs,ho⟩:=bW (P:=P) hw _ _ hu;refine⟨w',H',?_,ho,hkk⟩;simp[Instr.mapUpdate,run_underlying ht,aY hw hu.mem,fE,pD,hs]
 |some x=>
  obtain⟨j,v⟩:=x;obtain⟨hsame,hj,H',hu,hkk⟩:=hr;obtain⟨w',hs,ho⟩:=bW (P:=P) hw _ _ hu;refine⟨w',H',?_,ho,hkk⟩;have hsb:=hsame es[j] (xbA hj);simp[Instr.mapUpdate,run_underlying ht,aY hw hu.mem,fE,pD,hj,Instr.keyThatStays,hsb,hs]
theorem c8.same{b:Nat}{o:Obj}{H:Hp}(hm:(b,o)∈H):c8 b o o H H:=by
 induction H with
 |nil=>simp at hm
 |cons x R ih=>
  rcases xak.1 hm with e|hm'
  ·subst e;exact .head _
  exact .tail (ih hm')
theorem r7.run{m key:zV}{k:Hp->Prop}{t kt e ty:TypeId}{kd:TypeDesc}{as:Array TypeId}(h:r7 P kt H m key k){w:World}(hw:Own g H w)(has:as[0]? =some t)
 (ht:P.underlying t=some (.map kt e))(hk:P.underlying kt=some kd)(hp:cP kd=true):
  ∃w' H',(Builtin.delete_ as ty #[m,key]).run P w=.ok (.tuple #[]) w'/\Own g H' w'/\k H':=by
 obtain⟨hc,h⟩:=h;have fE:=λb=>hc b w;rcases h with⟨rfl,hkk⟩|⟨b,es,clock,r,rfl,hf,hr⟩
 ·exact⟨w,H,by simp[Builtin.delete_,has,run_underlying ht,fE],hw,hkk⟩
 have pD:=gM (P:=P) hk hp hf w;cases r with
 |none=>
  obtain⟨hm,hkk⟩:=hr;obtain⟨w',hs,ho⟩:=bW (P:=P) hw _ _ (c8.same hm);exact⟨w',_,by simp[Builtin.delete_,has,run_underlying ht,aY hw hm,fE,pD,hs],ho,hkk⟩
 |some x=>
  obtain⟨j,v⟩:=x;obtain⟨H',hu,hkk⟩:=hr;obtain⟨w',hs,ho⟩:=bW (P:=P) hw _ _ hu;exact⟨w',_,by simp[Builtin.delete_,has,run_underlying ht,aY hw hu.mem,fE,pD,hs],ho,hkk⟩
theorem Rng.run{x:zV}{k:zV->Hp->Prop}(h:Rng H x k){w:World}(hw:Own g H w){t kt e:TypeId}(ht:P.underlying t=some (.map kt e)):
  ∃v w' H',(Instr.range t x).run P w=.ok v w'/\Own g H' w'/\k v H':=by
 rcases h with⟨rfl,hk⟩|⟨m,es,clock,rfl,hm,hk⟩
 ·refine⟨_,_,_,?_,hw.alloc _,hk _ hw.fresh⟩;simp[Instr.range,run_underlying ht]
 refine⟨_,_,_,?_,hw.alloc _,hk _ hw.fresh⟩;simp[Instr.range,run_underlying ht,aY hw hm]
theorem ng{w:World}(hw:Own g H w){b:Nat}{mo:Option Nat}{since last:Nat}{seen:Array Nat}(hm:(b,Obj.mapIter mo since seen last)∈H):(getObj b).run P w=.ok (.mapIter mo since seen last) w:=by
 have:=hw.has _ hm;simp only at this;simp[getObj,Sem.run,this]
theorem um{w:World}(hw:Own g H w){b:Nat}{mo mo':Option Nat}{since last since' last':Nat}{seen seen':Array Nat}{H':Hp}(hu:c8 b (.mapIter mo since seen last) (.mapIter mo' since' seen' last') H H'):
  ∃w',(setObj b (.mapIter mo' since' seen' last')).run P w=.ok () w'/\Own g H' w':=by
 have hm:=hw.has _ hu.mem;simp only at hm;refine⟨{w with heap:=w.heap.setIfInBounds b (.mapIter mo' since' seen' last')},by simp[setObj,Sem.run,hm],?_⟩;have hlt:=hw.lt hu.mem;refine hw.bK hu rfl rfl rfl ?_ ?_
 ·simp only at hlt;simp[hlt]
 intro c hc;rw[xcp,xab (λe=>hc (Eq.symm e))]
theorem Pc.run{it:zV}{k:zV->Prop}(h:Pc H it k){w:World}(hw:Own g H w):∃v,(Instr.entry it).run P w=.ok v w/\k v:=by
 obtain⟨b,m,since,seen,stamp,clock,es,e,rfl,hb,hs,hm,hf,hk⟩:=h;refine⟨_,?_,hk⟩;simp[Instr.entry,ng (P:=P) hw hb,hs,aY (P:=P) hw hm,hf]
theorem uo(n:Nat)(hn:0<n){w:World}:∃i w',(choose (.mapNext n)).run P w=.ok i w'/\i<n/\(w'=w\/w'=w.drew):=by
 by_cases h:n<=1
 ·exact⟨0,w,by simp[choose,Sem.run,Question.forced,h],hn,.inl rfl⟩
 exact⟨_,_,by simp only[choose,Sem.run,Question.forced,h,xdn,xaO,xa2];rfl,xbB _ hn,.inr rfl⟩
theorem Nxt.run{it:zV}{k:zV->Hp->Prop}(h:Nxt H it k){w:World}(hw:Own g H w){ty:TypeId}:
  ∃v w' H',(Instr.next it false ty).run P w=.ok v w'/\Own g H' w'/\k v H':=by
 obtain⟨b,mo,since,seen,last,rfl,hb,h⟩:=h;have hgi:=ng (P:=P) hw hb;cases mo with
 |none=>exact⟨_,w,H,by simp[Instr.next,hgi],hw,h⟩
 |some m=>
  obtain⟨es,clock,hm,Sf,DA,acI⟩:=h;have hgm:=aY (P:=P) hw hm;have acT:(!seen.isEmpty&& !es.isEmpty&&es.all (λe=>decide (e.born≥last)))=false:=by
   cases he:es.isEmpty
   ·have hne:es≠#[]:=by intro e;rw[e]at he;simp at he
    have:es.all (λe=>decide (e.born≥last))=false:=by
     rw[<-xel,Array.all_eq_true];intro aJ;have h0:0<es.size:=Array.size_pos_iff.2 hne;have:=aJ 0 h0;have h2:=(Sf es[0] zI).2;simp only[ge_iff_le,xaJ]at this;omega
    rw[this];simp
   simp
  have hold:((es.filter λe=> !seen.contains e.born).filter λe=>decide (e.born<since))=es.filter λe=> !seen.contains e.born:=by
   rw[Array.filter_eq_self];intro e he;have:=(xem.1 he).1;exact xam (Sf e (by simpa using this)).1
  have hnew:((es.filter λe=> !seen.contains e.born).filter λe=>decide (e.born≥since))=#[]:=by
   rw[Array.filter_eq_empty_iff];intro e he;have:=(xem.1 he).1;have:=(Sf e (by simpa using this)).1;simp only[ge_iff_le,xaJ];omega
  generalize hleft:(es.filter λe=> !seen.contains e.born)=left at hold hnew;have hrun:∀(rest:Sem zV),(Instr.next (.pointer (some ⟨b,0,none⟩)) false ty).run P w=((choose (.mapNext (((if left.isEmpty then#[none]else#[])++left.map some).size))).run P w).andThen λi w=>(Sem.run P (match((if left.isEmpty then#[none]else#[])++left.map some)[i]? with
    |some (some e)=>do setObj b (.mapIter (some m) since (seen.push e.born) clock);pure (.tuple #[.bool true,e.key,e.val])
    |some none=>pure (.tuple #[.bool false])
    |none=>stuck "Next: no such candidate" :Sem zV) w):=by
   intro _;simp only[Instr.next,Sem.run_bind,hgi,Result.andThen_ok,hgm,acT,xaO,xa2,hleft,hold,hnew,xdE,Sem.run_pure];rfl
  rw[hrun (pure undef)];by_cases Z4:left=#[]
  ·subst Z4;simp only[Array.isEmpty_empty,xa7,xeu,xdE];refine⟨_,w,H,?_,hw,acI λe he=>?_⟩
   ·simp[choose,Sem.run,Question.forced]
   have:=Array.filter_eq_empty_iff.1 hleft e (by simpa using he);simpa using this
  have hne:left.isEmpty=false:=by simpa using Z4
  have hpos:0<left.size:=Array.size_pos_iff.2 Z4;simp only[hne,xaO,xa2,xdc,Array.size_map];obtain⟨i,w1,hc,hi,nJ⟩:=uo (P:=P) (w:=w) left.size hpos;rw[hc];simp only[Result.andThen_ok];have iB:(left.map some)[i]? =some (some left[i]):=by simp[hi]
  simp only[iB];have hmem:left[i]∈es.filter λe=> !seen.contains e.born:=by rw[hleft];exact Array.getElem_mem hi
  obtain⟨Gb,Uq⟩:=xem.1 hmem;obtain⟨H',hu,hk⟩:=DA left[i] (by simpa using Gb) (by simpa using Uq);have Dy:Own g H w1:=by rcases nJ with rfl|rfl;exact hw;exact hw.drew
  obtain⟨w2,hs,yb⟩:=um (P:=P) Dy hu;exact⟨_,w2,H',by simp[hs],yb,hk⟩
end
end Go.Sx
namespace Go.Sx
open Go
section
variable {P:Program} {g:Gh} {H:Hp} {K:zV->Hp->Prop} {KP:List PanicEntry->Hp->Prop}
def aei(x:zV):Option zV:=
 match x with
 | .pointer (some a)=>some (.pointer (some a))
 | .func (.func f) a b=>some (.func (.func f) a b)
 | .iface t v=>some (.iface t v)
 |_=>none
def Nil(x:zV)(k:zV->Prop):Prop:=∃v,aei x=some v/\k v
def PMk(fn:Fn)(a b:List zV)(k:zV->Prop):Prop:=k (.func fn a.toArray b.toArray)
def Build(P:Program)(t:TypeId)(parts:List (Nat×zV))(k:zV->Prop):Prop:=∃v,(∀w,(Instr.build t parts.toArray).run P w=.ok v w)/\k v
def jH(P:Program)(g:Gh)(o:Oper)(ρ:Operand->zV)(H:Hp)(k:zV->Prop):Prop:=
 ∃v,(∀w,Own g H w->(execOp ρ o).run P w=.ok (.value v) w)/\k v
def dH(P:Program)(t:TypeId):Option Nat:=match P.info? t with|some i=>some i.size|none=>none
def fJ(P:Program)(t:TypeId):Option zV:=match P.info? t with|some i=>i.zero|none=>none
def wW(P:Program)(t:TypeId):Option Nat:=match P.info? t with|some i=>some i.bytes|none=>none
def EB(P:Program)(g:Gh)(o:Oper)(ρ:Operand->zV)(H:Hp)(k:zV->Prop):Prop:=
 match o.op with
 | .move x=>k (ρ x)
 | .assign x=>k (ρ x)
 | .pick c a b=>aH (ρ c) (ρ a) (ρ b) k
 | .load t a=>
  match P.underlying t,dH P t with
  |some d,some n=>cond (cP d) (az n H (ρ a) k) (Ld H (ρ a) k)
  |_,_=>False
 | .nilCheck x=>Nil (ρ x) k
 | .binOp op t x y _=>
  match P.underlying t with
  |some d=>match Bz d with
   | .other=>jH P g o ρ H k
   |bk=>ae bk op (ρ x) (ρ y) k
  |none=>False
 | .unOp op _ x=>Un op (ρ x) k
 | .convert s d x=>
  match P.underlying s,P.underlying d with
  |some _,some (.int kd)=>br kd (ρ x) k
  |some (.slice e),some .string=>match P.underlying e with
   |some (.int .u8)=>k6 H (ρ x) k
   |_=>jH P g o ρ H k
  |_,_=>jH P g o ρ H k
 | .index t x i=>
  match P.underlying t with
  |some .string=>Yz (ρ x) (ρ i) k
  |_=>jH P g o ρ H k
 | .fieldAddr s x f=>
  match P.underlying s with
  |some (.struct fs)=>match fs[f]? with
   |some fl=>match dH P fl.type with
    |some (_+1)=>ai fl.offset (ρ x) k
    |_=>False
   |none=>False
  |_=>False
 | .field s x f=>
  match P.underlying s with
  |some (.struct fs)=>match fs[f]? with
   |some fl=>match P.underlying fl.type,dH P fl.type with
    |some d,some n=>cond (cP d) (Xx fl.offset n (ρ x) k) (Az fl.offset (ρ x) k)
    |_,_=>False
   |none=>False
  |_=>False
 | .indexAddr t x i=>
  match P.underlying t with
  |some (.slice e)=>match dH P e with
   |some n=>av n (ρ x) (ρ i) k
   |none=>False
  |some (.array len e)=>match dH P e with
   |some n=>iX len n (ρ x) (ρ i) k
   |none=>False
  |_=>False
 | .slice t x lo hi none=>
  match P.underlying t with
  |some (.slice e)=>match dH P e with
   |some n=>gx n (ρ x) (lo.map ρ) (hi.map ρ) k
   |none=>False
  |_=>jH P g o ρ H k
 | .extract t i=>Ext i (ρ t) k
 | .lookup t m key ok=>
  match P.underlying t with
  |some (.map kt e)=>match P.underlying kt,fJ P e with
   |some kd,some z=>cond (plainKey kd) (c6 kd z ok H (ρ m) (ρ key) k) (cond (cP kd) (j7 P kt z ok H (ρ m) (ρ key) k) (jH P g o ρ H k))
   |_,_=>False
  |_=>False
 | .makeFunc fn a b=>PMk fn (a.toList.map ρ) (b.toList.map ρ) k
 | .build t parts=>Build P t (parts.toList.map λp=>(p.1,ρ p.2)) k
 | .makeInterface t x=>
  match P.underlying t with
  |some (.interface _)=>False
  |some _=>k (.iface t (ρ x))
  |none=>False
 | .call c=>
  match c.callee with
  | .builtin .len=>
   match c.args.toList,c.argTypes.toList with
   | [x],[t]=>match P.underlying t with
    |some (.slice _)=>aR (ρ x) k
    |some (.map _ _)=>BG H (ρ x) k
    |some .string=>aaJ (ρ x) k
    |_=>jH P g o ρ H k
   |_,_=>False
  | .builtin .max=>match c.args.toList,c.argTypes.toList with
   | [x,y],[t,_]=>match P.underlying t with
    |some (.int _)=>Xv (ρ x) (ρ y) k
    |_=>jH P g o ρ H k
   |_,_=>jH P g o ρ H k
  | .builtin .min=>match c.args.toList,c.argTypes.toList with
   | [x,y],[t,_]=>match P.underlying t with
    |some (.int _)=>aaI (ρ x) (ρ y) k
    |_=>jH P g o ρ H k
   |_,_=>jH P g o ρ H k
  | .builtin _=>jH P g o ρ H k
  |_=>False
 |_=>jH P g o ρ H k
theorem mapList{α β:Type}(f:α->β)(a:Array α):(a.toList.map f).toArray=a.map f:=by rw[<-xdR,xdq]
theorem aef{α:Type}{a:Array α}{x:α}(h:a.toList=[x]):a=#[x]:=by cases a;simp_all
theorem Ei{α:Type}{a:Array α}{x y:α}(h:a.toList=[x,y]):a=#[x,y]:=by cases a;simp_all
theorem Ld.fix{p:zV}{k:zV->Prop}(h:Ld H p k):∃v,k v/\Ld H p (· =v):=by
 obtain⟨b,off,c,T,fz,v,h1,h2,h3,hk⟩:=h;exact⟨v,hk,b,off,c,T,fz,v,h1,h2,h3,rfl⟩
theorem az.fix{n:Nat}{p:zV}{k:zV->Prop}(h:az n H p k):∃v,k v/\az n H p (· =v):=by
 obtain⟨b,off,c,T,fz,h1,h2,h3,hk⟩:=h;exact⟨_,hk,b,off,c,T,fz,h1,h2,h3,rfl⟩
theorem c6.fix{kd:TypeDesc}{zero:zV}{ok:Bool}{m key:zV}{k:zV->Prop}(h:c6 kd zero ok H m key k):∃v,k v/\c6 kd zero ok H m key (· =v):=by
 obtain⟨es,r,h1,h2,hk⟩:=h;exact⟨_,hk,es,r,h1,h2,rfl⟩
theorem BG.fix{x:zV}{k:zV->Prop}(h:BG H x k):∃v,k v/\BG H x (· =v):=by
 obtain⟨m,h1,⟨h2,hk⟩|⟨b,es,clock,h2,h3,hk⟩⟩:=h
 ·exact⟨_,hk,m,h1,.inl ⟨h2,rfl⟩⟩
 exact⟨_,hk,m,h1,.inr ⟨b,es,clock,h2,h3,rfl⟩⟩
theorem j7.fix{kt:TypeId}{zero:zV}{ok:Bool}{m key:zV}{k:zV->Prop}(h:j7 P kt zero ok H m key k):∃v,k v/\j7 P kt zero ok H m key (· =v):=by
 obtain⟨es,r,h1,h2,h3,hk⟩:=h;exact⟨_,hk,es,r,h1,h2,h3,rfl⟩
theorem Gw{F:zV->ByteArray->Sem (ForInStep ByteArray)}(hF:∀(b:UInt8) s,F (.int .u8 b.toNat) s=pure (.yield (s.push b))){l:List UInt8}(s:ByteArray)(w:World):
  (forIn (l.map λb=>Value.int .u8 b.toNat) s F).run P w=.ok (⟨s.data++l.toArray⟩:ByteArray) w:=by
 induction l generalizing s with
 |nil=>simp
 |cons b r ih=>
  simp only[xay,xev,hF,Sem.run_bind,Sem.run_pure,Result.andThen_ok];rw[ih];congr 1;simp[ByteArray.push]
theorem k6.run{x:zV}{k:zV->Prop}(h:k6 H x k){w:World}(hw:Own g H w):∃v,(Conv.bytesToString x).run P w=.ok v w/\k v:=by
 obtain⟨base,n,c,bs,rfl,hc,hn,hk⟩:=h;refine⟨_,?_,hk⟩;cases base with
 |none=>
  simp only[Cells]at hc;have:bs=[]:=by simpa using xck Array.size hc
  subst this;rfl
 |some a=>
  have:=Cells.run (P:=P) (size:=1) (cap:=c) hw (by rw[xb4];exact hc);simp only[Builtin.firstCells,xb4]at this;simp only[Conv.bytesToString,Sem.run_bind,this,Result.andThen_ok];rw[List.forIn_toArray,Gw (P:=P) (l:=bs) (λb s=>by simp)];have e:ByteArray.empty.data=#[]:=rfl;simp[e]
theorem k6.fix{x:zV}{k:zV->Prop}(h:k6 H x k):∃v,k v/\k6 H x (· =v):=by
 obtain⟨base,n,c,bs,h1,h2,h3,hk⟩:=h;exact⟨_,hk,base,n,c,bs,h1,h2,h3,rfl⟩
def Reads(P:Program)(g:Gh)(o:Oper)(ρ:Operand->zV)(H:Hp)(k:zV->Prop):Prop:=
 ∃v,k v/\∀w,Own g H w->(execOp ρ o).run P w=.ok (.value v) w
theorem Reads.mk{o:Oper}{ρ:Operand->zV}{k:zV->Prop}{s:Sem zV}(he:execOp ρ o=(do pure (.value (<-s))))(h:∃v,k v/\∀w,Own g H w->s.run P w=.ok v w):Reads P g o ρ H k:=by
 obtain⟨v,hk,hr⟩:=h;refine⟨v,hk,λw hw=>?_⟩;rw[he];simp only[Sem.run_bind,hr w hw,Result.andThen_ok,Sem.run_pure]
theorem jH.reads{o:Oper}{ρ:Operand->zV}{k:zV->Prop}(h:jH P g o ρ H k):Reads P g o ρ H k:=let ⟨v,h1,h2⟩:=h;⟨v,h2,h1⟩
theorem uni{s:Sem zV}{k:zV->Prop}{C:(zV->Prop)->Prop}(agS:∃v,k v/\C (· =v))(hrun:∀(k:zV->Prop),C k->∀w,Own g H w->∃v,s.run P w=.ok v w/\k v):
  ∃v,k v/\∀w,Own g H w->s.run P w=.ok v w:=by
 obtain⟨v,hk,hc⟩:=agS;refine⟨v,hk,λw hw=>?_⟩;obtain⟨u,hr,rfl⟩:=hrun _ hc w hw;exact hr
theorem bF{t:TypeId}{n:Nat}(h:dH P t=some n):∃i,P.info? t=some i/\i.size=n:=by
 unfold dH at h;split at h
 ·rename_i i hi;exact⟨i,hi,by simpa using h⟩
 simp at h
theorem cH{t:TypeId}{z:zV}(h:fJ P t=some z):∃i,P.info? t=some i/\i.zero=some z:=by
 unfold fJ at h;split at h
 ·rename_i i hi;exact⟨i,hi,by simpa using h⟩
 simp at h
theorem lH{o:Oper}{ρ:Operand->zV}{k:zV->Prop}(h:EB P g o ρ H k):Reads P g o ρ H k:=by
 obtain⟨dst,op,type,pos,after,guard⟩:=o;cases op<;>simp only[EB]at h
 case move x=>exact⟨_,h,λw _=>rfl⟩
 case assign x=>exact⟨_,h,λw _=>rfl⟩
 case pick c a b=>
  obtain⟨t,hc,hk⟩:=h;refine⟨_,hk,λw _=>?_⟩;cases t<;>simp[execOp,hc,asBool]
 case load t a=>
  split at h
  ·rename_i d n hd hn;obtain⟨i,hi,hin⟩:=bF hn;refine Reads.mk (s:=Instr.loadAt t (ρ a)) rfl ?_;cases ha:cP d<;>simp only[ha,xap,xag]at h
   ·exact uni h.fix λk hk w hw=>hk.run hw hd ha
   exact uni h.fix λk hk w hw=>hk.run hw hd ha hi hin
  exact h.elim
 case nilCheck x=>
  obtain⟨v,hv,hk⟩:=h;refine⟨v,hk,λw _=>?_⟩;unfold aei at hv;simp only[execOp];split at hv<;>simp only[xar,reduceCtorEq]at hv<;>subst hv<;>simp_all
 case binOp op t x y yt=>
  split at h
  ·rename_i d hd;split at h
   ·exact h.reads
   rename_i hbk;refine Reads.mk (s:=do eqGuard op t x y (ρ x) (ρ y);binOp op t (ρ x) (ρ y)) rfl ?_;obtain⟨v,hv,hk⟩:=h;exact⟨v,hk,λw _=>by
    obtain⟨u,hr,rfl⟩:=ae.run (P:=P) (k:=(· =v)) ⟨v,hv,rfl⟩ w (ox:=x) (oy:=y) hd rfl;exact hr⟩
  exact h.elim
 case unOp op t x=>
  obtain⟨v,hv,hk⟩:=h;refine Reads.mk (s:=Op.unary op (ρ x)) rfl ⟨v,hk,λw _=>?_⟩;obtain⟨u,hr,rfl⟩:=Un.run (P:=P) (k:=(· =v)) ⟨v,hv,rfl⟩ w;exact hr
 case convert s d x=>
  split at h
  ·rename_i ds kd hs hd;obtain⟨j,n,hx,hk⟩:=h;refine Reads.mk (s:=Go.convert s d (ρ x)) rfl ⟨_,hk,λw _=>?_⟩;obtain⟨u,hr,rfl⟩:=br.run (P:=P) (kd:=kd) (k:=(· =_)) ⟨j,n,hx,rfl⟩ w hs hd rfl;exact hr
  ·rename_i e hs hd;split at h
   ·rename_i he;refine Reads.mk (s:=Go.convert s d (ρ x)) rfl ?_;have:∀w,(Go.convert s d (ρ x)).run P w=(Conv.bytesToString (ρ x)).run P w:=λw=>by
     obtain⟨base,n,c,bs,hx,_⟩:=h;simp only[Go.convert,Sem.run_bind,run_underlying hs,run_underlying hd,Result.andThen_ok,hx,run_underlying he]
    simp only[this];exact uni h.fix λk hk w hw=>hk.run hw
   exact h.reads
  exact h.reads
 case index t x i=>
  split at h
  ·rename_i ht;obtain⟨s,kd,j,b,hx,hi,h0,hb,hk⟩:=h;refine Reads.mk (s:=Instr.index t (ρ x) (ρ i)) rfl ⟨_,hk,λw _=>?_⟩;simp[Instr.index,run_underlying ht,hx,hi,asIntOf,h0,hb]
  exact h.reads
 case fieldAddr s x f=>
  split at h<;>try exact h.elim
  rename_i fs hs;split at h<;>try exact h.elim
  rename_i fl hf;split at h<;>try exact h.elim
  rename_i m hm;obtain⟨i,hi,hin⟩:=bF hm;obtain⟨b,o,hx,hk⟩:=h;refine Reads.mk (s:=Instr.fieldAt s (ρ x) f) rfl ⟨_,hk,λw _=>?_⟩;obtain⟨u,hr,rfl⟩:=ai.run (P:=P) (k:=(· =_)) ⟨b,o,hx,rfl⟩ w hs hf hi zO rfl;exact hr
 case field s x f=>
  split at h<;>try exact h.elim
  rename_i fs hs;split at h<;>try exact h.elim
  rename_i fl hf;split at h<;>try exact h.elim
  rename_i d n hd hn;obtain⟨i,hi,hin⟩:=bF hn;refine Reads.mk (s:=Instr.field s (ρ x) f) rfl ?_;cases ha:cP d<;>simp only[ha,xap,xag]at h
  ·obtain⟨cs,v,hx,hv,hk⟩:=h;refine⟨v,hk,λw _=>?_⟩;obtain⟨u,hr,rfl⟩:=Az.run (P:=P) (k:=(· =v)) ⟨cs,v,hx,hv,rfl⟩ w hs hf hd ha rfl;exact hr
  obtain⟨cs,hx,hk⟩:=h;refine⟨_,hk,λw _=>?_⟩;obtain⟨u,hr,rfl⟩:=Xx.run (P:=P) (k:=(· =_)) ⟨cs,hx,rfl⟩ w hs hf hd ha hi hin rfl;exact hr
 case indexAddr t x ix=>
  refine Reads.mk (s:=Instr.indexAt t (ρ x) (ρ ix)) rfl ?_;split at h
  ·rename_i e ht;split at h<;>try exact h.elim
   rename_i n hn;obtain⟨i,hi,hin⟩:=bF hn;obtain⟨b,o,n',c,kd,j,hx,hix,h0,h1,hk⟩:=h;refine⟨_,hk,λw _=>?_⟩;obtain⟨u,hr,rfl⟩:=av.run (P:=P) (k:=(· =_)) ⟨b,o,n',c,kd,j,hx,hix,h0,h1,rfl⟩ w ht hi hin;exact hr
  ·rename_i len e ht;split at h<;>try exact h.elim
   rename_i n hn;obtain⟨i,hi,hin⟩:=bF hn;obtain⟨b,o,kd,j,hx,hix,h0,h1,hk⟩:=h;refine⟨_,hk,λw _=>?_⟩;obtain⟨u,hr,rfl⟩:=iX.run (P:=P) (k:=(· =_)) ⟨b,o,kd,j,hx,hix,h0,h1,rfl⟩ w ht hi hin;exact hr
  exact h.elim
 case slice t x lo hi mx=>
  cases mx with
  |some m=>simp only at h;exact h.reads
  |none=>
   simp only at h;split at h
   ·rename_i e ht;split at h<;>try exact h.elim
    rename_i n hn;obtain⟨i,hi',hin⟩:=bF hn;obtain⟨a,n',c,l,hh,hx,hl,l7,h0,h1,h2,hk⟩:=h;refine Reads.mk (s:=Instr.sliceAt t (ρ x) (lo.map ρ) (hi.map ρ) none) rfl ⟨_,hk,λw _=>?_⟩;obtain⟨u,hr,rfl⟩:=gx.run (P:=P) (k:=(· =_)) ⟨a,n',c,l,hh,hx,hl,l7,h0,h1,h2,rfl⟩ w ht hi' hin;exact hr
   exact h.reads
 case extract t i=>
  obtain⟨vs,v,hx,hv,hk⟩:=h;refine Reads.mk (s:=Instr.extract (ρ t) i) rfl ⟨v,hk,λw _=>?_⟩;obtain⟨u,hr,rfl⟩:=Ext.run (P:=P) (k:=(· =v)) ⟨vs,v,hx,hv,rfl⟩ w;exact hr
 case lookup t m key ok=>
  split at h<;>try exact h.elim
  rename_i kt e ht;split at h<;>try exact h.elim
  rename_i kd z DC hz;obtain⟨i,hi,yd⟩:=cH hz;cases hp:plainKey kd<;>simp only[hp,xap,xag]at h
  ·cases mV:cP kd<;>simp only[mV,xap,xag]at h
   ·exact h.reads
   exact Reads.mk (s:=Instr.lookup t (ρ m) (ρ key) ok) rfl (uni h.fix λk hk w hw=>hk.run hw ht DC mV hi yd)
  exact Reads.mk (s:=Instr.lookup t (ρ m) (ρ key) ok) rfl (uni h.fix λk hk w hw=>hk.run hw ht DC hp hi yd)
 case makeFunc fn a b=>
  refine⟨_,h,λw _=>?_⟩;simp[execOp,Instr.makeFunc,mapList]
 case build t parts=>
  obtain⟨v,hr,hk⟩:=h;refine Reads.mk (s:=Instr.build t (parts.map λ(i,x)=>(i,ρ x))) rfl ⟨v,hk,λw _=>?_⟩;have:=hr w;rw[mapList (λp:Nat×Operand=>(p.1,ρ p.2)) parts]at this;exact this
 case makeInterface t x=>
  split at h
  ·exact h.elim
  ·rename_i d ZO hd;refine Reads.mk (s:=Instr.makeInterface t (ρ x)) rfl ⟨_,h,λw _=>?_⟩;simp only[Instr.makeInterface,Sem.run_bind,run_underlying hd,Result.andThen_ok];cases d<;>first|rfl|exact absurd hd (ZO _)
  exact h.elim
 case call c=>
  obtain⟨callee,args,argTypes⟩:=c;cases callee with
  |value f=>simp only at h
  |invoke r m=>simp only at h
  |builtin b=>
   cases b<;>simp only at h<;>try exact h.reads
   case max=>
    split at h<;>try exact h.reads
    rename_i x y t t' hx ht;split at h<;>try exact h.reads
    have hx:=Ei hx;have ht:=Ei ht;subst hx;subst ht;obtain⟨kd,a,b,h1,h2,hk⟩:=h;refine Reads.mk (s:=Builtin.max_ #[t,t'] type #[ρ x,ρ y]) (by simp[execOp,resolve,invoke,builtin,bind,Sem.bind];rfl) ⟨_,hk,λw _=>?_⟩;simp[Builtin.max_,Builtin.max2,h1,h2]
   case min=>
    split at h<;>try exact h.reads
    rename_i x y t t' hx ht;split at h<;>try exact h.reads
    have hx:=Ei hx;have ht:=Ei ht;subst hx;subst ht;obtain⟨kd,a,b,h1,h2,hk⟩:=h;refine Reads.mk (s:=Builtin.min_ #[t,t'] type #[ρ x,ρ y]) (by simp[execOp,resolve,invoke,builtin,bind,Sem.bind];rfl) ⟨_,hk,λw _=>?_⟩;simp[Builtin.min_,Builtin.min2,h1,h2]
   split at h<;>try exact h.elim
   rename_i x t hx ht;have hx:=aef hx;have ht:=aef ht;subst hx;subst ht;split at h
   ·rename_i e hd;refine Reads.mk (s:=Builtin.len_ #[t] type #[ρ x]) (by simp[execOp,resolve,invoke,builtin,bind,Sem.bind];rfl) ?_;obtain⟨a,n,c,hx,hk⟩:=h;refine⟨_,hk,λw _=>?_⟩;obtain⟨u,hr,rfl⟩:=aR.run (P:=P) (k:=(· =_)) ⟨a,n,c,hx,rfl⟩ w (ty:=type) hd;exact hr
   ·rename_i e e' hd;refine Reads.mk (s:=Builtin.len_ #[t] type #[ρ x]) (by simp[execOp,resolve,invoke,builtin,bind,Sem.bind];rfl) ?_;exact uni h.fix λk hk w hw=>hk.run hw hd
   ·rename_i hd;refine Reads.mk (s:=Builtin.len_ #[t] type #[ρ x]) (by simp[execOp,resolve,invoke,builtin,bind,Sem.bind];rfl) ?_;obtain⟨s,hx,hk⟩:=h;exact⟨_,hk,λw _=>by simp[Builtin.len_,run_underlying hd,hx,goInt]⟩
   exact h.reads
 all_goals exact h.reads
def valOf(o:Oper)(ρ:Operand->zV)(v:zV):Prop:=
 match o.op with
 | .move x=>v=ρ x
 | .assign x=>v=ρ x
 | .pick c a b=>∀t,ρ c=.bool t->v=cond t (ρ a) (ρ b)
 |_=>True
theorem o5{o:Oper}{ρ:Operand->zV}{k:zV->Prop}(h:EB P g o ρ H k):∃v,k v/\(∀w,Own g H w->(execOp ρ o).run P w=.ok (.value v) w)/\valOf o ρ v:=by
 obtain⟨dst,op,type,pos,after,guard⟩:=o;cases op
 case move x=>exact⟨_,h,λw _=>rfl,rfl⟩
 case assign x=>exact⟨_,h,λw _=>rfl,rfl⟩
 case pick c a b=>
  obtain⟨t,hc,hk⟩:=h;refine⟨_,hk,λw _=>?_,λt' ht'=>?_⟩
  ·cases t<;>simp[execOp,hc,asBool]
  rw[hc]at ht';simp only[Value.bool.injEq]at ht';subst ht';rfl
 all_goals
  obtain⟨v,hk,hr⟩:=lH h;exact⟨v,hk,hr,trivial⟩
end
end Go.Sx
namespace Go.Sx
open Go
section
variable {P:Program} {g:Gh} {H:Hp} {K:zV->Hp->Prop} {KP:List PanicEntry->Hp->Prop}
def ax(P:Program)(t len:Nat)(parts:List (Nat×zV))(H:Hp)(k:zV->Hp->Prop):Prop:=
 ∃cs,(∃e n z,P.underlying t=some (.slice e)/\dH P e=some n/\fJ P e=some z/\len*n<=2^24/\
   Instr.fill (λi=>some (i*n,n)) ((Array.range (len*n)).map (z.cells[· %z.cells.size]!)) parts=some cs/\
   N7 H (.cells cs e zZ) λb H'=>k (.slice (some ⟨b,0,none⟩) len len) H')
def Ue(P:Program)(g:Gh)(o:Oper)(ρ:Operand->zV)(H:Hp)(K:zV->Hp->Prop)(KP:List PanicEntry->Hp->Prop):Prop:=
 match o.op with
 | .alloc t=>match fJ P t with
  |some z=>N7 H (.cells z.cells t zZ) λb H'=>K (.pointer (some ⟨b,0,none⟩)) H'
  |none=>False
 | .box t x=>N7 H (.cells (ρ x).cells t zZ) λb H'=>K (.pointer (some ⟨b,0,none⟩)) H'
 | .store t a x=>match dH P t with
  |some n=>St n H (ρ a) (ρ x) λH'=>K undef H'
  |none=>False
 | .buildSlice t len parts=>ax P t len (parts.toList.map λp=>(p.1,ρ p.2)) H K
 | .makeMap _ none=>gH H K
 | .makeSlice t l c=>match P.underlying t with
  |some (.slice e)=>match dH P e,wW P e,fJ P e with
   |some n,some b,some z=>cU e n b z H (ρ l) (ρ c) K
   |_,_,_=>False
  |_=>False
 | .mapUpdate t m key x=>match P.underlying t with
  |some (.map kt _)=>match P.underlying kt with
   |some kd=>cond (plainKey kd) (aW kd H (ρ m) (ρ key) (ρ x) λH'=>K undef H') (cond (cP kd) (iJ P kt H (ρ m) (ρ key) (ρ x) λH'=>K undef H') (oI P g o ρ H K KP))
   |none=>False
  |_=>False
 | .insert t m key x=>match P.underlying t with
  |some (.map kt _)=>match P.underlying kt with
   |some kd=>cond (plainKey kd) (aW kd H (ρ m) (ρ key) (ρ x) λH'=>K undef H') (cond (cP kd) (iJ P kt H (ρ m) (ρ key) (ρ x) λH'=>K undef H') (oI P g o ρ H K KP))
   |none=>False
  |_=>False
 | .range t x=>match P.underlying t with
  |some (.map _ _)=>Rng H (ρ x) K
  |_=>oI P g o ρ H K KP
 | .next it false=>Nxt H (ρ it) K
 | .entry it=>Pc H (ρ it) λv=>K v H
 | .call c=>
  match c.callee with
  | .value (.func f)=>cond (aU P f) (aa P g f (c.args.toList.map ρ).toArray H K KP) (oI P g o ρ H K KP)
  | .value f=>aE P g (ρ f) (c.args.toList.map ρ).toArray H K KP
  | .builtin .append=>
   match c.args.toList,c.argTypes.toList with
   | [s,x],[t,t']=>match P.underlying t,P.underlying t' with
    |some (.slice e),some (.slice _)=>match dH P e,wW P e,fJ P e with
     |some n,some b,some z=>App P e n b z H (ρ s) (ρ x) K
     |_,_,_=>False
    |_,_=>oI P g o ρ H K KP
   |_,_=>False
  | .builtin .delete=>
   match c.args.toList,c.argTypes.toList with
   | [m,key],[t,_]=>match P.underlying t with
    |some (.map kt _)=>match P.underlying kt with
     |some kd=>cond (plainKey kd) (oJ kd H (ρ m) (ρ key) λH'=>K (.tuple #[]) H') (cond (cP kd) (r7 P kt H (ρ m) (ρ key) λH'=>K (.tuple #[]) H') (oI P g o ρ H K KP))
     |none=>False
    |_=>False
   |_,_=>oI P g o ρ H K KP
  |_=>oI P g o ρ H K KP
 |_=>oI P g o ρ H K KP
theorem oz{t:TypeId}{n:Nat}(h:wW P t=some n):∃i,P.info? t=some i/\i.bytes=n:=by
 unfold wW at h;split at h
 ·rename_i i hi;exact⟨i,hi,by simpa using h⟩
 simp at h
theorem oI.ofValue{o:Oper}{ρ:Operand->zV}{s:Sem zV}(he:execOp ρ o=(do pure (.value (<-s))))(h:∀w,Own g H w->∃v w' H',s.run P w=.ok v w'/\Own g H' w'/\K v H'):oI P g o ρ H K KP:=by
 intro w hw;obtain⟨v,w',H',hr,ho,hk⟩:=h w hw;rw[he];simp only[Sem.run_bind,hr,Result.andThen_ok,Sem.run_pure];exact⟨H',ho,hk⟩
theorem oI.sG{o:Oper}{ρ:Operand->zV}{s:Sem Unit}(he:execOp ρ o=(do s;pure .skip))(h:∀w,Own g H w->∃w' H',s.run P w=.ok () w'/\Own g H' w'/\K undef H'):oI P g o ρ H K KP:=by
 intro w hw;obtain⟨w',H',hr,ho,hk⟩:=h w hw;rw[he];simp only[Sem.run_bind,hr,Result.andThen_ok,Sem.run_pure];exact⟨H',ho,hk⟩
theorem fH{f:FuncId}(h:aU P f=true)(args:Array zV)(w:World):(callFunc f args).run P w=.ok (.enter f args) w:=by
 unfold aU at h;split at h
 ·simp at h
 rename_i fn hf;simp only[xaF,xbG]at h;obtain⟨h1,h2⟩:=h;have h3:fn.body.isNone=false:=by cases hb:fn.body<;>simp_all
 simp only[callFunc,Sem.run_bind,run_program,Result.andThen_ok,hf,show(fn.name== "runtime.NumGoroutine")=false from h1,h3,xaO,xa2];rfl
theorem aE.op{o:Oper}{c:Call}{ρ:Operand->zV}{x:Operand}(ho:o.op=.call c)(hc:c.callee=.value x)(h:aE P g (ρ x) (c.args.toList.map ρ).toArray H K KP):oI P g o ρ H K KP:=by
 obtain⟨f,first,captured,hf,fO,KI⟩:=h;rw[mapList]at KI;intro w hw;have hr:(execOp ρ o).run P w=.ok (.enter f (first++c.args.map ρ++captured)) w:=by
  simp only[execOp,ho,resolve,hc,Deferred.ofValue,hf,invoke];show(callFunc f (first++c.args.map ρ++captured)).run P w=_;exact fH fO _ w
 rw[hr];exact KI w hw
theorem vM{o:Oper}{ρ:Operand->zV}(hρ:∀f,ρ (.func f)=.func (.func f) #[] #[])(h:Ue P g o ρ H K KP):oI P g o ρ H K KP:=by
 unfold Ue at h;split at h
 case h_1 t hop=>
  split at h
  ·rename_i z hz;obtain⟨i,hi,yd⟩:=cH hz;refine oI.ofValue (s:=Instr.alloc t true (.tuple #[])) (by simp only[execOp,hop]) λw hw=>⟨_,_,_,?_,hw.alloc _,h _ hw.fresh⟩;simp[Instr.alloc,dU hi yd,newVar,newRow]
  exact h.elim
 case h_2 t x hop=>
  refine oI.ofValue (s:=Instr.box t (ρ x)) (by simp only[execOp,hop]) λw hw=>⟨_,_,_,?_,hw.alloc _,h _ hw.fresh⟩;simp[Instr.box,newVar,newRow]
 case h_3 t a x hop=>
  split at h
  ·rename_i n hn;obtain⟨i,hi,hin⟩:=bF hn;exact oI.sG (s:=Instr.storeAt t (ρ a) (ρ x)) (by simp only[execOp,hop]) λw hw=>h.run hw hi hin
  exact h.elim
 case h_4 t len parts hop=>
  obtain⟨cs,e,n,z,ht,hn,hz,hl,hf,hk⟩:=h;obtain⟨i,hi,hin⟩:=bF hn;obtain⟨i',hi',yd⟩:=cH hz;have:i'=i:=xbg (hi'.symm.trans hi);subst this;subst hin;refine oI.ofValue (s:=Instr.buildSlice t len (parts.map λ(i,x)=>(i,ρ x))) (by simp only[execOp,hop]) λw hw=>⟨_,_,_,?_,hw.alloc _,hk _ hw.fresh⟩;have hl':¬(len*i'.size>2^24):=by omega
  have zm:(parts.map λ(x:Nat×Operand)=>(x.1,ρ x.2)).toList=parts.toList.map λp=>(p.1,ρ p.2):=by rw[xdR]
  by_cases h0:len*i'.size=0
  ·simp only[Instr.buildSlice,Sem.run_bind,run_underlying ht,Result.andThen_ok,run_sizeOf hi,hl',xa2,h0,xa7,Sem.run_pure];rw[h0]at hf;have ZH:Array.range 0=#[]:=rfl;simp only[ZH,xeu,List.map_toArray,xcl]at hf⊢;rw[zm,hf];simp[newRow]
  simp only[Instr.buildSlice,Sem.run_bind,run_underlying ht,Result.andThen_ok,run_sizeOf hi,hl',xa2,h0,dU hi yd,Sem.run_pure];simp[hf,newRow]
 case h_5 t hop=>
  refine oI.ofValue (s:=Instr.makeMap t none) (by simp only[execOp,hop];rfl) λw hw=>⟨_,_,_,?_,hw.alloc _,h _ hw.fresh⟩;simp[Instr.makeMap]
 case h_6 t l c hop=>
  split at h<;>try exact h.elim
  rename_i e ht;split at h<;>try exact h.elim
  rename_i n b z hn hb hz;obtain⟨i,hi,hin⟩:=bF hn;obtain⟨i',hi',yd⟩:=cH hz;obtain⟨i2,KF,zo⟩:=oz hb;have e1:i'=i:=xbg (hi'.symm.trans hi);have e2:i2=i:=xbg (KF.symm.trans hi);subst e1;subst e2;exact oI.ofValue (s:=Instr.makeSlice t (ρ l) (ρ c)) (by simp only[execOp,hop]) λw hw=>h.run hw ht hi yd hin zo
 case h_7 t m key x hop=>
  split at h<;>try exact h.elim
  rename_i kt e ht;split at h<;>try exact h.elim
  rename_i kd DC;cases hp:plainKey kd<;>simp only[hp,xap,xag]at h
  ·cases mV:cP kd<;>simp only[mV,xap,xag]at h
   ·exact h
   exact oI.sG (s:=Instr.mapUpdate t (ρ m) (ρ key) (ρ x)) (by simp only[execOp,hop]) λw hw=>h.run hw ht DC mV
  exact oI.sG (s:=Instr.mapUpdate t (ρ m) (ρ key) (ρ x)) (by simp only[execOp,hop]) λw hw=>h.run hw ht DC hp
 case h_8 t m key x hop=>
  split at h<;>try exact h.elim
  rename_i kt e ht;split at h<;>try exact h.elim
  rename_i kd DC;cases hp:plainKey kd<;>simp only[hp,xap,xag]at h
  ·cases mV:cP kd<;>simp only[mV,xap,xag]at h
   ·exact h
   exact oI.sG (s:=Instr.mapUpdate t (ρ m) (ρ key) (ρ x)) (by simp only[execOp,hop]) λw hw=>h.run hw ht DC mV
  exact oI.sG (s:=Instr.mapUpdate t (ρ m) (ρ key) (ρ x)) (by simp only[execOp,hop]) λw hw=>h.run hw ht DC hp
 case h_9 t x hop=>
  split at h
  ·rename_i kt e ht;exact oI.ofValue (s:=Instr.range t (ρ x)) (by simp only[execOp,hop]) λw hw=>h.run hw ht
  exact h
 case h_10 it hop=>
  exact oI.ofValue (s:=Instr.next (ρ it) false o.type) (by simp only[execOp,hop]) λw hw=>h.run hw
 case h_11 it hop=>
  exact oI.ofValue (s:=Instr.entry (ρ it)) (by simp only[execOp,hop]) λw hw=>let ⟨v,hr,hk⟩:=h.run hw;⟨v,w,H,hr,hw,hk⟩
 case h_12 c hop=>
  split at h
  ·rename_i f hc;cases fO:aU P f<;>simp only[fO,xap,xag]at h
   ·exact h
   rw[mapList]at h;intro w hw;have hr:(execOp ρ o).run P w=.ok (.enter f (c.args.map ρ)) w:=by
    simp only[execOp,hop,resolve,hc,Deferred.ofValue,hρ,invoke];show(callFunc f ((#[]++c.args.map ρ)++ #[])).run P w=_;rw[xdc,xdE];exact fH fO _ w
   rw[hr];exact h w hw
  ·rename_i x _ hc;exact aE.op hop hc h
  ·rename_i hc;split at h<;>try exact h.elim
   rename_i s x t t' hx ht;have hx:=Ei hx;have ht:=Ei ht;split at h
   ·rename_i e e' hd dP;split at h<;>try exact h.elim
    rename_i n b z hn hb hz;obtain⟨i,hi,hin⟩:=bF hn;obtain⟨i',hi',yd⟩:=cH hz;obtain⟨i2,KF,zo⟩:=oz hb;have e1:i'=i:=xbg (hi'.symm.trans hi);have e2:i2=i:=xbg (KF.symm.trans hi);subst e1;subst e2;refine oI.ofValue (s:=Builtin.append_ #[t,t'] o.type #[ρ s,ρ x]) ?_ λw hw=>h.run hw hd ⟨_,dP⟩ hi yd hin zo;simp only[execOp,hop,resolve,hc,hx,ht,invoke,builtin];simp[bind,Sem.bind];rfl
   exact h
  ·rename_i hc;split at h
   ·rename_i m key t t' hx ht;have hx:=Ei hx;have ht:=Ei ht;split at h<;>try exact h.elim
    rename_i kt e hd;split at h<;>try exact h.elim
    rename_i kd DC;cases hp:plainKey kd<;>simp only[hp,xap,xag]at h
    ·cases mV:cP kd<;>simp only[mV,xap,xag]at h
     ·exact h
     refine oI.ofValue (s:=Builtin.delete_ #[t,t'] o.type #[ρ m,ρ key]) ?_ λw hw=>?_
     ·simp only[execOp,hop,resolve,hc,hx,ht,invoke,builtin];simp[bind,Sem.bind];rfl
     obtain⟨w',H',hr,ho,hk⟩:=h.run (P:=P) hw (as:=#[t,t']) (ty:=o.type) rfl hd DC mV;exact⟨_,w',H',hr,ho,hk⟩
    refine oI.ofValue (s:=Builtin.delete_ #[t,t'] o.type #[ρ m,ρ key]) ?_ λw hw=>?_
    ·simp only[execOp,hop,resolve,hc,hx,ht,invoke,builtin];simp[bind,Sem.bind];rfl
    obtain⟨w',H',hr,ho,hk⟩:=h.run (P:=P) hw (as:=#[t,t']) (ty:=o.type) rfl hd DC hp;exact⟨_,w',H',hr,ho,hk⟩
   exact h
  exact h
 all_goals exact h
end
end Go.Sx
namespace Go.Sx
open Go
section
variable {P:Program} {g:Gh} {ds:List Deferred}
def wc:Op->Bool
 | .move _| .assign _| .pick .. | .load .. | .nilCheck _| .binOp .. | .unOp .. | .convert .. | .fieldAddr .. | .field .. | .indexAddr .. | .index .. | .slice .. | .extract .. | .lookup .. | .makeFunc .. | .build .. | .makeInterface ..
 | .typeAssert .. =>true
 | .call c=>match c.callee with
  | .builtin .len| .builtin .cap| .builtin .min| .builtin .max=>true
  |_=>false
 |_=>false
def YE(P:Program)(g:Gh)(f:FuncId)(args:Array zV)(H:Hp)(k:zV->Prop):Prop:=
 ∃v,bC P g f args H (λe H'=>e=.returned v/\H'=H)/\k v
def opQ(P:Program)(g:Gh)(o:Oper)(ρ:Operand->zV)(H:Hp)(k:zV->Prop):Prop:=
 match o.op with
 | .call c=>match c.callee with
  | .value (.func f)=>cond (aU P f) (YE P g f (c.args.toList.map ρ).toArray H k) False
  | .value x=>∃f first captured,ρ x=.func (.func f) first captured/\aU P f=true/\YE P g f (first++(c.args.toList.map ρ).toArray++captured) H k
  |_=>False
 |_=>False
def cB:Option (Nat×Bool)->Option (Nat×Bool)->Bool
 |none,none=>true
 |some (i,a),some (j,b)=>Nat.beq i j&& (a==b)
 |_,_=>false
theorem js{x y:Option (Nat×Bool)}(h:cB x y=true):x=y:=by
 cases x with
 |none=>cases y<;>simp_all[cB]
 |some a=>
  obtain⟨i,a⟩:=a;cases y with
  |none=>simp[cB]at h
  |some b=>
   obtain⟨j,b⟩:=b;simp only[cB,xaF,xcO]at h;rw[xaI h.1,h.2]
def ik(cur:Option (Nat×Bool)):List Oper->List Oper
 | []=>[]
 |o::r=>cond (cB o.guard cur) [] (o::ik cur r)
def jk(cur:Option (Nat×Bool)):List Oper->List Oper
 | []=>[]
 |o::r=>cond (cB o.guard cur) (o::r) (jk cur r)
theorem tu(cur:Option (Nat×Bool))(l:List Oper):ik cur l++jk cur l=l:=by
 induction l with
 |nil=>rfl
 |cons o r ih=>simp only[ik,jk];cases cB o.guard cur<;>simp[ih]
def tw:List Oper->Fr->Fr
 | [],fr=>fr
 |o::r,fr=>tw r (bK fr o.dst undef)
def bS:List Oper->Nat->Bool
 | [],_=>false
 |o::r,s=>(match o.dst with|some d=>Nat.beq s d|none=>false)||bS r s
def ja(n:Nat):List Oper->Bool
 | []=>true
 |o::r=>eG n o.dst&&ja n r
def Bn(G:List Oper)(gs fr:Fr):Fr:=λs=>cond (bS G s) (gs s) (fr s)
def qt(p:Oper)(fr:Fr):zV:=
 match p.op with
 | .pick c a b=>match ev fr c with
  | .bool t=>cond t (ev fr a) (ev fr b)
  |_=>undef
 |_=>undef
def sM(p:Oper):Bool:=match p.op with| .pick .. =>true|_=>false
def eP(ops:Array Oper)(j:Nat):Option Nat:=match ops[j]? with|some oj=>oj.dst|none=>none
def nQ(ops:Array Oper)(s:Nat)(want:Bool):zL->List Oper->Bool
 |_,[]=>true
 |seen,o::r=>
  (match o.guard with
  |none=>false
  |some (j,w)=>match eP ops j with
   |none=>false
   |some t=>(Nat.beq t s&& (w==want))||seen.any (Nat.beq t)) &&
  nQ ops s want (match o.dst with|some d=>d::seen|none=>seen) r
def cS(v:zV)(want:Bool)(inner els k:Bool->Prop):Prop:=∃a t:Bool,v=.bool a/\(a=want->inner t)/\(a= !want->els t)/\k t
def Split(v:zV)(want:Bool)(k1 k2:Prop):Prop:=∃a:Bool,v=.bool a/\(a=want->k1)/\(a= !want->k2)
def lZ:List (Nat×Bool)->Nat->Option Bool
 | [],_=>none
 |(t,b)::r,s=>cond (Nat.beq t s) (some b) (lZ r s)
def nh:List (Nat×Bool)->Option Nat->List (Nat×Bool)
 |kn,none=>kn
 | [],some _=>[]
 |(t,b)::r,some d=>cond (Nat.beq t d) (nh r (some d)) ((t,b)::nh r (some d))
def mQ:List (Nat×Bool)->List Oper->List (Nat×Bool)
 |kn,[]=>kn
 |kn,o::r=>mQ (nh kn o.dst) r
def rF(kn:List (Nat×Bool)):Operand->Option Bool
 | .const (.bool b)=>some b
 | .tmp t=>lZ kn t
 |_=>none
def Zt(kn:List (Nat×Bool))(o:Oper):Option Bool:=
 match o.op with
 | .move x=>rF kn x
 | .assign x=>rF kn x
 | .pick c a b=>match rF kn c with
  |some true=>rF kn a
  |some false=>rF kn b
  |none=>none
 |_=>none
def Zs(kn:List (Nat×Bool))(o:Oper):List (Nat×Bool):=
 match Zt kn o,o.dst with
 |some b,some d=>(d,b)::nh kn (some d)
 |_,d=>nh kn d
def jg(kn:List (Nat×Bool))(fr:Fr):Prop:=∀s b,lZ kn s=some b->fr s=.bool b
theorem jg.nil(fr:Fr):jg [] fr:=λs b h=>by simp[lZ]at h
theorem ze{kn:List (Nat×Bool)}{d s:Nat}{b:Bool}(h:lZ (nh kn (some d)) s=some b):s≠d/\lZ kn s=some b:=by
 induction kn with
 |nil=>simp[nh,lZ]at h
 |cons x r ih=>
  obtain⟨t,c⟩:=x;simp only[nh]at h;cases hb:Nat.beq t d<;>simp only[hb,xap,xag]at h
  ·simp only[lZ]at h⊢;cases hs:Nat.beq t s<;>simp only[hs,xap,xag]at h⊢
   ·exact ih h
   refine⟨λe=>?_,h⟩;have:=xaI hs;subst this;subst e;simp at hb
  have h':=ih h;refine⟨h'.1,?_⟩;simp only[lZ];have:=xaI hb;subst this;cases hs:Nat.beq t s
  ·exact h'.2
  exact absurd (xaI hs).symm h'.1
theorem jg.del{kn:List (Nat×Bool)}{fr:Fr}(h:jg kn fr)(d:Option Nat)(v:zV):jg (nh kn d) (bK fr d v):=by
 cases d with
 |none=>cases kn<;>exact h
 |some d=>
  intro s b hs;obtain⟨h1,h2⟩:=ze hs;simp only[bK];cases hb:Nat.beq s d
  ·exact h s b h2
  exact absurd (xaI hb) h1
theorem jg.put{kn:List (Nat×Bool)}{fr:Fr}(h:jg kn fr){s:Nat}{b:Bool}(hs:fr s=.bool b):jg ((s,b)::kn) fr:=by
 intro t c ht;simp only[lZ]at ht;cases hb:Nat.beq s t<;>simp only[hb,xap,xag]at ht
 ·exact h t c ht
 have:=xaI hb;subst this;simp only[xar]at ht;subst ht;exact hs
theorem lY{kn:List (Nat×Bool)}{fr:Fr}(h:jg kn fr){x:Operand}{b:Bool}(hx:rF kn x=some b):ev fr x=.bool b:=by
 cases x with
 |tmp t=>exact h t b hx
 |const v=>cases v<;>simp[rF]at hx;subst hx;rfl
 |global g=>simp[rF]at hx
 |func f=>simp[rF]at hx
theorem V4{kn:List (Nat×Bool)}{fr:Fr}(h:jg kn fr){o:Oper}{v:zV}(hv:valOf o (ev fr) v){b:Bool}(hb:Zt kn o=some b):v=.bool b:=by
 unfold Zt at hb;unfold valOf at hv;split at hb
 ·rename_i x hop;rw[hop]at hv;exact hv.trans (lY h hb)
 ·rename_i x hop;rw[hop]at hv;exact hv.trans (lY h hb)
 ·rename_i c a b' hop;rw[hop]at hv;split at hb
  ·rename_i hc;rw[hv _ (lY h hc)];exact lY h hb
  ·rename_i hc;rw[hv _ (lY h hc)];exact lY h hb
  simp at hb
 simp at hb
theorem jg.up{kn:List (Nat×Bool)}{fr:Fr}(h:jg kn fr){o:Oper}{v:zV}(hv:valOf o (ev fr) v):jg (Zs kn o) (bK fr o.dst v):=by
 unfold Zs;split
 ·rename_i b d hb hd;rw[hd];exact(h.del (some d) v).put (by simp[bK,V4 h hv hb])
 exact h.del _ _
theorem jg.ad7{kn:List (Nat×Bool)}{fr fr':Fr}:∀(l:List Oper),jg kn fr->(∀s,bS l s=false->fr' s=fr s)->jg (mQ kn l) fr':=by
 intro l;have key:∀(l:List Oper) (kn:List (Nat×Bool)) (s:Nat) (b:Bool),lZ (mQ kn l) s=some b->bS l s=false/\lZ kn s=some b:=by
  intro l;induction l with
  |nil=>intro kn s b h;exact⟨rfl,h⟩
  |cons o r ih=>
   intro kn s b h;simp only[mQ]at h;obtain⟨h1,h2⟩:=ih _ s b h;simp only[bS,h1,xdu];cases hd:o.dst with
   |none=>rw[hd]at h2;exact⟨rfl,by cases kn<;>exact h2⟩
   |some d=>
    rw[hd]at h2;obtain⟨h3,h4⟩:=ze h2;refine⟨?_,h4⟩;cases hb:Nat.beq s d
    ·exact hb
    exact absurd (xaI hb) h3
 intro h ho s b hs;obtain⟨h1,h2⟩:=key l kn s b hs;rw[ho s h1];exact h s b h2
def eU(P:Program)(g:Gh)(n:Nat)(ops:Array Oper)(gq:Bool):Nat->Bool->Option (Nat×Bool)->List (Nat×Bool)->List Oper->Fr->Hp->(List (Nat×Bool)->Fr->Hp->Prop)->(List PanicEntry->Hp->Prop)->Prop
 |0,_,_,_,_,_,_,_,_=>False
 |_+1,_,_,kn,[],fr,H,K,_=>K kn fr H
 |f+1,q,cur,kn,o::r,fr,H,K,KP=>
  cond (cB o.guard cur)
   (cond (eG n o.dst)
    (cond (wc o.op) (EB P g o (ev fr) H λv=>eU P g n ops gq f q cur (Zs kn o) r (bK fr o.dst v) H K KP)
     (cond q (opQ P g o (ev fr) H λv=>eU P g n ops gq f q cur (nh kn o.dst) r (bK fr o.dst v) H K KP)
      (Ue P g o (ev fr) H (λv H'=>eU P g n ops gq f q cur (nh kn o.dst) r (bK fr o.dst v) H' K KP) KP))) False)
   (match o.guard with
   |none=>False
   |some (j,want)=>
    match eP ops j with
    |none=>False
    |some s=>
     cond (eG n (some s) &&ja n (ik cur (o::r)) && !bS (ik cur (o::r)) s&&nQ ops s want [] (ik cur (o::r)))
     (match lZ kn s with
     |some b=>cond (b==want)
       (eU P g n ops gq f q o.guard kn (ik cur (o::r)) fr H (λqN fr' H'=>eU P g n ops gq f q cur qN (jk cur (o::r)) fr' H' K KP) KP)
       (eU P g n ops gq f q cur (mQ kn (ik cur (o::r))) (jk cur (o::r)) (tw (ik cur (o::r)) fr) H K KP)
     |none=>
     cond (q||gq)
      (match jk cur (o::r)with
      | []=>False
      |p::r'=>
       cond (sM p&&eG n p.dst)
       (cS (fr s) want
        (λt=>eU P g n ops gq f true o.guard ((s,want)::kn) (ik cur (o::r)) (bK fr (some s) (.bool want)) H (λ_ fr' H'=>H'=H/\qt p fr'=.bool t) (λ_ _=>False))
        (λt=>qt p (tw (ik cur (o::r)) (bK fr (some s) (.bool !want)))=.bool t)
        (λt=>∀gs,eU P g n ops gq f q cur (nh (mQ kn (ik cur (o::r))) p.dst) r' (bK (Bn (ik cur (o::r)) gs fr) p.dst (.bool t)) H K KP)) False)
      (Split (fr s) want
       (eU P g n ops gq f q o.guard ((s,want)::kn) (ik cur (o::r)) (bK fr (some s) (.bool want)) H (λqN fr' H'=>eU P g n ops gq f q cur qN (jk cur (o::r)) fr' H' K KP) KP)
       (eU P g n ops gq f q cur ((s, !want)::mQ kn (ik cur (o::r))) (jk cur (o::r)) (tw (ik cur (o::r)) (bK fr (some s) (.bool !want))) H K KP))) False)
theorem lf{fr:Fr}{s:Nat}{v:zV}(h:fr s=v):bK fr (some s) v=fr:=by
 funext x
 simp only[bK];cases hb:Nat.beq x s
 ·rfl
 have:=xaI hb;subst this;simp[h]
theorem gk{fr:Fr}{d:Option Nat}{v:zV}{s:Nat}(h:bS [({(default:Oper)with dst:=d})] s=false):bK fr d v s=fr s:=by
 cases d with
 |none=>rfl
 |some d=>simp only[bS,xdu]at h;simp only[bK,h,xag]
theorem dJ{o:Oper}{r:List Oper}{s:Nat}:bS (o::r) s=(bS [({(default:Oper)with dst:=o.dst})] s||bS r s):=by
 simp[bS]
theorem cq{a b:List Oper}{s:Nat}:bS (a++b) s=(bS a s||bS b s):=by
 induction a with
 |nil=>simp[bS]
 |cons o r ih=>simp only[xaQ,bS,ih,Bool.or_assoc]
def eL(l:List Oper)(fr fr':Fr):Prop:=∀s,bS l s=false->fr' s=fr s
def mu(ops:Array Oper)(cur:Option (Nat×Bool))(l:List Oper)(fr:Fr):Prop:=
 match cur with
 |none=>True
 |some (j,want)=>∃s,eP ops j=some s/\fr s=.bool want/\bS l s=false
theorem mu.tail{ops:Array Oper}{cur:Option (Nat×Bool)}{o:Oper}{r:List Oper}{fr fr':Fr}(h:mu ops cur (o::r) fr)(he:∀s,bS [({(default:Oper)with dst:=o.dst})] s=false->fr' s=fr s):mu ops cur r fr':=by
 unfold mu at*;split
 ·trivial
 obtain⟨s,h1,h2,h3⟩:=h;rw[dJ,xaG]at h3;exact⟨s,h1,(he s h3.1).trans h2,h3.2⟩
theorem mA{n:Nat}{ops:Array Oper}{a:Act}{fr:Fr}(h:cA ds n a fr){j s:Nat}(hs:eP ops j=some s):yielded ops a.tmps j=match fr s with| .bool b=>some b|_=>none:=by
 unfold eP at hs;split at hs
 ·rename_i oj hj;have hg:=h.get s;rw[xas]at hg;simp only[yielded,hj,xen,hs];cases ht:a.tmps[s]? with
  |none=>rw[ht]at hg;simp only[Option.getD_none]at hg;rw[<-hg];rfl
  |some v=>rw[ht]at hg;simp only[Option.getD_some]at hg;rw[<-hg];cases v<;>rfl
 ·simp at hs
theorem mu.wanted{n:Nat}{ops:Array Oper}{cur:Option (Nat×Bool)}{l:List Oper}{fr:Fr}(h:mu ops cur l fr){o:Oper}(ho:o.guard=cur){a:Act}(ha:cA ds n a fr):Region.wanted o (yielded ops a.tmps)=true:=by
 unfold mu at h;unfold Region.wanted;rw[ho];split at h
 ·rfl
 obtain⟨s,h1,h2,_⟩:=h;simp only[mA ha h1,h2,xeo]
theorem qs{p:Oper}{fr:Fr}{t:Bool}(hp:sM p=true)(h:qt p fr=.bool t)(w:World):(execOp (ev fr) p).run P w=.ok (.value (.bool t)) w:=by
 unfold sM at hp;split at hp<;>try (simp at hp;done)
 rename_i c a b hop;simp only[qt,hop]at h;split at h
 ·rename_i t' hc;simp only[execOp,hop,hc,asBool];cases t'<;>simp only[xap,xag]at h<;>simp[h]
 simp[undef]at h
theorem oT{n:Nat}{ops:Array Oper}{Q:Exit->Act->World->Prop}{s:Nat}{want:Bool}{w:World}{rest:List Oper}:∀(l:List Oper) (seen:zL) (fr:Fr) (a:Act),ja n l=true->bS l s=false->nQ ops s want seen l=true->
  fr s=.bool (!want)->(∀t∈seen,fr t=undef)->cA ds n a fr->(∀a',cA ds n a' (tw l fr)->wpList P ops Q rest a' w)->wpList P ops Q (l++rest) a w
 | [],_,fr,a,_,_,_,_,_,ha,hk=>hk a ha
 |o::r,seen,fr,a,hd,hi,hs,hf,wg,ha,hk=>by
  simp only[ja,xaF]at hd;rw[dJ,xaG]at hi;simp only[nQ,xaF]at hs;obtain⟨uI,sO⟩:=hs;have hnw:Region.wanted o (yielded ops a.tmps)=false:=by
   unfold Region.wanted;split at uI
   ·simp at uI
   rename_i j w' hg;rw[hg];split at uI
   ·simp at uI
   rename_i t ht;simp only[mA ha ht];simp only[xbs,xaF,xcO]at uI;rcases uI with⟨h1,rfl⟩|h1
   ·have:=xaI h1;subst this;rw[hf];cases w'<;>rfl
   obtain⟨u,hu,hb⟩:=xcx.1 h1;have:=xaI hb;subst this;rw[wg _ hu];rfl
  simp only[xaQ,wpList,hnw,xaO,xa2];refine oT r _ (bK fr o.dst undef) _ hd.2 hi.2 sO ?_ ?_ (ha.put hd.1 undef) (λa' h'=>hk a' h')
  ·rw[gk hi.1,hf]
  intro t ht;cases R9:o.dst with
  |none=>rw[R9]at ht;exact wg t ht
  |some d=>
   rw[R9]at ht;simp only[bK];cases hb:Nat.beq t d
   ·simp only[xag];rcases xak.1 ht with rfl|ht
    ·simp at hb
    exact wg t ht
   rfl
theorem qd{n:Nat}{ops:Array Oper}{C:World->Prop}{Q:Act->Prop}{s:Nat}{want:Bool}{rest:List Oper}:∀(l:List Oper) (seen:zL) (fr:Fr) (a:Act),ja n l=true->bS l s=false->nQ ops s want seen l=true->
  fr s=.bool (!want)->(∀t∈seen,fr t=undef)->cA ds n a fr->(∀a',cA ds n a' (tw l fr)->wpQuiet P ops C Q rest a')->wpQuiet P ops C Q (l++rest) a
 | [],_,fr,a,_,_,_,_,_,ha,hk=>hk a ha
 |o::r,seen,fr,a,hd,hi,hs,hf,wg,ha,hk=>by
  simp only[ja,xaF]at hd;rw[dJ,xaG]at hi;simp only[nQ,xaF]at hs;obtain⟨uI,sO⟩:=hs;have hnw:Region.wanted o (yielded ops a.tmps)=false:=by
   unfold Region.wanted;split at uI
   ·simp at uI
   rename_i j w' hg;rw[hg];split at uI
   ·simp at uI
   rename_i t ht;simp only[mA ha ht];simp only[xbs,xaF,xcO]at uI;rcases uI with⟨h1,rfl⟩|h1
   ·have:=xaI h1;subst this;rw[hf];cases w'<;>rfl
   obtain⟨u,hu,hb⟩:=xcx.1 h1;have:=xaI hb;subst this;rw[wg _ hu];rfl
  simp only[xaQ,wpQuiet,hnw,xaO,xa2];refine qd r _ (bK fr o.dst undef) _ hd.2 hi.2 sO ?_ ?_ (ha.put hd.1 undef) (λa' h'=>hk a' h')
  ·rw[gk hi.1,hf]
  intro t ht;cases R9:o.dst with
  |none=>rw[R9]at ht;exact wg t ht
  |some d=>
   rw[R9]at ht;simp only[bK];cases hb:Nat.beq t d
   ·simp only[xag];rcases xak.1 ht with rfl|ht
    ·simp at hb
    exact wg t ht
   rfl
theorem dh:∀(l:List Oper) (fr:Fr),eL l fr (tw l fr)
 | [],fr=>λs _=>rfl
 |o::r,fr=>λs hs=>by
  rw[dJ,xaG]at hs;rw[tw,dh r _ s hs.2,gk hs.1]
end
end Go.Sx
namespace Go.Sx
open Go
section
variable {P:Program} {g:Gh} {ds:List Deferred}
theorem pn(fr:Fr):∀f,ev fr (.func f)=.func (.func f) #[] #[]:=λ_=>rfl
theorem Kr{o:Oper}{fr:Fr}{H:Hp}{k:zV->Prop}(h:opQ P g o (ev fr) H k):
  ∃v f args,(∀w,(execOp (ev fr) o).run P w=.ok (.enter f args) w)/\bC P g f args H (λe H'=>e=.returned v/\H'=H)/\k v:=by
 unfold opQ at h;split at h<;>try exact h.elim
 rename_i c hop;split at h<;>try exact h.elim
 ·rename_i f hc;cases fO:aU P f<;>simp only[fO,xap,xag]at h;obtain⟨v,hs,hk⟩:=h;rw[mapList]at hs;refine⟨v,f,_,λw=>?_,hs,hk⟩;simp only[execOp,hop,resolve,hc,Deferred.ofValue,pn,invoke];show(callFunc f ((#[]++c.args.map (ev fr))++ #[])).run P w=_;rw[xdc,xdE];exact fH fO _ w
 rename_i x _ hc;obtain⟨f,first,captured,hf,fO,v,hs,hk⟩:=h;rw[mapList]at hs;refine⟨v,f,_,λw=>?_,hs,hk⟩;simp only[execOp,hop,resolve,hc,Deferred.ofValue,hf,invoke];show(callFunc f (first++c.args.map (ev fr)++captured)).run P w=_;exact fH fO _ w
theorem oK.upon{o:Oper}{a:Act}{K:zV->Hp->Prop}{KP:List PanicEntry->Hp->Prop}{next:Act->World->Prop}{Q:Exit->Act->World->Prop}{r:Result Next}
 (h:oK P g K KP r)(hn:∀v H' w',Own g H' w'->K v H'->next (a.put o.dst v) w')(hp:∀ch H' w',Own g H' w'->KP ch H'->Q (.panic ch) a w'):o.upon P a next Q r:=by
 cases r with
 |ok n w'=>
  cases n<;>simp only[oK]at h<;>simp only[Oper.upon]
  case value v=>obtain⟨H',ho,hk⟩:=h;exact hn _ _ _ ho hk
  case skip=>obtain⟨H',ho,hk⟩:=h;exact hn _ _ _ ho hk
  case enter f args=>
   refine h.mono λe w'' ⟨H',ho,hk⟩=>?_;cases e with
   |returned v=>exact hn _ _ _ ho hk
   |panicked ch=>exact hp _ _ _ ho hk
   |outgrown=>exact hk.elim
 |halt x w'=>
  cases x<;>simp only[oK]at h
  case panic v=>obtain⟨H',ho,hk⟩:=h;exact hp _ _ _ ho hk
theorem eL.refl(l:List Oper)(fr:Fr):eL l fr fr:=λ_ _=>rfl
theorem eL.cons{o:Oper}{r:List Oper}{fr fr':Fr}{v:zV}(h:eL r (bK fr o.dst v) fr'):eL (o::r) fr fr':=λs hs=>by
 rw[dJ,xaG]at hs;rw[h s hs.2,gk hs.1]
theorem cJ{n:Nat}{ops:Array Oper}{gq:Bool}:∀(f:Nat) (q:Bool) (cur:Option (Nat×Bool)) (kn:List (Nat×Bool)) (l:List Oper) (fr:Fr) (H:Hp) (K:List (Nat×Bool)->Fr->Hp->Prop) (KP:List PanicEntry->Hp->Prop),
  eU P g n ops gq f q cur kn l fr H K KP->mu ops cur l fr->jg kn fr->∀(a:Act) (w:World),cA ds n a fr->Own g H w->∀(rest:List Oper) (Q:Exit->Act->World->Prop),
  (∀a' w' qN fr' H',cA ds n a' fr'->Own g H' w'->eL l fr fr'->jg qN fr'->K qN fr' H'->wpList P ops Q rest a' w')->
  (∀ch a' w' fr' H',cA ds n a' fr'->Own g H' w'->KP ch H'->Q (.panic ch) a' w')->wpList P ops Q (l++rest) a w
 |0,_,_,_,_,_,_,_,_,h=>h.elim
 |f+1,q,cur,kn,[],fr,H,K,KP,h=>λ_ hkn a w ha hw rest Q hk _=>hk a w kn fr H ha hw (eL.refl _ _) hkn h
 |f+1,q,cur,kn,o::r,fr,H,K,KP,h=>by
  intro jc hkn a w ha hw rest Q hk hp;unfold eU at h;cases hsg:cB o.guard cur<;>simp only[hsg,xap,xag]at h
  case true=>
   have hg:=js hsg;have pN:=jc.wanted hg ha;cases hd:eG n o.dst<;>simp only[hd,xap,xag]at h;simp only[xaQ,wpList,pN,xa7];refine .inl ?_;unfold Oper.wp;rw[ha.eval];cases Bf:wc o.op<;>simp only[Bf,xap,xag]at h
   case true=>
    obtain⟨v,hk',hr,hv⟩:=o5 h;rw[hr w hw];exact cJ f q cur _ r _ H K KP hk' (jc.tail λs hs=>gk hs) (hkn.up hv) _ w (ha.put hd v) hw rest Q (λa' w' qN fr' H' h1 h2 h3 h5 h4=>hk a' w' qN fr' H' h1 h2 h3.cons h5 h4) hp
   case false=>
    cases q<;>simp only[xap,xag]at h
    case true=>
     obtain⟨v,f',args,hr,hs,hk'⟩:=Kr h;rw[hr w];refine(hs w hw).mono λe w'' ⟨H',ho,he,hH⟩=>?_;subst he;subst hH;exact cJ f true cur _ r _ H' K KP hk' (jc.tail λs hs=>gk hs) (hkn.del _ _) _ w'' (ha.put hd v) ho rest Q (λa' w' qN fr' H' h1 h2 h3 h5 h4=>hk a' w' qN fr' H' h1 h2 h3.cons h5 h4) hp
    case false=>
     refine(vM (pn fr) h w hw).upon (λv H' w' ho hk'=>?_) (λch H' w' ho hk'=>hp ch a w' fr H' ha ho hk');exact cJ f false cur _ r _ H' K KP hk' (jc.tail λs hs=>gk hs) (hkn.del _ _) _ w' (ha.put hd v) ho rest Q (λa' w' qN fr' H' h1 h2 h3 h5 h4=>hk a' w' qN fr' H' h1 h2 h3.cons h5 h4) hp
  case false=>
   split at h<;>try exact h.elim
   rename_i j want hog;split at h<;>try exact h.elim
   rename_i s kM;generalize hG:ik cur (o::r)=G at h;generalize hR:jk cur (o::r)=R at h;have KN:G++R=o::r:=by rw[<-hG,<-hR];exact tu _ _
   cases fE:(eG n (some s) &&ja n G&& !bS G s&&nQ ops s want [] G)<;>simp only[fE,xap,xag]at h;simp only[xaF,xbG]at fE;obtain⟨⟨⟨hds,hdG⟩,Po⟩,X4⟩:=fE;rw[<-KN,xai];have ajk:∀fr',eL G fr fr'->∀s,bS (o::r) s=false->fr' s=fr s:=λfr' ho s hs=>by
    rw[<-KN,cq,xaG]at hs;exact ho s hs.1
   have oe:∀fr',eL G fr fr'->mu ops cur R fr':=λfr' ho=>by
    unfold mu at jc⊢;split
    ·trivial
    obtain⟨t,h1,h2,h3⟩:=jc;have zx:=h3;rw[<-KN,cq,xaG]at zx;exact⟨t,h1,(ho t zx.1).trans h2,zx.2⟩
   have M5:∀fr',eL G fr fr'->jg (mQ kn G) fr':=λfr' ho=>hkn.ad7 G ho;split at h
   ·rename_i b hb;have qQ:=hkn s b hb;cases Wy:(b==want)<;>simp only[Wy,xap,xag]at h
    ·have pE:b= !want:=by cases b<;>cases want<;>simp_all
     subst pE;refine oT G [] fr a hdG Po X4 qQ (λt ht=>by simp at ht) ha λa' dQ=>?_;refine cJ f q cur _ R _ H K KP h (oe _ (dh G fr)) (M5 _ (dh G fr)) a' w dQ hw rest Q (λa2 w2 FN tV H2 k1 k2 k3 k5 k4=>hk a2 w2 FN tV H2 k1 k2 ?_ k5 k4) hp;intro x hx;have hx':=hx;rw[<-KN,cq,xaG]at hx';rw[k3 x hx'.2,dh G fr x hx'.1]
    have pE:b=want:=by cases b<;>cases want<;>simp_all
    subst pE;refine cJ f q o.guard kn G fr H _ KP h ?_ hkn a w ha hw (R++rest) Q ?_ hp
    ·rw[hog];exact⟨s,kM,qQ,Po⟩
    intro a' w' qN fr' H' g1 g2 g3 g5 g4;refine cJ f q cur qN R fr' H' K KP g4 (oe fr' g3) g5 a' w' g1 g2 rest Q (λa2 w2 FN tV H2 k1 k2 k3 k5 k4=>hk a2 w2 FN tV H2 k1 k2 ?_ k5 k4) hp;intro x hx;have hx':=hx;rw[<-KN,cq,xaG]at hx';rw[k3 x hx'.2,g3 x hx'.1]
   rename_i ZR;cases hqq:(q||gq)<;>simp only[hqq,xap,xag]at h
   case true=>
    split at h<;>try exact h.elim
    rename_i p r' ;have hpg:cB p.guard cur=true:=by
     have:∀l:List Oper,jk cur l=p::r'->cB p.guard cur=true:=by
      intro l;induction l with
      |nil=>intro e;simp[jk]at e
      |cons x y ih=>
       intro e;simp only[jk]at e;cases hx:cB x.guard cur<;>simp only[hx,xap,xag]at e
       ·exact ih e
       simp only[xau]at e;rw[<-e.1];exact hx
     exact this _ hR
    cases hpk:(sM p&&eG n p.dst)<;>simp only[hpk,xap,xag]at h;simp only[xaF]at hpk;obtain⟨b,t,qQ,h1,h2,h3⟩:=h;have ig:∀(a':Act) (w':World) (fr':Fr),cA ds n a' fr'->Own g H w'->eL G fr fr'->qt p fr'=.bool t->wpList P ops Q (p::r'++rest) a' w':=by
     intro a' w' fr' dQ eO ho ZI;have pN:=(oe fr' ho).wanted (js hpg) dQ;simp only[xaQ,wpList,pN,xa7];refine .inl ?_;unfold Oper.wp;rw[dQ.eval,qs hpk.1 ZI w'];have R1:Bn G fr' fr=fr':=by
      funext x
      simp only[Bn];cases hx:bS G x
      ·exact(ho x hx).symm
      rfl
     have zx:=h3 fr';rw[R1]at zx;refine cJ f q cur _ r' _ H K KP zx ((oe fr' ho).tail λs hs=>gk hs) ((M5 fr' ho).del _ _) _ w' (dQ.put hpk.2 _) eO rest Q (λa2 w2 FN tV H2 g1 g2 g3 g5 g4=>hk a2 w2 FN tV H2 g1 g2 ?_ g5 g4) hp;intro x hx;have hx':=hx;rw[<-KN,cq,xaG,dJ,xaG]at hx';rw[g3 x hx'.2.2,gk hx'.2.1,ho x hx'.1]
    by_cases Wy:b=want
    ·subst Wy;have qy:=h1 rfl;rw[lf qQ]at qy;refine cJ f true o.guard _ G fr H _ _ qy ?_ (hkn.put qQ) a w ha hw (p::r'++rest) Q ?_ ?_
     ·rw[hog];exact⟨s,kM,qQ,Po⟩
     ·intro a' w' qN fr' H' g1 g2 g3 _ ⟨g4,g5⟩;subst g4;exact ig a' w' fr' g1 g2 g3 g5
     intro _ _ _ _ _ _ _ h0;exact h0.elim
    have pE:b= !want:=by cases b<;>cases want<;>simp_all
    have nL:=h2 pE;subst pE;rw[lf qQ]at nL;refine oT G [] fr a hdG Po X4 qQ (λt ht=>by simp at ht) ha λa' dQ=>?_;exact ig a' w _ dQ hw (dh G fr) nL
   case false=>
    obtain⟨b,qQ,h1,h2⟩:=h;by_cases Wy:b=want
    ·subst Wy;have qy:=h1 rfl;rw[lf qQ]at qy;refine cJ f q o.guard _ G fr H _ KP qy ?_ (hkn.put qQ) a w ha hw (R++rest) Q ?_ hp
     ·rw[hog];exact⟨s,kM,qQ,Po⟩
     intro a' w' qN fr' H' g1 g2 g3 g5 g4;refine cJ f q cur qN R fr' H' K KP g4 (oe fr' g3) g5 a' w' g1 g2 rest Q (λa2 w2 FN tV H2 k1 k2 k3 k5 k4=>hk a2 w2 FN tV H2 k1 k2 ?_ k5 k4) hp;intro x hx;have hx':=hx;rw[<-KN,cq,xaG]at hx';rw[k3 x hx'.2,g3 x hx'.1]
    have pE:b= !want:=by cases b<;>cases want<;>simp_all
    have nL:=h2 pE;subst pE;rw[lf qQ]at nL;refine oT G [] fr a hdG Po X4 qQ (λt ht=>by simp at ht) ha λa' dQ=>?_;refine cJ f q cur _ R _ H K KP nL (oe _ (dh G fr)) ((M5 _ (dh G fr)).put (by rw[dh G fr s Po,qQ])) a' w dQ hw rest Q (λa2 w2 FN tV H2 k1 k2 k3 k5 k4=>hk a2 w2 FN tV H2 k1 k2 ?_ k5 k4) hp;intro x hx;have hx':=hx;rw[<-KN,cq,xaG]at hx';rw[k3 x hx'.2,dh G fr x hx'.1]
theorem dM{n:Nat}{ops:Array Oper}{gq:Bool}:∀(f:Nat) (cur:Option (Nat×Bool)) (kn:List (Nat×Bool)) (l:List Oper) (fr:Fr) (H:Hp) (K:List (Nat×Bool)->Fr->Hp->Prop) (KP:List PanicEntry->Hp->Prop),
  eU P g n ops gq f true cur kn l fr H K KP->mu ops cur l fr->jg kn fr->∀(a:Act),cA ds n a fr->∀(rest:List Oper) (Q:Act->Prop),
  (∀a' qN fr',cA ds n a' fr'->eL l fr fr'->jg qN fr'->K qN fr' H->wpQuiet P ops (Own g H) Q rest a')->wpQuiet P ops (Own g H) Q (l++rest) a
 |0,_,_,_,_,_,_,_,h=>h.elim
 |f+1,cur,kn,[],fr,H,K,KP,h=>λ_ hkn a ha rest Q hk=>hk a kn fr ha (eL.refl _ _) hkn h
 |f+1,cur,kn,o::r,fr,H,K,KP,h=>by
  intro jc hkn a ha rest Q hk;unfold eU at h;cases hsg:cB o.guard cur<;>simp only[hsg,xap,xag]at h
  case true=>
   have hg:=js hsg;have pN:=jc.wanted hg ha;cases hd:eG n o.dst<;>simp only[hd,xap,xag]at h;simp only[xaQ,wpQuiet,pN,xa7];cases Bf:wc o.op<;>simp only[Bf,xap,xag]at h
   case true=>
    obtain⟨v,hk',hr,hv⟩:=o5 h;refine⟨v,λw hw=>?_,?_⟩
    ·unfold Oper.quietAt;rw[ha.eval,hr w hw];exact⟨rfl,rfl⟩
    exact dM f cur _ r _ H K KP hk' (jc.tail λs hs=>gk hs) (hkn.up hv) _ (ha.put hd v) rest Q (λa' qN fr' h1 h3 h5 h4=>hk a' qN fr' h1 h3.cons h5 h4)
   case false=>
    obtain⟨v,f',args,hr,hs,hk'⟩:=Kr h;refine⟨v,λw hw=>?_,?_⟩
    ·unfold Oper.quietAt;rw[ha.eval,hr w];refine⟨rfl,(hs w hw).mono λe w'' ⟨H',ho,he,hH⟩=>?_⟩;subst hH;exact⟨he,ho⟩
    exact dM f cur _ r _ H K KP hk' (jc.tail λs hs=>gk hs) (hkn.del _ _) _ (ha.put hd v) rest Q (λa' qN fr' h1 h3 h5 h4=>hk a' qN fr' h1 h3.cons h5 h4)
  case false=>
   split at h<;>try exact h.elim
   rename_i j want hog;split at h<;>try exact h.elim
   rename_i s kM;generalize hG:ik cur (o::r)=G at h;generalize hR:jk cur (o::r)=R at h;have KN:G++R=o::r:=by rw[<-hG,<-hR];exact tu _ _
   cases fE:(eG n (some s) &&ja n G&& !bS G s&&nQ ops s want [] G)<;>simp only[fE,xap,xag]at h;simp only[xaF,xbG]at fE;obtain⟨⟨⟨hds,hdG⟩,Po⟩,X4⟩:=fE;rw[<-KN,xai];have oe:∀fr',eL G fr fr'->mu ops cur R fr':=λfr' ho=>by
    unfold mu at jc⊢;split
    ·trivial
    obtain⟨t,h1,h2,h3⟩:=jc;have zx:=h3;rw[<-KN,cq,xaG]at zx;exact⟨t,h1,(ho t zx.1).trans h2,zx.2⟩
   have M5:∀fr',eL G fr fr'->jg (mQ kn G) fr':=λfr' ho=>hkn.ad7 G ho;split at h
   ·rename_i b hb;have qQ:=hkn s b hb;cases Wy:(b==want)<;>simp only[Wy,xap,xag]at h
    ·have pE:b= !want:=by cases b<;>cases want<;>simp_all
     subst pE;refine qd G [] fr a hdG Po X4 qQ (λt ht=>by simp at ht) ha λa' dQ=>?_;refine dM f cur _ R _ H K KP h (oe _ (dh G fr)) (M5 _ (dh G fr)) a' dQ rest Q (λa2 FN tV k1 k3 k5 k4=>hk a2 FN tV k1 ?_ k5 k4);intro x hx;have hx':=hx;rw[<-KN,cq,xaG]at hx';rw[k3 x hx'.2,dh G fr x hx'.1]
    have pE:b=want:=by cases b<;>cases want<;>simp_all
    subst pE;refine dM f o.guard kn G fr H _ KP h ?_ hkn a ha (R++rest) Q ?_
    ·rw[hog];exact⟨s,kM,qQ,Po⟩
    intro a' qN fr' g1 g3 g5 g4;refine dM f cur qN R fr' H K KP g4 (oe fr' g3) g5 a' g1 rest Q (λa2 FN tV k1 k3 k5 k4=>hk a2 FN tV k1 ?_ k5 k4);intro x hx;have hx':=hx;rw[<-KN,cq,xaG]at hx';rw[k3 x hx'.2,g3 x hx'.1]
   rename_i ZR;simp only[Bool.true_or,xap]at h;split at h<;>try exact h.elim
   rename_i p r' ;have hpg:cB p.guard cur=true:=by
    have:∀l:List Oper,jk cur l=p::r'->cB p.guard cur=true:=by
     intro l;induction l with
     |nil=>intro e;simp[jk]at e
     |cons x y ih=>
      intro e;simp only[jk]at e;cases hx:cB x.guard cur<;>simp only[hx,xap,xag]at e
      ·exact ih e
      simp only[xau]at e;rw[<-e.1];exact hx
    exact this _ hR
   cases hpk:(sM p&&eG n p.dst)<;>simp only[hpk,xap,xag]at h;simp only[xaF]at hpk;obtain⟨b,t,qQ,h1,h2,h3⟩:=h;have ig:∀(a':Act) (fr':Fr),cA ds n a' fr'->eL G fr fr'->qt p fr'=.bool t->wpQuiet P ops (Own g H) Q (p::r'++rest) a':=by
    intro a' fr' dQ ho ZI;have pN:=(oe fr' ho).wanted (js hpg) dQ;simp only[xaQ,wpQuiet,pN,xa7];refine⟨.bool t,λw hw=>?_,?_⟩
    ·unfold Oper.quietAt;rw[dQ.eval,qs hpk.1 ZI w];exact⟨rfl,rfl⟩
    have R1:Bn G fr' fr=fr':=by
     funext x
     simp only[Bn];cases hx:bS G x
     ·exact(ho x hx).symm
     rfl
    have zx:=h3 fr';rw[R1]at zx;refine dM f cur _ r' _ H K KP zx ((oe fr' ho).tail λs hs=>gk hs) ((M5 fr' ho).del _ _) _ (dQ.put hpk.2 _) rest Q (λa2 FN tV g1 g3 g5 g4=>hk a2 FN tV g1 ?_ g5 g4);intro x hx;have hx':=hx;rw[<-KN,cq,xaG,dJ,xaG]at hx';rw[g3 x hx'.2.2,gk hx'.2.1,ho x hx'.1]
   by_cases Wy:b=want
   ·subst Wy;have qy:=h1 rfl;rw[lf qQ]at qy;refine dM f o.guard _ G fr H _ _ qy ?_ (hkn.put qQ) a ha (p::r'++rest) Q ?_
    ·rw[hog];exact⟨s,kM,qQ,Po⟩
    intro a' qN fr' g1 g3 _ ⟨_,g5⟩;exact ig a' fr' g1 g3 g5
   have pE:b= !want:=by cases b<;>cases want<;>simp_all
   have nL:=h2 pE;subst pE;rw[lf qQ]at nL;refine qd G [] fr a hdG Po X4 qQ (λt ht=>by simp at ht) ha λa' dQ=>?_;exact ig a' _ dQ (dh G fr) nL
end
end Go.Sx
namespace Go.Sx
open Go
section
variable {P:Program} {ops:Array Oper} {Q:Exit->Act->World->Prop} {md:Region.Mode} {S:Nat->World->World->Prop} {S0:World->Prop}
def dc(P:Program)(md:Region.Mode)(ops:Array Oper)(Q:Exit->Act->World->Prop)(S:Nat->World->World->Prop):Nat->Array Bool->Act->World->Prop
 |0,listed,a,w=>Region.ready md ops listed=[]/\Q .normal a w
 |n+1,listed,a,w=>(Region.ready md ops listed=[]->Q .normal a w)/\
  ∀i∈Region.ready md ops listed,wpOp P ops Q i (λa' w'=>S i w w'/\dc P md ops Q S n (listed.setIfInBounds i true) a' w') a w
theorem dc.any:∀{n:Nat} {listed:Array Bool} {a:Act} {w:World},dc P md ops Q S n listed a w->wpAny P md ops Q n listed a w
 |0,_,_,_,h=>h
 |_+1,_,_,_,h=>⟨h.1,λi hi=>wpOp_mono (λ_ _ h'=>h'.2.any) (h.2 i hi)⟩
theorem dc.mono{S':Nat->World->World->Prop}(hS:∀j w w',S j w w'->S' j w w'):∀{n:Nat} {listed:Array Bool} {a:Act} {w:World},dc P md ops Q S n listed a w->dc P md ops Q S' n listed a w
 |0,_,_,_,h=>h
 |_+1,_,_,_,h=>⟨h.1,λi hi=>wpOp_mono (λ_ _ h'=>⟨hS _ _ _ h'.1,h'.2.mono hS⟩) (h.2 i hi)⟩
def QY(md:Region.Mode)(ops:Array Oper)(i j:Nat):Prop:=∀oj,ops[j]? =some oj->∀e∈oj.after,Region.binds md e=true->e.on≠i
def fo(md:Region.Mode)(ops:Array Oper)(listed:Array Bool):Prop:=∀j oj,ops[j]? =some oj->listed.getD j true=true->∀e∈oj.after,Region.binds md e=true->listed.getD e.on true=true
inductive oC(md:Region.Mode)(ops:Array Oper)(i:Nat):Nat->Prop
 |one {j:Nat} {oj:Oper} {e:Edge}:ops[j]? =some oj->e∈oj.after->Region.binds md e=true->e.on=i->oC md ops i j
 |more {j:Nat} {oj:Oper} {e:Edge}:ops[j]? =some oj->e∈oj.after->Region.binds md e=true->oC md ops i e.on->oC md ops i j
theorem Bm{a:Array Bool}{i:Nat}(h:a.getD i false=true):a.getD i true=true:=by
 rw[xas]at*;cases hg:a[i]? with
 |none=>rfl
 |some b=>rw[hg]at h;simpa using h
theorem tR{a:Array Bool}{i k:Nat}(h:a.getD k true=true):(a.setIfInBounds i true).getD k true=true:=by
 by_cases e:i=k
 ·subst e;rw[xas,xdO];split<;>rfl
 rw[getD_set_ne true e];exact h
theorem fo.waits{listed:Array Bool}(hc:fo md ops listed){i j:Nat}(h:oC md ops i j):listed.getD j true=true->listed.getD i true=true:=by
 induction h with
 |one h1 h2 h3 h4=>intro h;rw[<-h4];exact hc _ _ h1 h _ h2 h3
 |more h1 h2 h3 _ ih=>intro h;exact ih (hc _ _ h1 h _ h2 h3)
theorem fo.ready{listed:Array Bool}(hc:fo md ops listed){i j:Nat}(hj:j∈Region.ready md ops listed)(h:oC md ops i j):listed.getD i true=true:=by
 obtain⟨_,oj,jj,aJ⟩:=mem_ready.1 hj;cases h with
 |one h1 h2 h3 h4=>rw[jj]at h1;cases h1;rw[<-h4];exact Bm (aJ _ h2 h3)
 |more h1 h2 h3 h4=>rw[jj]at h1;cases h1;exact hc.waits h4 (Bm (aJ _ h2 h3))
theorem fo.step{listed:Array Bool}(hc:fo md ops listed){j:Nat}(hj:j∈Region.ready md ops listed):fo md ops (listed.setIfInBounds j true):=by
 intro k ok hk hl e he hb;by_cases Wu:j=k
 ·subst Wu;obtain⟨_,oj,jj,aJ⟩:=mem_ready.1 hj;rw[hk]at jj;cases jj;exact tR (Bm (aJ e he hb))
 rw[getD_set_ne true Wu]at hl;exact tR (hc k ok hk hl e he hb)
theorem fo.none(n:Nat)(h:ops.size=n):fo md ops (Array.replicate n false):=by
 intro j oj hj hl;exfalso;have hlt:=(xaS.1 hj).1;rw[xas,xc2,xad zO]at hl;cases hl
theorem dc.first{i:Nat}{oi:Oper}{v:zV}(hi:ops[i]? =some oi)(hsel:Region.noSelect ops=true)(hQ:∀c a w,Q (.panic c) (a.put oi.dst v) w->Q (.panic c) a w)
 (hSi:∀w,S0 w->S i w w)(hS:∀j oj w w',ops[j]? =some oj->j≠i->¬oC md ops i j->S0 w->S j w w'->S0 w'):∀(n:Nat) (listed:Array Bool) (a:Act) (w:World),fo md ops listed->
   (∀j oj,ops[j]? =some oj->j≠i->listed.getD j true=false->QY md ops i j->oi.apart ops oj=true)->i∈Region.ready md ops listed->YieldsIf P ops S0 oi v a->S0 w->
   dc P md ops Q S n (listed.setIfInBounds i true) (a.put oi.dst v) w->dc P md ops Q S (n+1) listed a w:=by
 have sel:=Region.noSelect_spec hsel;intro n;induction n with
 |zero=>
  intro listed a w hc hfree hr hy h0 h;refine⟨λe=>absurd hr (by rw[e];simp),λj hj=>?_⟩;by_cases e:j=i
  ·rw[e];exact hy.wpOp hi h0 ⟨hSi _ h0,h⟩
  exact absurd (ready_mono hj e) (by rw[h.1];simp)
 |succ n ih=>
  intro listed a w hc hfree hr hy h0 h;refine⟨λe=>absurd hr (by rw[e];simp),λj hj=>?_⟩;by_cases e:j=i
  ·rw[e];exact hy.wpOp hi h0 ⟨hSi _ h0,h⟩
  obtain⟨hun,oj,jj,aJ⟩:=mem_ready.1 hj;have hno:QY md ops i j:=λo ho x hx hb he=>by
   rw[jj]at ho;cases ho;have h1:=aJ x hx hb;have h2:=(mem_ready.1 hr).1;rw[he]at h1;rw[xas]at h1 h2;cases hg:listed[i]? with
   |none=>rw[hg]at h1;simp at h1
   |some y=>rw[hg]at h1 h2;simp at h1 h2;rw[h2]at h1;cases h1
  have hnw:¬oC md ops i j:=λhw=>by
   have h1:=hc.ready hj hw;rw[(mem_ready.1 hr).1]at h1;cases h1
  refine wpOp_mono ?_ (wpOp_putIf jj (hfree j oj jj e hun hno) (λcs b=>sel i oi cs b hi) (λcs b=>sel j oj cs b jj) hQ hy (h.2 j (ready_mono hj e)));rintro a' w' ⟨hy',hs',ji⟩;refine⟨hs',ih _ _ _ (hc.step hj) (λk ok hk ZU Wd Dz=>hfree k ok hk ZU ?_ Dz) (ready_mono hr (xa9 e)) hy' (hS j oj w w' jj e hnw h0 hs') (by rw[Array.setIfInBounds_comm _ _ e];exact ji)⟩;by_cases Wu:j=k
  ·rw[<-Wu];exact hun
  rw[<-Wd,getD_set_ne true Wu]
theorem dc.take{i:Nat}{oi:Oper}{v:zV}{n:Nat}{listed:Array Bool}{a:Act}{w:World}(hc:fo md ops listed)(hi:ops[i]? =some oi)(hsel:Region.noSelect ops=true)(hf:Region.free md ops listed i=true)
 (hr:(Region.ready md ops listed).contains i=true)(hQ:∀c a w,Q (.panic c) (a.put oi.dst v) w->Q (.panic c) a w)(hSi:∀w,S0 w->S i w w)(hS:∀j oj w w',ops[j]? =some oj->j≠i->¬oC md ops i j->S0 w->S j w w'->S0 w')
 (hy:YieldsIf P ops S0 oi v a)(h0:S0 w)(h:dc P md ops Q S n (listed.setIfInBounds i true) (a.put oi.dst v) w):dc P md ops Q S (n+1) listed a w:=
 dc.first hi hsel hQ hSi hS n listed a w hc (λj oj h1 h2 h3 h4=>Region.free_spec hi hf j oj h1 h2 h3 (h4 oj h1)) (by simpa using hr) hy h0 h
theorem dc.all{rs:zL}{n:Nat}{listed:Array Bool}{a:Act}{w:World}(hr:Region.ready md ops listed=rs)(hne:rs≠[])
 (h:∀i∈rs,wpOp P ops Q i (λa' w'=>S i w w'/\dc P md ops Q S n (listed.setIfInBounds i true) a' w') a w):dc P md ops Q S (n+1) listed a w:=
 ⟨λh0=>absurd (hr▸h0) hne,hr▸h⟩
theorem dc.done{listed:Array Bool}{a:Act}{w:World}(hr:Region.ready md ops listed=[])(h:Q .normal a w):∀n,dc P md ops Q S n listed a w
 |0=>⟨hr,h⟩
 |_+1=>⟨λ_=>h,by rw[hr];simp⟩
def onB(j:Oper)(i:Nat):Bool:=j.after.toList.any λe=>Nat.beq e.on i&&Region.binds .any e
def isN(P:Program):Op->Bool
 | .move _| .assign _| .pick .. | .nilCheck _| .fieldAddr .. | .field .. | .indexAddr .. | .unOp .. =>true
 | .slice t _ _ _ none=>match P.underlying t with|some (.slice _)=>true|_=>false
 | .binOp _ t _ _ _=>match P.underlying t with
  |some d=>match Bz d with| .other=>false|_=>true
  |none=>true
 |_=>false
theorem CK{g:Gh}{o:Oper}(h:isN P o.op=true)(ρ:Operand->zV)(H H':Hp)(k:zV->Prop):EB P g o ρ H k=EB P g o ρ H' k:=by
 obtain⟨d,op,t,p,a,gd⟩:=o;cases op<;>first|rfl|(simp only[isN]at h;first|cases h|skip)
 case binOp op t x y z=>
  simp only[EB];cases hu:P.underlying t with
  |none=>rfl
  |some d=>
   simp only[hu]at h;cases hb:Bz d<;>simp only[hb]at h⊢;cases h
 case slice t x lo hi m=>
  cases m with
  |none=>
   simp only[EB];cases hu:P.underlying t with
   |none=>simp[hu]at h
   |some d=>cases d<;>first|rfl|(exfalso;simp[hu]at h)
  |some m=>cases h
def x9(P:Program)(o:Op):Bool:=wc o&& !isN P o
def Ku(P:Program)(ops:Array Oper)(j:Nat):Bool:=match ops[j]? with
 |some oj=>(List.range ops.size).any λi=>match ops[i]? with|some oi=>x9 P oi.op&& !onB oj i&& !Nat.beq i j|none=>false
 |none=>true
def pY(ops:Array Oper)(i:Nat):Nat->Nat->Bool
 |0,_=>false
 |n+1,j=>match ops[j]? with
  |some oj=>oj.after.toList.any λe=>Region.binds .any e&& (Nat.beq e.on i||pY ops i n e.on)
  |none=>false
theorem tq{i:Nat}:∀{n j:Nat},pY ops i n j=true->oC .any ops i j
 |0,j,h=>by simp[pY]at h
 |n+1,j,h=>by
  unfold pY at h;split at h
  ·rename_i oj jj;obtain⟨e,he,h2⟩:=xcx.1 h;simp only[xaF,xbs]at h2;rcases h2.2 with h3|h3
   ·exact .one jj (xcZ.1 he) h2.1 (xaI h3)
   exact .more jj (xcZ.1 he) h2.1 (tq h3)
  cases h
def tG(P:Program)(ops:Array Oper)(j:Nat):Bool:=(List.range ops.size).any λi=>match ops[i]? with|some oi=>x9 P oi.op&& !pY ops i 6 j&& !Nat.beq i j|none=>false
def Lv(P:Program)(g:Gh)(R:Hp)(ops:Array Oper)(j:Nat)(w w':World):Prop:=∀oj,ops[j]? =some oj->(wc oj.op=true->w'=w)/\(wc oj.op=false->Own g [] w'/\(tG P ops j=true->Own g R w->Own g R w'))
def qK(P:Program)(g:Gh)(Xs:List Hp)(ops:Array Oper)(j:Nat)(w w':World):Prop:=∀X∈Xs,Lv P g X ops j w w'
theorem mN{i j:Nat}{oi:Oper}(hi:ops[i]? =some oi)(hp:x9 P oi.op=true)(hne:j≠i)(h:¬oC .any ops i j):tG P ops j=true:=by
 unfold tG;rw[xcx];refine⟨i,xaM.2 (xaS.1 hi).1,?_⟩;simp only[hi,hp,xco,xaF,xbG];refine⟨?_,?_⟩
 ·cases hb:pY ops i 6 j
  ·rfl
  exact absurd (tq hb) h
 cases hb:Nat.beq i j
 ·rfl
 exact absurd (xaI hb).symm hne
theorem vP{j:Nat}(h:tG P ops j=true):Ku P ops j=true:=by
 unfold tG at h;obtain⟨i,hi,h2⟩:=xcx.1 h;unfold Ku;split
 ·rename_i oj jj;refine xcx.2 ⟨i,hi,?_⟩;split at h2
  ·rename_i oi pc;simp only[xaF,xbG]at h2⊢;refine⟨⟨h2.1.1,?_⟩,h2.2⟩;cases hb:onB oj i
   ·rfl
   have h3:=h2.1.2;unfold pY at h3;simp only[jj]at h3;unfold onB at hb;obtain⟨e,he,h4⟩:=xcx.1 hb;rw[<-xel,xcx]at h3;refine absurd ⟨e,he,?_⟩ h3;simp only[xaF,xbs]at h4⊢;exact⟨h4.2,.inl h4.1⟩
  cases h2
 rfl
end
end Go.Sx
namespace Go.Sx
open Go
section
variable {P:Program} {g:Gh} {ds:List Deferred}
def LG(b:Bool)(p q:Prop):Prop:=cond b (p/\q) q
theorem LG.of{b:Bool}{p q:Prop}(h:LG b p q):(b=true->p)/\q:=by
  cases b
  · exact⟨λe=>(by cases e),h⟩
  · exact⟨λ_=>h.1,h.2⟩
def Q0(P:Program)(ops:Array Oper)(T:zL)(i:Nat):Bool:=cond T.isEmpty (Ku P ops i) (tG P ops i)
theorem QZ{ops:Array Oper}{T:zL}{i:Nat}(h:tG P ops i=true):Q0 P ops T i=true:=by
  unfold Q0;cases T.isEmpty
  · exact h
  · exact vP h
def ND(P:Program)(g:Gh)(n:Nat)(ops:Array Oper)(R:Hp)(K:Fr->Hp->Prop):zL->Array Bool->Fr->Hp->Prop
  | [],listed,fr,H=>cond (Region.ready .any ops listed).isEmpty (K fr H) False
  |i::r,listed,fr,H=>
    match ops[i]? with
    |none=>False
    |some o=>
      cond (eG n o.dst&&o.guard.isNone)
        (cond (wc o.op)
          (cond (Region.free .any ops listed i&& (Region.ready .any ops listed).contains i)
            (EB P g o (ev fr) R λv=>ND P g n ops R K r (listed.setIfInBounds i true) (bK fr o.dst v) H) False)
          (cond (Region.ready .any ops listed==[i])
            (Ue P g o (ev fr) H (λv H'=>LG (Ku P ops i) (aM H' R) (ND P g n ops R K r (listed.setIfInBounds i true) (bK fr o.dst v) H')) (λ_ _=>False)) False)) False
def r6(Q:Exit->Act->World->Prop):Exit->Act->World->Prop
  | .panic _,_,_=>False
  |e,a,w=>Q e a w
theorem kD{o:Oper}(h:o.guard.isNone=true)(y:Nat->Option Bool):Region.wanted o y=true:=by
  unfold Region.wanted;cases hg:o.guard<;>simp_all
theorem Own.bg{g:Gh}{H:Hp}{w:World}(h:Own g H w):Own g [] w:=Own.right (A:=H) (B:=[]) (by simpa using h)
theorem gA{listed:Array Bool}{i k:Nat}(hun:listed.getD i true=false)(h:(listed.setIfInBounds i true).getD k true=false):listed.getD k true=false:=by
  by_cases e:i=k
  · rw[<-e];exact hun
  · rwa [getD_set_ne true e]at h
theorem rS{n:Nat}{ops:Array Oper}{R:Hp}{K:Fr->Hp->Prop}{Q:Exit->Act->World->Prop}(hs:Region.noSelect ops=true)(yh:Fr)
   (hk:∀a w fr H,cA ds n a fr->Own g H w->eL ops.toList yh fr->K fr H->Q .normal a w):
    ∀(l:zL) (listed:Array Bool) (fr:Fr) (H:Hp),ND P g n ops R K l listed fr H->∀(fuel:Nat),l.length<=fuel->fo .any ops listed->∀(a:Act) (w:World),cA ds n a fr->Own g H w->((∃k ok,ops[k]? =some ok/\x9 P ok.op=true/\listed.getD k true=false)->Own g R w)->eL ops.toList yh fr->
      dc P .any ops (r6 Q) (Lv P g R ops) fuel listed a w
  | [],listed,fr,H,h=>by
    intro fuel _ jz a w ha hw hR ho;unfold ND at h;cases hr:(Region.ready .any ops listed).isEmpty<;>simp only[hr,xap,xag]at h;exact dc.done (Q:=r6 Q) (by simpa using hr) (hk a w fr H ha hw ho h) fuel
  |i::r,listed,fr,H,h=>by
    intro fuel hfuel jz a w ha hw hR ho;unfold ND at h;split at h<;>try exact h.elim
    rename_i o pc;have hmem:o∈ops.toList:=xcZ.2 (Array.mem_of_getElem? pc);have hout:∀v,eL ops.toList yh (bK fr o.dst v):=λv s hs'=>by
      rw[gk,ho s hs'];have:∀l:List Oper,o∈l->bS l s=false->bS [({(default:Oper)with dst:=o.dst})] s=false:=by
        intro l;induction l with
        |nil=>intro h;simp at h
        |cons x y ih=>
          intro hm hi;rw[dJ,xaG]at hi;rcases xak.1 hm with rfl|hm
          · exact hi.1
          · exact ih hm hi.2
      exact this _ hmem hs'
    cases hc:(eG n o.dst&&o.guard.isNone)<;>simp only[hc,xap,xag]at h;simp only[xaF]at hc;obtain⟨fuel,rfl⟩:∃f,fuel=f+1:=⟨fuel-1,by simp only[xaz]at hfuel;omega⟩;have Ga:r.length<=fuel:=by simp only[xaz]at hfuel;omega
    cases Bf:wc o.op<;>simp only[Bf,xap,xag]at h
    case true=>
      cases kj:(Region.free .any ops listed i&& (Region.ready .any ops listed).contains i)<;>simp only[kj,xap,xag]at h;simp only[xaF]at kj;have hun:=(mem_ready.1 (by simpa using kj.2:i∈Region.ready .any ops listed)).1;have iS:∀w,Lv P g R ops i w w:=λw oj nD=>⟨λ_=>rfl,λhn=>(by rw[pc]at nD;cases nD;rw[Bf]at hn;cases hn)⟩;cases hn:isN P o.op
      case true=>
        rw[CK hn (ev fr) R []]at h;obtain⟨v,hk',hr⟩:=lH h;refine dc.take jz (S0:=Own g []) pc hs kj.1 kj.2 (λ_ _ _ h=>h) (λw _=>iS w) (λj oj w w' jj hj hno h0 hk=>?_) (.inl ⟨kD hc.2 _,λw' eO=>by rw[ha.eval];exact hr w' eO⟩) hw.bg ?_
        · cases Be:wc oj.op
          · exact((hk oj jj).2 Be).1
          · rw[(hk oj jj).1 Be];exact h0
        · refine rS hs yh hk r _ _ H hk' fuel Ga (jz.step (by simpa using kj.2)) _ w (ha.put hc.1 v) hw ?_ (hout v)
          rintro⟨k,ok,uA,rK,pO⟩;exact hR ⟨k,ok,uA,rK,gA hun pO⟩
      case false=>
        obtain⟨v,hk',hr⟩:=lH h;have hrd:x9 P o.op=true:=by simp[x9,Bf,hn]
        have WJ:Own g R w:=hR ⟨i,o,pc,hrd,hun⟩;refine dc.take jz (S0:=Own g R) pc hs kj.1 kj.2 (λ_ _ _ h=>h) (λw _=>iS w) (λj oj w w' jj hj hno h0 hk=>?_) (.inl ⟨kD hc.2 _,λw' eO=>by rw[ha.eval];exact hr w' eO⟩) WJ ?_
        · cases Be:wc oj.op
          · exact((hk oj jj).2 Be).2 (mN pc hrd hj hno) h0
          · rw[(hk oj jj).1 Be];exact h0
        · exact rS hs yh hk r _ _ H hk' fuel Ga (jz.step (by simpa using kj.2)) _ w (ha.put hc.1 v) hw (λ_=>WJ) (hout v)
    case false=>
      cases kj:(Region.ready .any ops listed==[i])<;>simp only[kj,xap,xag]at h;have hrd:=xcO.1 kj;have EE:i∈Region.ready .any ops listed:=by rw[hrd];simp
      refine dc.all hrd zI λj hj=>?_;simp only[xaw]at hj;subst hj;unfold wpOp;simp only[pc,kD hc.2,xa7];refine .inl ?_;unfold Oper.wp;rw[ha.eval];refine(vM (pn fr) h w hw).upon (λv H' w' cz hb=>?_) (λch H' w' _ h0=>h0.elim);obtain⟨he,hk'⟩:=hb.of;refine⟨λoj nD=>⟨λhp=>(by rw[pc]at nD;cases nD;rw[Bf]at hp;cases hp),λ_=>⟨cz.bg,λhn _=>he (vP hn) _ _ cz⟩⟩,rS hs yh hk r _ _ H' hk' fuel Ga (jz.step EE) _ w' (ha.put hc.1 v) cz ?_ (hout v)⟩;rintro⟨k,ok,uA,rK,pO⟩;refine he (vP ?_) _ _ cz;have ZU:j≠k:=λe=>by
        subst e;rw[xas,xdO]at pO;have:=(mem_ready.1 EE).1;rw[xas]at this;split at pO
        · simp at pO
        · rename_i hlt;rw[xct zO]at this;simp at this
      rw[getD_set_ne true ZU]at pO;refine mN uA rK ZU λhw=>?_;rw[jz.ready EE hw]at pO;cases pO
abbrev Mk:=Obj×(Nat->zV)
def TZ(elem size bytes:Nat)(zero:zV)(l c:zV)(k:Mk->Prop):Prop:=
  ∃kl kc ln cn,l=.int kl (ln:Nat)/\c=.int kc (cn:Nat)/\ln<=cn/\(cn:Int)<=9223372036854775807/\cn*bytes<=281474976710656/\
    k (.cells (madeCells zero.cells (cn*size)) elem (0,0),λb=>.slice (some ⟨b,0,none⟩) ln cn)
def Ub(P:Program)(t len:Nat)(parts:List (Nat×zV))(k:Mk->Prop):Prop:=
  ∃cs e n z,P.underlying t=some (.slice e)/\dH P e=some n/\fJ P e=some z/\len*n<=2^24/\
      Instr.fill (λi=>some (i*n,n)) ((Array.range (len*n)).map (z.cells[· %z.cells.size]!)) parts=some cs/\k (.cells cs e (0,0),λb=>.slice (some ⟨b,0,none⟩) len len)
def Claim(P:Program)(o:Oper)(ρ:Operand->zV)(k:Mk->Prop):Prop:=
  match o.op with
  | .alloc t=>match fJ P t with
    |some z=>k (.cells z.cells t (0,0),λb=>.pointer (some ⟨b,0,none⟩))
    |none=>False
  | .makeMap _ none=>k (.map #[] 0,λb=>.map (some b))
  | .makeSlice t l c=>match P.underlying t with
    |some (.slice e)=>match dH P e,wW P e,fJ P e with
      |some n,some b,some z=>TZ e n b z (ρ l) (ρ c) k
      |_,_,_=>False
    |_=>False
  | .buildSlice t len parts=>Ub P t len (parts.toList.map λp=>(p.1,ρ p.2)) k
  |_=>False
def Aj(P:Program)(o:Oper)(ρ:Operand->zV)(x:Mk):Prop:=∀w,(execOp ρ o).run P w=.ok (.value (x.2 w.heap.size)) (w.alloc x.1)
theorem Claim.makes{o:Oper}{ρ:Operand->zV}{k:Mk->Prop}(h:Claim P o ρ k):∃x,Aj P o ρ x/\k x:=by
  unfold Claim at h;split at h
  · rename_i t hop
    split at h<;>try exact h.elim
    rename_i z hz;obtain⟨i,hi,yd⟩:=cH hz;refine⟨_,λw=>?_,h⟩;simp only[execOp,hop];simp[Instr.alloc,dU hi yd,newVar,newRow]
  · rename_i t hop
    refine⟨_,λw=>?_,h⟩;simp only[execOp,hop];simp[Instr.makeMap]
  · rename_i t l c hop
    split at h<;>try exact h.elim
    rename_i e ht;split at h<;>try exact h.elim
    rename_i n b z hn hb hz;obtain⟨i,hi,hin⟩:=bF hn;obtain⟨i',hi',yd⟩:=cH hz;obtain⟨i2,KF,zo⟩:=oz hb;have e1:i'=i:=xbg (hi'.symm.trans hi);have e2:i2=i:=xbg (KF.symm.trans hi);subst e1;subst e2;obtain⟨kl,kc,ln,cn,hl,hc,hlc,cI,hby,hk⟩:=h;subst hin;subst zo;refine⟨_,λw=>?_,hk⟩;have e1:IntKind.i64.wrap (ln:Int)=ln:=IntWalk.i64_in _ zO;have e2:IntKind.i64.wrap (cn:Int)=cn:=IntWalk.i64_in _ zO;have e3:¬((i2.bytes:Int)*(cn:Int)>281474976710656):=by
      have:((cn*i2.bytes:Nat):Int)<=281474976710656:=by omega
      rw[Int.mul_comm];push_cast at this;omega
    have e4:¬((cn:Int)<ln):=by omega
    simp only[execOp,hop];by_cases h0:cn*i2.size=0
    · simp[Instr.makeSlice,run_underlying ht,asInt,asIntOf,typeInfo,hi,hl,hc,e1,e2,e3,e4,sizeOf,zeroValue,yd,newRow,madeCells,h0,show¬((cn:Int)<0)from by omega,show¬((ln:Int)<0)from by omega]
      have:Array.range 0=#[]:=rfl;simp[this]
    · simp[Instr.makeSlice,run_underlying ht,asInt,asIntOf,typeInfo,hi,hl,hc,e1,e2,e3,e4,sizeOf,zeroValue,yd,newRow,madeCells,h0,show¬((cn:Int)<0)from by omega,show¬((ln:Int)<0)from by omega]
  · rename_i t len parts hop
    obtain⟨cs,e,n,z,ht,hn,hz,hl,hf,hk⟩:=h;obtain⟨i,hi,hin⟩:=bF hn;obtain⟨i',hi',yd⟩:=cH hz;have:i'=i:=xbg (hi'.symm.trans hi);subst this;subst hin;refine⟨_,λw=>?_,hk⟩;have hl':¬(len*i'.size>2^24):=by omega
    have zm:(parts.map λ(x:Nat×Operand)=>(x.1,ρ x.2)).toList=parts.toList.map λp=>(p.1,ρ p.2):=by rw[xdR]
    by_cases h0:len*i'.size=0
    · simp only[execOp,hop,Instr.buildSlice,Sem.run_bind,run_underlying ht,Result.andThen_ok,run_sizeOf hi,hl',xa2,h0,xa7,Sem.run_pure]
      rw[h0]at hf;have ZH:Array.range 0=#[]:=rfl;simp only[ZH,xeu,List.map_toArray,xcl]at hf⊢;rw[zm,hf];simp[newRow]
    · simp only[execOp,hop,Instr.buildSlice,Sem.run_bind,run_underlying ht,Result.andThen_ok,run_sizeOf hi,hl',xa2,h0,dU hi yd,Sem.run_pure]
      simp[hf,newRow]
  · exact h.elim
abbrev JL:=List (Nat×Mk)
def marks:JL->Nat->Array Bool->Array Bool
  | [],_,l=>l
  |x::r,i,l=>marks r i (cond (Nat.beq x.1 i) l (l.setIfInBounds x.1 true))
def fm(ops:Array Oper)(o:Oper)(i:Nat)(listed:Array Bool):JL->Bool
  | []=>true
  |x::r=>(Nat.beq x.1 i||listed.getD x.1 true||(match ops[x.1]? with|some of=>of.apart ops o|none=>false)) &&fm ops o i listed r
def fP:JL->Nat->Option Mk
  | [],_=>none
  |x::r,i=>cond (Nat.beq x.1 i) (some x.2) (fP r i)
def TM(listed:Array Bool):JL->Bool
  | []=>true
  |x::r=>listed.getD x.1 false&&TM listed r
inductive Hn
  |e
  |h(m:Nat)(L I:zL)(a b:Hn)
def Hn.m:Hn->Nat| .e=>0| .h m _ _ _ _=>m
def Hn.L:Hn->zL| .e=>[]| .h _ L _ _ _=>L
def Hn.I:Hn->zL| .e=>[]| .h _ _ I _ _=>I
def Hn.a:Hn->Hn| .e=>.e| .h _ _ _ a _=>a
def Hn.b:Hn->Hn| .e=>.e| .h _ _ _ _ b=>b
def Br(v:zV)(t f:Prop):Prop:=∃b,v=.bool b/\(b=true->t)/\(b=false->f)
def Zu(p:Oper)(fr:Fr):zV:=
  match p.op with
  | .move x=>ev fr x
  | .assign x=>ev fr x
  |_=>qt p fr
def MZ(p:Oper):Bool:=match p.op with| .pick .. =>true| .move _=>true| .assign _=>true|_=>false
theorem Rg{p:Oper}{fr:Fr}{t:Bool}(hp:MZ p=true)(h:Zu p fr=.bool t)(w:World):(execOp (ev fr) p).run P w=.ok (.value (.bool t)) w:=by
  unfold MZ at hp;unfold Zu at h;split at h
  · rename_i x hop;simp only[execOp,hop,h];rfl
  · rename_i x hop;simp only[execOp,hop,h];rfl
  · rename_i h1 h2
    split at hp
    · rename_i hop;exact qs (by unfold sM;rw[hop]) h w
    · rename_i x hop;exact absurd hop (h1 x)
    · rename_i x hop;exact absurd hop (h2 x)
    · cases hp
theorem Rq{p:Oper}(hp:MZ p=true):wc p.op=true:=by
  unfold MZ at hp;split at hp<;>first|(rename_i hop;rw[hop];rfl)|cases hp
def AD(ops:Array Oper)(fr:Fr)(o:Oper):Option Bool:=
  match o.guard with
  |none=>some true
  |some (j,want)=>match eP ops j with
    |none=>none
    |some s=>match fr s with
      | .bool b=>some (b==want)
      | .tuple _=>some false
      |_=>none
def pH(P:Program)(g:Gh)(n:Nat)(ops:Array Oper)(R:Hp)(K:Fr->Hp->Prop):Hn->JL->Array Bool->Fr->Hp->Prop
  | .e,cl,listed,fr,H=>cond ((Region.ready .any ops listed).isEmpty&&TM listed cl) (K fr H) False
  | .h m L T pa pb,cl,listed,fr,H=>
    match L with
    | [i]=>
      match ops[i]? with
      |none=>False
      |some o=>
        cond (Nat.beq m 1)
          (cond (eG n o.dst&&o.guard.isNone&& !wc o.op&& !listed.getD i true&&fm ops o i listed cl&& (match fP cl i with|none=>true|some _=>false))
            (Claim P o (ev fr) λx=>pH P g n ops R K pa ((i,x)::cl) listed fr H) False)
          (cond (eG n o.dst&&fm ops o i listed cl&& (Region.ready .any ops listed).contains i)
            (match AD ops fr o with
            |none=>False
            |some false=>cond (Region.free .any ops listed i&& (match fP cl i with|none=>true|some _=>false)) (pH P g n ops R K pa cl (listed.setIfInBounds i true) (bK fr o.dst undef) H) False
            |some true=>
              cond (Nat.beq m 3) (cond (MZ o&&Region.free .any ops listed i) (match Zu o fr with
                | .bool b=>pH P g n ops R K pa cl (listed.setIfInBounds i true) (bK fr o.dst (.bool b)) H
                |_=>False) False)
              (cond (wc o.op)
                (cond (Region.free .any ops listed i)
                  (EB P g o (ev fr) R λv=>cond (Nat.beq m 0) (pH P g n ops R K pa cl (listed.setIfInBounds i true) (bK fr o.dst v) H)
                    (Br v (pH P g n ops R K pa cl (listed.setIfInBounds i true) (bK fr o.dst (.bool true)) H) (pH P g n ops R K pb cl (listed.setIfInBounds i true) (bK fr o.dst (.bool false)) H))) False)
                (cond (Region.ready .any ops (marks cl i listed)==[i])
                  (match fP cl i with
                    |some x=>N7 H x.1 λb H'=>pH P g n ops R K pa cl (listed.setIfInBounds i true) (bK fr o.dst (x.2 b)) H'
                    |none=>∀F,Ue P (g.add F) o (ev fr) H (λv H'=>LG (Q0 P ops T i) (aM H' R) (pH P g n ops R K pa cl (listed.setIfInBounds i true) (bK fr o.dst v) H')) (λ_ _=>False)) False))) False)
    | []=>cond (Nat.beq m 4) (∃R',aM H R'/\aM R' R/\pH P g n ops R' K pa cl listed fr H) False
    |_=>False
theorem SR{cl:JL}{i:Nat}{x:Mk}(h:fP cl i=some x):(i,x)∈cl:=by
  induction cl with
  |nil=>simp[fP]at h
  |cons y r ih=>
    simp only[fP]at h;cases hb:Nat.beq y.1 i<;>simp only[hb,xap,xag]at h
    · exact xbt _ (ih h)
    · have:=xaI hb
      simp only[xar]at h;subst this;subst h;exact xbL
theorem Ns{cl:JL}{i:Nat}(h:i∈cl.map Prod.fst):∃x,fP cl i=some x:=by
  induction cl with
  |nil=>simp at h
  |cons y r ih=>
    simp only[fP];cases hb:Nat.beq y.1 i
    · simp only[xag]
      rw[xay,xak]at h;rcases h with h|h
      · subst h;simp at hb
      · exact ih h
    · exact⟨_,rfl⟩
theorem j3{cl:JL}{i:Nat}{x:Mk}(h:fP cl i=some x):i∈cl.map Prod.fst:=xan.2 ⟨_,SR h,rfl⟩
theorem y3{l:JL}{i:Nat}{b:Array Bool}{k:Nat}:(marks l i b)[k]? =if k∈l.map Prod.fst/\k≠i/\k<b.size then some true else b[k]? :=by
  induction l generalizing b with
  |nil=>simp[marks]
  |cons y r ih=>
    simp only[marks];cases hy:Nat.beq y.1 i
    · have hne:y.1≠i:=λe=>by rw[e]at hy;simp at hy
      simp only[xag,ih,Array.size_setIfInBounds];by_cases hk:k∈r.map Prod.fst/\k≠i/\k<b.size
      · rw[xad hk,xad ⟨by rw[xay];exact xbt _ hk.1,hk.2⟩]
      · rw[xab hk]
        by_cases e:y.1=k
        · subst e
          by_cases hlt:y.1<b.size
          · rw[xad ⟨by simp,hne,hlt⟩,xbO hlt]
          · rw[xab (λh=>hlt h.2.2),xct zP,xct zO]
        · rw[xbP e,xab]
          rintro⟨h1,h2⟩;rw[xay,xak]at h1;rcases h1 with h1|h1
          · exact e h1.symm
          · exact hk ⟨h1,h2⟩
    · have he:=xaI hy
      simp only[xap,ih];by_cases hk:k∈r.map Prod.fst/\k≠i/\k<b.size
      · rw[xad hk,xad ⟨by rw[xay];exact xbt _ hk.1,hk.2⟩]
      · rw[xab hk,xab]
        rintro⟨h1,h2,h3⟩;rw[xay,xak]at h1;rcases h1 with h1|h1
        · exact h2 (h1.trans he)
        · exact hk ⟨h1,h2,h3⟩
theorem fX{ops:Array Oper}{o:Oper}{i:Nat}{listed:Array Bool}{l:JL}(h:fm ops o i listed l=true){f:Nat}(hf:f∈l.map Prod.fst)(hne:f≠i)(hun:listed.getD f true=false):
    ∃of,ops[f]? =some of/\of.apart ops o=true:=by
  induction l with
  |nil=>simp at hf
  |cons x r ih=>
    simp only[fm,xaF,xbs]at h;rw[xay]at hf;rcases xak.1 hf with rfl|hf
    · rcases h.1 with(h1|h1)|h1
      · exact absurd (xaI h1) hne
      · rw[hun]at h1;simp at h1
      · split at h1
        · rename_i of ho;exact⟨of,ho,h1⟩
        · simp at h1
    · exact ih h.2 hf
theorem GJ{ops:Array Oper}{x y:Oper}(h:x.apart ops y=true):y.apart ops x=true:=by
  unfold Oper.apart at*;cases hx:x.dst<;>cases hy:y.dst<;>simp_all;exact λe=>h.1.2 e.symm
theorem sW{ops:Array Oper}{l l':Array Bool}{i:Nat}(h:Region.free .any ops l i=true)(hm:∀k,l.getD k true=true->l'.getD k true=true):Region.free .any ops l' i=true:=by
  unfold Region.free at*;split at h
  · simp at h
  · rename_i oi pc
    rw[xc3]at h⊢;intro j hj;have:=h j hj;simp only[xbs]at this⊢;rcases this with(h1|h1)|h1
    · exact .inl (.inl h1)
    · exact .inl (.inr (hm j h1))
    · exact .inr h1
abbrev Early:=List (Nat×Nat×Mk)
def Ys(E:Early):Hp:=E.map λx=>(x.2.1,x.2.2.1)
structure aaS(P:Program)(n:Nat)(ops:Array Oper)(listed:Array Bool)(cl:JL)(fr:Fr)(j:Nat)(x:Mk)(o:Oper):Prop where
  op:ops[j]? =some o
  CY:wc o.op=false
  dst:eG n o.dst=true
  gd:o.guard.isNone=true
  makes:Aj P o (ev fr) x
  far:∀k y,fP cl k=some y->k≠j->listed.getD k true=false->∃ok,ops[k]? =some ok/\ok.apart ops o=true
structure mr(P:Program)(n:Nat)(ops:Array Oper)(cl:JL)(listed la:Array Bool)(E:Early)(fr fa:Fr):Prop where
  mem:∀x∈E,fP cl x.1=some x.2.2/\listed.getD x.1 true=false
  nd:(E.map Prod.fst).Nodup
  la:∀k,la[k]? =if k∈E.map Prod.fst then some true else listed[k]?
  out:∀s,(∀x∈E,eP ops x.1≠some s)->fa s=fr s
  at_:∀x∈E,∀d,eP ops x.1=some d->fa d=x.2.2.2 x.2.1
  cl:∀j x,fP cl j=some x->listed.getD j true=false->∃o,aaS P n ops listed cl fr j x o
section
variable {n:Nat} {ops:Array Oper} {cl:JL} {listed la:Array Bool} {E:Early} {fr fa:Fr}
theorem mr.more(h:mr P n ops cl listed la E fr fa){k:Nat}{b:Bool}(hk:listed.getD k b=true):la.getD k b=true:=by
  have:=h.la k;rw[xas]at hk⊢;rw[this];split
  · rfl
  · exact hk
theorem mr.ready(h:mr P n ops cl listed la E fr fa){i:Nat}(hi:i∉E.map Prod.fst)(hr:i∈Region.ready .any ops listed):i∈Region.ready .any ops la:=by
  rw[mem_ready]at hr⊢;obtain⟨h1,o,ho,aJ⟩:=hr;refine⟨?_,o,ho,λe he hb=>h.more (aJ e he hb)⟩;have:=h.la i;rw[xas]at h1⊢;rw[this,xab hi];exact h1
theorem XD{i k:Nat}(h:(listed.setIfInBounds i true).getD k true=false):i≠k/\listed.getD k true=false:=by
  by_cases e:i=k
  · subst e
    rw[xas]at h;rcases xep i listed.size with hl|hl
    · rw[xbO hl]at h;cases h
    · rw[xct (by simpa using hl)]at h;cases h
  · exact⟨e,by rwa [getD_set_ne true e]at h⟩
theorem Aj.congr{o o':Oper}{x:Mk}{v:zV}(h:Aj P o (ev fr) x)(hs:∀cs b,o.op≠.select cs b)(hap:o.apart ops o'=true):Aj P o (ev (bK fr o'.dst v)) x:=by
  have e:execOp (ev (bK fr o'.dst v)) o=execOp (ev fr) o:=by
    refine execOp_congr o hs λy hy=>?_;cases y with
    |tmp t=>
      obtain⟨_,_,h3⟩:=Oper.apart_spec hap;cases hd:o'.dst with
      |none=>rfl
      |some d=>
        have:=h3 d hd;have hne:Nat.beq t d=false:=by
          cases hb:Nat.beq t d
          · rfl
          · have e:=xaI hb;subst e
            refine absurd ?_ this;exact xae _ (List.mem_filterMap.2 ⟨Operand.tmp t,by simpa using hy,rfl⟩)
        simp only[ev,bK,hne,xag]
    |const v=>rfl
    |global g=>rfl
    |func f=>rfl
  intro w;rw[e];exact h w
theorem Tk(hs:Region.noSelect ops=true)(fO:∀j x,fP cl j=some x->listed.getD j true=false->∃o,aaS P n ops listed cl fr j x o){i:Nat}{o:Oper}(hap:fm ops o i listed cl=true)(v:zV):
    ∀j x,fP cl j=some x->(listed.setIfInBounds i true).getD j true=false->∃oj,aaS P n ops (listed.setIfInBounds i true) cl (bK fr o.dst v) j x oj:=by
  intro j x hx hun;obtain⟨hne,Wd⟩:=XD hun;obtain⟨oj,h⟩:=fO j x hx Wd;obtain⟨oj',cz,ag8⟩:=fX hap (j3 hx) (xa9 hne) Wd;rw[h.op]at cz;cases cz;exact⟨oj,h.op,h.CY,h.dst,h.gd,h.makes.congr (λcs b=>Region.noSelect_spec hs j oj cs b h.op) ag8,λk y hk hkj RU=>h.far k y hk hkj (XD RU).2⟩
theorem mr.step(hs:Region.noSelect ops=true)(h:mr P n ops cl listed la E fr fa){i:Nat}{o:Oper}(pc:ops[i]? =some o)(hi:i∉E.map Prod.fst)
   (wx:fm ops o i listed cl=true)(v:zV):mr P n ops cl (listed.setIfInBounds i true) (la.setIfInBounds i true) E (bK fr o.dst v) (bK fa o.dst v):=by
  have hap:∀x∈E,∃of,ops[x.1]? =some of/\of.apart ops o=true:=λx hx=>
      fX wx (j3 (h.mem x hx).1) (λe=>hi (e▸xaT hx)) (h.mem x hx).2
  have hsz:la[i]? =listed[i]? :=by rw[h.la i,xab hi]
  refine⟨λx hx=>⟨(h.mem x hx).1,?_⟩,h.nd,λk=>?_,λs hs=>?_,λx hx d hd=>?_,Tk hs h.cl wx v⟩
  · have hne:i≠x.1:=λe=>hi (e▸xaT hx)
    rw[getD_set_ne true hne];exact(h.mem x hx).2
  · by_cases e:i=k
    · subst e
      rw[xab hi,xcp,xcp];simp only[xa7];have:i<la.size↔i<listed.size:=by
        constructor
        · intro hlt;rw[xbA hlt]at hsz;exact(xaS.1 hsz.symm).1
        · intro hlt;rw[xbA hlt]at hsz;exact(xaS.1 hsz).1
      by_cases hlt:i<la.size
      · rw[xad hlt,xad (this.1 hlt)]
      · rw[xab hlt,xab (λx=>hlt (this.2 x))]
    · rw[xbP e,xbP e];exact h.la k
  · cases hd:o.dst with
    |none=>exact h.out s hs
    |some d=>
      simp only[bK];cases Nat.beq s d
      · exact h.out s hs
      · rfl
  · obtain⟨of,Wn,hap⟩:=hap x hx
    obtain⟨h1,h2,h3⟩:=Oper.apart_spec hap;have ZM:of.dst=some d:=by simpa[eP,Wn]using hd
    have:=h2 d ZM;cases hdo:o.dst with
    |none=>exact h.at_ x hx d hd
    |some d'=>
      have hne:Nat.beq d d'=false:=by
        cases hb:Nat.beq d d'
        · rfl
        · have e:=xaI hb;subst e;exact absurd hdo this
      simp only[bK,hne,xag];exact h.at_ x hx d hd
theorem mr.exec(h:mr P n ops cl listed la E fr fa){o:Oper}
   (hap:∀x∈E,∃of,ops[x.1]? =some of/\of.apart ops o=true)(hs:∀cs b,o.op≠.select cs b):execOp (ev fa) o=execOp (ev fr) o:=by
  refine execOp_congr o hs λx hx=>?_;cases x with
  |tmp t=>
    refine h.out t λy hy e=>?_;obtain⟨of,Wn,hap⟩:=hap y hy;obtain⟨h1,_,_⟩:=Oper.apart_spec hap;refine h1 t (by simpa[eP,Wn]using e) ?_;exact xae _ (List.mem_filterMap.2 ⟨.tmp t,by simpa using hx,rfl⟩)
  |const v=>rfl
  |global g=>rfl
  |func f=>rfl
theorem mr.early(h:mr P n ops cl listed la E fr fa){j b:Nat}{x:Mk}(hj:fP cl j=some x)(RV:j∉E.map Prod.fst)(hun:listed.getD j true=false)
   {o:Oper}(ho:ops[j]? =some o):mr P n ops cl listed (la.setIfInBounds j true) ((j,b,x)::E) fr (bK fa o.dst (x.2 b)):=by
  obtain⟨o',fO⟩:=h.cl j x hj hun;have cz:=fO.op;rw[ho]at cz;cases cz;have aaa:∀y∈E,∃of,ops[y.1]? =some of/\of.apart ops o=true:=λy hy=>
    fO.far y.1 _ (h.mem y hy).1 (λe=>RV (e▸xaT hy)) (h.mem y hy).2
  have agz:j<la.size:=by
    have hl:=h.la j;rw[xab RV]at hl;have h2:j<listed.size:=by
      rcases xep j listed.size with h2|h2
      · exact h2
      · rw[xas,xct h2]at hun;simp at hun
    rw[xbA h2]at hl;exact(xaS.1 hl).1
  refine⟨λy hy=>?_,?_,λk=>?_,λs hs=>?_,λy hy d hd=>?_,h.cl⟩
  · rcases xak.1 hy with rfl|hy
    · exact⟨hj,hun⟩
    · exact h.mem y hy
  · rw[xay,xaW];exact⟨RV,h.nd⟩
  · by_cases e:j=k
    · subst e;rw[xad zI,xbO agz]
    · rw[xbP e,h.la k]
      by_cases hk:k∈E.map Prod.fst
      · rw[xad hk,xad (by rw[xay];exact xbt _ hk)]
      · rw[xab hk,xab]
        rw[xay,xak];rintro(h1|hk')
        · exact e h1.symm
        · exact hk hk'
  · have hne:=hs (j,b,x) zI
    simp only[eP,ho]at hne;rw[show bK fa o.dst (x.2 b) s=fa s from ?_]
    · exact h.out s λy hy=>hs y (by simp[hy])
    · cases hd:o.dst with
      |none=>rfl
      |some d=>
        rw[hd]at hne;have:Nat.beq s d=false:=by
          cases hb:Nat.beq s d
          · rfl
          · exact absurd (xck some (xaI hb).symm) hne
        simp only[bK,this,xag]
  · rcases xak.1 hy with rfl|hy
    · simp only[eP,ho]at hd
      rw[hd];simp[bK]
    · obtain⟨of,Wn,hap⟩:=aaa y hy
      obtain⟨_,h2,_⟩:=Oper.apart_spec hap;have ZM:of.dst=some d:=by simpa[eP,Wn]using hd
      have:=h2 d ZM;cases hdo:o.dst with
      |none=>exact h.at_ y hy d hd
      |some d'=>
        have hne:Nat.beq d d'=false:=by
          cases hb:Nat.beq d d'
          · rfl
          · have e:=xaI hb;subst e;exact absurd hdo this
        simp only[bK,hne,xag];exact h.at_ y hy d hd
theorem mr.ew(hs:Region.noSelect ops=true){E1 E2:Early}{j b:Nat}{x:Mk}(h:mr P n ops cl listed la (E1++(j,b,x)::E2) fr fa){o:Oper}(ho:ops[j]? =some o)(wx:fm ops o j listed cl=true):
    mr P n ops cl (listed.setIfInBounds j true) la (E1++E2) (bK fr o.dst (x.2 b)) fa:=by
  have fD:=h.nd;rw[xaB,xay]at fD;have Ul:j∉(E1++E2).map Prod.fst:=by
    have:=(xaU.nodup_iff.1 fD);rw[xaW]at this;rw[xaB];exact this.1
  have hsub:∀y,y∈E1++E2->y∈E1++(j,b,x)::E2:=λy hy=>by
    rcases xao.1 hy with hy|hy<;>simp[hy]
  have Um:j<listed.size:=by
    have h2:=(h.mem (j,b,x) zI).2;rcases xep j listed.size with h3|h3
    · exact h3
    · simp only at h2;rw[xas,xct h3]at h2;simp at h2
  refine⟨λy hy=>⟨(h.mem y (hsub y hy)).1,?_⟩,?_,λk=>?_,λs hs=>?_,λy hy d hd=>h.at_ y (hsub y hy) d hd,Tk hs h.cl wx _⟩
  · have hne:j≠y.1:=λe=>Ul (e▸xaT hy)
    rw[getD_set_ne true hne];exact(h.mem y (hsub y hy)).2
  · have:=(xaU.nodup_iff.1 fD)
    rw[xaW]at this;rw[xaB];exact this.2
  · have hk:=h.la k
    by_cases e:j=k
    · subst e
      rw[xad zI]at hk;rw[hk,xab Ul,xbO Um]
    · rw[xbP e,hk]
      have:k∈(E1++(j,b,x)::E2).map Prod.fst↔k∈(E1++E2).map Prod.fst:=by
        simp only[xaB,xay,xao,xak];constructor
        · rintro(h|rfl|h)
          · exact .inl h
          · exact absurd rfl e
          · exact .inr h
        · rintro(h|h)
          · exact .inl h
          · exact .inr (.inr h)
      simp only[this]
  · by_cases e:eP ops j=some s
    · rw[h.at_ (j,b,x) zI s e]
      simp only[eP,ho]at e;rw[e];simp[bK]
    · rw[h.out s λy hy=>?_]
      · simp only[eP,ho]at e
        cases hd:o.dst with
        |none=>rfl
        |some d=>
          rw[hd]at e;have:Nat.beq s d=false:=by
            cases hb:Nat.beq s d
            · rfl
            · exact absurd (xck some (xaI hb).symm) e
          simp only[bK,this,xag]
      · rcases xao.1 hy with hy|hy
        · exact hs y (by simp[hy])
        · rcases xak.1 hy with rfl|hy
          · exact e
          · exact hs y (by simp[hy])
theorem mr.aeb(h:mr P n ops cl listed la E fr fa){i:Nat}{o:Oper}{x:Mk}(ho:ops[i]? =some o)(hd:eG n o.dst=true)(hg:o.guard.isNone=true)(hp:wc o.op=false)(hun:listed.getD i true=false)
   (hap:fm ops o i listed cl=true)(hno:fP cl i=none)(hm:Aj P o (ev fr) x):mr P n ops ((i,x)::cl) listed la E fr fa:=by
  have hne:∀j y,fP cl j=some y->j≠i:=λj y hj e=>by subst e;rw[hno]at hj;cases hj
  have hex:∀j y,fP cl j=some y->fP ((i,x)::cl) j=some y:=λj y hj=>by
    have:Nat.beq i j=false:=by
      cases hb:Nat.beq i j
      · rfl
      · exact absurd (xaI hb).symm (hne j y hj)
    simp only[fP,this,xag];exact hj
  have Z3:∀j y,fP ((i,x)::cl) j=some y->(j=i/\y=x)\/(j≠i/\fP cl j=some y):=λj y hj=>by
    simp only[fP]at hj;cases hb:Nat.beq i j<;>simp only[hb,xap,xag]at hj
    · exact .inr ⟨λe=>by subst e;simp at hb,hj⟩
    · exact .inl ⟨(xaI hb).symm,by simpa using hj.symm⟩
  refine⟨λy hy=>⟨hex _ _ (h.mem y hy).1,(h.mem y hy).2⟩,h.nd,h.la,h.out,h.at_,λj y hj hu=>?_⟩;rcases Z3 j y hj with⟨rfl,rfl⟩|⟨ZW,Ya⟩
  · refine⟨o,ho,hp,hd,hg,hm,λk z hk hkj RU=>?_⟩
    rcases Z3 k z hk with⟨rfl,rfl⟩|⟨_,hk⟩
    · exact absurd rfl hkj
    · exact fX hap (j3 hk) hkj RU
  · obtain⟨oj,hc⟩:=h.cl j y Ya hu
    refine⟨oj,hc.op,hc.CY,hc.dst,hc.gd,hc.makes,λk z hk hkj RU=>?_⟩;rcases Z3 k z hk with⟨rfl,rfl⟩|⟨_,hk⟩
    · obtain⟨oj',h1,h2⟩:=fX hap (j3 Ya) ZW hu
      rw[hc.op]at h1;cases h1;exact⟨o,ho,GJ h2⟩
    · exact hc.far k z hk hkj RU
end
theorem Nv{E1 E2:Early}{y:Nat×Nat×Mk}:(Ys (E1++y::E2)).Perm ((y.2.1,y.2.2.1)::Ys (E1++E2)):=by
  unfold Ys;rw[xaB,xay,xaB];exact xaU
def cnt:List Bool->Nat
  | []=>0
  |b::r=>cond b 0 1+cnt r
theorem La:∀(l:List Bool) (i:Nat),l[i]? =some false->cnt (l.set i true)+1=cnt l
  | [],i,h=>by simp at h
  |b::r,0,h=>by simp only[xcM,xar]at h;subst h;simp only[xcz,cnt,xap,xag];omega
  |b::r,i+1,h=>by
    simp only[List.getElem?_cons_succ]at h;have:=La r i h;simp only[xed,cnt];omega
theorem yj(n:Nat):cnt (List.replicate n false)=n:=by
  induction n with
  |zero=>rfl
  |succ n ih=>simp only[xc9,cnt,ih,xag];omega
theorem gi{a:Array Bool}{i:Nat}(h:a.getD i true=false):a[i]? =some false:=by
  rw[xas]at h;cases hg:a[i]? with
  |none=>rw[hg]at h;simp at h
  |some b=>rw[hg]at h;simpa using h
theorem ow{a:Array Bool}{i fuel:Nat}(h:a.getD i true=false)(hf:cnt a.toList<=fuel):∃f,fuel=f+1/\cnt (a.setIfInBounds i true).toList<=f:=by
  have h1:=gi h;have h2:a.toList[i]? =some false:=by rw[xbc];exact h1
  have:=La _ _ h2;refine⟨fuel-1,by omega,?_⟩;have:(a.setIfInBounds i true).toList=a.toList.set i true:=by simp
  rw[this];omega
theorem NX{listed:Array Bool}{l:JL}(h:TM listed l=true){f:Nat}(hf:f∈l.map Prod.fst):listed.getD f false=true:=by
  induction l with
  |nil=>simp at hf
  |cons x r ih=>
    simp only[TM,xaF]at h;rw[xay]at hf;rcases xak.1 hf with rfl|hf
    · exact h.1
    · exact ih h.2 hf
theorem WW{a:Array Bool}{i:Nat}(h:a.getD i false=true):a.getD i true=true:=by
  rw[xas]at*;cases hg:a[i]? with
  |none=>rfl
  |some b=>rw[hg]at h;simpa using h
theorem eJ{n:Nat}{ops:Array Oper}{R:Hp}{Xs:List Hp}{K:Fr->Hp->Prop}{Q:Exit->Act->World->Prop}(hs:Region.noSelect ops=true)(BU:R∈Xs)(Pt:∀X∈Xs,aM R X)(yh:Fr)
   (hk:∀a w fr H,cA ds n a fr->Own g H w->eL ops.toList yh fr->K fr H->Q .normal a w):
    ∀(fuel:Nat) (l:Hn) (cl:JL) (listed:Array Bool) (fr:Fr) (H:Hp),pH P g n ops R K l cl listed fr H->∀(E:Early) (la:Array Bool) (fa:Fr),cnt la.toList<=fuel->mr P n ops cl listed la E fr fa->fo .any ops la->
      ∀(a:Act) (w:World),cA ds n a fa->Own (g.add (Ys E)) H w->((∃k ok,ops[k]? =some ok/\x9 P ok.op=true/\la.getD k true=false)->Own g R w)->eL ops.toList yh fr->
      dc P .any ops (r6 Q) (qK P g Xs ops) fuel la a w
  |fuel,.e,cl,listed,fr,H,h=>by
    intro E la fa hfuel hE jz a w ha hw hR ho;unfold pH at h;cases hr:((Region.ready .any ops listed).isEmpty&&TM listed cl)<;>simp only[hr,xap,xag]at h;simp only[xaF]at hr;have hr':Region.ready .any ops listed=[]:=by simpa using hr.1
    have hE0:E=[]:=by
      cases E with
      |nil=>rfl
      |cons x y=>
        have h1:=hE.mem x zI;have h2:=WW (NX hr.2 (j3 h1.1));rw[h1.2]at h2;cases h2
    subst hE0;have hfa:fa=fr:=by funext s;exact hE.out s zI
    subst hfa;refine dc.done (Q:=r6 Q) ?_ (hk a w fa H ha hw ho h) fuel;rw[xcB]at hr'⊢;intro k hk';refine hr' k ?_;rw[mem_ready]at hk'⊢;obtain⟨h1,o,h2,h3⟩:=hk';have hla:=λk=>hE.la k;simp only[xcl,xaR,xa2]at hla;refine⟨?_,o,h2,λe he hb=>?_⟩
    · rw[xas,<-hla,<-xas];exact h1
    · rw[xas,<-hla,<-xas];exact h3 e he hb
  |fuel,.h m L T pa pb,cl,listed,fr,H,h=>by
    intro E la fa hfuel hE jz a w ha hw hR ho;have h0:=h;unfold pH at h;split at h<;>try exact h.elim
    rotate_left
    · cases h4:Nat.beq m 4<;>simp only[h4,xap,xag]at h
      obtain⟨R',RJ,qx,hk'⟩:=h;exact(eJ (R:=R') (Xs:=R'::Xs) hs (.head _) (λX hX=>by
        rcases xak.1 hX with rfl|hX
        · exact .refl _
        · exact qx.trans (Pt X hX)) yh hk fuel pa cl listed fr H hk' E la fa hfuel hE jz a w ha hw (λ_=>RJ _ _ (Own.fj.2 hw).left) ho).mono λj w w' hK X hX=>hK X (.tail _ hX)
    rename_i i;split at h<;>try exact h.elim
    rename_i o pc;cases h1:Nat.beq m 1<;>simp only[h1,xap,xag]at h
    case true=>
      cases hc:(eG n o.dst&&o.guard.isNone&& !wc o.op&& !listed.getD i true&&fm ops o i listed cl&& (match fP cl i with|none=>true|some _=>false))<;>simp only[hc,xap,xag]at h;simp only[xaF,xbG]at hc;obtain⟨⟨⟨⟨⟨hd,hg⟩,hp⟩,hun⟩,hap⟩,hno⟩:=hc;have Dz:fP cl i=none:=by
        split at hno
        · assumption
        · cases hno
      obtain⟨x,hm,hk'⟩:=h.makes;exact eJ hs BU Pt yh hk fuel pa _ listed fr H hk' E la fa hfuel (hE.aeb pc hd hg hp hun hap Dz hm) jz a w ha hw hR ho
    have hmem:o∈ops.toList:=xcZ.2 (Array.mem_of_getElem? pc);have hout:∀v,eL ops.toList yh (bK fr o.dst v):=λv s hs'=>by
      rw[gk,ho s hs'];have:∀l:List Oper,o∈l->bS l s=false->bS [({(default:Oper)with dst:=o.dst})] s=false:=by
        intro l;induction l with
        |nil=>intro h;simp at h
        |cons x y ih=>
          intro hm hi;rw[dJ,xaG]at hi;rcases xak.1 hm with rfl|hm
          · exact hi.1
          · exact ih hm hi.2
      exact this _ hmem hs'
    cases hc:(eG n o.dst&&fm ops o i listed cl&& (Region.ready .any ops listed).contains i)<;>simp only[hc,xap,xag]at h;simp only[xaF]at hc;obtain⟨⟨hd,wx⟩,agf⟩:=hc;have EE:i∈Region.ready .any ops listed:=by simpa using agf
    have hun:=(mem_ready.1 EE).1;have hap:i∉E.map Prod.fst->∀x∈E,∃of,ops[x.1]? =some of/\of.apart ops o=true:=λhi x hx=>
      fX wx (j3 (hE.mem x hx).1) (λe=>hi (e▸xaT hx)) (hE.mem x hx).2
    have hsel:∀cs b,o.op≠.select cs b:=λcs b=>Region.noSelect_spec hs i o cs b pc;have abJ:∀j,j∈Region.ready .any ops la->j∉E.map Prod.fst/\listed.getD j true=false:=λj hj=>by
      have h1:=gi (mem_ready.1 hj).1;have h2:=hE.la j;by_cases RV:j∈E.map Prod.fst
      · rw[xad RV,h1]at h2;cases h2
      · rw[xab RV,h1]at h2
        exact⟨RV,by rw[xas,<-h2];rfl⟩
    have early:∀f',fuel=f'+1->(∀j,la.getD j true=false->cnt (la.setIfInBounds j true).toList<=f')->∀j x,j∈Region.ready .any ops la->fP cl j=some x->
        wpOp P ops (r6 Q) j (λa' w'=>qK P g Xs ops j w w'/\dc P .any ops (r6 Q) (qK P g Xs ops) f' (la.setIfInBounds j true) a' w') a w:=by
      intro f' Pp l8 j x hj hjf;obtain⟨RV,Um⟩:=abJ j hj;obtain⟨oj,fO⟩:=hE.cl j x hjf Um;have jj:=fO.op;have Be:=fO.CY;have hgj:=fO.gd;have agW:execOp (ev fa) oj=execOp (ev fr) oj:=hE.exec (λy hy=>fO.far y.1 _ (hE.mem y hy).1 (λe=>RV (e▸xaT hy)) (hE.mem y hy).2) (λcs b=>Region.noSelect_spec hs j oj cs b jj);unfold wpOp;simp only[jj,kD hgj,xa7];refine .inl ?_;unfold Oper.wp;rw[ha.eval,agW,fO.makes w];simp only[Oper.upon];have Ps:∀{A:Hp},Own g A w->Own g A (w.alloc x.1):=λhA=>(hA.alloc x.1).tail;refine⟨λX _ oj' nD=>⟨λhp=>?_,λ_=>⟨Ps (Own.fj.2 hw).bg,λ_ h1=>Ps h1⟩⟩,?_⟩
      · rw[jj]at nD;cases nD;rw[Be]at hp;cases hp
      · have DF:=hE.early (b:=w.heap.size) hjf RV Um jj
        refine eJ hs BU Pt yh hk f' (.h m [i] T pa pb) cl listed fr H h0 ((j,w.heap.size,x)::E) _ _ (l8 j (mem_ready.1 hj).1) DF (jz.step hj) _ _ (ha.put fO.dst _) ?_ ?_ ho
        · have h1:=hw.alloc x.1
          have h2:Own (g.add (Ys E)) (H++[(w.heap.size,x.1)]) (w.alloc x.1):=h1.perm (by exact(xbb (l₁:=[(w.heap.size,x.1)]) (l₂:=H)));have h3:=Own.fj.1 h2;exact h3
        · rintro⟨k,ok,uA,rK,pO⟩
          refine Ps (hR ⟨k,ok,uA,rK,gA (mem_ready.1 hj).1 pO⟩)
    have pN:∀b,AD ops fr o=some b->i∉E.map Prod.fst->Region.wanted o (yielded ops a.tmps)=b:=by
      intro b hb wu;unfold AD at hb;unfold Region.wanted;split at hb
      · rename_i hg;simp only[hg];simpa using hb
      · rename_i j want hg
        simp only[hg];split at hb<;>try (cases hb;done)
        rename_i s kM;rw[mA ha kM];have qQ:fa s=fr s:=hE.out s λy hy e=>by
          obtain⟨of,Wn,hap⟩:=hap wu y hy;obtain⟨h1,_,_⟩:=Oper.apart_spec hap;refine h1 s (by simpa[eP,Wn]using e) ?_;refine xac _ ?_;rw[hg];unfold eP at kM;cases hj:ops[j]? with
          |none=>rw[hj]at kM;cases kM
          |some oj=>rw[hj]at kM;simp only at kM;simp[hj,kM]
        rw[qQ];split at hb
        · rename_i c hc;rw[hc];simp only[xar]at hb;subst hb;cases c<;>cases want<;>rfl
        · rename_i c hc;rw[hc];simp only[xar]at hb;subst hb;cases want<;>rfl
        · cases hb
    split at h<;>try exact h.elim
    · -- not wanted
      rename_i hwd;cases kj:(Region.free .any ops listed i&& (match fP cl i with|none=>true|some _=>false))<;>simp only[kj,xap,xag]at h;simp only[xaF]at kj;have Dz:fP cl i=none:=by
        have:=kj.2;split at this
        · assumption
        · cases this
      have wu:i∉E.map Prod.fst:=λhm=>by
        obtain⟨x,hx,e⟩:=xan.1 hm;have:=(hE.mem x hx).1;rw[e,Dz]at this;cases this
      have mU:=hE.ready wu EE;have sN:=(mem_ready.1 mU).1;obtain⟨f',rfl,l8⟩:=ow sN hfuel;have hfree:=sW (l':=la) kj.1 (λk hk=>hE.more hk);have Nc:(Region.ready .any ops la).contains i=true:=by simpa using mU
      refine dc.take jz (S0:=Own g []) pc hs hfree Nc (λ_ _ _ h=>h) (λw hw X _ oj jj=>⟨λ_=>rfl,λ_=>⟨hw,λ_ h=>h⟩⟩) (λj oj w w' jj hj hno h0 hk=>?_) (.inr ⟨pN false hwd wu,rfl⟩) (Own.fj.2 hw).bg ?_
      · cases Be:wc oj.op
        · exact((hk R BU oj jj).2 Be).1
        · rw[(hk R BU oj jj).1 Be];exact h0
      · refine eJ hs BU Pt yh hk f' pa cl _ _ H h E _ _ l8 (hE.step hs pc wu wx _) (jz.step mU) _ w (ha.put hd _) hw ?_ (hout _)
        rintro⟨k,ok,uA,rK,pO⟩;exact hR ⟨k,ok,uA,rK,gA sN pO⟩
    rename_i hwd;have hgw:=pN true hwd;have Ye:∀v f' FL a' w',(cond (Nat.beq m 0) (pH P g n ops R K pa cl (listed.setIfInBounds i true) (bK fr o.dst v) H)
                    (Br v (pH P g n ops R K pa cl (listed.setIfInBounds i true) (bK fr o.dst (.bool true)) H) (pH P g n ops R K pb cl (listed.setIfInBounds i true) (bK fr o.dst (.bool false)) H)))->
        cnt FL.toList<=f'->mr P n ops cl (listed.setIfInBounds i true) FL E (bK fr o.dst v) (bK fa o.dst v)->fo .any ops FL->cA ds n a' (bK fa o.dst v)->Own (g.add (Ys E)) H w'->
        ((∃k ok,ops[k]? =some ok/\x9 P ok.op=true/\FL.getD k true=false)->Own g R w')->f'<fuel->dc P .any ops (r6 Q) (qK P g Xs ops) f' FL a' w':=by
      intro v f' FL a' w' hv h1 h2 Sd h3 h4 h5 hlt;cases hm:Nat.beq m 0<;>simp only[hm,xap,xag]at hv
      · obtain⟨b,rfl,hb1,tN⟩:=hv
        cases b
        · exact eJ hs BU Pt yh hk f' pb cl _ _ H (tN rfl) E FL _ h1 h2 Sd a' w' h3 h4 h5 (hout _)
        · exact eJ hs BU Pt yh hk f' pa cl _ _ H (hb1 rfl) E FL _ h1 h2 Sd a' w' h3 h4 h5 (hout _)
      · exact eJ hs BU Pt yh hk f' pa cl _ _ H hv E FL _ h1 h2 Sd a' w' h3 h4 h5 (hout _)
    cases h3:Nat.beq m 3<;>simp only[h3,xap,xag]at h
    case true=>
      cases kj:(MZ o&&Region.free .any ops listed i)<;>simp only[kj,xap,xag]at h;simp only[xaF]at kj;split at h<;>try exact h.elim
      rename_i b ZI;have Bf:wc o.op=true:=Rq kj.1;have wu:i∉E.map Prod.fst:=λhm=>by
        obtain⟨x,hx,e⟩:=xan.1 hm;have h2:=hE.mem x hx;obtain⟨o',fO⟩:=hE.cl _ _ h2.1 h2.2;have h3:=fO.op;rw[e,pc]at h3;cases h3;have:=fO.CY;rw[Bf]at this;cases this
      have mU:=hE.ready wu EE;have sN:=(mem_ready.1 mU).1;obtain⟨f',rfl,l8⟩:=ow sN hfuel;have hfree:=sW (l':=la) kj.2 (λk hk=>hE.more hk);have Nc:(Region.ready .any ops la).contains i=true:=by simpa using mU
      have iS:∀w,qK P g Xs ops i w w:=λw X _ oj nD=>⟨λ_=>rfl,λhn=>(by rw[pc]at nD;cases nD;rw[Bf]at hn;cases hn)⟩;have M7:=hE.exec (hap wu) hsel;refine dc.take jz (S0:=Own g []) pc hs hfree Nc (λ_ _ _ h=>h) (λw _=>iS w) (λj oj w w' jj hj hno h0 hk=>?_) (.inl ⟨hgw wu,λw' eO=>by rw[ha.eval,M7];exact Rg kj.1 ZI w'⟩) (Own.fj.2 hw).bg ?_
      · cases Be:wc oj.op
        · exact((hk R BU oj jj).2 Be).1
        · rw[(hk R BU oj jj).1 Be];exact h0
      · refine eJ hs BU Pt yh hk f' pa cl _ _ H h E _ _ l8 (hE.step hs pc wu wx _) (jz.step mU) _ w (ha.put hd _) hw ?_ (hout _)
        rintro⟨k,ok,uA,rK,pO⟩;exact hR ⟨k,ok,uA,rK,gA sN pO⟩
    cases Bf:wc o.op<;>simp only[Bf,xap,xag]at h
    case true=>
      cases kj:(Region.free .any ops listed i)<;>simp only[kj,xap,xag]at h;have wu:i∉E.map Prod.fst:=λhm=>by
        obtain⟨x,hx,e⟩:=xan.1 hm;have h2:=hE.mem x hx;obtain⟨o',fO⟩:=hE.cl _ _ h2.1 h2.2;have h3:=fO.op;rw[e,pc]at h3;cases h3;have:=fO.CY;rw[Bf]at this;cases this
      have mU:=hE.ready wu EE;have sN:=(mem_ready.1 mU).1;obtain⟨f',rfl,l8⟩:=ow sN hfuel;have hfree:=sW (l':=la) kj (λk hk=>hE.more hk);have Nc:(Region.ready .any ops la).contains i=true:=by simpa using mU
      have iS:∀w,qK P g Xs ops i w w:=λw X _ oj nD=>⟨λ_=>rfl,λhn=>(by rw[pc]at nD;cases nD;rw[Bf]at hn;cases hn)⟩;have hst:=λv=>hE.step hs pc wu wx v;have M7:=hE.exec (hap wu) hsel;cases hn:isN P o.op
      case true=>
        rw[CK hn (ev fr) R []]at h;obtain⟨v,hk',hr⟩:=lH h;refine dc.take jz (S0:=Own g []) pc hs hfree Nc (λ_ _ _ h=>h) (λw _=>iS w) (λj oj w w' jj hj hno h0 hk=>?_) (.inl ⟨hgw wu,λw' eO=>by rw[ha.eval,M7];exact hr w' eO⟩) (Own.fj.2 hw).bg ?_
        · cases Be:wc oj.op
          · exact((hk R BU oj jj).2 Be).1
          · rw[(hk R BU oj jj).1 Be];exact h0
        · refine Ye v f' _ _ w hk' l8 (hst v) (jz.step mU) (ha.put hd v) hw ?_ zO
          rintro⟨k,ok,uA,rK,pO⟩;exact hR ⟨k,ok,uA,rK,gA sN pO⟩
      case false=>
        obtain⟨v,hk',hr⟩:=lH h;have hrd:x9 P o.op=true:=by simp[x9,Bf,hn]
        have WJ:Own g R w:=hR ⟨i,o,pc,hrd,sN⟩;refine dc.take jz (S0:=Own g R) pc hs hfree Nc (λ_ _ _ h=>h) (λw _=>iS w) (λj oj w w' jj hj hno h0 hk=>?_) (.inl ⟨hgw wu,λw' eO=>by rw[ha.eval,M7];exact hr w' eO⟩) WJ ?_
        · cases Be:wc oj.op
          · exact((hk R BU oj jj).2 Be).2 (mN pc hrd hj hno) h0
          · rw[(hk R BU oj jj).1 Be];exact h0
        · exact Ye v f' _ _ w hk' l8 (hst v) (jz.step mU) (ha.put hd v) hw (λ_=>WJ) zO
    case false=>
      cases kj:(Region.ready .any ops (marks cl i listed)==[i])<;>simp only[kj,xap,xag]at h;have hrd:=xcO.1 kj;by_cases wu:i∈E.map Prod.fst
      · obtain⟨⟨i',b,x⟩,hx,e⟩:=xan.1 wu
        simp only at e;subst e;have hex:fP cl i'=some x:=(hE.mem _ hx).1;simp only[hex]at h;obtain⟨E1,E2,rfl⟩:=xdd hx;have nJ:Own (g.add (Ys (E1++E2))) ((b,x.1)::H) w:=by
          have h1:=(Own.fj.2 hw).perm ((xbZ H (Nv (E1:=E1) (E2:=E2) (y:=(i',b,x)))).trans xaU);exact(Own.fj (A:=(b,x.1)::H)).1 h1
        have hb:b∉H.map Prod.fst:=by
          have:=nJ.nd;rw[xaQ,xay,xaW,xaB,xao]at this;exact λh=>this.1 (.inl h)
        exact eJ hs BU Pt yh hk fuel pa cl _ _ _ (h b hb) (E1++E2) la fa hfuel (hE.ew hs pc wx) jz a w ha nJ hR (hout _)
      · have mU:=hE.ready wu EE
        have sN:=(mem_ready.1 mU).1;obtain⟨f',rfl,l8⟩:=ow sN hfuel;have adg:∀j,la.getD j true=false->cnt (la.setIfInBounds j true).toList<=f':=λj hj=>by
          obtain⟨f2,h1,h2⟩:=ow hj hfuel;have:f2=f':=by omega
          subst this;exact h2
        have hst:=λv=>hE.step hs pc wu wx v;have M7:=hE.exec (hap wu) hsel;refine dc.all rfl (λe=>by rw[e]at mU;simp at mU) λj hj=>?_;by_cases ZW:j=i
        · subst ZW
          have CY:∀oj,ops[j]? =some oj->wc oj.op=true->False:=λoj jj hp=>by rw[pc]at jj;cases jj;rw[Bf]at hp;cases hp
          unfold wpOp;simp only[pc,hgw wu,xa7];refine .inl ?_;unfold Oper.wp;rw[ha.eval,M7];cases hex:fP cl j with
          |none=>
            simp only[hex]at h;have h:=h (Ys E);refine(vM (pn fr) h w hw).upon (λv H' w' cz hb=>?_) (λch H' w' _ h0=>h0.elim);obtain⟨he,hk'⟩:=hb.of;have adx:tG P ops j=true->Own g R w':=λhn=>(Own.fj.2 (he (QZ hn) _ _ cz)).left;refine⟨λX hX oj nD=>⟨λhp=>(CY oj nD hp).elim,λ_=>⟨(Own.fj.2 cz).bg,λhn _=>Pt X hX _ _ (adx hn)⟩⟩,eJ hs BU Pt yh hk f' pa cl _ _ H' hk' E _ _ l8 (hst v) (jz.step mU) _ w' (ha.put hd v) cz ?_ (hout v)⟩;rintro⟨k,ok,uA,rK,pO⟩;refine adx ?_;have ZU:j≠k:=λe=>by
              subst e;have h1:=gi sN;have hlt:=(xaS.1 h1).1;rw[xas,xbO hlt]at pO;cases pO
            rw[getD_set_ne true ZU]at pO;refine mN uA rK ZU λhw=>?_;rw[jz.ready mU hw]at pO;cases pO
          |some x=>
            simp only[hex]at h;obtain⟨oj,fO⟩:=hE.cl j x hex hun;have jj:=fO.op;rw[pc]at jj;cases jj;rw[fO.makes w];simp only[Oper.upon];have Ps:∀{A:Hp},Own g A w->Own g A (w.alloc x.1):=λhA=>(hA.alloc x.1).tail;refine⟨λX _ oj nD=>⟨λhp=>(CY oj nD hp).elim,λ_=>⟨Ps (Own.fj.2 hw).bg,λ_ h1=>Ps h1⟩⟩,?_⟩;refine eJ hs BU Pt yh hk f' pa cl _ _ _ (h _ hw.fresh) E _ _ l8 (hst _) (jz.step mU) _ _ (ha.put hd _) (hw.alloc x.1) ?_ (hout _);rintro⟨k,ok,uA,rK,pO⟩;exact Ps (hR ⟨k,ok,uA,rK,gA sN pO⟩)
        · obtain⟨RV,Um⟩:=abJ j hj
          cases acZ:fP cl j with
          |some x=>exact early f' rfl adg j x hj acZ
          |none=>
          refine absurd ?_ ZW;have hjf:j∉cl.map Prod.fst:=λhm=>by
            obtain⟨x,hx⟩:=Ns hm;rw[acZ]at hx;cases hx
          have hjm:j∈Region.ready .any ops (marks cl i listed):=by
            obtain⟨_,oj,jj,aJ⟩:=mem_ready.1 hj;rw[mem_ready];refine⟨?_,oj,jj,λe he hb=>?_⟩
            · rw[xas,y3,xab (λh=>hjf h.1),<-xas];exact Um
            · have h1:=aJ e he hb
              have h2:=hE.la e.on;rw[xas]at h1⊢;rw[y3];by_cases hm:e.on∈E.map Prod.fst
              · obtain⟨x,hx,e2⟩:=xan.1 hm
                have wo:=gi (hE.mem x hx).2;rw[e2]at wo;have hlt:=(xaS.1 wo).1;rw[xad ⟨e2▸j3 (hE.mem x hx).1,λe3=>wu (e3▸hm),hlt⟩];rfl
              · rw[xab hm]at h2
                split
                · rfl
                · rw[<-h2];exact h1
          rw[hrd]at hjm;simpa using hjm
  termination_by fuel l=>(fuel,SizeOf.sizeOf l)
def uu:Code->Nat->Bool
  | .region _ ops _,s=>bS ops.toList s
  | .seq a b,s=>uu a s||uu b s
  | .cond _ a b,s=>uu a s||uu b s
  | .block _ c,s=>uu c s
  | .loop c,s=>uu c s
  | .skip,_=>false
  | .ret,_=>false
  | .exit _,_=>false
  |_,_=>true
def VG(c:Code):zL->Bool
  | []=>true
  |s::r=> !uu c s&&VG c r
def wH(s:Nat):zL->Bool
  | []=>false
  |x::r=>Nat.beq s x||wH s r
def VK:zL->List zV->Fr->Fr
  |l::L,v::vs,base=>λs=>cond (Nat.beq s l) v (VK L vs base s)
  |_,_,base=>base
def mix(L:zL)(vs:List zV)(I:zL)(fr gs:Fr):Fr:=VK L vs λs=>cond (wH s I) (fr s) (gs s)
def EJ(fr:Fr):zL->List zV
  | []=>[]
  |s::r=>fr s::EJ fr r
def xP:Nat->(List zV->Prop)->Prop
  |0,p=>p []
  |n+1,p=>∀v,xP n λvs=>p (v::vs)
theorem xP.intro{p:List zV->Prop}(h:∀vs,p vs):∀n,xP n p
  |0=>h _
  |n+1=>λv=>xP.intro (λvs=>h (v::vs)) n
theorem xP.elim{p:List zV->Prop}:∀{n:Nat},xP n p->∀vs:List zV,vs.length=n->p vs
  |0,h,vs,e=>by cases vs with|nil=>exact h|cons x y=>simp at e
  |n+1,h,vs,e=>by
    cases vs with
    |nil=>simp at e
    |cons x y=>exact xP.elim (h x) y (by simpa using e)
theorem Gl(fr:Fr)(L:zL):(EJ fr L).length=L.length:=by induction L<;>simp[EJ, *]
theorem vQ{L I:zL}{fr fr':Fr}(h:∀s,wH s I=true->fr' s=fr s):mix L (EJ fr' L) I fr fr'=fr':=by
  funext s
  unfold mix;induction L with
  |nil=>
    simp only[EJ,VK];cases he:wH s I
    · rfl
    · exact(h s he).symm
  |cons l L ih=>
    simp only[EJ,VK];cases hb:Nat.beq s l
    · exact ih
    · have:=xaI hb;subst this;rfl
theorem vO{c:Code}{I:zL}(h:VG c I=true):∀s,wH s I=true->uu c s=false:=by
  induction I with
  |nil=>intro s hs;simp[wH]at hs
  |cons x r ih=>
    intro s hs;simp only[VG,xaF,xbG]at h;simp only[wH,xbs]at hs;rcases hs with hs|hs
    · rw[xaI hs];exact h.1
    · exact ih h.2 s hs
def Ca(next:Fr->Hp->Prop)(Q:Exit->Fr->Hp->Prop):Exit->Fr->Hp->Prop
  | .normal,fr,H=>next fr H
  |e,fr,H=>Q e fr H
def Tr(id:Nat)(Q:Exit->Fr->Hp->Prop):Exit->Fr->Hp->Prop
  | .exit id',fr,H=>cond (Nat.beq id' id) (Q .normal fr H) (Q (.exit id') fr H)
  |e,fr,H=>Q e fr H
def JE(J:List zV->Hp->Prop)(vs:List zV)(H:Hp):Prop:=∃H',aM H H'/\J vs H'
def aC(I:List zV->Hp->Prop)(m:List zV->Hp->Nat)(vs':List zV)(H':Hp)(vs:List zV)(H:Hp):Prop:=∃nH,aM H' nH/\I vs' nH/\m vs' nH<m vs H
def Loop(L:zL)(vs:List zV)(H:Hp)(body:(List zV->Hp->Prop)->List zV->Hp->Prop):Prop:=
  ∃(I:List zV->Hp->Prop) (m:List zV->Hp->Nat),JE I vs H/\xP L.length λvs=>∀H',I vs H'->body (λvs' nH=>aC I m vs' nH vs H') vs H'
def aeo(k:Nat)(rest:List zV->Hp->Prop)(body:(List zV->Hp->Prop)->Prop):Prop:=
  ∀J:List zV->Hp->Prop,(xP k λvs=>∀H,rest vs H->J vs H)->body J
def DR(H:Hp)(body:Hp->Prop):Prop:=∃R,aM H R/\body R
def DR2(H R:Hp)(body:Hp->Prop):Prop:=∃R',aM H R'/\aM R' R/\body R'
def qo:Code->Nat->Option (Array Oper)
  | .region id ops _,k=>cond (Nat.beq id k) (some ops) none
  | .seq a b,k=>match qo a k with|some x=>some x|none=>qo b k
  | .cond _ a b,k=>match qo a k with|some x=>some x|none=>qo b k
  | .block _ c,k=>qo c k
  | .loop c,k=>qo c k
  |_,_=>none
def aaG(P:Program)(g:Gh)(id:Nat)(ops:Array Oper)(L:zL)(vs:List zV)(H:Hp)(K:Hp->Prop):Prop:=
  ∀a w,ja a.tmps.size ops.toList=true->(L.map λs=>a.tmps.getD s undef)=vs->Own g H w->
    (Code.region id ops true).wp P (λe a' w'=>e=.normal/\a'.defers=a.defers/\a'.tmps.size=a.tmps.size/\(∀s,bS ops.toList s=false->a'.tmps.getD s undef=a.tmps.getD s undef)/\∃H',Own g H' w'/\K H') a w
def pB(f:Func)(r:Nat):Array Oper:=match f.body with|some c=>(match qo c r with|some ops=>ops|none=>#[])|none=>#[]
theorem WX(fr:Fr)(L:zL):EJ fr L=L.map fr:=by induction L<;>simp[EJ, *]
def den(P:Program)(g:Gh)(n:Nat):Code->Hn->(Exit->Fr->Hp->Prop)->Fr->Hp->Prop
  | .skip,_,Q,fr,H=>Q .normal fr H
  | .ret,_,Q,fr,H=>Q .ret fr H
  | .exit id,_,Q,fr,H=>Q (.exit id) fr H
  | .seq x y,hn,Q,fr,H=>
    match hn.m with
    |0=>den P g n x hn.a (Ca (den P g n y hn.b Q) Q) fr H
    |_=>cond (VG x hn.I)
        (aeo hn.L.length (λvs H'=>∀gs,den P g n y hn.b Q (mix hn.L vs hn.I fr gs) H') λJ=>den P g n x hn.a (Ca (λfr' H'=>JE J (EJ fr' hn.L) H') Q) fr H) False
  | .cond c x y,hn,Q,fr,H=>Br (ev fr c) (den P g n x hn.a Q fr H) (den P g n y hn.b Q fr H)
  | .block id c,hn,Q,fr,H=>den P g n c hn.a (Tr id Q) fr H
  | .loop c,hn,Q,fr,H=>
    cond (VG c hn.I)
      (Loop hn.L (EJ fr hn.L) H λJ vs H'=>∀gs,den P g n c hn.a (Ca (λfr' nH=>J (EJ fr' hn.L) nH) Q) (mix hn.L vs hn.I fr gs) H') False
  | .region id ops draw,hn,Q,fr,H=>
    cond draw
      (match hn.m with
      |0=>match hn.L with
       | []=>cond (P.follows .mixedOrders&&Region.lexB .any ops) (eU P g n ops true (ops.toList.length+1) true none [] ops.toList fr H (λ_ fr' H'=>Q .normal fr' H') (λ_ _=>False)) False
       |l=>cond (P.follows .mixedOrders&&Region.noSelect ops&&Nat.ble l.length ops.size)
          (DR H λR=>ND P g n ops R (λfr' H'=>Q .normal fr' H') l (Array.replicate ops.size false) fr H) False
      |9=>cond (ja n ops.toList) (aaG P g id ops hn.L (EJ fr hn.L) H λH'=>∀gs,Q .normal (Bn ops.toList gs fr) H') False
      |_=>cond (P.follows .mixedOrders&&Region.noSelect ops)
          (DR H λR=>pH P g n ops R (λfr' H'=>Q .normal fr' H') hn.a [] (Array.replicate ops.size false) fr H) False)
      (eU P g n ops (match hn.I with| []=>false|_=>true) (ops.toList.length+1) false none [] ops.toList fr H (λ_ fr' H'=>Q .normal fr' H') (λch H'=>∀fr',Q (.panic ch) fr' H'))
  |_,_,_,_,_=>False
theorem B1{c:Code}{Q:Exit->Act->World->Prop}{a:Act}{w:World}(R:Act->World->Nat->Prop)(h₀:∃m,R a w m)
   (round:∀a w m,R a w m->c.wp P (Exit.then (λa' w'=>∃m',m'<m/\R a' w' m') Q) a w):(Code.loop c).wp P Q a w:=by
  intro b k cs;have key:∀n a w,R a w n->
      ∃e a' w',Q e a' w'/\Arrives P (lone (b.at a (.code c:: .inLoop c::k)) cs w) b k cs e a' w':=by
    intro n;induction n using Nat.strongRecOn with
    |_ n ih=>
      intro a w hI;obtain⟨e,a₁,w₁,hq,DD⟩:=round a w n hI b (.inLoop c::k) cs;cases e with
      |normal=>
        obtain⟨m',hlt,adO⟩:=hq;obtain⟨e₂,a₂,w₂,acE,Wz⟩:=ih m' hlt a₁ w₁ adO;exact⟨e₂,a₂,w₂,acE,.of_steps (Steps.trans DD (.one step_inLoop)) Wz⟩
      |exit id=>exact⟨_,a₁,w₁,hq,.pass (x:=.inLoop c) rfl (λ_ _=>.inl zI) DD⟩
      |goto l=>exact⟨_,a₁,w₁,hq,.pass (x:=.inLoop c) rfl (λ_ _=>.inl zI) DD⟩
      |ret=>exact⟨_,a₁,w₁,hq,.pass (x:=.inLoop c) rfl (λ_ _=>.inl zI) DD⟩
      |panic ch=>exact⟨_,a₁,w₁,hq,.pass (x:=.inLoop c) rfl (λ_ _=>.inl zI) DD⟩
      |outgrown=>exact⟨_,a₁,w₁,hq,.pass (x:=.inLoop c) rfl (λ_ _=>.inl zI) DD⟩
  obtain⟨m,h₀⟩:=h₀;obtain⟨e,a',w',hq,DD⟩:=key m a w h₀;exact⟨e,a',w',hq,.of_steps (.one step_loop) DD⟩
def v9:Exit->Bool
  | .panic _=>true
  |_=>false
theorem me{n:Nat}:∀(c:Code) (hn:Hn) (Q:Exit->Fr->Hp->Prop) (fr:Fr) (H:Hp),den P g n c hn Q fr H->∀(a:Act) (w:World),cA ds n a fr->Own g H w->c.wp P (λe a' w'=>∃fr' H',cA ds n a' fr'/\Own g H' w'/\(v9 e=false->∀s,uu c s=false->fr' s=fr s)/\Q e fr' H') a w:=by
  intro c;induction c with
  |skip=>intro hn Q fr H h a w ha hw;exact wp_skip ⟨fr,H,ha,hw,λ_ _ _=>rfl,h⟩
  |ret=>intro hn Q fr H h a w ha hw;exact wp_ret ⟨fr,H,ha,hw,λ_ _ _=>rfl,h⟩
  |exit id=>intro hn Q fr H h a w ha hw;exact wp_exit ⟨fr,H,ha,hw,λ_ _ _=>rfl,h⟩
  |seq x y ihx ihy=>
    intro hn Q fr H h a w ha hw;unfold den at h;have abZ:∀{WY tV:Fr},(∀s,uu x s=false->WY s=fr s)->(∀s,uu y s=false->tV s=WY s)->∀s,uu (.seq x y) s=false->tV s=fr s:=λh1 h2 s hs=>by
      simp only[uu,xaG]at hs;rw[h2 s hs.2,h1 s hs.1]
    have x4:∀{WY:Fr},(∀s,uu x s=false->WY s=fr s)->∀s,uu (.seq x y) s=false->WY s=fr s:=λh1 s hs=>by
      simp only[uu,xaG]at hs;exact h1 s hs.1
    split at h
    · refine wp_seq (wp_mono (ihx _ _ fr H h a w ha hw) ?_)
      rintro e a' w' ⟨fr',H',dQ,eO,ho,hq⟩;cases e with
      |normal=>exact wp_mono (ihy _ _ fr' H' hq a' w' dQ eO) λe2 a2 w2 ⟨tV,H2,g1,g2,g3,g4⟩=>⟨tV,H2,g1,g2,λhp=>abZ (ho rfl) (g3 hp),g4⟩
      |exit id=>exact⟨fr',H',dQ,eO,λhp=>x4 (ho hp),hq⟩
      |goto l=>exact⟨fr',H',dQ,eO,λhp=>x4 (ho hp),hq⟩
      |ret=>exact⟨fr',H',dQ,eO,λhp=>x4 (ho hp),hq⟩
      |panic ch=>exact⟨fr',H',dQ,eO,λhp=>x4 (ho hp),hq⟩
      |outgrown=>exact⟨fr',H',dQ,eO,λhp=>x4 (ho hp),hq⟩
    · cases hno:VG x hn.I<;>simp only[hno,xap,xag]at h
      have h':=h (λvs H'=>∀gs,den P g n y hn.b Q (mix hn.L vs hn.I fr gs) H') (xP.intro (λvs H' hh=>hh) _);refine wp_seq (wp_mono (ihx _ _ fr H h' a w ha hw) ?_);rintro e a' w' ⟨fr',H',dQ,eO,ho,hq⟩;cases e with
      |normal=>
        obtain⟨Hj,wv,hq⟩:=hq;have hq':den P g n y hn.b Q fr' Hj:=by
          have:=hq fr';rwa [vQ λs hs=>ho rfl s (vO hno s hs)]at this
        exact wp_mono (ihy _ _ fr' Hj hq' a' w' dQ (wv _ _ eO)) λe2 a2 w2 ⟨tV,H2,g1,g2,g3,g4⟩=>⟨tV,H2,g1,g2,λhp=>abZ (ho rfl) (g3 hp),g4⟩
      |exit id=>exact⟨fr',H',dQ,eO,λhp=>x4 (ho hp),hq⟩
      |goto l=>exact⟨fr',H',dQ,eO,λhp=>x4 (ho hp),hq⟩
      |ret=>exact⟨fr',H',dQ,eO,λhp=>x4 (ho hp),hq⟩
      |panic ch=>exact⟨fr',H',dQ,eO,λhp=>x4 (ho hp),hq⟩
      |outgrown=>exact⟨fr',H',dQ,eO,λhp=>x4 (ho hp),hq⟩
  |cond c x y ihx ihy=>
    intro hn Q fr H h a w ha hw;obtain⟨b,hb,ht,hf⟩:=h;refine wp_cond_split (t:=b) (by rw[ha.eval];exact hb) (λe=>?_) (λe=>?_)
    · exact wp_mono (ihx _ _ fr H (ht e) a w ha hw) λe2 a2 w2 ⟨tV,H2,g1,g2,g3,g4⟩=>⟨tV,H2,g1,g2,λhp s hs=>g3 hp s (by simp only[uu,xaG]at hs;exact hs.1),g4⟩
    · exact wp_mono (ihy _ _ fr H (hf e) a w ha hw) λe2 a2 w2 ⟨tV,H2,g1,g2,g3,g4⟩=>⟨tV,H2,g1,g2,λhp s hs=>g3 hp s (by simp only[uu,xaG]at hs;exact hs.2),g4⟩
  |block id c ih=>
    intro hn Q fr H h a w ha hw;refine wp_block (wp_mono (ih _ _ fr H h a w ha hw) ?_);rintro e a' w' ⟨fr',H',dQ,eO,ho,hq⟩;cases e with
    |exit id'=>
      simp only[Tr]at hq;cases hb:Nat.beq id' id<;>simp only[hb,xap,xag]at hq
      · have:id'≠id:=λe=>by subst e;simp at hb
        simp only[Exit.inBlock,this,xa2];exact⟨fr',H',dQ,eO,ho,hq⟩
      · have:=xaI hb
        simp only[Exit.inBlock,this,xa7];exact⟨fr',H',dQ,eO,ho,hq⟩
    |normal=>exact⟨fr',H',dQ,eO,ho,hq⟩
    |goto l=>exact⟨fr',H',dQ,eO,ho,hq⟩
    |ret=>exact⟨fr',H',dQ,eO,ho,hq⟩
    |panic ch=>exact⟨fr',H',dQ,eO,ho,hq⟩
    |outgrown=>exact⟨fr',H',dQ,eO,ho,hq⟩
  |loop c ih=>
    intro hn Q fr H h a w ha hw;unfold den at h;cases hno:VG c hn.I<;>simp only[hno,xap,xag]at h;obtain⟨I,m,⟨H0,ac9,h0⟩,hr⟩:=h;refine B1 (λa w k=>∃fr' H',cA ds n a fr'/\Own g H' w/\(∀s,uu c s=false->fr' s=fr s)/\I (EJ fr' hn.L) H'/\m (EJ fr' hn.L) H'=k) ⟨_,fr,H0,ha,ac9 _ _ hw,λ_ _=>rfl,h0,rfl⟩ ?_;rintro a w k ⟨WY,H1,Ge,nJ,Dy,hI,rfl⟩;have hb:=hr.elim (EJ WY hn.L) (Gl _ _) H1 hI WY;rw[vQ λs hs=>Dy s (vO hno s hs)]at hb;refine wp_mono (ih _ _ WY H1 hb a w Ge nJ) ?_;rintro e a' w' ⟨fr',H',dQ,eO,ho,hq⟩;have cz:v9 e=false->∀s,uu c s=false->fr' s=fr s:=λhp s hs=>(ho hp s hs).trans (Dy s hs);cases e with
    |normal=>obtain⟨Hj,wv,Wl,hq2⟩:=hq;exact⟨_,hq2,fr',Hj,dQ,wv _ _ eO,cz rfl,Wl,rfl⟩
    |exit id=>exact⟨fr',H',dQ,eO,cz,hq⟩
    |goto l=>exact⟨fr',H',dQ,eO,cz,hq⟩
    |ret=>exact⟨fr',H',dQ,eO,cz,hq⟩
    |panic ch=>exact⟨fr',H',dQ,eO,cz,hq⟩
    |outgrown=>exact⟨fr',H',dQ,eO,cz,hq⟩
  |region id ops draw=>
    intro hn Q fr H h a w ha hw;unfold den at h;cases draw<;>simp only[xap,xag]at h
    case false=>
      refine wp_region_list ?_;have:=cJ _ _ _ _ _ fr H _ _ h trivial (jg.nil fr) a w ha hw [] (λe a' w'=>∃fr' H',cA ds n a' fr'/\Own g H' w'/\(v9 e=false->∀s,uu (.region id ops false) s=false->fr' s=fr s)/\Q e fr' H') ?_ ?_
      · simpa using this
      · intro a' w' qN fr' H' h1 h2 h3 _ h4
        exact⟨fr',H',h1,h2,λ_=>h3,h4⟩
      · intro ch a' w' fr' H' h1 h2 h3
        exact⟨fr',H',h1,h2,λhp=>by simp[v9]at hp,h3 fr'⟩
    case true=>
      split at h
      · split at h
        · cases hc:(P.follows .mixedOrders&&Region.lexB .any ops)<;>simp only[hc,xap,xag]at h
          simp only[xaF]at hc;refine wp_region_quiet (C:=Own g H) hc.1 hc.2 hw.zY ?_;have:=dM _ none _ ops.toList fr H _ _ h trivial (jg.nil fr) a ha [] (λa'=>∀w',Own g H w'->∃fr' H',cA ds n a' fr'/\Own g H' w'/\(v9 .normal=false->∀s,uu (.region id ops true) s=false->fr' s=fr s)/\Q .normal fr' H') ?_
          · simpa using this
          · intro a' qN fr' h1 h3 _ h4
            exact λw' eO=>⟨fr',H,h1,eO,λ_=>h3,h4⟩
        · cases hc:(P.follows .mixedOrders&&Region.noSelect ops&&Nat.ble hn.L.length ops.size)<;>simp only[hc,xap,xag]at h
          simp only[xaF]at hc;obtain⟨R,hR,h⟩:=h;refine wp_mono (Q:=r6 λe a' w'=>∃fr' H',cA ds n a' fr'/\Own g H' w'/\(v9 e=false->∀s,uu (.region id ops true) s=false->fr' s=fr s)/\Q e fr' H') ?_ ?_
          · refine wp_region_any hc.1.1 (dc.any (S:=Lv P g R ops) ?_)
            exact rS hc.1.2 fr (λa w fr' H' h1 h2 h3 h4=>⟨fr',H',h1,h2,λ_=>h3,h4⟩) _ _ fr H h _ (xcS hc.2) (fo.none _ rfl) _ _ ha hw.zY (λ_=>(hR _ _ hw).zY) (eL.refl _ _)
          · intro e a w h
            cases e<;>first|exact h|exact h.elim
      · cases hc:ja n ops.toList<;>simp only[hc,xap,xag]at h
        refine wp_mono (h a w (by rw[ha.size];exact hc) (by rw[WX];exact xbh λs _=>ha.get s) hw) ?_;rintro e a' w' ⟨rfl,hd,hs,ho,H',eO,hk⟩;refine⟨Bn ops.toList (λs=>a'.tmps.getD s undef) fr,H',⟨hd.trans ha.defers,hs.trans ha.size,λs=>?_⟩,eO,λ_ s hs=>?_,hk _⟩
        · unfold Bn
          cases hb:bS ops.toList s
          · rw[xag,ho s hb,ha.get]
          · rfl
        · unfold Bn;simp only[uu]at hs;rw[hs,xag]
      · cases hc:(P.follows .mixedOrders&&Region.noSelect ops)<;>simp only[hc,xap,xag]at h
        simp only[xaF]at hc;obtain⟨R,hR,h⟩:=h;refine wp_mono (Q:=r6 λe a' w'=>∃fr' H',cA ds n a' fr'/\Own g H' w'/\(v9 e=false->∀s,uu (.region id ops true) s=false->fr' s=fr s)/\Q e fr' H') ?_ ?_
        · refine wp_region_any hc.1 (dc.any (S:=qK P g [R] ops) ?_)
          refine eJ (Xs:=[_]) hc.2 (.head _) (λX hX=>by rw[xaw.1 hX];exact .refl _) fr (λa w fr' H' h1 h2 h3 h4=>⟨fr',H',h1,h2,λ_=>h3,h4⟩) _ _ [] _ fr H h [] _ fr (by rw[Array.toList_replicate,yj];exact xaj _) ⟨by simp,by simp,by simp,λ_ _=>rfl,by simp,λj x hx=>by simp[fP]at hx⟩ (fo.none _ rfl) _ _ ha hw.zY (λ_=>(hR _ _ hw).zY) (eL.refl _ _)
        · intro e a w h
          cases e<;>first|exact h|exact h.elim
  |label l=>intro hn Q fr H h;exact h.elim
  |goto l=>intro hn Q fr H h;exact h.elim
  |scope c _=>intro hn Q fr H h;exact h.elim
  |refuse s=>intro hn Q fr H h;exact h.elim
  |rangeFunc f ps as b _ _=>intro hn Q fr H h;exact h.elim
def dj(R:Ending->Hp->Prop):List PanicEntry->Hp->Prop:=λch H=>∀_:Fr,R (.panicked ch) H
def ej:List PanicEntry->Hp->Prop:=λ_ _=>False
def vA:Code->Nat->Option (Array Oper)
  | .region id ops _,k=>cond (Nat.beq id k) (some ops) none
  | .seq a b,k=>match vA a k with|some x=>some x|none=>vA b k
  | .cond _ a b,k=>match vA a k with|some x=>some x|none=>vA b k
  | .block _ c,k=>vA c k
  | .loop c,k=>vA c k
  |_,_=>none
def gI(f:Func)(r i:Nat):Oper:=match f.body with|some c=>(match vA c r with|some ops=>(match ops[i]? with|some o=>o|none=>default)|none=>default)|none=>default
def jY:List zV->Nat->Fr
  | [],_=>λ_=>undef
  |v::r,i=>λs=>cond (Nat.beq s i) v (jY r (i+1) s)
def vx(P:Program)(fr:Fr)(H:Hp):List ResultVar->(List zV->Prop)->Prop
  | [],k=>k []
  | .tmp t::r,k=>vx P fr H r λvs=>k (fr t::vs)
  | .cell a t::r,k=>match P.underlying t,dH P t with
    |some d,some n=>cond (cP d) (az n H (fr a) λv=>vx P fr H r λvs=>k (v::vs)) (Ld H (fr a) λv=>vx P fr H r λvs=>k (v::vs))
    |_,_=>False
def EZ:List zV->zV
  | [v]=>v
  |vs=>.tuple vs.toArray
def ahU(P:Program)(fn:Func)(R:Ending->Hp->Prop):Exit->Fr->Hp->Prop
  | .normal,fr,H=>vx P fr H fn.results.toList λvs=>R (.returned (EZ vs)) H
  | .ret,fr,H=>vx P fr H fn.results.toList λvs=>R (.returned (EZ vs)) H
  | .panic ch,_,H=>R (.panicked ch) H
  |_,_,_=>False
def Gr(P:Program)(g:Gh)(fn:Func)(hn:Hn)(args:List zV)(H:Hp)(R:Ending->Hp->Prop):Prop:=
  match fn.body with
  |some c=>cond (Nat.ble args.length fn.ntmps) (den P g fn.ntmps c hn (ahU P fn R) (jY args 0) H) False
  |none=>False
theorem mT:∀(l:List zV) (i s:Nat),jY l i s=if s<i then undef else l.getD (s-i) undef
  | [],i,s=>by simp[jY]
  |v::r,i,s=>by
    simp only[jY,mT r (i+1) s];cases hb:Nat.beq s i
    · have hne:s≠i:=λe=>by subst e;simp at hb
      simp only[xag];by_cases h:s<i
      · rw[xad zO,xad h]
      · rw[xab zO,xab h,show s-i=(s-(i+1))+1 by omega]
        simp[List.getD]
    · have:=xaI hb;subst this
      simp[List.getD]
def Mw(fr:Fr):ResultVar->Sem zV
  | .tmp t=>pure (fr t)
  | .cell b t=>do loadVar t (<-asAddr (fr b))
theorem tI{fr:Fr}{H:Hp}{w:World}(hw:Own g H w){b:Tmp}{t:TypeId}{v:zV}{p:Addr}(hp:fr b=.pointer (some p))(h:(Instr.loadAt t (fr b)).run P w=.ok v w):(Mw fr (.cell b t)).run P w=.ok v w:=by
  rw[hp]at h;simp only[Mw,hp,asAddr];simpa[Instr.loadAt,Instr.sureAddr]using h
theorem q8{fr:Fr}{H:Hp}{w:World}(hw:Own g H w):∀(l:List ResultVar) (k:List zV->Prop),vx P fr H l k->
    ∃vs,(l.mapM (Mw fr)).run P w=.ok vs w/\k vs
  | [],k,h=>⟨[],by simp,h⟩
  | .tmp t::r,k,h=>by
    obtain⟨vs,hr,hk⟩:=q8 hw r _ h;refine⟨fr t::vs,?_,hk⟩;simp only[xd6,Sem.run_bind,Sem.run_pure,Result.andThen_ok,hr,Mw]
  | .cell b t::r,k,h=>by
    unfold vx at h;split at h<;>try exact h.elim
    rename_i d m hd hm;obtain⟨i,hi,him⟩:=bF hm;cases hag:cP d<;>simp only[hag,xap,xag]at h
    · obtain⟨v,hk',hf⟩:=h.fix
      obtain⟨v2,qx,e⟩:=hf.run (P:=P) hw hd hag;subst e;obtain⟨bb,off,c,T,fz,u,hp,_⟩:=hf;obtain⟨vs,hr,hk⟩:=q8 hw r _ hk';refine⟨v2::vs,?_,hk⟩;have:=tI hw hp qx;simp only[xd6,Sem.run_bind,Result.andThen_ok,hr,Sem.run_pure,this]
    · obtain⟨v,hk',hf⟩:=h.fix
      obtain⟨v2,qx,e⟩:=hf.run (P:=P) hw hd hag hi him;subst e;obtain⟨bb,off,c,T,fz,hp,_⟩:=hf;obtain⟨vs,hr,hk⟩:=q8 hw r _ hk';refine⟨v2::vs,?_,hk⟩;have:=tI hw hp qx;simp only[xd6,Sem.run_bind,Result.andThen_ok,hr,Sem.run_pure,this]
theorem iM{fn:Func}{fr:Fr}{H:Hp}{n:Nat}{a:Act}{w:World}(ha:cA ds n a fr)(hw:Own g H w){k:List zV->Prop}(h:vx P fr H fn.results.toList k):
    ∃vs,(results fn a.tmps).run P w=.ok (EZ vs) w/\k vs:=by
  obtain⟨vs,hr,hk⟩:=q8 (P:=P) hw _ _ h;refine⟨vs,?_,hk⟩;have e:results fn a.tmps=(do let vs <-fn.results.mapM (Mw fr);pure (if h:vs.size=1 then vs[0]else .tuple vs)):=by
    unfold results;congr 1;congr 1
    funext x
    cases x<;>simp only[Mw,ha.get]
  rw[e,Array.mapM_eq_mapM_toList];simp only[Sem.run_bind,Sem.run_map,hr,Result.andThen_ok,Sem.run_pure];congr 1
  match vs with
  | []=>rfl
  | [v]=>rfl
  |a::b::r=>simp[EZ]
theorem Gq{f:FuncId}{fn:Func}{hn:Hn}{args:List zV}{H:Hp}{R:Ending->Hp->Prop}(hf:P.funcs[f]? =some fn)(h:Gr P g fn hn args H R):bC P g f args.toArray H R:=by
  intro w hw;unfold Gr at h;split at h<;>try exact h.elim
  rename_i c hc;cases hl:Nat.ble args.length fn.ntmps<;>simp only[hl,xap,xag]at h;have hle:=xcS hl;refine calls_of_wp hf hc (wp_mono (me c hn _ _ H h _ w ⟨rfl,?_,?_⟩ hw) ?_)
  · simp;omega
  · intro s
    rw[mT,xas,xdS];simp only[xcW,xcC,xa2,xc4];by_cases hs:s<args.length
    · simp[hs,List.getD]
    · rw[xab hs]
      rw[xc2];have:args.getD s undef=undef:=by simp[List.getD,xaC (xc5 hs)]
      rw[this];split<;>rfl
  · rintro e a' w' ⟨fr',H',dQ,eO,_,hq⟩
    cases e with
    |normal=>obtain⟨vs,hr,hk⟩:=iM dQ eO hq;exact⟨dQ.defers,_,hr,H',eO,hk⟩
    |ret=>obtain⟨vs,hr,hk⟩:=iM dQ eO hq;exact⟨dQ.defers,_,hr,H',eO,hk⟩
    |panic ch=>exact⟨dQ.defers,H',eO,hq⟩
    |exit id=>exact hq.elim
    |goto l=>exact hq.elim
    |outgrown=>exact hq.elim
end
end Go.Sx
namespace Go.Sx
open Go
section
variable {P:Program} {g:Gh} {H:Hp}
theorem Nil.ptr{a:Addr}{k:zV->Prop}(h:k (.pointer (some a))):Nil (.pointer (some a)) k:=⟨_,rfl,h⟩
theorem ai.mk{b o off:Nat}{k:zV->Prop}(h:k (.pointer (some ⟨b,o+off,none⟩))):ai off (.pointer (some ⟨b,o,none⟩)) k:=⟨b,o,rfl,h⟩
theorem Ld.mk{b off:Nat}{c:Array zV}{T:TypeId}{fz:Nat×Nat}{v:zV}{k:zV->Prop}(hm:(b,Obj.cells c T fz)∈H)(hc:c[off]? =some v)(h:k v):Ld H (.pointer (some ⟨b,off,none⟩)) k:=
 ⟨b,off,c,T,fz,v,rfl,hm,hc,h⟩
theorem az.mk{b off n:Nat}{c:Array zV}{T:TypeId}{fz:Nat×Nat}{vs:Array zV}{k:zV->Prop}(hm:(b,Obj.cells c T fz)∈H)(hs:off+n<=c.size)(hc:c.extract off (off+n)=vs)(h:k (.agg vs)):az n H (.pointer (some ⟨b,off,none⟩)) k:=
 ⟨b,off,c,T,fz,rfl,hm,hs,by rw[hc];exact h⟩
theorem St.mk{b off n:Nat}{c:Array zV}{T:TypeId}{x:zV}{c':Array zV}{H':Hp}{k:Hp->Prop}(hu:c8 b (.cells c T zZ) (.cells c' T zZ) H H')(hx:x.cells.size=n)(hs:off+n<=c.size)
 (h1:∀v∈x.cells.toList,v.oneCell'=true)(hc:jV c off x.cells.toList=c')(h:k H'):St n H (.pointer (some ⟨b,off,none⟩)) x k:=
 ⟨b,off,c,T,H',rfl,hx,hs,h1,by rw[hc];exact hu,h⟩
theorem JE.mk{J:List zV->Hp->Prop}{vs:List zV}(h:J vs H):JE J vs H:=⟨H,.refl _,h⟩
theorem JE.of{J:List zV->Hp->Prop}{vs:List zV}{H':Hp}(e:aM H H')(h:J vs H'):JE J vs H:=⟨H',e,h⟩
theorem aC.mk{I:List zV->Hp->Prop}{m:List zV->Hp->Nat}{vs' vs:List zV}{H0:Hp}(h:I vs' H)(hm:m vs' H<m vs H0):aC I m vs' H vs H0:=⟨H,.refl _,h,hm⟩
theorem aC.of{I:List zV->Hp->Prop}{m:List zV->Hp->Nat}{vs' vs:List zV}{H' H0:Hp}(e:aM H H')(h:I vs' H')(hm:m vs' H'<m vs H0):aC I m vs' H vs H0:=⟨H',e,h,hm⟩
theorem Br.mk{b:Bool}{t f:Prop}(h1:b=true->t)(h2:b=false->f):Br (.bool b) t f:=⟨b,rfl,h1,h2⟩
theorem Br.yes{t f:Prop}(h1:t):Br (.bool true) t f:=⟨true,rfl,λ_=>h1,λh=>by simp at h⟩
theorem Br.no{t f:Prop}(h1:f):Br (.bool false) t f:=⟨false,rfl,λh=>by simp at h,λ_=>h1⟩
theorem Br.UE{b:Bool}{t f:Prop}(hb:b=true)(h1:t):Br (.bool b) t f:=by subst hb;exact Br.yes h1
theorem Br.no'{b:Bool}{t f:Prop}(hb:b=false)(h1:f):Br (.bool b) t f:=by subst hb;exact Br.no h1
theorem cS.mk{a:Bool}{want:Bool}{inner els k:Bool->Prop}(t:Bool)(h1:a=want->inner t)(h2:a= !want->els t)(h3:k t):cS (.bool a) want inner els k:=⟨a,t,rfl,h1,h2,h3⟩
theorem cS.and{a:Bool}{inner els k:Bool->Prop}(b:Bool)(h1:a=true->inner b)(h2:els false)(h3:k (a&&b)):cS (.bool a) true inner els k:=
 ⟨a,a&&b,rfl,λe=>by subst e;exact h1 rfl,λe=>by subst e;exact h2,h3⟩
theorem cS.or{a:Bool}{inner els k:Bool->Prop}(b:Bool)(h1:a=false->inner b)(h2:els true)(h3:k (a||b)):cS (.bool a) false inner els k:=
 ⟨a,a||b,rfl,λe=>by subst e;exact h1 rfl,λe=>by subst e;exact h2,h3⟩
theorem Split.mk{a:Bool}{want:Bool}{k1 k2:Prop}(h1:a=want->k1)(h2:a= !want->k2):Split (.bool a) want k1 k2:=⟨a,rfl,h1,h2⟩
theorem Split.go{a:Bool}{want:Bool}{k1 k2:Prop}(e:a=want)(h1:k1):Split (.bool a) want k1 k2:=⟨a,rfl,λ_=>h1,λe'=>by subst e;cases a<;>simp at e'⟩
theorem Split.QL{a:Bool}{want:Bool}{k1 k2:Prop}(e:a= !want)(h1:k2):Split (.bool a) want k1 k2:=⟨a,rfl,λe'=>by subst e';cases a<;>simp at e,λ_=>h1⟩
theorem aH.mk{t:Bool}{a b:zV}{k:zV->Prop}(h:k (cond t a b)):aH (.bool t) a b k:=⟨t,rfl,h⟩
theorem Un.not{b:Bool}{k:zV->Prop}(h:k (.bool !b)):Un .not (.bool b) k:=⟨_,rfl,h⟩
theorem Ext.mk{i:Nat}{vs:Array zV}{v:zV}{k:zV->Prop}(hv:vs[i]? =some v)(h:k v):Ext i (.tuple vs) k:=⟨vs,v,rfl,hv,h⟩
theorem aR.mk{a:Option Addr}{n c:Nat}{k:zV->Prop}(h:k (.int .i64 n)):aR (.slice a n c) k:=⟨a,n,c,rfl,h⟩
theorem br.of{kd j:IntKind}{n m:Int}{k:zV->Prop}(e:kd.wrap n=m)(h:k (.int kd m)):br kd (.int j n) k:=⟨j,n,rfl,by rw[e];exact h⟩
theorem Az.mk{off:Nat}{cs:Array zV}{v:zV}{k:zV->Prop}(hc:cs[off]? =some v)(h:k v):Az off (.agg cs) k:=⟨cs,v,rfl,hc,h⟩
theorem av.mk{size b o n c:Nat}{kd:IntKind}{i:Int}{k:zV->Prop}(h0:0<=i)(h1:i<(n:Int))(h:k (.pointer (some ⟨b,o+i.toNat*size,none⟩))):av size (.slice (some ⟨b,o,none⟩) n c) (.int kd i) k:=
 ⟨b,o,n,c,kd,i,rfl,rfl,h0,h1,h⟩
theorem av.nat{size b o n c:Nat}{kd:IntKind}{j:Nat}{k:zV->Prop}(h1:j<n)(h:k (.pointer (some ⟨b,o+j*size,none⟩))):av size (.slice (some ⟨b,o,none⟩) n c) (.int kd (j:Int)) k:=
 av.mk (xde j) zO (by simpa using h)
theorem av.of{size b o n c:Nat}{kd:IntKind}{i:Int}{k:zV->Prop}(j:Nat)(e:i=(j:Int))(h1:j<n)(h:k (.pointer (some ⟨b,o+j*size,none⟩))):av size (.slice (some ⟨b,o,none⟩) n c) (.int kd i) k:=by
 subst e;exact av.nat h1 h
theorem ae.eql{kd:IntKind}{a b:Int}{k:zV->Prop}(h:k (.bool (a==b))):ae .num .eql (.int kd a) (.int kd b) k:=⟨_,by simp[g8,mS],h⟩
theorem ae.neq{kd:IntKind}{a b:Int}{k:zV->Prop}(h:k (.bool (a !=b))):ae .num .neq (.int kd a) (.int kd b) k:=⟨_,by simp[g8,mS],h⟩
theorem ae.lss{kd:IntKind}{a b:Int}{k:zV->Prop}(h:k (.bool (decide (a<b)))):ae .num .lss (.int kd a) (.int kd b) k:=⟨_,by simp[g8,mS],h⟩
theorem ae.leq{kd:IntKind}{a b:Int}{k:zV->Prop}(h:k (.bool (decide (a<=b)))):ae .num .leq (.int kd a) (.int kd b) k:=⟨_,by simp[g8,mS],h⟩
theorem ae.gtr{kd:IntKind}{a b:Int}{k:zV->Prop}(h:k (.bool (decide (b<a)))):ae .num .gtr (.int kd a) (.int kd b) k:=⟨_,by simp[g8,mS],h⟩
theorem ae.geq{kd:IntKind}{a b:Int}{k:zV->Prop}(h:k (.bool (decide (b<=a)))):ae .num .geq (.int kd a) (.int kd b) k:=⟨_,by simp[g8,mS],h⟩
theorem ae.add{kd:IntKind}{a b:Int}{k:zV->Prop}(h:k (.int kd (kd.wrap (a+b)))):ae .num .add (.int kd a) (.int kd b) k:=⟨_,by simp[g8,mS],h⟩
theorem ae.sub{kd:IntKind}{a b:Int}{k:zV->Prop}(h:k (.int kd (kd.wrap (a-b)))):ae .num .sub (.int kd a) (.int kd b) k:=⟨_,by simp[g8,mS],h⟩
theorem ae.mul{kd:IntKind}{a b:Int}{k:zV->Prop}(h:k (.int kd (kd.wrap (a*b)))):ae .num .mul (.int kd a) (.int kd b) k:=⟨_,by simp[g8,mS],h⟩
theorem wrap_i64{a:Int}(h: -9223372036854775808<=a/\a<=9223372036854775807):IntKind.i64.wrap a=a:=IntWalk.i64_in _ h
theorem ae.Eo{a b:Int}{c:Int}{k:zV->Prop}(e:a+b=c)(hb: -9223372036854775808<=c/\c<=9223372036854775807)(h:k (.int .i64 c)):ae .num .add (.int .i64 a) (.int .i64 b) k:=
 ae.add (by rw[e,wrap_i64 hb];exact h)
theorem ae.lq{a b:Int}{c:Int}{k:zV->Prop}(e:a-b=c)(hb: -9223372036854775808<=c/\c<=9223372036854775807)(h:k (.int .i64 c)):ae .num .sub (.int .i64 a) (.int .i64 b) k:=
 ae.sub (by rw[e,wrap_i64 hb];exact h)
theorem ae.ab4{a b:Int}{c:Int}{k:zV->Prop}(e:a*b=c)(hb: -9223372036854775808<=c/\c<=9223372036854775807)(h:k (.int .i64 c)):ae .num .mul (.int .i64 a) (.int .i64 b) k:=
 ae.mul (by rw[e,wrap_i64 hb];exact h)
theorem ae.QA{a b:Int}{c:Int}{k:zV->Prop}(hb0:b≠0)(e:a.tdiv b=c)(hb: -9223372036854775808<=c/\c<=9223372036854775807)(h:k (.int .i64 c)):ae .num .quo (.int .i64 a) (.int .i64 b) k:=
 ⟨.int .i64 c,by simp[g8,mS,hb0,e,wrap_i64 hb],h⟩
theorem ae.aL{a:Addr}{k:zV->Prop}(h:k (.bool false)):ae .ptr .eql (.pointer (some a)) (.pointer none) k:=⟨.bool false,by simp[g8],h⟩
theorem ae.jW{k:zV->Prop}(h:k (.bool true)):ae .ptr .eql (.pointer none) (.pointer none) k:=⟨.bool true,by simp[g8],h⟩
theorem ae.AW{a:Addr}{k:zV->Prop}(h:k (.bool true)):ae .ptr .neq (.pointer (some a)) (.pointer none) k:=⟨.bool true,by simp[g8],h⟩
theorem ae.kU{a:Option Nat}{k:zV->Prop}(h:k (.bool a.isNone)):ae .map .eql (.map a) (.map none) k:=⟨.bool a.isNone,by simp[g8],h⟩
theorem aM.XJ(A B C:Hp):aM (A++(B++C)) (B++(A++C)):=.perm (by rw[<-xai,<-xai];exact xbb.append_right C)
def flat:List Hp->Hp
 | []=>[]
 | [a]=>a
 |a::b::r=>a++flat (b::r)
theorem sX:∀(l:List Hp),(flat l).Perm l.flatten
 | []=>.refl _
 | [a]=>by simp[flat]
 |a::b::r=>by
  simp only[flat,xcX];exact xbZ _ (by simpa using sX (b::r))
theorem aM.abQ(S T:List Hp)(h:S.Perm T):aM (flat S) (flat T):=
 .perm ((sX S).trans (h.flatten.trans (sX T).symm))
def rows(l:List (List zV)):Array zV:=l.flatten.toArray
theorem tW{k:Nat}:∀(l:List (List zV)) (i j:Nat),(∀r∈l,r.length=k)->j<k->l.flatten[i*k+j]? =(l[i]?).bind (·[j]?)
 | [],i,j,_,_=>by simp
 |r::l,0,j,h,hj=>by
  have:=h r zI;simp[xdX,this,hj]
 |r::l,i+1,j,h,hj=>by
  have hr:=h r zI;have ih:=tW l i j (λx hx=>h x (by simp[hx])) hj;rw[xcX,xbQ (by rw[hr,xbu];omega),hr,show(i+1)*k+j-k=i*k+j by rw[xbu];omega,ih];simp
theorem dm{k:Nat}:∀(l:List (List zV)),(∀r∈l,r.length=k)->l.flatten.length=l.length*k
 | [],_=>by simp
 |r::l,h=>by
  have hr:=h r zI;rw[xcX,xaf,hr,dm l (λx hx=>h x (by simp[hx]))];simp[xbu];omega
theorem bT{k:Nat}{l:List (List zV)}(h:∀r∈l,r.length=k):(rows l).size=l.length*k:=by simp[rows,dm l h]
theorem iL{k:Nat}{l:List (List zV)}(h:∀r∈l,r.length=k){i j:Nat}(hj:j<k):(rows l)[i*k+j]? =(l[i]?).bind (·[j]?):=by
 simp only[rows,xdo];exact tW l i j h hj
theorem AT{k:Nat}{l:List (List zV)}(h:∀r∈l,r.length=k){i:Nat}{r:List zV}(hi:l[i]? =some r):(rows l).extract (i*k) (i*k+k)=r.toArray:=by
 have hr:=h r (xav hi);have hlt:=(xah.1 hi).1;apply xdf;apply xbd;intro j;by_cases hj:j<k
 ·have:=iL h (i:=i) hj;rw[xbc,xdi];rw[xad (by rw[bT h];have:=xaX k (xcI hlt);rw[xbu]at this;omega),this,hi];simp
 rw[xaC zP,xaC zP]
theorem oZ:∀(vs:List zV) (c:List zV) (off:Nat),off+vs.length<=c.length->jV c.toArray off vs=(c.take off++vs++c.drop (off+vs.length)).toArray
 | [],c,off,_=>by simp[jV]
 |v::r,c,off,h=>by
  simp only[xaz]at h;have hl:off<c.length:=by omega
  have:c.toArray.setIfInBounds off v=(c.set off v).toArray:=by simp
  rw[jV,this,oZ r (c.set off v) (off+1) (by simp only[xbR];omega)];congr 1;have e1:(c.set off v).take (off+1)=c.take off++[v]:=by
   rw[xc1,xad hl,xeq];simp[List.take_take,hl,xcD (xb7 hl)]
  have e2:(c.set off v).drop (off+1+r.length)=c.drop (off+(v::r).length):=by
   rw[List.drop_set_of_lt zO];simp only[xaz];rw[show off+1+r.length=off+(r.length+1)by omega]
  rw[e1,e2];simp
theorem Cz{k:Nat}{l:List (List zV)}(h:∀r∈l,r.length=k){i:Nat}(hi:i<l.length){r:List zV}(hr:r.length=k):jV (rows l) (i*k) r=rows (l.set i r):=by
 unfold rows;have hlen:=dm l h;have hle:i*k+k<=l.length*k:=by have:=xaX k (xcI hi);rwa [xbu]at this
 rw[oZ r l.flatten (i*k) (by rw[hlen,hr];exact hle)];congr 1;have e:l=l.take i++[l[i]]++l.drop (i+1):=by simp
 have hp:(l.take i).flatten.length=i*k:=by
  rw[dm _ (λx hx=>h x (xcE hx))];simp[xcD (xb7 hi)]
 have hm:l[i].length=k:=h _ (xaH hi);have e3:l.flatten=(l.take i).flatten++(l[i]++(l.drop (i+1)).flatten):=by
  rw[<-xcX,<-xcr,<-xbr hi,xbq]
 have e4:(l.set i r).flatten=(l.take i).flatten++(r++(l.drop (i+1)).flatten):=by
  rw[xc1,xad hi];simp[xcr]
 rw[e4,e3,<-hp,xd7,<-List.drop_drop,List.drop_left,hr,<-hm,List.drop_left];simp
end
end Go.Sx
namespace Go.Sx
open Go
section
variable {P:Program} {g:Gh}
theorem c8.cr{b:Nat}{o o':Obj}{C C':Hp}(h:c8 b o o' C C')(A:Hp):c8 b o o' (A++C) (A++C'):=by
 induction A with
 |nil=>exact h
 |cons x A ih=>exact .tail ih
def aV(T:TypeId)(k:Nat)(v:zV)(rs:List (List zV))(C:Hp):Prop:=
 (v=.slice none 0 0/\rs=[]/\C=[])\/
 ∃b aK,v=.slice (some ⟨b,0,none⟩) rs.length (rs.length+aK.length)/\C=[(b,.cells (rows (rs++aK)) T zZ)]/\(∀r∈rs++aK,r.length=k)
theorem aV.nil(T:TypeId)(k:Nat):aV T k (.slice none 0 0) [] []:=.inl ⟨rfl,rfl,rfl⟩
theorem aV.len{T:TypeId}{k:Nat}{v:zV}{rs:List (List zV)}{C:Hp}(h:aV T k v rs C):∃a c,v=.slice a rs.length c:=by
 rcases h with⟨rfl,rfl,rfl⟩|⟨b,aK,rfl,_⟩
 ·exact⟨_,_,rfl⟩
 exact⟨_,_,rfl⟩
theorem aV.bV{T:TypeId}{k:Nat}{v:zV}{rs:List (List zV)}{C:Hp}(h:aV T k v rs C){K:zV->Prop}(hk:K (.int .i64 rs.length)):aR v K:=by
 obtain⟨a,c,rfl⟩:=h.len;exact aR.mk hk
theorem qU{k:Nat}(z:List zV)(hz:z.length=k)(m:Nat):Builtin.zeroCells z.toArray m=rows (List.replicate m z):=by
 apply xdf;apply xbd;intro j;have aJ:∀r∈List.replicate m z,r.length=k:=λr hr=>by rw[xb0 hr,hz]
 by_cases hj:j<m*k
 ·have hk:0<k:=xee λe=>by simp[e]at hj
  have hd:j/k<m:=xdY (by rw[xcm];exact hj);have hm:j%k<k:=xbB _ hk;have he:j/k*k+j%k=j:=by rw[xcm];exact xew j k
  have:=iL aJ (i:=j/k) hm;rw[he]at this;rw[xbc,xbc,this];simp only[Builtin.zeroCells,xcW,hz,xdM,hd,xa7,xen];rw[Array.getElem?_map,Array.getElem?_range];simp[hj,hz,hm]
 rw[xaC,xaC]
 ·simp only[xcc,bT aJ,xdT];omega
 simp[Builtin.zeroCells,hz];omega
theorem er(a b:List (List zV)):rows a++rows b=rows (a++b):=by simp[rows,xcr]
theorem aV.GH{elem k bytes:Nat}{zero:zV}{v:zV}{rs:List (List zV)}{C A B:Hp}(h:aV elem k v rs C){xb:Nat}{r:List zV}{xT:TypeId}{fz:Nat×Nat}{xc:Nat}
 (hx:(xb,Obj.cells r.toArray xT fz)∈A++(C++B))(hr:r.length=k)(h1:∀u∈r,u.oneCell'=true)(hz:∃z:List zV,zero.cells=z.toArray/\z.length=k)
 (hb:(rs.length+1)*bytes<=140737488355328)(cI:rs.length+1<=9223372036854775807){K:zV->Hp->Prop}
 (hk:∀v' C',aV elem k v' (rs++[r]) C'->K v' (A++(C'++B))):App P elem k bytes zero (A++(C++B)) v (.slice (some ⟨xb,0,none⟩) 1 xc) K:=by
 have KK:∀x∈[r],x.length=k:=λx hx=>by simp at hx;rw[hx];exact hr
 obtain⟨z,hz1,Wc⟩:=hz;have hnews:Cells (A++(C++B)) (some ⟨xb,0,none⟩) (1*k) (rows [r]):=.inr ⟨rfl,_,_,_,hx,by simp[hr],by simp[rows];rw[<-hr,xbj]⟩;have hnone:∀u∈(rows [r]).toList,u.oneCell'=true:=by simpa[rows]using h1
 rcases h with⟨rfl,rfl,rfl⟩|⟨b,aK,rfl,rfl,aJ⟩
 ·refine⟨none,0,0,some ⟨xb,0,none⟩,1,xc,#[],rows [r],rfl,rfl,rfl,hnews,by rw[bT KK];simp,by simp,hnone,λh=>by omega,λ_=>⟨hb,by omega,λgp hn b hbf=>?_⟩⟩;rw[show(#[]:Array zV)++rows [r]++Builtin.zeroCells zero.cells (gp-(0+1))=rows ([]++[r]++List.replicate (gp-1) z)by rw[hz1,qU z Wc];simp only[xa5,xdc,xbS];rw[er]];refine⟨_,aM.XJ [(b,_)] A B,hk _ [(b,_)] (.inr ⟨b,List.replicate (gp-1) z,?_,rfl,?_⟩)⟩
  ·simp;omega
  intro x hx;rcases xao.1 hx with hx|hx
  ·exact KK x hx
  rw[xb0 hx,Wc]
 have hsz:=bT aJ;have pQ:∀x∈rs,x.length=k:=λx hx=>aJ x (by simp[hx]);have hold:rows rs=(rows (rs++aK)).extract 0 (0+rs.length*k):=by
  rw[<-er];apply xdf;have:=bT pQ;have h2:(rows rs).toList.length=rs.length*k:=by rw[xcc];exact this
  rw[Array.toList_extract,Array.toList_append,List.extract_eq_take_drop,List.drop_zero,xa5,xc4,<-h2,xd7]
 refine⟨some ⟨b,0,none⟩,rs.length,rs.length+aK.length,some ⟨xb,0,none⟩,1,xc,rows rs,rows [r],rfl,rfl,.inr ⟨rfl,_,elem,(0,0),by simp,?_,hold⟩,hnews,by rw[bT KK];simp,bT pQ,hnone,λhfit=>?_,λhgrow=>⟨hb,by omega,λgp hn b' hbf=>?_⟩⟩
 ·rw[hsz];simp only[xaf,xa5];exact xaX _ zO
 ·obtain⟨j0,Ri,rfl⟩:∃j0 Ri,aK=j0::Ri:=by cases aK with|nil=>exact absurd hfit (by simp only[xce];omega)|cons a b=>exact⟨a,b,rfl⟩
  refine⟨_,elem,_,rfl,?_,((c8.head _).append B).cr A,hk _ [(b,_)] (.inr ⟨b,Ri,?_,?_,?_⟩)⟩
  ·rw[hsz];simp[xbu,xeC]
  ·simp;omega
  ·have e:(rows [r]).toList=r:=by simp[rows]
   rw[e,show(⟨b,0,none⟩:Addr).off+rs.length*k=rs.length*k by simp,Cz aJ zI hr];simp
  intro x hx;simp only[xai,xaQ,xbS,xao,xak]at hx;rcases hx with hx|hx|hx
  ·exact pQ x hx
  ·rw[hx];exact hr
  exact aJ x (by simp[hx])
 refine⟨A++([(b',_)]++B),?_,hk _ [(b',_)] (.inr ⟨b',List.replicate (gp-(rs.length+1)) z,?_,rfl,?_⟩)⟩
 ·rw[hz1,qU z Wc,er,er];exact λg w h=>(aM.abQ [[_],A,[_],B] [[_],A,[_],B] ((xbb (l₁:=[_,A]) (l₂:=[_])).append_right [B]|>.trans (.cons _ (.swap _ _ _))) g w h).tail
 ·simp;omega
 intro x hx;rcases xao.1 hx with hx|hx
 ·rcases xao.1 hx with hx|hx
  ·exact pQ x hx
  exact KK x hx
 rw[xb0 hx,Wc]
end
end Go.Sx
namespace Go.Sx
open Go
section
variable {P:Program} {g:Gh} {H:Hp}
theorem aV.pos{T:TypeId}{k:Nat}{v:zV}{rs:List (List zV)}{C:Hp}(h:aV T k v rs C)(hp:0<rs.length):
  ∃b aK,v=.slice (some ⟨b,0,none⟩) rs.length (rs.length+aK.length)/\C=[(b,.cells (rows (rs++aK)) T zZ)]/\(∀r∈rs++aK,r.length=k):=by
 rcases h with⟨_,rfl,_⟩|h
 ·simp at hp
 exact h
theorem aV.mk{T:TypeId}{k b:Nat}{rs aK:List (List zV)}(aJ:∀r∈rs++aK,r.length=k):aV T k (.slice (some ⟨b,0,none⟩) rs.length (rs.length+aK.length)) rs [(b,.cells (rows (rs++aK)) T zZ)]:=
 .inr ⟨b,aK,rfl,rfl,aJ⟩
theorem aV.mk'{T:TypeId}{k b n c:Nat}{rs aK:List (List zV)}(aJ:∀r∈rs++aK,r.length=k)(hn:n=rs.length)(hc:c=rs.length+aK.length):aV T k (.slice (some ⟨b,0,none⟩) n c) rs [(b,.cells (rows (rs++aK)) T zZ)]:=by
 subst hn;subst hc;exact aV.mk aJ
theorem az.row{b i k:Nat}{l:List (List zV)}{T:TypeId}{fz:Nat×Nat}{r:List zV}{K:zV->Prop}(hm:(b,Obj.cells (rows l) T fz)∈H)(aJ:∀r∈l,r.length=k)(hi:l[i]? =some r)(h:K (.agg r.toArray)):
  az k H (.pointer (some ⟨b,0+i*k,none⟩)) K:=by
 have hlt:=(xah.1 hi).1;refine az.mk hm ?_ ?_ h
 ·rw[bT aJ,xa5];have:=xaX k (xcI hlt);rwa [xbu]at this
 rw[xa5];exact AT aJ hi
theorem Ld.row{b i j k:Nat}{l:List (List zV)}{T:TypeId}{fz:Nat×Nat}{r:List zV}{v:zV}{K:zV->Prop}(hm:(b,Obj.cells (rows l) T fz)∈H)(aJ:∀r∈l,r.length=k)(hi:l[i]? =some r)(hv:r[j]? =some v)(h:K v):
  Ld H (.pointer (some ⟨b,0+i*k+j,none⟩)) K:=by
 have hr:=aJ r (xav hi);have hj:j<k:=by rw[<-hr];exact(xah.1 hv).1
 refine Ld.mk hm ?_ h;rw[xa5,iL aJ hj,hi];exact hv
theorem Ld.abR{b i:Nat}{l:List (List zV)}{T:TypeId}{fz:Nat×Nat}{v:zV}{K:zV->Prop}(hm:(b,Obj.cells (rows l) T fz)∈H)(aJ:∀r∈l,r.length=1)(hi:l[i]? =some [v])(h:K v):
  Ld H (.pointer (some ⟨b,0+i*1,none⟩)) K:=by
 have:=Ld.row (j:=0) hm aJ hi rfl h;simpa using this
theorem St.row{b i k:Nat}{l:List (List zV)}{T:TypeId}{r:List zV}{H':Hp}{K:Hp->Prop}(hu:c8 b (.cells (rows l) T zZ) (.cells (rows (l.set i r)) T zZ) H H')(aJ:∀r∈l,r.length=k)(hi:i<l.length)
 (hr:r.length=k)(h1:∀v∈r,v.oneCell'=true)(h:K H'):St k H (.pointer (some ⟨b,0+i*k,none⟩)) (.agg r.toArray) K:=by
 refine St.mk hu (by simp[Value.cells,hr]) ?_ (by simpa[Value.cells]using h1) ?_ h
 ·rw[bT aJ,xa5];have:=xaX k (xcI hi);rwa [xbu]at this
 simp only[Value.cells,xa5];exact Cz aJ hi hr
theorem pM{k:Nat}{l:List (List zV)}(h:∀r∈l,r.length=k){i j:Nat}{r:List zV}(hi:l[i]? =some r)(hj:j<k)(v:zV):(rows l).setIfInBounds (i*k+j) v=rows (l.set i (r.set j v)):=by
 have hr:=h r (xav hi);have hlt:=(xah.1 hi).1;have Sn:∀x∈l.set i (r.set j v),x.length=k:=λx hx=>by
  rcases xcf hx with hx|hx
  ·exact h x hx
  rw[hx,xbR];exact hr
 have hk:0<k:=by omega
 apply xdf;apply xbd;intro m;rw[xbc,xbc,xcp];have hm:m%k<k:=xbB _ hk;have he:m/k*k+m%k=m:=by rw[xcm];exact xew m k
 have g1:=iL h (i:=m/k) hm;have g2:=iL Sn (i:=m/k) hm;rw[he]at g1 g2;rw[g1,g2];by_cases e:i*k+j=m
 ·have e1:m/k=i:=by rw[<-e,xcm,Nat.mul_add_div hk,xdr hj,xcu]
  have e2:m%k=j:=by rw[<-e,xcm,Nat.mul_add_mod,xbk hj]
  rw[xad e,xad (by rw[bT h];have:=xaX k (xcI hlt);rw[xbu]at this;omega),e1,e2];simp[hlt,hr,hj]
 rw[xab e];by_cases e1:m/k=i
 ·have e2:j≠m%k:=λe2=>e (by rw[e2,<-e1];exact he);rw[e1,hi];simp[hlt,e2]
 rw[xbK (λx=>e1 x.symm)]
theorem St.cell{b i j k:Nat}{l:List (List zV)}{T:TypeId}{r:List zV}{v:zV}{H':Hp}{K:Hp->Prop}(hu:c8 b (.cells (rows l) T zZ) (.cells (rows (l.set i (r.set j v))) T zZ) H H')(aJ:∀r∈l,r.length=k)
 (hi:l[i]? =some r)(hj:j<k)(h1:v.oneCell'=true)(h:K H'):St 1 H (.pointer (some ⟨b,0+i*k+j,none⟩)) v K:=by
 have hlt:=(xah.1 hi).1;have hc:v.cells=#[v]:=by cases v<;>first|rfl|(simp[Value.oneCell']at h1)
 refine St.mk hu (by simp[hc]) ?_ (by simp[hc,h1]) ?_ h
 ·rw[bT aJ,xa5];have:=xaX k (xcI hlt);rw[xbu]at this;omega
 simp only[hc,xa5,jV];exact pM aJ hi hj v
theorem St.one{b off:Nat}{c c':Array zV}{T:TypeId}{v:zV}{H':Hp}{K:Hp->Prop}(hu:c8 b (.cells c T zZ) (.cells c' T zZ) H H')(h1:v.oneCell'=true)(hs:off<c.size)(hc:c.setIfInBounds off v=c')(h:K H'):
  St 1 H (.pointer (some ⟨b,off,none⟩)) v K:=by
 have hv:v.cells=#[v]:=by cases v<;>first|rfl|(simp[Value.oneCell']at h1)
 exact St.mk hu (by simp[hv]) zO (by simp[hv,h1]) (by simpa[hv,jV]using hc) h
theorem St.whole{b n:Nat}{c:Array zV}{T:TypeId}{r:List zV}{H':Hp}{K:Hp->Prop}(hu:c8 b (.cells c T zZ) (.cells r.toArray T zZ) H H')(hs:c.size=n)(hr:r.length=n)(h1:∀v∈r,v.oneCell'=true)(h:K H'):
  St n H (.pointer (some ⟨b,0,none⟩)) (.agg r.toArray) K:=by
 refine St.mk hu (by simp[Value.cells,hr]) zO (by simpa[Value.cells]using h1) ?_ h;have:=oZ r c.toList 0 zP;rw[xdq]at this;simp only[Value.cells];rw[this];simp[xdj,hr,hs]
theorem az.whole{b n:Nat}{r:List zV}{T:TypeId}{fz:Nat×Nat}{K:zV->Prop}(hm:(b,Obj.cells r.toArray T fz)∈H)(hr:r.length=n)(h:K (.agg r.toArray)):az n H (.pointer (some ⟨b,0,none⟩)) K:=
 az.mk hm (by simp[hr]) (by simp;rw[<-hr,xbj]) h
theorem gW{α β:Type}(f:α->β):∀(l:List α) (i:Nat),(l.map f).eraseIdx i=(l.eraseIdx i).map f
 | [],_=>rfl
 |x::l,0=>rfl
 |x::l,i+1=>by simp[gW f l i]
def gf{β:Type}(kd:IntKind)(enc:β->zV)(m:List (Int×β×Nat)):Array MapEntry:=(m.map λx=>({key:=.int kd x.1,val:=enc x.2.1,born:=x.2.2}:MapEntry)).toArray
def gQ{β:Type}(m:List (Int×β×Nat))(x:Int):Option β:=(m.find? (λy=>x==y.1)).map (·.2.1)
def kZ{β:Type}(kd:IntKind)(enc:β->zV)(v:zV)(f:Int->Option β)(C:Hp):Prop:=
 (v=.map none/\C=[]/\f=λ_=>none)\/
 ∃b m ck,v=.map (some b)/\C=[(b,.map (gf kd enc m) ck)]/\(m.map Prod.fst).Nodup/\f=gQ m
theorem jD{β:Type}(kd:IntKind)(enc:β->zV)(x:Int):∀(m:List (Int×β×Nat)) (i:Nat),
  ∃r,Instr.findNow (.int kd) (.int kd x) (gf kd enc m).toList i=some r/\
   (match r with
    |none=>gQ m x=none/\x∉m.map Prod.fst
    |some (j,v)=>i<=j/\∃p n,m[j-i]? =some (x,p,n)/\v=enc p/\gQ m x=some p)
 | [],i=>⟨none,by simp[gf,Instr.findNow],by simp[gQ]⟩
 |(y,p,n)::m,i=>by
  simp only[gf,xay,Instr.findNow,Instr.sameNow,xa7];by_cases e:x=y
  ·subst e;refine⟨some (i,enc p),by simp[Instr.findNow,Instr.sameNow],xaj _,p,n,by simp,rfl,by simp[gQ]⟩
  obtain⟨r,hr,hp⟩:=jD kd enc x m (i+1);have hb:(x==y)=false:=by simpa using e
  refine⟨r,?_,?_⟩
  ·simp only[gf]at hr;simp[Instr.findNow,Instr.sameNow,hb,hr]
  cases r with
  |none=>
   simp only[gQ,xbv,hb]at hp⊢;exact⟨hp.1,by simpa[e]using hp.2⟩
  |some jv=>
   obtain⟨j,v⟩:=jv;simp only[gQ,xbv,hb]at hp⊢;obtain⟨hij,p',n',h1,h2,h3⟩:=hp;refine⟨by omega,p',n',?_,h2,h3⟩;rw[show j-i=(j-(i+1))+1 by omega];simpa using h1
theorem kZ.look{β:Type}{kd:IntKind}{enc:β->zV}{v zero:zV}{f:Int->Option β}{C:Hp}{ok:Bool}{x:Int}{K:zV->Prop}(h:kZ kd enc v f C)(hC:∀y∈C,y∈H)
 (hk:K (match f x with|some p=>cond ok (.tuple #[enc p,.bool true]) (enc p)|none=>cond ok (.tuple #[zero,.bool false]) zero)):c6 (.int kd) zero ok H v (.int kd x) K:=by
 rcases h with⟨rfl,rfl,rfl⟩|⟨b,m,ck,rfl,rfl,_,rfl⟩
 ·exact⟨#[],none,.inl ⟨rfl,rfl⟩,rfl,hk⟩
 obtain⟨r,hr,hp⟩:=jD kd enc x m 0;refine⟨_,r,.inr ⟨b,ck,rfl,hC _ zI⟩,hr,?_⟩;cases r with
 |none=>simp only[hp.1]at hk;exact hk
 |some jv=>
  obtain⟨j,u⟩:=jv;obtain⟨_,p,n,_,rfl,h3⟩:=hp;simp only[h3]at hk;exact hk
def Pf{β:Type}(f:Int->Option β)(x:Int)(p:Option β):Int->Option β:=λy=>if y=x then p else f y
theorem kZ.made{β:Type}{kd:IntKind}{enc:β->zV}(b:Nat):kZ kd enc (.map (some b)) (λ_=>none) [(b,.map #[] 0)]:=
 .inr ⟨b,[],0,rfl,rfl,by simp,by funext x;simp[gQ]⟩
theorem FD{β:Type}(m:List (Int×β×Nat))(x:Int)(p:β)(n:Nat)(hx:x∉m.map Prod.fst):gQ (m++[(x,p,n)])=Pf (gQ m) x (some p):=by
 funext y
 simp only[gQ,Pf,List.find?_append];by_cases e:y=x
 ·subst e;have:m.find? (λz=>y==z.1)=none:=by
   rw[xcP];intro z hz;simp only[xcO];intro e;exact hx (e▸xaT hz)
  simp[this]
 have e':(y==x)=false:=by simpa using e
 rw[xab e];cases h:m.find? (λz=>y==z.1)<;>simp[e']
theorem y4{β:Type}:∀(m:List (Int×β×Nat)) (j:Nat) (x:Int) (p q:β) (n:Nat),(m.map Prod.fst).Nodup->m[j]? =some (x,q,n)->gQ (m.set j (x,p,n))=Pf (gQ m) x (some p)
 | [],j,_,_,_,_,_,h=>by simp at h
 |y::m,0,x,p,q,n,nd,h=>by
  simp at h;subst h
  funext z
  simp only[xcz,gQ,Pf,xbv];by_cases e:z=x
  ·subst e;simp
  have e':(z==x)=false:=by simpa using e
  rw[xab e];simp[e']
 |y::m,j+1,x,p,q,n,nd,h=>by
  simp at h;simp only[xay,xaW]at nd;have ih:=y4 m j x p q n nd.2 h;have hne:x≠y.1:=λe=>nd.1 (e▸xaT (f:=Prod.fst) (xav h))
  funext z
  have ihz:=congrFun ih z;simp only[xed,gQ,Pf,xbv]at ihz⊢;by_cases e:z=y.1
  ·have:z≠x:=λe2=>hne (e2▸e);simp[e,xa9 hne]
  have e':(z==y.1)=false:=by simpa using e
  simp only[e'];exact ihz
theorem tH{β:Type}:∀(m:List (Int×β×Nat)) (j:Nat) (x:Int) (q:β) (n:Nat),(m.map Prod.fst).Nodup->m[j]? =some (x,q,n)->gQ (m.eraseIdx j)=Pf (gQ m) x none
 | [],j,_,_,_,_,h=>by simp at h
 |y::m,0,x,q,n,nd,h=>by
  simp at h;subst h;simp only[xay,xaW]at nd
  funext z
  simp only[List.eraseIdx_cons_zero,gQ,Pf,xbv];by_cases e:z=x
  ·subst e;have:m.find? (λw=>z==w.1)=none:=by
    rw[xcP];intro w hw;simp only[xcO];intro e;exact nd.1 (e▸xaT hw)
   simp[this]
  have e':(z==x)=false:=by simpa using e
  rw[xab e];simp[e']
 |y::m,j+1,x,q,n,nd,h=>by
  simp at h;simp only[xay,xaW]at nd;have ih:=tH m j x q n nd.2 h;have hne:x≠y.1:=λe=>nd.1 (e▸xaT (f:=Prod.fst) (xav h))
  funext z
  have ihz:=congrFun ih z;simp only[List.eraseIdx_cons_succ,gQ,Pf,xbv]at ihz⊢;by_cases e:z=y.1
  ·simp[e,xa9 hne]
  have e':(z==y.1)=false:=by simpa using e
  simp only[e'];exact ihz
theorem kZ.bK{β:Type}{kd:IntKind}{enc:β->zV}{b:Nat}{f:Int->Option β}{C:Hp}{x:Int}{p:β}{A B:Hp}{K:Hp->Prop}(h:kZ kd enc (.map (some b)) f C)
 (hk:∀C',kZ kd enc (.map (some b)) (Pf f x (some p)) C'->K (A++(C'++B))):aW (.int kd) (A++(C++B)) (.map (some b)) (.int kd x) (enc p) K:=by
 rcases h with⟨h,_,_⟩|⟨b',m,ck,hb,rfl,nd,rfl⟩
 ·simp at h
 simp only[Value.map.injEq,xar]at hb;subst hb;obtain⟨r,hr,hp⟩:=jD kd enc x m 0;refine⟨b,gf kd enc m,ck,r,rfl,hr,?_⟩;cases r with
 |none=>
  refine⟨_,((c8.head _).append B).cr A,hk [(b,_)] (.inr ⟨b,m++[(x,p,ck)],ck+1,rfl,?_,?_,?_⟩)⟩
  ·simp[gf]
  ·rw[xaB,xa3];exact⟨nd,by simp,λa ha c hc=>by simp at hc;subst hc;intro e;subst e;exact hp.2 ha⟩
  exact(FD m x p ck hp.2).symm
 |some jv=>
  obtain⟨j,u⟩:=jv;obtain⟨_,q,n,h1,rfl,h3⟩:=hp;rw[xc4]at h1;have hlt:=(xah.1 h1).1;refine⟨λe he=>?_,by simpa[gf]using hlt,_,((c8.head _).append B).cr A,hk [(b,_)] (.inr ⟨b,m.set j (x,p,n),ck,rfl,?_,?_,?_⟩)⟩
  ·have:e={key:=.int kd x,val:=enc q,born:=n}:=by
    simp only[gf,xdo,xat,h1]at he;simpa using he.symm
   subst this;simp[Instr.sameBits]
  ·congr 3;apply xdf;apply xbd;intro i;simp only[gf,xbc,xbY,xdo,xat,xbn];by_cases e:j=i
   ·subst e;have hj:m[j]=(x,q,n):=by have:=xaa hlt;rw[h1]at this;simpa using this.symm
    simp[hlt,hj]
   simp[e]
  ·rw[xcQ];have hx:(m.map Prod.fst)[j]? =some x:=by rw[xat,h1];rfl
   rw[show(m.map Prod.fst).set j x=m.map Prod.fst by
    apply xbd;intro i;rw[xbn];by_cases e:j=i
    ·subst e;rw[hx];simp[hlt]
    simp[e]]
   exact nd
  exact(y4 m j x p q n nd h1).symm
theorem kZ.del{β:Type}{kd:IntKind}{enc:β->zV}{v:zV}{f:Int->Option β}{C:Hp}{x:Int}{A B:Hp}{K:Hp->Prop}(h:kZ kd enc v f C)
 (hk:∀C',kZ kd enc v (Pf f x none) C'->K (A++(C'++B))):oJ (.int kd) (A++(C++B)) v (.int kd x) K:=by
 rcases h with⟨rfl,rfl,rfl⟩|⟨b,m,ck,rfl,rfl,nd,rfl⟩
 ·refine .inl ⟨rfl,hk [] (.inl ⟨rfl,rfl,?_⟩)⟩
  funext y;simp[Pf]
 obtain⟨r,hr,hp⟩:=jD kd enc x m 0;refine .inr ⟨b,gf kd enc m,ck,r,rfl,hr,?_⟩;cases r with
 |none=>
  refine⟨by simp,hk [(b,_)] (.inr ⟨b,m,ck,rfl,rfl,nd,?_⟩)⟩
  funext y;simp only[Pf];split
  ·rename_i e;subst e;exact hp.1.symm
  rfl
 |some jv=>
  obtain⟨j,u⟩:=jv;obtain⟨_,q,n,h1,rfl,h3⟩:=hp;rw[xc4]at h1;have hlt:=(xah.1 h1).1;refine⟨_,((c8.head _).append B).cr A,hk [(b,_)] (.inr ⟨b,m.eraseIdx j,ck,rfl,?_,?_,?_⟩)⟩
  ·congr 3;apply xdf;simp[gf,Array.eraseIdxIfInBounds,hlt,gW]
  ·rw[<-gW];exact nd.sublist (xdU _ _)
  exact(tH m j x q n nd h1).symm
end
end Go.Sx
namespace Go.Sx
open Go
section
variable {P:Program} {g:Gh} {H:Hp}
theorem wE(off:Nat):∀(r:List zV) (i:Nat) (c:Array zV),(r.zipIdx i).foldl (λcs (x:zV×Nat)=>cs.setIfInBounds (off+x.2) x.1) c=jV c (off+i) r
 | [],i,c=>rfl
 |v::r,i,c=>by
  rw[List.zipIdx_cons,xcF,wE off r (i+1)];rfl
theorem Nq(off:Nat)(a c:Array zV):a.zipIdx.foldl (λcs (x:zV×Nat)=>cs.setIfInBounds (off+x.2) x.1) c=jV c off a.toList:=by
 rw[<-Array.foldl_toList];have:a.zipIdx.toList=a.toList.zipIdx 0:=by simp
 rw[this,wE off a.toList 0 c];rfl
def vI:List zV->Nat->List zV->List zV
 |c,_,[]=>c
 |c,off,v::r=>vI (c.set off v) (off+1) r
theorem mK:∀(r c:List zV) (off:Nat),jV c.toArray off r=(vI c off r).toArray
 | [],c,off=>rfl
 |v::r,c,off=>by
  have:c.toArray.setIfInBounds off v=(c.set off v).toArray:=by simp
  rw[jV,vI,this,mK r]
def pU(place:Nat->Option (Nat×Nat)):List zV->List (Nat×zV)->Option (List zV)
 |c,[]=>some c
 |c,(i,v)::r=>
  match place i with
  |none=>none
  |some (off,size)=>cond (Nat.beq v.cells.toList.length size&&Nat.ble (off+v.cells.toList.length) c.length) (pU place (vI c off v.cells.toList) r) none
theorem mX{place:Nat->Option (Nat×Nat)}:∀(r:List (Nat×zV)) (c cs:List zV),pU place c r=some cs->Instr.fill place c.toArray r=some cs.toArray
 | [],c,cs,h=>by simp only[pU,xar]at h;subst h;rfl
 |(i,v)::r,c,cs,h=>by
  simp only[pU]at h;simp only[Instr.fill];split at h
  ·simp at h
  rename_i off size hp;cases hc:(Nat.beq v.cells.toList.length size&&Nat.ble (off+v.cells.toList.length) c.length)<;>simp only[hc,xap,xag,reduceCtorEq]at h;simp only[xaF]at hc;have h1:=xaI hc.1;have h2:=xcS hc.2;have h3:v.cells.toList.length=v.cells.size:=xcc;have hsz:v.cells.size=size:=by rw[<-h3];exact h1
  have hle:off+v.cells.size<=c.length:=by rw[<-h3];exact h2
  simp only[hp];have Sc:(decide (v.cells.size≠size)||decide (off+v.cells.size>c.toArray.size))=false:=by
   rw[xaG];exact⟨by simp[hsz],by simp only[xcW,xbp];omega⟩
  rw[Sc];simp only[xaO,xa2];rw[Nq,mK];exact mX r _ cs h
def q9(P:Program):List Field->Option (List (Nat×Nat))
 | []=>some []
 |f::r=>match dH P f.type,q9 P r with
  |some n,some l=>some ((f.offset,n)::l)
  |_,_=>none
def Tp(P:Program)(t:TypeId)(parts:List (Nat×zV)):Option (List zV):=
 match P.underlying t,fJ P t with
 |some (.struct fs),some z=>match q9 P fs.toList with
  |some pl=>pU (λi=>pl[i]?) z.cells.toList parts
  |none=>none
 |_,_=>none
theorem tE:∀(fs:List Field) (pl:List (Nat×Nat)),q9 P fs=some pl->∀w,(fs.mapM λf=>(do pure (f.offset,<-sizeOf f.type):Sem (Nat×Nat))).run P w=.ok pl w
 | [],pl,h,w=>by simp only[q9,xar]at h;subst h;rfl
 |f::r,pl,h,w=>by
  simp only[q9]at h;split at h
  ·rename_i n l hn hl;simp only[xar]at h;subst h;obtain⟨i,hi,hin⟩:=bF hn;have ih:=tE r l hl w;simp only[xd6,Sem.run_bind,run_sizeOf hi,Result.andThen_ok,Sem.run_pure,hin,ih]
  simp at h
theorem Build.mk{t:TypeId}{parts:List (Nat×zV)}{cs:List zV}{k:zV->Prop}(hb:Tp P t parts=some cs)(h:k (.agg cs.toArray)):Build P t parts k:=by
 refine⟨_,λw=>?_,h⟩;unfold Tp at hb;split at hb
 ·rename_i fs z hu hz;split at hb
  ·rename_i pl zm;obtain⟨i,hi,yd⟩:=cH hz;have hf:=mX _ _ _ hb;have hp:=tE fs.toList pl zm w;simp only[Instr.build,Sem.run_bind,dU hi yd,Result.andThen_ok,run_underlying hu];have e2:((fs.mapM λf=>(do pure (f.offset,<-sizeOf f.type):Sem (Nat×Nat))).run P w)=.ok pl.toArray w:=by
    rw[Array.mapM_eq_mapM_toList];simp only[Sem.run_map,hp,Result.andThen_ok]
   rw[e2];show Sem.run P _ w=_;have e3:Instr.fill (λx=>pl.toArray[x]?) z.cells parts=some cs.toArray:=by
    simpa using hf
   simp only[e3];rfl
  simp at hb
 simp at hb
theorem ax.one{t e k:Nat}{z:zV}{r:List zV}{K:zV->Hp->Prop}(h1:P.underlying t=some (.slice e))(h2:dH P e=some k)(h3:fJ P e=some z)(hk:0<k/\k<=16777216)(hr:r.length=k)
 (h:∀b,K (.slice (some ⟨b,0,none⟩) 1 1) ((b,.cells r.toArray e zZ)::H)):ax P t 1 [(0,.agg r.toArray)] H K:=by
 refine⟨r.toArray,e,k,z,h1,h2,h3,by omega,?_,λb _=>h b⟩;have:((Array.range (1*k)).map (z.cells[· %z.cells.size]!))=(((Array.range (1*k)).map (z.cells[· %z.cells.size]!)).toList).toArray:=by rw[xdq]
 rw[this];generalize hc:((Array.range (1*k)).map (z.cells[· %z.cells.size]!)).toList=c;have hlen:c.length=k:=by rw[<-hc];simp
 refine mX _ _ _ ?_;simp only[pU,Value.cells];have hb:(Nat.beq r.toArray.toList.length k&&Nat.ble (0*k+r.toArray.toList.length) c.length)=true:=by simp[hr,hlen]
 rw[hb];simp only[xap,xar];have:=oZ r c 0 zO;rw[mK]at this;have h5:vI c 0 r=List.take 0 c++r++List.drop (0+r.length) c:=by simpa using xck Array.toList this
 simp only[xdZ];rw[h5];simp[xdj,hr,hlen]
end
end Go.Sx
namespace Go.Sx
open Go
section
variable {P:Program} {g:Gh} {H:Hp}
theorem kZ.MO{β:Type}{kd:IntKind}{enc:β->zV}{v zero:zV}{f:Int->Option β}{C:Hp}{ok:Bool}{x:Int}{K:zV->Prop}{p:β}(h:kZ kd enc v f C)(hC:∀y∈C,y∈H)(hf:f x=some p)
 (hk:K (cond ok (.tuple #[enc p,.bool true]) (enc p))):c6 (.int kd) zero ok H v (.int kd x) K:=h.look hC (by rw[hf];exact hk)
theorem kZ.MP{β:Type}{kd:IntKind}{enc:β->zV}{v zero:zV}{f:Int->Option β}{C:Hp}{ok:Bool}{x:Int}{K:zV->Prop}(h:kZ kd enc v f C)(hC:∀y∈C,y∈H)(hf:f x=none)
 (hk:K (cond ok (.tuple #[zero,.bool false]) zero)):c6 (.int kd) zero ok H v (.int kd x) K:=h.look hC (by rw[hf];exact hk)
theorem gx.upto{size n c h:Nat}{a:Option Addr}{kd:IntKind}{k:zV->Prop}(hh:h<=c)(hk:k (.slice a h c)):gx size (.slice a n c) none (some (.int kd (h:Int))) k:=by
 refine⟨a,n,c,0,h,rfl,rfl,rfl,by omega,by omega,by omega,?_⟩;have:(if c=(0:Int).toNat then a else a.map (·.add ((0:Int).toNat*size)))=a:=by
  split
  ·rfl
  simp only[Int.toNat_zero,xdZ];cases a with
  |none=>rfl
  |some x=>simp[Addr.add_zero']
 rw[this];simpa using hk
end
end Go.Sx
namespace Go.Sx
open Go
section
variable {P:Program} {g:Gh} {H:Hp}
inductive bH(C:Hp):Hp->(Hp->Hp)->Prop
 |here:bH C C (λX=>X)
 |left {A:Hp}:bH C (C++A) (λX=>X++A)
 |cons {x:Nat×Obj} {H:Hp} {c:Hp->Hp} (h:bH C H c):bH C (x::H) (λX=>x::c X)
 |app {A H:Hp} {c:Hp->Hp} (h:bH C H c):bH C (A++H) (λX=>A++c X)
theorem bH.spec{C H:Hp}{c:Hp->Hp}(h:bH C H c):H=c C/\∃F,∀X,(c X).Perm (X++F):=by
 induction h with
 |here=>exact⟨rfl,[],λX=>by simp⟩
 | @left A=>exact⟨rfl,A,λX=>.refl _⟩
 | @cons x H c h ih=>
  obtain⟨h1,F,h2⟩:=ih;exact⟨by rw[h1],x::F,λX=>(List.Perm.cons x (h2 X)).trans xaU.symm⟩
 | @app A H c h ih=>
  obtain⟨h1,F,h2⟩:=ih;refine⟨by rw[h1],A++F,λX=>(xbZ A (h2 X)).trans ?_⟩;rw[<-xai,<-xai];exact xbb.append_right F
theorem bH.dN{C H:Hp}{c:Hp->Hp}(h:bH C H c){X Y:Hp}(e:aM X Y):aM (c X) (c Y):=by
 obtain⟨_,F,hp⟩:=h.spec;exact(aM.perm (hp X)).trans ((e.frame F).trans (.perm (hp Y).symm))
theorem aM.cons{x:Nat×Obj}{A B:Hp}(h:aM A B):aM (x::A) (x::B):=aM.de h [x]
theorem aM.skip{x:Nat×Obj}{A B:Hp}(h:aM A B):aM (x::A) B:=aM.tail.trans h
theorem aM.eY{X A B:Hp}(h:aM A B):aM (X++A) B:=aM.right.trans h
theorem aM.assoc{A B C:Hp}:aM ((A++B)++C) (A++(B++C)):=λ_ _ h=>by rw[<-xai];exact h
theorem bC.frame{f:FuncId}{args:Array zV}{C F:Hp}{R:Ending->Hp->Prop}(h:∀g,bC P g f args C R):bC P g f args (C++F) (λe H'=>∃C',H'=C'++F/\R e C'):=by
 intro w hw;exact((h (g.add F)) w (Own.fj.1 hw)).mono λe w' ⟨H',ho,hr⟩=>⟨_,Own.fj.2 ho,H',rfl,hr⟩
theorem bC.hole{f:FuncId}{args:Array zV}{C H:Hp}{c:Hp->Hp}{R:Ending->Hp->Prop}(hh:bH C H c)(h:∀g,bC P g f args C R):bC P g f args H (λe H'=>∃C',H'=c C'/\R e C'):=by
 obtain⟨rfl,F,hp⟩:=hh.spec;exact((bC.frame (F:=F) h).pre (.perm (hp C))).post λe H' ⟨C',h1,h2⟩=>⟨c C',by rw[h1];exact .perm (hp C').symm,C',rfl,h2⟩
def Fc(P:Program)(f:FuncId)(args:Array zV)(C:Hp)(Q:zV->Hp->Prop):Prop:=
 ∀g,bC P g f args C (λe H'=>∃v nH,e=.returned v/\aM H' nH/\Q v nH)
def aN(Q:zV->Hp->Prop):Ending->Hp->Prop:=λe H'=>∃v nH,e=.returned v/\aM H' nH/\Q v nH
theorem aN.mk{Q:zV->Hp->Prop}{v:zV}{H nH:Hp}(he:aM H nH)(h:Q v nH):aN Q (.returned v) H:=⟨v,nH,rfl,he,h⟩
theorem aN.here{Q:zV->Hp->Prop}{v:zV}{H:Hp}(h:Q v H):aN Q (.returned v) H:=⟨v,H,rfl,.refl _,h⟩
theorem Fc.mono{f:FuncId}{args:Array zV}{C:Hp}{Q Q':zV->Hp->Prop}(h:Fc P f args C Q)(hq:∀v H,Q v H->Q' v H):Fc P f args C Q':=
 λg=>(h g).mono λe H' ⟨v,nH,h1,h2,h3⟩=>⟨v,nH,h1,h2,hq _ _ h3⟩
def Rd(P:Program)(f:FuncId)(args:Array zV)(B:Hp)(Q:zV->Prop):Prop:=Fc P f args B (λv H=>H=B/\Q v)
theorem aa.fn{f:FuncId}{args:Array zV}{C H:Hp}{c:Hp->Hp}{Q:zV->Hp->Prop}{K:zV->Hp->Prop}{KP:List PanicEntry->Hp->Prop}(hh:bH C H c)(hc:Fc P f args C Q)
 (hk:∀v C',Q v C'->K v (c C')):aa P g f args H K KP:=
 (bC.hole hh hc).post λe H' ⟨C',h1,v,C'',h2,h3,h4⟩=>⟨c C'',by rw[h1];exact hh.dN h3,by subst h2;exact hk _ _ h4⟩
theorem aa.rd{f:FuncId}{args:Array zV}{B H:Hp}{c:Hp->Hp}{Q:zV->Prop}{K:zV->Hp->Prop}{KP:List PanicEntry->Hp->Prop}(hh:bH B H c)(hc:Rd P f args B Q)
 (hk:∀v,Q v->K v H):aa P g f args H K KP:=
 aa.fn hh hc λv C' ⟨h1,h2⟩=>by subst h1;rw[<-hh.spec.1];exact hk v h2
theorem aE.of{fv:zV}{args:Array zV}{K:zV->Hp->Prop}{KP:List PanicEntry->Hp->Prop}{f:FuncId}{first captured:Array zV}(hf:fv=.func (.func f) first captured)(hc:aU P f=true)
 (h:aa P g f (first++args++captured) H K KP):aE P g fv args H K KP:=⟨f,first,captured,hf,hc,h⟩
theorem DR.self{body:Hp->Prop}(h:body H):DR H body:=⟨H,.refl _,h⟩
theorem DR.of{R:Hp}{body:Hp->Prop}(e:aM H R)(h:body R):DR H body:=⟨R,e,h⟩
def At(B:Hp)(p:zV)(r:List zV):Prop:=∃b o c T fz,p=.pointer (some ⟨b,o,none⟩)/\(b,Obj.cells c T fz)∈B/\∀j v,r[j]? =some v->c[o+j]? =some v
theorem At.block{b:Nat}{l:List zV}{T:TypeId}{fz:Nat×Nat}{B:Hp}(h:(b,Obj.cells l.toArray T fz)∈B):At B (.pointer (some ⟨b,0,none⟩)) l:=
 ⟨b,0,_,T,fz,rfl,h,λj v hj=>by simpa using hj⟩
theorem Ld.at{p v:zV}{r:List zV}{B:Hp}{k:zV->Prop}(h:At B p (v::r))(hs:∀x∈B,x∈H)(hk:k v):Ld H p k:=by
 obtain⟨b,o,c,T,fz,h1,h2,h3⟩:=h;exact⟨b,o,c,T,fz,v,h1,hs _ h2,by simpa using h3 0 v rfl,hk⟩
theorem ai.at{p:zV}{r:List zV}{B:Hp}{j:Nat}{k:zV->Prop}(h:At B p r)(hk:∀q,At B q (r.drop j)->k q):ai j p k:=by
 obtain⟨b,o,c,T,fz,h1,h2,h3⟩:=h;refine⟨b,o,h1,hk _ ⟨b,o+j,c,T,fz,rfl,h2,λi v hi=>?_⟩⟩;rw[List.getElem?_drop]at hi;rw[xcK];exact h3 _ _ hi
theorem az.at{p:zV}{r:List zV}{B:Hp}{n:Nat}{k:zV->Prop}(h:At B p r)(hn:r.length=n)(hp:0<n)(hs:∀x∈B,x∈H)(hk:k (.agg r.toArray)):az n H p k:=by
 obtain⟨b,o,c,T,fz,h1,h2,h3⟩:=h;have hsz:o+n<=c.size:=by
  have:=h3 (n-1) (r[n-1]' zO) (xaa _);have:=(xaS.1 this).1;omega
 refine⟨b,o,c,T,fz,h1,hs _ h2,hsz,?_⟩;have:c.extract o (o+n)=r.toArray:=by
  apply Array.ext
  ·simp;omega
  intro i hi1 KF;simp only[xcW]at KF;have:=h3 i r[i] (xaa _);rw[Array.getElem_extract];have:=(xaS.1 this).2;simpa using this
 rw[this];exact hk
def Sl(k:Nat)(B:Hp)(v:zV)(rs:List (List zV)):Prop:=
 (∀r∈rs,r.length=k)/\
 ((∃a cap,v=.slice a 0 cap/\rs=[])\/∃b o cap c T fz,v=.slice (some ⟨b,o,none⟩) rs.length cap/\rs.length<=cap/\(b,Obj.cells c T fz)∈B/\o+rs.length*k<=c.size/\∀i r,rs[i]? =some r->∀j v,r[j]? =some v->c[o+i*k+j]? =some v)
theorem Sl.mono{k:Nat}{B B':Hp}{v:zV}{rs:List (List zV)}(h:Sl k B v rs)(hs:∀x∈B,x∈B'):Sl k B' v rs:=by
 obtain⟨h0,h⟩:=h;refine⟨h0,?_⟩;rcases h with h|⟨b,o,cap,c,T,fz,h1,h2,h3,h4⟩
 ·exact .inl h
 exact .inr ⟨b,o,cap,c,T,fz,h1,h2,hs _ h3,h4⟩
theorem Sl.nil(k:Nat)(B:Hp):Sl k B (.slice none 0 0) []:=⟨by simp,.inl ⟨_,_,rfl,rfl⟩⟩
theorem Sl.shape{k:Nat}{B:Hp}{v:zV}{rs:List (List zV)}(h:Sl k B v rs):∃a cap,v=.slice a rs.length cap/\rs.length<=cap:=by
 rcases h.2 with⟨a,cap,rfl,rfl⟩|⟨b,o,cap,c,T,fz,h1,h2,_⟩
 ·exact⟨_,_,rfl,xaN _⟩
 exact⟨_,_,h1,h2⟩
theorem Sl.bV{k:Nat}{B:Hp}{v:zV}{rs:List (List zV)}(h:Sl k B v rs){K:zV->Prop}(hk:K (.int .i64 rs.length)):aR v K:=by
 obtain⟨a,c,rfl,_⟩:=h.shape;exact aR.mk hk
theorem av.sl{k:Nat}{B:Hp}{v:zV}{rs:List (List zV)}{kd:IntKind}{i:Nat}{r:List zV}{K:zV->Prop}(h:Sl k B v rs)(hi:rs[i]? =some r)(hk:∀p,At B p r->K p):av k v (.int kd (i:Int)) K:=by
 have hlt:=(xah.1 hi).1;rcases h.2 with⟨a,cap,rfl,rfl⟩|⟨b,o,cap,c,T,fz,h1,h2,h3,h4,h5⟩
 ·simp at hlt
 subst h1;refine av.nat zO (hk _ ⟨b,_,c,T,fz,rfl,h3,λj v hj=>h5 i r hi j v hj⟩)
theorem Sl.cells{k:Nat}{B:Hp}{v:zV}{rs:List (List zV)}(h:Sl k B v rs):∃a cap,v=.slice a rs.length cap/\Cells B a (rs.length*k) (rows rs):=by
 rcases h.2 with⟨a,cap,rfl,rfl⟩|⟨b,o,cap,c,T,fz,h1,h2,h3,h4,h5⟩
 ·refine⟨a,cap,rfl,?_⟩;cases a with
  |none=>simp[Cells,rows]
  |some a=>exact .inl ⟨by simp,rfl⟩
 ·refine⟨_,cap,h1,.inr ⟨rfl,c,T,fz,h3,h4,?_⟩⟩;apply Array.ext
  ·rw[bT h.1];simp;omega
  intro i hi1 KF;rw[bT h.1]at hi1;have hk:0<k:=xee λe=>by simp[e]at hi1
  have hd:i/k<rs.length:=xdY (by rw[xcm];exact hi1);have hm:i%k<k:=xbB _ hk;have he:i/k*k+i%k=i:=by rw[xcm];exact xew i k
  have hr:=h.1 rs[i/k] (xaH hd);have g1:=iL h.1 (i:=i/k) hm;rw[he,xaa hd,xen,xaa zO]at g1;have g2:=h5 (i/k) _ (xaa hd) (i%k) _ (xaa zO);rw[xcK,he]at g2;have e1:=(xaS.1 g1).2;have e2:=(xaS.1 g2).2;rw[Array.getElem_extract];exact e1.trans e2.symm
theorem Sl.rh{T:TypeId}{k:Nat}{v:zV}{rs:List (List zV)}{C:Hp}(h:aV T k v rs C)(hk:0<k):Sl k C v rs:=by
 rcases h with⟨rfl,rfl,rfl⟩|⟨b,aK,rfl,rfl,aJ⟩
 ·exact Sl.nil _ _
 refine⟨λr hr=>aJ r (by simp[hr]),.inr ⟨b,0,_,rows (rs++aK),T,(0,0),rfl,by omega,by simp,?_,λi r hi j v hj=>?_⟩⟩
 ·rw[bT aJ,xaf,xa5];exact xaX _ zO
 have hlt:=(xah.1 hi).1;have hr:=aJ r (xae _ (xav hi));have Wu:j<k:=by rw[<-hr];exact(xah.1 hj).1
 rw[xa5,iL aJ Wu,xaY hlt,hi];exact hj
end
end Go.Sx
namespace Go.Sx
open Go
def bG:IntKind->Nat
 | .i8=>128| .i16=>32768| .i32=>2147483648| .i64=>9223372036854775808
 | .u8=>256| .u16=>65536| .u32=>4294967296| .u64=>18446744073709551616
theorem eX{kd:IntKind}{n:Nat}(h:n<bG kd):kd.wrap (n:Int)=n:=by
 cases kd<;>simp only[bG]at h<;>simp only[IntKind.wrap,IntKind.bits,IntKind.signed,xd8,xco,xaO,xa2,xaJ];all_goals first
  |omega
  |(rw[xab zP];omega)
theorem wrap_u64(n:Int):IntKind.u64.wrap n=n%18446744073709551616:=by simp[IntKind.wrap,IntKind.bits,IntKind.signed]
theorem Q6(kd:IntKind):bG kd<=2^kd.bits:=by cases kd<;>decide
def nf(a b:Nat):Nat:=a^^^(a&&&b)
theorem dG(a b j:Nat):(nf a b).testBit j=(a.testBit j&& !b.testBit j):=by
 unfold nf;rw[Nat.testBit_xor,xbi];cases a.testBit j<;>cases b.testBit j<;>rfl
theorem m9(a b:Nat):nf a b<=a:=by
 have:nf a b=a&&&nf a b:=by
  apply xaV;intro j;rw[xbi,dG];cases a.testBit j<;>simp
 rw[this];exact xcg
theorem bits_nat{kd:IntKind}{a b:Nat}(ha:a<bG kd)(hb:b<bG kd):
  bits .and kd a b=((a&&&b:Nat):Int)/\bits .or kd a b=((a|||b:Nat):Int)/\bits .xor kd a b=((a^^^b:Nat):Int)/\bits .andNot kd a b=((nf a b:Nat):Int):=by
 have hl:=Q6 kd;have h1:(BitVec.ofInt kd.bits (a:Int)).toNat=a:=by rw[xcG,BitVec.toNat_ofNat,xbk zO]
 have h2:(BitVec.ofInt kd.bits (b:Int)).toNat=b:=by rw[xcG,BitVec.toNat_ofNat,xbk zO]
 obtain⟨n,hn⟩:∃n,bG kd=2^n:=by cases kd<;>first|exact⟨7,rfl⟩|exact⟨15,rfl⟩|exact⟨31,rfl⟩|exact⟨63,rfl⟩|exact⟨8,rfl⟩|exact⟨16,rfl⟩|exact⟨32,rfl⟩|exact⟨64,rfl⟩
 rw[hn]at ha hb;refine⟨?_,?_,?_,?_⟩
 ·simp only[bits,BitVec.toNat_and,h1,h2];exact eX (by rw[hn];exact xaA xcg ha)
 ·simp only[bits,BitVec.toNat_or,h1,h2];exact eX (by rw[hn];exact xbH ha hb)
 ·simp only[bits,BitVec.toNat_xor,h1,h2];exact eX (by rw[hn];exact Nat.xor_lt_two_pow ha hb)
 simp only[bits];have:(BitVec.ofInt kd.bits (a:Int) &&& ~~~BitVec.ofInt kd.bits (b:Int)).toNat=nf a b:=by
  apply xaV;intro j;rw[dG,<-BitVec.getLsbD,BitVec.getLsbD_and,BitVec.getLsbD_not,BitVec.getLsbD,BitVec.getLsbD,h1,h2];by_cases hj:j<kd.bits
  ·simp[hj]
  have:a.testBit j=false:=xb9 (xaP ha (by rw[<-hn];exact xbI hl (xax zD zO)));simp[this]
 rw[this];exact eX (by rw[hn];exact xaA (m9 a b) ha)
section
variable {kd x8:IntKind} {a b:Nat} {k:zV->Prop}
theorem ae.jE(ha:a<bG kd)(hb:b<bG kd)(h:k (.int kd ((a&&&b:Nat):Int))):ae .num .and (.int kd a) (.int kd b) k:=⟨_,by simp[g8,mS,(bits_nat ha hb).1],h⟩
theorem ae.Kq(ha:a<bG kd)(hb:b<bG kd)(h:k (.int kd ((a|||b:Nat):Int))):ae .num .or (.int kd a) (.int kd b) k:=⟨_,by simp[g8,mS,(bits_nat ha hb).2.1],h⟩
theorem ae.YH(ha:a<bG kd)(hb:b<bG kd)(h:k (.int kd ((a^^^b:Nat):Int))):ae .num .xor (.int kd a) (.int kd b) k:=⟨_,by simp[g8,mS,(bits_nat ha hb).2.2.1],h⟩
theorem ae.Ej(ha:a<bG kd)(hb:b<bG kd)(h:k (.int kd ((nf a b:Nat):Int))):ae .num .andNot (.int kd a) (.int kd b) k:=⟨_,by simp[g8,mS,(bits_nat ha hb).2.2.2],h⟩
theorem ae.iK(ha:a<bG kd)(h:k (.int kd ((a>>>b:Nat):Int))):ae .num .shr (.int kd a) (.int x8 b) k:=by
 refine⟨_,?_,h⟩;have h0:¬((b:Int)<0):=by omega
 simp only[g8,h0,xa2,xar,Value.int.injEq,xcU,xbe];rw[Int.fdiv_eq_ediv_of_nonneg _ (Int.le_of_lt (Int.pow_pos zD)),xa0];have hl:=Q6 kd;by_cases hb:b<=kd.bits
 ·rw[xcD hb];push_cast;rfl
 rw[xds zO];have h1:a/2^kd.bits=0:=xdr zO;have h2:a/2^b=0:=xdr (xaP zO (xax zD (by omega:kd.bits<=b)));have:(a:Int) / (2^kd.bits:Int)=((a/2^kd.bits:Nat):Int):=by push_cast;rfl
 rw[this,h1,h2]
theorem ae.Cn(hb:b<=kd.bits)(hr:a<<<b<bG kd)(h:k (.int kd ((a<<<b:Nat):Int))):ae .num .shl (.int kd a) (.int x8 b) k:=by
 refine⟨_,?_,h⟩;have h0:¬((b:Int)<0):=by omega
 simp only[g8,h0,xa2,xar,Value.int.injEq,xcU,xbe,xcD hb];rw[<-eX hr,xcn];push_cast;rfl
theorem ae.nR(h:k (.int .u64 (((a<<<b)%18446744073709551616:Nat):Int))):ae .num .shl (.int .u64 a) (.int x8 b) k:=by
 refine⟨_,?_,h⟩;have h0:¬((b:Int)<0):=by omega
 simp only[g8,h0,xa2,xar,Value.int.injEq,xcU,xbe,IntKind.bits,wrap_u64];rw[xcn];by_cases hb:b<=64
 ·rw[xcD hb,Int.natCast_emod,Int.natCast_mul,Int.natCast_pow];rfl
 rw[xds zO];have h1:(a*2^b)%18446744073709551616=0:=by
  have:2^b=18446744073709551616*2^(b-64):=by rw[show(18446744073709551616:Nat)=2^64 by rfl,<-xdy];congr 1;omega
  rw[this,Nat.mul_left_comm];exact Nat.mul_mod_right _ _
 rw[h1];exact Int.mul_emod_left _ _
theorem ae.Xo(hr:a+b<bG kd)(h:k (.int kd ((a+b:Nat):Int))):ae .num .add (.int kd a) (.int kd b) k:=by
 refine ae.add ?_;have:((a:Int)+(b:Int))=((a+b:Nat):Int):=by push_cast;rfl
 rw[this,eX hr];exact h
theorem ae.xW(ha:a<bG kd)(hb:b<=a)(h:k (.int kd ((a-b:Nat):Int))):ae .num .sub (.int kd a) (.int kd b) k:=by
 refine ae.sub ?_;have:((a:Int) -(b:Int))=((a-b:Nat):Int):=by omega
 rw[this,eX zO];exact h
theorem ae.afN(hr:a*b<bG kd)(h:k (.int kd ((a*b:Nat):Int))):ae .num .mul (.int kd a) (.int kd b) k:=by
 refine ae.mul ?_;have:((a:Int)*(b:Int))=((a*b:Nat):Int):=by push_cast;rfl
 rw[this,eX hr];exact h
theorem ae.Gm(ha:a<bG kd)(hb:b≠0)(h:k (.int kd ((a/b:Nat):Int))):ae .num .quo (.int kd a) (.int kd b) k:=by
 refine⟨_,?_,h⟩;have h0:¬((b:Int)=0):=by omega
 simp only[g8,mS,xa7,h0,xa2];have:(a:Int).tdiv b=((a/b:Nat):Int):=by rw[Int.tdiv_eq_ediv_of_nonneg zO];push_cast;rfl
 rw[this,eX (xaA (Nat.div_le_self _ _) ha)]
theorem ae.gJ{x y:Int}(h:k (.bool (decide (x=y)))):ae .num .eql (.int kd x) (.int kd y) k:=ae.eql (by rw[show(x==y)=decide (x=y)from by cases hb:decide (x=y)<;>simp_all];exact h)
theorem ae.cD{x y:Int}(h:k (.bool (decide (x≠y)))):ae .num .neq (.int kd x) (.int kd y) k:=ae.neq (by rw[show(x !=y)=decide (x≠y)from by cases hb:decide (x=y)<;>simp_all];exact h)
theorem ae.dx(h:k (.bool (decide (a=b)))):ae .num .eql (.int kd a) (.int kd b) k:=ae.gJ (by simpa[xex]using h)
theorem ae.x5(h:k (.bool (decide (a≠b)))):ae .num .neq (.int kd a) (.int kd b) k:=ae.cD (by simpa[xex]using h)
theorem ae.fC(h:k (.bool (decide (a<b)))):ae .num .lss (.int kd a) (.int kd b) k:=ae.lss (by simpa[Int.ofNat_lt]using h)
theorem ae.BP(h:k (.bool (decide (a<=b)))):ae .num .leq (.int kd a) (.int kd b) k:=ae.leq (by simpa[Int.ofNat_le]using h)
theorem ae.nE(h:k (.bool (decide (b<a)))):ae .num .gtr (.int kd a) (.int kd b) k:=ae.gtr (by simpa[Int.ofNat_lt]using h)
theorem ae.tS(h:k (.bool (decide (b<=a)))):ae .num .geq (.int kd a) (.int kd b) k:=ae.geq (by simpa[Int.ofNat_le]using h)
theorem br.nat(ha:a<bG kd)(h:k (.int kd (a:Int))):br kd (.int x8 a) k:=br.of (eX ha) h
theorem br.ah1(h:k (.int .u8 ((a%256:Nat):Int))):br .u8 (.int x8 a) k:=br.of (by simp[IntKind.wrap,IntKind.bits,IntKind.signed]) h
theorem Un.afM(ha:a<18446744073709551616)(h:k (.int .u64 (((18446744073709551616-a)%18446744073709551616:Nat):Int))):Un .neg (.int .u64 a) k:=by
 refine⟨_,?_,h⟩;simp only[unV,wrap_u64,xar,Value.int.injEq,xcU];omega
theorem Un.afq(ha:a<18446744073709551616)(h:k (.int .u64 ((18446744073709551615-a:Nat):Int))):Un .xor (.int .u64 a) k:=by
 refine⟨_,?_,h⟩;have e:(if IntKind.u64.signed=true then(-1:Int)else IntKind.u64.max)=((18446744073709551615:Nat):Int):=by decide
 simp only[unV,e,(bits_nat (kd:=.u64) (a:=18446744073709551615) (b:=a) zD ha).2.2.1,xar,Value.int.injEq,xcU];congr 1;have:18446744073709551615^^^a=18446744073709551615-a:=by
  have KO:a<2^64:=ha;rw[show(18446744073709551615:Nat)=2^64-1 by rfl];apply xaV;intro j;rw[Nat.testBit_xor,show 2^64-1-a=2^64-(a+1)by omega,xd9 KO,xcR];by_cases hj:j<64
  ·simp[hj]
  simp[hj];exact xb9 (xaP KO (xax zD zO))
 exact this
end
theorem Br.dec{p:Prop}[Decidable p]{t f:Prop}(h1:p->t)(h2:¬p->f):Br (.bool (decide p)) t f:=⟨_,rfl,λh=>h1 (by simpa using h),λh=>h2 (by simpa using h)⟩
theorem Br.ad8{p:Prop}[Decidable p]{t f:Prop}(hp:p)(h1:t):Br (.bool (decide p)) t f:=Br.dec (λ_=>h1) λh=>absurd hp h
theorem Br.S8{p:Prop}[Decidable p]{t f:Prop}(hp:¬p)(h1:f):Br (.bool (decide p)) t f:=Br.dec (λh=>absurd h hp) λ_=>h1
end Go.Sx
namespace ak
open Go.Sx
def wN(n:Nat):Nat:=max 1 (2^n/64)
def dL(n:Nat):Nat:=if 6<=n then 18446744073709551615 else 2^2^n-1
structure eV(n:Nat)(ws:zL):Prop where
 x6:n<=16
 len:ws.length=wN n
 full:∀w∈ws,w<=dL n
instance (n:Nat)(ws:zL):Decidable (eV n ws):=decidable_of_iff (n<=16/\ws.length=wN n/\∀w∈ws,w<=dL n) ⟨λ⟨a,b,c⟩=>⟨a,b,c⟩,λ⟨a,b,c⟩=>⟨a,b,c⟩⟩
def bit(ws:zL)(x:Nat):Bool:=(ws.getD (x/64) 0).testBit (x%64)
def aB(x v:Nat)(b:Bool):Nat:=if b then x|||2^v else nf x (2^v)
theorem YJ(n:Nat):0<wN n:=Nat.le_max_left _ _
theorem JQ{n:Nat}(h:6<=n):wN n=2^(n-6):=by
 unfold wN;have:2^n/64=2^(n-6):=by
  rw[show(64:Nat)=2^6 by rfl,Nat.pow_div h zD]
 rw[this];exact Nat.max_eq_right (xbw _)
theorem JP{n:Nat}(h:n<7):wN n=1:=by
 have:n=0\/n=1\/n=2\/n=3\/n=4\/n=5\/n=6:=by omega
 rcases this with rfl|rfl|rfl|rfl|rfl|rfl|rfl<;>rfl
theorem yC{n:Nat}(h:n<=16):wN n<=1024:=by
 by_cases h6:6<=n
 ·rw[JQ h6];exact xax zD (by omega:n-6<=10)
 rw[JP zO];decide
theorem rP(n:Nat):dL n<18446744073709551616:=by
 unfold dL;split
 ·decide
 have h1:2^n<=32:=xax (n:=2) zD (by omega:n<=5);have h2:2^2^n<=2^32:=xax zD h1;omega
theorem eV.lt{n:Nat}{ws:zL}(h:eV n ws){w:Nat}(hw:w∈ws):w<18446744073709551616:=xaA (h.full w hw) (rP n)
theorem xf{n w:Nat}(h:w<=dL n):w&&&dL n=w:=by
 unfold dL at*;split at h
 ·rename_i h6;rw[xad h6,show(18446744073709551615:Nat)=2^64-1 by rfl,xd0,xbk zO]
 rename_i h6;rw[xab h6,xd0,xbk];have:=xbw (2^n);omega
theorem mD(n j:Nat):(dL n).testBit j=decide (j<if 6<=n then 64 else 2^n):=by
 unfold dL;split
 ·rw[show(18446744073709551615:Nat)=2^64-1 by rfl,xcR]
 rw[xcR]
theorem Dh{n x:Nat}(h:x<2^n):x/64<wN n:=by
 by_cases h6:6<=n
 ·rw[JQ h6];refine xdY ?_;rw[show(64:Nat)=2^6 by rfl,<-xdy];rwa [show 6+(n-6)=n by omega]
 have h1:2^n<=32:=xax (n:=2) zD (by omega:n<=5);rw[JP zO];omega
theorem eV.ext{n:Nat}{a b:zL}(ha:eV n a)(hb:eV n b)(h:∀x,x<2^n->bit a x=bit b x):a=b:=by
 apply List.ext_getElem (by rw[ha.len,hb.len]);intro i h1 h2;apply xaV;intro j;have hfa:=xf (ha.full _ (xaH h1));have hfb:=xf (hb.full _ (xaH h2));by_cases hj:j<(if 6<=n then 64 else 2^n)
 ·have alG:j<64:=by
   split at hj
   ·exact hj
   have h1:2^n<=32:=xax (n:=2) zD (by omega:n<=5);omega
  have hx:64*i+j<2^n:=by
   by_cases h6:6<=n
   ·have hi:i<2^(n-6):=by rw[<-JQ h6,<-ha.len];exact h1
    have:2^n=64*2^(n-6):=by rw[show(64:Nat)=2^6 by rfl,<-xdy];congr 1;omega
    omega
   have hi:i<1:=by rw[<-JP (show n<7 by omega),<-ha.len];exact h1
   rw[xab h6]at hj;omega
  have:=h _ hx;unfold bit at this;rw[show(64*i+j) /64=i by omega,show(64*i+j)%64=j by omega]at this;simpa[h1,h2]using this
 have hd:(dL n).testBit j=false:=by rw[mD];simpa using hj
 rw[<-hfa,<-hfb,xbi,xbi,hd];simp
def Bv(v:Nat):Nat->Nat
 |0=>0
 |j+1=>Bv v j|||(((j>>>v) &&&1)<<<j)
def mask(v:Nat):Nat:=Bv v 64
theorem gw(m:Nat):m&&&1=if m.testBit 0 then 1 else 0:=by
 rw[xbT,Nat.testBit_zero];rcases Nat.mod_two_eq_zero_or_one m with h|h<;>simp[h]
theorem qW(v:Nat):∀J k,(Bv v J).testBit k=(decide (k<J) &&k.testBit v)
 |0,k=>by simp[Bv]
 |J+1,k=>by
  rw[Bv,xb1,qW v J k,gw,xbC,xcu];by_cases e:k=J
  ·subst e;cases hb:k.testBit v<;>simp[xdV]
  have:((if(J.testBit v)=true then 1 else 0)<<<J).testBit k=false:=by
   rw[xdV];split
   ·by_cases hk:J<=k
    ·have h1:Nat.testBit 1 (k-J)=false:=xb9 (Nat.one_lt_two_pow zO);simp[hk,h1]
    simp[hk]
   simp
  rw[this];have:(decide (k<J+1))=decide (k<J):=by simp;omega
  rw[this];simp
theorem Bu(v:Nat):∀J,Bv v J<2^J
 |0=>by simp[Bv]
 |J+1=>by
  have h1:=Bu v J;have h2:((J>>>v) &&&1)<<<J<2^(J+1):=by
   rw[gw,xcn];split
   ·rw[xdk];exact xbx zD zO
   rw[xdZ];exact xbw _
  exact xbH (xaP h1 (xax zD zO)) h2
theorem gK(v k:Nat):(mask v).testBit k=(decide (k<64) &&k.testBit v):=qW v 64 k
theorem rA(v:Nat):mask v<18446744073709551616:=Bu v 64
def rL(ws:zL)(v:Nat)(b:Bool)(i:Nat):Nat:=
 if 6<=v then ws.getD (aB i (v-6) b) 0
 else if b then(ws.getD i 0&&&mask v)|||(ws.getD i 0&&&mask v)>>>2^v
 else nf (ws.getD i 0) (mask v)|||(nf (ws.getD i 0) (mask v)<<<2^v)%18446744073709551616
def iI(n:Nat)(ws:zL)(v:Nat)(b:Bool):zL:=(List.range (wN n)).map λi=>rL ws v b i&&&dL n
theorem eB{n v:Nat}{ws:zL}{b:Bool}(h:n<=16):eV n (iI n ws v b):=by
 refine⟨h,by simp[iI],λw hw=>?_⟩;obtain⟨i,_,rfl⟩:=xan.1 hw;exact xc6
theorem aj(x v:Nat)(b:Bool)(k:Nat):(aB x v b).testBit k=if k=v then b else x.testBit k:=by
 unfold aB;cases b<;>simp only[xa7,xaO,xa2]
 ·rw[dG,xbX];by_cases e:k=v
  ·simp[e]
  simp[e,xa9 e]
 rw[xb1,xbX];by_cases e:k=v
 ·simp[e]
 simp[e,xa9 e]
theorem fZ{x v n:Nat}{b:Bool}(hx:x<2^n)(hv:v<n):aB x v b<2^n:=by
 unfold aB;split
 ·exact xbH hx (xbx zD hv)
 exact xaA (m9 _ _) hx
theorem YU:∀v:Fin 6,∀j:Fin 64,(j.1.testBit v.1=true->aB j v true=j/\aB j v false=j-2^v.1/\2^v.1<=j.1/\(j.1+2^v.1).testBit v.1=false/\(j.1-2^v.1).testBit v.1=false)/\
  (j.1.testBit v.1=false->aB j v true=j.1+2^v.1/\j.1+2^v.1<64/\aB j v false=j/\(j.1+2^v.1).testBit v.1=true/\(2^v.1<=j.1->(j.1-2^v.1).testBit v.1=true)):=by decide+kernel
theorem qh{x v:Nat}{b:Bool}:(6<=v->aB x v b/64=aB (x/64) (v-6) b/\aB x v b%64=x%64)/\(v<6->aB x v b/64=x/64/\aB x v b%64=aB (x%64) v b):=by
 have KO:∀y:Nat,y/64=y>>>6:=λy=>by rw[xa0]
 have m64:∀y:Nat,y%64=y%2^6:=λy=>rfl;refine⟨λh=>⟨?_,?_⟩,λh=>⟨?_,?_⟩⟩<;>apply xaV<;>intro k
 ·rw[KO,KO,xbC,aj,aj,xbC];by_cases e:k=v-6
  ·rw[xad e,xad zO]
  rw[xab e,xab zO]
 ·rw[m64 (aB x v b),m64 x,xbz,xbz,aj];by_cases hk:k<6
  ·rw[xab zO]
  simp[hk]
 ·rw[KO,KO,xbC,aj,xbC,xab zO]
 rw[m64 (aB x v b),m64 x,xbz,aj,aj,xbz];by_cases e:k=v
 ·subst e;simp[h]
 simp[e]
theorem eW{n v x:Nat}{ws:zL}{b:Bool}(hf:eV n ws)(hv:v<n)(hx:x<2^n):bit (iI n ws v b) x=bit ws (aB x v b):=by
 have hi:=Dh hx;unfold bit;have iB:(iI n ws v b).getD (x/64) 0=rL ws v b (x/64) &&&dL n:=by
  simp[iI,hi]
 rw[iB,xbi,mD];have hfb:decide (x%64<if 6<=n then 64 else 2^n)=true:=by
  rw[xaJ];split
  ·exact xbB _ zD
  have h1:2^n<=32:=xax (n:=2) zD (by omega:n<=5);omega
 rw[hfb,xdQ];unfold rL;by_cases h6:6<=v
 ·rw[xad h6,(qh.1 h6).1,(qh.1 h6).2]
 rw[xab h6];obtain⟨e1,e2⟩:=(qh (x:=x) (v:=v) (b:=b)).2 zO;rw[e1,e2];generalize hw:ws.getD (x/64) 0=w;have hwl:w<2^64:=by
  rw[<-hw];rw[xaq,xaa (by rw[hf.len];exact hi)];exact hf.lt (xaH _)
 have hj:x%64<64:=xbB _ zD;generalize x%64=j at hj;obtain⟨s1,s2⟩:=YU ⟨v,by omega⟩ ⟨j,hj⟩;simp only at s1 s2;cases b
 ·simp only[xaO,xa2];rw[show(18446744073709551616:Nat)=2^64 by rfl,xb1,xbz,xdV,dG,dG,gK,gK];cases hb:j.testBit v
  ·obtain⟨t1,t2,t3,t4,t5⟩:=s2 hb;rw[t3];by_cases hle:2^v<=j
   ·have:=t5 hle;have KO:j-2^v<64:=xaA (xdt _ _) hj;simp[hj,this,KO]
   simp[hj,hle]
  obtain⟨t1,t2,t3,t4,t5⟩:=s1 hb;rw[t2];simp[hj,t3,t5]
 simp only[xa7];rw[xb1,xbi,xbC,xbi,gK,gK];cases hb:j.testBit v
 ·obtain⟨t1,t2,t3,t4,t5⟩:=s2 hb;rw[t1,Nat.add_comm (2^v) j];simp[hj,t2,t4]
 obtain⟨t1,t2,t3,t4,t5⟩:=s1 hb;rw[t1,Nat.add_comm (2^v) j];simp[hj,t4]
def dep(n:Nat)(ws:zL)(v:Nat):Bool:=decide (iI n ws v false≠iI n ws v true)
theorem iq(x v:Nat):aB x v (x.testBit v)=x:=by
 apply xaV;intro k;rw[aj];by_cases e:k=v
 ·rw[xad e,e]
 rw[xab e]
theorem ov{n v:Nat}{ws:zL}{b:Bool}(hf:eV n ws)(hv:v<n)(h:dep n ws v=false):iI n ws v b=ws:=by
 have he:iI n ws v false=iI n ws v true:=by simpa[dep]using h
 have aJ:∀c d,iI n ws v c=iI n ws v d:=by intro c d;cases c<;>cases d<;>first|rfl|exact he|exact he.symm
 refine(eB hf.x6).ext hf λx hx=>?_;rw[aJ b (x.testBit v),eW hf hv hx,iq]
theorem uO{n v:Nat}{ws:zL}(hf:eV n ws)(hv:v<n):dep n ws v=true↔∃x,x<2^n/\bit ws (aB x v false)≠bit ws (aB x v true):=by
 constructor
 ·intro h;refine xaD λhno=>?_;have:iI n ws v false=iI n ws v true:=(eB hf.x6).ext (eB hf.x6) λx hx=>by
   rw[eW hf hv hx,eW hf hv hx];exact xaD λhne=>hno ⟨x,hx,hne⟩
  simp[dep,this]at h
 rintro⟨x,hx,hne⟩;simp only[dep,ne_eq,xaJ];intro he;apply hne;rw[<-eW hf hv hx,<-eW hf hv hx,he]
end ak
namespace Go.Sx
open Go
inductive bY:Hp->Hp->Prop
 |refl (B:Hp):bY B B
 |cons {x:Nat×Obj} {B H:Hp} (h:bY B H):bY B (x::H)
 |app {N B H:Hp} (h:bY B H):bY B (N++H)
theorem bY.spec{B H:Hp}(h:bY B H):∃N,H=N++B:=by
 induction h with
 |refl=>exact⟨[],rfl⟩
 | @cons x B H h ih=>obtain⟨N,rfl⟩:=ih;exact⟨x::N,rfl⟩
 | @app M B H h ih=>obtain⟨N,rfl⟩:=ih;exact⟨M++N,by rw[xai]⟩
theorem bY.sub{B H:Hp}(h:bY B H):∀x∈B,x∈H:=by
 obtain⟨N,rfl⟩:=h.spec;exact λx hx=>xac _ hx
theorem bY.dN{B H:Hp}(h:bY B H):aM H B:=by
 obtain⟨N,rfl⟩:=h.spec;exact aM.right
section
variable {P:Program} {g:Gh} {H:Hp}
def Px(P:Program)(f:FuncId)(args:Array zV)(B:Hp)(Q:zV->Hp->Prop):Prop:=Fc P f args B (λv H=>bY B H/\Q v H)
theorem aa.px{f:FuncId}{args:Array zV}{B H:Hp}{c:Hp->Hp}{Q:zV->Hp->Prop}{K:zV->Hp->Prop}{KP:List PanicEntry->Hp->Prop}(hh:bH B H c)(hc:Px P f args B Q)
 (hk:∀v N,Q v (N++B)->K v (c (N++B))):aa P g f args H K KP:=
 aa.fn hh hc λv C' ⟨h1,h2⟩=>by obtain⟨N,rfl⟩:=h1.spec;exact hk v N h2
theorem aa.pre{f:FuncId}{args:Array zV}{H':Hp}{K:zV->Hp->Prop}{KP:List PanicEntry->Hp->Prop}(he:aM H H')(h:aa P g f args H' K KP):aa P g f args H K KP:=bC.pre h he
theorem aM.swap{x y:Nat×Obj}{A:Hp}:aM (x::y::A) (y::x::A):=.perm (.swap _ _ _)
theorem GN.mk{Q:zV->Hp->Prop}{v:zV}{B H:Hp}(he:bY B H)(h:Q v H):aN (λv H=>bY B H/\Q v H) (.returned v) H:=⟨v,H,rfl,.refl _,he,h⟩
theorem bc.mk{Q:zV->Prop}{v:zV}{B H:Hp}(he:aM H B)(h:Q v):aN (λv H=>H=B/\Q v) (.returned v) H:=⟨v,B,rfl,he,rfl,h⟩
def aA(kd:IntKind)(l:List Int):Array zV:=(l.map λn=>Value.int kd n).toArray
theorem FW(kd:IntKind)(l:List Int)(i:Nat)(n:Int):(aA kd l).setIfInBounds i (.int kd n)=aA kd (l.set i n):=by
 simp[aA,xcQ]
@[simp] theorem XY(kd:IntKind)(l:List Int):(aA kd l).size=l.length:=by simp[aA]
theorem MN(kd:IntKind)(n:Nat):madeCells (Value.cells (.int kd 0)) (n*1)=aA kd (List.replicate n 0):=by
 apply Array.ext
 ·simp[madeCells,aA]
 intro i h1 h2;simp[madeCells,aA,Value.cells,Nat.mod_one]
def dz(kd:IntKind)(B:Hp)(v:zV)(l:List Int):Prop:=Sl 1 B v (l.map λn=>[Value.int kd n])
theorem dz.mono{kd:IntKind}{B B':Hp}{v:zV}{l:List Int}(h:dz kd B v l)(hs:∀x∈B,x∈B'):dz kd B' v l:=Sl.mono h hs
theorem dz.bV{kd:IntKind}{B:Hp}{v:zV}{l:List Int}(h:dz kd B v l){K:zV->Prop}(hk:K (.int .i64 l.length)):aR v K:=Sl.bV h (by simpa using hk)
theorem dz.block{kd:IntKind}{B:Hp}{b cap:Nat}{l:List Int}{T:TypeId}{fz:Nat×Nat}(hm:(b,Obj.cells (aA kd l) T fz)∈B)(hc:l.length<=cap):dz kd B (.slice (some ⟨b,0,none⟩) l.length cap) l:=by
 refine⟨by simp,.inr ⟨b,0,cap,_,T,fz,by simp,by simpa using hc,hm,by simp[aA],λi r hi j v hj=>?_⟩⟩;rw[xat]at hi;cases hl:l[i]? with
 |none=>rw[hl]at hi;simp at hi
 |some n=>
  rw[hl]at hi;simp only[xch,xar]at hi;subst hi;cases j with
  |zero=>
   simp only[xcM,xar]at hj;subst hj;simp[aA,hl]
  |succ j=>simp at hj
theorem dz.at{kd x8:IntKind}{B:Hp}{v:zV}{l:List Int}(h:dz kd B v l){i:Nat}{n:Int}(hi:l[i]? =some n){K:zV->Prop}(hk:∀p,At B p [.int kd n]->K p):av 1 v (.int x8 (i:Int)) K:=
 av.sl h (by rw[xat,hi];rfl) hk
theorem dz.ld{kd x8:IntKind}{B:Hp}{v:zV}{l:List Int}(h:dz kd B v l){i:Nat}{n:Int}(hi:l[i]? =some n)(hs:∀x∈B,x∈H){K:zV->Prop}(hk:K (.int kd n)):av 1 v (.int x8 (i:Int)) (λp=>Ld H p K):=
 h.at hi λp hp=>Ld.at hp hs hk
theorem cU.ints{T:TypeId}{kd kl:IntKind}{bytes n:Nat}{K:zV->Hp->Prop}(cI:n<=9223372036854775807)(hb:n*bytes<=281474976710656)
 (h:∀b,K (.slice (some ⟨b,0,none⟩) n n) ((b,.cells (aA kd (List.replicate n 0)) T zZ)::H)):cU T 1 bytes (.int kd 0) H (.int kl n) (.int kl n) K:=
 ⟨kl,kl,n,n,rfl,rfl,xaj _,by omega,hb,λb _=>by rw[MN];exact h b⟩
theorem St.ints{b i:Nat}{kd:IntKind}{l:List Int}{x:Int}{T:TypeId}{H':Hp}{K:Hp->Prop}(hu:c8 b (.cells (aA kd l) T zZ) (.cells (aA kd (l.set i x)) T zZ) H H')(hi:i<l.length)(h:K H'):
  St 1 H (.pointer (some ⟨b,0+i*1,none⟩)) (.int kd x) K:=
 St.one (c:=aA kd l) (c':=aA kd (l.set i x)) hu rfl (by simpa using hi) (by rw[xa5,xb4];exact FW kd l i x) h
end
def bN:List zV->Nat->Nat
 | .int _ q::_,0=>q.toNat
 |_::r,i+1=>bN r i
 |_,_=>0
structure Tb where
 n:Int
 ws:zL
 deriving DecidableEq
def iw(ws:zL):List Int:=ws.map (Nat.cast:Nat->Int)
@[simp] theorem aq(ws:zL):(iw ws).length=ws.length:=by simp[iw]
theorem dg{ws:zL}{i w:Nat}(h:ws[i]? =some w):(iw ws)[i]? =some (w:Int):=by simp[iw,h]
def Words(B:Hp)(s:zV)(ws:zL):Prop:=dz .u64 B s (iw ws)/\∀w∈ws,w<18446744073709551616
theorem Words.mono{B B':Hp}{v:zV}{ws:zL}(h:Words B v ws)(hs:∀x∈B,x∈B'):Words B' v ws:=⟨h.1.mono hs,h.2⟩
theorem Words.block{B:Hp}{b cap:Nat}{ws:zL}{T:TypeId}{fz:Nat×Nat}(hm:(b,Obj.cells (aA .u64 (iw ws)) T fz)∈B)(hc:ws.length<=cap)(hw:∀w∈ws,w<18446744073709551616):Words B (.slice (some ⟨b,0,none⟩) ws.length cap) ws:=by
 have:=dz.block (cap:=cap) hm (by simpa using hc);rw[aq]at this;exact⟨this,hw⟩
def EN(B:Hp)(v:zV)(t:Tb):Prop:=∃s,v=.agg #[.int .i64 t.n,s]/\Words B s t.ws
theorem EN.mono{B B':Hp}{v:zV}{t:Tb}(h:EN B v t)(hs:∀x∈B,x∈B'):EN B' v t:=let ⟨s,h1,h2⟩:=h;⟨s,h1,h2.mono hs⟩
def TT(B:Hp)(r:List zV)(t:Tb):Prop:=∃s,r=[.int .i64 t.n,s]/\Words B s t.ws
theorem TT.mono{B B':Hp}{r:List zV}{t:Tb}(h:TT B r t)(hs:∀x∈B,x∈B'):TT B' r t:=let ⟨s,h1,h2⟩:=h;⟨s,h1,h2.mono hs⟩
def ti{α:Type}(p:List zV->α->Prop)(rs:List (List zV))(l:List α):Prop:=rs.length=l.length/\∀(i:Nat) (r:List zV) (x:α),rs[i]? =some r->l[i]? =some x->p r x
theorem ti.nil{α:Type}{p:List zV->α->Prop}:ti p [] []:=⟨rfl,by simp⟩
theorem ti.get{α:Type}{p:List zV->α->Prop}{rs:List (List zV)}{l:List α}(h:ti p rs l){i:Nat}{x:α}(hx:l[i]? =some x):∃r,rs[i]? =some r/\p r x:=by
 have hlt:=(xah.1 hx).1;have:i<rs.length:=by rw[h.1];exact hlt
 exact⟨rs[i],xaa this,h.2 i _ _ (xaa this) hx⟩
theorem ti.mono{α:Type}{p q:List zV->α->Prop}{rs:List (List zV)}{l:List α}(h:ti p rs l)(hpq:∀r x,p r x->q r x):ti q rs l:=⟨h.1,λi r x h1 h2=>hpq _ _ (h.2 i r x h1 h2)⟩
theorem ti.snoc{α:Type}{p:List zV->α->Prop}{rs:List (List zV)}{l:List α}(h:ti p rs l){r:List zV}{x:α}(hx:p r x):ti p (rs++[r]) (l++[x]):=by
 refine⟨by simp[h.1],λi r' x' h1 h2=>?_⟩;by_cases e:i<l.length
 ·rw[xaY e]at h2;rw[xaY (by rw[h.1];exact e)]at h1;exact h.2 i _ _ h1 h2
 rw[xbQ zO]at h2;rw[xbQ (by rw[h.1];omega),h.1]at h1;cases hi:i-l.length with
 |zero=>rw[hi]at h1 h2;simp at h1 h2;subst h1;subst h2;exact hx
 |succ k=>rw[hi]at h2;simp at h2
def jG(B:Hp)(v:zV)(ts:List Tb):Prop:=∃rs,Sl 2 B v rs/\ti (TT B) rs ts
theorem jG.mono{B B':Hp}{v:zV}{ts:List Tb}(h:jG B v ts)(hs:∀x∈B,x∈B'):jG B' v ts:=let ⟨rs,h1,h2⟩:=h;⟨rs,h1.mono hs,h2.mono λ_ _ h=>h.mono hs⟩
theorem jG.bV{B:Hp}{v:zV}{ts:List Tb}(h:jG B v ts){K:zV->Prop}(hk:K (.int .i64 ts.length)):aR v K:=by
 obtain⟨rs,h1,h2⟩:=h;refine h1.bV ?_;have:=h2.1;rw[this];exact hk
theorem jG.ld{B H:Hp}{v:zV}{ts:List Tb}{kd:IntKind}(h:jG B v ts){i:Nat}{t:Tb}(hi:ts[i]? =some t)(hs:∀x∈B,x∈H){K:zV->Prop}(hk:∀s,Words B s t.ws->K (.agg #[.int .i64 t.n,s])):av 2 v (.int kd (i:Int)) (λp=>az 2 H p K):=by
 obtain⟨rs,h1,h2⟩:=h;obtain⟨r,hr,s,rfl,hw⟩:=h2.get hi;exact av.sl h1 hr λp hp=>az.at hp rfl zD hs (hk s hw)
theorem jG.ldN{B H:Hp}{v:zV}{ts:List Tb}{kd:IntKind}(h:jG B v ts){i:Nat}{t:Tb}(hi:ts[i]? =some t)(hs:∀x∈B,x∈H){K:zV->Prop}(hk:K (.int .i64 t.n)):av 2 v (.int kd (i:Int)) (λp=>ai 0 p (λq=>Ld H q K)):=by
 obtain⟨rs,h1,h2⟩:=h;obtain⟨r,hr,s,rfl,hw⟩:=h2.get hi;exact av.sl h1 hr λp hp=>ai.at hp λq hq=>Ld.at hq hs hk
theorem jG.one{B:Hp}{b cap:Nat}{t:Tb}{s:zV}{T:TypeId}{fz:Nat×Nat}(hm:(b,Obj.cells #[.int .i64 t.n,s] T fz)∈B)(hw:Words B s t.ws):jG B (.slice (some ⟨b,0,none⟩) 1 (cap+1)) [t]:=by
 refine⟨[[.int .i64 t.n,s]],⟨by simp,.inr ⟨b,0,cap+1,_,T,fz,rfl,by simp,hm,by simp,λi r hi j v hj=>?_⟩⟩,rfl,λi r x h1 h2=>?_⟩
 ·cases i with
  |zero=>simp at hi;subst hi;simpa using hj
  |succ i=>simp at hi
 ·cases i with
  |zero=>simp at h1 h2;subst h1;subst h2;exact⟨s,rfl,hw⟩
  |succ i=>simp at h1
def TF(t:Tb):Prop:=0<=t.n/\ak.eV t.n.toNat t.ws
instance (t:Tb):Decidable (TF t):=by unfold TF;infer_instance
end Go.Sx
namespace Go.Sx
open Go Go.RowKit
section
variable {P:Program}
def whole(W:World):Hp:=(List.range W.heap.size).map λi=>(i,W.heap.getD i default)
theorem ME(W:World):Own ⟨W,[]⟩ (whole W) W:=by
 refine⟨rfl,rfl,rfl,?_,?_⟩
 ·have:(whole W).map Prod.fst=List.range W.heap.size:=by
   unfold whole;rw[xb8];have:(Prod.fst∘λi=>(i,W.heap.getD i default))=id:=by funext i;rfl
   rw[this,xeD]
  rw[xaL,this];exact xbl
 intro x hx;rw[xaL]at hx;obtain⟨i,hi,rfl⟩:=xan.1 hx;have:=xaM.1 hi;simp[xas,this]
theorem yY{W:World}{b:Nat}{o:Obj}(h:W.heap[b]? =some o):(b,o)∈whole W:=by
 have hlt:=(xaS.1 h).1;exact xan.2 ⟨b,xaM.2 hlt,by simp[xas,h]⟩
theorem Own.below{W W':World}(h:Own ⟨W,[]⟩ (whole W) W'):Below W.heap.size W W':=by
 have hb:∀k,k<W.heap.size->W'.heap[k]? =W.heap[k]? :=λk hk=>by
  have:=h.has (k,W.heap.getD k default) (xan.2 ⟨k,xaM.2 hk,rfl⟩);simp only at this;rw[this];simp[xas,hk]
 refine⟨h.os,h.tape,h.out,?_,hb⟩;rcases Nat.eq_zero_or_pos W.heap.size with h0|h0
 ·omega
 have:=hb (W.heap.size-1) zO;rw[show W.heap[W.heap.size-1]? =some (W.heap[W.heap.size-1]' zO)from xbA zO]at this;have:=(xaS.1 this).1;omega
theorem MT{f:FuncId}{args:Array zV}{W:World}(h:bC P ⟨W,[]⟩ f args (whole W) (λe H'=>e=.returned (.bool true)/\aM H' (whole W))):
  Calls P f args W λe W'=>e=.returned (.bool true)/\Below W.heap.size W W':=
 (h W (ME W)).mono λe W' ⟨H',ho,he,wv⟩=>⟨he,(wv _ _ ho).below⟩
theorem Zp{f:FuncId}{args:Array zV}{W:World}(h:Px P f args (whole W) (λv _=>v=.bool true)):
  Calls P f args W λe W'=>e=.returned (.bool true)/\Below W.heap.size W W':=
 MT ((h ⟨W,[]⟩).post λe H' ⟨v,C,he,wv,hg,hv⟩=>⟨H',.refl _,by rw[he,hv],wv.trans hg.dN⟩)
section
variable {H:Type} {enc:TypeId×zV->H}
open Go.ChangeShapes Go.WideShapes Go.ChangeAt Go.RowKit
theorem pJ(hl:laidOutB P=true){W W':World}{sp:Nat->Bool}(hb:Below W.heap.size W W'):∀(ts:List TypeId) (vs:List zV) (ds:List (DataW H)) (ps:List MemPlace),
  (∀t∈ts,P.readableRec t=true/\t<P.types.size)->DataW.TrodAll enc P W 0 (λ_=>true) true ts vs ds ps->(∀x∈ps,x.block<W.heap.size)->(∀x∈ps,sp x.block=true)->DataW.TrodAll enc P W' 0 sp true ts vs ds ps
 | [],vs,ds,ps,_,h,_,_=>by
  obtain⟨rfl,rfl,rfl⟩:=trodAll_nil h;exact trodAll_mk0
 |t::ts,vs,ds,ps,hr,h,hlt,hsp=>by
  obtain⟨v,vs',d,ds',p,q,rfl,rfl,rfl,h0,h1⟩:=trodAll_cons h;have ht:=hr t zI;exact trodAll_cons_mk (WideElems.Trod_stays hl ht.1 ht.2 h0 (λx hx=>hb.same (hlt x (by simp[hx]))) (λx hx=>hsp x (by simp[hx])))
   (pJ hl hb ts vs' ds' q (λt' h'=>hr t' (by simp[h'])) h1 (λx hx=>hlt x (by simp[hx])) (λx hx=>hsp x (by simp[hx])))
theorem Re{f:Func}{s:ChangeSpec}{W W':World}{args:Array zV}{ds gs:List (DataW H)}{before:List MemPlace}{tb:TypeId}(hvars:s.vars=[])
 (hW:DataW.Whole enc P f.params.toList s.vars false W args.toList ds gs before)(hs:s.fn H (ds++gs)={results:=[.lit (.bool true)],args:=ds})(hb:Below W.heap.size W W')
 (hl:laidOutB P=true)(hr:∀t∈f.params.toList,P.readableRec t=true/\t<P.types.size)(hrt:f.resultTypes=#[tb])(adk:P.underlying tb=some .bool):
  s.post enc P f false true false false W args (.bool true) W':=by
 have hW':=hW;have hlt:=hW.lt;obtain⟨p,q,hA,hV,rfl,hfz,fD⟩:=hW;rw[hvars]at hV;obtain⟨rfl,rfl⟩:=trodVars_none hV;refine⟨ds,_,_,[],p,[],hW',?_,?_,?_,World.keptBut_mono (λp hp=>⟨hp,?_⟩) (hb.frame (· ∈p++[])),λh=>by cases h⟩
 ·rw[hs,hrt];exact trodAll_cons_mk (shut_bool adk _) trodAll_mk0
 ·rw[hs];exact pJ hl hb _ _ _ _ hr hA (λx hx=>hlt x (by simp[hx])) (λx hx=>by simpa using hlt x (by simp[hx]))
 ·rw[hvars,hs];rfl
 right;simpa using hp
end
end
end Go.Sx
namespace Go.Sx
open Go
section
variable {P:Program} {g:Gh} {H:Hp}
theorem aV.ajP{T:TypeId}{v x:zV}{rs:List (List zV)}{C:Hp}(hs:aV T 1 v rs C){i:Nat}(hi:i<rs.length)(hr:rs[i]? =some [x])(hC:∀y∈C,y∈H){K:zV->Prop}(hk:K x):
  av 1 v (.int .i64 (i:Int)) λp=>Ld H p K:=by
 obtain⟨b',aK,rfl,rfl,aJ⟩:=hs.pos zO;refine av.nat hi ?_;exact Ld.abR (l:=rs++aK) (hC _ (List.Mem.head _)) aJ (by rw[xaY hi];exact hr) hk
theorem aV.afF{T:TypeId}{v x y:zV}{rs:List (List zV)}{C A B:Hp}(hs:aV T 1 v rs C){i:Nat}(hi:i<rs.length)(hr:rs[i]? =some [y])(h1:x.oneCell'=true){K:Hp->Prop}
 (hk:∀C',aV T 1 v (rs.set i [x]) C'->K (A++(C'++B))):av 1 v (.int .i64 (i:Int)) λp=>St 1 (A++(C++B)) p x K:=by
 obtain⟨b',aK,rfl,rfl,aJ⟩:=hs.pos zO;refine av.nat hi ?_;refine St.cell (l:=rs++aK) (i:=i) (k:=1) (j:=0) (r:=[y]) (((c8.head _).append B).cr A) aJ (by rw[xaY hi];exact hr) zO h1 ?_;have e:(rs++aK).set i ([y].set 0 x)=rs.set i [x]++aK:=by rw[xc0 _ _ hi];rfl
 rw[e];refine hk [(b',_)] (aV.mk' (aK:=aK) (λr hr'=>?_) zI zI);rcases xao.1 hr' with hr'|hr'
 ·rcases xcf hr' with hr'|rfl
  ·exact aJ r (by simp[hr'])
  rfl
 exact aJ r (by simp[hr'])
end
end Go.Sx
namespace Go.Sx
open Go
section
variable {κ β:Type} [DecidableEq κ]
structure aF(ke:κ->zV)(vr:zV->β->Prop)(es:Array MapEntry)(ck:Nat)(m:List (κ×β)):Prop where
 len:es.size=m.length
 key:∀(i:Nat) (e:MapEntry) (x:κ×β),es[i]? =some e->m[i]? =some x->e.key=ke x.1/\vr e.val x.2
 nd:(m.map Prod.fst).Nodup
 born:(es.toList.map MapEntry.born).Nodup
 lt:∀e∈es.toList,e.born<ck
variable {ke:κ->zV} {vr:zV->β->Prop} {es:Array MapEntry} {ck:Nat} {m:List (κ×β)}
theorem aF.empty:aF ke vr #[] 0 []:=⟨rfl,by simp,by simp,by simp,by simp⟩
theorem aF.mono{vr':zV->β->Prop}(h:aF ke vr es ck m)(hv:∀v x,vr v x->vr' v x):aF ke vr' es ck m:=⟨h.len,λi e x h1 h2=>⟨(h.key i e x h1 h2).1,hv _ _ (h.key i e x h1 h2).2⟩,h.nd,h.born,h.lt⟩
def eo(m:List (κ×β))(k:κ)(x:β):List (κ×β):=if k∈m.map Prod.fst then m.map (λy=>if y.1=k then(k,x)else y)else m++[(k,x)]
def aG(m:List (κ×β))(k:κ):Option β:=(m.find? (λy=>y.1=k)).map Prod.snd
theorem dW{m:List (κ×β)}{k:κ}{x:β}(nd:(m.map Prod.fst).Nodup):aG m k=some x↔(k,x)∈m:=by
 induction m with
 |nil=>simp[aG]
 |cons y r ih=>
  rw[xay,xaW]at nd;obtain⟨a,b⟩:=y;simp only[aG,xbv]at ih⊢;by_cases e:a=k
  ·subst e;simp only[decide_true,xch,xar,xak,xdv,xcU];constructor
   ·intro h;exact .inl h.symm
   rintro(h|h)
   ·exact h.symm
   exact absurd (xan.2 ⟨_,h,rfl⟩) nd.1
  simp only[e,xdn,xak,xdv,xa9 e,false_and,false_or];exact ih nd.2
theorem iu{m:List (κ×β)}{k:κ}:aG m k=none↔k∉m.map Prod.fst:=by
 simp only[aG,Option.map_eq_none_iff,xcP,xaJ,xan,not_exists,not_and]
theorem aF.findNow{kd:TypeDesc}(hk:∀a b,Instr.sameNow kd (ke a) (ke b)=some (decide (a=b)))(h:aF ke vr es ck m)(k:κ):
  (∃(i:Nat) (x:β) (e:MapEntry),es[i]? =some e/\m[i]? =some (k,x)/\vr e.val x/\Instr.findNow kd (ke k) es.toList 0=some (some (i,e.val)))\/(k∉m.map Prod.fst/\Instr.findNow kd (ke k) es.toList 0=some none):=by
 have key:∀(l:List MapEntry) (q:List (κ×β)) (j:Nat),l.length=q.length->(∀(i:Nat) (e:MapEntry) (x:κ×β),l[i]? =some e->q[i]? =some x->e.key=ke x.1/\vr e.val x.2)->
   (∃(i:Nat) (x:β) (e:MapEntry),l[i]? =some e/\q[i]? =some (k,x)/\vr e.val x/\Instr.findNow kd (ke k) l j=some (some (j+i,e.val)))\/(k∉q.map Prod.fst/\Instr.findNow kd (ke k) l j=some none):=by
  intro l;induction l with
  |nil=>intro q j hl _;cases q with|nil=>exact .inr ⟨by simp,rfl⟩|cons a b=>simp at hl
  |cons e r ih=>
   intro q j hl hkey;cases q with
   |nil=>simp at hl
   |cons y q=>
    obtain⟨h1,h2⟩:=hkey 0 e y rfl rfl;simp only[Instr.findNow,h1,hk];by_cases e0:k=y.1
    ·subst e0;exact .inl ⟨0,y.2,e,rfl,rfl,h2,by simp⟩
    rw[xal e0];rcases ih q (j+1) (by simpa using hl) (λi e x h1 h2=>hkey (i+1) e x (by simpa using h1) (by simpa using h2))with⟨i,x,e',g1,g2,g3,g4⟩|⟨g1,g2⟩
    ·exact .inl ⟨i+1,x,e',by simpa using g1,by simpa using g2,g3,by simp only[g4];rw[show j+1+i=j+(i+1)by omega]⟩
    exact .inr ⟨by rw[xay,xak];rintro(h|h);exact e0 h;exact g1 h,by simpa using g2⟩
 have:=key es.toList m 0 (by simpa using h.len) (λi e x h1 h2=>h.key i e x (by simpa using h1) h2);rcases this with⟨i,x,e,g1,g2,g3,g4⟩|h2
 ·exact .inl ⟨i,x,e,by simpa using g1,g2,g3,by simpa using g4⟩
 exact .inr h2
theorem aF.DU{P:Program}{kt:TypeId}(hk:∀a b,BI P kt (ke a) (ke b) (decide (a=b)))(h:aF ke vr es ck m)(k:κ):
  (∃(i:Nat) (x:β) (e:MapEntry),es[i]? =some e/\m[i]? =some (k,x)/\vr e.val x/\nu P kt (ke k) es.toList 0 (some (i,e.val)))\/(k∉m.map Prod.fst/\nu P kt (ke k) es.toList 0 none):=by
 have key:∀(l:List MapEntry) (q:List (κ×β)) (j:Nat),l.length=q.length->(∀(i:Nat) (e:MapEntry) (x:κ×β),l[i]? =some e->q[i]? =some x->e.key=ke x.1/\vr e.val x.2)->
   (∃(i:Nat) (x:β) (e:MapEntry),l[i]? =some e/\q[i]? =some (k,x)/\vr e.val x/\nu P kt (ke k) l j (some (j+i,e.val)))\/(k∉q.map Prod.fst/\nu P kt (ke k) l j none):=by
  intro l;induction l with
  |nil=>intro q j hl _;cases q with|nil=>exact .inr ⟨by simp,rfl⟩|cons a b=>simp at hl
  |cons e r ih=>
   intro q j hl hkey;cases q with
   |nil=>simp at hl
   |cons y q=>
    obtain⟨h1,h2⟩:=hkey 0 e y rfl rfl;have hb:=hk k y.1;rw[<-h1]at hb;by_cases e0:k=y.1
    ·refine .inl ⟨0,y.2,e,rfl,by rw[e0];rfl,h2,?_⟩;exact⟨_,hb,λ_=>by simp,λh=>by simp[e0]at h⟩
    rcases ih q (j+1) (by simpa using hl) (λi e x h1 h2=>hkey (i+1) e x (by simpa using h1) (by simpa using h2))with⟨i,x,e',g1,g2,g3,g4⟩|⟨g1,g2⟩
    ·refine .inl ⟨i+1,x,e',by simpa using g1,by simpa using g2,g3,_,hb,λh=>by simp[e0]at h,λ_=>?_⟩;rw[show j+(i+1)=j+1+i by omega];exact g4
    exact .inr ⟨by rw[xay,xak];rintro(h|h);exact e0 h;exact g1 h,_,hb,λh=>by simp[e0]at h,λ_=>g2⟩
 have:=key es.toList m 0 (by simpa using h.len) (λi e x h1 h2=>h.key i e x (by simpa using h1) h2);rcases this with⟨i,x,e,g1,g2,g3,g4⟩|h2
 ·exact .inl ⟨i,x,e,by simpa using g1,g2,g3,by simpa using g4⟩
 exact .inr h2
theorem aF.put(h:aF ke vr es ck m){i:Nat}{k:κ}{y x:β}{val:zV}(hi:m[i]? =some (k,y))(hv:vr val x):aF ke vr (es.modify i λe=>{e with key:=ke k,val}) ck (eo m k x):=by
 have hmem:k∈m.map Prod.fst:=xan.2 ⟨_,xav hi,rfl⟩;have hlt:=(xah.1 hi).1;have acs:∀j z,m[j]? =some z->z.1=k->j=i:=λj z hj hz=>by
  have hj':=(xah.1 hj).1;have e1:(m.map Prod.fst)[j]? =some k:=by rw[xat,hj];simp[hz]
  have e2:(m.map Prod.fst)[i]? =some k:=by rw[xat,hi];rfl
  exact(List.getElem?_inj (by simpa using hj') h.nd).1 (e1.trans e2.symm)
 have hb:((es.modify i λe=>{e with key:=ke k,val}).toList.map MapEntry.born)=es.toList.map MapEntry.born:=by
  apply xbd;intro j;simp only[xat,xbc,xbY];split
  ·cases es[j]? <;>rfl
  rfl
 refine⟨by simp[eo,hmem,h.len],λj e z he hz=>?_,?_,by rw[hb];exact h.born,λe he=>?_⟩
 ·simp only[eo,hmem,xa7,xat]at hz;rw[xbY]at he;cases hm:m[j]? with
  |none=>rw[hm]at hz;simp at hz
  |some z0=>
   rw[hm]at hz;simp only[xch,xar]at hz;cases hes:es[j]? with
   |none=>rw[hes]at he;split at he<;>simp at he
   |some e0=>
    rw[hes]at he;by_cases ek:z0.1=k
    ·have:=acs j z0 hm ek;subst this;rw[xad ek]at hz;subst hz;simp only[xa7,xch,xar]at he;subst he;exact⟨rfl,hv⟩
    rw[xab ek]at hz;subst hz;rw[xab (λe=>by subst e;rw[hi]at hm;cases hm;exact ek rfl)]at he;simp only[xar]at he;subst he;exact h.key j _ _ hes hm
 ·have:(eo m k x).map Prod.fst=m.map Prod.fst:=by
   simp only[eo,hmem,xa7,xb8];apply xbh;intro z _;simp only[Function.comp];split
   ·rename_i hz;exact hz.symm
   rfl
  rw[this];exact h.nd
 have:e.born∈(es.modify i λe=>{e with key:=ke k,val}).toList.map MapEntry.born:=xaT he;rw[hb]at this;obtain⟨e0,h1,h2⟩:=xan.1 this;rw[<-h2];exact h.lt e0 h1
theorem aF.more(h:aF ke vr es ck m){k:κ}{x:β}{val:zV}(hk:k∉m.map Prod.fst)(hv:vr val x):aF ke vr (es.push {key:=ke k,val,born:=ck}) (ck+1) (eo m k x):=by
 have hs:eo m k x=m++[(k,x)]:=by unfold eo;rw[xab hk]
 rw[hs];refine⟨by simp[h.len],λj e z he hz=>?_,?_,?_,λe he=>?_⟩
 ·by_cases hj:j<m.length
  ·rw[xaY hj]at hz;rw[xdA,xab (by rw[h.len];omega)]at he;exact h.key j _ _ he hz
  have Ya:=(xah.1 hz).1;simp only[xaf,xaz,xce]at Ya;have:j=m.length:=by omega
  subst this;rw[xbQ (xaj _)]at hz;simp at hz;subst hz;rw[xdA,xad h.len.symm]at he;simp at he;subst he;exact⟨rfl,hv⟩
 ·rw[xaB,xa3];refine⟨h.nd,by simp,λa ha b hb=>?_⟩;simp at hb;subst hb;rintro rfl;exact hk ha
 ·rw[xeh,xaB,xa3];refine⟨h.born,by simp,λa ha b hb=>?_⟩;simp at hb;subst hb;obtain⟨e,he,rfl⟩:=xan.1 ha;have:=h.lt e he;omega
 rw[xeh,xao]at he;rcases he with he|he
 ·have:=h.lt e he;omega
 simp at he;subst he;simp
variable {H:Hp} {b:Nat}
theorem aF.hit{kd:TypeDesc}{zero:zV}{ok:Bool}{k:κ}{x:β}{K:zV->Prop}(hk:∀a b,Instr.sameNow kd (ke a) (ke b)=some (decide (a=b)))(h:aF ke vr es ck m)(hm:(b,Obj.map es ck)∈H)(hx:aG m k=some x)
 (h1:∀v,vr v x->K (cond ok (.tuple #[v,.bool true]) v)):c6 kd zero ok H (.map (some b)) (ke k) K:=by
 rcases h.findNow hk k with⟨i,y,e,g1,g2,g3,g4⟩|⟨g1,g2⟩
 ·have:aG m k=some y:=(dW h.nd).2 (xav g2);rw[hx]at this;cases this;exact⟨es,_,.inr ⟨b,ck,rfl,hm⟩,g4,h1 _ g3⟩
 rw[iu.2 g1]at hx;cases hx
theorem aF.bO{kd:TypeDesc}{zero:zV}{ok:Bool}{k:κ}{K:zV->Prop}(hk:∀a b,Instr.sameNow kd (ke a) (ke b)=some (decide (a=b)))(h:aF ke vr es ck m)(hm:(b,Obj.map es ck)∈H)(hx:aG m k=none)
 (h1:K (cond ok (.tuple #[zero,.bool false]) zero)):c6 kd zero ok H (.map (some b)) (ke k) K:=by
 rcases h.findNow hk k with⟨i,y,e,g1,g2,g3,g4⟩|⟨g1,g2⟩
 ·exact absurd (xan.2 ⟨_,xav g2,rfl⟩) (iu.1 hx)
 exact⟨es,_,.inr ⟨b,ck,rfl,hm⟩,g2,h1⟩
theorem aF.bK{kd:TypeDesc}{k:κ}{x:β}{val:zV}{K:Hp->Prop}(hk:∀a b,Instr.sameNow kd (ke a) (ke b)=some (decide (a=b)))(hb:∀a,Instr.sameBits 10000 (ke a) (ke a)=true)(h:aF ke vr es ck m)(hv:vr val x)
 (h1:∀es' bB,aF ke vr es' bB (eo m k x)->∃H',c8 b (.map es ck) (.map es' bB) H H'/\K H'):aW kd H (.map (some b)) (ke k) val K:=by
 rcases h.findNow hk k with⟨i,y,e,g1,g2,g3,g4⟩|⟨g1,g2⟩
 ·refine⟨b,es,ck,_,rfl,g4,λe' he'=>?_,by rw[h.len];exact(xah.1 g2).1,h1 _ _ (h.put g2 hv)⟩;rw[(h.key i e' _ he' g2).1];exact hb k
 exact⟨b,es,ck,_,rfl,g2,h1 _ _ (h.more g1 hv)⟩
theorem aF.F6{P:Program}{kt:TypeId}{zero:zV}{ok:Bool}{k:κ}{x:β}{K:zV->Prop}(hk:∀a b,BI P kt (ke a) (ke b) (decide (a=b)))(hc:∀a,mw P kt (ke a))(h:aF ke vr es ck m)(hm:(b,Obj.map es ck)∈H)(hx:aG m k=some x)
 (h1:∀v,vr v x->K (cond ok (.tuple #[v,.bool true]) v)):j7 P kt zero ok H (.map (some b)) (ke k) K:=by
 rcases h.DU hk k with⟨i,y,e,g1,g2,g3,g4⟩|⟨g1,g2⟩
 ·have:aG m k=some y:=(dW h.nd).2 (xav g2);rw[hx]at this;cases this;exact⟨es,_,.inr ⟨b,ck,rfl,hm⟩,hc k,g4,h1 _ g3⟩
 rw[iu.2 g1]at hx;cases hx
theorem aF.vR{P:Program}{kt:TypeId}{zero:zV}{ok:Bool}{k:κ}{K:zV->Prop}(hk:∀a b,BI P kt (ke a) (ke b) (decide (a=b)))(hc:∀a,mw P kt (ke a))(h:aF ke vr es ck m)(hm:(b,Obj.map es ck)∈H)(hx:aG m k=none)
 (h1:K (cond ok (.tuple #[zero,.bool false]) zero)):j7 P kt zero ok H (.map (some b)) (ke k) K:=by
 rcases h.DU hk k with⟨i,y,e,g1,g2,g3,g4⟩|⟨g1,g2⟩
 ·exact absurd (xan.2 ⟨_,xav g2,rfl⟩) (iu.1 hx)
 exact⟨es,_,.inr ⟨b,ck,rfl,hm⟩,hc k,g2,h1⟩
theorem aF.LY{P:Program}{kt:TypeId}{k:κ}{x:β}{val:zV}{K:Hp->Prop}(hk:∀a b,BI P kt (ke a) (ke b) (decide (a=b)))(hc:∀a,mw P kt (ke a))(hb:∀a,Instr.sameBits 10000 (ke a) (ke a)=true)(h:aF ke vr es ck m)(hv:vr val x)
 (h1:∀es' bB,aF ke vr es' bB (eo m k x)->∃H',c8 b (.map es ck) (.map es' bB) H H'/\K H'):iJ P kt H (.map (some b)) (ke k) val K:=by
 rcases h.DU hk k with⟨i,y,e,g1,g2,g3,g4⟩|⟨g1,g2⟩
 ·refine⟨b,es,ck,_,rfl,hc k,g4,λe' he'=>?_,by rw[h.len];exact(xah.1 g2).1,h1 _ _ (h.put g2 hv)⟩;rw[(h.key i e' _ he' g2).1];exact hb k
 exact⟨b,es,ck,_,rfl,hc k,g2,h1 _ _ (h.more g1 hv)⟩
theorem aF.Q9(h:aF ke vr es ck m)(hm:(b,Obj.map es ck)∈H){K:zV->Prop}(hk:K (.int .i64 m.length)):BG H (.map (some b)) K:=⟨_,rfl,.inr ⟨b,es,ck,rfl,hm,by rw[h.len];exact hk⟩⟩
def cW(es:Array MapEntry)(m:List (κ×β))(seen:Array Nat):List (κ×β):=((es.toList.zip m).filter λp=> !seen.contains p.1.born).map Prod.snd
omit [DecidableEq κ] in
theorem p5(h:aF ke vr es ck m):cW es m #[]=m:=by
 unfold cW;rw[xcd.2 zI,<-List.unzip_snd,List.unzip_zip];simpa using h.len
omit [DecidableEq κ] in
theorem B8(h:aF ke vr es ck m){seen:Array Nat}{i:Nat}{e:MapEntry}{x:κ×β}(he:es[i]? =some e)(hx:m[i]? =some x)(hs:e.born∉seen):(cW es m seen).Perm (x::cW es m (seen.push e.born)):=by
 unfold cW;have hz:(es.toList.zip m)[i]? =some (e,x):=by rw[List.getElem?_zip_eq_some];exact⟨by simpa using he,hx⟩
 obtain⟨A,C,hAC,hlen⟩:∃A C,es.toList.zip m=A++(e,x)::C/\A.length=i:=by
  obtain⟨hlt,hg⟩:=xah.1 hz;exact⟨(es.toList.zip m).take i,(es.toList.zip m).drop (i+1),by rw[<-hg,List.getElem_cons_drop,xbq],by simp only[xbF];omega⟩
 have agP:(es.toList.zip m).map (λp=>p.1.born)=es.toList.map MapEntry.born:=by
  have:(es.toList.zip m).map Prod.fst=es.toList:=by rw[<-List.unzip_fst,List.unzip_zip];simpa using h.len
  rw[show(λp:MapEntry×(κ×β)=>p.1.born)=MapEntry.born∘Prod.fst from rfl,<-xb8,this]
 have fD:=h.born;rw[<-agP,hAC,xaB,xay]at fD;have acQ:=xaU.nodup_iff.1 fD;rw[xaW,<-xaB]at acQ;have hne:∀p∈A++C,p.1.born≠e.born:=λp hp e0=>acQ.1 (xan.2 ⟨p,hp,e0⟩);have Yf:∀L:List (MapEntry×(κ×β)),(∀p∈L,p.1.born≠e.born)->(L.filter λp=> !(seen.push e.born).contains p.1.born)=L.filter λp=> !seen.contains p.1.born:=λL hL=>by
  apply xcY;intro p hp;have:=hL p hp;simp[Array.mem_push,this]
 rw[hAC,xbU,xbU,xby,xby];rw[xad (by simpa using hs),xab zI,Yf A λp hp=>hne p (xae _ hp),Yf C λp hp=>hne p (xac _ hp)];rw[xaB,xaB,xay];exact xaU
omit [DecidableEq κ] in
theorem aF.next{bi bm:Nat}{seen:Array Nat}{K:zV->Hp->Prop}(h:aF ke vr es ck m)(hm:(bm,Obj.map es ck)∈H)(hi:(bi,Obj.mapIter (some bm) ck seen ck)∈H)
 (h1:∀e x seen',e∈es.toList->e.key=ke x.1->vr e.val x.2->(cW es m seen).Perm (x::cW es m seen')->seen'.back?=some e.born->es.find? (·.born==e.born)=some e->
   ∃H',c8 bi (.mapIter (some bm) ck seen ck) (.mapIter (some bm) ck seen' ck) H H'/\K (.tuple #[.bool true,e.key,e.val]) H')
 (h2:cW es m seen=[]->K (.tuple #[.bool false]) H):Nxt H (.pointer (some ⟨bi,0,none⟩)) K:=by
 refine⟨bi,some bm,ck,seen,ck,rfl,hi,es,ck,hm,λe he=>⟨h.lt e he,h.lt e he⟩,λe he hs=>?_,λaJ=>h2 ?_⟩
 ·obtain⟨i,hi',rfl⟩:=xba.1 he;have KF:i<m.length:=by rw[<-h.len];simpa using hi'
  have g1:es[i]? =some es.toList[i]:=by rw[<-xbc];exact xaa hi'
  have g2:m[i]? =some m[i]:=xaa KF;obtain⟨k1,k2⟩:=h.key i _ _ g1 g2;refine h1 _ m[i] _ he k1 k2 (B8 h g1 g2 hs) zI ?_;rw[<-Array.find?_toList];have fD:=h.born;rw[xd4];refine⟨by simp,es.toList.take i,es.toList.drop (i+1),by rw[List.getElem_cons_drop,xbq],λa ha=>?_⟩;simp only[xbG,beq_eq_false_iff_ne,ne_eq];intro e0;obtain⟨j,hj,rfl⟩:=xba.1 ha;simp only[xbF]at hj;rw[List.getElem_take]at e0;have:=(xer (by simpa using h.born) (xs:=es.toList.map MapEntry.born) (i:=j) (j:=i) (h₀:=by rw[xaE];omega) (h₁:=by rw[xaE];exact hi')).1 (by simpa using e0);omega
 unfold cW;rw[xdl.2,xcl];intro p hp;have:=aJ p.1 (xd1 hp).1;simpa using this
end
end Go.Sx
namespace ak
def kX(w:Nat):List UInt8:=(List.range 8).map λi=>UInt8.ofNat (w>>>(8*i))
def ie(ws:zL):List UInt8:=ws.flatMap kX
theorem fW(w:Nat):(kX w).length=8:=by simp[kX]
theorem tJ:∀l:zL,(ie l).length=8*l.length
 | []=>rfl
 |x::l=>by rw[ie,xei,xaf,fW];have:=tJ l;unfold ie at this;rw[this,xaz];omega
theorem Gx{a b:Nat}(ha:a<18446744073709551616)(hb:b<18446744073709551616)(h:kX a=kX b):a=b:=by
 apply xaV;intro j;by_cases hj:j<64
 ·have hi:j/8<8:=by omega
  have h1:=xck (λl=>l[j/8]?) h;simp only[kX,xat,xdB hi,xch,xar]at h1;have h2:=xck UInt8.toNat h1;simp only[UInt8.toNat_ofNat']at h2;have h3:=xck (λx=>x.testBit (j%8)) h2;simp only[xbz,xbC]at h3;rw[show 8*(j/8)+j%8=j by omega]at h3;have:decide (j%8<8)=true:=by simp;omega
  simpa[this]using h3
 rw[xb9 (xaP ha (xax (n:=2) zD (by omega:64<=j))),xb9 (xaP hb (xax (n:=2) zD (by omega:64<=j)))]
theorem Dm:∀{a b:zL},(∀w∈a,w<18446744073709551616)->(∀w∈b,w<18446744073709551616)->ie a=ie b->a=b
 | [],[],_,_,_=>rfl
 | [],y::b,_,_,h=>by have:=xck List.length h;simp[ie,fW]at this;omega
 |x::a,[],_,_,h=>by have:=xck List.length h;simp[ie,fW]at this
 |x::a,y::b,ha,hb,h=>by
  simp only[ie,xei]at h;obtain⟨h1,h2⟩:=List.append_inj h (by rw[fW,fW]);rw[Gx (ha x zI) (hb y zI) h1,Dm (λw hw=>ha w (by simp[hw])) (λw hw=>hb w (by simp[hw])) h2]
theorem eV.key_inj{n:Nat}{a b:zL}(ha:eV n a)(hb:eV n b)(h:ie a=ie b):a=b:=Dm (λw hw=>ha.lt hw) (λw hw=>hb.lt hw) h
abbrev Fs:=List (zL)
def add(l:Fs)(t:zL):Fs:=if t∈l then l else l++[t]
def mC(L:Fs):Fs:=L.foldl add []
def given(n:Nat)(l:Fs)(v:Nat):Fs:=l.foldl (λacc t=>add (add acc (iI n t v false)) (iI n t v true)) []
def nodes(n:Nat)(l:Fs)(v:Nat):Fs:=l.filter λt=>dep n t v
def st(n:Nat)(L:Fs)(A:Nat):Nat->Fs
 |0=>mC L
 |k+1=>if A.testBit k then given n (st n L A k) k else st n L A k
def lvl(n:Nat)(L:Fs)(A v:Nat):Nat:=(nodes n (st n L A n) v).length
theorem A2{l:Fs}{t x:zL}:x∈add l t↔x∈l\/x=t:=by
 unfold add;split
 ·constructor
  ·exact .inl
  rintro(h|rfl)<;>assumption
 simp
theorem tf{l:Fs}{t:zL}(h:l.Nodup):(add l t).Nodup:=by
 unfold add;split
 ·exact h
 rename_i hn;rw[xa3];exact⟨h,by simp,λa ha b hb=>by simp at hb;subst hb;rintro rfl;exact hn ha⟩
theorem kW{α:Type}(f:α->Fs->Fs)(g:α->zL->Prop)(hf:∀a l x,x∈f a l↔x∈l\/g a x):∀(L:List α) (acc:Fs) (x:zL),x∈L.foldl (λacc a=>f a acc) acc↔x∈acc\/∃a∈L,g a x
 | [],acc,x=>by simp
 |a::L,acc,x=>by
  rw[xcF,kW f g hf L,hf];simp only[xak,exists_eq_or_imp,or_assoc]
theorem jd{α:Type}(f:α->Fs->Fs)(hf:∀a l,l.Nodup->(f a l).Nodup):∀(L:List α) (acc:Fs),acc.Nodup->(L.foldl (λacc a=>f a acc) acc).Nodup
 | [],acc,h=>h
 |a::L,acc,h=>jd f hf L _ (hf a acc h)
theorem gu{L:Fs}{x:zL}:x∈mC L↔x∈L:=by
 unfold mC;have:=kW (λa l=>add l a) (λa x=>x=a) (λa l x=>A2) L [] x;rw[this];simp
theorem mB(L:Fs):(mC L).Nodup:=jd (λa l=>add l a) (λa l h=>tf h) L [] zI
theorem cg{n v:Nat}{l:Fs}{x:zL}:x∈given n l v↔∃t∈l,∃b,x=iI n t v b:=by
 unfold given;have:=kW (λt acc=>add (add acc (iI n t v false)) (iI n t v true)) (λt x=>∃b,x=iI n t v b) (λt l x=>by
  rw[A2,A2];constructor
  ·rintro((h|h)|h)
   ·exact .inl h
   ·exact .inr ⟨false,h⟩
   exact .inr ⟨true,h⟩
  rintro(h|⟨b,h⟩)
  ·exact .inl (.inl h)
  cases b
  ·exact .inl (.inr h)
  exact .inr h) l [] x
 rw[this];simp
theorem om(n:Nat)(l:Fs)(v:Nat):(given n l v).Nodup:=jd (λt acc=>add (add acc (iI n t v false)) (iI n t v true)) (λa l h=>tf (tf h)) l [] zI
theorem nO(n:Nat)(L:Fs)(A:Nat):∀k,(st n L A k).Nodup
 |0=>mB L
 |k+1=>by
  rw[st];split
  ·exact om _ _ _
  exact nO n L A k
theorem jw{a b:Fs}(ha:a.Nodup)(hb:b.Nodup)(h:∀x,x∈a↔x∈b):a.Perm b:=(xcV ha hb).2 h
theorem mM{n v:Nat}{a b:Fs}(h:a.Perm b):(nodes n a v).length=(nodes n b v).length:=(h.filter _).length_eq
theorem E9{n:Nat}{L:Fs}{A:Nat}(hL:∀t∈L,eV n t)(hn:n<=16):∀k,∀t∈st n L A k,eV n t
 |0,t,h=>hL t (gu.1 h)
 |k+1,t,h=>by
  rw[st]at h;split at h
  ·obtain⟨u,_,b,rfl⟩:=cg.1 h;exact eB hn
  exact E9 hL hn k t h
theorem qH(l:Fs)(t:zL):(add l t).length<=l.length+1:=by unfold add;split<;>simp
theorem iC{α:Type}(f:α->Fs->Fs)(c:Nat)(hf:∀a l,(f a l).length<=l.length+c):∀(L:List α) (acc:Fs),(L.foldl (λacc a=>f a acc) acc).length<=acc.length+c*L.length
 | [],acc=>by simp
 |a::L,acc=>by
  have h1:=iC f c hf L (f a acc);have h2:=hf a acc;rw[xcF,xaz,Nat.mul_succ];omega
theorem sn(n:Nat)(L:Fs)(A:Nat):∀k,(st n L A k).length<=2^k*L.length
 |0=>by have:=iC (λa l=>add l a) 1 (λa l=>qH l a) L [];simpa[st,mC]using this
 |k+1=>by
  have ih:=sn n L A k;rw[st,xd2];split
  ·have h:=iC (λt acc=>add (add acc (iI n t k false)) (iI n t k true)) 2 (λa l=>by have h1:=qH (add l (iI n a k false)) (iI n a k true);have h2:=qH l (iI n a k false);omega) (st n L A k) [];have h':(given n (st n L A k) k).length<=2*(st n L A k).length:=by simpa[given]using h
   have:2*(st n L A k).length<=2*(2^k*L.length):=xda _ ih;rw[xcm (2^k) 2,xcL];omega
  have:2^k*L.length<=2^k*2*L.length:=xaX _ zO;omega
def lp(n:Nat)(ws:zL):Nat->Nat
 |0=>0
 |v+1=>if dep n ws v then lp n ws v|||2^v else lp n ws v
def p9(n:Nat)(ws:zL):Nat:=lp n ws n
theorem iH(n:Nat)(ws:zL)(u:Nat):∀k,(lp n ws k).testBit u=(decide (u<k) &&dep n ws u)
 |0=>by simp[lp]
 |v+1=>by
  rw[lp];by_cases e:u=v
  ·subst e;split
   ·rename_i h;rw[xb1,Nat.testBit_two_pow_self];simp[h]
   rename_i h;rw[iH n ws u u];simp[h]
  have h1:decide (u<v+1)=decide (u<v):=by simp;omega
  rw[h1];split
  ·rw[xb1,xbX,iH n ws u v];simp[xa9 e]
  exact iH n ws u v
theorem nN(n:Nat)(ws:zL):∀k,lp n ws k<2^k
 |0=>by simp[lp]
 |v+1=>by
  have h1:=nN n ws v;have h2:2^v<2^(v+1):=xbx zD zO;rw[lp];split
  ·exact xbH zO h2
  omega
theorem uQ(A u:Nat):(A>>>u&&&1=1)↔A.testBit u=true:=by
 rw[gw,xbC,xcu];cases A.testBit u<;>simp
theorem Lh(A u:Nat):((A>>>u)%2=1)↔A.testBit u=true:=by
 rw[<-uQ,xbT]
end ak
namespace Go.Sx
open Go
section
variable {P:Program} {H:Hp}
theorem ax.int{t e:Nat}{kd:IntKind}{x:Int}{K:zV->Hp->Prop}(h1:P.underlying t=some (.slice e))(h2:dH P e=some 1)(h3:fJ P e=some (.int kd 0))
 (h:∀b,K (.slice (some ⟨b,0,none⟩) 1 1) ((b,.cells (aA kd [x]) e zZ)::H)):ax P t 1 [(0,.int kd x)] H K:=by
 refine⟨aA kd [x],e,1,_,h1,h2,h3,by decide,?_,λb _=>h b⟩;have e1:Array.range 1=#[0]:=rfl;simp[Instr.fill,Value.cells,aA,e1]
theorem ax.none{t e k:Nat}{z:zV}{K:zV->Hp->Prop}(h1:P.underlying t=some (.slice e))(h2:dH P e=some k)(h3:fJ P e=some z)
 (h:∀b,K (.slice (some ⟨b,0,none⟩) 0 0) ((b,.cells #[] e zZ)::H)):ax P t 0 [] H K:=by
 refine⟨_,e,k,z,h1,h2,h3,by simp,rfl,λb _=>?_⟩;have:((Array.range (0*k)).map λi=>z.cells[i%z.cells.size]!)=#[]:=by simp
 rw[this];exact h b
def r4(T:TypeId)(v:zV)(ts:List Tb)(C B:Hp):Prop:=∃rs,aV T 2 v rs C/\ti (TT B) rs ts
theorem r4.nil{T:TypeId}{B:Hp}:r4 T (.slice none 0 0) [] [] B:=⟨[],aV.nil _ _,ti.nil⟩
theorem r4.mono{T:TypeId}{v:zV}{ts:List Tb}{C B B':Hp}(h:r4 T v ts C B)(hs:∀x∈B,x∈B'):r4 T v ts C B':=let ⟨rs,h1,h2⟩:=h;⟨rs,h1,h2.mono λ_ _ h=>h.mono hs⟩
theorem r4.afz{T:TypeId}{v:zV}{ts:List Tb}{C B B':Hp}(h:r4 T v ts C B)(hc:∀x∈C,x∈B')(hb:∀x∈B,x∈B'):jG B' v ts:=by
 obtain⟨rs,h1,h2⟩:=h;exact⟨rs,(Sl.rh h1 zD).mono hc,h2.mono λ_ _ h=>h.mono hb⟩
theorem r4.app{T:TypeId}{v:zV}{ts:List Tb}{C B0 A B:Hp}(h:r4 T v ts C B0){xb xc:Nat}{t:Tb}{s:zV}{xT:TypeId}{fz:Nat×Nat}(hx:(xb,Obj.cells #[.int .i64 t.n,s] xT fz)∈A++(C++B))(hw:Words B0 s t.ws)
 (hl:ts.length<4398046511103){K:zV->Hp->Prop}(hk:∀v' C',r4 T v' (ts++[t]) C' B0->K v' (A++(C'++B))):App P T 2 32 (.agg #[.int .i64 0,.slice none 0 0]) (A++(C++B)) v (.slice (some ⟨xb,0,none⟩) 1 xc) K:=by
 obtain⟨rs,h1,h2⟩:=h;have hs:s.oneCell'=true:=by obtain⟨a,c,rfl,_⟩:=hw.1.shape;rfl
 have Dv:=h2.1;refine h1.GH (r:=[.int .i64 t.n,s]) hx rfl (λu hu=>by simp only[xak,xaR,xbD]at hu;rcases hu with rfl|rfl;rfl;exact hs) ⟨[.int .i64 0,.slice none 0 0],rfl,rfl⟩ zO zO λv' C' ho=>hk v' C' ⟨_,ho,h2.snoc ⟨s,rfl,hw⟩⟩
def s7(l:List UInt8):List (List zV):=l.map λb=>[Value.int .u8 b.toNat]
theorem Mu(l:List UInt8):rows (s7 l)=(l.map λb=>Value.int .u8 b.toNat).toArray:=by
 unfold rows s7;congr 1;induction l with
 |nil=>rfl
 |cons b r ih=>simp[ih]
theorem k6.own{T:TypeId}{v:zV}{l:List UInt8}{C:Hp}(h:aV T 1 v (s7 l) C)(hs:∀x∈C,x∈H){K:zV->Prop}(hk:K (.string ⟨l.toArray⟩)):k6 H v K:=by
 obtain⟨a,cap,h1,h2⟩:=((Sl.rh h zD).mono hs).cells;refine⟨a,_,cap,l,h1,?_,by simp[s7],hk⟩;rw[Mu,xb4]at h2;exact h2
def AK(l:List UInt8):zV:=.string ⟨l.toArray⟩
theorem u6(a b:List UInt8):((⟨a.toArray⟩:ByteArray)==⟨b.toArray⟩)=decide (a=b):=by
 rw[beq_toListBytes,ByteArray.toList_eq,ByteArray.toList_eq];simp only[xdC];rw[xbE];simp
theorem P7(a b:List UInt8):Instr.sameNow .string (AK a) (AK b)=some (decide (a=b)):=by
 show some _=some _;rw[u6]
theorem Mb(a:List UInt8):Instr.sameBits 10000 (AK a) (AK a)=true:=by
 show((⟨a.toArray⟩:ByteArray)==⟨a.toArray⟩)=true;rw[u6];simp
theorem ae.abM{a b:List UInt8}{k:zV->Prop}(h:k (.bool (decide (a≠b)))):ae .str .neq (AK a) (AK b) k:=by
 refine⟨_,rfl,?_⟩;have:(!((⟨a.toArray⟩:ByteArray).toList==(⟨b.toArray⟩:ByteArray).toList))=decide (a≠b):=by
  rw[<-beq_toListBytes,u6];simp
 rw[this];exact h
def gG(n:Nat)(B:Hp)(es:Array MapEntry)(ck:Nat)(m:List (List UInt8×zL)):Prop:=
 aF AK (λv ws=>EN B v ⟨n,ws⟩) es ck m/\∀x∈m,x.1=ak.ie x.2/\ak.eV n x.2
theorem gG.mono{n:Nat}{B B':Hp}{es:Array MapEntry}{ck:Nat}{m:List (List UInt8×zL)}(h:gG n B es ck m)(hs:∀x∈B,x∈B'):gG n B' es ck m:=⟨h.1.mono λ_ _ h=>h.mono hs,h.2⟩
theorem gG.empty(n:Nat)(B:Hp):gG n B #[] 0 []:=⟨aF.empty,by simp⟩
def AI(m:List (List UInt8×zL))(ws:zL):List (List UInt8×zL):=eo m (ak.ie ws) ws
theorem gG.nodup{n:Nat}{B:Hp}{es:Array MapEntry}{ck:Nat}{m:List (List UInt8×zL)}(h:gG n B es ck m):(m.map Prod.snd).Nodup:=by
 have h1:=h.1.nd;have e:m.map Prod.fst=(m.map Prod.snd).map ak.ie:=by
  rw[xb8];apply xbh;intro x hx;exact(h.2 x hx).1
 rw[e]at h1;exact List.Pairwise.of_map ak.ie (λa b hne e=>hne (by rw[e])) h1
theorem sj{n:Nat}{m:List (List UInt8×zL)}{ws:zL}(hm:∀x∈m,x.1=ak.ie x.2/\ak.eV n x.2)(hf:ak.eV n ws):∀x,x∈(AI m ws).map Prod.snd↔x∈m.map Prod.snd\/x=ws:=by
 intro x;unfold AI eo;split
 ·rename_i hk;obtain⟨y,hy,hky⟩:=xan.1 hk;have hyw:y.2=ws:=(hm y hy).2.key_inj hf (by rw[<-(hm y hy).1,hky]);have:(m.map λy=>if y.1=ak.ie ws then(ak.ie ws,ws)else y)=m:=by
   conv=>rhs;rw[<-xeD m]
   apply xbh;intro z hz;split
   ·rename_i hzk;have:z.2=ws:=(hm z hz).2.key_inj hf (by rw[<-(hm z hz).1,hzk]);simp only[id];rw[<-hzk,<-this]
   rfl
  rw[this];constructor
  ·exact .inl
  rintro(h|rfl)
  ·exact h
  exact xan.2 ⟨y,hy,hyw⟩
 simp
theorem UQ{n:Nat}{m:List (List UInt8×zL)}{ws:zL}(hm:∀x∈m,x.1=ak.ie x.2/\ak.eV n x.2)(hf:ak.eV n ws):∀x∈AI m ws,x.1=ak.ie x.2/\ak.eV n x.2:=by
 intro x hx;unfold AI eo at hx;split at hx
 ·obtain⟨y,hy,rfl⟩:=xan.1 hx;split
  ·exact⟨rfl,hf⟩
  exact hm y hy
 rcases xao.1 hx with hx|hx
 ·exact hm x hx
 simp at hx;subst hx;exact⟨rfl,hf⟩
theorem gG.bK{n:Nat}{B:Hp}{es:Array MapEntry}{ck b:Nat}{m:List (List UInt8×zL)}{ws:zL}{val:zV}{K:Hp->Prop}(h:gG n B es ck m)(hv:EN B val ⟨n,ws⟩)(hf:ak.eV n ws)
 (h1:∀es' bB,gG n B es' bB (AI m ws)->∃H',c8 b (.map es ck) (.map es' bB) H H'/\K H'):aW .string H (.map (some b)) (AK (ak.ie ws)) val K:=
 aF.bK P7 Mb h.1 hv λes' bB he=>h1 es' bB ⟨he,UQ h.2 hf⟩
end
end Go.Sx
namespace Go.Sx
open Go
section
variable {P:Program} {g:Gh} {H:Hp}
theorem aV.apps{elem k bytes:Nat}{zero:zV}{v:zV}{rs:List (List zV)}{C A B:Hp}(h:aV elem k v rs C){xa:Option Addr}{xc:Nat}{r2:List (List zV)}
 (hx:Cells (A++(C++B)) xa (r2.length*k) (rows r2))(hr:∀r∈r2,r.length=k)(h1:∀r∈r2,∀u∈r,u.oneCell'=true)(hz:∃z:List zV,zero.cells=z.toArray/\z.length=k)
 (hb:(rs.length+r2.length)*bytes<=140737488355328)(cI:rs.length+r2.length<=9223372036854775807){K:zV->Hp->Prop}
 (hk:∀v' C',aV elem k v' (rs++r2) C'->K v' (A++(C'++B))):App P elem k bytes zero (A++(C++B)) v (.slice xa r2.length xc) K:=by
 obtain⟨z,hz1,Wc⟩:=hz;have hnone:∀u∈(rows r2).toList,u.oneCell'=true:=by
  intro u hu;simp only[rows,List.mem_flatten]at hu;obtain⟨r,h2,h3⟩:=hu;exact h1 r h2 u h3
 rcases h with⟨rfl,rfl,rfl⟩|⟨b,aK,rfl,rfl,aJ⟩
 ·refine⟨none,0,0,xa,r2.length,xc,#[],rows r2,rfl,rfl,rfl,hx,bT hr,by simp,hnone,λh=>?_,λ_=>⟨by simpa using hb,by simpa using cI,λgp hn b hbf=>?_⟩⟩
  ·have:r2=[]:=xbW zO;subst this;exact hk _ [] (.inl ⟨rfl,rfl,rfl⟩)
  rw[show(#[]:Array zV)++rows r2++Builtin.zeroCells zero.cells (gp-(0+r2.length))=rows ([]++r2++List.replicate (gp-r2.length) z)by rw[hz1,qU z Wc];simp only[xa5,xdc,xbS];rw[er]];refine⟨_,aM.XJ [(b,_)] A B,hk _ [(b,_)] (.inr ⟨b,List.replicate (gp-r2.length) z,?_,rfl,?_⟩)⟩
  ·simp;omega
  intro x hx;rcases xao.1 hx with hx|hx
  ·exact hr x hx
  rw[xb0 hx,Wc]
 have hsz:=bT aJ;have pQ:∀x∈rs,x.length=k:=λx hx=>aJ x (by simp[hx]);have hold:rows rs=(rows (rs++aK)).extract 0 (0+rs.length*k):=by
  rw[<-er];apply xdf;have:=bT pQ;have h2:(rows rs).toList.length=rs.length*k:=by rw[xcc];exact this
  rw[Array.toList_extract,Array.toList_append,List.extract_eq_take_drop,List.drop_zero,xa5,xc4,<-h2,xd7]
 refine⟨some ⟨b,0,none⟩,rs.length,rs.length+aK.length,xa,r2.length,xc,rows rs,rows r2,rfl,rfl,.inr ⟨rfl,_,elem,(0,0),by simp,?_,hold⟩,hx,bT hr,bT pQ,hnone,λhfit=>?_,λhgrow=>⟨hb,by omega,λgp hn b' hbf=>?_⟩⟩
 ·rw[hsz];simp only[xaf,xa5];exact xaX _ zO
 ·obtain⟨j1,j2,rfl,hj⟩:∃j1 j2,aK=j1++j2/\j1.length=r2.length:=⟨aK.take r2.length,aK.drop r2.length,(xbq _ _).symm,by rw[xbF];omega⟩;have adp:∀x∈j1,x.length=k:=λx hx=>aJ x (by simp[hx]);refine⟨_,elem,_,rfl,?_,((c8.head _).append B).cr A,hk _ [(b,_)] (.inr ⟨b,j2,?_,?_,?_⟩)⟩
  ·rw[hsz,xaf,xaf,hj,xeC,xeC];show 0+rs.length*k+r2.length*k<=_;omega
  ·simp;omega
  ·have e:(⟨b,0,none⟩:Addr).off+rs.length*k=rs.length*k:=by simp
   have l1:=dm rs pQ;have l2:=dm j1 adp;have l3:=dm r2 hr;have e2:jV (rows (rs++(j1++j2))) (rs.length*k) (rows r2).toList=rows (rs++r2++j2):=by
    unfold rows;rw[xcr,xcr,xdC,oZ _ _ _ (by rw[xaf,xaf,l1,l2,l3,hj];omega)];congr 1;rw[xcr,xcr,<-l1,xd7,l3,<-hj,<-l2,xes,<-xai];simp[xes]
   rw[e,e2]
  intro x hx;simp only[xai,xao]at hx;rcases hx with hx|hx|hx
  ·exact pQ x hx
  ·exact hr x hx
  exact aJ x (by simp[hx])
 refine⟨A++([(b',_)]++B),?_,hk _ [(b',_)] (.inr ⟨b',List.replicate (gp-(rs.length+r2.length)) z,?_,rfl,?_⟩)⟩
 ·rw[hz1,qU z Wc,er,er];exact λg w h=>(aM.abQ [[_],A,[_],B] [[_],A,[_],B] ((xbb (l₁:=[_,A]) (l₂:=[_])).append_right [B]|>.trans (.cons _ (.swap _ _ _))) g w h).tail
 ·simp;omega
 intro x hx;rcases xao.1 hx with hx|hx
 ·rcases xao.1 hx with hx|hx
  ·exact pQ x hx
  exact hr x hx
 rw[xb0 hx,Wc]
def aS(T:TypeId)(kd:IntKind)(v:zV)(l:List Int)(C:Hp):Prop:=aV T 1 v (l.map λn=>[Value.int kd n]) C
theorem aS.nil{T:TypeId}{kd:IntKind}:aS T kd (.slice none 0 0) [] []:=aV.nil _ _
theorem aS.bV{T:TypeId}{kd:IntKind}{v:zV}{l:List Int}{C:Hp}(h:aS T kd v l C){K:zV->Prop}(hk:K (.int .i64 l.length)):aR v K:=aV.bV h (by simpa using hk)
theorem aS.ints{T:TypeId}{kd:IntKind}{v:zV}{l:List Int}{C:Hp}(h:aS T kd v l C):dz kd C v l:=Sl.rh h zD
theorem aS.app{T:TypeId}{kd:IntKind}{v:zV}{l:List Int}{C A B:Hp}{bytes:Nat}(h:aS T kd v l C){xb xc:Nat}{x:Int}{xT:TypeId}{fz:Nat×Nat}(hx:(xb,Obj.cells (aA kd [x]) xT fz)∈A++(C++B))
 (hb:(l.length+1)*bytes<=140737488355328)(hm:l.length+1<=9223372036854775807){K:zV->Hp->Prop}(hk:∀v' C',aS T kd v' (l++[x]) C'->K v' (A++(C'++B))):App P T 1 bytes (.int kd 0) (A++(C++B)) v (.slice (some ⟨xb,0,none⟩) 1 xc) K:=
 aV.GH (r:=[.int kd x]) h hx rfl (by simp[Value.oneCell']) ⟨[.int kd 0],rfl,rfl⟩ (by simpa using hb) (by simpa using hm) λv' C' ho=>hk v' C' (by unfold aS;simpa using ho)
theorem aS.apps{T:TypeId}{kd:IntKind}{v x:zV}{l l2:List Int}{C A B:Hp}{bytes:Nat}(h:aS T kd v l C)(hx:dz kd (A++(C++B)) x l2)
 (hb:(l.length+l2.length)*bytes<=140737488355328)(hm:l.length+l2.length<=9223372036854775807){K:zV->Hp->Prop}(hk:∀v' C',aS T kd v' (l++l2) C'->K v' (A++(C'++B))):App P T 1 bytes (.int kd 0) (A++(C++B)) v x K:=by
 obtain⟨a,cap,rfl,hc⟩:=Sl.cells hx;exact aV.apps h hc zI (by simp[Value.oneCell']) ⟨[.int kd 0],rfl,rfl⟩ (by simpa using hb) (by simpa using hm) λv' C' ho=>hk v' C' (by unfold aS;rw[xaB];exact ho)
theorem ax.aci{t e:Nat}{kd:IntKind}{x y z:Int}{K:zV->Hp->Prop}(h1:P.underlying t=some (.slice e))(h2:dH P e=some 1)(h3:fJ P e=some (.int kd 0))
 (h:∀b,K (.slice (some ⟨b,0,Option.none⟩) 3 3) ((b,.cells (aA kd [x,y,z]) e zZ)::H)):ax P t 3 [(0,.int kd x),(1,.int kd y),(2,.int kd z)] H K:=by
 refine⟨aA kd [x,y,z],e,1,_,h1,h2,h3,by decide,?_,λb _=>h b⟩;have e1:Array.range (3*1)=#[0,1,2]:=rfl;simp[Instr.fill,Value.cells,aA,e1]
end
end Go.Sx
namespace Go.Sx
open Go
section
variable {P:Program}
theorem D7{e:TypeId}{i:TypeInfo}(hi:P.info? e=some i)(hs:i.size=1):P.cellsOf e=1:=by simp[Program.cellsOf,hi,hs]
theorem rf{e:TypeId}{q:IntKind}(hu:P.underlying e=some (.int q)){l:List Int}{j:Nat}{x:Int}(h:l[j]? =some x)(w:World):(part e (aA q l) j).run P w=.ok (.int q x) w:=by
 simp[part,isAgg,run_underlying hu,aA,h]
theorem rR{e:TypeId}{q:IntKind}(hu:P.underlying e=some (.int q))(hc:P.cellsOf e=1)(d:Nat)(l l':List Int)(w:World):∀is:zL,(∀i∈is,i<l.length/\i<l'.length)->
  (Op.eqItems (d+1) e (P.cellsOf e) (aA q l) (aA q l') is).run P w=.ok (is.all λi=>l[i]? ==l'[i]?) w
 | [],_=>by simp[Op.eqItems]
 |i::is,h=>by
  obtain⟨h1,h2⟩:=h i zI;have g1:l[i]? =some l[i]:=xaa h1;have g2:l'[i]? =some l'[i]:=xaa h2;have p1:=rf (P:=P) hu g1 w;have p2:=rf (P:=P) hu g2 w;have p3:(Op.equalIn (d+1) e (.int q l[i]) (.int q l'[i])).run P w=.ok (l[i]==l'[i]) w:=by
   simp only[Op.equalIn,Sem.run_bind,run_underlying hu,Result.andThen_ok,xa7,Sem.run_pure]
  have ih:=rR hu hc d l l' w is λj hj=>h j (by simp[hj]);simp only[Op.eqItems,hc,xb4,Sem.run_bind,p1,p2,p3,Result.andThen_ok]at ih⊢;rw[List.all_cons,g1,g2];cases hb:(l[i]==l'[i])
  ·simp[hb]
  simp[hb,ih]
theorem BI.array{t e:TypeId}{q:IntKind}{n:Nat}(ht:P.underlying t=some (.array n e))(hu:P.underlying e=some (.int q))(hz:dH P e=some 1)(l l':List Int)(h1:l.length=n)(h2:l'.length=n):
  BI P t (.agg (aA q l)) (.agg (aA q l')) (decide (l=l')):=by
 obtain⟨i,hi,hs⟩:=bF hz;have hc:=D7 hi hs;intro w;show(Op.equalIn (9998+1+1) t _ _).run P w=_;rw[run_equalIn_array w (9998+1) _ _ ht hi,rR hu hc 9998 l l' w _ (λj hj=>by have:=xaM.1 hj;omega)];congr 1;rw[xbE];simp only[xc3,xaM,xaJ,xcO];constructor
 ·intro h;apply xbd;intro j;by_cases hj:j<n
  ·exact h j hj
  rw[xaC zO,xaC zO]
 rintro rfl j _;rfl
theorem mw.array{t e:TypeId}{q:IntKind}{n:Nat}(ht:P.underlying t=some (.array n e))(hu:P.underlying e=some (.int q))(hz:dH P e=some 1)(l:List Int)(h1:l.length=n):mw P t (.agg (aA q l)):=by
 obtain⟨i,hi,hs⟩:=bF hz;intro b w;have gen:∀d,(Instr.checkKey b (d+1+1) t (.agg (aA q l))).run P w=.ok () w:=by
  intro d;have p2:∀x:Int,(Instr.checkKey b (d+1) e (.int q x)).run P w=.ok () w:=λx=>by
   simp only[Instr.checkKey,Sem.run_bind,run_underlying hu,Result.andThen_ok,Sem.run_pure]
  unfold Instr.checkKey;simp only[Sem.run_bind,run_underlying ht,Result.andThen_ok];simp only[Std.Legacy.Range.forIn_eq_forIn_range',Std.Legacy.Range.size,xc4,Nat.add_one_sub_one,Nat.div_one];have key:∀is:zL,(∀j∈is,j<l.length)->(forIn is PUnit.unit λj (_:PUnit)=>(do
     Instr.checkKey b (d+1) e (<-part e (aA q l) (j*(<-sizeOf e)))
     pure (ForInStep.yield PUnit.unit):Sem (ForInStep PUnit))).run P w=.ok PUnit.unit w:=by
   intro is;induction is with
   |nil=>intro _;simp
   |cons j is ih=>
    intro h;have p1:=rf (P:=P) hu (xaa (h j zI)) w;simp only[xev,Sem.run_bind,run_sizeOf hi,Result.andThen_ok,hs,xb4,p1,p2,Sem.run_pure];exact ih λk hk=>h k (by simp[hk])
  have:=key (List.range' 0 n) (λj hj=>by have:=xej.1 hj;omega);rw[this];rfl
 exact gen 9998
theorem Build.two{t e:TypeId}{q:IntKind}{x y:Int}{K:zV->Prop}(ht:P.underlying t=some (.array 2 e))(hz:dH P e=some 1)(h0:fJ P t=some (.agg (aA q [0,0])))(h:K (.agg (aA q [x,y]))):
  Build P t [(0,.int q x),(1,.int q y)] K:=by
 refine⟨_,λw=>?_,h⟩;obtain⟨i,hi,hs⟩:=bF hz;obtain⟨i0,F9,XZ⟩:=cH h0;simp only[Instr.build,Sem.run_bind,dU F9 XZ,Result.andThen_ok,run_underlying ht,run_sizeOf hi,hs];simp[Instr.fill,Value.cells,aA]
end
end Go.Sx
namespace Go.Sx
open Go
section
variable {P:Program} {g:Gh} {H:Hp}
theorem jH.struct{o:Oper}{ρ:Operand->zV}{k:zV->Prop}{neq:Bool}{t yt:TypeId}{x y:Operand}{xs ys:Array zV}{b:Bool}(ho:o.op=.binOp (cond neq .neq .eql) t x y yt)(hx:ρ x=.agg xs)(hy:ρ y=.agg ys)
 (hg:P.eqGuardType P.depth t=false)(hu:P.underlying t=some (.struct (P.fieldsOf t)))(hp:P.stoodInHeld t=false)
 (he:∀w,(Op.eqFields 9999 xs ys (P.fieldsOf t).toList).run P w=.ok b w)(hk:k (.bool (cond neq (!b) b))):jH P g o ρ H k:=by
 obtain⟨dst,op,type,pos,after,guard⟩:=o;simp only at ho;subst ho;obtain⟨v,h1,h2⟩:=Reads.mk (P:=P) (g:=g) (H:=H) (o:=⟨dst,.binOp (cond neq .neq .eql) t x y yt,type,pos,after,guard⟩) (ρ:=ρ) (k:=k) (s:=do eqGuard (cond neq .neq .eql) t x y (ρ x) (ρ y);binOp (cond neq .neq .eql) t (ρ x) (ρ y)) rfl
  ⟨.bool (cond neq (!b) b),hk,λw _=>by
   rw[hx,hy];simp only[Sem.run_bind,run_eqGuard_agg w _ t x y xs ys hg,Result.andThen_ok];cases neq
   ·simp only[xag];rw[run_eql_struct,show(10000:Nat)=9999+1 from rfl,run_equalIn_struct w 9999 t xs ys hu hp,he];rfl
   simp only[xap];rw[run_neq_struct,show(10000:Nat)=9999+1 from rfl,run_equalIn_struct w 9999 t xs ys hu hp,he];rfl⟩
 exact⟨v,h2,h1⟩
end
end Go.Sx
