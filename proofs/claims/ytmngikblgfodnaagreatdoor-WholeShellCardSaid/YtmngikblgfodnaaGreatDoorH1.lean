import Derived.WalkKit
import Derived.Still
import Derived.KernelRfl
import Derived.Deep.Quiet
import Derived.OrdersHeld
import Derived.ProofKit
import Derived.OpenShut
import Derived.Below
set_option linter.unusedVariables false
set_option linter.unusedSimpArgs false
set_option linter.unusedSectionVars false
theorem zM{α:Type _}{x:α}{l:List α}(h:x∈l:=by repeat (first|assumption|exact List.Mem.head _|apply List.Mem.tail|apply List.mem_append_right)):x∈l:=h
theorem zS{α:Type _}{A B:List α}(h:∀x∈A,x∈B:=by intro _ h;repeat (first|exact h|apply List.mem_cons_of_mem|apply List.mem_append_right)):∀x∈A,x∈B:=h
theorem zO{p:Prop}(h:p:=by omega):p:=h
theorem zI{p:Prop}(h:p:=by simp):p:=h
theorem zD{p:Prop}(h:p:=by decide):p:=h
theorem zK{p:Prop}(h:p:=by kernel_rfl):p:=h
theorem zP{p:Prop}(h:p:=by simp;omega):p:=h
theorem zC{p:Prop}(h:p:=by intro c h;cases h):p:=h
abbrev zL:=List Nat
abbrev zV:=Go.Value
abbrev zZ:Nat×Nat:=(0,0)
set_option linter.defProp false
def xaa:=@List.mem_append_right
def xab:=@List.getElem?_eq_getElem
def xac:=@if_neg
def xad:=@List.mem_append_left
def xae:=@if_pos
def xaf:=@List.length_append
def xag:=@List.mem_cons
def xah:=@List.getElem?_eq_some_iff
def xai:=@List.append_assoc
def xaj:=@cond_false
def xak:=@List.length_cons
def xal:=@Nat.le_refl
def xam:=@List.mem_map
def xan:=@List.getD_eq_getElem?_getD
def xao:=@cond_true
def xap:=@decide_eq_false
def xaq:=@List.mem_append
def xar:=@List.getElem?_map
def xas:=@Option.some.injEq
def xat:=@Nat.pow_le_pow_right
def xau:=@decide_eq_true
def xav:=@Array.getD_eq_getD_getElem?
def xaw:=@List.not_mem_nil
def xax:=@List.length_map
def xay:=@List.mem_of_getElem?
def xaz:=@List.cons.injEq
def xaA:=@Nat.zero_le
def xaB:=@List.map_append
def xaC:=@Bool.and_eq_true
def xaD:=@Bool.false_eq_true
def xaE:=@Nat.lt_of_le_of_lt
def xaF:=@List.getElem_mem
def xaG:=@List.mem_singleton
def xaH:=@List.append_nil
def xaI:=@Nat.eq_of_beq_eq_true
def xaJ:=@List.getElem?_eq_none
def xaK:=@List.length_range
def xaL:=@Bool.or_eq_false_iff
def xaM:=@List.map_cons
def xaN:=@Nat.shiftRight_eq_div_pow
def xaO:=@List.mem_range
def xaP:=@decide_eq_true_eq
def xaQ:=@List.getElem?_append_left
def xaR:=@Array.getElem?_eq_some_iff
def xaS:=@List.cons_append
def xaT:=@if_false
def xaU:=@List.perm_middle
def xaV:=@List.drop_eq_getElem_cons
def xaW:=@List.nodup_cons
def xaX:=@Nat.eq_of_testBit_eq
def xaY:=@Classical.byContradiction
def xaZ:=@or_false
def xa0:=@List.perm_append_comm
def xa1:=@Nat.zero_add
def xa2:=@Nat.lt_of_lt_of_le
def xa3:=@List.length_nil
def xa4:=@List.take_succ_eq_append_getElem
def xa5:=@Nat.mod_eq_of_lt
def xa6:=@List.nil_append
def xa7:=@if_true
def xa8:=@Nat.testBit_and
def xa9:=@List.nodup_append
def xba:=@Nat.mul_le_mul_right
def xbb:=@and_true
def xbc:=@List.drop_eq_nil_of_le
def xbd:=@List.mem_map_of_mem
def xbe:=@List.take_length
def xbf:=@Array.getElem?_modify
def xbg:=@List.length_singleton
def xbh:=@Nat.testBit_shiftRight
def xbi:=@Nat.one_shiftLeft
def xbj:=@Option.map_some
def xbk:=@decide_eq_false_iff_not
def xbl:=@Nat.testBit_mod_two_pow
def xbm:=@Array.getElem?_toList
def xbn:=@Ne.symm
def xbo:=@List.take_append_drop
def xbp:=@Bool.decide_or
def xbq:=@List.ext_getElem?
def xbr:=@List.map_congr_left
def xbs:=@List.nodup_range
def xbt:=@List.flatten_append
def xbu:=@List.count_append
def xbv:=@List.take_add_one
def xbw:=@Array.getElem?_setIfInBounds_ne
def xbx:=@Nat.mod_lt
def xby:=@List.mem_cons_of_mem
def xbz:=@Nat.succ_mul
def xbA:=@List.length_take
def xbB:=@List.mem_iff_getElem
def xbC:=@Nat.shiftRight_le
def xbD:=@List.length_replicate
def xbE:=@Array.getElem?_eq_getElem
def xbF:=@Option.some.inj
def xbG:=@List.find?_cons
def xbH:=@List.getElem?_set
def xbI:=@Int.toNat_natCast
def xbJ:=@Nat.mul_comm
def xbK:=@Nat.two_pow_pos
def xbL:=@List.getElem?_append_right
def xbM:=@List.getElem?_set_ne
def xbN:=@Nat.testBit_lt_two_pow
def xbO:=@List.getElem?_set_self
def xbP:=@Array.getElem?_setIfInBounds_self_of_lt
def xbQ:=@List.eq_of_mem_replicate
def xbR:=@List.map_map
def xbS:=@List.length_drop
def xbT:=@List.length_filter_le
def xbU:=@Bool.not_eq_true'
def xbV:=@List.mem_cons_self
def xbW:=@List.length_set
def xbX:=@Nat.min_eq_left
def xbY:=@Nat.add_zero
def xbZ:=@Nat.le_trans
def xb0:=@Nat.and_two_pow_sub_one_eq_mod
def xb1:=@Nat.add_sub_cancel
def xb2:=@Nat.one_le_two_pow
def xb3:=@Nat.and_le_right
def xb4:=@List.filter_cons
def xb5:=@List.eq_nil_of_length_eq_zero
def xb6:=@Array.length_toList
def xb7:=@List.length_pos_iff
def xb8:=@Nat.or_lt_two_pow
def xb9:=@List.pairwise_map
def xca:=@congrArg
def xcb:=@List.getElem?_toArray
def xcc:=@Nat.mul_one
def xcd:=@Nat.and_le_left
def xce:=@Option.map_none
def xcf:=@Int.natCast_nonneg
def xcg:=@Option.isSome_none
def xch:=@List.getElem?_cons_zero
def xci:=@List.length_eq_zero_iff
def xcj:=@List.mem_of_mem_take
def xck:=@List.drop_length
def xcl:=@Bool.or_eq_true
def xcm:=@List.mem_or_eq_of_mem_set
def xcn:=@List.Perm.append_left
def xco:=@Nat.le_of_ble_eq_true
def xcp:=@List.all_eq_true
def xcq:=@Nat.le_of_lt
def xcr:=@Nat.div_eq_of_lt
def xcs:=@List.filter_append
def xct:=@Bool.true_and
def xcu:=@Nat.mul_assoc
def xcv:=@Array.getElem?_setIfInBounds
def xcw:=@Nat.testBit_or
def xcx:=@Nat.pow_lt_pow_right
def xcy:=@List.flatten_cons
def xcz:=@of_decide_eq_true
def xcA:=@Array.getElem?_eq_none
def xcB:=@Nat.pow_succ
def xcC:=@Nat.sub_self
def xcD:=@List.any_eq_true
def xcE:=@List.set_cons_zero
def xcF:=@Classical.choose_spec
def xcG:=@List.set_append_right
def xcH:=@List.count_pos_iff
def xcI:=@Bool.not_false
def xcJ:=@Nat.mul_le_mul
def xcK:=@Array.toArray_toList
def xcL:=@List.map_nil
def xcM:=@List.eq_nil_iff_forall_not_mem
def xcN:=@List.foldl_cons
def xcO:=@BitVec.ofInt_natCast
def xcP:=@Nat.add_comm
def xcQ:=@Bool.eq_iff_iff
def xcR:=@List.range_succ
def xcS:=@List.mem_filter
def xcT:=@List.count_singleton
def xcU:=@List.count_cons
def xcV:=@Nat.succ_le_of_lt
def xcW:=@Nat.lt_trichotomy
def xcX:=@List.perm_iff_count
def xcY:=@Nat.le_of_not_lt
def xcZ:=@Nat.zero_testBit
def xc0:=@beq_iff_eq
def xc1:=@Array.ext'
def xc2:=@Option.map_eq_some_iff
def xc3:=@List.append_of_mem
def xc4:=@List.find?_eq_none
def xc5:=@List.map_set
def xc6:=@Nat.testBit_two_pow_sub_one
def xc7:=@Nat.and_one_is_mod
def xc8:=@Nat.not_lt_zero
def xc9:=@List.perm_ext_iff_of_nodup
def xda:=@Bool.not_true
def xdb:=@List.size_toArray
def xdc:=@Array.mem_toList_iff
def xdd:=@List.set_append_left
def xde:=@List.set_eq_take_append_cons_drop
def xdf:=@Nat.pow_add
def xdg:=@Iff.rfl
def xdh:=@Array.getElem?_replicate
def xdi:=@Nat.sub_zero
def xdj:=@Nat.min_eq_right
def xdk:=@Nat.shiftLeft_eq
def xdl:=@List.drop_append
def xdm:=@decide_eq_decide
def xdn:=@List.replicate_succ
def xdo:=@List.filter_eq_self
def xdp:=@List.getElem?_range
def xdq:=@Array.empty_append
def xdr:=@Nat.div_add_mod
def xds:=@List.filter_filter
def xdt:=@true_and
def xdu:=@List.take_of_length_le
def xdv:=@List.filter_congr
def xdw:=@Nat.lt_or_ge
def xdx:=@List.take_left
def xdy:=@Bool.and_eq_false_iff
def xdz:=@Option.getD_none
def xdA:=@Option.getD_some
def xdB:=@Nat.add_assoc
def xdC:=@Prod.mk.injEq
def xdD:=@Nat.one_mul
def xdE:=@Array.getElem?_push
def xdF:=@Nat.testBit_two_pow
def xdG:=@List.toList_toArray
def xdH:=@Decidable.byContradiction
def xdI:=@decide_false
def xdJ:=@Array.append_empty
def xdK:=@Nat.zero_mul
def xdL:=@UInt8.toNat_ofNat'
def xdM:=@Option.isSome_iff_exists
def xdN:=@Nat.shiftRight_add
def xdO:=@Option.toList_some
def xdP:=@Nat.sub_le
def xdQ:=@List.count_nil
def xdR:=@List.count_set
def xdS:=@List.getElem?_cons_succ
def xdT:=@List.getElem?_replicate
def xdU:=@List.take_sublist
def xdV:=@List.foldl_append
def xdW:=@Array.getElem?_setIfInBounds_self
def xdX:=@List.filter_eq_nil_iff
def xdY:=@Bool.and_true
def xdZ:=@Bool.false_or
def xd0:=@Array.toList_map
def xd1:=@Option.bind_some
def xd2:=@Nat.testBit_eq_decide_div_mod_eq
def xd3:=@Array.getElem?_append
def xd4:=@List.eraseIdx_sublist
def xd5:=@Array.getElem_extract
def xd6:=@Nat.testBit_shiftLeft
def xd7:=@List.getElem?_append
def xd8:=@Nat.div_lt_of_lt_mul
def xd9:=@List.of_mem_zip
def xea:=@Bool.decide_and
def xeb:=@List.mem_of_mem_drop
def xec:=@List.find?_eq_some_iff_append
def xed:=@List.drop_append_of_le_length
def xee:=@List.mapM_cons
def xef:=@Nat.testBit_two_pow_sub_succ
def xeg:=@dif_pos
def xeh:=@List.dropLast_concat_getLast
def xei:=@Bool.and_false
def xej:=@List.map_id
def xek:=@Nat.mul_add
def xel:=@List.set_cons_succ
def xem:=@List.idxOf_lt_length_of_mem
def xen:=@Array.toList_push
def xeo:=@List.flatMap_cons
def xep:=@List.mem_range'_1
def xeq:=@Classical.not_not
def xer:=@Decidable.not_not
def xes:=@List.countP_congr
def xet:=@Array.mem_filter
def xeu:=@beq_self_eq_true
def xev:=@List.take_append
def xew:=@Nat.le_add_right
def xex:=@Array.map_empty
def xey:=@List.forIn_cons
def xez:=@Array.ext
def xeA:=@Int.natCast_inj
def xeB:=@Nat.le_antisymm
def xeC:=@List.take_left'
def xeD:=@UInt8.toNat_inj
def xeE:=@List.countP_map
def xeF:=@Nat.add_mul
def xeG:=@Nat.mod_one
abbrev zX:ByteArray:=ByteArray.mk #[0,1,2,2,3,3,3,3,4,4,4,4,4,4,4,4,5,5,5,5,5,5,5,5,5,5,5,5,5,5,5,5,6,6,6,6,6,6,6,6,6,6,6,6,6,6,6,6,6,6,6,6,6,6,6,6,6,6,6,6,6,6,6,6,7,7,7,7,7,7,7,7,7,7,7,7,7,7,7,7,7,7,7,7,7,7,7,7,7,7,7,7,7,7,7,7,7,7,7,7,7,7,7,7,7,7,7,7,7,7,7,7,7,7,7,7,7,7,7,7,7,7,7,7,7,7,7,7,8,8,8,8,8,8,8,8,8,8,8,8,8,8,8,8,8,8,8,8,8,8,8,8,8,8,8,8,8,8,8,8,8,8,8,8,8,8,8,8,8,8,8,8,8,8,8,8,8,8,8,8,8,8,8,8,8,8,8,8,8,8,8,8,8,8,8,8,8,8,8,8,8,8,8,8,8,8,8,8,8,8,8,8,8,8,8,8,8,8,8,8,8,8,8,8,8,8,8,8,8,8,8,8,8,8,8,8,8,8,8,8,8,8,8,8,8,8,8,8,8,8,8,8,8,8,8,8]
namespace Go.Sx
open Go
abbrev Hp:=List (Nat×Obj)
structure Gh where
 w:World
 fr:Hp
def Gh.add(g:Gh)(F:Hp):Gh:=⟨g.w,F++g.fr⟩
structure Own(g:Gh)(H:Hp)(w:World):Prop where
 os:w.os=g.w.os
 out:w.output=g.w.output
 tape:w.tape=g.w.tape
 nd:((H++g.fr).map Prod.fst).Nodup
 z4:∀x,x∈H++g.fr->w.heap[x.1]? =some x.2
theorem Own.has{g:Gh}{H:Hp}{w:World}(h:Own g H w)(x:Nat×Obj)(hx:x∈H):w.heap[x.1]? =some x.2:=h.z4 x (xad _ hx)
theorem Own.perm{g:Gh}{H H':Hp}{w:World}(h:Own g H w)(p:H.Perm H'):Own g H' w:=
 ⟨h.os,h.out,h.tape,((p.append_right _).map _).nodup_iff.1 h.nd,λx hx=>h.z4 x ((p.append_right _).mem_iff.2 hx)⟩
theorem Own.right{g:Gh}{A B:Hp}{w:World}(h:Own g (A++B) w):Own g B w:=
 ⟨h.os,h.out,h.tape,by have:=h.nd;rw[xai,xaB]at this;exact(xa9.1 this).2.1,λx hx=>h.z4 x (by rw[xai];exact xaa _ hx)⟩
theorem Own.left{g:Gh}{A B:Hp}{w:World}(h:Own g (A++B) w):Own g A w:=Own.right (A:=B) (h.perm xa0)
theorem Own.tail{g:Gh}{x:Nat×Obj}{B:Hp}{w:World}(h:Own g (x::B) w):Own g B w:=Own.right (A:=[x]) h
theorem Own.eF{g:Gh}{A F:Hp}{w:World}:Own g (A++F) w↔Own (g.add F) A w:=by
 constructor
 ·intro h;exact⟨h.os,h.out,h.tape,by have:=h.nd;rw[xai]at this;exact this,λx hx=>h.z4 x (by rw[xai];exact hx)⟩
 intro h;exact⟨h.os,h.out,h.tape,by have:=h.nd;rw[xai];exact this,λx hx=>h.z4 x (by rw[xai]at hx;exact hx)⟩
def aF(H H':Hp):Prop:=∀g w,Own g H w->Own g H' w
theorem aF.refl(H:Hp):aF H H:=λ_ _ h=>h
theorem aF.trans{A B C:Hp}(h:aF A B)(h':aF B C):aF A C:=λg w x=>h' g w (h g w x)
theorem aF.perm{A B:Hp}(p:A.Perm B):aF A B:=λ_ _ h=>h.perm p
theorem aF.right{A B:Hp}:aF (A++B) B:=λ_ _ h=>h.right
theorem aF.left{A B:Hp}:aF (A++B) A:=λ_ _ h=>h.left
theorem aF.tail{x:Nat×Obj}{B:Hp}:aF (x::B) B:=λ_ _ h=>h.tail
theorem aF.frame{A B:Hp}(h:aF A B)(F:Hp):aF (A++F) (B++F):=λ_ _ o=>Own.eF.2 (h _ _ (Own.eF.1 o))
theorem aF.cL{A B:Hp}(h:aF A B)(F:Hp):aF (F++A) (F++B):=(aF.perm xa0).trans ((h.frame F).trans (.perm xa0))
inductive cu(b:Nat)(o o':Obj):Hp->Hp->Prop
 |head (R:Hp):cu b o o' ((b,o)::R) ((b,o')::R)
 |tail {x:Nat×Obj} {R R':Hp} (h:cu b o o' R R'):cu b o o' (x::R) (x::R')
theorem cu.mem{b:Nat}{o o':Obj}{H H':Hp}(h:cu b o o' H H'):(b,o)∈H:=by
 induction h with
 |head R=>simp
 |tail _ ih=>simp[ih]
theorem cu.keys{b:Nat}{o o':Obj}{H H':Hp}(h:cu b o o' H H'):H'.map Prod.fst=H.map Prod.fst:=by
 induction h with
 |head R=>simp
 |tail _ ih=>simp[ih]
theorem cu.Kv{b:Nat}{o o':Obj}{H H':Hp}(h:cu b o o' H H')(nd:(H.map Prod.fst).Nodup):∀x∈H',x=(b,o')\/(x∈H/\x.1≠b):=by
 induction h with
 |head R=>
  intro x hx;rcases xag.1 hx with rfl|hx
  ·exact .inl rfl
  refine .inr ⟨by simp[hx],λe=>?_⟩;simp only[xaM,xaW]at nd;exact nd.1 (e▸xbd hx)
 | @tail y R R' h ih=>
  intro x hx;simp only[xaM,xaW]at nd;rcases xag.1 hx with rfl|hx
  ·refine .inr ⟨by simp,λe=>?_⟩;exact nd.1 (e▸xbd (f:=Prod.fst) h.mem)
  rcases ih nd.2 x hx with h1|h1
  ·exact .inl h1
  exact .inr ⟨by simp[h1.1],h1.2⟩
theorem cu.append{b:Nat}{o o':Obj}{C C':Hp}(h:cu b o o' C C')(B:Hp):cu b o o' (C++B) (C'++B):=by
 induction h with
 |head R=>exact .head _
 |tail _ ih=>exact .tail ih
theorem Own.bT{g:Gh}{H H':Hp}{w w':World}{b:Nat}{o o':Obj}(h:Own g H w)(u:cu b o o' H H')
 (hos:w'.os=w.os)(hout:w'.output=w.output)(PU:w'.tape=w.tape)
 (hb:w'.heap[b]? =some o')(hr:∀c,c≠b->w'.heap[c]? =w.heap[c]?):Own g H' w':=
 ⟨hos.trans h.os,hout.trans h.out,PU.trans h.tape,by rw[(u.append g.fr).keys];exact h.nd,λx hx=>by
  rcases(u.append g.fr).Kv h.nd x hx with rfl|⟨h1,h2⟩
  ·exact hb
  rw[hr _ h2];exact h.z4 x h1⟩
theorem Own.same{g:Gh}{H:Hp}{w w':World}(h:Own g H w)(hos:w'.os=w.os)(hout:w'.output=w.output)(PU:w'.tape=w.tape)
 (hr:∀(c:Nat) (o:Obj),w.heap[c]? =some o->w'.heap[c]? =some o):Own g H w':=
 ⟨hos.trans h.os,hout.trans h.out,PU.trans h.tape,h.nd,λx hx=>hr _ _ (h.z4 x hx)⟩
theorem Own.drew{g:Gh}{H:Hp}{w:World}(h:Own g H w):Own g H w.drew:=h.same rfl rfl rfl λ_ _ h=>h
theorem Own.yo{g:Gh}{H:Hp}{w:World}(h:Own g H w):Own g H {w with drawn:=w.drawn+1}:=h.drew
theorem Own.lt0{g:Gh}{H:Hp}{w:World}(h:Own g H w){x:Nat×Obj}(hx:x∈H++g.fr):x.1<w.heap.size:=by
 have:=h.z4 x hx;exact(xaR.1 this).1
theorem Own.lt{g:Gh}{H:Hp}{w:World}(h:Own g H w){x:Nat×Obj}(hx:x∈H):x.1<w.heap.size:=h.lt0 (xad _ hx)
theorem Own.QS{g:Gh}{H:Hp}{w:World}(h:Own g H w):w.heap.size∉(H++g.fr).map Prod.fst:=by
 intro hm;obtain⟨x,hx,e⟩:=xam.1 hm;have:=h.lt0 hx;omega
theorem Own.fresh{g:Gh}{H:Hp}{w:World}(h:Own g H w):w.heap.size∉H.map Prod.fst:=λhm=>h.QS (by rw[xaB];exact xad _ hm)
theorem Own.alloc{g:Gh}{H:Hp}{w:World}(h:Own g H w)(o:Obj):Own g ((w.heap.size,o)::H) (w.alloc o):=by
 refine⟨h.os,h.out,h.tape,?_,?_⟩
 ·rw[xaS,xaM,xaW];exact⟨h.QS,h.nd⟩
 intro x hx;rw[xaS]at hx;rcases xag.1 hx with rfl|hx
 ·show(w.heap.push o)[w.heap.size]? =some o;rw[xdE,xae rfl]
 have:=h.z4 x hx;have hl:=h.lt0 hx;show(w.heap.push o)[x.1]? =some x.2;rw[xdE,xac zO];exact this
theorem Own.cell{g:Gh}{H:Hp}{w:World}(h:Own g H w){b:Nat}{c:Array zV}{T:TypeId}{fz:Nat×Nat}(hm:(b,Obj.cells c T fz)∈H)(off:Nat):
  w.cell? ⟨b,off,none⟩=c[off]? :=by
 have:=h.has _ hm;simp only[World.cell?];simp only at this;rw[this];rfl
theorem Own.frozen{g:Gh}{H:Hp}{w:World}(h:Own g H w){b:Nat}{c:Array zV}{T:TypeId}(hm:(b,Obj.cells c T zZ)∈H)(off:Nat)(sp:Option Nat):
  w.frozen? ⟨b,off,sp⟩=false:=by
 have:=h.has _ hm;simp only at this;simp[World.frozen?,this]
theorem Own.shape{g:Gh}{H:Hp}{w:World}(h:Own g H w){b:Nat}{c:Array zV}{T:TypeId}{fz:Nat×Nat}(hm:(b,Obj.cells c T fz)∈H):
  w.shape? b=some (T,c.size):=by
 have:=h.has _ hm;simp only at this;simp[World.shape?,this]
def over(c:Array zV)(off:Nat):List zV->Array zV
 | []=>c
 |v::r=>over (c.setIfInBounds off v) (off+1) r
theorem Own.setCell{g:Gh}{H:Hp}{w:World}(h:Own g H w){b:Nat}{c:Array zV}{T:TypeId}{fz:Nat×Nat}{H':Hp}(off:Nat)(v:zV)
 (u:cu b (.cells c T fz) (.cells (c.setIfInBounds off v) T fz) H H'):Own g H' (w.setCell ⟨b,off,none⟩ v):=by
 refine h.bT u rfl rfl rfl ?_ ?_
 ·have:=h.has _ u.mem;simp only at this;simp[World.setCell,xbf,this]
 intro d hd;simp only[World.setCell];rw[xbf,xac (λe=>hd (Eq.symm e))]
theorem cu.re{b:Nat}{o o':Obj}{H H':Hp}(u:cu b o o' H H')(o₁:Obj):∃H₁,cu b o o₁ H H₁/\cu b o₁ o' H₁ H':=by
 induction u with
 |head R=>exact⟨_,.head R,.head R⟩
 |tail _ ih=>obtain⟨H₁,u1,u2⟩:=ih;exact⟨_,.tail u1,.tail u2⟩
theorem fD{P:Program}{g:Gh}{b:Nat}{T:TypeId}(off:Nat):∀(l:List zV) (i:Nat) (c:Array zV) (H H':Hp) (w:World),Own g H w->
  cu b (.cells c T zZ) (.cells (over c (off+i) l) T zZ) H H'->(∀v∈l,v.oneCell'=true)->off+i+l.length<=c.size->
  ∃w',(storeCells ⟨b,off,none⟩ l i).run P w=.ok () w'/\Own g H' w'
 | [],i,c,H,H',w,h,u,_,_=>by
  refine⟨w,rfl,?_⟩;exact h.bT u rfl rfl rfl (h.has _ u.mem) λ_ _=>rfl
 |v::r,i,c,H,H',w,h,u,h1,hs=>by
  obtain⟨H₁,u1,u2⟩:=u.re (.cells (c.setIfInBounds (off+i) v) T zZ);have ie:=h.setCell (off+i) v u1;simp only[xak]at hs;obtain⟨w',hr,ho⟩:=fD (P:=P) off r (i+1) (c.setIfInBounds (off+i) v) H₁ H' _ ie (by simpa[over,xdB]using u2) (λx hx=>h1 x (by simp[hx])) zP;refine⟨w',?_,ho⟩;have hc:w.cell? ⟨b,off+i,none⟩=some c[off+i]:=by
   rw[h.cell u.mem,xbE]
  have hf:=h.frozen u.mem (off+i) none;have ha:Addr.add ⟨b,off,none⟩ i=⟨b,off+i,none⟩:=Addr.add_lit _ _ _;simp only[storeCells,Sem.run_bind,ha,run_store P w _ v .plain (h1 v zI),hc,hf,xaD,xaT,Result.andThen_ok,hr]
theorem jH{P:Program}{g:Gh}{H:Hp}{w:World}(h:Own g H w){b:Nat}{c:Array zV}{T:TypeId}{fz:Nat×Nat}(hm:(b,Obj.cells c T fz)∈H)
 (off n:Nat)(hs:off+n<=c.size):(loadCells ⟨b,off,none⟩ n).run P w=.ok (c.extract off (off+n)) w:=by
 have hl:((c.extract off (off+n)).toList).length=n:=by simp;omega
 have:=run_loadCells_list (P:=P) w ⟨b,off,none⟩ (c.extract off (off+n)).toList (λj v hj=>by
  rw[Addr.add_lit,h.cell hm];have Sz:j<n:=by
   have:=(xah.1 hj).1;omega
  rw[xbm,Array.getElem?_extract]at hj;rw[xae zO]at hj;exact hj)
 rw[hl]at this;exact this
end Go.Sx
namespace Go.Sx
open Go
abbrev Fr:=Nat->zV
def bT(fr:Fr)(d:Option Nat)(v:zV):Fr:=
 match d with
 |none=>fr
 |some d=>λs=>cond (Nat.beq s d) v (fr s)
def ev(fr:Fr):Operand->zV
 | .tmp t=>fr t
 | .const v=>v
 | .global g=>.pointer (some ⟨g,0,none⟩)
 | .func f=>.func (.func f) #[] #[]
def dF(n:Nat):Option Nat->Bool
 |none=>true
 |some d=>Nat.blt d n
structure bS(ds:List Deferred)(n:Nat)(a:Act)(fr:Fr):Prop where
 defers:a.defers=ds
 size:a.tmps.size=n
 get:∀s,a.tmps.getD s undef=fr s
theorem bS.eval{ds:List Deferred}{n:Nat}{a:Act}{fr:Fr}(h:bS ds n a fr):a.eval=ev fr:=by
 funext x
 cases x<;>simp only[Act.eval,ev];exact h.get _
theorem bS.put{ds:List Deferred}{n:Nat}{a:Act}{fr:Fr}(h:bS ds n a fr){d:Option Nat}(hd:dF n d=true)(v:zV):bS ds n (a.put d v) (bT fr d v):=by
 cases d with
 |none=>exact h
 |some d=>
  have hlt:d<n:=by simpa[dF,Nat.blt_eq]using hd
  refine⟨h.defers,by simp[Act.put,h.size],λs=>?_⟩;simp only[Act.put,bT];have hs:=h.size;by_cases e:s=d
  ·subst e;simp[hs,hlt]
  have e':d≠s:=λx=>e x.symm;have hb:Nat.beq s d=false:=by
   cases hh:Nat.beq s d
   ·rfl
   exact absurd (xaI hh) e
  rw[hb];simp only[xaj];have:=h.get s;simpa[xav,xbw e']using this
def aY(P:Program)(g:Gh)(f:FuncId)(args:Array zV)(H:Hp)(R:Ending->Hp->Prop):Prop:=
 ∀w,Own g H w->Calls P f args w λe w'=>∃H',Own g H' w'/\R e H'
theorem aY.mono{P:Program}{g:Gh}{f:FuncId}{args:Array zV}{H:Hp}{R R':Ending->Hp->Prop}(h:aY P g f args H R)(hr:∀e H',R e H'->R' e H'):
  aY P g f args H R':=λw hw=>(h w hw).mono λe w' ⟨H',o,r⟩=>⟨H',o,hr _ _ r⟩
theorem aY.pre{P:Program}{g:Gh}{f:FuncId}{args:Array zV}{H H':Hp}{R:Ending->Hp->Prop}(h:aY P g f args H' R)(he:aF H H'):
  aY P g f args H R:=λw hw=>h w (he _ _ hw)
theorem aY.post{P:Program}{g:Gh}{f:FuncId}{args:Array zV}{H:Hp}{R R':Ending->Hp->Prop}(h:aY P g f args H R)
 (hr:∀e H',R e H'->∃gY,aF H' gY/\R' e gY):aY P g f args H R':=λw hw=>(h w hw).mono λe w' ⟨H',o,r⟩=>
 let ⟨gY,en,r'⟩:=hr _ _ r;⟨gY,en _ _ o,r'⟩
def acw(K:zV->Hp->Prop)(KP:List PanicEntry->Hp->Prop):Ending->Hp->Prop
 | .returned v,H=>K v H
 | .panicked ch,H=>KP ch H
 | .outgrown,_=>False
def ny(P:Program)(g:Gh)(K:zV->Hp->Prop)(KP:List PanicEntry->Hp->Prop):Result Next->Prop
 | .ok (.value v) w=>∃H,Own g H w/\K v H
 | .ok .skip w=>∃H,Own g H w/\K undef H
 | .ok (.enter f args) w=>Calls P f args w λe w'=>∃H,Own g H w'/\acw K KP e H
 | .halt (.panic v) w=>∃H,Own g H w/\KP [{v,recovered:=false}] H
 |_=>False
def cU(P:Program)(g:Gh)(o:Oper)(ρ:Operand->zV)(H:Hp)(K:zV->Hp->Prop)(KP:List PanicEntry->Hp->Prop):Prop:=
 ∀w,Own g H w->ny P g K KP ((execOp ρ o).run P w)
def Fb(H:Hp)(o:Obj)(k:Nat->Hp->Prop):Prop:=∀b,b∉H.map Prod.fst->k b ((b,o)::H)
def aI(c a b:zV)(k:zV->Prop):Prop:=∃t,c=.bool t/\k (cond t a b)
def Ld(H:Hp)(p:zV)(k:zV->Prop):Prop:=
 ∃b off c T fz v,p=.pointer (some ⟨b,off,none⟩)/\(b,Obj.cells c T fz)∈H/\c[off]? =some v/\k v
def ax(n:Nat)(H:Hp)(p:zV)(k:zV->Prop):Prop:=
 ∃b off c T fz,p=.pointer (some ⟨b,off,none⟩)/\(b,Obj.cells c T fz)∈H/\off+n<=c.size/\k (.agg (c.extract off (off+n)))
def St(n:Nat)(H:Hp)(p x:zV)(k:Hp->Prop):Prop:=
 ∃b off c T H',p=.pointer (some ⟨b,off,none⟩)/\x.cells.size=n/\off+n<=c.size/\(∀v∈x.cells.toList,v.oneCell'=true)/\
  cu b (.cells c T zZ) (.cells (over c off x.cells.toList) T zZ) H H'/\k H'
inductive BK|num|bool|ptr|slice|map|func|str|other
def Ao:TypeDesc->BK
 | .bool=>.bool
 | .int _=>.num
 | .pointer _=>.ptr
 | .slice _=>.slice
 | .map _ _=>.map
 | .func _ _ _=>.func
 | .string=>.str
 |_=>.other
def kz(op:BinOp)(k:IntKind)(a b:Int):Option zV:=
 match op with
 | .add=>some (.int k (k.wrap (a+b)))
 | .sub=>some (.int k (k.wrap (a-b)))
 | .mul=>some (.int k (k.wrap (a*b)))
 | .quo=>if b=0 then none else some (.int k (k.wrap (a.tdiv b)))
 | .rem=>if b=0 then none else some (.int k (a.tmod b))
 | .and=>some (.int k (bits .and k a b))
 | .or=>some (.int k (bits .or k a b))
 | .xor=>some (.int k (bits .xor k a b))
 | .andNot=>some (.int k (bits .andNot k a b))
 | .eql=>some (.bool (a==b))
 | .neq=>some (.bool (a !=b))
 | .lss=>some (.bool (decide (a<b)))
 | .leq=>some (.bool (decide (a<=b)))
 | .gtr=>some (.bool (decide (b<a)))
 | .geq=>some (.bool (decide (b<=a)))
 |_=>none
def eX(kd:BK)(op:BinOp)(x y:zV):Option zV:=
 match x with
 | .int k a=>
  match y with
  | .int k' b=>
   match op with
   | .shl=>if b<0 then none else some (.int k (k.wrap (a*2^(min b.toNat k.bits))))
   | .shr=>if b<0 then none else some (.int k (a.fdiv (2^(min b.toNat k.bits))))
   |op=>if k=k' then kz op k a b else none
  |_=>none
 | .bool a=>
  match kd,op,y with
  | .bool,.eql,.bool b=>some (.bool (a==b))
  | .bool,.neq,.bool b=>some (.bool (!(a==b)))
  |_,_,_=>none
 | .string a=>
  match op,y with
  | .eql,.string b=>some (.bool (a.toList==b.toList))
  | .neq,.string b=>some (.bool (!(a.toList==b.toList)))
  | .add,.string b=>if a.size+b.size<=9223372036854775807 then some (.string (a++b))else none
  |_,_=>none
 | .pointer a=>
  match kd,op,y with
  | .ptr,.eql,.pointer b=>if a.isNone\/b.isNone then some (.bool (a.isNone&&b.isNone))else none
  | .ptr,.neq,.pointer b=>if a.isNone\/b.isNone then some (.bool (!(a.isNone&&b.isNone)))else none
  |_,_,_=>none
 | .slice a n c=>
  match kd,op,y with
  | .slice,.eql,.slice b _ _=>if a.isNone\/b.isNone then some (.bool (a.isNone&&b.isNone))else none
  | .slice,.neq,.slice b _ _=>if a.isNone\/b.isNone then some (.bool (!(a.isNone&&b.isNone)))else none
  |_,_,_=>none
 | .map a=>
  match kd,op,y with
  | .map,.eql,.map b=>if a.isNone\/b.isNone then some (.bool (a.isNone&&b.isNone))else none
  | .map,.neq,.map b=>if a.isNone\/b.isNone then some (.bool (!(a.isNone&&b.isNone)))else none
  |_,_,_=>none
 |_=>none
def ae(kd:BK)(op:BinOp)(x y:zV)(k:zV->Prop):Prop:=∃v,eX kd op x y=some v/\k v
def unV(op:UnOp)(x:zV):Option zV:=
 match op,x with
 | .neg,.int k n=>some (.int k (k.wrap (0-n)))
 | .not,.bool b=>some (.bool !b)
 | .xor,.int k n=>some (.int k (bits .xor k (if k.signed then-1 else k.max) n))
 |_,_=>none
def Un(op:UnOp)(x:zV)(k:zV->Prop):Prop:=∃v,unV op x=some v/\k v
def aH(kd:IntKind)(x:zV)(k:zV->Prop):Prop:=∃j n,x=.int j n/\k (.int kd (kd.wrap n))
def af(off:Nat)(x:zV)(k:zV->Prop):Prop:=∃b o,x=.pointer (some ⟨b,o,none⟩)/\k (.pointer (some ⟨b,o+off,none⟩))
def wx(off:Nat)(x:zV)(k:zV->Prop):Prop:=∃cs v,x=.agg cs/\cs[off]? =some v/\k v
def Vx(off n:Nat)(x:zV)(k:zV->Prop):Prop:=∃cs,x=.agg cs/\k (.agg (cs.extract off (off+n)))
def ah(size:Nat)(x ix:zV)(k:zV->Prop):Prop:=
 ∃b o n c kd i,x=.slice (some ⟨b,o,none⟩) n c/\ix=.int kd i/\0<=i/\i<(n:Int)/\k (.pointer (some ⟨b,o+i.toNat*size,none⟩))
def fo(len size:Nat)(x ix:zV)(k:zV->Prop):Prop:=
 ∃b o kd i,x=.pointer (some ⟨b,o,none⟩)/\ix=.int kd i/\0<=i/\i<(len:Int)/\k (.pointer (some ⟨b,o+i.toNat*size,none⟩))
def T3:Option zV->Option Int
 |none=>some 0
 |some (.int _ n)=>some n
 |_=>none
def K6(len:Nat):Option zV->Option Int
 |none=>some len
 |some (.int _ n)=>some n
 |_=>none
def cP(size:Nat)(x:zV)(lo hi:Option zV)(k:zV->Prop):Prop:=
 ∃a n c l h,x=.slice a n c/\T3 lo=some l/\K6 n hi=some h/\0<=l/\l<=h/\h<=(c:Int)/\
  k (.slice (if c=l.toNat then a else a.map (·.add (l.toNat*size))) (h.toNat-l.toNat) (c-l.toNat))
def Ext(i:Nat)(x:zV)(k:zV->Prop):Prop:=∃vs v,x=.tuple vs/\vs[i]? =some v/\k v
def aE(x:zV)(k:zV->Prop):Prop:=∃a n c,x=.slice a n c/\k (.int .i64 n)
def Au(H:Hp)(x:zV)(k:zV->Prop):Prop:=
 ∃m,x=.map m/\((m=none/\k (.int .i64 0))\/∃b es clock,m=some b/\(b,Obj.map es clock)∈H/\k (.int .i64 es.size))
def Cells(H:Hp)(base:Option Addr)(n:Nat)(cs:Array zV):Prop:=
 match base with
 |none=>cs=#[]
 |some a=>(n=0/\cs=#[])\/(a.spot=none/\∃c T fz,(a.block,Obj.cells c T fz)∈H/\a.off+n<=c.size/\cs=c.extract a.off (a.off+n))
def App(P:Program)(elem size bytes:Nat)(zero:zV)(H:Hp)(s x:zV)(k:zV->Hp->Prop):Prop:=
 ∃base n cap xb m xc olds news,s=.slice base n cap/\x=.slice xb m xc/\Cells H base (n*size) olds/\Cells H xb (m*size) news/\
  news.size=m*size/\olds.size=n*size/\(∀v∈news.toList,v.oneCell'=true)/\
  (n+m<=cap->match base with
   |none=>k (.slice none (n+m) cap) H
   |some a=>∃c T H',a.spot=none/\a.off+n*size+m*size<=c.size/\cu a.block (.cells c T zZ) (.cells (over c (a.off+n*size) news.toList) T zZ) H H'/\k (.slice (some a) (n+m) cap) H')/\
  (cap<n+m->(n+m)*bytes<=140737488355328/\(n+m:Nat)<=9223372036854775807/\∀fE,n+m<=fE->
   Fb H (.cells (olds++news++Builtin.zeroCells zero.cells (fE-(n+m))) elem zZ) λb H'=>∃gY,aF H' gY/\k (.slice (some ⟨b,0,none⟩) (n+m) fE) gY)
def df(elem size bytes:Nat)(zero:zV)(H:Hp)(l c:zV)(k:zV->Hp->Prop):Prop:=
 ∃kl kc ln cn,l=.int kl (ln:Nat)/\c=.int kc (cn:Nat)/\ln<=cn/\(cn:Int)<=9223372036854775807/\cn*bytes<=281474976710656/\
  Fb H (.cells (madeCells zero.cells (cn*size)) elem zZ) λb H'=>k (.slice (some ⟨b,0,none⟩) ln cn) H'
def kH(H:Hp)(k:zV->Hp->Prop):Prop:=Fb H (.map #[] 0) λb H'=>k (.map (some b)) H'
def Js(H:Hp)(m:zV)(es:Array MapEntry):Prop:=(m=.map none/\es=#[])\/∃b clock,m=.map (some b)/\(b,Obj.map es clock)∈H
def jE(kd:TypeDesc)(zero:zV)(ok:Bool)(H:Hp)(m key:zV)(k:zV->Prop):Prop:=
 ∃es r,Js H m es/\Instr.findNow kd key es.toList 0=some r/\
  k (match r with
   |some (_,v)=>cond ok (.tuple #[v,.bool true]) v
   |none=>cond ok (.tuple #[zero,.bool false]) zero)
def dJ(kd:TypeDesc)(H:Hp)(m key val:zV)(k:Hp->Prop):Prop:=
 ∃b es clock r,m=.map (some b)/\Instr.findNow kd key es.toList 0=some r/\
  match r with
  |some (i,_)=>(∀e,es[i]? =some e->Instr.sameBits 10000 e.key key=true)/\i<es.size/\∃H',cu b (.map es clock) (.map (es.modify i λe=>{e with key,val}) clock) H H'/\k H'
  |none=>∃H',cu b (.map es clock) (.map (es.push {key,val,born:=clock}) (clock+1)) H H'/\k H'
def vR(kd:TypeDesc)(H:Hp)(m key:zV)(k:Hp->Prop):Prop:=
 (m=.map none/\k H)\/∃b es clock r,m=.map (some b)/\Instr.findNow kd key es.toList 0=some r/\
  match r with
  |some (i,_)=>∃H',cu b (.map es clock) (.map (es.eraseIdxIfInBounds i) clock) H H'/\k H'
  |none=>(b,Obj.map es clock)∈H/\k H
def bR(P:Program)(f:FuncId):Bool:=
 match P.funcs[f]? with
 |none=>false
 |some fn=> !(fn.name== "runtime.NumGoroutine") &&fn.body.isSome
def aa(P:Program)(g:Gh)(f:FuncId)(args:Array zV)(H:Hp)(K:zV->Hp->Prop)(KP:List PanicEntry->Hp->Prop):Prop:=
 aY P g f args H (acw K KP)
def bK(P:Program)(g:Gh)(fv:zV)(args:Array zV)(H:Hp)(K:zV->Hp->Prop)(KP:List PanicEntry->Hp->Prop):Prop:=
 ∃f first captured,fv=.func (.func f) first captured/\bR P f=true/\aa P g f (first++args++captured) H K KP
def Dc(P:Program)(kt:TypeId)(x y:zV)(b:Bool):Prop:=∀w,(Op.equal kt x y).run P w=.ok b w
def mj(P:Program)(kt:TypeId)(x:zV):Prop:=∀e w,(Instr.checkKey e 10000 kt x).run P w=.ok () w
def l6(P:Program)(kt:TypeId)(key:zV):List MapEntry->Nat->Option (Nat×zV)->Prop
 | [],_,r=>r=none
 |e::es,i,r=>∃b,Dc P kt key e.key b/\(b=true->r=some (i,e.val))/\(b=false->l6 P kt key es (i+1) r)
def jN(P:Program)(kt:TypeId)(zero:zV)(ok:Bool)(H:Hp)(m key:zV)(k:zV->Prop):Prop:=
 ∃es r,Js H m es/\mj P kt key/\l6 P kt key es.toList 0 r/\
  k (match r with
   |some (_,v)=>cond ok (.tuple #[v,.bool true]) v
   |none=>cond ok (.tuple #[zero,.bool false]) zero)
def jM(P:Program)(kt:TypeId)(H:Hp)(m key val:zV)(k:Hp->Prop):Prop:=
 ∃b es clock r,m=.map (some b)/\mj P kt key/\l6 P kt key es.toList 0 r/\
  match r with
  |some (i,_)=>(∀e,es[i]? =some e->Instr.sameBits 10000 e.key key=true)/\i<es.size/\∃H',cu b (.map es clock) (.map (es.modify i λe=>{e with key,val}) clock) H H'/\k H'
  |none=>∃H',cu b (.map es clock) (.map (es.push {key,val,born:=clock}) (clock+1)) H H'/\k H'
def qI(P:Program)(kt:TypeId)(H:Hp)(m key:zV)(k:Hp->Prop):Prop:=
 mj P kt key/\((m=.map none/\k H)\/∃b es clock r,m=.map (some b)/\l6 P kt key es.toList 0 r/\
  match r with
  |some (i,_)=>∃H',cu b (.map es clock) (.map (es.eraseIdxIfInBounds i) clock) H H'/\k H'
  |none=>(b,Obj.map es clock)∈H/\k H)
def Rng(H:Hp)(x:zV)(k:zV->Hp->Prop):Prop:=
 (x=.map none/\Fb H (.mapIter none 0 #[] 0) λb H'=>k (.pointer (some ⟨b,0,none⟩)) H')\/
 ∃m es clock,x=.map (some m)/\(m,Obj.map es clock)∈H/\Fb H (.mapIter (some m) clock #[] clock) λb H'=>k (.pointer (some ⟨b,0,none⟩)) H'
def ZH(H:Hp)(it:zV)(k:zV->Hp->Prop):Prop:=
 ∃b mo since seen last,it=.pointer (some ⟨b,0,none⟩)/\(b,Obj.mapIter mo since seen last)∈H/\
  match mo with
  |none=>k (.tuple #[.bool false]) H
  |some m=>∃es clock,(m,Obj.map es clock)∈H/\(∀e∈es.toList,e.born<since/\e.born<last)/\
   (∀e∈es.toList,e.born∉seen->∃H',cu b (.mapIter (some m) since seen last) (.mapIter (some m) since (seen.push e.born) clock) H H'/\k (.tuple #[.bool true,e.key,e.val]) H')/\
   ((∀e∈es.toList,e.born∈seen)->k (.tuple #[.bool false]) H)
def Sk(H:Hp)(it:zV)(k:zV->Prop):Prop:=
 ∃b m since seen stamp clock es e,it=.pointer (some ⟨b,0,none⟩)/\(b,Obj.mapIter (some m) since seen clock)∈H/\seen.back?=some stamp/\(m,Obj.map es clock)∈H/\es.find? (·.born==stamp)=some e/\k (.tuple #[e.key,e.val])
def YI(x y:zV)(k:zV->Prop):Prop:=∃kd a b,x=.int kd a/\y=.int kd b/\k (.int kd (if b>a then b else a))
def LY(x y:zV)(k:zV->Prop):Prop:=∃kd a b,x=.int kd a/\y=.int kd b/\k (.int kd (if b<a then b else a))
def dK(H:Hp)(x:zV)(k:zV->Prop):Prop:=
 ∃base n c,∃bs:List UInt8,x=.slice base n c/\Cells H base n ((bs.map λb=>Value.int .u8 b.toNat).toArray)/\bs.length=n/\k (.string ⟨bs.toArray⟩)
def bP(x i:zV)(k:zV->Prop):Prop:=∃s kd j b,x=.string s/\i=.int kd j/\0<=j/\s[j.toNat]? =some b/\k (.int .u8 b.toNat)
def aN(x:zV)(k:zV->Prop):Prop:=∃s,x=.string s/\k (.int .i64 s.size)
def plainKey:TypeDesc->Bool
 | .int _| .string| .bool=>true
 |_=>false
def cH:TypeDesc->Bool
 | .struct _| .array _ _=>true
 |_=>false
end Go.Sx
namespace Go.Sx
open Go
section
variable {P:Program} {g:Gh} {H:Hp} {K:zV->Hp->Prop} {KP:List PanicEntry->Hp->Prop}
theorem dB{t:TypeId}{i:TypeInfo}{z:zV}(hi:P.info? t=some i)(hz:i.zero=some z)(w:World):(zeroValue t).run P w=.ok z w:=by
 simp[zeroValue,typeInfo,hi,hz]
theorem nB{t:TypeId}{d:TypeDesc}(hd:P.underlying t=some d)(w:World):(isAgg t).run P w=.ok (cH d) w:=by
 simp only[isAgg,Sem.run_bind,run_underlying hd,Result.andThen_ok];cases d<;>rfl
theorem run_sizeOf{t:TypeId}{i:TypeInfo}(hi:P.info? t=some i)(w:World):(sizeOf t).run P w=.ok i.size w:=by
 simp[sizeOf,typeInfo,hi]
theorem Ld.run{p:zV}{k:zV->Prop}(h:Ld H p k){w:World}(hw:Own g H w){t:TypeId}{d:TypeDesc}(hd:P.underlying t=some d)(ha:cH d=false):
  ∃v,(Instr.loadAt t p).run P w=.ok v w/\k v:=by
 obtain⟨b,off,c,T,fz,v,rfl,hm,hc,hk⟩:=h;refine⟨v,?_,hk⟩;have:=hw.cell hm off;rw[hc]at this;simp only[Instr.loadAt,Instr.sureAddr,loadVar,Sem.run_bind,Sem.run_pure,Result.andThen_ok,nB hd,ha,Sem.run_ite,xaD,xaT,run_load,this]
theorem ax.run{n:Nat}{p:zV}{k:zV->Prop}(h:ax n H p k){w:World}(hw:Own g H w){t:TypeId}{d:TypeDesc}(hd:P.underlying t=some d)(ha:cH d=true)
 {i:TypeInfo}(hi:P.info? t=some i)(hn:i.size=n):
  ∃v,(Instr.loadAt t p).run P w=.ok v w/\k v:=by
 obtain⟨b,off,c,T,fz,rfl,hm,hs,hk⟩:=h;refine⟨_,?_,hk⟩;simp only[Instr.loadAt,Instr.sureAddr,loadVar,Sem.run_bind,Sem.run_pure,Result.andThen_ok,nB hd,ha,Sem.run_ite,xa7,run_sizeOf hi,hn,jH hw hm off n hs]
theorem St.run{n:Nat}{p x:zV}{k:Hp->Prop}(h:St n H p x k){w:World}(hw:Own g H w){t:TypeId}{i:TypeInfo}(hi:P.info? t=some i)(hn:i.size=n):
  ∃w' H',(Instr.storeAt t p x).run P w=.ok () w'/\Own g H' w'/\k H':=by
 obtain⟨b,off,c,T,H',rfl,hx,hs,hv,hu,hk⟩:=h;obtain⟨w',hr,ho⟩:=fD (P:=P) off x.cells.toList 0 c H H' w hw (by simpa using hu) hv zP;refine⟨w',H',?_,ho,hk⟩;simp only[Instr.storeAt,Instr.sureAddr,storeVar,Sem.run_bind,Sem.run_pure,Result.andThen_ok,run_sizeOf hi,hn,hx,ne_eq,not_true,xaT,hr]
theorem PF{op:BinOp}{k:IntKind}{a b:Int}{v:zV}{t:TypeId}(h:kz op k a b=some v)(w:World)(hs:op≠.shl/\op≠.shr):
  (binOp op t (.int k a) (.int k b)).run P w=.ok v w:=by
 cases op<;>simp[kz]at h hs<;>try subst h
 case quo=> 
  obtain⟨h0,rfl⟩:=h;simp[binOp,Op.intDiv,h0]
 case rem=>
  obtain⟨h0,rfl⟩:=h;simp[binOp,Op.intDiv,h0]
 all_goals first
  |simp[binOp,Op.intArith];done
  |simp[binOp,Op.intCmp];done
  |(simp only[binOp_and,binOp_or,binOp_xor,binOp_andNot,intBits_and,intBits_or,intBits_xor,intBits_andNot];rfl)
theorem iD{t:TypeId}{x y:zV}{r:Result Bool}{w:World}(h:∀d,(Op.equalIn (d+1) t x y).run P w=r):(Op.equal t x y).run P w=r:=h 9999
theorem run_eql_bool{t:TypeId}(hd:P.underlying t=some .bool)(a b:Bool)(w:World):(Op.equal t (.bool a) (.bool b)).run P w=.ok (a==b) w:=
 iD λd=>by simp[Op.equalIn,run_underlying hd]
theorem A3{t e:TypeId}(hd:P.underlying t=some (.pointer e))(a b:Option Addr)(hab:a.isNone\/b.isNone)(w:World):(Op.equal t (.pointer a) (.pointer b)).run P w=.ok (a.isNone&&b.isNone) w:=
 iD λd=>by cases a<;>cases b<;>simp at hab<;>simp[Op.equalIn,run_underlying hd]
theorem wH{t e:TypeId}(hd:P.underlying t=some (.slice e))(a b:Option Addr)(n c n' c':Nat)(hab:a.isNone\/b.isNone)(w:World):(Op.equal t (.slice a n c) (.slice b n' c')).run P w=.ok (a.isNone&&b.isNone) w:=
 iD λd=>by cases a<;>cases b<;>simp at hab<;>simp[Op.equalIn,run_underlying hd]
theorem A4{t e f:TypeId}(hd:P.underlying t=some (.map e f))(a b:Option Nat)(hab:a.isNone\/b.isNone)(w:World):(Op.equal t (.map a) (.map b)).run P w=.ok (a.isNone&&b.isNone) w:=
 iD λd=>by cases a<;>cases b<;>simp at hab<;>simp[Op.equalIn,run_underlying hd]
theorem RL{kd:BK}{op:BinOp}{x y v:zV}{t:TypeId}{d:TypeDesc}(hd:P.underlying t=some d)(hk:Ao d=kd)(h:eX kd op x y=some v)(w:World):
  (binOp op t x y).run P w=.ok v w:=by
 cases x<;>simp only[eX]at h<;>try (simp at h;done)
 case int k a=>
  cases y<;>simp only at h<;>try (simp at h;done)
  rename_i k' b;by_cases hs:op=.shl
  ·subst hs;simp only at h;split at h
   ·simp at h
   simp only[xas]at h;subst h;rename_i hb;simp[binOp,Op.shift,hb]
  by_cases hs':op=.shr
  ·subst hs';simp only at h;split at h
   ·simp at h
   simp only[xas]at h;subst h;rename_i hb;simp[binOp,Op.shift,hb]
  have h2:(if k=k' then kz op k a b else none)=some v:=by
   cases op<;>first|exact h|exact absurd rfl hs|exact absurd rfl hs'
  split at h2
  ·rename_i e;subst e;exact PF h2 w ⟨hs,hs'⟩
  simp at h2
 case bool a=>
  split at h<;>simp only[xas,reduceCtorEq]at h;all_goals
   subst h;have:d=.bool:=by cases d<;>simp_all[Ao]
   subst this;simp[binOp,run_eql_bool hd]
 case string a=>
  split at h
  ·simp only[xas]at h;subst h;first|rfl|(simp only[binOp,Op.stringOp];rfl)
  ·simp only[xas]at h;subst h;first|rfl|(simp only[binOp,Op.stringOp];rfl)
  ·split at h<;>simp only[xas,reduceCtorEq]at h;subst h;rename_i b hb;have:¬(((a.size+b.size:Nat):Int)>IntKind.i64.max):=by
    have:IntKind.i64.max=9223372036854775807:=rfl;omega
   simp only[binOp,Op.stringOp,xac this];rfl
  simp at h
 case pointer a=>
  split at h<;>try (simp at h;done)
  all_goals
   have:∃e,d=.pointer e:=by cases d<;>simp_all[Ao]
   obtain⟨e,rfl⟩:=this;split at h<;>simp only[xas,reduceCtorEq]at h;subst h;rename_i bb hab;simp[binOp,A3 hd _ _ hab]
 case slice a n c=>
  split at h<;>try (simp at h;done)
  all_goals
   have:∃e,d=.slice e:=by cases d<;>simp_all[Ao]
   obtain⟨e,rfl⟩:=this;split at h<;>simp only[xas,reduceCtorEq]at h;subst h;rename_i bb _ _ hab;simp[binOp,wH hd _ _ _ _ _ _ hab]
 case map a=>
  split at h<;>try (simp at h;done)
  all_goals
   have:∃e f,d=.map e f:=by cases d<;>simp_all[Ao]
   obtain⟨e,f,rfl⟩:=this;split at h<;>simp only[xas,reduceCtorEq]at h;subst h;rename_i bb hab;simp[binOp,A4 hd _ _ hab]
theorem EY{kd:BK}{op:BinOp}{x y v:zV}{t:TypeId}{ox oy:Operand}(h:eX kd op x y=some v):eqGuard op t ox oy x y=pure ():=by
 cases x<;>simp[eX]at h<;>cases op<;>rfl
theorem ae.run{kd:BK}{op:BinOp}{x y:zV}{k:zV->Prop}(h:ae kd op x y k)(w:World){t:TypeId}{d:TypeDesc}{ox oy:Operand}(hd:P.underlying t=some d)(hk:Ao d=kd):
  ∃v,(do eqGuard op t ox oy x y;binOp op t x y:Sem zV).run P w=.ok v w/\k v:=by
 obtain⟨v,hv,hkv⟩:=h;refine⟨v,?_,hkv⟩;rw[Sem.run_bind,EY hv];simp only[Sem.run_pure,Result.andThen_ok];exact RL hd hk hv w
theorem Un.run{op:UnOp}{x:zV}{k:zV->Prop}(h:Un op x k)(w:World):∃v,(Op.unary op x).run P w=.ok v w/\k v:=by
 obtain⟨v,hv,hk⟩:=h;refine⟨v,?_,hk⟩;cases op<;>cases x<;>simp[unV]at hv<;>subst hv;all_goals first|(simp[Op.unary,Op.intArith];done)|rfl
theorem aH.run{kd:IntKind}{x:zV}{k:zV->Prop}(h:aH kd x k)(w:World){src dst:TypeId}{ds dd:TypeDesc}(hs:P.underlying src=some ds)(hd:P.underlying dst=some dd)(hk:dd=.int kd):
  ∃v,(convert src dst x).run P w=.ok v w/\k v:=by
 obtain⟨j,n,rfl,hkv⟩:=h;subst hk;refine⟨_,?_,hkv⟩;simp only[convert,Sem.run_bind,run_underlying hs,run_underlying hd,Result.andThen_ok];cases ds<;>rfl
theorem af.run{off:Nat}{x:zV}{k:zV->Prop}(h:af off x k)(w:World){s:TypeId}{fs:Array Field}{f:Nat}{fl:Field}{i:TypeInfo}(hs:P.underlying s=some (.struct fs))(hf:fs[f]? =some fl)
 (hi:P.info? fl.type=some i)(h0:i.size≠0)(ho:fl.offset=off):∃v,(Instr.fieldAt s x f).run P w=.ok v w/\k v:=by
 obtain⟨b,o,rfl,hk⟩:=h;refine⟨_,?_,hk⟩;subst ho;simp[Instr.fieldAt,run_underlying hs,hf,Instr.sureAddr,fieldPlace,run_sizeOf hi,h0,Addr.add_lit]
theorem wx.run{off:Nat}{x:zV}{k:zV->Prop}(h:wx off x k)(w:World){s:TypeId}{fs:Array Field}{f:Nat}{fl:Field}{d:TypeDesc}(hs:P.underlying s=some (.struct fs))(hf:fs[f]? =some fl)
 (hd:P.underlying fl.type=some d)(ha:cH d=false)(ho:fl.offset=off):∃v,(Instr.field s x f).run P w=.ok v w/\k v:=by
 obtain⟨cs,v,rfl,hc,hk⟩:=h;refine⟨v,?_,hk⟩;subst ho;simp[Instr.field,run_underlying hs,hf,asAgg,part,nB hd,ha,hc]
theorem Vx.run{off n:Nat}{x:zV}{k:zV->Prop}(h:Vx off n x k)(w:World){s:TypeId}{fs:Array Field}{f:Nat}{fl:Field}{d:TypeDesc}{i:TypeInfo}(hs:P.underlying s=some (.struct fs))(hf:fs[f]? =some fl)
 (hd:P.underlying fl.type=some d)(ha:cH d=true)(hi:P.info? fl.type=some i)(hn:i.size=n)(ho:fl.offset=off):∃v,(Instr.field s x f).run P w=.ok v w/\k v:=by
 obtain⟨cs,rfl,hk⟩:=h;refine⟨_,?_,hk⟩;subst ho;subst hn;simp[Instr.field,run_underlying hs,hf,asAgg,part,nB hd,ha,run_sizeOf hi]
theorem ah.run{size:Nat}{x ix:zV}{k:zV->Prop}(h:ah size x ix k)(w:World){t e:TypeId}{i:TypeInfo}(ht:P.underlying t=some (.slice e))(hi:P.info? e=some i)(hn:i.size=size):
  ∃v,(Instr.indexAt t x ix).run P w=.ok v w/\k v:=by
 obtain⟨b,o,n,c,kd,j,rfl,rfl,h0,h1,hk⟩:=h;refine⟨_,?_,hk⟩;subst hn;simp[Instr.indexAt,run_underlying ht,asIntOf,h0,h1,run_sizeOf hi,Addr.add_lit]
theorem fo.run{len size:Nat}{x ix:zV}{k:zV->Prop}(h:fo len size x ix k)(w:World){t e:TypeId}{i:TypeInfo}(ht:P.underlying t=some (.array len e))(hi:P.info? e=some i)(hn:i.size=size):
  ∃v,(Instr.indexAt t x ix).run P w=.ok v w/\k v:=by
 obtain⟨b,o,kd,j,rfl,rfl,h0,h1,hk⟩:=h;refine⟨_,?_,hk⟩;subst hn;simp[Instr.indexAt,run_underlying ht,asIntOf,h0,h1,run_sizeOf hi,Addr.add_lit,Instr.sureAddr]
theorem cP.run{size:Nat}{x:zV}{lo hi:Option zV}{k:zV->Prop}(h:cP size x lo hi k)(w:World){t e:TypeId}{i:TypeInfo}(ht:P.underlying t=some (.slice e))(hi':P.info? e=some i)(hn:i.size=size):
  ∃v,(Instr.sliceAt t x lo hi none).run P w=.ok v w/\k v:=by
 obtain⟨a,n,c,l,hh,rfl,hl,pD,h0,h1,h2,hk⟩:=h;refine⟨_,?_,hk⟩;subst hn;have bl:∀(kk:IntKind) (z:Int) (y:Nat) (cd:BoundsCode),0<=z->z<=y->(Instr.sliceBound (.int kk z) y cd).run P w=.ok z.toNat w:=by
  intro kk z y cd a1 a2;simp[Instr.sliceBound,asIntOf,a1,a2]
 have jS:∀(m l:Nat),(if m=l then a else a.map (·.add (l*i.size)))=(if m=l then a else a.map λx=>x.add (l*i.size)):=λ_ _=>rfl;have e1:l<=((hh.toNat:Nat):Int):=by omega
 cases lo with
 |none=>
  simp only[T3,xas]at hl;subst hl;cases hi with
  |none=>
   simp only[K6,xas]at pD;subst pD;simp[Instr.sliceAt,run_underlying ht,Instr.slice,Instr.sliceBounds,run_sizeOf hi']
  |some v=>
   cases v<;>simp only[K6,reduceCtorEq,xas]at pD;subst pD;simp[Instr.sliceAt,run_underlying ht,Instr.slice,Instr.sliceBounds,run_sizeOf hi',bl _ _ c .sliceAcap zO h2]
 |some vl=>
  cases vl<;>simp only[T3,reduceCtorEq,xas]at hl;subst hl;cases hi with
  |none=>
   simp only[K6,xas]at pD;subst pD;have:=bl ‹_› _ n .sliceB h0 h1;simp[Instr.sliceAt,run_underlying ht,Instr.slice,Instr.sliceBounds,run_sizeOf hi',this]
  |some v=>
   cases v<;>simp only[K6,reduceCtorEq,xas]at pD;subst pD;rename_i k1 n1 k2 n2;have b1:=bl k2 n2 c .sliceAcap zO h2;have b2:=bl k1 n1 n2.toNat .sliceB h0 zO;simp[Instr.sliceAt,run_underlying ht,Instr.slice,Instr.sliceBounds,run_sizeOf hi',b1,b2]
theorem Ext.run{i:Nat}{x:zV}{k:zV->Prop}(h:Ext i x k)(w:World):∃v,(Instr.extract x i).run P w=.ok v w/\k v:=by
 obtain⟨vs,v,rfl,hv,hk⟩:=h;exact⟨v,by simp[Instr.extract,hv],hk⟩
theorem aE.run{x:zV}{k:zV->Prop}(h:aE x k)(w:World){t e ty:TypeId}(ht:P.underlying t=some (.slice e)):∃v,(Builtin.len_ #[t] ty #[x]).run P w=.ok v w/\k v:=by
 obtain⟨a,n,c,rfl,hk⟩:=h;exact⟨_,by simp[Builtin.len_,run_underlying ht,goInt],hk⟩
theorem aW{w:World}(hw:Own g H w){b:Nat}{es:Array MapEntry}{clock:Nat}(hm:(b,Obj.map es clock)∈H):(getObj b).run P w=.ok (.map es clock) w:=by
 have:=hw.has _ hm;simp only at this;simp[getObj,Sem.run,this]
theorem Au.run{x:zV}{k:zV->Prop}(h:Au H x k){w:World}(hw:Own g H w){t e e' ty:TypeId}(ht:P.underlying t=some (.map e e')):∃v,(Builtin.len_ #[t] ty #[x]).run P w=.ok v w/\k v:=by
 obtain⟨m,rfl,⟨rfl,hk⟩|⟨b,es,clock,rfl,hm,hk⟩⟩:=h
 ·exact⟨_,by simp[Builtin.len_,run_underlying ht,goInt],hk⟩
 exact⟨_,by simp[Builtin.len_,run_underlying ht,goInt,aW hw hm],hk⟩
end
end Go.Sx
namespace Go.Sx
open Go
section
variable {P:Program} {g:Gh} {H:Hp} {K:zV->Hp->Prop} {KP:List PanicEntry->Hp->Prop}
theorem Cells.run{w:World}(hw:Own g H w){base:Option Addr}{size n cap:Nat}{cs:Array zV}(h:Cells H base (n*size) cs):
  (Builtin.firstCells size n (.slice base n cap)).run P w=.ok cs w:=by
 cases base with
 |none=>simp only[Cells]at h;subst h;simp[Builtin.firstCells]
 |some a=>
  rcases h with⟨hn,rfl⟩|⟨h0,c,T,fz,hm,hs,rfl⟩
  ·simp only[Builtin.firstCells,hn];rfl
  obtain⟨b,o,sp⟩:=a;simp only at h0 hm hs;subst h0;simp only[Builtin.firstCells,jH hw hm _ _ hs]
theorem App.run{elem size bytes:Nat}{zero:zV}{s x:zV}{k:zV->Hp->Prop}(h:App P elem size bytes zero H s x k){w:World}(hw:Own g H w){t t' ty:TypeId}{i:TypeInfo}
 (ht:P.underlying t=some (.slice elem))(ht':∃e,P.underlying t'=some (.slice e))(hi:P.info? elem=some i)(hz:i.zero=some zero)(hn:i.size=size)(hb:i.bytes=bytes):
  ∃v w' H',(Builtin.append_ #[t,t'] ty #[s,x]).run P w=.ok v w'/\Own g H' w'/\k v H':=by
 obtain⟨base,n,cap,xb,m,xc,olds,news,rfl,rfl,hco,hcn,hsn,hso,hone,hfit,hgrow⟩:=h;obtain⟨e',ht'⟩:=ht';subst hn;subst hb;by_cases hc:n+m<=cap
 ·have hk:=hfit hc;have hnew:=Cells.run (P:=P) (cap:=xc) hw hcn;cases base with
  |none=>
   refine⟨_,w,H,?_,hw,hk⟩;simp[Builtin.append_,run_underlying ht,run_underlying ht',run_sizeOf hi,Builtin.lenOf,hc,hnew]
  |some a=>
   obtain⟨c,T,H',h0,hs,hu,hk⟩:=hk;obtain⟨b,o,sp⟩:=a;simp only at h0 hu hs;subst h0;obtain⟨w',hr,ho⟩:=fD (P:=P) (o+n*i.size) news.toList 0 c H H' w hw (by simpa using hu) hone zP;refine⟨_,w',H',?_,ho,hk⟩;simp[Builtin.append_,run_underlying ht,run_underlying ht',run_sizeOf hi,Builtin.lenOf,hc,hnew,Addr.add_lit,hr]
 obtain⟨afd,h63,hk⟩:=hgrow zO;have ie:=hw.drew;have hnew:=Cells.run (P:=P) (cap:=xc) ie hcn;have hold:=Cells.run (P:=P) (cap:=cap) ie hco;have hnx:Builtin.nextslicecap (n+m) cap*i.bytes<=281474976710656:=growslice_fits zO afd;have afN:¬(281474976710656<Builtin.nextslicecap (n+m) cap*i.bytes):=by omega
 have afM:¬(9223372036854775807<((n:Int)+(m:Int))):=by omega
 obtain⟨gY,hent,hkk⟩:=hk (grownCap w (n+m) cap elem) (by simp only[grownCap,Question.cut];omega) _ ie.fresh;refine⟨_,_,_,?_,hent _ _ (ie.alloc _),hkk⟩;simp[Builtin.append_,run_underlying ht,run_underlying ht',sizeOf,typeInfo,zeroValue,hi,hz,Builtin.lenOf,hc,afM,afN,Question.forced,hnew,hold,newRow,grownCap]
theorem df.run{elem size bytes:Nat}{zero:zV}{l c:zV}{k:zV->Hp->Prop}(h:df elem size bytes zero H l c k){w:World}(hw:Own g H w){t:TypeId}{i:TypeInfo}
 (ht:P.underlying t=some (.slice elem))(hi:P.info? elem=some i)(hz:i.zero=some zero)(hn:i.size=size)(hb:i.bytes=bytes):
  ∃v w' H',(Instr.makeSlice t l c).run P w=.ok v w'/\Own g H' w'/\k v H':=by
 obtain⟨kl,kc,ln,cn,rfl,rfl,hlc,cJ,hby,hk⟩:=h;subst hn;subst hb;refine⟨_,_,_,?_,hw.alloc _,hk _ hw.fresh⟩;have e1:IntKind.i64.wrap (ln:Int)=ln:=IntWalk.i64_in _ zO;have e2:IntKind.i64.wrap (cn:Int)=cn:=IntWalk.i64_in _ zO;have e3:¬((i.bytes:Int)*(cn:Int)>281474976710656):=by
  have:((cn*i.bytes:Nat):Int)<=281474976710656:=by omega
  rw[Int.mul_comm];push_cast at this;omega
 have e4:¬((cn:Int)<ln):=by omega
 by_cases h0:cn*i.size=0
 ·simp[Instr.makeSlice,run_underlying ht,asInt,asIntOf,typeInfo,hi,e1,e2,e3,e4,sizeOf,zeroValue,hz,newRow,madeCells,h0,show¬((cn:Int)<0)from by omega,show¬((ln:Int)<0)from by omega];have:Array.range 0=#[]:=rfl;simp[this]
 simp[Instr.makeSlice,run_underlying ht,asInt,asIntOf,typeInfo,hi,e1,e2,e3,e4,sizeOf,zeroValue,hz,newRow,madeCells,h0,show¬((cn:Int)<0)from by omega,show¬((ln:Int)<0)from by omega]
theorem Js.run{m:zV}{es:Array MapEntry}(h:Js H m es){w:World}(hw:Own g H w):
  (m=.map none/\es=#[])\/∃b clock,m=.map (some b)/\(getObj b).run P w=.ok (.map es clock) w:=by
 rcases h with h|⟨b,clock,hm,hb⟩
 ·exact .inl h
 exact .inr ⟨b,clock,hm,aW hw hb⟩
theorem run_checkKey(e:Bool){t:TypeId}{d:TypeDesc}(hd:P.underlying t=some d)(hp:plainKey d=true)(v:zV)(w:World):(Instr.checkKey e 10000 t v).run P w=.ok () w:=by
 have:∀n,(Instr.checkKey e (n+1) t v).run P w=.ok () w:=λn=>by
  simp only[Instr.checkKey,Sem.run_bind,run_underlying hd,Result.andThen_ok];cases d<;>first|(simp[plainKey]at hp;done)|rfl
 exact this 9999
theorem run_findKey{t:TypeId}{d:TypeDesc}(hd:P.underlying t=some d){key:zV}{es:List MapEntry}{r:Option (Nat×zV)}(h:Instr.findNow d key es 0=some r)(w:World):
  (Instr.findKey t key es).run P w=.ok r w:=by
 simp[Instr.findKey,run_underlying hd,h]
theorem jE.run{kd:TypeDesc}{zero:zV}{ok:Bool}{m key:zV}{k:zV->Prop}(h:jE kd zero ok H m key k){w:World}(hw:Own g H w){t kt e:TypeId}{i:TypeInfo}
 (ht:P.underlying t=some (.map kt e))(hk:P.underlying kt=some kd)(hp:plainKey kd=true)(hi:P.info? e=some i)(hz:i.zero=some zero):
  ∃v,(Instr.lookup t m key ok).run P w=.ok v w/\k v:=by
 obtain⟨es,r,hm,hf,hkv⟩:=h;have eU:=λb=>run_checkKey (P:=P) b hk hp key w;have n5:=run_findKey (P:=P) hk hf w;refine⟨_,?_,hkv⟩;rcases hm.run (P:=P) hw with⟨rfl,rfl⟩|⟨b,clock,rfl,hg⟩
 ·cases r with
  |none=>cases ok<;>simp[Instr.lookup,run_underlying ht,eU,n5,dB hi hz]
  |some x=>obtain⟨j,v⟩:=x;cases ok<;>simp[Instr.lookup,run_underlying ht,eU,n5]
 ·cases r with
  |none=>cases ok<;>simp[Instr.lookup,run_underlying ht,eU,n5,dB hi hz,hg]
  |some x=>obtain⟨j,v⟩:=x;cases ok<;>simp[Instr.lookup,run_underlying ht,eU,n5,hg]
theorem bQ{w:World}(hw:Own g H w){b:Nat}{es:Array MapEntry}{clock:Nat}(es':Array MapEntry)(clock':Nat){H':Hp}(hu:cu b (.map es clock) (.map es' clock') H H'):
  ∃w',(setObj b (.map es' clock')).run P w=.ok () w'/\Own g H' w':=by
 have hm:=hw.has _ hu.mem;simp only at hm;refine⟨{w with heap:=w.heap.setIfInBounds b (.map es' clock')},by simp[setObj,Sem.run,hm],?_⟩;have hlt:=hw.lt hu.mem;refine hw.bT hu rfl rfl rfl ?_ ?_
 ·simp only at hlt;simp[hlt]
 intro c hc;rw[xcv,xac (λe=>hc (Eq.symm e))]
theorem dJ.run{kd:TypeDesc}{m key val:zV}{k:Hp->Prop}(h:dJ kd H m key val k){w:World}(hw:Own g H w){t kt e:TypeId}
 (ht:P.underlying t=some (.map kt e))(hk:P.underlying kt=some kd)(hp:plainKey kd=true):
  ∃w' H',(Instr.mapUpdate t m key val).run P w=.ok () w'/\Own g H' w'/\k H':=by
 obtain⟨b,es,clock,r,rfl,hf,hr⟩:=h;have eU:=λb=>run_checkKey (P:=P) b hk hp key w;have n5:=run_findKey (P:=P) hk hf w;cases r with
 |none=>
  obtain⟨H',hu,hkk⟩:=hr;obtain⟨w',hs,ho⟩:=bQ (P:=P) hw _ _ hu;refine⟨w',H',?_,ho,hkk⟩;simp[Instr.mapUpdate,run_underlying ht,aW hw hu.mem,eU,n5,hs]
 |some x=>
  obtain⟨j,v⟩:=x;obtain⟨hsame,hj,H',hu,hkk⟩:=hr;obtain⟨w',hs,ho⟩:=bQ (P:=P) hw _ _ hu;refine⟨w',H',?_,ho,hkk⟩;have hsb:=hsame es[j] (xbE hj);simp[Instr.mapUpdate,run_underlying ht,aW hw hu.mem,eU,n5,hj,Instr.keyThatStays,hsb,hs]
theorem vR.run{kd:TypeDesc}{m key:zV}{k:Hp->Prop}(h:vR kd H m key k){w:World}(hw:Own g H w){t kt e ty:TypeId}{as:Array TypeId}(has:as[0]? =some t)
 (ht:P.underlying t=some (.map kt e))(hk:P.underlying kt=some kd)(hp:plainKey kd=true):
  ∃w' H',(Builtin.delete_ as ty #[m,key]).run P w=.ok (.tuple #[]) w'/\Own g H' w'/\k H':=by
 have eU:=λb=>run_checkKey (P:=P) b hk hp key w;rcases h with⟨rfl,hkk⟩|⟨b,es,clock,r,rfl,hf,hr⟩
 ·exact⟨w,H,by simp[Builtin.delete_,has,run_underlying ht,eU],hw,hkk⟩
 have n5:=run_findKey (P:=P) hk hf w;cases r with
 |none=>
  obtain⟨hm,hkk⟩:=hr;have hu:∃H',cu b (.map es clock) (.map es clock) H H'/\H'=H:=by
   clear hkk hf n5 hw;induction H with
   |nil=>simp at hm
   |cons x R ih=>
    rcases xag.1 hm with e|hm'
    ·subst e;exact⟨_,.head _,rfl⟩
    obtain⟨H',u,rfl⟩:=ih hm';exact⟨_,.tail u,rfl⟩
  obtain⟨H',hu,rfl⟩:=hu;obtain⟨w',hs,ho⟩:=bQ (P:=P) hw _ _ hu;exact⟨w',_,by simp[Builtin.delete_,has,run_underlying ht,aW hw hm,eU,n5,hs],ho,hkk⟩
 |some x=>
  obtain⟨j,v⟩:=x;obtain⟨H',hu,hkk⟩:=hr;obtain⟨w',hs,ho⟩:=bQ (P:=P) hw _ _ hu;exact⟨w',_,by simp[Builtin.delete_,has,run_underlying ht,aW hw hu.mem,eU,n5,hs],ho,hkk⟩
theorem Cc{kd:TypeDesc}(h:cH kd=true)(key:zV)(es:List MapEntry)(i:Nat):Instr.findNow kd key es i=if es=[]then some none else none:=by
 cases es with
 |nil=>rfl
 |cons e r=>
  simp only[Instr.findNow,reduceCtorEq,xaT];cases kd<;>simp[cH]at h<;>rfl
theorem mE{kt:TypeId}{key:zV}:∀{es:List MapEntry} {i:Nat} {r:Option (Nat×zV)},l6 P kt key es i r->∀w,(Instr.findAsking kt key es i).run P w=.ok r w
 | [],i,r,h,w=>by simp only[l6]at h;subst h;rfl
 |e::es,i,r,h,w=>by
  obtain⟨b,he,h1,h2⟩:=h;simp only[Instr.findAsking,Sem.run_bind,he w,Result.andThen_ok];cases b
  ·simp only[xaD,xaT];exact mE (h2 rfl) w
  simp only[xa7,h1 rfl,Sem.run_pure]
theorem fX{t:TypeId}{d:TypeDesc}(hd:P.underlying t=some d)(ha:cH d=true){key:zV}{es:List MapEntry}{r:Option (Nat×zV)}(h:l6 P t key es 0 r)(w:World):
  (Instr.findKey t key es).run P w=.ok r w:=by
 simp only[Instr.findKey,Sem.run_bind,run_underlying hd,Result.andThen_ok,Cc ha];cases es with
 |nil=>simp only[l6]at h;subst h;simp
 |cons e es=>simp only[reduceCtorEq,xaT];exact mE h w
theorem jN.run{zero:zV}{ok:Bool}{m key:zV}{k:zV->Prop}{t kt e:TypeId}{kd:TypeDesc}(h:jN P kt zero ok H m key k){w:World}(hw:Own g H w){i:TypeInfo}
 (ht:P.underlying t=some (.map kt e))(hk:P.underlying kt=some kd)(hp:cH kd=true)(hi:P.info? e=some i)(hz:i.zero=some zero):
  ∃v,(Instr.lookup t m key ok).run P w=.ok v w/\k v:=by
 obtain⟨es,r,hm,hc,hf,hkv⟩:=h;have eU:=λb=>hc b w;have n5:=fX (P:=P) hk hp hf w;refine⟨_,?_,hkv⟩;rcases hm.run (P:=P) hw with⟨rfl,rfl⟩|⟨b,clock,rfl,hg⟩
 ·cases r with
  |none=>cases ok<;>simp[Instr.lookup,run_underlying ht,eU,n5,dB hi hz]
  |some x=>obtain⟨j,v⟩:=x;cases ok<;>simp[Instr.lookup,run_underlying ht,eU,n5]
 ·cases r with
  |none=>cases ok<;>simp[Instr.lookup,run_underlying ht,eU,n5,dB hi hz,hg]
  |some x=>obtain⟨j,v⟩:=x;cases ok<;>simp[Instr.lookup,run_underlying ht,eU,n5,hg]
theorem jM.run{m key val:zV}{k:Hp->Prop}{t kt e:TypeId}{kd:TypeDesc}(h:jM P kt H m key val k){w:World}(hw:Own g H w)
 (ht:P.underlying t=some (.map kt e))(hk:P.underlying kt=some kd)(hp:cH kd=true):
  ∃w' H',(Instr.mapUpdate t m key val).run P w=.ok () w'/\Own g H' w'/\k H':=by
 obtain⟨b,es,clock,r,rfl,hc,hf,hr⟩:=h;have eU:=λb=>hc b w;have n5:=fX (P:=P) hk hp hf w;cases r with
 |none=>
  obtain⟨H',hu,hkk⟩:=hr;obtain⟨w',hs,ho⟩:=bQ (P:=P) hw _ _ hu;refine⟨w',H',?_,ho,hkk⟩;simp[Instr.mapUpdate,run_underlying ht,aW hw hu.mem,eU,n5,hs]
 |some x=>
  obtain⟨j,v⟩:=x;obtain⟨hsame,hj,H',hu,hkk⟩:=hr;obtain⟨w',hs,ho⟩:=bQ (P:=P) hw _ _ hu;refine⟨w',H',?_,ho,hkk⟩;have hsb:=hsame es[j] (xbE hj);simp[Instr.mapUpdate,run_underlying ht,aW hw hu.mem,eU,n5,hj,Instr.keyThatStays,hsb,hs]
theorem cu.same{b:Nat}{o:Obj}{H:Hp}(hm:(b,o)∈H):cu b o o H H:=by
 induction H with
 |nil=>simp at hm
 |cons x R ih=>
  rcases xag.1 hm with e|hm'
  ·subst e;exact .head _
  exact .tail (ih hm')
theorem qI.run{m key:zV}{k:Hp->Prop}{t kt e ty:TypeId}{kd:TypeDesc}{as:Array TypeId}(h:qI P kt H m key k){w:World}(hw:Own g H w)(has:as[0]? =some t)
 (ht:P.underlying t=some (.map kt e))(hk:P.underlying kt=some kd)(hp:cH kd=true):
  ∃w' H',(Builtin.delete_ as ty #[m,key]).run P w=.ok (.tuple #[]) w'/\Own g H' w'/\k H':=by
 obtain⟨hc,h⟩:=h;have eU:=λb=>hc b w;rcases h with⟨rfl,hkk⟩|⟨b,es,clock,r,rfl,hf,hr⟩
 ·exact⟨w,H,by simp[Builtin.delete_,has,run_underlying ht,eU],hw,hkk⟩
 have n5:=fX (P:=P) hk hp hf w;cases r with
 |none=>
  obtain⟨hm,hkk⟩:=hr;obtain⟨w',hs,ho⟩:=bQ (P:=P) hw _ _ (cu.same hm);exact⟨w',_,by simp[Builtin.delete_,has,run_underlying ht,aW hw hm,eU,n5,hs],ho,hkk⟩
 |some x=>
  obtain⟨j,v⟩:=x;obtain⟨H',hu,hkk⟩:=hr;obtain⟨w',hs,ho⟩:=bQ (P:=P) hw _ _ hu;exact⟨w',_,by simp[Builtin.delete_,has,run_underlying ht,aW hw hu.mem,eU,n5,hs],ho,hkk⟩
theorem Rng.run{x:zV}{k:zV->Hp->Prop}(h:Rng H x k){w:World}(hw:Own g H w){t kt e:TypeId}(ht:P.underlying t=some (.map kt e)):
  ∃v w' H',(Instr.range t x).run P w=.ok v w'/\Own g H' w'/\k v H':=by
 rcases h with⟨rfl,hk⟩|⟨m,es,clock,rfl,hm,hk⟩
 ·refine⟨_,_,_,?_,hw.alloc _,hk _ hw.fresh⟩;simp[Instr.range,run_underlying ht]
 refine⟨_,_,_,?_,hw.alloc _,hk _ hw.fresh⟩;simp[Instr.range,run_underlying ht,aW hw hm]
theorem lP{w:World}(hw:Own g H w){b:Nat}{mo:Option Nat}{since last:Nat}{seen:Array Nat}(hm:(b,Obj.mapIter mo since seen last)∈H):(getObj b).run P w=.ok (.mapIter mo since seen last) w:=by
 have:=hw.has _ hm;simp only at this;simp[getObj,Sem.run,this]
theorem sR{w:World}(hw:Own g H w){b:Nat}{mo mo':Option Nat}{since last since' last':Nat}{seen seen':Array Nat}{H':Hp}(hu:cu b (.mapIter mo since seen last) (.mapIter mo' since' seen' last') H H'):
  ∃w',(setObj b (.mapIter mo' since' seen' last')).run P w=.ok () w'/\Own g H' w':=by
 have hm:=hw.has _ hu.mem;simp only at hm;refine⟨{w with heap:=w.heap.setIfInBounds b (.mapIter mo' since' seen' last')},by simp[setObj,Sem.run,hm],?_⟩;have hlt:=hw.lt hu.mem;refine hw.bT hu rfl rfl rfl ?_ ?_
 ·simp only at hlt;simp[hlt]
 intro c hc;rw[xcv,xac (λe=>hc (Eq.symm e))]
theorem Sk.run{it:zV}{k:zV->Prop}(h:Sk H it k){w:World}(hw:Own g H w):∃v,(Instr.entry it).run P w=.ok v w/\k v:=by
 obtain⟨b,m,since,seen,stamp,clock,es,e,rfl,hb,hs,hm,hf,hk⟩:=h;refine⟨_,?_,hk⟩;simp[Instr.entry,lP (P:=P) hw hb,hs,aW (P:=P) hw hm,hf]
theorem sS(n:Nat)(hn:0<n){w:World}:∃i w',(choose (.mapNext n)).run P w=.ok i w'/\i<n/\(w'=w\/w'=w.drew):=by
 by_cases h:n<=1
 ·exact⟨0,w,by simp[choose,Sem.run,Question.forced,h],hn,.inl rfl⟩
 exact⟨_,_,by simp only[choose,Sem.run,Question.forced,h,xdI,xaD,xaT];rfl,xbx _ hn,.inr rfl⟩
theorem ZH.run{it:zV}{k:zV->Hp->Prop}(h:ZH H it k){w:World}(hw:Own g H w){ty:TypeId}:
  ∃v w' H',(Instr.next it false ty).run P w=.ok v w'/\Own g H' w'/\k v H':=by
 obtain⟨b,mo,since,seen,last,rfl,hb,h⟩:=h;have hgi:=lP (P:=P) hw hb;cases mo with
 |none=>exact⟨_,w,H,by simp[Instr.next,hgi],hw,h⟩
 |some m=>
  obtain⟨es,clock,hm,Qq,BN,aaQ⟩:=h;have hgm:=aW (P:=P) hw hm;have aa1:(!seen.isEmpty&& !es.isEmpty&&es.all (λe=>decide (e.born≥last)))=false:=by
   cases he:es.isEmpty
   ·have hne:es≠#[]:=by intro e;rw[e]at he;simp at he
    have:es.all (λe=>decide (e.born≥last))=false:=by
     rw[<-Bool.not_eq_true,Array.all_eq_true];intro aD;have h0:0<es.size:=Array.size_pos_iff.2 hne;have:=aD 0 h0;have h2:=(Qq es[0] zI).2;simp only[ge_iff_le,xaP]at this;omega
    rw[this];simp
   simp
  have hold:((es.filter λe=> !seen.contains e.born).filter λe=>decide (e.born<since))=es.filter λe=> !seen.contains e.born:=by
   rw[Array.filter_eq_self];intro e he;have:=(xet.1 he).1;exact xau (Qq e (by simpa using this)).1
  have hnew:((es.filter λe=> !seen.contains e.born).filter λe=>decide (e.born≥since))=#[]:=by
   rw[Array.filter_eq_empty_iff];intro e he;have:=(xet.1 he).1;have:=(Qq e (by simpa using this)).1;simp only[ge_iff_le,xaP];omega
  generalize hleft:(es.filter λe=> !seen.contains e.born)=left at hold hnew;have hrun:∀(rest:Sem zV),(Instr.next (.pointer (some ⟨b,0,none⟩)) false ty).run P w=((choose (.mapNext (((if left.isEmpty then#[none]else#[])++left.map some).size))).run P w).andThen λi w=>(Sem.run P (match((if left.isEmpty then#[none]else#[])++left.map some)[i]? with
    |some (some e)=>do setObj b (.mapIter (some m) since (seen.push e.born) clock);pure (.tuple #[.bool true,e.key,e.val])
    |some none=>pure (.tuple #[.bool false])
    |none=>stuck "Next: no such candidate" :Sem zV) w):=by
   intro _;simp only[Instr.next,Sem.run_bind,hgi,Result.andThen_ok,hgm,aa1,xaD,xaT,hleft,hold,hnew,xdJ,Sem.run_pure];rfl
  rw[hrun (pure undef)];by_cases X3:left=#[]
  ·subst X3;simp only[Array.isEmpty_empty,xa7,xex,xdJ];refine⟨_,w,H,?_,hw,aaQ λe he=>?_⟩
   ·simp[choose,Sem.run,Question.forced]
   have:=Array.filter_eq_empty_iff.1 hleft e (by simpa using he);simpa using this
  have hne:left.isEmpty=false:=by simpa using X3
  have hpos:0<left.size:=Array.size_pos_iff.2 X3;simp only[hne,xaD,xaT,xdq,Array.size_map];obtain⟨i,w1,hc,hi,ie⟩:=sS (P:=P) (w:=w) left.size hpos;rw[hc];simp only[Result.andThen_ok];have fI:(left.map some)[i]? =some (some left[i]):=by simp[hi]
  simp only[fI];have hmem:left[i]∈es.filter λe=> !seen.contains e.born:=by rw[hleft];exact Array.getElem_mem hi
  obtain⟨UB,Wp⟩:=xet.1 hmem;obtain⟨H',hu,hk⟩:=BN left[i] (by simpa using UB) (by simpa using Wp);have KT:Own g H w1:=by rcases ie with rfl|rfl;exact hw;exact hw.drew
  obtain⟨w2,hs,BM⟩:=sR (P:=P) KT hu;exact⟨_,w2,H',by simp[hs],BM,hk⟩
end
end Go.Sx
namespace Go.Sx
open Go
section
variable {P:Program} {g:Gh} {H:Hp} {K:zV->Hp->Prop} {KP:List PanicEntry->Hp->Prop}
def acr(x:zV):Option zV:=
 match x with
 | .pointer (some a)=>some (.pointer (some a))
 | .func (.func f) a b=>some (.func (.func f) a b)
 | .iface t v=>some (.iface t v)
 |_=>none
def Nil(x:zV)(k:zV->Prop):Prop:=∃v,acr x=some v/\k v
def PMk(fn:Fn)(a b:List zV)(k:zV->Prop):Prop:=k (.func fn a.toArray b.toArray)
def Build(P:Program)(t:TypeId)(parts:List (Nat×zV))(k:zV->Prop):Prop:=∃v,(∀w,(Instr.build t parts.toArray).run P w=.ok v w)/\k v
def aZ(P:Program)(g:Gh)(o:Oper)(ρ:Operand->zV)(H:Hp)(k:zV->Prop):Prop:=
 ∃v,(∀w,Own g H w->(execOp ρ o).run P w=.ok (.value v) w)/\k v
def IP:Operand->Bool
 | .const _=>true
 |_=>false
def ZA(d:TypeDesc)(x y:Operand):BK:=
 match Ao d with
 | .ptr=>cond (IP x||IP y) .ptr .other
 |k=>k
theorem Yz{d:TypeDesc}{x y:Operand}(h:ZA d x y=.other->False):Ao d=ZA d x y:=by
 unfold ZA at h⊢;cases hb:Ao d<;>simp only[hb]at h⊢;cases hc:(IP x||IP y)<;>simp only[hc,xao,xaj]at h⊢;exact(h trivial).elim
def cA(P:Program)(t:TypeId):Option Nat:=match P.info? t with|some i=>some i.size|none=>none
def dV(P:Program)(t:TypeId):Option zV:=match P.info? t with|some i=>i.zero|none=>none
def vq(P:Program)(t:TypeId):Option Nat:=match P.info? t with|some i=>some i.bytes|none=>none
def Dm(P:Program)(g:Gh)(o:Oper)(ρ:Operand->zV)(H:Hp)(k:zV->Prop):Prop:=
 match o.op with
 | .move x=>k (ρ x)
 | .assign x=>k (ρ x)
 | .pick c a b=>aI (ρ c) (ρ a) (ρ b) k
 | .load t a=>
  match P.underlying t,cA P t with
  |some d,some n=>cond (cH d) (ax n H (ρ a) k) (Ld H (ρ a) k)
  |_,_=>False
 | .nilCheck x=>Nil (ρ x) k
 | .binOp op t x y _=>
  match P.underlying t with
  |some d=>match ZA d x y with
   | .other=>aZ P g o ρ H k
   |bk=>ae bk op (ρ x) (ρ y) k
  |none=>False
 | .unOp op _ x=>Un op (ρ x) k
 | .convert s d x=>
  match P.underlying s,P.underlying d with
  |some _,some (.int kd)=>aH kd (ρ x) k
  |some (.slice e),some .string=>match P.underlying e with
   |some (.int .u8)=>dK H (ρ x) k
   |_=>aZ P g o ρ H k
  |_,_=>aZ P g o ρ H k
 | .index t x i=>
  match P.underlying t with
  |some .string=>bP (ρ x) (ρ i) k
  |_=>aZ P g o ρ H k
 | .fieldAddr s x f=>
  match P.underlying s with
  |some (.struct fs)=>match fs[f]? with
   |some fl=>match cA P fl.type with
    |some (_+1)=>af fl.offset (ρ x) k
    |_=>False
   |none=>False
  |_=>False
 | .field s x f=>
  match P.underlying s with
  |some (.struct fs)=>match fs[f]? with
   |some fl=>match P.underlying fl.type,cA P fl.type with
    |some d,some n=>cond (cH d) (Vx fl.offset n (ρ x) k) (wx fl.offset (ρ x) k)
    |_,_=>False
   |none=>False
  |_=>False
 | .indexAddr t x i=>
  match P.underlying t with
  |some (.slice e)=>match cA P e with
   |some n=>ah n (ρ x) (ρ i) k
   |none=>False
  |some (.array len e)=>match cA P e with
   |some n=>fo len n (ρ x) (ρ i) k
   |none=>False
  |_=>False
 | .slice t x lo hi none=>
  match P.underlying t with
  |some (.slice e)=>match cA P e with
   |some n=>cP n (ρ x) (lo.map ρ) (hi.map ρ) k
   |none=>False
  |_=>aZ P g o ρ H k
 | .extract t i=>Ext i (ρ t) k
 | .lookup t m key ok=>
  match P.underlying t with
  |some (.map kt e)=>match P.underlying kt,dV P e with
   |some kd,some z=>cond (plainKey kd) (jE kd z ok H (ρ m) (ρ key) k) (cond (cH kd) (jN P kt z ok H (ρ m) (ρ key) k) (aZ P g o ρ H k))
   |_,_=>False
  |_=>False
 | .makeFunc fn a b=>PMk fn (a.toList.map ρ) (b.toList.map ρ) k
 | .build t parts=>Build P t (parts.toList.map λp=>(p.1,ρ p.2)) k
 | .makeInterface t x=>
  match P.underlying t with
  |some (.interface _)=>False
  |some _=>k (.iface t (ρ x))
  |none=>False
 | .call c=>
  match c.callee with
  | .builtin .len=>
   match c.args.toList,c.argTypes.toList with
   | [x],[t]=>match P.underlying t with
    |some (.slice _)=>aE (ρ x) k
    |some (.map _ _)=>Au H (ρ x) k
    |some .string=>aN (ρ x) k
    |_=>aZ P g o ρ H k
   |_,_=>False
  | .builtin .max=>match c.args.toList,c.argTypes.toList with
   | [x,y],[t,_]=>match P.underlying t with
    |some (.int _)=>YI (ρ x) (ρ y) k
    |_=>aZ P g o ρ H k
   |_,_=>aZ P g o ρ H k
  | .builtin .min=>match c.args.toList,c.argTypes.toList with
   | [x,y],[t,_]=>match P.underlying t with
    |some (.int _)=>LY (ρ x) (ρ y) k
    |_=>aZ P g o ρ H k
   |_,_=>aZ P g o ρ H k
  | .builtin _=>aZ P g o ρ H k
  |_=>False
 |_=>aZ P g o ρ H k
theorem mapList{α β:Type}(f:α->β)(a:Array α):(a.toList.map f).toArray=a.map f:=by rw[<-xd0,xcK]
theorem acj{α:Type}{a:Array α}{x:α}(h:a.toList=[x]):a=#[x]:=by cases a;simp_all
theorem CQ{α:Type}{a:Array α}{x y:α}(h:a.toList=[x,y]):a=#[x,y]:=by cases a;simp_all
theorem Ld.fix{p:zV}{k:zV->Prop}(h:Ld H p k):∃v,k v/\Ld H p (· =v):=by
 obtain⟨b,off,c,T,fz,v,h1,h2,h3,hk⟩:=h;exact⟨v,hk,b,off,c,T,fz,v,h1,h2,h3,rfl⟩
theorem ax.fix{n:Nat}{p:zV}{k:zV->Prop}(h:ax n H p k):∃v,k v/\ax n H p (· =v):=by
 obtain⟨b,off,c,T,fz,h1,h2,h3,hk⟩:=h;exact⟨_,hk,b,off,c,T,fz,h1,h2,h3,rfl⟩
theorem jE.fix{kd:TypeDesc}{zero:zV}{ok:Bool}{m key:zV}{k:zV->Prop}(h:jE kd zero ok H m key k):∃v,k v/\jE kd zero ok H m key (· =v):=by
 obtain⟨es,r,h1,h2,hk⟩:=h;exact⟨_,hk,es,r,h1,h2,rfl⟩
theorem Au.fix{x:zV}{k:zV->Prop}(h:Au H x k):∃v,k v/\Au H x (· =v):=by
 obtain⟨m,h1,⟨h2,hk⟩|⟨b,es,clock,h2,h3,hk⟩⟩:=h
 ·exact⟨_,hk,m,h1,.inl ⟨h2,rfl⟩⟩
 exact⟨_,hk,m,h1,.inr ⟨b,es,clock,h2,h3,rfl⟩⟩
theorem jN.fix{kt:TypeId}{zero:zV}{ok:Bool}{m key:zV}{k:zV->Prop}(h:jN P kt zero ok H m key k):∃v,k v/\jN P kt zero ok H m key (· =v):=by
 obtain⟨es,r,h1,h2,h3,hk⟩:=h;exact⟨_,hk,es,r,h1,h2,h3,rfl⟩
theorem ET{F:zV->ByteArray->Sem (ForInStep ByteArray)}(hF:∀(b:UInt8) s,F (.int .u8 b.toNat) s=pure (.yield (s.push b))){l:List UInt8}(s:ByteArray)(w:World):
  (forIn (l.map λb=>Value.int .u8 b.toNat) s F).run P w=.ok (⟨s.data++l.toArray⟩:ByteArray) w:=by
 induction l generalizing s with
 |nil=>simp
 |cons b r ih=>
  simp only[xaM,xey,hF,Sem.run_bind,Sem.run_pure,Result.andThen_ok];rw[ih];congr 1;simp[ByteArray.push]
theorem dK.run{x:zV}{k:zV->Prop}(h:dK H x k){w:World}(hw:Own g H w):∃v,(Conv.bytesToString x).run P w=.ok v w/\k v:=by
 obtain⟨base,n,c,bs,rfl,hc,hn,hk⟩:=h;refine⟨_,?_,hk⟩;cases base with
 |none=>
  simp only[Cells]at hc;have:bs=[]:=by simpa using xca Array.size hc
  subst this;rfl
 |some a=>
  have:=Cells.run (P:=P) (size:=1) (cap:=c) hw (by rw[xcc];exact hc);simp only[Builtin.firstCells,xcc]at this;simp only[Conv.bytesToString,Sem.run_bind,this,Result.andThen_ok];rw[List.forIn_toArray,ET (P:=P) (l:=bs) (λb s=>by simp)];have e:ByteArray.empty.data=#[]:=rfl;simp[e]
theorem dK.fix{x:zV}{k:zV->Prop}(h:dK H x k):∃v,k v/\dK H x (· =v):=by
 obtain⟨base,n,c,bs,h1,h2,h3,hk⟩:=h;exact⟨_,hk,base,n,c,bs,h1,h2,h3,rfl⟩
def Reads(P:Program)(g:Gh)(o:Oper)(ρ:Operand->zV)(H:Hp)(k:zV->Prop):Prop:=
 ∃v,k v/\∀w,Own g H w->(execOp ρ o).run P w=.ok (.value v) w
theorem Reads.mk{o:Oper}{ρ:Operand->zV}{k:zV->Prop}{s:Sem zV}(he:execOp ρ o=(do pure (.value (<-s))))(h:∃v,k v/\∀w,Own g H w->s.run P w=.ok v w):Reads P g o ρ H k:=by
 obtain⟨v,hk,hr⟩:=h;refine⟨v,hk,λw hw=>?_⟩;rw[he];simp only[Sem.run_bind,hr w hw,Result.andThen_ok,Sem.run_pure]
theorem aZ.reads{o:Oper}{ρ:Operand->zV}{k:zV->Prop}(h:aZ P g o ρ H k):Reads P g o ρ H k:=let ⟨v,h1,h2⟩:=h;⟨v,h2,h1⟩
theorem YU{s:Sem zV}{k:zV->Prop}{C:(zV->Prop)->Prop}(ae3:∃v,k v/\C (· =v))(hrun:∀(k:zV->Prop),C k->∀w,Own g H w->∃v,s.run P w=.ok v w/\k v):
  ∃v,k v/\∀w,Own g H w->s.run P w=.ok v w:=by
 obtain⟨v,hk,hc⟩:=ae3;refine⟨v,hk,λw hw=>?_⟩;obtain⟨u,hr,rfl⟩:=hrun _ hc w hw;exact hr
theorem aU{t:TypeId}{n:Nat}(h:cA P t=some n):∃i,P.info? t=some i/\i.size=n:=by
 unfold cA at h;split at h
 ·rename_i i hi;exact⟨i,hi,by simpa using h⟩
 simp at h
theorem cB{t:TypeId}{z:zV}(h:dV P t=some z):∃i,P.info? t=some i/\i.zero=some z:=by
 unfold dV at h;split at h
 ·rename_i i hi;exact⟨i,hi,by simpa using h⟩
 simp at h
theorem j4{o:Oper}{ρ:Operand->zV}{k:zV->Prop}(h:Dm P g o ρ H k):Reads P g o ρ H k:=by
 obtain⟨dst,op,type,pos,after,guard⟩:=o;cases op<;>simp only[Dm]at h
 case move x=>exact⟨_,h,λw _=>rfl⟩
 case assign x=>exact⟨_,h,λw _=>rfl⟩
 case pick c a b=>
  obtain⟨t,hc,hk⟩:=h;refine⟨_,hk,λw _=>?_⟩;cases t<;>simp[execOp,hc,asBool]
 case load t a=>
  split at h
  ·rename_i d n hd hn;obtain⟨i,hi,hin⟩:=aU hn;refine Reads.mk (s:=Instr.loadAt t (ρ a)) rfl ?_;cases ha:cH d<;>simp only[ha,xao,xaj]at h
   ·exact YU h.fix λk hk w hw=>hk.run hw hd ha
   exact YU h.fix λk hk w hw=>hk.run hw hd ha hi hin
  exact h.elim
 case nilCheck x=>
  obtain⟨v,hv,hk⟩:=h;refine⟨v,hk,λw _=>?_⟩;unfold acr at hv;simp only[execOp];split at hv<;>simp only[xas,reduceCtorEq]at hv<;>subst hv<;>simp_all
 case binOp op t x y yt=>
  split at h
  ·rename_i d hd;split at h
   ·exact h.reads
   rename_i hbk;refine Reads.mk (s:=do eqGuard op t x y (ρ x) (ρ y);binOp op t (ρ x) (ρ y)) rfl ?_;obtain⟨v,hv,hk⟩:=h;exact⟨v,hk,λw _=>by
    obtain⟨u,hr,rfl⟩:=ae.run (P:=P) (k:=(· =v)) ⟨v,hv,rfl⟩ w (ox:=x) (oy:=y) hd (Yz hbk);exact hr⟩
  exact h.elim
 case unOp op t x=>
  obtain⟨v,hv,hk⟩:=h;refine Reads.mk (s:=Op.unary op (ρ x)) rfl ⟨v,hk,λw _=>?_⟩;obtain⟨u,hr,rfl⟩:=Un.run (P:=P) (k:=(· =v)) ⟨v,hv,rfl⟩ w;exact hr
 case convert s d x=>
  split at h
  ·rename_i ds kd hs hd;obtain⟨j,n,hx,hk⟩:=h;refine Reads.mk (s:=Go.convert s d (ρ x)) rfl ⟨_,hk,λw _=>?_⟩;obtain⟨u,hr,rfl⟩:=aH.run (P:=P) (kd:=kd) (k:=(· =_)) ⟨j,n,hx,rfl⟩ w hs hd rfl;exact hr
  ·rename_i e hs hd;split at h
   ·rename_i he;refine Reads.mk (s:=Go.convert s d (ρ x)) rfl ?_;have:∀w,(Go.convert s d (ρ x)).run P w=(Conv.bytesToString (ρ x)).run P w:=λw=>by
     obtain⟨base,n,c,bs,hx,_⟩:=h;simp only[Go.convert,Sem.run_bind,run_underlying hs,run_underlying hd,Result.andThen_ok,hx,run_underlying he]
    simp only[this];exact YU h.fix λk hk w hw=>hk.run hw
   exact h.reads
  exact h.reads
 case index t x i=>
  split at h
  ·rename_i ht;obtain⟨s,kd,j,b,hx,hi,h0,hb,hk⟩:=h;refine Reads.mk (s:=Instr.index t (ρ x) (ρ i)) rfl ⟨_,hk,λw _=>?_⟩;simp[Instr.index,run_underlying ht,hx,hi,asIntOf,h0,hb]
  exact h.reads
 case fieldAddr s x f=>
  split at h<;>try exact h.elim
  rename_i fs hs;split at h<;>try exact h.elim
  rename_i fl hf;split at h<;>try exact h.elim
  rename_i m hm;obtain⟨i,hi,hin⟩:=aU hm;obtain⟨b,o,hx,hk⟩:=h;refine Reads.mk (s:=Instr.fieldAt s (ρ x) f) rfl ⟨_,hk,λw _=>?_⟩;obtain⟨u,hr,rfl⟩:=af.run (P:=P) (k:=(· =_)) ⟨b,o,hx,rfl⟩ w hs hf hi zO rfl;exact hr
 case field s x f=>
  split at h<;>try exact h.elim
  rename_i fs hs;split at h<;>try exact h.elim
  rename_i fl hf;split at h<;>try exact h.elim
  rename_i d n hd hn;obtain⟨i,hi,hin⟩:=aU hn;refine Reads.mk (s:=Instr.field s (ρ x) f) rfl ?_;cases ha:cH d<;>simp only[ha,xao,xaj]at h
  ·obtain⟨cs,v,hx,hv,hk⟩:=h;refine⟨v,hk,λw _=>?_⟩;obtain⟨u,hr,rfl⟩:=wx.run (P:=P) (k:=(· =v)) ⟨cs,v,hx,hv,rfl⟩ w hs hf hd ha rfl;exact hr
  obtain⟨cs,hx,hk⟩:=h;refine⟨_,hk,λw _=>?_⟩;obtain⟨u,hr,rfl⟩:=Vx.run (P:=P) (k:=(· =_)) ⟨cs,hx,rfl⟩ w hs hf hd ha hi hin rfl;exact hr
 case indexAddr t x ix=>
  refine Reads.mk (s:=Instr.indexAt t (ρ x) (ρ ix)) rfl ?_;split at h
  ·rename_i e ht;split at h<;>try exact h.elim
   rename_i n hn;obtain⟨i,hi,hin⟩:=aU hn;obtain⟨b,o,n',c,kd,j,hx,hix,h0,h1,hk⟩:=h;refine⟨_,hk,λw _=>?_⟩;obtain⟨u,hr,rfl⟩:=ah.run (P:=P) (k:=(· =_)) ⟨b,o,n',c,kd,j,hx,hix,h0,h1,rfl⟩ w ht hi hin;exact hr
  ·rename_i len e ht;split at h<;>try exact h.elim
   rename_i n hn;obtain⟨i,hi,hin⟩:=aU hn;obtain⟨b,o,kd,j,hx,hix,h0,h1,hk⟩:=h;refine⟨_,hk,λw _=>?_⟩;obtain⟨u,hr,rfl⟩:=fo.run (P:=P) (k:=(· =_)) ⟨b,o,kd,j,hx,hix,h0,h1,rfl⟩ w ht hi hin;exact hr
  exact h.elim
 case slice t x lo hi mx=>
  cases mx with
  |some m=>simp only at h;exact h.reads
  |none=>
   simp only at h;split at h
   ·rename_i e ht;split at h<;>try exact h.elim
    rename_i n hn;obtain⟨i,hi',hin⟩:=aU hn;obtain⟨a,n',c,l,hh,hx,hl,pD,h0,h1,h2,hk⟩:=h;refine Reads.mk (s:=Instr.sliceAt t (ρ x) (lo.map ρ) (hi.map ρ) none) rfl ⟨_,hk,λw _=>?_⟩;obtain⟨u,hr,rfl⟩:=cP.run (P:=P) (k:=(· =_)) ⟨a,n',c,l,hh,hx,hl,pD,h0,h1,h2,rfl⟩ w ht hi' hin;exact hr
   exact h.reads
 case extract t i=>
  obtain⟨vs,v,hx,hv,hk⟩:=h;refine Reads.mk (s:=Instr.extract (ρ t) i) rfl ⟨v,hk,λw _=>?_⟩;obtain⟨u,hr,rfl⟩:=Ext.run (P:=P) (k:=(· =v)) ⟨vs,v,hx,hv,rfl⟩ w;exact hr
 case lookup t m key ok=>
  split at h<;>try exact h.elim
  rename_i kt e ht;split at h<;>try exact h.elim
  rename_i kd z BO hz;obtain⟨i,hi,wT⟩:=cB hz;cases hp:plainKey kd<;>simp only[hp,xao,xaj]at h
  ·cases lg:cH kd<;>simp only[lg,xao,xaj]at h
   ·exact h.reads
   exact Reads.mk (s:=Instr.lookup t (ρ m) (ρ key) ok) rfl (YU h.fix λk hk w hw=>hk.run hw ht BO lg hi wT)
  exact Reads.mk (s:=Instr.lookup t (ρ m) (ρ key) ok) rfl (YU h.fix λk hk w hw=>hk.run hw ht BO hp hi wT)
 case makeFunc fn a b=>
  refine⟨_,h,λw _=>?_⟩;simp[execOp,Instr.makeFunc,mapList]
 case build t parts=>
  obtain⟨v,hr,hk⟩:=h;refine Reads.mk (s:=Instr.build t (parts.map λ(i,x)=>(i,ρ x))) rfl ⟨v,hk,λw _=>?_⟩;have:=hr w;rw[mapList (λp:Nat×Operand=>(p.1,ρ p.2)) parts]at this;exact this
 case makeInterface t x=>
  split at h
  ·exact h.elim
  ·rename_i d XR hd;refine Reads.mk (s:=Instr.makeInterface t (ρ x)) rfl ⟨_,h,λw _=>?_⟩;simp only[Instr.makeInterface,Sem.run_bind,run_underlying hd,Result.andThen_ok];cases d<;>first|rfl|exact absurd hd (XR _)
  exact h.elim
 case call c=>
  obtain⟨callee,args,argTypes⟩:=c;cases callee with
  |value f=>simp only at h
  |invoke r m=>simp only at h
  |builtin b=>
   cases b<;>simp only at h<;>try exact h.reads
   case max=>
    split at h<;>try exact h.reads
    rename_i x y t t' hx ht;split at h<;>try exact h.reads
    have hx:=CQ hx;have ht:=CQ ht;subst hx;subst ht;obtain⟨kd,a,b,h1,h2,hk⟩:=h;refine Reads.mk (s:=Builtin.max_ #[t,t'] type #[ρ x,ρ y]) (by simp[execOp,resolve,invoke,builtin,bind,Sem.bind];rfl) ⟨_,hk,λw _=>?_⟩;simp[Builtin.max_,Builtin.max2,h1,h2]
   case min=>
    split at h<;>try exact h.reads
    rename_i x y t t' hx ht;split at h<;>try exact h.reads
    have hx:=CQ hx;have ht:=CQ ht;subst hx;subst ht;obtain⟨kd,a,b,h1,h2,hk⟩:=h;refine Reads.mk (s:=Builtin.min_ #[t,t'] type #[ρ x,ρ y]) (by simp[execOp,resolve,invoke,builtin,bind,Sem.bind];rfl) ⟨_,hk,λw _=>?_⟩;simp[Builtin.min_,Builtin.min2,h1,h2]
   split at h<;>try exact h.elim
   rename_i x t hx ht;have hx:=acj hx;have ht:=acj ht;subst hx;subst ht;split at h
   ·rename_i e hd;refine Reads.mk (s:=Builtin.len_ #[t] type #[ρ x]) (by simp[execOp,resolve,invoke,builtin,bind,Sem.bind];rfl) ?_;obtain⟨a,n,c,hx,hk⟩:=h;refine⟨_,hk,λw _=>?_⟩;obtain⟨u,hr,rfl⟩:=aE.run (P:=P) (k:=(· =_)) ⟨a,n,c,hx,rfl⟩ w (ty:=type) hd;exact hr
   ·rename_i e e' hd;refine Reads.mk (s:=Builtin.len_ #[t] type #[ρ x]) (by simp[execOp,resolve,invoke,builtin,bind,Sem.bind];rfl) ?_;exact YU h.fix λk hk w hw=>hk.run hw hd
   ·rename_i hd;refine Reads.mk (s:=Builtin.len_ #[t] type #[ρ x]) (by simp[execOp,resolve,invoke,builtin,bind,Sem.bind];rfl) ?_;obtain⟨s,hx,hk⟩:=h;exact⟨_,hk,λw _=>by simp[Builtin.len_,run_underlying hd,hx,goInt]⟩
   exact h.reads
 all_goals exact h.reads
def valOf(o:Oper)(ρ:Operand->zV)(v:zV):Prop:=
 match o.op with
 | .move x=>v=ρ x
 | .assign x=>v=ρ x
 | .pick c a b=>∀t,ρ c=.bool t->v=cond t (ρ a) (ρ b)
 |_=>True
theorem nE{o:Oper}{ρ:Operand->zV}{k:zV->Prop}(h:Dm P g o ρ H k):∃v,k v/\(∀w,Own g H w->(execOp ρ o).run P w=.ok (.value v) w)/\valOf o ρ v:=by
 obtain⟨dst,op,type,pos,after,guard⟩:=o;cases op
 case move x=>exact⟨_,h,λw _=>rfl,rfl⟩
 case assign x=>exact⟨_,h,λw _=>rfl,rfl⟩
 case pick c a b=>
  obtain⟨t,hc,hk⟩:=h;refine⟨_,hk,λw _=>?_,λt' ht'=>?_⟩
  ·cases t<;>simp[execOp,hc,asBool]
  rw[hc]at ht';simp only[Value.bool.injEq]at ht';subst ht';rfl
 all_goals
  obtain⟨v,hk,hr⟩:=j4 h;exact⟨v,hk,hr,trivial⟩
end
end Go.Sx
namespace Go.Sx
open Go
section
variable {P:Program} {g:Gh} {H:Hp} {K:zV->Hp->Prop} {KP:List PanicEntry->Hp->Prop}
def aj(P:Program)(t len:Nat)(parts:List (Nat×zV))(H:Hp)(k:zV->Hp->Prop):Prop:=
 ∃cs,(∃e n z,P.underlying t=some (.slice e)/\cA P e=some n/\dV P e=some z/\len*n<=2^24/\
   Instr.fill (λi=>some (i*n,n)) ((Array.range (len*n)).map (z.cells[· %z.cells.size]!)) parts=some cs/\
   Fb H (.cells cs e zZ) λb H'=>k (.slice (some ⟨b,0,none⟩) len len) H')
def Sq(P:Program)(g:Gh)(o:Oper)(ρ:Operand->zV)(H:Hp)(K:zV->Hp->Prop)(KP:List PanicEntry->Hp->Prop):Prop:=
 match o.op with
 | .alloc t=>match dV P t with
  |some z=>Fb H (.cells z.cells t zZ) λb H'=>K (.pointer (some ⟨b,0,none⟩)) H'
  |none=>False
 | .box t x=>Fb H (.cells (ρ x).cells t zZ) λb H'=>K (.pointer (some ⟨b,0,none⟩)) H'
 | .store t a x=>match cA P t with
  |some n=>St n H (ρ a) (ρ x) λH'=>K undef H'
  |none=>False
 | .buildSlice t len parts=>aj P t len (parts.toList.map λp=>(p.1,ρ p.2)) H K
 | .makeMap _ none=>kH H K
 | .makeSlice t l c=>match P.underlying t with
  |some (.slice e)=>match cA P e,vq P e,dV P e with
   |some n,some b,some z=>df e n b z H (ρ l) (ρ c) K
   |_,_,_=>False
  |_=>False
 | .mapUpdate t m key x=>match P.underlying t with
  |some (.map kt _)=>match P.underlying kt with
   |some kd=>cond (plainKey kd) (dJ kd H (ρ m) (ρ key) (ρ x) λH'=>K undef H') (cond (cH kd) (jM P kt H (ρ m) (ρ key) (ρ x) λH'=>K undef H') (cU P g o ρ H K KP))
   |none=>False
  |_=>False
 | .insert t m key x=>match P.underlying t with
  |some (.map kt _)=>match P.underlying kt with
   |some kd=>cond (plainKey kd) (dJ kd H (ρ m) (ρ key) (ρ x) λH'=>K undef H') (cond (cH kd) (jM P kt H (ρ m) (ρ key) (ρ x) λH'=>K undef H') (cU P g o ρ H K KP))
   |none=>False
  |_=>False
 | .range t x=>match P.underlying t with
  |some (.map _ _)=>Rng H (ρ x) K
  |_=>cU P g o ρ H K KP
 | .next it false=>ZH H (ρ it) K
 | .entry it=>Sk H (ρ it) λv=>K v H
 | .call c=>
  match c.callee with
  | .value (.func f)=>cond (bR P f) (aa P g f (c.args.toList.map ρ).toArray H K KP) (cU P g o ρ H K KP)
  | .value f=>bK P g (ρ f) (c.args.toList.map ρ).toArray H K KP
  | .builtin .append=>
   match c.args.toList,c.argTypes.toList with
   | [s,x],[t,t']=>match P.underlying t,P.underlying t' with
    |some (.slice e),some (.slice _)=>match cA P e,vq P e,dV P e with
     |some n,some b,some z=>App P e n b z H (ρ s) (ρ x) K
     |_,_,_=>False
    |_,_=>cU P g o ρ H K KP
   |_,_=>False
  | .builtin .delete=>
   match c.args.toList,c.argTypes.toList with
   | [m,key],[t,_]=>match P.underlying t with
    |some (.map kt _)=>match P.underlying kt with
     |some kd=>cond (plainKey kd) (vR kd H (ρ m) (ρ key) λH'=>K (.tuple #[]) H') (cond (cH kd) (qI P kt H (ρ m) (ρ key) λH'=>K (.tuple #[]) H') (cU P g o ρ H K KP))
     |none=>False
    |_=>False
   |_,_=>cU P g o ρ H K KP
  |_=>cU P g o ρ H K KP
 |_=>cU P g o ρ H K KP
theorem nf{t:TypeId}{n:Nat}(h:vq P t=some n):∃i,P.info? t=some i/\i.bytes=n:=by
 unfold vq at h;split at h
 ·rename_i i hi;exact⟨i,hi,by simpa using h⟩
 simp at h
theorem cU.ofValue{o:Oper}{ρ:Operand->zV}{s:Sem zV}(he:execOp ρ o=(do pure (.value (<-s))))(h:∀w,Own g H w->∃v w' H',s.run P w=.ok v w'/\Own g H' w'/\K v H'):cU P g o ρ H K KP:=by
 intro w hw;obtain⟨v,w',H',hr,ho,hk⟩:=h w hw;rw[he];simp only[Sem.run_bind,hr,Result.andThen_ok,Sem.run_pure];exact⟨H',ho,hk⟩
theorem cU.rf{o:Oper}{ρ:Operand->zV}{s:Sem Unit}(he:execOp ρ o=(do s;pure .skip))(h:∀w,Own g H w->∃w' H',s.run P w=.ok () w'/\Own g H' w'/\K undef H'):cU P g o ρ H K KP:=by
 intro w hw;obtain⟨w',H',hr,ho,hk⟩:=h w hw;rw[he];simp only[Sem.run_bind,hr,Result.andThen_ok,Sem.run_pure];exact⟨H',ho,hk⟩
theorem dS{f:FuncId}(h:bR P f=true)(args:Array zV)(w:World):(callFunc f args).run P w=.ok (.enter f args) w:=by
 unfold bR at h;split at h
 ·simp at h
 rename_i fn hf;simp only[xaC,xbU]at h;obtain⟨h1,h2⟩:=h;have h3:fn.body.isNone=false:=by cases hb:fn.body<;>simp_all
 simp only[callFunc,Sem.run_bind,run_program,Result.andThen_ok,hf,show(fn.name== "runtime.NumGoroutine")=false from h1,h3,xaD,xaT];rfl
theorem bK.op{o:Oper}{c:Call}{ρ:Operand->zV}{x:Operand}(ho:o.op=.call c)(hc:c.callee=.value x)(h:bK P g (ρ x) (c.args.toList.map ρ).toArray H K KP):cU P g o ρ H K KP:=by
 obtain⟨f,first,captured,hf,jS,IW⟩:=h;rw[mapList]at IW;intro w hw;have hr:(execOp ρ o).run P w=.ok (.enter f (first++c.args.map ρ++captured)) w:=by
  simp only[execOp,ho,resolve,hc,Deferred.ofValue,hf,invoke];show(callFunc f (first++c.args.map ρ++captured)).run P w=_;exact dS jS _ w
 rw[hr];exact IW w hw
theorem uA{o:Oper}{ρ:Operand->zV}(hρ:∀f,ρ (.func f)=.func (.func f) #[] #[])(h:Sq P g o ρ H K KP):cU P g o ρ H K KP:=by
 unfold Sq at h;split at h
 case h_1 t hop=>
  split at h
  ·rename_i z hz;obtain⟨i,hi,wT⟩:=cB hz;refine cU.ofValue (s:=Instr.alloc t true (.tuple #[])) (by simp only[execOp,hop]) λw hw=>⟨_,_,_,?_,hw.alloc _,h _ hw.fresh⟩;simp[Instr.alloc,dB hi wT,newVar,newRow]
  exact h.elim
 case h_2 t x hop=>
  refine cU.ofValue (s:=Instr.box t (ρ x)) (by simp only[execOp,hop]) λw hw=>⟨_,_,_,?_,hw.alloc _,h _ hw.fresh⟩;simp[Instr.box,newVar,newRow]
 case h_3 t a x hop=>
  split at h
  ·rename_i n hn;obtain⟨i,hi,hin⟩:=aU hn;exact cU.rf (s:=Instr.storeAt t (ρ a) (ρ x)) (by simp only[execOp,hop]) λw hw=>h.run hw hi hin
  exact h.elim
 case h_4 t len parts hop=>
  obtain⟨cs,e,n,z,ht,hn,hz,hl,hf,hk⟩:=h;obtain⟨i,hi,hin⟩:=aU hn;obtain⟨i',hi',wT⟩:=cB hz;have:i'=i:=xbF (hi'.symm.trans hi);subst this;subst hin;refine cU.ofValue (s:=Instr.buildSlice t len (parts.map λ(i,x)=>(i,ρ x))) (by simp only[execOp,hop]) λw hw=>⟨_,_,_,?_,hw.alloc _,hk _ hw.fresh⟩;have hl':¬(len*i'.size>2^24):=by omega
  have mq:(parts.map λ(x:Nat×Operand)=>(x.1,ρ x.2)).toList=parts.toList.map λp=>(p.1,ρ p.2):=by rw[xd0]
  by_cases h0:len*i'.size=0
  ·simp only[Instr.buildSlice,Sem.run_bind,run_underlying ht,Result.andThen_ok,run_sizeOf hi,hl',xaT,h0,xa7,Sem.run_pure];rw[h0]at hf;have XL:Array.range 0=#[]:=rfl;simp only[XL,xex,List.map_toArray,xcL]at hf⊢;rw[mq,hf];simp[newRow]
  simp only[Instr.buildSlice,Sem.run_bind,run_underlying ht,Result.andThen_ok,run_sizeOf hi,hl',xaT,h0,dB hi wT,Sem.run_pure];simp[hf,newRow]
 case h_5 t hop=>
  refine cU.ofValue (s:=Instr.makeMap t none) (by simp only[execOp,hop];rfl) λw hw=>⟨_,_,_,?_,hw.alloc _,h _ hw.fresh⟩;simp[Instr.makeMap]
 case h_6 t l c hop=>
  split at h<;>try exact h.elim
  rename_i e ht;split at h<;>try exact h.elim
  rename_i n b z hn hb hz;obtain⟨i,hi,hin⟩:=aU hn;obtain⟨i',hi',wT⟩:=cB hz;obtain⟨i2,IV,x9⟩:=nf hb;have e1:i'=i:=xbF (hi'.symm.trans hi);have e2:i2=i:=xbF (IV.symm.trans hi);subst e1;subst e2;exact cU.ofValue (s:=Instr.makeSlice t (ρ l) (ρ c)) (by simp only[execOp,hop]) λw hw=>h.run hw ht hi wT hin x9
 case h_7 t m key x hop=>
  split at h<;>try exact h.elim
  rename_i kt e ht;split at h<;>try exact h.elim
  rename_i kd BO;cases hp:plainKey kd<;>simp only[hp,xao,xaj]at h
  ·cases lg:cH kd<;>simp only[lg,xao,xaj]at h
   ·exact h
   exact cU.rf (s:=Instr.mapUpdate t (ρ m) (ρ key) (ρ x)) (by simp only[execOp,hop]) λw hw=>h.run hw ht BO lg
  exact cU.rf (s:=Instr.mapUpdate t (ρ m) (ρ key) (ρ x)) (by simp only[execOp,hop]) λw hw=>h.run hw ht BO hp
 case h_8 t m key x hop=>
  split at h<;>try exact h.elim
  rename_i kt e ht;split at h<;>try exact h.elim
  rename_i kd BO;cases hp:plainKey kd<;>simp only[hp,xao,xaj]at h
  ·cases lg:cH kd<;>simp only[lg,xao,xaj]at h
   ·exact h
   exact cU.rf (s:=Instr.mapUpdate t (ρ m) (ρ key) (ρ x)) (by simp only[execOp,hop]) λw hw=>h.run hw ht BO lg
  exact cU.rf (s:=Instr.mapUpdate t (ρ m) (ρ key) (ρ x)) (by simp only[execOp,hop]) λw hw=>h.run hw ht BO hp
 case h_9 t x hop=>
  split at h
  ·rename_i kt e ht;exact cU.ofValue (s:=Instr.range t (ρ x)) (by simp only[execOp,hop]) λw hw=>h.run hw ht
  exact h
 case h_10 it hop=>
  exact cU.ofValue (s:=Instr.next (ρ it) false o.type) (by simp only[execOp,hop]) λw hw=>h.run hw
 case h_11 it hop=>
  exact cU.ofValue (s:=Instr.entry (ρ it)) (by simp only[execOp,hop]) λw hw=>let ⟨v,hr,hk⟩:=h.run hw;⟨v,w,H,hr,hw,hk⟩
 case h_12 c hop=>
  split at h
  ·rename_i f hc;cases jS:bR P f<;>simp only[jS,xao,xaj]at h
   ·exact h
   rw[mapList]at h;intro w hw;have hr:(execOp ρ o).run P w=.ok (.enter f (c.args.map ρ)) w:=by
    simp only[execOp,hop,resolve,hc,Deferred.ofValue,hρ,invoke];show(callFunc f ((#[]++c.args.map ρ)++ #[])).run P w=_;rw[xdq,xdJ];exact dS jS _ w
   rw[hr];exact h w hw
  ·rename_i x _ hc;exact bK.op hop hc h
  ·rename_i hc;split at h<;>try exact h.elim
   rename_i s x t t' hx ht;have hx:=CQ hx;have ht:=CQ ht;split at h
   ·rename_i e e' hd dG;split at h<;>try exact h.elim
    rename_i n b z hn hb hz;obtain⟨i,hi,hin⟩:=aU hn;obtain⟨i',hi',wT⟩:=cB hz;obtain⟨i2,IV,x9⟩:=nf hb;have e1:i'=i:=xbF (hi'.symm.trans hi);have e2:i2=i:=xbF (IV.symm.trans hi);subst e1;subst e2;refine cU.ofValue (s:=Builtin.append_ #[t,t'] o.type #[ρ s,ρ x]) ?_ λw hw=>h.run hw hd ⟨_,dG⟩ hi wT hin x9;simp only[execOp,hop,resolve,hc,hx,ht,invoke,builtin];simp[bind,Sem.bind];rfl
   exact h
  ·rename_i hc;split at h
   ·rename_i m key t t' hx ht;have hx:=CQ hx;have ht:=CQ ht;split at h<;>try exact h.elim
    rename_i kt e hd;split at h<;>try exact h.elim
    rename_i kd BO;cases hp:plainKey kd<;>simp only[hp,xao,xaj]at h
    ·cases lg:cH kd<;>simp only[lg,xao,xaj]at h
     ·exact h
     refine cU.ofValue (s:=Builtin.delete_ #[t,t'] o.type #[ρ m,ρ key]) ?_ λw hw=>?_
     ·simp only[execOp,hop,resolve,hc,hx,ht,invoke,builtin];simp[bind,Sem.bind];rfl
     obtain⟨w',H',hr,ho,hk⟩:=h.run (P:=P) hw (as:=#[t,t']) (ty:=o.type) rfl hd BO lg;exact⟨_,w',H',hr,ho,hk⟩
    refine cU.ofValue (s:=Builtin.delete_ #[t,t'] o.type #[ρ m,ρ key]) ?_ λw hw=>?_
    ·simp only[execOp,hop,resolve,hc,hx,ht,invoke,builtin];simp[bind,Sem.bind];rfl
    obtain⟨w',H',hr,ho,hk⟩:=h.run (P:=P) hw (as:=#[t,t']) (ty:=o.type) rfl hd BO hp;exact⟨_,w',H',hr,ho,hk⟩
   exact h
  exact h
 all_goals exact h
end
end Go.Sx
namespace Go.Sx
open Go
section
variable {P:Program} {g:Gh} {ds:List Deferred}
def uM:Op->Bool
 | .move _| .assign _| .pick .. | .load .. | .nilCheck _| .binOp .. | .unOp .. | .convert .. | .fieldAddr .. | .field .. | .indexAddr .. | .index .. | .slice .. | .extract .. | .lookup .. | .makeFunc .. | .build .. | .makeInterface ..
 | .typeAssert .. =>true
 | .call c=>match c.callee with
  | .builtin .len| .builtin .cap| .builtin .min| .builtin .max=>true
  |_=>false
 |_=>false
def WR(P:Program)(g:Gh)(f:FuncId)(args:Array zV)(H:Hp)(k:zV->Prop):Prop:=
 ∃v,aY P g f args H (λe H'=>e=.returned v/\H'=H)/\k v
def opQ(P:Program)(g:Gh)(o:Oper)(ρ:Operand->zV)(H:Hp)(k:zV->Prop):Prop:=
 match o.op with
 | .call c=>match c.callee with
  | .value (.func f)=>cond (bR P f) (WR P g f (c.args.toList.map ρ).toArray H k) False
  | .value x=>∃f first captured,ρ x=.func (.func f) first captured/\bR P f=true/\WR P g f (first++(c.args.toList.map ρ).toArray++captured) H k
  |_=>False
 |_=>False
def cy:Option (Nat×Bool)->Option (Nat×Bool)->Bool
 |none,none=>true
 |some (i,a),some (j,b)=>Nat.beq i j&& (a==b)
 |_,_=>false
theorem iC{x y:Option (Nat×Bool)}(h:cy x y=true):x=y:=by
 cases x with
 |none=>cases y<;>simp_all[cy]
 |some a=>
  obtain⟨i,a⟩:=a;cases y with
  |none=>simp[cy]at h
  |some b=>
   obtain⟨j,b⟩:=b;simp only[cy,xaC,xc0]at h;rw[xaI h.1,h.2]
def gB(cur:Option (Nat×Bool)):List Oper->List Oper
 | []=>[]
 |o::r=>cond (cy o.guard cur) [] (o::gB cur r)
def iA(cur:Option (Nat×Bool)):List Oper->List Oper
 | []=>[]
 |o::r=>cond (cy o.guard cur) (o::r) (iA cur r)
theorem rZ(cur:Option (Nat×Bool))(l:List Oper):gB cur l++iA cur l=l:=by
 induction l with
 |nil=>rfl
 |cons o r ih=>simp only[gB,iA];cases cy o.guard cur<;>simp[ih]
def r5:List Oper->Fr->Fr
 | [],fr=>fr
 |o::r,fr=>r5 r (bT fr o.dst undef)
def aX:List Oper->Nat->Bool
 | [],_=>false
 |o::r,s=>(match o.dst with|some d=>Nat.beq s d|none=>false)||aX r s
def g9(n:Nat):List Oper->Bool
 | []=>true
 |o::r=>dF n o.dst&&g9 n r
def rC(G:List Oper)(gs fr:Fr):Fr:=λs=>cond (aX G s) (gs s) (fr s)
def oY(p:Oper)(fr:Fr):zV:=
 match p.op with
 | .pick c a b=>match ev fr c with
  | .bool t=>cond t (ev fr a) (ev fr b)
  |_=>undef
 |_=>undef
def ru(p:Oper):Bool:=match p.op with| .pick .. =>true|_=>false
def ej(ops:Array Oper)(j:Nat):Option Nat:=match ops[j]? with|some oj=>oj.dst|none=>none
def mC(ops:Array Oper)(s:Nat)(want:Bool):zL->List Oper->Bool
 |_,[]=>true
 |seen,o::r=>
  (match o.guard with
  |none=>false
  |some (j,w)=>match ej ops j with
   |none=>false
   |some t=>(Nat.beq t s&& (w==want))||seen.any (Nat.beq t)) &&
  mC ops s want (match o.dst with|some d=>d::seen|none=>seen) r
def cz(v:zV)(want:Bool)(inner els k:Bool->Prop):Prop:=∃a t:Bool,v=.bool a/\(a=want->inner t)/\(a= !want->els t)/\k t
def Split(v:zV)(want:Bool)(k1 k2:Prop):Prop:=∃a:Bool,v=.bool a/\(a=want->k1)/\(a= !want->k2)
def kf:List (Nat×Bool)->Nat->Option Bool
 | [],_=>none
 |(t,b)::r,s=>cond (Nat.beq t s) (some b) (kf r s)
def lR:List (Nat×Bool)->Option Nat->List (Nat×Bool)
 |kn,none=>kn
 | [],some _=>[]
 |(t,b)::r,some d=>cond (Nat.beq t d) (lR r (some d)) ((t,b)::lR r (some d))
def k8:List (Nat×Bool)->List Oper->List (Nat×Bool)
 |kn,[]=>kn
 |kn,o::r=>k8 (lR kn o.dst) r
def pZ(kn:List (Nat×Bool)):Operand->Option Bool
 | .const (.bool b)=>some b
 | .tmp t=>kf kn t
 |_=>none
def XA(kn:List (Nat×Bool))(o:Oper):Option Bool:=
 match o.op with
 | .move x=>pZ kn x
 | .assign x=>pZ kn x
 | .pick c a b=>match pZ kn c with
  |some true=>pZ kn a
  |some false=>pZ kn b
  |none=>none
 |_=>none
def Xz(kn:List (Nat×Bool))(o:Oper):List (Nat×Bool):=
 match XA kn o,o.dst with
 |some b,some d=>(d,b)::lR kn (some d)
 |_,d=>lR kn d
def gN(kn:List (Nat×Bool))(fr:Fr):Prop:=∀s b,kf kn s=some b->fr s=.bool b
theorem gN.nil(fr:Fr):gN [] fr:=λs b h=>by simp[kf]at h
theorem xQ{kn:List (Nat×Bool)}{d s:Nat}{b:Bool}(h:kf (lR kn (some d)) s=some b):s≠d/\kf kn s=some b:=by
 induction kn with
 |nil=>simp[lR,kf]at h
 |cons x r ih=>
  obtain⟨t,c⟩:=x;simp only[lR]at h;cases hb:Nat.beq t d<;>simp only[hb,xao,xaj]at h
  ·simp only[kf]at h⊢;cases hs:Nat.beq t s<;>simp only[hs,xao,xaj]at h⊢
   ·exact ih h
   refine⟨λe=>?_,h⟩;have:=xaI hs;subst this;subst e;simp at hb
  have h':=ih h;refine⟨h'.1,?_⟩;simp only[kf];have:=xaI hb;subst this;cases hs:Nat.beq t s
  ·exact h'.2
  exact absurd (xaI hs).symm h'.1
theorem gN.del{kn:List (Nat×Bool)}{fr:Fr}(h:gN kn fr)(d:Option Nat)(v:zV):gN (lR kn d) (bT fr d v):=by
 cases d with
 |none=>cases kn<;>exact h
 |some d=>
  intro s b hs;obtain⟨h1,h2⟩:=xQ hs;simp only[bT];cases hb:Nat.beq s d
  ·exact h s b h2
  exact absurd (xaI hb) h1
theorem gN.put{kn:List (Nat×Bool)}{fr:Fr}(h:gN kn fr){s:Nat}{b:Bool}(hs:fr s=.bool b):gN ((s,b)::kn) fr:=by
 intro t c ht;simp only[kf]at ht;cases hb:Nat.beq s t<;>simp only[hb,xao,xaj]at ht
 ·exact h t c ht
 have:=xaI hb;subst this;simp only[xas]at ht;subst ht;exact hs
theorem j9{kn:List (Nat×Bool)}{fr:Fr}(h:gN kn fr){x:Operand}{b:Bool}(hx:pZ kn x=some b):ev fr x=.bool b:=by
 cases x with
 |tmp t=>exact h t b hx
 |const v=>cases v<;>simp[pZ]at hx;subst hx;rfl
 |global g=>simp[pZ]at hx
 |func f=>simp[pZ]at hx
theorem Ua{kn:List (Nat×Bool)}{fr:Fr}(h:gN kn fr){o:Oper}{v:zV}(hv:valOf o (ev fr) v){b:Bool}(hb:XA kn o=some b):v=.bool b:=by
 unfold XA at hb;unfold valOf at hv;split at hb
 ·rename_i x hop;rw[hop]at hv;exact hv.trans (j9 h hb)
 ·rename_i x hop;rw[hop]at hv;exact hv.trans (j9 h hb)
 ·rename_i c a b' hop;rw[hop]at hv;split at hb
  ·rename_i hc;rw[hv _ (j9 h hc)];exact j9 h hb
  ·rename_i hc;rw[hv _ (j9 h hc)];exact j9 h hb
  simp at hb
 simp at hb
theorem gN.up{kn:List (Nat×Bool)}{fr:Fr}(h:gN kn fr){o:Oper}{v:zV}(hv:valOf o (ev fr) v):gN (Xz kn o) (bT fr o.dst v):=by
 unfold Xz;split
 ·rename_i b d hb hd;rw[hd];exact(h.del (some d) v).put (by simp[bT,Ua h hv hb])
 exact h.del _ _
theorem gN.ab6{kn:List (Nat×Bool)}{fr fr':Fr}:∀(l:List Oper),gN kn fr->(∀s,aX l s=false->fr' s=fr s)->gN (k8 kn l) fr':=by
 intro l;have key:∀(l:List Oper) (kn:List (Nat×Bool)) (s:Nat) (b:Bool),kf (k8 kn l) s=some b->aX l s=false/\kf kn s=some b:=by
  intro l;induction l with
  |nil=>intro kn s b h;exact⟨rfl,h⟩
  |cons o r ih=>
   intro kn s b h;simp only[k8]at h;obtain⟨h1,h2⟩:=ih _ s b h;simp only[aX,h1,Bool.or_false];cases hd:o.dst with
   |none=>rw[hd]at h2;exact⟨rfl,by cases kn<;>exact h2⟩
   |some d=>
    rw[hd]at h2;obtain⟨h3,h4⟩:=xQ h2;refine⟨?_,h4⟩;cases hb:Nat.beq s d
    ·exact hb
    exact absurd (xaI hb) h3
 intro h ho s b hs;obtain⟨h1,h2⟩:=key l kn s b hs;rw[ho s h1];exact h s b h2
def dI(P:Program)(g:Gh)(n:Nat)(ops:Array Oper)(gq:Bool):Nat->Bool->Option (Nat×Bool)->List (Nat×Bool)->List Oper->Fr->Hp->(List (Nat×Bool)->Fr->Hp->Prop)->(List PanicEntry->Hp->Prop)->Prop
 |0,_,_,_,_,_,_,_,_=>False
 |_+1,_,_,kn,[],fr,H,K,_=>K kn fr H
 |f+1,q,cur,kn,o::r,fr,H,K,KP=>
  cond (cy o.guard cur)
   (cond (dF n o.dst)
    (cond (uM o.op) (Dm P g o (ev fr) H λv=>dI P g n ops gq f q cur (Xz kn o) r (bT fr o.dst v) H K KP)
     (cond q (opQ P g o (ev fr) H λv=>dI P g n ops gq f q cur (lR kn o.dst) r (bT fr o.dst v) H K KP)
      (Sq P g o (ev fr) H (λv H'=>dI P g n ops gq f q cur (lR kn o.dst) r (bT fr o.dst v) H' K KP) KP))) False)
   (match o.guard with
   |none=>False
   |some (j,want)=>
    match ej ops j with
    |none=>False
    |some s=>
     cond (dF n (some s) &&g9 n (gB cur (o::r)) && !aX (gB cur (o::r)) s&&mC ops s want [] (gB cur (o::r)))
     (match kf kn s with
     |some b=>cond (b==want)
       (dI P g n ops gq f q o.guard kn (gB cur (o::r)) fr H (λom fr' H'=>dI P g n ops gq f q cur om (iA cur (o::r)) fr' H' K KP) KP)
       (dI P g n ops gq f q cur (k8 kn (gB cur (o::r))) (iA cur (o::r)) (r5 (gB cur (o::r)) fr) H K KP)
     |none=>
     cond (q||gq)
      (match iA cur (o::r)with
      | []=>False
      |p::r'=>
       cond (ru p&&dF n p.dst)
       (cz (fr s) want
        (λt=>dI P g n ops gq f true o.guard ((s,want)::kn) (gB cur (o::r)) (bT fr (some s) (.bool want)) H (λ_ fr' H'=>H'=H/\oY p fr'=.bool t) (λ_ _=>False))
        (λt=>oY p (r5 (gB cur (o::r)) (bT fr (some s) (.bool !want)))=.bool t)
        (λt=>∀gs,dI P g n ops gq f q cur (lR (k8 kn (gB cur (o::r))) p.dst) r' (bT (rC (gB cur (o::r)) gs fr) p.dst (.bool t)) H K KP)) False)
      (Split (fr s) want
       (dI P g n ops gq f q o.guard ((s,want)::kn) (gB cur (o::r)) (bT fr (some s) (.bool want)) H (λom fr' H'=>dI P g n ops gq f q cur om (iA cur (o::r)) fr' H' K KP) KP)
       (dI P g n ops gq f q cur ((s, !want)::k8 kn (gB cur (o::r))) (iA cur (o::r)) (r5 (gB cur (o::r)) (bT fr (some s) (.bool !want))) H K KP))) False)
theorem jV{fr:Fr}{s:Nat}{v:zV}(h:fr s=v):bT fr (some s) v=fr:=by
 funext x
 simp only[bT];cases hb:Nat.beq x s
 ·rfl
 have:=xaI hb;subst this;simp[h]
theorem fC{fr:Fr}{d:Option Nat}{v:zV}{s:Nat}(h:aX [({(default:Oper)with dst:=d})] s=false):bT fr d v s=fr s:=by
 cases d with
 |none=>rfl
 |some d=>simp only[aX,Bool.or_false]at h;simp only[bT,h,xaj]
theorem cI{o:Oper}{r:List Oper}{s:Nat}:aX (o::r) s=(aX [({(default:Oper)with dst:=o.dst})] s||aX r s):=by
 simp[aX]
theorem bZ{a b:List Oper}{s:Nat}:aX (a++b) s=(aX a s||aX b s):=by
 induction a with
 |nil=>simp[aX]
 |cons o r ih=>simp only[xaS,aX,ih,Bool.or_assoc]
def dY(l:List Oper)(fr fr':Fr):Prop:=∀s,aX l s=false->fr' s=fr s
def kK(ops:Array Oper)(cur:Option (Nat×Bool))(l:List Oper)(fr:Fr):Prop:=
 match cur with
 |none=>True
 |some (j,want)=>∃s,ej ops j=some s/\fr s=.bool want/\aX l s=false
theorem kK.tail{ops:Array Oper}{cur:Option (Nat×Bool)}{o:Oper}{r:List Oper}{fr fr':Fr}(h:kK ops cur (o::r) fr)(he:∀s,aX [({(default:Oper)with dst:=o.dst})] s=false->fr' s=fr s):kK ops cur r fr':=by
 unfold kK at*;split
 ·trivial
 obtain⟨s,h1,h2,h3⟩:=h;rw[cI,xaL]at h3;exact⟨s,h1,(he s h3.1).trans h2,h3.2⟩
theorem kN{n:Nat}{ops:Array Oper}{a:Act}{fr:Fr}(h:bS ds n a fr){j s:Nat}(hs:ej ops j=some s):yielded ops a.tmps j=match fr s with| .bool b=>some b|_=>none:=by
 unfold ej at hs;split at hs
 ·rename_i oj hj;have hg:=h.get s;rw[xav]at hg;simp only[yielded,hj,xd1,hs];cases ht:a.tmps[s]? with
  |none=>rw[ht]at hg;simp only[xdz]at hg;rw[<-hg];rfl
  |some v=>rw[ht]at hg;simp only[xdA]at hg;rw[<-hg];cases v<;>rfl
 ·simp at hs
theorem kK.wanted{n:Nat}{ops:Array Oper}{cur:Option (Nat×Bool)}{l:List Oper}{fr:Fr}(h:kK ops cur l fr){o:Oper}(ho:o.guard=cur){a:Act}(ha:bS ds n a fr):Region.wanted o (yielded ops a.tmps)=true:=by
 unfold kK at h;unfold Region.wanted;rw[ho];split at h
 ·rfl
 obtain⟨s,h1,h2,_⟩:=h;simp only[kN ha h1,h2,xeu]
theorem oX{p:Oper}{fr:Fr}{t:Bool}(hp:ru p=true)(h:oY p fr=.bool t)(w:World):(execOp (ev fr) p).run P w=.ok (.value (.bool t)) w:=by
 unfold ru at hp;split at hp<;>try (simp at hp;done)
 rename_i c a b hop;simp only[oY,hop]at h;split at h
 ·rename_i t' hc;simp only[execOp,hop,hc,asBool];cases t'<;>simp only[xao,xaj]at h<;>simp[h]
 simp[undef]at h
theorem nA{n:Nat}{ops:Array Oper}{Q:Exit->Act->World->Prop}{s:Nat}{want:Bool}{w:World}{rest:List Oper}:∀(l:List Oper) (seen:zL) (fr:Fr) (a:Act),g9 n l=true->aX l s=false->mC ops s want seen l=true->
  fr s=.bool (!want)->(∀t∈seen,fr t=undef)->bS ds n a fr->(∀a',bS ds n a' (r5 l fr)->wpList P ops Q rest a' w)->wpList P ops Q (l++rest) a w
 | [],_,fr,a,_,_,_,_,_,ha,hk=>hk a ha
 |o::r,seen,fr,a,hd,hi,hs,hf,uO,ha,hk=>by
  simp only[g9,xaC]at hd;rw[cI,xaL]at hi;simp only[mC,xaC]at hs;obtain⟨hs1,l8⟩:=hs;have hnw:Region.wanted o (yielded ops a.tmps)=false:=by
   unfold Region.wanted;split at hs1
   ·simp at hs1
   rename_i j w' hg;rw[hg];split at hs1
   ·simp at hs1
   rename_i t ht;simp only[kN ha ht];simp only[xcl,xaC,xc0]at hs1;rcases hs1 with⟨h1,rfl⟩|h1
   ·have:=xaI h1;subst this;rw[hf];cases w'<;>rfl
   obtain⟨u,hu,hb⟩:=xcD.1 h1;have:=xaI hb;subst this;rw[uO _ hu];rfl
  simp only[xaS,wpList,hnw,xaD,xaT];refine nA r _ (bT fr o.dst undef) _ hd.2 hi.2 l8 ?_ ?_ (ha.put hd.1 undef) (λa' h'=>hk a' h')
  ·rw[fC hi.1,hf]
  intro t ht;cases Qk:o.dst with
  |none=>rw[Qk]at ht;exact uO t ht
  |some d=>
   rw[Qk]at ht;simp only[bT];cases hb:Nat.beq t d
   ·simp only[xaj];rcases xag.1 ht with rfl|ht
    ·simp at hb
    exact uO t ht
   rfl
theorem oH{n:Nat}{ops:Array Oper}{C:World->Prop}{Q:Act->Prop}{s:Nat}{want:Bool}{rest:List Oper}:∀(l:List Oper) (seen:zL) (fr:Fr) (a:Act),g9 n l=true->aX l s=false->mC ops s want seen l=true->
  fr s=.bool (!want)->(∀t∈seen,fr t=undef)->bS ds n a fr->(∀a',bS ds n a' (r5 l fr)->wpQuiet P ops C Q rest a')->wpQuiet P ops C Q (l++rest) a
 | [],_,fr,a,_,_,_,_,_,ha,hk=>hk a ha
 |o::r,seen,fr,a,hd,hi,hs,hf,uO,ha,hk=>by
  simp only[g9,xaC]at hd;rw[cI,xaL]at hi;simp only[mC,xaC]at hs;obtain⟨hs1,l8⟩:=hs;have hnw:Region.wanted o (yielded ops a.tmps)=false:=by
   unfold Region.wanted;split at hs1
   ·simp at hs1
   rename_i j w' hg;rw[hg];split at hs1
   ·simp at hs1
   rename_i t ht;simp only[kN ha ht];simp only[xcl,xaC,xc0]at hs1;rcases hs1 with⟨h1,rfl⟩|h1
   ·have:=xaI h1;subst this;rw[hf];cases w'<;>rfl
   obtain⟨u,hu,hb⟩:=xcD.1 h1;have:=xaI hb;subst this;rw[uO _ hu];rfl
  simp only[xaS,wpQuiet,hnw,xaD,xaT];refine oH r _ (bT fr o.dst undef) _ hd.2 hi.2 l8 ?_ ?_ (ha.put hd.1 undef) (λa' h'=>hk a' h')
  ·rw[fC hi.1,hf]
  intro t ht;cases Qk:o.dst with
  |none=>rw[Qk]at ht;exact uO t ht
  |some d=>
   rw[Qk]at ht;simp only[bT];cases hb:Nat.beq t d
   ·simp only[xaj];rcases xag.1 ht with rfl|ht
    ·simp at hb
    exact uO t ht
   rfl
theorem cV:∀(l:List Oper) (fr:Fr),dY l fr (r5 l fr)
 | [],fr=>λs _=>rfl
 |o::r,fr=>λs hs=>by
  rw[cI,xaL]at hs;rw[r5,cV r _ s hs.2,fC hs.1]
end
end Go.Sx
namespace Go.Sx
open Go
section
variable {P:Program} {g:Gh} {ds:List Deferred}
theorem nP(fr:Fr):∀f,ev fr (.func f)=.func (.func f) #[] #[]:=λ_=>rfl
theorem Iz{o:Oper}{fr:Fr}{H:Hp}{k:zV->Prop}(h:opQ P g o (ev fr) H k):
  ∃v f args,(∀w,(execOp (ev fr) o).run P w=.ok (.enter f args) w)/\aY P g f args H (λe H'=>e=.returned v/\H'=H)/\k v:=by
 unfold opQ at h;split at h<;>try exact h.elim
 rename_i c hop;split at h<;>try exact h.elim
 ·rename_i f hc;cases jS:bR P f<;>simp only[jS,xao,xaj]at h;obtain⟨v,hs,hk⟩:=h;rw[mapList]at hs;refine⟨v,f,_,λw=>?_,hs,hk⟩;simp only[execOp,hop,resolve,hc,Deferred.ofValue,nP,invoke];show(callFunc f ((#[]++c.args.map (ev fr))++ #[])).run P w=_;rw[xdq,xdJ];exact dS jS _ w
 rename_i x _ hc;obtain⟨f,first,captured,hf,jS,v,hs,hk⟩:=h;rw[mapList]at hs;refine⟨v,f,_,λw=>?_,hs,hk⟩;simp only[execOp,hop,resolve,hc,Deferred.ofValue,hf,invoke];show(callFunc f (first++c.args.map (ev fr)++captured)).run P w=_;exact dS jS _ w
theorem ny.upon{o:Oper}{a:Act}{K:zV->Hp->Prop}{KP:List PanicEntry->Hp->Prop}{next:Act->World->Prop}{Q:Exit->Act->World->Prop}{r:Result Next}
 (h:ny P g K KP r)(hn:∀v H' w',Own g H' w'->K v H'->next (a.put o.dst v) w')(hp:∀ch H' w',Own g H' w'->KP ch H'->Q (.panic ch) a w'):o.upon P a next Q r:=by
 cases r with
 |ok n w'=>
  cases n<;>simp only[ny]at h<;>simp only[Oper.upon]
  case value v=>obtain⟨H',ho,hk⟩:=h;exact hn _ _ _ ho hk
  case skip=>obtain⟨H',ho,hk⟩:=h;exact hn _ _ _ ho hk
  case enter f args=>
   refine h.mono λe w'' ⟨H',ho,hk⟩=>?_;cases e with
   |returned v=>exact hn _ _ _ ho hk
   |panicked ch=>exact hp _ _ _ ho hk
   |outgrown=>exact hk.elim
 |halt x w'=>
  cases x<;>simp only[ny]at h
  case panic v=>obtain⟨H',ho,hk⟩:=h;exact hp _ _ _ ho hk
theorem dY.refl(l:List Oper)(fr:Fr):dY l fr fr:=λ_ _=>rfl
theorem dY.cons{o:Oper}{r:List Oper}{fr fr':Fr}{v:zV}(h:dY r (bT fr o.dst v) fr'):dY (o::r) fr fr':=λs hs=>by
 rw[cI,xaL]at hs;rw[h s hs.2,fC hs.1]
theorem cf{n:Nat}{ops:Array Oper}{gq:Bool}:∀(f:Nat) (q:Bool) (cur:Option (Nat×Bool)) (kn:List (Nat×Bool)) (l:List Oper) (fr:Fr) (H:Hp) (K:List (Nat×Bool)->Fr->Hp->Prop) (KP:List PanicEntry->Hp->Prop),
  dI P g n ops gq f q cur kn l fr H K KP->kK ops cur l fr->gN kn fr->∀(a:Act) (w:World),bS ds n a fr->Own g H w->∀(rest:List Oper) (Q:Exit->Act->World->Prop),
  (∀a' w' om fr' H',bS ds n a' fr'->Own g H' w'->dY l fr fr'->gN om fr'->K om fr' H'->wpList P ops Q rest a' w')->
  (∀ch a' w' fr' H',bS ds n a' fr'->Own g H' w'->KP ch H'->Q (.panic ch) a' w')->wpList P ops Q (l++rest) a w
 |0,_,_,_,_,_,_,_,_,h=>h.elim
 |f+1,q,cur,kn,[],fr,H,K,KP,h=>λ_ hkn a w ha hw rest Q hk _=>hk a w kn fr H ha hw (dY.refl _ _) hkn h
 |f+1,q,cur,kn,o::r,fr,H,K,KP,h=>by
  intro td hkn a w ha hw rest Q hk hp;unfold dI at h;cases Wb:cy o.guard cur<;>simp only[Wb,xao,xaj]at h
  case true=>
   have hg:=iC Wb;have oo:=td.wanted hg ha;cases hd:dF n o.dst<;>simp only[hd,xao,xaj]at h;simp only[xaS,wpList,oo,xa7];refine .inl ?_;unfold Oper.wp;rw[ha.eval];cases BP:uM o.op<;>simp only[BP,xao,xaj]at h
   case true=>
    obtain⟨v,hk',hr,hv⟩:=nE h;rw[hr w hw];exact cf f q cur _ r _ H K KP hk' (td.tail λs hs=>fC hs) (hkn.up hv) _ w (ha.put hd v) hw rest Q (λa' w' om fr' H' h1 h2 h3 h5 h4=>hk a' w' om fr' H' h1 h2 h3.cons h5 h4) hp
   case false=>
    cases q<;>simp only[xao,xaj]at h
    case true=>
     obtain⟨v,f',args,hr,hs,hk'⟩:=Iz h;rw[hr w];refine(hs w hw).mono λe w'' ⟨H',ho,he,hH⟩=>?_;subst he;subst hH;exact cf f true cur _ r _ H' K KP hk' (td.tail λs hs=>fC hs) (hkn.del _ _) _ w'' (ha.put hd v) ho rest Q (λa' w' om fr' H' h1 h2 h3 h5 h4=>hk a' w' om fr' H' h1 h2 h3.cons h5 h4) hp
    case false=>
     refine(uA (nP fr) h w hw).upon (λv H' w' ho hk'=>?_) (λch H' w' ho hk'=>hp ch a w' fr H' ha ho hk');exact cf f false cur _ r _ H' K KP hk' (td.tail λs hs=>fC hs) (hkn.del _ _) _ w' (ha.put hd v) ho rest Q (λa' w' om fr' H' h1 h2 h3 h5 h4=>hk a' w' om fr' H' h1 h2 h3.cons h5 h4) hp
  case false=>
   split at h<;>try exact h.elim
   rename_i j want Za;split at h<;>try exact h.elim
   rename_i s jK;generalize hG:gB cur (o::r)=G at h;generalize hR:iA cur (o::r)=R at h;have IZ:G++R=o::r:=by rw[<-hG,<-hR];exact rZ _ _
   cases eU:(dF n (some s) &&g9 n G&& !aX G s&&mC ops s want [] G)<;>simp only[eU,xao,xaj]at h;simp only[xaC,xbU]at eU;obtain⟨⟨⟨hds,Zh⟩,Ny⟩,Wa⟩:=eU;rw[<-IZ,xai];have ahl:∀fr',dY G fr fr'->∀s,aX (o::r) s=false->fr' s=fr s:=λfr' ho s hs=>by
    rw[<-IZ,bZ,xaL]at hs;exact ho s hs.1
   have mU:∀fr',dY G fr fr'->kK ops cur R fr':=λfr' ho=>by
    unfold kK at td⊢;split
    ·trivial
    obtain⟨t,h1,h2,h3⟩:=td;have wC:=h3;rw[<-IZ,bZ,xaL]at wC;exact⟨t,h1,(ho t wC.1).trans h2,wC.2⟩
   have KX:∀fr',dY G fr fr'->gN (k8 kn G) fr':=λfr' ho=>hkn.ab6 G ho;split at h
   ·rename_i b hb;have mr:=hkn s b hb;cases UE:(b==want)<;>simp only[UE,xao,xaj]at h
    ·have n7:b= !want:=by cases b<;>cases want<;>simp_all
     subst n7;refine nA G [] fr a Zh Ny Wa mr (λt ht=>by simp at ht) ha λa' cW=>?_;refine cf f q cur _ R _ H K KP h (mU _ (cV G fr)) (KX _ (cV G fr)) a' w cW hw rest Q (λa2 w2 Ej sB H2 k1 k2 k3 k5 k4=>hk a2 w2 Ej sB H2 k1 k2 ?_ k5 k4) hp;intro x hx;have hx':=hx;rw[<-IZ,bZ,xaL]at hx';rw[k3 x hx'.2,cV G fr x hx'.1]
    have n7:b=want:=by cases b<;>cases want<;>simp_all
    subst n7;refine cf f q o.guard kn G fr H _ KP h ?_ hkn a w ha hw (R++rest) Q ?_ hp
    ·rw[Za];exact⟨s,jK,mr,Ny⟩
    intro a' w' om fr' H' g1 g2 g3 g5 g4;refine cf f q cur om R fr' H' K KP g4 (mU fr' g3) g5 a' w' g1 g2 rest Q (λa2 w2 Ej sB H2 k1 k2 k3 k5 k4=>hk a2 w2 Ej sB H2 k1 k2 ?_ k5 k4) hp;intro x hx;have hx':=hx;rw[<-IZ,bZ,xaL]at hx';rw[k3 x hx'.2,g3 x hx'.1]
   rename_i XU;cases hqq:(q||gq)<;>simp only[hqq,xao,xaj]at h
   case true=>
    split at h<;>try exact h.elim
    rename_i p r' ;have hpg:cy p.guard cur=true:=by
     have:∀l:List Oper,iA cur l=p::r'->cy p.guard cur=true:=by
      intro l;induction l with
      |nil=>intro e;simp[iA]at e
      |cons x y ih=>
       intro e;simp only[iA]at e;cases hx:cy x.guard cur<;>simp only[hx,xao,xaj]at e
       ·exact ih e
       simp only[xaz]at e;rw[<-e.1];exact hx
     exact this _ hR
    cases hpk:(ru p&&dF n p.dst)<;>simp only[hpk,xao,xaj]at h;simp only[xaC]at hpk;obtain⟨b,t,mr,h1,h2,h3⟩:=h;have gy:∀(a':Act) (w':World) (fr':Fr),bS ds n a' fr'->Own g H w'->dY G fr fr'->oY p fr'=.bool t->wpList P ops Q (p::r'++rest) a' w':=by
     intro a' w' fr' cW hw' ho XM;have oo:=(mU fr' ho).wanted (iC hpg) cW;simp only[xaS,wpList,oo,xa7];refine .inl ?_;unfold Oper.wp;rw[cW.eval,oX hpk.1 XM w'];have Qe:rC G fr' fr=fr':=by
      funext x
      simp only[rC];cases hx:aX G x
      ·exact(ho x hx).symm
      rfl
     have wC:=h3 fr';rw[Qe]at wC;refine cf f q cur _ r' _ H K KP wC ((mU fr' ho).tail λs hs=>fC hs) ((KX fr' ho).del _ _) _ w' (cW.put hpk.2 _) hw' rest Q (λa2 w2 Ej sB H2 g1 g2 g3 g5 g4=>hk a2 w2 Ej sB H2 g1 g2 ?_ g5 g4) hp;intro x hx;have hx':=hx;rw[<-IZ,bZ,xaL,cI,xaL]at hx';rw[g3 x hx'.2.2,fC hx'.2.1,ho x hx'.1]
    by_cases UE:b=want
    ·subst UE;have uV:=h1 rfl;rw[jV mr]at uV;refine cf f true o.guard _ G fr H _ _ uV ?_ (hkn.put mr) a w ha hw (p::r'++rest) Q ?_ ?_
     ·rw[Za];exact⟨s,jK,mr,Ny⟩
     ·intro a' w' om fr' H' g1 g2 g3 _ ⟨g4,g5⟩;subst g4;exact gy a' w' fr' g1 g2 g3 g5
     intro _ _ _ _ _ _ _ h0;exact h0.elim
    have n7:b= !want:=by cases b<;>cases want<;>simp_all
    have o9:=h2 n7;subst n7;rw[jV mr]at o9;refine nA G [] fr a Zh Ny Wa mr (λt ht=>by simp at ht) ha λa' cW=>?_;exact gy a' w _ cW hw (cV G fr) o9
   case false=>
    obtain⟨b,mr,h1,h2⟩:=h;by_cases UE:b=want
    ·subst UE;have uV:=h1 rfl;rw[jV mr]at uV;refine cf f q o.guard _ G fr H _ KP uV ?_ (hkn.put mr) a w ha hw (R++rest) Q ?_ hp
     ·rw[Za];exact⟨s,jK,mr,Ny⟩
     intro a' w' om fr' H' g1 g2 g3 g5 g4;refine cf f q cur om R fr' H' K KP g4 (mU fr' g3) g5 a' w' g1 g2 rest Q (λa2 w2 Ej sB H2 k1 k2 k3 k5 k4=>hk a2 w2 Ej sB H2 k1 k2 ?_ k5 k4) hp;intro x hx;have hx':=hx;rw[<-IZ,bZ,xaL]at hx';rw[k3 x hx'.2,g3 x hx'.1]
    have n7:b= !want:=by cases b<;>cases want<;>simp_all
    have o9:=h2 n7;subst n7;rw[jV mr]at o9;refine nA G [] fr a Zh Ny Wa mr (λt ht=>by simp at ht) ha λa' cW=>?_;refine cf f q cur _ R _ H K KP o9 (mU _ (cV G fr)) ((KX _ (cV G fr)).put (by rw[cV G fr s Ny,mr])) a' w cW hw rest Q (λa2 w2 Ej sB H2 k1 k2 k3 k5 k4=>hk a2 w2 Ej sB H2 k1 k2 ?_ k5 k4) hp;intro x hx;have hx':=hx;rw[<-IZ,bZ,xaL]at hx';rw[k3 x hx'.2,cV G fr x hx'.1]
theorem dw{n:Nat}{ops:Array Oper}{gq:Bool}:∀(f:Nat) (cur:Option (Nat×Bool)) (kn:List (Nat×Bool)) (l:List Oper) (fr:Fr) (H:Hp) (K:List (Nat×Bool)->Fr->Hp->Prop) (KP:List PanicEntry->Hp->Prop),
  dI P g n ops gq f true cur kn l fr H K KP->kK ops cur l fr->gN kn fr->∀(a:Act),bS ds n a fr->∀(rest:List Oper) (Q:Act->Prop),
  (∀a' om fr',bS ds n a' fr'->dY l fr fr'->gN om fr'->K om fr' H->wpQuiet P ops (Own g H) Q rest a')->wpQuiet P ops (Own g H) Q (l++rest) a
 |0,_,_,_,_,_,_,_,h=>h.elim
 |f+1,cur,kn,[],fr,H,K,KP,h=>λ_ hkn a ha rest Q hk=>hk a kn fr ha (dY.refl _ _) hkn h
 |f+1,cur,kn,o::r,fr,H,K,KP,h=>by
  intro td hkn a ha rest Q hk;unfold dI at h;cases Wb:cy o.guard cur<;>simp only[Wb,xao,xaj]at h
  case true=>
   have hg:=iC Wb;have oo:=td.wanted hg ha;cases hd:dF n o.dst<;>simp only[hd,xao,xaj]at h;simp only[xaS,wpQuiet,oo,xa7];cases BP:uM o.op<;>simp only[BP,xao,xaj]at h
   case true=>
    obtain⟨v,hk',hr,hv⟩:=nE h;refine⟨v,λw hw=>?_,?_⟩
    ·unfold Oper.quietAt;rw[ha.eval,hr w hw];exact⟨rfl,rfl⟩
    exact dw f cur _ r _ H K KP hk' (td.tail λs hs=>fC hs) (hkn.up hv) _ (ha.put hd v) rest Q (λa' om fr' h1 h3 h5 h4=>hk a' om fr' h1 h3.cons h5 h4)
   case false=>
    obtain⟨v,f',args,hr,hs,hk'⟩:=Iz h;refine⟨v,λw hw=>?_,?_⟩
    ·unfold Oper.quietAt;rw[ha.eval,hr w];refine⟨rfl,(hs w hw).mono λe w'' ⟨H',ho,he,hH⟩=>?_⟩;subst hH;exact⟨he,ho⟩
    exact dw f cur _ r _ H K KP hk' (td.tail λs hs=>fC hs) (hkn.del _ _) _ (ha.put hd v) rest Q (λa' om fr' h1 h3 h5 h4=>hk a' om fr' h1 h3.cons h5 h4)
  case false=>
   split at h<;>try exact h.elim
   rename_i j want Za;split at h<;>try exact h.elim
   rename_i s jK;generalize hG:gB cur (o::r)=G at h;generalize hR:iA cur (o::r)=R at h;have IZ:G++R=o::r:=by rw[<-hG,<-hR];exact rZ _ _
   cases eU:(dF n (some s) &&g9 n G&& !aX G s&&mC ops s want [] G)<;>simp only[eU,xao,xaj]at h;simp only[xaC,xbU]at eU;obtain⟨⟨⟨hds,Zh⟩,Ny⟩,Wa⟩:=eU;rw[<-IZ,xai];have mU:∀fr',dY G fr fr'->kK ops cur R fr':=λfr' ho=>by
    unfold kK at td⊢;split
    ·trivial
    obtain⟨t,h1,h2,h3⟩:=td;have wC:=h3;rw[<-IZ,bZ,xaL]at wC;exact⟨t,h1,(ho t wC.1).trans h2,wC.2⟩
   have KX:∀fr',dY G fr fr'->gN (k8 kn G) fr':=λfr' ho=>hkn.ab6 G ho;split at h
   ·rename_i b hb;have mr:=hkn s b hb;cases UE:(b==want)<;>simp only[UE,xao,xaj]at h
    ·have n7:b= !want:=by cases b<;>cases want<;>simp_all
     subst n7;refine oH G [] fr a Zh Ny Wa mr (λt ht=>by simp at ht) ha λa' cW=>?_;refine dw f cur _ R _ H K KP h (mU _ (cV G fr)) (KX _ (cV G fr)) a' cW rest Q (λa2 Ej sB k1 k3 k5 k4=>hk a2 Ej sB k1 ?_ k5 k4);intro x hx;have hx':=hx;rw[<-IZ,bZ,xaL]at hx';rw[k3 x hx'.2,cV G fr x hx'.1]
    have n7:b=want:=by cases b<;>cases want<;>simp_all
    subst n7;refine dw f o.guard kn G fr H _ KP h ?_ hkn a ha (R++rest) Q ?_
    ·rw[Za];exact⟨s,jK,mr,Ny⟩
    intro a' om fr' g1 g3 g5 g4;refine dw f cur om R fr' H K KP g4 (mU fr' g3) g5 a' g1 rest Q (λa2 Ej sB k1 k3 k5 k4=>hk a2 Ej sB k1 ?_ k5 k4);intro x hx;have hx':=hx;rw[<-IZ,bZ,xaL]at hx';rw[k3 x hx'.2,g3 x hx'.1]
   rename_i XU;simp only[Bool.true_or,xao]at h;split at h<;>try exact h.elim
   rename_i p r' ;have hpg:cy p.guard cur=true:=by
    have:∀l:List Oper,iA cur l=p::r'->cy p.guard cur=true:=by
     intro l;induction l with
     |nil=>intro e;simp[iA]at e
     |cons x y ih=>
      intro e;simp only[iA]at e;cases hx:cy x.guard cur<;>simp only[hx,xao,xaj]at e
      ·exact ih e
      simp only[xaz]at e;rw[<-e.1];exact hx
    exact this _ hR
   cases hpk:(ru p&&dF n p.dst)<;>simp only[hpk,xao,xaj]at h;simp only[xaC]at hpk;obtain⟨b,t,mr,h1,h2,h3⟩:=h;have gy:∀(a':Act) (fr':Fr),bS ds n a' fr'->dY G fr fr'->oY p fr'=.bool t->wpQuiet P ops (Own g H) Q (p::r'++rest) a':=by
    intro a' fr' cW ho XM;have oo:=(mU fr' ho).wanted (iC hpg) cW;simp only[xaS,wpQuiet,oo,xa7];refine⟨.bool t,λw hw=>?_,?_⟩
    ·unfold Oper.quietAt;rw[cW.eval,oX hpk.1 XM w];exact⟨rfl,rfl⟩
    have Qe:rC G fr' fr=fr':=by
     funext x
     simp only[rC];cases hx:aX G x
     ·exact(ho x hx).symm
     rfl
    have wC:=h3 fr';rw[Qe]at wC;refine dw f cur _ r' _ H K KP wC ((mU fr' ho).tail λs hs=>fC hs) ((KX fr' ho).del _ _) _ (cW.put hpk.2 _) rest Q (λa2 Ej sB g1 g3 g5 g4=>hk a2 Ej sB g1 ?_ g5 g4);intro x hx;have hx':=hx;rw[<-IZ,bZ,xaL,cI,xaL]at hx';rw[g3 x hx'.2.2,fC hx'.2.1,ho x hx'.1]
   by_cases UE:b=want
   ·subst UE;have uV:=h1 rfl;rw[jV mr]at uV;refine dw f o.guard _ G fr H _ _ uV ?_ (hkn.put mr) a ha (p::r'++rest) Q ?_
    ·rw[Za];exact⟨s,jK,mr,Ny⟩
    intro a' om fr' g1 g3 _ ⟨_,g5⟩;exact gy a' fr' g1 g3 g5
   have n7:b= !want:=by cases b<;>cases want<;>simp_all
   have o9:=h2 n7;subst n7;rw[jV mr]at o9;refine oH G [] fr a Zh Ny Wa mr (λt ht=>by simp at ht) ha λa' cW=>?_;exact gy a' _ cW (cV G fr) o9
end
end Go.Sx
namespace Go.Sx
open Go
section
variable {P:Program} {ops:Array Oper} {Q:Exit->Act->World->Prop} {md:Region.Mode} {S:Nat->World->World->Prop} {S0:World->Prop}
def cS(P:Program)(md:Region.Mode)(ops:Array Oper)(Q:Exit->Act->World->Prop)(S:Nat->World->World->Prop):Nat->Array Bool->Act->World->Prop
 |0,listed,a,w=>Region.ready md ops listed=[]/\Q .normal a w
 |n+1,listed,a,w=>(Region.ready md ops listed=[]->Q .normal a w)/\
  ∀i∈Region.ready md ops listed,wpOp P ops Q i (λa' w'=>S i w w'/\cS P md ops Q S n (listed.setIfInBounds i true) a' w') a w
theorem cS.any:∀{n:Nat} {listed:Array Bool} {a:Act} {w:World},cS P md ops Q S n listed a w->wpAny P md ops Q n listed a w
 |0,_,_,_,h=>h
 |_+1,_,_,_,h=>⟨h.1,λi hi=>wpOp_mono (λ_ _ h'=>h'.2.any) (h.2 i hi)⟩
theorem cS.mono{S':Nat->World->World->Prop}(hS:∀j w w',S j w w'->S' j w w'):∀{n:Nat} {listed:Array Bool} {a:Act} {w:World},cS P md ops Q S n listed a w->cS P md ops Q S' n listed a w
 |0,_,_,_,h=>h
 |_+1,_,_,_,h=>⟨h.1,λi hi=>wpOp_mono (λ_ _ h'=>⟨hS _ _ _ h'.1,h'.2.mono hS⟩) (h.2 i hi)⟩
def Pd(md:Region.Mode)(ops:Array Oper)(i j:Nat):Prop:=∀oj,ops[j]? =some oj->∀e∈oj.after,Region.binds md e=true->e.on≠i
def eJ(md:Region.Mode)(ops:Array Oper)(listed:Array Bool):Prop:=∀j oj,ops[j]? =some oj->listed.getD j true=true->∀e∈oj.after,Region.binds md e=true->listed.getD e.on true=true
inductive nj(md:Region.Mode)(ops:Array Oper)(i:Nat):Nat->Prop
 |one {j:Nat} {oj:Oper} {e:Edge}:ops[j]? =some oj->e∈oj.after->Region.binds md e=true->e.on=i->nj md ops i j
 |more {j:Nat} {oj:Oper} {e:Edge}:ops[j]? =some oj->e∈oj.after->Region.binds md e=true->nj md ops i e.on->nj md ops i j
theorem z9{a:Array Bool}{i:Nat}(h:a.getD i false=true):a.getD i true=true:=by
 rw[xav]at*;cases hg:a[i]? with
 |none=>rfl
 |some b=>rw[hg]at h;simpa using h
theorem sA{a:Array Bool}{i k:Nat}(h:a.getD k true=true):(a.setIfInBounds i true).getD k true=true:=by
 by_cases e:i=k
 ·subst e;rw[xav,xdW];split<;>rfl
 rw[getD_set_ne true e];exact h
theorem eJ.waits{listed:Array Bool}(hc:eJ md ops listed){i j:Nat}(h:nj md ops i j):listed.getD j true=true->listed.getD i true=true:=by
 induction h with
 |one h1 h2 h3 h4=>intro h;rw[<-h4];exact hc _ _ h1 h _ h2 h3
 |more h1 h2 h3 _ ih=>intro h;exact ih (hc _ _ h1 h _ h2 h3)
theorem eJ.ready{listed:Array Bool}(hc:eJ md ops listed){i j:Nat}(hj:j∈Region.ready md ops listed)(h:nj md ops i j):listed.getD i true=true:=by
 obtain⟨_,oj,iz,aD⟩:=mem_ready.1 hj;cases h with
 |one h1 h2 h3 h4=>rw[iz]at h1;cases h1;rw[<-h4];exact z9 (aD _ h2 h3)
 |more h1 h2 h3 h4=>rw[iz]at h1;cases h1;exact hc.waits h4 (z9 (aD _ h2 h3))
theorem eJ.step{listed:Array Bool}(hc:eJ md ops listed){j:Nat}(hj:j∈Region.ready md ops listed):eJ md ops (listed.setIfInBounds j true):=by
 intro k ok hk hl e he hb;by_cases Wj:j=k
 ·subst Wj;obtain⟨_,oj,iz,aD⟩:=mem_ready.1 hj;rw[hk]at iz;cases iz;exact sA (z9 (aD e he hb))
 rw[getD_set_ne true Wj]at hl;exact sA (hc k ok hk hl e he hb)
theorem eJ.none(n:Nat)(h:ops.size=n):eJ md ops (Array.replicate n false):=by
 intro j oj hj hl;exfalso;have hlt:=(xaR.1 hj).1;rw[xav,xdh,xae zO]at hl;cases hl
theorem cS.first{i:Nat}{oi:Oper}{v:zV}(hi:ops[i]? =some oi)(hsel:Region.noSelect ops=true)(hQ:∀c a w,Q (.panic c) (a.put oi.dst v) w->Q (.panic c) a w)
 (hSi:∀w,S0 w->S i w w)(hS:∀j oj w w',ops[j]? =some oj->j≠i->¬nj md ops i j->S0 w->S j w w'->S0 w'):∀(n:Nat) (listed:Array Bool) (a:Act) (w:World),eJ md ops listed->
   (∀j oj,ops[j]? =some oj->j≠i->listed.getD j true=false->Pd md ops i j->oi.apart ops oj=true)->i∈Region.ready md ops listed->YieldsIf P ops S0 oi v a->S0 w->
   cS P md ops Q S n (listed.setIfInBounds i true) (a.put oi.dst v) w->cS P md ops Q S (n+1) listed a w:=by
 have sel:=Region.noSelect_spec hsel;intro n;induction n with
 |zero=>
  intro listed a w hc hfree hr hy h0 h;refine⟨λe=>absurd hr (by rw[e];simp),λj hj=>?_⟩;by_cases e:j=i
  ·rw[e];exact hy.wpOp hi h0 ⟨hSi _ h0,h⟩
  exact absurd (ready_mono hj e) (by rw[h.1];simp)
 |succ n ih=>
  intro listed a w hc hfree hr hy h0 h;refine⟨λe=>absurd hr (by rw[e];simp),λj hj=>?_⟩;by_cases e:j=i
  ·rw[e];exact hy.wpOp hi h0 ⟨hSi _ h0,h⟩
  obtain⟨hun,oj,iz,aD⟩:=mem_ready.1 hj;have hno:Pd md ops i j:=λo ho x hx hb he=>by
   rw[iz]at ho;cases ho;have h1:=aD x hx hb;have h2:=(mem_ready.1 hr).1;rw[he]at h1;rw[xav]at h1 h2;cases hg:listed[i]? with
   |none=>rw[hg]at h1;simp at h1
   |some y=>rw[hg]at h1 h2;simp at h1 h2;rw[h2]at h1;cases h1
  have hnw:¬nj md ops i j:=λhw=>by
   have h1:=hc.ready hj hw;rw[(mem_ready.1 hr).1]at h1;cases h1
  refine wpOp_mono ?_ (wpOp_putIf iz (hfree j oj iz e hun hno) (λcs b=>sel i oi cs b hi) (λcs b=>sel j oj cs b iz) hQ hy (h.2 j (ready_mono hj e)));rintro a' w' ⟨hy',hs',gC⟩;refine⟨hs',ih _ _ _ (hc.step hj) (λk ok hk XW Ui KU=>hfree k ok hk XW ?_ KU) (ready_mono hr (xbn e)) hy' (hS j oj w w' iz e hnw h0 hs') (by rw[Array.setIfInBounds_comm _ _ e];exact gC)⟩;by_cases Wj:j=k
  ·rw[<-Wj];exact hun
  rw[<-Ui,getD_set_ne true Wj]
theorem cS.take{i:Nat}{oi:Oper}{v:zV}{n:Nat}{listed:Array Bool}{a:Act}{w:World}(hc:eJ md ops listed)(hi:ops[i]? =some oi)(hsel:Region.noSelect ops=true)(hf:Region.free md ops listed i=true)
 (hr:(Region.ready md ops listed).contains i=true)(hQ:∀c a w,Q (.panic c) (a.put oi.dst v) w->Q (.panic c) a w)(hSi:∀w,S0 w->S i w w)(hS:∀j oj w w',ops[j]? =some oj->j≠i->¬nj md ops i j->S0 w->S j w w'->S0 w')
 (hy:YieldsIf P ops S0 oi v a)(h0:S0 w)(h:cS P md ops Q S n (listed.setIfInBounds i true) (a.put oi.dst v) w):cS P md ops Q S (n+1) listed a w:=
 cS.first hi hsel hQ hSi hS n listed a w hc (λj oj h1 h2 h3 h4=>Region.free_spec hi hf j oj h1 h2 h3 (h4 oj h1)) (by simpa using hr) hy h0 h
theorem cS.all{rs:zL}{n:Nat}{listed:Array Bool}{a:Act}{w:World}(hr:Region.ready md ops listed=rs)(hne:rs≠[])
 (h:∀i∈rs,wpOp P ops Q i (λa' w'=>S i w w'/\cS P md ops Q S n (listed.setIfInBounds i true) a' w') a w):cS P md ops Q S (n+1) listed a w:=
 ⟨λh0=>absurd (hr▸h0) hne,hr▸h⟩
theorem cS.done{listed:Array Bool}{a:Act}{w:World}(hr:Region.ready md ops listed=[])(h:Q .normal a w):∀n,cS P md ops Q S n listed a w
 |0=>⟨hr,h⟩
 |_+1=>⟨λ_=>h,by rw[hr];simp⟩
def onB(j:Oper)(i:Nat):Bool:=j.after.toList.any λe=>Nat.beq e.on i&&Region.binds .any e
def isN(P:Program):Op->Bool
 | .move _| .assign _| .pick .. | .nilCheck _| .fieldAddr .. | .field .. | .indexAddr .. | .unOp .. =>true
 | .slice t _ _ _ none=>match P.underlying t with|some (.slice _)=>true|_=>false
 | .binOp _ t x y _=>match P.underlying t with
  |some d=>match ZA d x y with| .other=>false|_=>true
  |none=>true
 |_=>false
theorem Be{g:Gh}{o:Oper}(h:isN P o.op=true)(ρ:Operand->zV)(H H':Hp)(k:zV->Prop):Dm P g o ρ H k=Dm P g o ρ H' k:=by
 obtain⟨d,op,t,p,a,gd⟩:=o;cases op<;>first|rfl|(simp only[isN]at h;first|cases h|skip)
 case binOp op t x y z=>
  simp only[Dm];cases hu:P.underlying t with
  |none=>rfl
  |some d=>
   simp only[hu]at h;cases hb:ZA d x y<;>simp only[hb]at h⊢;cases h
 case slice t x lo hi m=>
  cases m with
  |none=>
   simp only[Dm];cases hu:P.underlying t with
   |none=>simp[hu]at h
   |some d=>cases d<;>first|rfl|(exfalso;simp[hu]at h)
  |some m=>cases h
def wP(P:Program)(o:Op):Bool:=uM o&& !isN P o
def ID(P:Program)(ops:Array Oper)(j:Nat):Bool:=match ops[j]? with
 |some oj=>(List.range ops.size).any λi=>match ops[i]? with|some oi=>wP P oi.op&& !onB oj i&& !Nat.beq i j|none=>false
 |none=>true
def oB(ops:Array Oper)(i:Nat):Nat->Nat->Bool
 |0,_=>false
 |n+1,j=>match ops[j]? with
  |some oj=>oj.after.toList.any λe=>Region.binds .any e&& (Nat.beq e.on i||oB ops i n e.on)
  |none=>false
theorem rW{i:Nat}:∀{n j:Nat},oB ops i n j=true->nj .any ops i j
 |0,j,h=>by simp[oB]at h
 |n+1,j,h=>by
  unfold oB at h;split at h
  ·rename_i oj iz;obtain⟨e,he,h2⟩:=xcD.1 h;simp only[xaC,xcl]at h2;rcases h2.2 with h3|h3
   ·exact .one iz (xdc.1 he) h2.1 (xaI h3)
   exact .more iz (xdc.1 he) h2.1 (rW h3)
  cases h
def sg(P:Program)(ops:Array Oper)(j:Nat):Bool:=(List.range ops.size).any λi=>match ops[i]? with|some oi=>wP P oi.op&& !oB ops i 6 j&& !Nat.beq i j|none=>false
def Ju(P:Program)(g:Gh)(R:Hp)(ops:Array Oper)(j:Nat)(w w':World):Prop:=∀oj,ops[j]? =some oj->(uM oj.op=true->w'=w)/\(uM oj.op=false->Own g [] w'/\(sg P ops j=true->Own g R w->Own g R w'))
def pz(P:Program)(g:Gh)(Xs:List Hp)(ops:Array Oper)(j:Nat)(w w':World):Prop:=∀X∈Xs,Ju P g X ops j w w'
theorem kY{i j:Nat}{oi:Oper}(hi:ops[i]? =some oi)(hp:wP P oi.op=true)(hne:j≠i)(h:¬nj .any ops i j):sg P ops j=true:=by
 unfold sg;rw[xcD];refine⟨i,xaO.2 (xaR.1 hi).1,?_⟩;simp only[hi,hp,xct,xaC,xbU];refine⟨?_,?_⟩
 ·cases hb:oB ops i 6 j
  ·rfl
  exact absurd (rW hb) h
 cases hb:Nat.beq i j
 ·rfl
 exact absurd (xaI hb).symm hne
theorem uF{j:Nat}(h:sg P ops j=true):ID P ops j=true:=by
 unfold sg at h;obtain⟨i,hi,h2⟩:=xcD.1 h;unfold ID;split
 ·rename_i oj iz;refine xcD.2 ⟨i,hi,?_⟩;split at h2
  ·rename_i oi nL;simp only[xaC,xbU]at h2⊢;refine⟨⟨h2.1.1,?_⟩,h2.2⟩;cases hb:onB oj i
   ·rfl
   have h3:=h2.1.2;unfold oB at h3;simp only[iz]at h3;unfold onB at hb;obtain⟨e,he,h4⟩:=xcD.1 hb;rw[<-Bool.not_eq_true,xcD]at h3;refine absurd ⟨e,he,?_⟩ h3;simp only[xaC,xcl]at h4⊢;exact⟨h4.2,.inl h4.1⟩
  cases h2
 rfl
end
end Go.Sx
namespace Go.Sx
open Go
section
variable {P:Program} {g:Gh} {ds:List Deferred}
def JA(b:Bool)(p q:Prop):Prop:=cond b (p/\q) q
theorem JA.of{b:Bool}{p q:Prop}(h:JA b p q):(b=true->p)/\q:=by
  cases b
  · exact⟨λe=>(by cases e),h⟩
  · exact⟨λ_=>h.1,h.2⟩
def Pg(P:Program)(ops:Array Oper)(T:zL)(i:Nat):Bool:=cond T.isEmpty (ID P ops i) (sg P ops i)
theorem Pf{ops:Array Oper}{T:zL}{i:Nat}(h:sg P ops i=true):Pg P ops T i=true:=by
  unfold Pg;cases T.isEmpty
  · exact h
  · exact uF h
def LJ(P:Program)(g:Gh)(n:Nat)(ops:Array Oper)(R:Hp)(K:Fr->Hp->Prop):zL->Array Bool->Fr->Hp->Prop
  | [],listed,fr,H=>cond (Region.ready .any ops listed).isEmpty (K fr H) False
  |i::r,listed,fr,H=>
    match ops[i]? with
    |none=>False
    |some o=>
      cond (dF n o.dst&&o.guard.isNone)
        (cond (uM o.op)
          (cond (Region.free .any ops listed i&& (Region.ready .any ops listed).contains i)
            (Dm P g o (ev fr) R λv=>LJ P g n ops R K r (listed.setIfInBounds i true) (bT fr o.dst v) H) False)
          (cond (Region.ready .any ops listed==[i])
            (Sq P g o (ev fr) H (λv H'=>JA (ID P ops i) (aF H' R) (LJ P g n ops R K r (listed.setIfInBounds i true) (bT fr o.dst v) H')) (λ_ _=>False)) False)) False
def qH(Q:Exit->Act->World->Prop):Exit->Act->World->Prop
  | .panic _,_,_=>False
  |e,a,w=>Q e a w
theorem jG{o:Oper}(h:o.guard.isNone=true)(y:Nat->Option Bool):Region.wanted o y=true:=by
  unfold Region.wanted;cases hg:o.guard<;>simp_all
theorem Own.kT{g:Gh}{H:Hp}{w:World}(h:Own g H w):Own g [] w:=Own.right (A:=H) (B:=[]) (by simpa using h)
theorem fL{listed:Array Bool}{i k:Nat}(hun:listed.getD i true=false)(h:(listed.setIfInBounds i true).getD k true=false):listed.getD k true=false:=by
  by_cases e:i=k
  · rw[<-e];exact hun
  · rwa [getD_set_ne true e]at h
theorem qo{n:Nat}{ops:Array Oper}{R:Hp}{K:Fr->Hp->Prop}{Q:Exit->Act->World->Prop}(hs:Region.noSelect ops=true)(wV:Fr)
   (hk:∀a w fr H,bS ds n a fr->Own g H w->dY ops.toList wV fr->K fr H->Q .normal a w):
    ∀(l:zL) (listed:Array Bool) (fr:Fr) (H:Hp),LJ P g n ops R K l listed fr H->∀(fuel:Nat),l.length<=fuel->eJ .any ops listed->∀(a:Act) (w:World),bS ds n a fr->Own g H w->((∃k ok,ops[k]? =some ok/\wP P ok.op=true/\listed.getD k true=false)->Own g R w)->dY ops.toList wV fr->
      cS P .any ops (qH Q) (Ju P g R ops) fuel listed a w
  | [],listed,fr,H,h=>by
    intro fuel _ iH a w ha hw hR ho;unfold LJ at h;cases hr:(Region.ready .any ops listed).isEmpty<;>simp only[hr,xao,xaj]at h;exact cS.done (Q:=qH Q) (by simpa using hr) (hk a w fr H ha hw ho h) fuel
  |i::r,listed,fr,H,h=>by
    intro fuel hfuel iH a w ha hw hR ho;unfold LJ at h;split at h<;>try exact h.elim
    rename_i o nL;have hmem:o∈ops.toList:=xdc.2 (Array.mem_of_getElem? nL);have hout:∀v,dY ops.toList wV (bT fr o.dst v):=λv s hs'=>by
      rw[fC,ho s hs'];have:∀l:List Oper,o∈l->aX l s=false->aX [({(default:Oper)with dst:=o.dst})] s=false:=by
        intro l;induction l with
        |nil=>intro h;simp at h
        |cons x y ih=>
          intro hm hi;rw[cI,xaL]at hi;rcases xag.1 hm with rfl|hm
          · exact hi.1
          · exact ih hm hi.2
      exact this _ hmem hs'
    cases hc:(dF n o.dst&&o.guard.isNone)<;>simp only[hc,xao,xaj]at h;simp only[xaC]at hc;obtain⟨fuel,rfl⟩:∃f,fuel=f+1:=⟨fuel-1,by simp only[xak]at hfuel;omega⟩;have Ez:r.length<=fuel:=by simp only[xak]at hfuel;omega
    cases BP:uM o.op<;>simp only[BP,xao,xaj]at h
    case true=>
      cases lq:(Region.free .any ops listed i&& (Region.ready .any ops listed).contains i)<;>simp only[lq,xao,xaj]at h;simp only[xaC]at lq;have hun:=(mem_ready.1 (by simpa using lq.2:i∈Region.ready .any ops listed)).1;have mR:∀w,Ju P g R ops i w w:=λw oj l9=>⟨λ_=>rfl,λhn=>(by rw[nL]at l9;cases l9;rw[BP]at hn;cases hn)⟩;cases hn:isN P o.op
      case true=>
        rw[Be hn (ev fr) R []]at h;obtain⟨v,hk',hr⟩:=j4 h;refine cS.take iH (S0:=Own g []) nL hs lq.1 lq.2 (λ_ _ _ h=>h) (λw _=>mR w) (λj oj w w' iz hj hno h0 hk=>?_) (.inl ⟨jG hc.2 _,λw' hw'=>by rw[ha.eval];exact hr w' hw'⟩) hw.kT ?_
        · cases zz:uM oj.op
          · exact((hk oj iz).2 zz).1
          · rw[(hk oj iz).1 zz];exact h0
        · refine qo hs wV hk r _ _ H hk' fuel Ez (iH.step (by simpa using lq.2)) _ w (ha.put hc.1 v) hw ?_ (hout v)
          rintro⟨k,ok,qN,s9,pC⟩;exact hR ⟨k,ok,qN,s9,fL hun pC⟩
      case false=>
        obtain⟨v,hk',hr⟩:=j4 h;have hrd:wP P o.op=true:=by simp[wP,BP,hn]
        have Yd:Own g R w:=hR ⟨i,o,nL,hrd,hun⟩;refine cS.take iH (S0:=Own g R) nL hs lq.1 lq.2 (λ_ _ _ h=>h) (λw _=>mR w) (λj oj w w' iz hj hno h0 hk=>?_) (.inl ⟨jG hc.2 _,λw' hw'=>by rw[ha.eval];exact hr w' hw'⟩) Yd ?_
        · cases zz:uM oj.op
          · exact((hk oj iz).2 zz).2 (kY nL hrd hj hno) h0
          · rw[(hk oj iz).1 zz];exact h0
        · exact qo hs wV hk r _ _ H hk' fuel Ez (iH.step (by simpa using lq.2)) _ w (ha.put hc.1 v) hw (λ_=>Yd) (hout v)
    case false=>
      cases lq:(Region.ready .any ops listed==[i])<;>simp only[lq,xao,xaj]at h;have hrd:=xc0.1 lq;have Dr:i∈Region.ready .any ops listed:=by rw[hrd];simp
      refine cS.all hrd zI λj hj=>?_;simp only[xaG]at hj;subst hj;unfold wpOp;simp only[nL,jG hc.2,xa7];refine .inl ?_;unfold Oper.wp;rw[ha.eval];refine(uA (nP fr) h w hw).upon (λv H' w' cq hb=>?_) (λch H' w' _ h0=>h0.elim);obtain⟨he,hk'⟩:=hb.of;refine⟨λoj l9=>⟨λhp=>(by rw[nL]at l9;cases l9;rw[BP]at hp;cases hp),λ_=>⟨cq.kT,λhn _=>he (uF hn) _ _ cq⟩⟩,qo hs wV hk r _ _ H' hk' fuel Ez (iH.step Dr) _ w' (ha.put hc.1 v) cq ?_ (hout v)⟩;rintro⟨k,ok,qN,s9,pC⟩;refine he (uF ?_) _ _ cq;have XW:j≠k:=λe=>by
        subst e;rw[xav,xdW]at pC;have:=(mem_ready.1 Dr).1;rw[xav]at this;split at pC
        · simp at pC
        · rename_i hlt;rw[xcA zO]at this;simp at this
      rw[getD_set_ne true XW]at pC;refine kY qN s9 XW λhw=>?_;rw[iH.ready Dr hw]at pC;cases pC
abbrev Mk:=Obj×(Nat->zV)
def Sb(elem size bytes:Nat)(zero:zV)(l c:zV)(k:Mk->Prop):Prop:=
  ∃kl kc ln cn,l=.int kl (ln:Nat)/\c=.int kc (cn:Nat)/\ln<=cn/\(cn:Int)<=9223372036854775807/\cn*bytes<=281474976710656/\
    k (.cells (madeCells zero.cells (cn*size)) elem (0,0),λb=>.slice (some ⟨b,0,none⟩) ln cn)
def Sn(P:Program)(t len:Nat)(parts:List (Nat×zV))(k:Mk->Prop):Prop:=
  ∃cs e n z,P.underlying t=some (.slice e)/\cA P e=some n/\dV P e=some z/\len*n<=2^24/\
      Instr.fill (λi=>some (i*n,n)) ((Array.range (len*n)).map (z.cells[· %z.cells.size]!)) parts=some cs/\k (.cells cs e (0,0),λb=>.slice (some ⟨b,0,none⟩) len len)
def Claim(P:Program)(o:Oper)(ρ:Operand->zV)(k:Mk->Prop):Prop:=
  match o.op with
  | .alloc t=>match dV P t with
    |some z=>k (.cells z.cells t (0,0),λb=>.pointer (some ⟨b,0,none⟩))
    |none=>False
  | .makeMap _ none=>k (.map #[] 0,λb=>.map (some b))
  | .makeSlice t l c=>match P.underlying t with
    |some (.slice e)=>match cA P e,vq P e,dV P e with
      |some n,some b,some z=>Sb e n b z (ρ l) (ρ c) k
      |_,_,_=>False
    |_=>False
  | .buildSlice t len parts=>Sn P t len (parts.toList.map λp=>(p.1,ρ p.2)) k
  |_=>False
def yJ(P:Program)(o:Oper)(ρ:Operand->zV)(x:Mk):Prop:=∀w,(execOp ρ o).run P w=.ok (.value (x.2 w.heap.size)) (w.alloc x.1)
theorem Claim.makes{o:Oper}{ρ:Operand->zV}{k:Mk->Prop}(h:Claim P o ρ k):∃x,yJ P o ρ x/\k x:=by
  unfold Claim at h;split at h
  · rename_i t hop
    split at h<;>try exact h.elim
    rename_i z hz;obtain⟨i,hi,wT⟩:=cB hz;refine⟨_,λw=>?_,h⟩;simp only[execOp,hop];simp[Instr.alloc,dB hi wT,newVar,newRow]
  · rename_i t hop
    refine⟨_,λw=>?_,h⟩;simp only[execOp,hop];simp[Instr.makeMap]
  · rename_i t l c hop
    split at h<;>try exact h.elim
    rename_i e ht;split at h<;>try exact h.elim
    rename_i n b z hn hb hz;obtain⟨i,hi,hin⟩:=aU hn;obtain⟨i',hi',wT⟩:=cB hz;obtain⟨i2,IV,x9⟩:=nf hb;have e1:i'=i:=xbF (hi'.symm.trans hi);have e2:i2=i:=xbF (IV.symm.trans hi);subst e1;subst e2;obtain⟨kl,kc,ln,cn,hl,hc,hlc,cJ,hby,hk⟩:=h;subst hin;subst x9;refine⟨_,λw=>?_,hk⟩;have e1:IntKind.i64.wrap (ln:Int)=ln:=IntWalk.i64_in _ zO;have e2:IntKind.i64.wrap (cn:Int)=cn:=IntWalk.i64_in _ zO;have e3:¬((i2.bytes:Int)*(cn:Int)>281474976710656):=by
      have:((cn*i2.bytes:Nat):Int)<=281474976710656:=by omega
      rw[Int.mul_comm];push_cast at this;omega
    have e4:¬((cn:Int)<ln):=by omega
    simp only[execOp,hop];by_cases h0:cn*i2.size=0
    · simp[Instr.makeSlice,run_underlying ht,asInt,asIntOf,typeInfo,hi,hl,hc,e1,e2,e3,e4,sizeOf,zeroValue,wT,newRow,madeCells,h0,show¬((cn:Int)<0)from by omega,show¬((ln:Int)<0)from by omega]
      have:Array.range 0=#[]:=rfl;simp[this]
    · simp[Instr.makeSlice,run_underlying ht,asInt,asIntOf,typeInfo,hi,hl,hc,e1,e2,e3,e4,sizeOf,zeroValue,wT,newRow,madeCells,h0,show¬((cn:Int)<0)from by omega,show¬((ln:Int)<0)from by omega]
  · rename_i t len parts hop
    obtain⟨cs,e,n,z,ht,hn,hz,hl,hf,hk⟩:=h;obtain⟨i,hi,hin⟩:=aU hn;obtain⟨i',hi',wT⟩:=cB hz;have:i'=i:=xbF (hi'.symm.trans hi);subst this;subst hin;refine⟨_,λw=>?_,hk⟩;have hl':¬(len*i'.size>2^24):=by omega
    have mq:(parts.map λ(x:Nat×Operand)=>(x.1,ρ x.2)).toList=parts.toList.map λp=>(p.1,ρ p.2):=by rw[xd0]
    by_cases h0:len*i'.size=0
    · simp only[execOp,hop,Instr.buildSlice,Sem.run_bind,run_underlying ht,Result.andThen_ok,run_sizeOf hi,hl',xaT,h0,xa7,Sem.run_pure]
      rw[h0]at hf;have XL:Array.range 0=#[]:=rfl;simp only[XL,xex,List.map_toArray,xcL]at hf⊢;rw[mq,hf];simp[newRow]
    · simp only[execOp,hop,Instr.buildSlice,Sem.run_bind,run_underlying ht,Result.andThen_ok,run_sizeOf hi,hl',xaT,h0,dB hi wT,Sem.run_pure]
      simp[hf,newRow]
  · exact h.elim
abbrev HQ:=List (Nat×Mk)
def marks:HQ->Nat->Array Bool->Array Bool
  | [],_,l=>l
  |x::r,i,l=>marks r i (cond (Nat.beq x.1 i) l (l.setIfInBounds x.1 true))
def eG(ops:Array Oper)(o:Oper)(i:Nat)(listed:Array Bool):HQ->Bool
  | []=>true
  |x::r=>(Nat.beq x.1 i||listed.getD x.1 true||(match ops[x.1]? with|some of=>of.apart ops o|none=>false)) &&eG ops o i listed r
def eW:HQ->Nat->Option Mk
  | [],_=>none
  |x::r,i=>cond (Nat.beq x.1 i) (some x.2) (eW r i)
def RZ(listed:Array Bool):HQ->Bool
  | []=>true
  |x::r=>listed.getD x.1 false&&RZ listed r
inductive Hn
  |e
  |h(m:Nat)(L I:zL)(a b:Hn)
def Hn.m:Hn->Nat| .e=>0| .h m _ _ _ _=>m
def Hn.L:Hn->zL| .e=>[]| .h _ L _ _ _=>L
def Hn.I:Hn->zL| .e=>[]| .h _ _ I _ _=>I
def Hn.a:Hn->Hn| .e=>.e| .h _ _ _ a _=>a
def Hn.b:Hn->Hn| .e=>.e| .h _ _ _ _ b=>b
def Br(v:zV)(t f:Prop):Prop:=∃b,v=.bool b/\(b=true->t)/\(b=false->f)
def XB(p:Oper)(fr:Fr):zV:=
  match p.op with
  | .move x=>ev fr x
  | .assign x=>ev fr x
  |_=>oY p fr
def KN(p:Oper):Bool:=match p.op with| .pick .. =>true| .move _=>true| .assign _=>true|_=>false
theorem Pz{p:Oper}{fr:Fr}{t:Bool}(hp:KN p=true)(h:XB p fr=.bool t)(w:World):(execOp (ev fr) p).run P w=.ok (.value (.bool t)) w:=by
  unfold KN at hp;unfold XB at h;split at h
  · rename_i x hop;simp only[execOp,hop,h];rfl
  · rename_i x hop;simp only[execOp,hop,h];rfl
  · rename_i h1 h2
    split at hp
    · rename_i hop;exact oX (by unfold ru;rw[hop]) h w
    · rename_i x hop;exact absurd hop (h1 x)
    · rename_i x hop;exact absurd hop (h2 x)
    · cases hp
theorem PE{p:Oper}(hp:KN p=true):uM p.op=true:=by
  unfold KN at hp;split at hp<;>first|(rename_i hop;rw[hop];rfl)|cases hp
def yS(ops:Array Oper)(fr:Fr)(o:Oper):Option Bool:=
  match o.guard with
  |none=>some true
  |some (j,want)=>match ej ops j with
    |none=>none
    |some s=>match fr s with
      | .bool b=>some (b==want)
      | .tuple _=>some false
      |_=>none
def n9(P:Program)(g:Gh)(n:Nat)(ops:Array Oper)(R:Hp)(K:Fr->Hp->Prop):Hn->HQ->Array Bool->Fr->Hp->Prop
  | .e,cl,listed,fr,H=>cond ((Region.ready .any ops listed).isEmpty&&RZ listed cl) (K fr H) False
  | .h m L T pa pb,cl,listed,fr,H=>
    match L with
    | [i]=>
      match ops[i]? with
      |none=>False
      |some o=>
        cond (Nat.beq m 1)
          (cond (dF n o.dst&&o.guard.isNone&& !uM o.op&& !listed.getD i true&&eG ops o i listed cl&& (match eW cl i with|none=>true|some _=>false))
            (Claim P o (ev fr) λx=>n9 P g n ops R K pa ((i,x)::cl) listed fr H) False)
          (cond (dF n o.dst&&eG ops o i listed cl&& (Region.ready .any ops listed).contains i)
            (match yS ops fr o with
            |none=>False
            |some false=>cond (Region.free .any ops listed i&& (match eW cl i with|none=>true|some _=>false)) (n9 P g n ops R K pa cl (listed.setIfInBounds i true) (bT fr o.dst undef) H) False
            |some true=>
              cond (Nat.beq m 3) (cond (KN o&&Region.free .any ops listed i) (match XB o fr with
                | .bool b=>n9 P g n ops R K pa cl (listed.setIfInBounds i true) (bT fr o.dst (.bool b)) H
                |_=>False) False)
              (cond (uM o.op)
                (cond (Region.free .any ops listed i)
                  (Dm P g o (ev fr) R λv=>cond (Nat.beq m 0) (n9 P g n ops R K pa cl (listed.setIfInBounds i true) (bT fr o.dst v) H)
                    (Br v (n9 P g n ops R K pa cl (listed.setIfInBounds i true) (bT fr o.dst (.bool true)) H) (n9 P g n ops R K pb cl (listed.setIfInBounds i true) (bT fr o.dst (.bool false)) H))) False)
                (cond (Region.ready .any ops (marks cl i listed)==[i])
                  (match eW cl i with
                    |some x=>Fb H x.1 λb H'=>n9 P g n ops R K pa cl (listed.setIfInBounds i true) (bT fr o.dst (x.2 b)) H'
                    |none=>∀F,Sq P (g.add F) o (ev fr) H (λv H'=>JA (Pg P ops T i) (aF H' R) (n9 P g n ops R K pa cl (listed.setIfInBounds i true) (bT fr o.dst v) H')) (λ_ _=>False)) False))) False)
    | []=>cond (Nat.beq m 4) (∃R',aF H R'/\aF R' R/\n9 P g n ops R' K pa cl listed fr H) False
    |_=>False
theorem Q7{cl:HQ}{i:Nat}{x:Mk}(h:eW cl i=some x):(i,x)∈cl:=by
  induction cl with
  |nil=>simp[eW]at h
  |cons y r ih=>
    simp only[eW]at h;cases hb:Nat.beq y.1 i<;>simp only[hb,xao,xaj]at h
    · exact xby _ (ih h)
    · have:=xaI hb
      simp only[xas]at h;subst this;subst h;exact xbV
theorem Lt{cl:HQ}{i:Nat}(h:i∈cl.map Prod.fst):∃x,eW cl i=some x:=by
  induction cl with
  |nil=>simp at h
  |cons y r ih=>
    simp only[eW];cases hb:Nat.beq y.1 i
    · simp only[xaj]
      rw[xaM,xag]at h;rcases h with h|h
      · subst h;simp at hb
      · exact ih h
    · exact⟨_,rfl⟩
theorem jk{cl:HQ}{i:Nat}{x:Mk}(h:eW cl i=some x):i∈cl.map Prod.fst:=xam.2 ⟨_,Q7 h,rfl⟩
theorem xI{l:HQ}{i:Nat}{b:Array Bool}{k:Nat}:(marks l i b)[k]? =if k∈l.map Prod.fst/\k≠i/\k<b.size then some true else b[k]? :=by
  induction l generalizing b with
  |nil=>simp[marks]
  |cons y r ih=>
    simp only[marks];cases hy:Nat.beq y.1 i
    · have hne:y.1≠i:=λe=>by rw[e]at hy;simp at hy
      simp only[xaj,ih,Array.size_setIfInBounds];by_cases hk:k∈r.map Prod.fst/\k≠i/\k<b.size
      · rw[xae hk,xae ⟨by rw[xaM];exact xby _ hk.1,hk.2⟩]
      · rw[xac hk]
        by_cases e:y.1=k
        · subst e
          by_cases hlt:y.1<b.size
          · rw[xae ⟨by simp,hne,hlt⟩,xbP hlt]
          · rw[xac (λh=>hlt h.2.2),xcA zP,xcA zO]
        · rw[xbw e,xac]
          rintro⟨h1,h2⟩;rw[xaM,xag]at h1;rcases h1 with h1|h1
          · exact e h1.symm
          · exact hk ⟨h1,h2⟩
    · have he:=xaI hy
      simp only[xao,ih];by_cases hk:k∈r.map Prod.fst/\k≠i/\k<b.size
      · rw[xae hk,xae ⟨by rw[xaM];exact xby _ hk.1,hk.2⟩]
      · rw[xac hk,xac]
        rintro⟨h1,h2,h3⟩;rw[xaM,xag]at h1;rcases h1 with h1|h1
        · exact h2 (h1.trans he)
        · exact hk ⟨h1,h2,h3⟩
theorem fk{ops:Array Oper}{o:Oper}{i:Nat}{listed:Array Bool}{l:HQ}(h:eG ops o i listed l=true){f:Nat}(hf:f∈l.map Prod.fst)(hne:f≠i)(hun:listed.getD f true=false):
    ∃of,ops[f]? =some of/\of.apart ops o=true:=by
  induction l with
  |nil=>simp at hf
  |cons x r ih=>
    simp only[eG,xaC,xcl]at h;rw[xaM]at hf;rcases xag.1 hf with rfl|hf
    · rcases h.1 with(h1|h1)|h1
      · exact absurd (xaI h1) hne
      · rw[hun]at h1;simp at h1
      · split at h1
        · rename_i of ho;exact⟨of,ho,h1⟩
        · simp at h1
    · exact ih h.2 hf
theorem E7{ops:Array Oper}{x y:Oper}(h:x.apart ops y=true):y.apart ops x=true:=by
  unfold Oper.apart at*;cases hx:x.dst<;>cases hy:y.dst<;>simp_all;exact λe=>h.1.2 e.symm
theorem rD{ops:Array Oper}{l l':Array Bool}{i:Nat}(h:Region.free .any ops l i=true)(hm:∀k,l.getD k true=true->l'.getD k true=true):Region.free .any ops l' i=true:=by
  unfold Region.free at*;split at h
  · simp at h
  · rename_i oi nL
    rw[xcp]at h⊢;intro j hj;have:=h j hj;simp only[xcl]at this⊢;rcases this with(h1|h1)|h1
    · exact .inl (.inl h1)
    · exact .inl (.inr (hm j h1))
    · exact .inr h1
abbrev Early:=List (Nat×Nat×Mk)
def WK(E:Early):Hp:=E.map λx=>(x.2.1,x.2.2.1)
structure YQ(P:Program)(n:Nat)(ops:Array Oper)(listed:Array Bool)(cl:HQ)(fr:Fr)(j:Nat)(x:Mk)(o:Oper):Prop where
  op:ops[j]? =some o
  Bi:uM o.op=false
  dst:dF n o.dst=true
  gd:o.guard.isNone=true
  makes:yJ P o (ev fr) x
  far:∀k y,eW cl k=some y->k≠j->listed.getD k true=false->∃ok,ops[k]? =some ok/\ok.apart ops o=true
structure kI(P:Program)(n:Nat)(ops:Array Oper)(cl:HQ)(listed la:Array Bool)(E:Early)(fr fa:Fr):Prop where
  mem:∀x∈E,eW cl x.1=some x.2.2/\listed.getD x.1 true=false
  nd:(E.map Prod.fst).Nodup
  la:∀k,la[k]? =if k∈E.map Prod.fst then some true else listed[k]?
  out:∀s,(∀x∈E,ej ops x.1≠some s)->fa s=fr s
  at_:∀x∈E,∀d,ej ops x.1=some d->fa d=x.2.2.2 x.2.1
  cl:∀j x,eW cl j=some x->listed.getD j true=false->∃o,YQ P n ops listed cl fr j x o
section
variable {n:Nat} {ops:Array Oper} {cl:HQ} {listed la:Array Bool} {E:Early} {fr fa:Fr}
theorem kI.more(h:kI P n ops cl listed la E fr fa){k:Nat}{b:Bool}(hk:listed.getD k b=true):la.getD k b=true:=by
  have:=h.la k;rw[xav]at hk⊢;rw[this];split
  · rfl
  · exact hk
theorem kI.ready(h:kI P n ops cl listed la E fr fa){i:Nat}(hi:i∉E.map Prod.fst)(hr:i∈Region.ready .any ops listed):i∈Region.ready .any ops la:=by
  rw[mem_ready]at hr⊢;obtain⟨h1,o,ho,aD⟩:=hr;refine⟨?_,o,ho,λe he hb=>h.more (aD e he hb)⟩;have:=h.la i;rw[xav]at h1⊢;rw[this,xac hi];exact h1
theorem VD{i k:Nat}(h:(listed.setIfInBounds i true).getD k true=false):i≠k/\listed.getD k true=false:=by
  by_cases e:i=k
  · subst e
    rw[xav]at h;rcases xdw i listed.size with hl|hl
    · rw[xbP hl]at h;cases h
    · rw[xcA (by simpa using hl)]at h;cases h
  · exact⟨e,by rwa [getD_set_ne true e]at h⟩
theorem yJ.congr{o o':Oper}{x:Mk}{v:zV}(h:yJ P o (ev fr) x)(hs:∀cs b,o.op≠.select cs b)(hap:o.apart ops o'=true):yJ P o (ev (bT fr o'.dst v)) x:=by
  have e:execOp (ev (bT fr o'.dst v)) o=execOp (ev fr) o:=by
    refine execOp_congr o hs λy hy=>?_;cases y with
    |tmp t=>
      obtain⟨_,_,h3⟩:=Oper.apart_spec hap;cases hd:o'.dst with
      |none=>rfl
      |some d=>
        have:=h3 d hd;have hne:Nat.beq t d=false:=by
          cases hb:Nat.beq t d
          · rfl
          · have e:=xaI hb;subst e
            refine absurd ?_ this;exact xad _ (List.mem_filterMap.2 ⟨Operand.tmp t,by simpa using hy,rfl⟩)
        simp only[ev,bT,hne,xaj]
    |const v=>rfl
    |global g=>rfl
    |func f=>rfl
  intro w;rw[e];exact h w
theorem RA(hs:Region.noSelect ops=true)(jS:∀j x,eW cl j=some x->listed.getD j true=false->∃o,YQ P n ops listed cl fr j x o){i:Nat}{o:Oper}(hap:eG ops o i listed cl=true)(v:zV):
    ∀j x,eW cl j=some x->(listed.setIfInBounds i true).getD j true=false->∃oj,YQ P n ops (listed.setIfInBounds i true) cl (bT fr o.dst v) j x oj:=by
  intro j x hx hun;obtain⟨hne,Ui⟩:=VD hun;obtain⟨oj,h⟩:=jS j x hx Ui;obtain⟨oj',cq,afe⟩:=fk hap (jk hx) (xbn hne) Ui;rw[h.op]at cq;cases cq;exact⟨oj,h.op,h.Bi,h.dst,h.gd,h.makes.congr (λcs b=>Region.noSelect_spec hs j oj cs b h.op) afe,λk y hk Zf Uw=>h.far k y hk Zf (VD Uw).2⟩
theorem kI.step(hs:Region.noSelect ops=true)(h:kI P n ops cl listed la E fr fa){i:Nat}{o:Oper}(nL:ops[i]? =some o)(hi:i∉E.map Prod.fst)
   (uS:eG ops o i listed cl=true)(v:zV):kI P n ops cl (listed.setIfInBounds i true) (la.setIfInBounds i true) E (bT fr o.dst v) (bT fa o.dst v):=by
  have hap:∀x∈E,∃of,ops[x.1]? =some of/\of.apart ops o=true:=λx hx=>
      fk uS (jk (h.mem x hx).1) (λe=>hi (e▸xbd hx)) (h.mem x hx).2
  have hsz:la[i]? =listed[i]? :=by rw[h.la i,xac hi]
  refine⟨λx hx=>⟨(h.mem x hx).1,?_⟩,h.nd,λk=>?_,λs hs=>?_,λx hx d hd=>?_,RA hs h.cl uS v⟩
  · have hne:i≠x.1:=λe=>hi (e▸xbd hx)
    rw[getD_set_ne true hne];exact(h.mem x hx).2
  · by_cases e:i=k
    · subst e
      rw[xac hi,xcv,xcv];simp only[xa7];have:i<la.size↔i<listed.size:=by
        constructor
        · intro hlt;rw[xbE hlt]at hsz;exact(xaR.1 hsz.symm).1
        · intro hlt;rw[xbE hlt]at hsz;exact(xaR.1 hsz).1
      by_cases hlt:i<la.size
      · rw[xae hlt,xae (this.1 hlt)]
      · rw[xac hlt,xac (λx=>hlt (this.2 x))]
    · rw[xbw e,xbw e];exact h.la k
  · cases hd:o.dst with
    |none=>exact h.out s hs
    |some d=>
      simp only[bT];cases Nat.beq s d
      · exact h.out s hs
      · rfl
  · obtain⟨of,Ur,hap⟩:=hap x hx
    obtain⟨h1,h2,h3⟩:=Oper.apart_spec hap;have XO:of.dst=some d:=by simpa[ej,Ur]using hd
    have:=h2 d XO;cases hdo:o.dst with
    |none=>exact h.at_ x hx d hd
    |some d'=>
      have hne:Nat.beq d d'=false:=by
        cases hb:Nat.beq d d'
        · rfl
        · have e:=xaI hb;subst e;exact absurd hdo this
      simp only[bT,hne,xaj];exact h.at_ x hx d hd
theorem kI.exec(h:kI P n ops cl listed la E fr fa){o:Oper}
   (hap:∀x∈E,∃of,ops[x.1]? =some of/\of.apart ops o=true)(hs:∀cs b,o.op≠.select cs b):execOp (ev fa) o=execOp (ev fr) o:=by
  refine execOp_congr o hs λx hx=>?_;cases x with
  |tmp t=>
    refine h.out t λy hy e=>?_;obtain⟨of,Ur,hap⟩:=hap y hy;obtain⟨h1,_,_⟩:=Oper.apart_spec hap;refine h1 t (by simpa[ej,Ur]using e) ?_;exact xad _ (List.mem_filterMap.2 ⟨.tmp t,by simpa using hx,rfl⟩)
  |const v=>rfl
  |global g=>rfl
  |func f=>rfl
theorem kI.early(h:kI P n ops cl listed la E fr fa){j b:Nat}{x:Mk}(hj:eW cl j=some x)(P9:j∉E.map Prod.fst)(hun:listed.getD j true=false)
   {o:Oper}(ho:ops[j]? =some o):kI P n ops cl listed (la.setIfInBounds j true) ((j,b,x)::E) fr (bT fa o.dst (x.2 b)):=by
  obtain⟨o',jS⟩:=h.cl j x hj hun;have cq:=jS.op;rw[ho]at cq;cases cq;have Ya:∀y∈E,∃of,ops[y.1]? =some of/\of.apart ops o=true:=λy hy=>
    jS.far y.1 _ (h.mem y hy).1 (λe=>P9 (e▸xbd hy)) (h.mem y hy).2
  have aeJ:j<la.size:=by
    have hl:=h.la j;rw[xac P9]at hl;have h2:j<listed.size:=by
      rcases xdw j listed.size with h2|h2
      · exact h2
      · rw[xav,xcA h2]at hun;simp at hun
    rw[xbE h2]at hl;exact(xaR.1 hl).1
  refine⟨λy hy=>?_,?_,λk=>?_,λs hs=>?_,λy hy d hd=>?_,h.cl⟩
  · rcases xag.1 hy with rfl|hy
    · exact⟨hj,hun⟩
    · exact h.mem y hy
  · rw[xaM,xaW];exact⟨P9,h.nd⟩
  · by_cases e:j=k
    · subst e;rw[xae zI,xbP aeJ]
    · rw[xbw e,h.la k]
      by_cases hk:k∈E.map Prod.fst
      · rw[xae hk,xae (by rw[xaM];exact xby _ hk)]
      · rw[xac hk,xac]
        rw[xaM,xag];rintro(h1|hk')
        · exact e h1.symm
        · exact hk hk'
  · have hne:=hs (j,b,x) zI
    simp only[ej,ho]at hne;rw[show bT fa o.dst (x.2 b) s=fa s from ?_]
    · exact h.out s λy hy=>hs y (by simp[hy])
    · cases hd:o.dst with
      |none=>rfl
      |some d=>
        rw[hd]at hne;have:Nat.beq s d=false:=by
          cases hb:Nat.beq s d
          · rfl
          · exact absurd (xca some (xaI hb).symm) hne
        simp only[bT,this,xaj]
  · rcases xag.1 hy with rfl|hy
    · simp only[ej,ho]at hd
      rw[hd];simp[bT]
    · obtain⟨of,Ur,hap⟩:=Ya y hy
      obtain⟨_,h2,_⟩:=Oper.apart_spec hap;have XO:of.dst=some d:=by simpa[ej,Ur]using hd
      have:=h2 d XO;cases hdo:o.dst with
      |none=>exact h.at_ y hy d hd
      |some d'=>
        have hne:Nat.beq d d'=false:=by
          cases hb:Nat.beq d d'
          · rfl
          · have e:=xaI hb;subst e;exact absurd hdo this
        simp only[bT,hne,xaj];exact h.at_ y hy d hd
theorem kI.yV(hs:Region.noSelect ops=true){E1 E2:Early}{j b:Nat}{x:Mk}(h:kI P n ops cl listed la (E1++(j,b,x)::E2) fr fa){o:Oper}(ho:ops[j]? =some o)(uS:eG ops o j listed cl=true):
    kI P n ops cl (listed.setIfInBounds j true) la (E1++E2) (bT fr o.dst (x.2 b)) fa:=by
  have gw:=h.nd;rw[xaB,xaM]at gw;have Sz:j∉(E1++E2).map Prod.fst:=by
    have:=(xaU.nodup_iff.1 gw);rw[xaW]at this;rw[xaB];exact this.1
  have hsub:∀y,y∈E1++E2->y∈E1++(j,b,x)::E2:=λy hy=>by
    rcases xaq.1 hy with hy|hy<;>simp[hy]
  have P7:j<listed.size:=by
    have h2:=(h.mem (j,b,x) zI).2;rcases xdw j listed.size with h3|h3
    · exact h3
    · simp only at h2;rw[xav,xcA h3]at h2;simp at h2
  refine⟨λy hy=>⟨(h.mem y (hsub y hy)).1,?_⟩,?_,λk=>?_,λs hs=>?_,λy hy d hd=>h.at_ y (hsub y hy) d hd,RA hs h.cl uS _⟩
  · have hne:j≠y.1:=λe=>Sz (e▸xbd hy)
    rw[getD_set_ne true hne];exact(h.mem y (hsub y hy)).2
  · have:=(xaU.nodup_iff.1 gw)
    rw[xaW]at this;rw[xaB];exact this.2
  · have hk:=h.la k
    by_cases e:j=k
    · subst e
      rw[xae zI]at hk;rw[hk,xac Sz,xbP P7]
    · rw[xbw e,hk]
      have:k∈(E1++(j,b,x)::E2).map Prod.fst↔k∈(E1++E2).map Prod.fst:=by
        simp only[xaB,xaM,xaq,xag];constructor
        · rintro(h|rfl|h)
          · exact .inl h
          · exact absurd rfl e
          · exact .inr h
        · rintro(h|h)
          · exact .inl h
          · exact .inr (.inr h)
      simp only[this]
  · by_cases e:ej ops j=some s
    · rw[h.at_ (j,b,x) zI s e]
      simp only[ej,ho]at e;rw[e];simp[bT]
    · rw[h.out s λy hy=>?_]
      · simp only[ej,ho]at e
        cases hd:o.dst with
        |none=>rfl
        |some d=>
          rw[hd]at e;have:Nat.beq s d=false:=by
            cases hb:Nat.beq s d
            · rfl
            · exact absurd (xca some (xaI hb).symm) e
          simp only[bT,this,xaj]
      · rcases xaq.1 hy with hy|hy
        · exact hs y (by simp[hy])
        · rcases xag.1 hy with rfl|hy
          · exact e
          · exact hs y (by simp[hy])
theorem kI.ab8(h:kI P n ops cl listed la E fr fa){i:Nat}{o:Oper}{x:Mk}(ho:ops[i]? =some o)(hd:dF n o.dst=true)(hg:o.guard.isNone=true)(hp:uM o.op=false)(hun:listed.getD i true=false)
   (hap:eG ops o i listed cl=true)(hno:eW cl i=none)(hm:yJ P o (ev fr) x):kI P n ops ((i,x)::cl) listed la E fr fa:=by
  have hne:∀j y,eW cl j=some y->j≠i:=λj y hj e=>by subst e;rw[hno]at hj;cases hj
  have hex:∀j y,eW cl j=some y->eW ((i,x)::cl) j=some y:=λj y hj=>by
    have:Nat.beq i j=false:=by
      cases hb:Nat.beq i j
      · rfl
      · exact absurd (xaI hb).symm (hne j y hj)
    simp only[eW,this,xaj];exact hj
  have X2:∀j y,eW ((i,x)::cl) j=some y->(j=i/\y=x)\/(j≠i/\eW cl j=some y):=λj y hj=>by
    simp only[eW]at hj;cases hb:Nat.beq i j<;>simp only[hb,xao,xaj]at hj
    · exact .inr ⟨λe=>by subst e;simp at hb,hj⟩
    · exact .inl ⟨(xaI hb).symm,by simpa using hj.symm⟩
  refine⟨λy hy=>⟨hex _ _ (h.mem y hy).1,(h.mem y hy).2⟩,h.nd,h.la,h.out,h.at_,λj y hj hu=>?_⟩;rcases X2 j y hj with⟨rfl,rfl⟩|⟨P8,Wk⟩
  · refine⟨o,ho,hp,hd,hg,hm,λk z hk Zf Uw=>?_⟩
    rcases X2 k z hk with⟨rfl,rfl⟩|⟨_,hk⟩
    · exact absurd rfl Zf
    · exact fk hap (jk hk) Zf Uw
  · obtain⟨oj,hc⟩:=h.cl j y Wk hu
    refine⟨oj,hc.op,hc.Bi,hc.dst,hc.gd,hc.makes,λk z hk Zf Uw=>?_⟩;rcases X2 k z hk with⟨rfl,rfl⟩|⟨_,hk⟩
    · obtain⟨oj',h1,h2⟩:=fk hap (jk Wk) P8 hu
      rw[hc.op]at h1;cases h1;exact⟨o,ho,E7 h2⟩
    · exact hc.far k z hk Zf Uw
end
theorem Lw{E1 E2:Early}{y:Nat×Nat×Mk}:(WK (E1++y::E2)).Perm ((y.2.1,y.2.2.1)::WK (E1++E2)):=by
  unfold WK;rw[xaB,xaM,xaB];exact xaU
def cnt:List Bool->Nat
  | []=>0
  |b::r=>cond b 0 1+cnt r
theorem Jb:∀(l:List Bool) (i:Nat),l[i]? =some false->cnt (l.set i true)+1=cnt l
  | [],i,h=>by simp at h
  |b::r,0,h=>by simp only[xch,xas]at h;subst h;simp only[xcE,cnt,xao,xaj];omega
  |b::r,i+1,h=>by
    simp only[xdS]at h;have:=Jb r i h;simp only[xel,cnt];omega
theorem wW(n:Nat):cnt (List.replicate n false)=n:=by
  induction n with
  |zero=>rfl
  |succ n ih=>simp only[xdn,cnt,ih,xaj];omega
theorem fA{a:Array Bool}{i:Nat}(h:a.getD i true=false):a[i]? =some false:=by
  rw[xav]at h;cases hg:a[i]? with
  |none=>rw[hg]at h;simp at h
  |some b=>rw[hg]at h;simpa using h
theorem m8{a:Array Bool}{i fuel:Nat}(h:a.getD i true=false)(hf:cnt a.toList<=fuel):∃f,fuel=f+1/\cnt (a.setIfInBounds i true).toList<=f:=by
  have h1:=fA h;have h2:a.toList[i]? =some false:=by rw[xbm];exact h1
  have:=Jb _ _ h2;refine⟨fuel-1,by omega,?_⟩;have:(a.setIfInBounds i true).toList=a.toList.set i true:=by simp
  rw[this];omega
theorem LW{listed:Array Bool}{l:HQ}(h:RZ listed l=true){f:Nat}(hf:f∈l.map Prod.fst):listed.getD f false=true:=by
  induction l with
  |nil=>simp at hf
  |cons x r ih=>
    simp only[RZ,xaC]at h;rw[xaM]at hf;rcases xag.1 hf with rfl|hf
    · exact h.1
    · exact ih h.2 hf
theorem UU{a:Array Bool}{i:Nat}(h:a.getD i false=true):a.getD i true=true:=by
  rw[xav]at*;cases hg:a[i]? with
  |none=>rfl
  |some b=>rw[hg]at h;simpa using h
theorem dW{n:Nat}{ops:Array Oper}{R:Hp}{Xs:List Hp}{K:Fr->Hp->Prop}{Q:Exit->Act->World->Prop}(hs:Region.noSelect ops=true)(AH:R∈Xs)(NC:∀X∈Xs,aF R X)(wV:Fr)
   (hk:∀a w fr H,bS ds n a fr->Own g H w->dY ops.toList wV fr->K fr H->Q .normal a w):
    ∀(fuel:Nat) (l:Hn) (cl:HQ) (listed:Array Bool) (fr:Fr) (H:Hp),n9 P g n ops R K l cl listed fr H->∀(E:Early) (la:Array Bool) (fa:Fr),cnt la.toList<=fuel->kI P n ops cl listed la E fr fa->eJ .any ops la->
      ∀(a:Act) (w:World),bS ds n a fa->Own (g.add (WK E)) H w->((∃k ok,ops[k]? =some ok/\wP P ok.op=true/\la.getD k true=false)->Own g R w)->dY ops.toList wV fr->
      cS P .any ops (qH Q) (pz P g Xs ops) fuel la a w
  |fuel,.e,cl,listed,fr,H,h=>by
    intro E la fa hfuel hE iH a w ha hw hR ho;unfold n9 at h;cases hr:((Region.ready .any ops listed).isEmpty&&RZ listed cl)<;>simp only[hr,xao,xaj]at h;simp only[xaC]at hr;have hr':Region.ready .any ops listed=[]:=by simpa using hr.1
    have hE0:E=[]:=by
      cases E with
      |nil=>rfl
      |cons x y=>
        have h1:=hE.mem x zI;have h2:=UU (LW hr.2 (jk h1.1));rw[h1.2]at h2;cases h2
    subst hE0;have hfa:fa=fr:=by funext s;exact hE.out s zI
    subst hfa;refine cS.done (Q:=qH Q) ?_ (hk a w fa H ha hw ho h) fuel;rw[xcM]at hr'⊢;intro k hk';refine hr' k ?_;rw[mem_ready]at hk'⊢;obtain⟨h1,o,h2,h3⟩:=hk';have hla:=λk=>hE.la k;simp only[xcL,xaw,xaT]at hla;refine⟨?_,o,h2,λe he hb=>?_⟩
    · rw[xav,<-hla,<-xav];exact h1
    · rw[xav,<-hla,<-xav];exact h3 e he hb
  |fuel,.h m L T pa pb,cl,listed,fr,H,h=>by
    intro E la fa hfuel hE iH a w ha hw hR ho;have h0:=h;unfold n9 at h;split at h<;>try exact h.elim
    rotate_left
    · cases h4:Nat.beq m 4<;>simp only[h4,xao,xaj]at h
      obtain⟨R',hr1,rA,hk'⟩:=h;exact(dW (R:=R') (Xs:=R'::Xs) hs (.head _) (λX hX=>by
        rcases xag.1 hX with rfl|hX
        · exact .refl _
        · exact rA.trans (NC X hX)) wV hk fuel pa cl listed fr H hk' E la fa hfuel hE iH a w ha hw (λ_=>hr1 _ _ (Own.eF.2 hw).left) ho).mono λj w w' hK X hX=>hK X (.tail _ hX)
    rename_i i;split at h<;>try exact h.elim
    rename_i o nL;cases h1:Nat.beq m 1<;>simp only[h1,xao,xaj]at h
    case true=>
      cases hc:(dF n o.dst&&o.guard.isNone&& !uM o.op&& !listed.getD i true&&eG ops o i listed cl&& (match eW cl i with|none=>true|some _=>false))<;>simp only[hc,xao,xaj]at h;simp only[xaC,xbU]at hc;obtain⟨⟨⟨⟨⟨hd,hg⟩,hp⟩,hun⟩,hap⟩,hno⟩:=hc;have KU:eW cl i=none:=by
        split at hno
        · assumption
        · cases hno
      obtain⟨x,hm,hk'⟩:=h.makes;exact dW hs AH NC wV hk fuel pa _ listed fr H hk' E la fa hfuel (hE.ab8 nL hd hg hp hun hap KU hm) iH a w ha hw hR ho
    have hmem:o∈ops.toList:=xdc.2 (Array.mem_of_getElem? nL);have hout:∀v,dY ops.toList wV (bT fr o.dst v):=λv s hs'=>by
      rw[fC,ho s hs'];have:∀l:List Oper,o∈l->aX l s=false->aX [({(default:Oper)with dst:=o.dst})] s=false:=by
        intro l;induction l with
        |nil=>intro h;simp at h
        |cons x y ih=>
          intro hm hi;rw[cI,xaL]at hi;rcases xag.1 hm with rfl|hm
          · exact hi.1
          · exact ih hm hi.2
      exact this _ hmem hs'
    cases hc:(dF n o.dst&&eG ops o i listed cl&& (Region.ready .any ops listed).contains i)<;>simp only[hc,xao,xaj]at h;simp only[xaC]at hc;obtain⟨⟨hd,uS⟩,aes⟩:=hc;have Dr:i∈Region.ready .any ops listed:=by simpa using aes
    have hun:=(mem_ready.1 Dr).1;have hap:i∉E.map Prod.fst->∀x∈E,∃of,ops[x.1]? =some of/\of.apart ops o=true:=λhi x hx=>
      fk uS (jk (hE.mem x hx).1) (λe=>hi (e▸xbd hx)) (hE.mem x hx).2
    have hsel:∀cs b,o.op≠.select cs b:=λcs b=>Region.noSelect_spec hs i o cs b nL;have ZT:∀j,j∈Region.ready .any ops la->j∉E.map Prod.fst/\listed.getD j true=false:=λj hj=>by
      have h1:=fA (mem_ready.1 hj).1;have h2:=hE.la j;by_cases P9:j∈E.map Prod.fst
      · rw[xae P9,h1]at h2;cases h2
      · rw[xac P9,h1]at h2
        exact⟨P9,by rw[xav,<-h2];rfl⟩
    have early:∀f',fuel=f'+1->(∀j,la.getD j true=false->cnt (la.setIfInBounds j true).toList<=f')->∀j x,j∈Region.ready .any ops la->eW cl j=some x->
        wpOp P ops (qH Q) j (λa' w'=>pz P g Xs ops j w w'/\cS P .any ops (qH Q) (pz P g Xs ops) f' (la.setIfInBounds j true) a' w') a w:=by
      intro f' Nz n6 j x hj hjf;obtain⟨P9,P7⟩:=ZT j hj;obtain⟨oj,jS⟩:=hE.cl j x hjf P7;have iz:=jS.op;have zz:=jS.Bi;have hgj:=jS.gd;have ae7:execOp (ev fa) oj=execOp (ev fr) oj:=hE.exec (λy hy=>jS.far y.1 _ (hE.mem y hy).1 (λe=>P9 (e▸xbd hy)) (hE.mem y hy).2) (λcs b=>Region.noSelect_spec hs j oj cs b iz);unfold wpOp;simp only[iz,jG hgj,xa7];refine .inl ?_;unfold Oper.wp;rw[ha.eval,ae7,jS.makes w];simp only[Oper.upon];have hal:∀{A:Hp},Own g A w->Own g A (w.alloc x.1):=λhA=>(hA.alloc x.1).tail;refine⟨λX _ oj' l9=>⟨λhp=>?_,λ_=>⟨hal (Own.eF.2 hw).kT,λ_ h1=>hal h1⟩⟩,?_⟩
      · rw[iz]at l9;cases l9;rw[zz]at hp;cases hp
      · have BU:=hE.early (b:=w.heap.size) hjf P9 P7 iz
        refine dW hs AH NC wV hk f' (.h m [i] T pa pb) cl listed fr H h0 ((j,w.heap.size,x)::E) _ _ (n6 j (mem_ready.1 hj).1) BU (iH.step hj) _ _ (ha.put jS.dst _) ?_ ?_ ho
        · have h1:=hw.alloc x.1
          have h2:Own (g.add (WK E)) (H++[(w.heap.size,x.1)]) (w.alloc x.1):=h1.perm (by exact(xa0 (l₁:=[(w.heap.size,x.1)]) (l₂:=H)));have h3:=Own.eF.1 h2;exact h3
        · rintro⟨k,ok,qN,s9,pC⟩
          refine hal (hR ⟨k,ok,qN,s9,fL (mem_ready.1 hj).1 pC⟩)
    have oo:∀b,yS ops fr o=some b->i∉E.map Prod.fst->Region.wanted o (yielded ops a.tmps)=b:=by
      intro b hb uR;unfold yS at hb;unfold Region.wanted;split at hb
      · rename_i hg;simp only[hg];simpa using hb
      · rename_i j want hg
        simp only[hg];split at hb<;>try (cases hb;done)
        rename_i s jK;rw[kN ha jK];have mr:fa s=fr s:=hE.out s λy hy e=>by
          obtain⟨of,Ur,hap⟩:=hap uR y hy;obtain⟨h1,_,_⟩:=Oper.apart_spec hap;refine h1 s (by simpa[ej,Ur]using e) ?_;refine xaa _ ?_;rw[hg];unfold ej at jK;cases hj:ops[j]? with
          |none=>rw[hj]at jK;cases jK
          |some oj=>rw[hj]at jK;simp only at jK;simp[hj,jK]
        rw[mr];split at hb
        · rename_i c hc;rw[hc];simp only[xas]at hb;subst hb;cases c<;>cases want<;>rfl
        · rename_i c hc;rw[hc];simp only[xas]at hb;subst hb;cases want<;>rfl
        · cases hb
    split at h<;>try exact h.elim
    · -- not wanted
      rename_i Uh;cases lq:(Region.free .any ops listed i&& (match eW cl i with|none=>true|some _=>false))<;>simp only[lq,xao,xaj]at h;simp only[xaC]at lq;have KU:eW cl i=none:=by
        have:=lq.2;split at this
        · assumption
        · cases this
      have uR:i∉E.map Prod.fst:=λhm=>by
        obtain⟨x,hx,e⟩:=xam.1 hm;have:=(hE.mem x hx).1;rw[e,KU]at this;cases this
      have lf:=hE.ready uR Dr;have rz:=(mem_ready.1 lf).1;obtain⟨f',rfl,n6⟩:=m8 rz hfuel;have hfree:=rD (l':=la) lq.1 (λk hk=>hE.more hk);have Lc:(Region.ready .any ops la).contains i=true:=by simpa using lf
      refine cS.take iH (S0:=Own g []) nL hs hfree Lc (λ_ _ _ h=>h) (λw hw X _ oj iz=>⟨λ_=>rfl,λ_=>⟨hw,λ_ h=>h⟩⟩) (λj oj w w' iz hj hno h0 hk=>?_) (.inr ⟨oo false Uh uR,rfl⟩) (Own.eF.2 hw).kT ?_
      · cases zz:uM oj.op
        · exact((hk R AH oj iz).2 zz).1
        · rw[(hk R AH oj iz).1 zz];exact h0
      · refine dW hs AH NC wV hk f' pa cl _ _ H h E _ _ n6 (hE.step hs nL uR uS _) (iH.step lf) _ w (ha.put hd _) hw ?_ (hout _)
        rintro⟨k,ok,qN,s9,pC⟩;exact hR ⟨k,ok,qN,s9,fL rz pC⟩
    rename_i Uh;have hgw:=oo true Uh;have Ws:∀v f' Eh a' w',(cond (Nat.beq m 0) (n9 P g n ops R K pa cl (listed.setIfInBounds i true) (bT fr o.dst v) H)
                    (Br v (n9 P g n ops R K pa cl (listed.setIfInBounds i true) (bT fr o.dst (.bool true)) H) (n9 P g n ops R K pb cl (listed.setIfInBounds i true) (bT fr o.dst (.bool false)) H)))->
        cnt Eh.toList<=f'->kI P n ops cl (listed.setIfInBounds i true) Eh E (bT fr o.dst v) (bT fa o.dst v)->eJ .any ops Eh->bS ds n a' (bT fa o.dst v)->Own (g.add (WK E)) H w'->
        ((∃k ok,ops[k]? =some ok/\wP P ok.op=true/\Eh.getD k true=false)->Own g R w')->f'<fuel->cS P .any ops (qH Q) (pz P g Xs ops) f' Eh a' w':=by
      intro v f' Eh a' w' hv h1 h2 Qo h3 h4 h5 hlt;cases hm:Nat.beq m 0<;>simp only[hm,xao,xaj]at hv
      · obtain⟨b,rfl,Zl,X8⟩:=hv
        cases b
        · exact dW hs AH NC wV hk f' pb cl _ _ H (X8 rfl) E Eh _ h1 h2 Qo a' w' h3 h4 h5 (hout _)
        · exact dW hs AH NC wV hk f' pa cl _ _ H (Zl rfl) E Eh _ h1 h2 Qo a' w' h3 h4 h5 (hout _)
      · exact dW hs AH NC wV hk f' pa cl _ _ H hv E Eh _ h1 h2 Qo a' w' h3 h4 h5 (hout _)
    cases h3:Nat.beq m 3<;>simp only[h3,xao,xaj]at h
    case true=>
      cases lq:(KN o&&Region.free .any ops listed i)<;>simp only[lq,xao,xaj]at h;simp only[xaC]at lq;split at h<;>try exact h.elim
      rename_i b XM;have BP:uM o.op=true:=PE lq.1;have uR:i∉E.map Prod.fst:=λhm=>by
        obtain⟨x,hx,e⟩:=xam.1 hm;have h2:=hE.mem x hx;obtain⟨o',jS⟩:=hE.cl _ _ h2.1 h2.2;have h3:=jS.op;rw[e,nL]at h3;cases h3;have:=jS.Bi;rw[BP]at this;cases this
      have lf:=hE.ready uR Dr;have rz:=(mem_ready.1 lf).1;obtain⟨f',rfl,n6⟩:=m8 rz hfuel;have hfree:=rD (l':=la) lq.2 (λk hk=>hE.more hk);have Lc:(Region.ready .any ops la).contains i=true:=by simpa using lf
      have mR:∀w,pz P g Xs ops i w w:=λw X _ oj l9=>⟨λ_=>rfl,λhn=>(by rw[nL]at l9;cases l9;rw[BP]at hn;cases hn)⟩;have K8:=hE.exec (hap uR) hsel;refine cS.take iH (S0:=Own g []) nL hs hfree Lc (λ_ _ _ h=>h) (λw _=>mR w) (λj oj w w' iz hj hno h0 hk=>?_) (.inl ⟨hgw uR,λw' hw'=>by rw[ha.eval,K8];exact Pz lq.1 XM w'⟩) (Own.eF.2 hw).kT ?_
      · cases zz:uM oj.op
        · exact((hk R AH oj iz).2 zz).1
        · rw[(hk R AH oj iz).1 zz];exact h0
      · refine dW hs AH NC wV hk f' pa cl _ _ H h E _ _ n6 (hE.step hs nL uR uS _) (iH.step lf) _ w (ha.put hd _) hw ?_ (hout _)
        rintro⟨k,ok,qN,s9,pC⟩;exact hR ⟨k,ok,qN,s9,fL rz pC⟩
    cases BP:uM o.op<;>simp only[BP,xao,xaj]at h
    case true=>
      cases lq:(Region.free .any ops listed i)<;>simp only[lq,xao,xaj]at h;have uR:i∉E.map Prod.fst:=λhm=>by
        obtain⟨x,hx,e⟩:=xam.1 hm;have h2:=hE.mem x hx;obtain⟨o',jS⟩:=hE.cl _ _ h2.1 h2.2;have h3:=jS.op;rw[e,nL]at h3;cases h3;have:=jS.Bi;rw[BP]at this;cases this
      have lf:=hE.ready uR Dr;have rz:=(mem_ready.1 lf).1;obtain⟨f',rfl,n6⟩:=m8 rz hfuel;have hfree:=rD (l':=la) lq (λk hk=>hE.more hk);have Lc:(Region.ready .any ops la).contains i=true:=by simpa using lf
      have mR:∀w,pz P g Xs ops i w w:=λw X _ oj l9=>⟨λ_=>rfl,λhn=>(by rw[nL]at l9;cases l9;rw[BP]at hn;cases hn)⟩;have hst:=λv=>hE.step hs nL uR uS v;have K8:=hE.exec (hap uR) hsel;cases hn:isN P o.op
      case true=>
        rw[Be hn (ev fr) R []]at h;obtain⟨v,hk',hr⟩:=j4 h;refine cS.take iH (S0:=Own g []) nL hs hfree Lc (λ_ _ _ h=>h) (λw _=>mR w) (λj oj w w' iz hj hno h0 hk=>?_) (.inl ⟨hgw uR,λw' hw'=>by rw[ha.eval,K8];exact hr w' hw'⟩) (Own.eF.2 hw).kT ?_
        · cases zz:uM oj.op
          · exact((hk R AH oj iz).2 zz).1
          · rw[(hk R AH oj iz).1 zz];exact h0
        · refine Ws v f' _ _ w hk' n6 (hst v) (iH.step lf) (ha.put hd v) hw ?_ zO
          rintro⟨k,ok,qN,s9,pC⟩;exact hR ⟨k,ok,qN,s9,fL rz pC⟩
      case false=>
        obtain⟨v,hk',hr⟩:=j4 h;have hrd:wP P o.op=true:=by simp[wP,BP,hn]
        have Yd:Own g R w:=hR ⟨i,o,nL,hrd,rz⟩;refine cS.take iH (S0:=Own g R) nL hs hfree Lc (λ_ _ _ h=>h) (λw _=>mR w) (λj oj w w' iz hj hno h0 hk=>?_) (.inl ⟨hgw uR,λw' hw'=>by rw[ha.eval,K8];exact hr w' hw'⟩) Yd ?_
        · cases zz:uM oj.op
          · exact((hk R AH oj iz).2 zz).2 (kY nL hrd hj hno) h0
          · rw[(hk R AH oj iz).1 zz];exact h0
        · exact Ws v f' _ _ w hk' n6 (hst v) (iH.step lf) (ha.put hd v) hw (λ_=>Yd) zO
    case false=>
      cases lq:(Region.ready .any ops (marks cl i listed)==[i])<;>simp only[lq,xao,xaj]at h;have hrd:=xc0.1 lq;by_cases uR:i∈E.map Prod.fst
      · obtain⟨⟨i',b,x⟩,hx,e⟩:=xam.1 uR
        simp only at e;subst e;have hex:eW cl i'=some x:=(hE.mem _ hx).1;simp only[hex]at h;obtain⟨E1,E2,rfl⟩:=xc3 hx;have ie:Own (g.add (WK (E1++E2))) ((b,x.1)::H) w:=by
          have h1:=(Own.eF.2 hw).perm ((xcn H (Lw (E1:=E1) (E2:=E2) (y:=(i',b,x)))).trans xaU);exact(Own.eF (A:=(b,x.1)::H)).1 h1
        have hb:b∉H.map Prod.fst:=by
          have:=ie.nd;rw[xaS,xaM,xaW,xaB,xaq]at this;exact λh=>this.1 (.inl h)
        exact dW hs AH NC wV hk fuel pa cl _ _ _ (h b hb) (E1++E2) la fa hfuel (hE.yV hs nL uS) iH a w ha ie hR (hout _)
      · have lf:=hE.ready uR Dr
        have rz:=(mem_ready.1 lf).1;obtain⟨f',rfl,n6⟩:=m8 rz hfuel;have abi:∀j,la.getD j true=false->cnt (la.setIfInBounds j true).toList<=f':=λj hj=>by
          obtain⟨f2,h1,h2⟩:=m8 hj hfuel;have:f2=f':=by omega
          subst this;exact h2
        have hst:=λv=>hE.step hs nL uR uS v;have K8:=hE.exec (hap uR) hsel;refine cS.all rfl (λe=>by rw[e]at lf;simp at lf) λj hj=>?_;by_cases P8:j=i
        · subst P8
          have Bi:∀oj,ops[j]? =some oj->uM oj.op=true->False:=λoj iz hp=>by rw[nL]at iz;cases iz;rw[BP]at hp;cases hp
          unfold wpOp;simp only[nL,hgw uR,xa7];refine .inl ?_;unfold Oper.wp;rw[ha.eval,K8];cases hex:eW cl j with
          |none=>
            simp only[hex]at h;have h:=h (WK E);refine(uA (nP fr) h w hw).upon (λv H' w' cq hb=>?_) (λch H' w' _ h0=>h0.elim);obtain⟨he,hk'⟩:=hb.of;have abz:sg P ops j=true->Own g R w':=λhn=>(Own.eF.2 (he (Pf hn) _ _ cq)).left;refine⟨λX hX oj l9=>⟨λhp=>(Bi oj l9 hp).elim,λ_=>⟨(Own.eF.2 cq).kT,λhn _=>NC X hX _ _ (abz hn)⟩⟩,dW hs AH NC wV hk f' pa cl _ _ H' hk' E _ _ n6 (hst v) (iH.step lf) _ w' (ha.put hd v) cq ?_ (hout v)⟩;rintro⟨k,ok,qN,s9,pC⟩;refine abz ?_;have XW:j≠k:=λe=>by
              subst e;have h1:=fA rz;have hlt:=(xaR.1 h1).1;rw[xav,xbP hlt]at pC;cases pC
            rw[getD_set_ne true XW]at pC;refine kY qN s9 XW λhw=>?_;rw[iH.ready lf hw]at pC;cases pC
          |some x=>
            simp only[hex]at h;obtain⟨oj,jS⟩:=hE.cl j x hex hun;have iz:=jS.op;rw[nL]at iz;cases iz;rw[jS.makes w];simp only[Oper.upon];have hal:∀{A:Hp},Own g A w->Own g A (w.alloc x.1):=λhA=>(hA.alloc x.1).tail;refine⟨λX _ oj l9=>⟨λhp=>(Bi oj l9 hp).elim,λ_=>⟨hal (Own.eF.2 hw).kT,λ_ h1=>hal h1⟩⟩,?_⟩;refine dW hs AH NC wV hk f' pa cl _ _ _ (h _ hw.fresh) E _ _ n6 (hst _) (iH.step lf) _ _ (ha.put hd _) (hw.alloc x.1) ?_ (hout _);rintro⟨k,ok,qN,s9,pC⟩;exact hal (hR ⟨k,ok,qN,s9,fL rz pC⟩)
        · obtain⟨P9,P7⟩:=ZT j hj
          cases aa4:eW cl j with
          |some x=>exact early f' rfl abi j x hj aa4
          |none=>
          refine absurd ?_ P8;have hjf:j∉cl.map Prod.fst:=λhm=>by
            obtain⟨x,hx⟩:=Lt hm;rw[aa4]at hx;cases hx
          have hjm:j∈Region.ready .any ops (marks cl i listed):=by
            obtain⟨_,oj,iz,aD⟩:=mem_ready.1 hj;rw[mem_ready];refine⟨?_,oj,iz,λe he hb=>?_⟩
            · rw[xav,xI,xac (λh=>hjf h.1),<-xav];exact P7
            · have h1:=aD e he hb
              have h2:=hE.la e.on;rw[xav]at h1⊢;rw[xI];by_cases hm:e.on∈E.map Prod.fst
              · obtain⟨x,hx,e2⟩:=xam.1 hm
                have Zc:=fA (hE.mem x hx).2;rw[e2]at Zc;have hlt:=(xaR.1 Zc).1;rw[xae ⟨e2▸jk (hE.mem x hx).1,λe3=>uR (e3▸hm),hlt⟩];rfl
              · rw[xac hm]at h2
                split
                · rfl
                · rw[<-h2];exact h1
          rw[hrd]at hjm;simpa using hjm
  termination_by fuel l=>(fuel,SizeOf.sizeOf l)
def sV:Code->Nat->Bool
  | .region _ ops _,s=>aX ops.toList s
  | .seq a b,s=>sV a s||sV b s
  | .cond _ a b,s=>sV a s||sV b s
  | .block _ c,s=>sV c s
  | .loop c,s=>sV c s
  | .skip,_=>false
  | .ret,_=>false
  | .exit _,_=>false
  |_,_=>true
def TT(c:Code):zL->Bool
  | []=>true
  |s::r=> !sV c s&&TT c r
def u6(s:Nat):zL->Bool
  | []=>false
  |x::r=>Nat.beq s x||u6 s r
def TW:zL->List zV->Fr->Fr
  |l::L,v::vs,base=>λs=>cond (Nat.beq s l) v (TW L vs base s)
  |_,_,base=>base
def mix(L:zL)(vs:List zV)(I:zL)(fr gs:Fr):Fr:=TW L vs λs=>cond (u6 s I) (fr s) (gs s)
def DA(fr:Fr):zL->List zV
  | []=>[]
  |s::r=>fr s::DA fr r
def wz:Nat->(List zV->Prop)->Prop
  |0,p=>p []
  |n+1,p=>∀v,wz n λvs=>p (v::vs)
theorem wz.intro{p:List zV->Prop}(h:∀vs,p vs):∀n,wz n p
  |0=>h _
  |n+1=>λv=>wz.intro (λvs=>h (v::vs)) n
theorem wz.elim{p:List zV->Prop}:∀{n:Nat},wz n p->∀vs:List zV,vs.length=n->p vs
  |0,h,vs,e=>by cases vs with|nil=>exact h|cons x y=>simp at e
  |n+1,h,vs,e=>by
    cases vs with
    |nil=>simp at e
    |cons x y=>exact wz.elim (h x) y (by simpa using e)
theorem EG(fr:Fr)(L:zL):(DA fr L).length=L.length:=by induction L<;>simp[DA, *]
theorem uH{L I:zL}{fr fr':Fr}(h:∀s,u6 s I=true->fr' s=fr s):mix L (DA fr' L) I fr fr'=fr':=by
  funext s
  unfold mix;induction L with
  |nil=>
    simp only[DA,TW];cases he:u6 s I
    · rfl
    · exact(h s he).symm
  |cons l L ih=>
    simp only[DA,TW];cases hb:Nat.beq s l
    · exact ih
    · have:=xaI hb;subst this;rfl
theorem uE{c:Code}{I:zL}(h:TT c I=true):∀s,u6 s I=true->sV c s=false:=by
  induction I with
  |nil=>intro s hs;simp[u6]at hs
  |cons x r ih=>
    intro s hs;simp only[TT,xaC,xbU]at h;simp only[u6,xcl]at hs;rcases hs with hs|hs
    · rw[xaI hs];exact h.1
    · exact ih h.2 s hs
def AP(next:Fr->Hp->Prop)(Q:Exit->Fr->Hp->Prop):Exit->Fr->Hp->Prop
  | .normal,fr,H=>next fr H
  |e,fr,H=>Q e fr H
def RI(id:Nat)(Q:Exit->Fr->Hp->Prop):Exit->Fr->Hp->Prop
  | .exit id',fr,H=>cond (Nat.beq id' id) (Q .normal fr H) (Q (.exit id') fr H)
  |e,fr,H=>Q e fr H
def JE(J:List zV->Hp->Prop)(vs:List zV)(H:Hp):Prop:=∃H',aF H H'/\J vs H'
def az(I:List zV->Hp->Prop)(m:List zV->Hp->Nat)(vs':List zV)(H':Hp)(vs:List zV)(H:Hp):Prop:=∃gY,aF H' gY/\I vs' gY/\m vs' gY<m vs H
def Loop(L:zL)(vs:List zV)(H:Hp)(body:(List zV->Hp->Prop)->List zV->Hp->Prop):Prop:=
  ∃(I:List zV->Hp->Prop) (m:List zV->Hp->Nat),JE I vs H/\wz L.length λvs=>∀H',I vs H'->body (λvs' gY=>az I m vs' gY vs H') vs H'
def acz(k:Nat)(rest:List zV->Hp->Prop)(body:(List zV->Hp->Prop)->Prop):Prop:=
  ∀J:List zV->Hp->Prop,(wz k λvs=>∀H,rest vs H->J vs H)->body J
def DR(H:Hp)(body:Hp->Prop):Prop:=∃R,aF H R/\body R
def oV:Code->Nat->Option (Array Oper)
  | .region id ops _,k=>cond (Nat.beq id k) (some ops) none
  | .seq a b,k=>match oV a k with|some x=>some x|none=>oV b k
  | .cond _ a b,k=>match oV a k with|some x=>some x|none=>oV b k
  | .block _ c,k=>oV c k
  | .loop c,k=>oV c k
  |_,_=>none
def YG(P:Program)(g:Gh)(id:Nat)(ops:Array Oper)(L:zL)(vs:List zV)(H:Hp)(K:Hp->Prop):Prop:=
  ∀a w,g9 a.tmps.size ops.toList=true->(L.map λs=>a.tmps.getD s undef)=vs->Own g H w->
    (Code.region id ops true).wp P (λe a' w'=>e=.normal/\a'.defers=a.defers/\a'.tmps.size=a.tmps.size/\(∀s,aX ops.toList s=false->a'.tmps.getD s undef=a.tmps.getD s undef)/\∃H',Own g H' w'/\K H') a w
def nZ(f:Func)(r:Nat):Array Oper:=match f.body with|some c=>(match oV c r with|some ops=>ops|none=>#[])|none=>#[]
theorem UY(fr:Fr)(L:zL):DA fr L=L.map fr:=by induction L<;>simp[DA, *]
def den(P:Program)(g:Gh)(n:Nat):Code->Hn->(Exit->Fr->Hp->Prop)->Fr->Hp->Prop
  | .skip,_,Q,fr,H=>Q .normal fr H
  | .ret,_,Q,fr,H=>Q .ret fr H
  | .exit id,_,Q,fr,H=>Q (.exit id) fr H
  | .seq x y,hn,Q,fr,H=>
    match hn.m with
    |0=>den P g n x hn.a (AP (den P g n y hn.b Q) Q) fr H
    |_=>cond (TT x hn.I)
        (acz hn.L.length (λvs H'=>∀gs,den P g n y hn.b Q (mix hn.L vs hn.I fr gs) H') λJ=>den P g n x hn.a (AP (λfr' H'=>JE J (DA fr' hn.L) H') Q) fr H) False
  | .cond c x y,hn,Q,fr,H=>Br (ev fr c) (den P g n x hn.a Q fr H) (den P g n y hn.b Q fr H)
  | .block id c,hn,Q,fr,H=>den P g n c hn.a (RI id Q) fr H
  | .loop c,hn,Q,fr,H=>
    cond (TT c hn.I)
      (Loop hn.L (DA fr hn.L) H λJ vs H'=>∀gs,den P g n c hn.a (AP (λfr' gY=>J (DA fr' hn.L) gY) Q) (mix hn.L vs hn.I fr gs) H') False
  | .region id ops draw,hn,Q,fr,H=>
    cond draw
      (match hn.m with
      |0=>match hn.L with
       | []=>cond (P.follows .mixedOrders&&Region.lexB .any ops) (dI P g n ops true (ops.toList.length+1) true none [] ops.toList fr H (λ_ fr' H'=>Q .normal fr' H') (λ_ _=>False)) False
       |l=>cond (P.follows .mixedOrders&&Region.noSelect ops&&Nat.ble l.length ops.size)
          (DR H λR=>LJ P g n ops R (λfr' H'=>Q .normal fr' H') l (Array.replicate ops.size false) fr H) False
      |9=>cond (g9 n ops.toList) (YG P g id ops hn.L (DA fr hn.L) H λH'=>∀gs,Q .normal (rC ops.toList gs fr) H') False
      |_=>cond (P.follows .mixedOrders&&Region.noSelect ops)
          (DR H λR=>n9 P g n ops R (λfr' H'=>Q .normal fr' H') hn.a [] (Array.replicate ops.size false) fr H) False)
      (dI P g n ops (match hn.I with| []=>false|_=>true) (ops.toList.length+1) false none [] ops.toList fr H (λ_ fr' H'=>Q .normal fr' H') (λch H'=>∀fr',Q (.panic ch) fr' H'))
  |_,_,_,_,_=>False
theorem AJ{c:Code}{Q:Exit->Act->World->Prop}{a:Act}{w:World}(R:Act->World->Nat->Prop)(h₀:∃m,R a w m)
   (round:∀a w m,R a w m->c.wp P (Exit.then (λa' w'=>∃m',m'<m/\R a' w' m') Q) a w):(Code.loop c).wp P Q a w:=by
  intro b k cs;have key:∀n a w,R a w n->
      ∃e a' w',Q e a' w'/\Arrives P (lone (b.at a (.code c:: .inLoop c::k)) cs w) b k cs e a' w':=by
    intro n;induction n using Nat.strongRecOn with
    |_ n ih=>
      intro a w hI;obtain⟨e,a₁,w₁,hq,BS⟩:=round a w n hI b (.inLoop c::k) cs;cases e with
      |normal=>
        obtain⟨m',hlt,abQ⟩:=hq;obtain⟨e₂,a₂,w₂,aaN,UF⟩:=ih m' hlt a₁ w₁ abQ;exact⟨e₂,a₂,w₂,aaN,.of_steps (Steps.trans BS (.one step_inLoop)) UF⟩
      |exit id=>exact⟨_,a₁,w₁,hq,.pass (x:=.inLoop c) rfl (λ_ _=>.inl zI) BS⟩
      |goto l=>exact⟨_,a₁,w₁,hq,.pass (x:=.inLoop c) rfl (λ_ _=>.inl zI) BS⟩
      |ret=>exact⟨_,a₁,w₁,hq,.pass (x:=.inLoop c) rfl (λ_ _=>.inl zI) BS⟩
      |panic ch=>exact⟨_,a₁,w₁,hq,.pass (x:=.inLoop c) rfl (λ_ _=>.inl zI) BS⟩
      |outgrown=>exact⟨_,a₁,w₁,hq,.pass (x:=.inLoop c) rfl (λ_ _=>.inl zI) BS⟩
  obtain⟨m,h₀⟩:=h₀;obtain⟨e,a',w',hq,BS⟩:=key m a w h₀;exact⟨e,a',w',hq,.of_steps (.one step_loop) BS⟩
def p9:Exit->Bool
  | .panic _=>true
  |_=>false
theorem iQ{n:Nat}:∀(c:Code) (hn:Hn) (Q:Exit->Fr->Hp->Prop) (fr:Fr) (H:Hp),den P g n c hn Q fr H->∀(a:Act) (w:World),bS ds n a fr->Own g H w->c.wp P (λe a' w'=>∃fr' H',bS ds n a' fr'/\Own g H' w'/\(p9 e=false->∀s,sV c s=false->fr' s=fr s)/\Q e fr' H') a w:=by
  intro c;induction c with
  |skip=>intro hn Q fr H h a w ha hw;exact wp_skip ⟨fr,H,ha,hw,λ_ _ _=>rfl,h⟩
  |ret=>intro hn Q fr H h a w ha hw;exact wp_ret ⟨fr,H,ha,hw,λ_ _ _=>rfl,h⟩
  |exit id=>intro hn Q fr H h a w ha hw;exact wp_exit ⟨fr,H,ha,hw,λ_ _ _=>rfl,h⟩
  |seq x y V0 VZ=>
    intro hn Q fr H h a w ha hw;unfold den at h;have aad:∀{UZ sB:Fr},(∀s,sV x s=false->UZ s=fr s)->(∀s,sV y s=false->sB s=UZ s)->∀s,sV (.seq x y) s=false->sB s=fr s:=λh1 h2 s hs=>by
      simp only[sV,xaL]at hs;rw[h2 s hs.2,h1 s hs.1]
    have wJ:∀{UZ:Fr},(∀s,sV x s=false->UZ s=fr s)->∀s,sV (.seq x y) s=false->UZ s=fr s:=λh1 s hs=>by
      simp only[sV,xaL]at hs;exact h1 s hs.1
    split at h
    · refine wp_seq (wp_mono (V0 _ _ fr H h a w ha hw) ?_)
      rintro e a' w' ⟨fr',H',cW,hw',ho,hq⟩;cases e with
      |normal=>exact wp_mono (VZ _ _ fr' H' hq a' w' cW hw') λe2 a2 w2 ⟨sB,H2,g1,g2,g3,g4⟩=>⟨sB,H2,g1,g2,λhp=>aad (ho rfl) (g3 hp),g4⟩
      |exit id=>exact⟨fr',H',cW,hw',λhp=>wJ (ho hp),hq⟩
      |goto l=>exact⟨fr',H',cW,hw',λhp=>wJ (ho hp),hq⟩
      |ret=>exact⟨fr',H',cW,hw',λhp=>wJ (ho hp),hq⟩
      |panic ch=>exact⟨fr',H',cW,hw',λhp=>wJ (ho hp),hq⟩
      |outgrown=>exact⟨fr',H',cW,hw',λhp=>wJ (ho hp),hq⟩
    · cases hno:TT x hn.I<;>simp only[hno,xao,xaj]at h
      have h':=h (λvs H'=>∀gs,den P g n y hn.b Q (mix hn.L vs hn.I fr gs) H') (wz.intro (λvs H' hh=>hh) _);refine wp_seq (wp_mono (V0 _ _ fr H h' a w ha hw) ?_);rintro e a' w' ⟨fr',H',cW,hw',ho,hq⟩;cases e with
      |normal=>
        obtain⟨Hj,hent,hq⟩:=hq;have hq':den P g n y hn.b Q fr' Hj:=by
          have:=hq fr';rwa [uH λs hs=>ho rfl s (uE hno s hs)]at this
        exact wp_mono (VZ _ _ fr' Hj hq' a' w' cW (hent _ _ hw')) λe2 a2 w2 ⟨sB,H2,g1,g2,g3,g4⟩=>⟨sB,H2,g1,g2,λhp=>aad (ho rfl) (g3 hp),g4⟩
      |exit id=>exact⟨fr',H',cW,hw',λhp=>wJ (ho hp),hq⟩
      |goto l=>exact⟨fr',H',cW,hw',λhp=>wJ (ho hp),hq⟩
      |ret=>exact⟨fr',H',cW,hw',λhp=>wJ (ho hp),hq⟩
      |panic ch=>exact⟨fr',H',cW,hw',λhp=>wJ (ho hp),hq⟩
      |outgrown=>exact⟨fr',H',cW,hw',λhp=>wJ (ho hp),hq⟩
  |cond c x y V0 VZ=>
    intro hn Q fr H h a w ha hw;obtain⟨b,hb,ht,hf⟩:=h;refine wp_cond_split (t:=b) (by rw[ha.eval];exact hb) (λe=>?_) (λe=>?_)
    · exact wp_mono (V0 _ _ fr H (ht e) a w ha hw) λe2 a2 w2 ⟨sB,H2,g1,g2,g3,g4⟩=>⟨sB,H2,g1,g2,λhp s hs=>g3 hp s (by simp only[sV,xaL]at hs;exact hs.1),g4⟩
    · exact wp_mono (VZ _ _ fr H (hf e) a w ha hw) λe2 a2 w2 ⟨sB,H2,g1,g2,g3,g4⟩=>⟨sB,H2,g1,g2,λhp s hs=>g3 hp s (by simp only[sV,xaL]at hs;exact hs.2),g4⟩
  |block id c ih=>
    intro hn Q fr H h a w ha hw;refine wp_block (wp_mono (ih _ _ fr H h a w ha hw) ?_);rintro e a' w' ⟨fr',H',cW,hw',ho,hq⟩;cases e with
    |exit id'=>
      simp only[RI]at hq;cases hb:Nat.beq id' id<;>simp only[hb,xao,xaj]at hq
      · have:id'≠id:=λe=>by subst e;simp at hb
        simp only[Exit.inBlock,this,xaT];exact⟨fr',H',cW,hw',ho,hq⟩
      · have:=xaI hb
        simp only[Exit.inBlock,this,xa7];exact⟨fr',H',cW,hw',ho,hq⟩
    |normal=>exact⟨fr',H',cW,hw',ho,hq⟩
    |goto l=>exact⟨fr',H',cW,hw',ho,hq⟩
    |ret=>exact⟨fr',H',cW,hw',ho,hq⟩
    |panic ch=>exact⟨fr',H',cW,hw',ho,hq⟩
    |outgrown=>exact⟨fr',H',cW,hw',ho,hq⟩
  |loop c ih=>
    intro hn Q fr H h a w ha hw;unfold den at h;cases hno:TT c hn.I<;>simp only[hno,xao,xaj]at h;obtain⟨I,m,⟨H0,abe,h0⟩,hr⟩:=h;refine AJ (λa w k=>∃fr' H',bS ds n a fr'/\Own g H' w/\(∀s,sV c s=false->fr' s=fr s)/\I (DA fr' hn.L) H'/\m (DA fr' hn.L) H'=k) ⟨_,fr,H0,ha,abe _ _ hw,λ_ _=>rfl,h0,rfl⟩ ?_;rintro a w k ⟨UZ,H1,EC,ie,KT,hI,rfl⟩;have hb:=hr.elim (DA UZ hn.L) (EG _ _) H1 hI UZ;rw[uH λs hs=>KT s (uE hno s hs)]at hb;refine wp_mono (ih _ _ UZ H1 hb a w EC ie) ?_;rintro e a' w' ⟨fr',H',cW,hw',ho,hq⟩;have cq:p9 e=false->∀s,sV c s=false->fr' s=fr s:=λhp s hs=>(ho hp s hs).trans (KT s hs);cases e with
    |normal=>obtain⟨Hj,hent,AB,tu⟩:=hq;exact⟨_,tu,fr',Hj,cW,hent _ _ hw',cq rfl,AB,rfl⟩
    |exit id=>exact⟨fr',H',cW,hw',cq,hq⟩
    |goto l=>exact⟨fr',H',cW,hw',cq,hq⟩
    |ret=>exact⟨fr',H',cW,hw',cq,hq⟩
    |panic ch=>exact⟨fr',H',cW,hw',cq,hq⟩
    |outgrown=>exact⟨fr',H',cW,hw',cq,hq⟩
  |region id ops draw=>
    intro hn Q fr H h a w ha hw;unfold den at h;cases draw<;>simp only[xao,xaj]at h
    case false=>
      refine wp_region_list ?_;have:=cf _ _ _ _ _ fr H _ _ h trivial (gN.nil fr) a w ha hw [] (λe a' w'=>∃fr' H',bS ds n a' fr'/\Own g H' w'/\(p9 e=false->∀s,sV (.region id ops false) s=false->fr' s=fr s)/\Q e fr' H') ?_ ?_
      · simpa using this
      · intro a' w' om fr' H' h1 h2 h3 _ h4
        exact⟨fr',H',h1,h2,λ_=>h3,h4⟩
      · intro ch a' w' fr' H' h1 h2 h3
        exact⟨fr',H',h1,h2,λhp=>by simp[p9]at hp,h3 fr'⟩
    case true=>
      split at h
      · split at h
        · cases hc:(P.follows .mixedOrders&&Region.lexB .any ops)<;>simp only[hc,xao,xaj]at h
          simp only[xaC]at hc;refine wp_region_quiet (C:=Own g H) hc.1 hc.2 hw.yo ?_;have:=dw _ none _ ops.toList fr H _ _ h trivial (gN.nil fr) a ha [] (λa'=>∀w',Own g H w'->∃fr' H',bS ds n a' fr'/\Own g H' w'/\(p9 .normal=false->∀s,sV (.region id ops true) s=false->fr' s=fr s)/\Q .normal fr' H') ?_
          · simpa using this
          · intro a' om fr' h1 h3 _ h4
            exact λw' hw'=>⟨fr',H,h1,hw',λ_=>h3,h4⟩
        · cases hc:(P.follows .mixedOrders&&Region.noSelect ops&&Nat.ble hn.L.length ops.size)<;>simp only[hc,xao,xaj]at h
          simp only[xaC]at hc;obtain⟨R,hR,h⟩:=h;refine wp_mono (Q:=qH λe a' w'=>∃fr' H',bS ds n a' fr'/\Own g H' w'/\(p9 e=false->∀s,sV (.region id ops true) s=false->fr' s=fr s)/\Q e fr' H') ?_ ?_
          · refine wp_region_any hc.1.1 (cS.any (S:=Ju P g R ops) ?_)
            exact qo hc.1.2 fr (λa w fr' H' h1 h2 h3 h4=>⟨fr',H',h1,h2,λ_=>h3,h4⟩) _ _ fr H h _ (xco hc.2) (eJ.none _ rfl) _ _ ha hw.yo (λ_=>(hR _ _ hw).yo) (dY.refl _ _)
          · intro e a w h
            cases e<;>first|exact h|exact h.elim
      · cases hc:g9 n ops.toList<;>simp only[hc,xao,xaj]at h
        refine wp_mono (h a w (by rw[ha.size];exact hc) (by rw[UY];exact xbr λs _=>ha.get s) hw) ?_;rintro e a' w' ⟨rfl,hd,hs,ho,H',hw',hk⟩;refine⟨rC ops.toList (λs=>a'.tmps.getD s undef) fr,H',⟨hd.trans ha.defers,hs.trans ha.size,λs=>?_⟩,hw',λ_ s hs=>?_,hk _⟩
        · unfold rC
          cases hb:aX ops.toList s
          · rw[xaj,ho s hb,ha.get]
          · rfl
        · unfold rC;simp only[sV]at hs;rw[hs,xaj]
      · cases hc:(P.follows .mixedOrders&&Region.noSelect ops)<;>simp only[hc,xao,xaj]at h
        simp only[xaC]at hc;obtain⟨R,hR,h⟩:=h;refine wp_mono (Q:=qH λe a' w'=>∃fr' H',bS ds n a' fr'/\Own g H' w'/\(p9 e=false->∀s,sV (.region id ops true) s=false->fr' s=fr s)/\Q e fr' H') ?_ ?_
        · refine wp_region_any hc.1 (cS.any (S:=pz P g [R] ops) ?_)
          refine dW (Xs:=[_]) hc.2 (.head _) (λX hX=>by rw[xaG.1 hX];exact .refl _) fr (λa w fr' H' h1 h2 h3 h4=>⟨fr',H',h1,h2,λ_=>h3,h4⟩) _ _ [] _ fr H h [] _ fr (by rw[Array.toList_replicate,wW];exact xal _) ⟨by simp,by simp,by simp,λ_ _=>rfl,by simp,λj x hx=>by simp[eW]at hx⟩ (eJ.none _ rfl) _ _ ha hw.yo (λ_=>(hR _ _ hw).yo) (dY.refl _ _)
        · intro e a w h
          cases e<;>first|exact h|exact h.elim
  |label l=>intro hn Q fr H h;exact h.elim
  |goto l=>intro hn Q fr H h;exact h.elim
  |scope c _=>intro hn Q fr H h;exact h.elim
  |refuse s=>intro hn Q fr H h;exact h.elim
  |rangeFunc f ps as b _ _=>intro hn Q fr H h;exact h.elim
def cv(R:Ending->Hp->Prop):List PanicEntry->Hp->Prop:=λch H=>∀_:Fr,R (.panicked ch) H
def gu:List PanicEntry->Hp->Prop:=λ_ _=>False
def um:Code->Nat->Option (Array Oper)
  | .region id ops _,k=>cond (Nat.beq id k) (some ops) none
  | .seq a b,k=>match um a k with|some x=>some x|none=>um b k
  | .cond _ a b,k=>match um a k with|some x=>some x|none=>um b k
  | .block _ c,k=>um c k
  | .loop c,k=>um c k
  |_,_=>none
def bM(f:Func)(r i:Nat):Oper:=match f.body with|some c=>(match um c r with|some ops=>(match ops[i]? with|some o=>o|none=>default)|none=>default)|none=>default
def fH:List zV->Nat->Fr
  | [],_=>λ_=>undef
  |v::r,i=>λs=>cond (Nat.beq s i) v (fH r (i+1) s)
def oT(P:Program)(fr:Fr)(H:Hp):List ResultVar->(List zV->Prop)->Prop
  | [],k=>k []
  | .tmp t::r,k=>oT P fr H r λvs=>k (fr t::vs)
  | .cell a t::r,k=>match P.underlying t,cA P t with
    |some d,some n=>cond (cH d) (ax n H (fr a) λv=>oT P fr H r λvs=>k (v::vs)) (Ld H (fr a) λv=>oT P fr H r λvs=>k (v::vs))
    |_,_=>False
def tQ:List zV->zV
  | [v]=>v
  |vs=>.tuple vs.toArray
def af0(P:Program)(fn:Func)(R:Ending->Hp->Prop):Exit->Fr->Hp->Prop
  | .normal,fr,H=>oT P fr H fn.results.toList λvs=>R (.returned (tQ vs)) H
  | .ret,fr,H=>oT P fr H fn.results.toList λvs=>R (.returned (tQ vs)) H
  | .panic ch,_,H=>R (.panicked ch) H
  |_,_,_=>False
def EO(P:Program)(g:Gh)(fn:Func)(hn:Hn)(args:List zV)(H:Hp)(R:Ending->Hp->Prop):Prop:=
  match fn.body with
  |some c=>cond (Nat.ble args.length fn.ntmps) (den P g fn.ntmps c hn (af0 P fn R) (fH args 0) H) False
  |none=>False
theorem k9:∀(l:List zV) (i s:Nat),fH l i s=if s<i then undef else l.getD (s-i) undef
  | [],i,s=>by simp[fH]
  |v::r,i,s=>by
    simp only[fH,k9 r (i+1) s];cases hb:Nat.beq s i
    · have hne:s≠i:=λe=>by subst e;simp at hb
      simp only[xaj];by_cases h:s<i
      · rw[xae zO,xae h]
      · rw[xac zO,xac h,show s-i=(s-(i+1))+1 by omega]
        simp[List.getD]
    · have:=xaI hb;subst this
      simp[List.getD]
def Kh(fr:Fr):ResultVar->Sem zV
  | .tmp t=>pure (fr t)
  | .cell b t=>do loadVar t (<-asAddr (fr b))
theorem sk{fr:Fr}{H:Hp}{w:World}(hw:Own g H w){b:Tmp}{t:TypeId}{v:zV}{p:Addr}(hp:fr b=.pointer (some p))(h:(Instr.loadAt t (fr b)).run P w=.ok v w):(Kh fr (.cell b t)).run P w=.ok v w:=by
  rw[hp]at h;simp only[Kh,hp,asAddr];simpa[Instr.loadAt,Instr.sureAddr]using h
theorem pO{fr:Fr}{H:Hp}{w:World}(hw:Own g H w):∀(l:List ResultVar) (k:List zV->Prop),oT P fr H l k->
    ∃vs,(l.mapM (Kh fr)).run P w=.ok vs w/\k vs
  | [],k,h=>⟨[],by simp,h⟩
  | .tmp t::r,k,h=>by
    obtain⟨vs,hr,hk⟩:=pO hw r _ h;refine⟨fr t::vs,?_,hk⟩;simp only[xee,Sem.run_bind,Sem.run_pure,Result.andThen_ok,hr,Kh]
  | .cell b t::r,k,h=>by
    unfold oT at h;split at h<;>try exact h.elim
    rename_i d m hd hm;obtain⟨i,hi,him⟩:=aU hm;cases hag:cH d<;>simp only[hag,xao,xaj]at h
    · obtain⟨v,hk',hf⟩:=h.fix
      obtain⟨v2,rA,e⟩:=hf.run (P:=P) hw hd hag;subst e;obtain⟨bb,off,c,T,fz,u,hp,_⟩:=hf;obtain⟨vs,hr,hk⟩:=pO hw r _ hk';refine⟨v2::vs,?_,hk⟩;have:=sk hw hp rA;simp only[xee,Sem.run_bind,Result.andThen_ok,hr,Sem.run_pure,this]
    · obtain⟨v,hk',hf⟩:=h.fix
      obtain⟨v2,rA,e⟩:=hf.run (P:=P) hw hd hag hi him;subst e;obtain⟨bb,off,c,T,fz,hp,_⟩:=hf;obtain⟨vs,hr,hk⟩:=pO hw r _ hk';refine⟨v2::vs,?_,hk⟩;have:=sk hw hp rA;simp only[xee,Sem.run_bind,Result.andThen_ok,hr,Sem.run_pure,this]
theorem fO{fn:Func}{fr:Fr}{H:Hp}{n:Nat}{a:Act}{w:World}(ha:bS ds n a fr)(hw:Own g H w){k:List zV->Prop}(h:oT P fr H fn.results.toList k):
    ∃vs,(results fn a.tmps).run P w=.ok (tQ vs) w/\k vs:=by
  obtain⟨vs,hr,hk⟩:=pO (P:=P) hw _ _ h;refine⟨vs,?_,hk⟩;have e:results fn a.tmps=(do let vs <-fn.results.mapM (Kh fr);pure (if h:vs.size=1 then vs[0]else .tuple vs)):=by
    unfold results;congr 1;congr 1
    funext x
    cases x<;>simp only[Kh,ha.get]
  rw[e,Array.mapM_eq_mapM_toList];simp only[Sem.run_bind,Sem.run_map,hr,Result.andThen_ok,Sem.run_pure];congr 1
  match vs with
  | []=>rfl
  | [v]=>rfl
  |a::b::r=>simp[tQ]
theorem EN{f:FuncId}{fn:Func}{hn:Hn}{args:List zV}{H:Hp}{R:Ending->Hp->Prop}(hf:P.funcs[f]? =some fn)(h:EO P g fn hn args H R):aY P g f args.toArray H R:=by
  intro w hw;unfold EO at h;split at h<;>try exact h.elim
  rename_i c hc;cases hl:Nat.ble args.length fn.ntmps<;>simp only[hl,xao,xaj]at h;have hle:=xco hl;refine calls_of_wp hf hc (wp_mono (iQ c hn _ _ H h _ w ⟨rfl,?_,?_⟩ hw) ?_)
  · simp;omega
  · intro s
    rw[k9,xav,xd3];simp only[xdb,xc8,xaT,xdi];by_cases hs:s<args.length
    · simp[hs,List.getD]
    · rw[xac hs]
      rw[xdh];have:args.getD s undef=undef:=by simp[List.getD,xaJ (xcY hs)]
      rw[this];split<;>rfl
  · rintro e a' w' ⟨fr',H',cW,hw',_,hq⟩
    cases e with
    |normal=>obtain⟨vs,hr,hk⟩:=fO cW hw' hq;exact⟨cW.defers,_,hr,H',hw',hk⟩
    |ret=>obtain⟨vs,hr,hk⟩:=fO cW hw' hq;exact⟨cW.defers,_,hr,H',hw',hk⟩
    |panic ch=>exact⟨cW.defers,H',hw',hq⟩
    |exit id=>exact hq.elim
    |goto l=>exact hq.elim
    |outgrown=>exact hq.elim
end
end Go.Sx
namespace Go.Sx
open Go
section
variable {P:Program} {g:Gh} {H:Hp}
theorem Nil.ptr{a:Addr}{k:zV->Prop}(h:k (.pointer (some a))):Nil (.pointer (some a)) k:=⟨_,rfl,h⟩
theorem af.mk{b o off:Nat}{k:zV->Prop}(h:k (.pointer (some ⟨b,o+off,none⟩))):af off (.pointer (some ⟨b,o,none⟩)) k:=⟨b,o,rfl,h⟩
theorem Ld.mk{b off:Nat}{c:Array zV}{T:TypeId}{fz:Nat×Nat}{v:zV}{k:zV->Prop}(hm:(b,Obj.cells c T fz)∈H)(hc:c[off]? =some v)(h:k v):Ld H (.pointer (some ⟨b,off,none⟩)) k:=
 ⟨b,off,c,T,fz,v,rfl,hm,hc,h⟩
theorem ax.mk{b off n:Nat}{c:Array zV}{T:TypeId}{fz:Nat×Nat}{vs:Array zV}{k:zV->Prop}(hm:(b,Obj.cells c T fz)∈H)(hs:off+n<=c.size)(hc:c.extract off (off+n)=vs)(h:k (.agg vs)):ax n H (.pointer (some ⟨b,off,none⟩)) k:=
 ⟨b,off,c,T,fz,rfl,hm,hs,by rw[hc];exact h⟩
theorem St.mk{b off n:Nat}{c:Array zV}{T:TypeId}{x:zV}{c':Array zV}{H':Hp}{k:Hp->Prop}(hu:cu b (.cells c T zZ) (.cells c' T zZ) H H')(hx:x.cells.size=n)(hs:off+n<=c.size)
 (h1:∀v∈x.cells.toList,v.oneCell'=true)(hc:over c off x.cells.toList=c')(h:k H'):St n H (.pointer (some ⟨b,off,none⟩)) x k:=
 ⟨b,off,c,T,H',rfl,hx,hs,h1,by rw[hc];exact hu,h⟩
theorem JE.mk{J:List zV->Hp->Prop}{vs:List zV}(h:J vs H):JE J vs H:=⟨H,.refl _,h⟩
theorem JE.of{J:List zV->Hp->Prop}{vs:List zV}{H':Hp}(e:aF H H')(h:J vs H'):JE J vs H:=⟨H',e,h⟩
theorem az.mk{I:List zV->Hp->Prop}{m:List zV->Hp->Nat}{vs' vs:List zV}{H0:Hp}(h:I vs' H)(hm:m vs' H<m vs H0):az I m vs' H vs H0:=⟨H,.refl _,h,hm⟩
theorem az.of{I:List zV->Hp->Prop}{m:List zV->Hp->Nat}{vs' vs:List zV}{H' H0:Hp}(e:aF H H')(h:I vs' H')(hm:m vs' H'<m vs H0):az I m vs' H vs H0:=⟨H',e,h,hm⟩
theorem Br.mk{b:Bool}{t f:Prop}(h1:b=true->t)(h2:b=false->f):Br (.bool b) t f:=⟨b,rfl,h1,h2⟩
theorem Br.yes{t f:Prop}(h1:t):Br (.bool true) t f:=⟨true,rfl,λ_=>h1,λh=>by simp at h⟩
theorem Br.no{t f:Prop}(h1:f):Br (.bool false) t f:=⟨false,rfl,λh=>by simp at h,λ_=>h1⟩
theorem Br.WV{b:Bool}{t f:Prop}(hb:b=true)(h1:t):Br (.bool b) t f:=by subst hb;exact Br.yes h1
theorem Br.no'{b:Bool}{t f:Prop}(hb:b=false)(h1:f):Br (.bool b) t f:=by subst hb;exact Br.no h1
theorem cz.mk{a:Bool}{want:Bool}{inner els k:Bool->Prop}(t:Bool)(h1:a=want->inner t)(h2:a= !want->els t)(h3:k t):cz (.bool a) want inner els k:=⟨a,t,rfl,h1,h2,h3⟩
theorem cz.and{a:Bool}{inner els k:Bool->Prop}(b:Bool)(h1:a=true->inner b)(h2:els false)(h3:k (a&&b)):cz (.bool a) true inner els k:=
 ⟨a,a&&b,rfl,λe=>by subst e;exact h1 rfl,λe=>by subst e;exact h2,h3⟩
theorem cz.or{a:Bool}{inner els k:Bool->Prop}(b:Bool)(h1:a=false->inner b)(h2:els true)(h3:k (a||b)):cz (.bool a) false inner els k:=
 ⟨a,a||b,rfl,λe=>by subst e;exact h1 rfl,λe=>by subst e;exact h2,h3⟩
theorem Split.mk{a:Bool}{want:Bool}{k1 k2:Prop}(h1:a=want->k1)(h2:a= !want->k2):Split (.bool a) want k1 k2:=⟨a,rfl,h1,h2⟩
theorem Split.go{a:Bool}{want:Bool}{k1 k2:Prop}(e:a=want)(h1:k1):Split (.bool a) want k1 k2:=⟨a,rfl,λ_=>h1,λe'=>by subst e;cases a<;>simp at e'⟩
theorem Split.TO{a:Bool}{want:Bool}{k1 k2:Prop}(e:a= !want)(h1:k2):Split (.bool a) want k1 k2:=⟨a,rfl,λe'=>by subst e';cases a<;>simp at e,λ_=>h1⟩
theorem aI.mk{t:Bool}{a b:zV}{k:zV->Prop}(h:k (cond t a b)):aI (.bool t) a b k:=⟨t,rfl,h⟩
theorem Un.not{b:Bool}{k:zV->Prop}(h:k (.bool !b)):Un .not (.bool b) k:=⟨_,rfl,h⟩
theorem Ext.mk{i:Nat}{vs:Array zV}{v:zV}{k:zV->Prop}(hv:vs[i]? =some v)(h:k v):Ext i (.tuple vs) k:=⟨vs,v,rfl,hv,h⟩
theorem aE.mk{a:Option Addr}{n c:Nat}{k:zV->Prop}(h:k (.int .i64 n)):aE (.slice a n c) k:=⟨a,n,c,rfl,h⟩
theorem aH.of{kd j:IntKind}{n m:Int}{k:zV->Prop}(e:kd.wrap n=m)(h:k (.int kd m)):aH kd (.int j n) k:=⟨j,n,rfl,by rw[e];exact h⟩
theorem wx.mk{off:Nat}{cs:Array zV}{v:zV}{k:zV->Prop}(hc:cs[off]? =some v)(h:k v):wx off (.agg cs) k:=⟨cs,v,rfl,hc,h⟩
theorem ah.mk{size b o n c:Nat}{kd:IntKind}{i:Int}{k:zV->Prop}(h0:0<=i)(h1:i<(n:Int))(h:k (.pointer (some ⟨b,o+i.toNat*size,none⟩))):ah size (.slice (some ⟨b,o,none⟩) n c) (.int kd i) k:=
 ⟨b,o,n,c,kd,i,rfl,rfl,h0,h1,h⟩
theorem ah.nat{size b o n c:Nat}{kd:IntKind}{j:Nat}{k:zV->Prop}(h1:j<n)(h:k (.pointer (some ⟨b,o+j*size,none⟩))):ah size (.slice (some ⟨b,o,none⟩) n c) (.int kd (j:Int)) k:=
 ah.mk (xcf j) zO (by simpa using h)
theorem ah.of{size b o n c:Nat}{kd:IntKind}{i:Int}{k:zV->Prop}(j:Nat)(e:i=(j:Int))(h1:j<n)(h:k (.pointer (some ⟨b,o+j*size,none⟩))):ah size (.slice (some ⟨b,o,none⟩) n c) (.int kd i) k:=by
 subst e;exact ah.nat h1 h
theorem ae.eql{kd:IntKind}{a b:Int}{k:zV->Prop}(h:k (.bool (a==b))):ae .num .eql (.int kd a) (.int kd b) k:=⟨_,by simp[eX,kz],h⟩
theorem ae.neq{kd:IntKind}{a b:Int}{k:zV->Prop}(h:k (.bool (a !=b))):ae .num .neq (.int kd a) (.int kd b) k:=⟨_,by simp[eX,kz],h⟩
theorem ae.lss{kd:IntKind}{a b:Int}{k:zV->Prop}(h:k (.bool (decide (a<b)))):ae .num .lss (.int kd a) (.int kd b) k:=⟨_,by simp[eX,kz],h⟩
theorem ae.leq{kd:IntKind}{a b:Int}{k:zV->Prop}(h:k (.bool (decide (a<=b)))):ae .num .leq (.int kd a) (.int kd b) k:=⟨_,by simp[eX,kz],h⟩
theorem ae.gtr{kd:IntKind}{a b:Int}{k:zV->Prop}(h:k (.bool (decide (b<a)))):ae .num .gtr (.int kd a) (.int kd b) k:=⟨_,by simp[eX,kz],h⟩
theorem ae.geq{kd:IntKind}{a b:Int}{k:zV->Prop}(h:k (.bool (decide (b<=a)))):ae .num .geq (.int kd a) (.int kd b) k:=⟨_,by simp[eX,kz],h⟩
theorem ae.add{kd:IntKind}{a b:Int}{k:zV->Prop}(h:k (.int kd (kd.wrap (a+b)))):ae .num .add (.int kd a) (.int kd b) k:=⟨_,by simp[eX,kz],h⟩
theorem ae.sub{kd:IntKind}{a b:Int}{k:zV->Prop}(h:k (.int kd (kd.wrap (a-b)))):ae .num .sub (.int kd a) (.int kd b) k:=⟨_,by simp[eX,kz],h⟩
theorem ae.mul{kd:IntKind}{a b:Int}{k:zV->Prop}(h:k (.int kd (kd.wrap (a*b)))):ae .num .mul (.int kd a) (.int kd b) k:=⟨_,by simp[eX,kz],h⟩
theorem wrap_i64{a:Int}(h: -9223372036854775808<=a/\a<=9223372036854775807):IntKind.i64.wrap a=a:=IntWalk.i64_in _ h
theorem ae.CY{a b:Int}{c:Int}{k:zV->Prop}(e:a+b=c)(hb: -9223372036854775808<=c/\c<=9223372036854775807)(h:k (.int .i64 c)):ae .num .add (.int .i64 a) (.int .i64 b) k:=
 ae.add (by rw[e,wrap_i64 hb];exact h)
theorem ae.r3{a b:Int}{c:Int}{k:zV->Prop}(e:a-b=c)(hb: -9223372036854775808<=c/\c<=9223372036854775807)(h:k (.int .i64 c)):ae .num .sub (.int .i64 a) (.int .i64 b) k:=
 ae.sub (by rw[e,wrap_i64 hb];exact h)
theorem ae.aah{a b:Int}{c:Int}{k:zV->Prop}(e:a*b=c)(hb: -9223372036854775808<=c/\c<=9223372036854775807)(h:k (.int .i64 c)):ae .num .mul (.int .i64 a) (.int .i64 b) k:=
 ae.mul (by rw[e,wrap_i64 hb];exact h)
theorem ae.OU{a b:Int}{c:Int}{k:zV->Prop}(hb0:b≠0)(e:a.tdiv b=c)(hb: -9223372036854775808<=c/\c<=9223372036854775807)(h:k (.int .i64 c)):ae .num .quo (.int .i64 a) (.int .i64 b) k:=
 ⟨.int .i64 c,by simp[eX,kz,hb0,e,wrap_i64 hb],h⟩
theorem ae.VL{kd:IntKind}{a b:Int}{c:Int}{k:zV->Prop}(hb0:b≠0)(e:a.tmod b=c)(h:k (.int kd c)):ae .num .rem (.int kd a) (.int kd b) k:=
 ⟨.int kd c,by simp[eX,kz,hb0,e],h⟩
theorem ae.aG{a:Addr}{k:zV->Prop}(h:k (.bool false)):ae .ptr .eql (.pointer (some a)) (.pointer none) k:=⟨.bool false,by simp[eX],h⟩
theorem ae.jd{k:zV->Prop}(h:k (.bool true)):ae .ptr .eql (.pointer none) (.pointer none) k:=⟨.bool true,by simp[eX],h⟩
theorem ae.jO{a:Option Nat}{k:zV->Prop}(h:k (.bool a.isNone)):ae .map .eql (.map a) (.map none) k:=⟨.bool a.isNone,by simp[eX],h⟩
theorem ae.afY{a b:Bool}{k:zV->Prop}(h:k (.bool (a==b))):ae .bool .eql (.bool a) (.bool b) k:=⟨_,by simp[eX],h⟩
theorem ae.ad3{a b:Bool}{k:zV->Prop}(h:k (.bool (!(a==b)))):ae .bool .neq (.bool a) (.bool b) k:=⟨_,by simp[eX],h⟩
theorem aF.VI(A B C:Hp):aF (A++(B++C)) (B++(A++C)):=.perm (by rw[<-xai,<-xai];exact xa0.append_right C)
def flat:List Hp->Hp
 | []=>[]
 | [a]=>a
 |a::b::r=>a++flat (b::r)
theorem rF:∀(l:List Hp),(flat l).Perm l.flatten
 | []=>.refl _
 | [a]=>by simp[flat]
 |a::b::r=>by
  simp only[flat,xcy];exact xcn _ (by simpa using rF (b::r))
theorem aF.Z2(S T:List Hp)(h:S.Perm T):aF (flat S) (flat T):=
 .perm ((rF S).trans (h.flatten.trans (rF T).symm))
def rows(l:List (List zV)):Array zV:=l.flatten.toArray
theorem sD{k:Nat}:∀(l:List (List zV)) (i j:Nat),(∀r∈l,r.length=k)->j<k->l.flatten[i*k+j]? =(l[i]?).bind (·[j]?)
 | [],i,j,_,_=>by simp
 |r::l,0,j,h,hj=>by
  have:=h r zI;simp[xd7,this,hj]
 |r::l,i+1,j,h,hj=>by
  have hr:=h r zI;have ih:=sD l i j (λx hx=>h x (by simp[hx])) hj;rw[xcy,xbL (by rw[hr,xbz];omega),hr,show(i+1)*k+j-k=i*k+j by rw[xbz];omega,ih];simp
theorem cZ{k:Nat}:∀(l:List (List zV)),(∀r∈l,r.length=k)->l.flatten.length=l.length*k
 | [],_=>by simp
 |r::l,h=>by
  have hr:=h r zI;rw[xcy,xaf,hr,cZ l (λx hx=>h x (by simp[hx]))];simp[xbz];omega
theorem bC{k:Nat}{l:List (List zV)}(h:∀r∈l,r.length=k):(rows l).size=l.length*k:=by simp[rows,cZ l h]
theorem gS{k:Nat}{l:List (List zV)}(h:∀r∈l,r.length=k){i j:Nat}(hj:j<k):(rows l)[i*k+j]? =(l[i]?).bind (·[j]?):=by
 simp only[rows,xcb];exact sD l i j h hj
theorem za{k:Nat}{l:List (List zV)}(h:∀r∈l,r.length=k){i:Nat}{r:List zV}(hi:l[i]? =some r):(rows l).extract (i*k) (i*k+k)=r.toArray:=by
 have hr:=h r (xay hi);have hlt:=(xah.1 hi).1;apply xc1;apply xbq;intro j;by_cases hj:j<k
 ·have:=gS h (i:=i) hj;rw[xbm,Array.getElem?_extract];rw[xae (by rw[bC h];have:=xba k (xcV hlt);rw[xbz]at this;omega),this,hi];simp
 rw[xaJ zP,xaJ zP]
theorem kV:∀(vs:List zV) (c:List zV) (off:Nat),off+vs.length<=c.length->over c.toArray off vs=(c.take off++vs++c.drop (off+vs.length)).toArray
 | [],c,off,_=>by simp[over]
 |v::r,c,off,h=>by
  simp only[xak]at h;have hl:off<c.length:=by omega
  have:c.toArray.setIfInBounds off v=(c.set off v).toArray:=by simp
  rw[over,this,kV r (c.set off v) (off+1) (by simp only[xbW];omega)];congr 1;have e1:(c.set off v).take (off+1)=c.take off++[v]:=by
   rw[xde,xae hl,xev];simp[List.take_take,hl,xbX (xcq hl)]
  have e2:(c.set off v).drop (off+1+r.length)=c.drop (off+(v::r).length):=by
   rw[List.drop_set_of_lt zO];simp only[xak];rw[show off+1+r.length=off+(r.length+1)by omega]
  rw[e1,e2];simp
theorem A5{k:Nat}{l:List (List zV)}(h:∀r∈l,r.length=k){i:Nat}(hi:i<l.length){r:List zV}(hr:r.length=k):over (rows l) (i*k) r=rows (l.set i r):=by
 unfold rows;have hlen:=cZ l h;have hle:i*k+k<=l.length*k:=by have:=xba k (xcV hi);rwa [xbz]at this
 rw[kV r l.flatten (i*k) (by rw[hlen,hr];exact hle)];congr 1;have e:l=l.take i++[l[i]]++l.drop (i+1):=by simp
 have hp:(l.take i).flatten.length=i*k:=by
  rw[cZ _ (λx hx=>h x (xcj hx))];simp[xbX (xcq hi)]
 have hm:l[i].length=k:=h _ (xaF hi);have e3:l.flatten=(l.take i).flatten++(l[i]++(l.drop (i+1)).flatten):=by
  rw[<-xcy,<-xbt,<-xaV hi,xbo]
 have e4:(l.set i r).flatten=(l.take i).flatten++(r++(l.drop (i+1)).flatten):=by
  rw[xde,xae hi];simp[xbt]
 rw[e4,e3,<-hp,xdx,<-List.drop_drop,List.drop_left,hr,<-hm,List.drop_left];simp
end
end Go.Sx
namespace Go.Sx
open Go
section
variable {P:Program} {g:Gh}
theorem cu.aO{b:Nat}{o o':Obj}{C C':Hp}(h:cu b o o' C C')(A:Hp):cu b o o' (A++C) (A++C'):=by
 induction A with
 |nil=>exact h
 |cons x A ih=>exact .tail ih
def aM(T:TypeId)(k:Nat)(v:zV)(rs:List (List zV))(C:Hp):Prop:=
 (v=.slice none 0 0/\rs=[]/\C=[])\/
 ∃b au,v=.slice (some ⟨b,0,none⟩) rs.length (rs.length+au.length)/\C=[(b,.cells (rows (rs++au)) T zZ)]/\(∀r∈rs++au,r.length=k)
theorem aM.nil(T:TypeId)(k:Nat):aM T k (.slice none 0 0) [] []:=.inl ⟨rfl,rfl,rfl⟩
theorem aM.len{T:TypeId}{k:Nat}{v:zV}{rs:List (List zV)}{C:Hp}(h:aM T k v rs C):∃a c,v=.slice a rs.length c:=by
 rcases h with⟨rfl,rfl,rfl⟩|⟨b,au,rfl,_⟩
 ·exact⟨_,_,rfl⟩
 exact⟨_,_,rfl⟩
theorem aM.bE{T:TypeId}{k:Nat}{v:zV}{rs:List (List zV)}{C:Hp}(h:aM T k v rs C){K:zV->Prop}(hk:K (.int .i64 rs.length)):aE v K:=by
 obtain⟨a,c,rfl⟩:=h.len;exact aE.mk hk
theorem mw{k:Nat}(z:List zV)(hz:z.length=k)(m:Nat):Builtin.zeroCells z.toArray m=rows (List.replicate m z):=by
 apply xc1;apply xbq;intro j;have aD:∀r∈List.replicate m z,r.length=k:=λr hr=>by rw[xbQ hr,hz]
 by_cases hj:j<m*k
 ·have hk:0<k:=Nat.pos_of_ne_zero λe=>by simp[e]at hj
  have hd:j/k<m:=xd8 (by rw[xbJ];exact hj);have hm:j%k<k:=xbx _ hk;have he:j/k*k+j%k=j:=by rw[xbJ];exact xdr j k
  have:=gS aD (i:=j/k) hm;rw[he]at this;rw[xbm,xbm,this];simp only[Builtin.zeroCells,xdb,hz,xdT,hd,xa7,xd1];rw[Array.getElem?_map,Array.getElem?_range];simp[hj,hz,hm]
 rw[xaJ,xaJ]
 ·simp only[xb6,bC aD,xbD];omega
 simp[Builtin.zeroCells,hz];omega
theorem cE(a b:List (List zV)):rows a++rows b=rows (a++b):=by simp[rows,xbt]
theorem aM.E5{elem k bytes:Nat}{zero:zV}{v:zV}{rs:List (List zV)}{C A B:Hp}(h:aM elem k v rs C){xb:Nat}{r:List zV}{xT:TypeId}{fz:Nat×Nat}{xc:Nat}
 (hx:(xb,Obj.cells r.toArray xT fz)∈A++(C++B))(hr:r.length=k)(h1:∀u∈r,u.oneCell'=true)(hz:∃z:List zV,zero.cells=z.toArray/\z.length=k)
 (hb:(rs.length+1)*bytes<=140737488355328)(cJ:rs.length+1<=9223372036854775807){K:zV->Hp->Prop}
 (hk:∀v' C',aM elem k v' (rs++[r]) C'->K v' (A++(C'++B))):App P elem k bytes zero (A++(C++B)) v (.slice (some ⟨xb,0,none⟩) 1 xc) K:=by
 have IX:∀x∈[r],x.length=k:=λx hx=>by simp at hx;rw[hx];exact hr
 obtain⟨z,hz1,Ug⟩:=hz;have hnews:Cells (A++(C++B)) (some ⟨xb,0,none⟩) (1*k) (rows [r]):=.inr ⟨rfl,_,_,_,hx,by simp[hr],by simp[rows];rw[<-hr,xbe]⟩;have hnone:∀u∈(rows [r]).toList,u.oneCell'=true:=by simpa[rows]using h1
 rcases h with⟨rfl,rfl,rfl⟩|⟨b,au,rfl,rfl,aD⟩
 ·refine⟨none,0,0,some ⟨xb,0,none⟩,1,xc,#[],rows [r],rfl,rfl,rfl,hnews,by rw[bC IX];simp,by simp,hnone,λh=>by omega,λ_=>⟨hb,by omega,λfE hn b hbf=>?_⟩⟩;rw[show(#[]:Array zV)++rows [r]++Builtin.zeroCells zero.cells (fE-(0+1))=rows ([]++[r]++List.replicate (fE-1) z)by rw[hz1,mw z Ug];simp only[xa1,xdq,xa6];rw[cE]];refine⟨_,aF.VI [(b,_)] A B,hk _ [(b,_)] (.inr ⟨b,List.replicate (fE-1) z,?_,rfl,?_⟩)⟩
  ·simp;omega
  intro x hx;rcases xaq.1 hx with hx|hx
  ·exact IX x hx
  rw[xbQ hx,Ug]
 have hsz:=bC aD;have oq:∀x∈rs,x.length=k:=λx hx=>aD x (by simp[hx]);have hold:rows rs=(rows (rs++au)).extract 0 (0+rs.length*k):=by
  rw[<-cE];apply xc1;have:=bC oq;have h2:(rows rs).toList.length=rs.length*k:=by rw[xb6];exact this
  rw[Array.toList_extract,Array.toList_append,List.extract_eq_take_drop,List.drop_zero,xa1,xdi,<-h2,xdx]
 refine⟨some ⟨b,0,none⟩,rs.length,rs.length+au.length,some ⟨xb,0,none⟩,1,xc,rows rs,rows [r],rfl,rfl,.inr ⟨rfl,_,elem,(0,0),by simp,?_,hold⟩,hnews,by rw[bC IX];simp,bC oq,hnone,λhfit=>?_,λhgrow=>⟨hb,by omega,λfE hn b' hbf=>?_⟩⟩
 ·rw[hsz];simp only[xaf,xa1];exact xba _ zO
 ·obtain⟨j0,PA,rfl⟩:∃j0 PA,au=j0::PA:=by cases au with|nil=>exact absurd hfit (by simp only[xa3];omega)|cons a b=>exact⟨a,b,rfl⟩
  refine⟨_,elem,_,rfl,?_,((cu.head _).append B).aO A,hk _ [(b,_)] (.inr ⟨b,PA,?_,?_,?_⟩)⟩
  ·rw[hsz];simp[xbz,xeF]
  ·simp;omega
  ·have e:(rows [r]).toList=r:=by simp[rows]
   rw[e,show(⟨b,0,none⟩:Addr).off+rs.length*k=rs.length*k by simp,A5 aD zI hr];simp
  intro x hx;simp only[xai,xaS,xa6,xaq,xag]at hx;rcases hx with hx|hx|hx
  ·exact oq x hx
  ·rw[hx];exact hr
  exact aD x (by simp[hx])
 refine⟨A++([(b',_)]++B),?_,hk _ [(b',_)] (.inr ⟨b',List.replicate (fE-(rs.length+1)) z,?_,rfl,?_⟩)⟩
 ·rw[hz1,mw z Ug,cE,cE];exact λg w h=>(aF.Z2 [[_],A,[_],B] [[_],A,[_],B] ((xa0 (l₁:=[_,A]) (l₂:=[_])).append_right [B]|>.trans (.cons _ (.swap _ _ _))) g w h).tail
 ·simp;omega
 intro x hx;rcases xaq.1 hx with hx|hx
 ·rcases xaq.1 hx with hx|hx
  ·exact oq x hx
  exact IX x hx
 rw[xbQ hx,Ug]
end
end Go.Sx
namespace Go.Sx
open Go
section
variable {P:Program} {g:Gh} {H:Hp}
theorem aM.pos{T:TypeId}{k:Nat}{v:zV}{rs:List (List zV)}{C:Hp}(h:aM T k v rs C)(hp:0<rs.length):
  ∃b au,v=.slice (some ⟨b,0,none⟩) rs.length (rs.length+au.length)/\C=[(b,.cells (rows (rs++au)) T zZ)]/\(∀r∈rs++au,r.length=k):=by
 rcases h with⟨_,rfl,_⟩|h
 ·simp at hp
 exact h
theorem aM.mk{T:TypeId}{k b:Nat}{rs au:List (List zV)}(aD:∀r∈rs++au,r.length=k):aM T k (.slice (some ⟨b,0,none⟩) rs.length (rs.length+au.length)) rs [(b,.cells (rows (rs++au)) T zZ)]:=
 .inr ⟨b,au,rfl,rfl,aD⟩
theorem aM.mk'{T:TypeId}{k b n c:Nat}{rs au:List (List zV)}(aD:∀r∈rs++au,r.length=k)(hn:n=rs.length)(hc:c=rs.length+au.length):aM T k (.slice (some ⟨b,0,none⟩) n c) rs [(b,.cells (rows (rs++au)) T zZ)]:=by
 subst hn;subst hc;exact aM.mk aD
theorem ax.row{b i k:Nat}{l:List (List zV)}{T:TypeId}{fz:Nat×Nat}{r:List zV}{K:zV->Prop}(hm:(b,Obj.cells (rows l) T fz)∈H)(aD:∀r∈l,r.length=k)(hi:l[i]? =some r)(h:K (.agg r.toArray)):
  ax k H (.pointer (some ⟨b,0+i*k,none⟩)) K:=by
 have hlt:=(xah.1 hi).1;refine ax.mk hm ?_ ?_ h
 ·rw[bC aD,xa1];have:=xba k (xcV hlt);rwa [xbz]at this
 rw[xa1];exact za aD hi
theorem Ld.row{b i j k:Nat}{l:List (List zV)}{T:TypeId}{fz:Nat×Nat}{r:List zV}{v:zV}{K:zV->Prop}(hm:(b,Obj.cells (rows l) T fz)∈H)(aD:∀r∈l,r.length=k)(hi:l[i]? =some r)(hv:r[j]? =some v)(h:K v):
  Ld H (.pointer (some ⟨b,0+i*k+j,none⟩)) K:=by
 have hr:=aD r (xay hi);have hj:j<k:=by rw[<-hr];exact(xah.1 hv).1
 refine Ld.mk hm ?_ h;rw[xa1,gS aD hj,hi];exact hv
theorem Ld.Z4{b i:Nat}{l:List (List zV)}{T:TypeId}{fz:Nat×Nat}{v:zV}{K:zV->Prop}(hm:(b,Obj.cells (rows l) T fz)∈H)(aD:∀r∈l,r.length=1)(hi:l[i]? =some [v])(h:K v):
  Ld H (.pointer (some ⟨b,0+i*1,none⟩)) K:=by
 have:=Ld.row (j:=0) hm aD hi rfl h;simpa using this
theorem St.row{b i k:Nat}{l:List (List zV)}{T:TypeId}{r:List zV}{H':Hp}{K:Hp->Prop}(hu:cu b (.cells (rows l) T zZ) (.cells (rows (l.set i r)) T zZ) H H')(aD:∀r∈l,r.length=k)(hi:i<l.length)
 (hr:r.length=k)(h1:∀v∈r,v.oneCell'=true)(h:K H'):St k H (.pointer (some ⟨b,0+i*k,none⟩)) (.agg r.toArray) K:=by
 refine St.mk hu (by simp[Value.cells,hr]) ?_ (by simpa[Value.cells]using h1) ?_ h
 ·rw[bC aD,xa1];have:=xba k (xcV hi);rwa [xbz]at this
 simp only[Value.cells,xa1];exact A5 aD hi hr
theorem og{k:Nat}{l:List (List zV)}(h:∀r∈l,r.length=k){i j:Nat}{r:List zV}(hi:l[i]? =some r)(hj:j<k)(v:zV):(rows l).setIfInBounds (i*k+j) v=rows (l.set i (r.set j v)):=by
 have hr:=h r (xay hi);have hlt:=(xah.1 hi).1;have Qw:∀x∈l.set i (r.set j v),x.length=k:=λx hx=>by
  rcases xcm hx with hx|hx
  ·exact h x hx
  rw[hx,xbW];exact hr
 have hk:0<k:=by omega
 apply xc1;apply xbq;intro m;rw[xbm,xbm,xcv];have hm:m%k<k:=xbx _ hk;have he:m/k*k+m%k=m:=by rw[xbJ];exact xdr m k
 have g1:=gS h (i:=m/k) hm;have g2:=gS Qw (i:=m/k) hm;rw[he]at g1 g2;rw[g1,g2];by_cases e:i*k+j=m
 ·have e1:m/k=i:=by rw[<-e,xbJ,Nat.mul_add_div hk,xcr hj,xbY]
  have e2:m%k=j:=by rw[<-e,xbJ,Nat.mul_add_mod,xa5 hj]
  rw[xae e,xae (by rw[bC h];have:=xba k (xcV hlt);rw[xbz]at this;omega),e1,e2];simp[hlt,hr,hj]
 rw[xac e];by_cases e1:m/k=i
 ·have e2:j≠m%k:=λe2=>e (by rw[e2,<-e1];exact he);rw[e1,hi];simp[hlt,e2]
 rw[xbM (λx=>e1 x.symm)]
theorem St.cell{b i j k:Nat}{l:List (List zV)}{T:TypeId}{r:List zV}{v:zV}{H':Hp}{K:Hp->Prop}(hu:cu b (.cells (rows l) T zZ) (.cells (rows (l.set i (r.set j v))) T zZ) H H')(aD:∀r∈l,r.length=k)
 (hi:l[i]? =some r)(hj:j<k)(h1:v.oneCell'=true)(h:K H'):St 1 H (.pointer (some ⟨b,0+i*k+j,none⟩)) v K:=by
 have hlt:=(xah.1 hi).1;have hc:v.cells=#[v]:=by cases v<;>first|rfl|(simp[Value.oneCell']at h1)
 refine St.mk hu (by simp[hc]) ?_ (by simp[hc,h1]) ?_ h
 ·rw[bC aD,xa1];have:=xba k (xcV hlt);rw[xbz]at this;omega
 simp only[hc,xa1,over];exact og aD hi hj v
theorem St.one{b off:Nat}{c c':Array zV}{T:TypeId}{v:zV}{H':Hp}{K:Hp->Prop}(hu:cu b (.cells c T zZ) (.cells c' T zZ) H H')(h1:v.oneCell'=true)(hs:off<c.size)(hc:c.setIfInBounds off v=c')(h:K H'):
  St 1 H (.pointer (some ⟨b,off,none⟩)) v K:=by
 have hv:v.cells=#[v]:=by cases v<;>first|rfl|(simp[Value.oneCell']at h1)
 exact St.mk hu (by simp[hv]) zO (by simp[hv,h1]) (by simpa[hv,over]using hc) h
theorem St.whole{b n:Nat}{c:Array zV}{T:TypeId}{r:List zV}{H':Hp}{K:Hp->Prop}(hu:cu b (.cells c T zZ) (.cells r.toArray T zZ) H H')(hs:c.size=n)(hr:r.length=n)(h1:∀v∈r,v.oneCell'=true)(h:K H'):
  St n H (.pointer (some ⟨b,0,none⟩)) (.agg r.toArray) K:=by
 refine St.mk hu (by simp[Value.cells,hr]) zO (by simpa[Value.cells]using h1) ?_ h;have:=kV r c.toList 0 zP;rw[xcK]at this;simp only[Value.cells];rw[this];simp[xbc,hr,hs]
theorem ax.whole{b n:Nat}{r:List zV}{T:TypeId}{fz:Nat×Nat}{K:zV->Prop}(hm:(b,Obj.cells r.toArray T fz)∈H)(hr:r.length=n)(h:K (.agg r.toArray)):ax n H (.pointer (some ⟨b,0,none⟩)) K:=
 ax.mk hm (by simp[hr]) (by simp;rw[<-hr,xbe]) h
theorem gk{α β:Type}(f:α->β):∀(l:List α) (i:Nat),(l.map f).eraseIdx i=(l.eraseIdx i).map f
 | [],_=>rfl
 |x::l,0=>rfl
 |x::l,i+1=>by simp[gk f l i]
def fx{β:Type}(kd:IntKind)(enc:β->zV)(m:List (Int×β×Nat)):Array MapEntry:=(m.map λx=>({key:=.int kd x.1,val:=enc x.2.1,born:=x.2.2}:MapEntry)).toArray
def gg{β:Type}(m:List (Int×β×Nat))(x:Int):Option β:=(m.find? (λy=>x==y.1)).map (·.2.1)
def jR{β:Type}(kd:IntKind)(enc:β->zV)(v:zV)(f:Int->Option β)(C:Hp):Prop:=
 (v=.map none/\C=[]/\f=λ_=>none)\/
 ∃b m ck,v=.map (some b)/\C=[(b,.map (fx kd enc m) ck)]/\(m.map Prod.fst).Nodup/\f=gg m
theorem iJ{β:Type}(kd:IntKind)(enc:β->zV)(x:Int):∀(m:List (Int×β×Nat)) (i:Nat),
  ∃r,Instr.findNow (.int kd) (.int kd x) (fx kd enc m).toList i=some r/\
   (match r with
    |none=>gg m x=none/\x∉m.map Prod.fst
    |some (j,v)=>i<=j/\∃p n,m[j-i]? =some (x,p,n)/\v=enc p/\gg m x=some p)
 | [],i=>⟨none,by simp[fx,Instr.findNow],by simp[gg]⟩
 |(y,p,n)::m,i=>by
  simp only[fx,xaM,Instr.findNow,Instr.sameNow,xa7];by_cases e:x=y
  ·subst e;refine⟨some (i,enc p),by simp[Instr.findNow,Instr.sameNow],xal _,p,n,by simp,rfl,by simp[gg]⟩
  obtain⟨r,hr,hp⟩:=iJ kd enc x m (i+1);have hb:(x==y)=false:=by simpa using e
  refine⟨r,?_,?_⟩
  ·simp only[fx]at hr;simp[Instr.findNow,Instr.sameNow,hb,hr]
  cases r with
  |none=>
   simp only[gg,xbG,hb]at hp⊢;exact⟨hp.1,by simpa[e]using hp.2⟩
  |some jv=>
   obtain⟨j,v⟩:=jv;simp only[gg,xbG,hb]at hp⊢;obtain⟨hij,p',n',h1,h2,h3⟩:=hp;refine⟨by omega,p',n',?_,h2,h3⟩;rw[show j-i=(j-(i+1))+1 by omega];simpa using h1
theorem jR.look{β:Type}{kd:IntKind}{enc:β->zV}{v zero:zV}{f:Int->Option β}{C:Hp}{ok:Bool}{x:Int}{K:zV->Prop}(h:jR kd enc v f C)(hC:∀y∈C,y∈H)
 (hk:K (match f x with|some p=>cond ok (.tuple #[enc p,.bool true]) (enc p)|none=>cond ok (.tuple #[zero,.bool false]) zero)):jE (.int kd) zero ok H v (.int kd x) K:=by
 rcases h with⟨rfl,rfl,rfl⟩|⟨b,m,ck,rfl,rfl,_,rfl⟩
 ·exact⟨#[],none,.inl ⟨rfl,rfl⟩,rfl,hk⟩
 obtain⟨r,hr,hp⟩:=iJ kd enc x m 0;refine⟨_,r,.inr ⟨b,ck,rfl,hC _ zI⟩,hr,?_⟩;cases r with
 |none=>simp only[hp.1]at hk;exact hk
 |some jv=>
  obtain⟨j,u⟩:=jv;obtain⟨_,p,n,_,rfl,h3⟩:=hp;simp only[h3]at hk;exact hk
def Nl{β:Type}(f:Int->Option β)(x:Int)(p:Option β):Int->Option β:=λy=>if y=x then p else f y
theorem jR.made{β:Type}{kd:IntKind}{enc:β->zV}(b:Nat):jR kd enc (.map (some b)) (λ_=>none) [(b,.map #[] 0)]:=
 .inr ⟨b,[],0,rfl,rfl,by simp,by funext x;simp[gg]⟩
theorem Eb{β:Type}(m:List (Int×β×Nat))(x:Int)(p:β)(n:Nat)(hx:x∉m.map Prod.fst):gg (m++[(x,p,n)])=Nl (gg m) x (some p):=by
 funext y
 simp only[gg,Nl,List.find?_append];by_cases e:y=x
 ·subst e;have:m.find? (λz=>y==z.1)=none:=by
   rw[xc4];intro z hz;simp only[xc0];intro e;exact hx (e▸xbd hz)
  simp[this]
 have e':(y==x)=false:=by simpa using e
 rw[xac e];cases h:m.find? (λz=>y==z.1)<;>simp[e']
theorem xJ{β:Type}:∀(m:List (Int×β×Nat)) (j:Nat) (x:Int) (p q:β) (n:Nat),(m.map Prod.fst).Nodup->m[j]? =some (x,q,n)->gg (m.set j (x,p,n))=Nl (gg m) x (some p)
 | [],j,_,_,_,_,_,h=>by simp at h
 |y::m,0,x,p,q,n,nd,h=>by
  simp at h;subst h
  funext z
  simp only[xcE,gg,Nl,xbG];by_cases e:z=x
  ·subst e;simp
  have e':(z==x)=false:=by simpa using e
  rw[xac e];simp[e']
 |y::m,j+1,x,p,q,n,nd,h=>by
  simp at h;simp only[xaM,xaW]at nd;have ih:=xJ m j x p q n nd.2 h;have hne:x≠y.1:=λe=>nd.1 (e▸xbd (f:=Prod.fst) (xay h))
  funext z
  have ihz:=congrFun ih z;simp only[xel,gg,Nl,xbG]at ihz⊢;by_cases e:z=y.1
  ·have:z≠x:=λe2=>hne (e2▸e);simp[e,xbn hne]
  have e':(z==y.1)=false:=by simpa using e
  simp only[e'];exact ihz
theorem sj{β:Type}:∀(m:List (Int×β×Nat)) (j:Nat) (x:Int) (q:β) (n:Nat),(m.map Prod.fst).Nodup->m[j]? =some (x,q,n)->gg (m.eraseIdx j)=Nl (gg m) x none
 | [],j,_,_,_,_,h=>by simp at h
 |y::m,0,x,q,n,nd,h=>by
  simp at h;subst h;simp only[xaM,xaW]at nd
  funext z
  simp only[List.eraseIdx_cons_zero,gg,Nl,xbG];by_cases e:z=x
  ·subst e;have:m.find? (λw=>z==w.1)=none:=by
    rw[xc4];intro w hw;simp only[xc0];intro e;exact nd.1 (e▸xbd hw)
   simp[this]
  have e':(z==x)=false:=by simpa using e
  rw[xac e];simp[e']
 |y::m,j+1,x,q,n,nd,h=>by
  simp at h;simp only[xaM,xaW]at nd;have ih:=sj m j x q n nd.2 h;have hne:x≠y.1:=λe=>nd.1 (e▸xbd (f:=Prod.fst) (xay h))
  funext z
  have ihz:=congrFun ih z;simp only[List.eraseIdx_cons_succ,gg,Nl,xbG]at ihz⊢;by_cases e:z=y.1
  ·simp[e,xbn hne]
  have e':(z==y.1)=false:=by simpa using e
  simp only[e'];exact ihz
theorem jR.bT{β:Type}{kd:IntKind}{enc:β->zV}{b:Nat}{f:Int->Option β}{C:Hp}{x:Int}{p:β}{A B:Hp}{K:Hp->Prop}(h:jR kd enc (.map (some b)) f C)
 (hk:∀C',jR kd enc (.map (some b)) (Nl f x (some p)) C'->K (A++(C'++B))):dJ (.int kd) (A++(C++B)) (.map (some b)) (.int kd x) (enc p) K:=by
 rcases h with⟨h,_,_⟩|⟨b',m,ck,hb,rfl,nd,rfl⟩
 ·simp at h
 simp only[Value.map.injEq,xas]at hb;subst hb;obtain⟨r,hr,hp⟩:=iJ kd enc x m 0;refine⟨b,fx kd enc m,ck,r,rfl,hr,?_⟩;cases r with
 |none=>
  refine⟨_,((cu.head _).append B).aO A,hk [(b,_)] (.inr ⟨b,m++[(x,p,ck)],ck+1,rfl,?_,?_,?_⟩)⟩
  ·simp[fx]
  ·rw[xaB,xa9];exact⟨nd,by simp,λa ha c hc=>by simp at hc;subst hc;intro e;subst e;exact hp.2 ha⟩
  exact(Eb m x p ck hp.2).symm
 |some jv=>
  obtain⟨j,u⟩:=jv;obtain⟨_,q,n,h1,rfl,h3⟩:=hp;rw[xdi]at h1;have hlt:=(xah.1 h1).1;refine⟨λe he=>?_,by simpa[fx]using hlt,_,((cu.head _).append B).aO A,hk [(b,_)] (.inr ⟨b,m.set j (x,p,n),ck,rfl,?_,?_,?_⟩)⟩
  ·have:e={key:=.int kd x,val:=enc q,born:=n}:=by
    simp only[fx,xcb,xar,h1]at he;simpa using he.symm
   subst this;simp[Instr.sameBits]
  ·congr 3;apply xc1;apply xbq;intro i;simp only[fx,xbm,xbf,xcb,xar,xbH];by_cases e:j=i
   ·subst e;have hj:m[j]=(x,q,n):=by have:=xab hlt;rw[h1]at this;simpa using this.symm
    simp[hlt,hj]
   simp[e]
  ·rw[xc5];have hx:(m.map Prod.fst)[j]? =some x:=by rw[xar,h1];rfl
   rw[show(m.map Prod.fst).set j x=m.map Prod.fst by
    apply xbq;intro i;rw[xbH];by_cases e:j=i
    ·subst e;rw[hx];simp[hlt]
    simp[e]]
   exact nd
  exact(xJ m j x p q n nd h1).symm
theorem jR.del{β:Type}{kd:IntKind}{enc:β->zV}{v:zV}{f:Int->Option β}{C:Hp}{x:Int}{A B:Hp}{K:Hp->Prop}(h:jR kd enc v f C)
 (hk:∀C',jR kd enc v (Nl f x none) C'->K (A++(C'++B))):vR (.int kd) (A++(C++B)) v (.int kd x) K:=by
 rcases h with⟨rfl,rfl,rfl⟩|⟨b,m,ck,rfl,rfl,nd,rfl⟩
 ·refine .inl ⟨rfl,hk [] (.inl ⟨rfl,rfl,?_⟩)⟩
  funext y;simp[Nl]
 obtain⟨r,hr,hp⟩:=iJ kd enc x m 0;refine .inr ⟨b,fx kd enc m,ck,r,rfl,hr,?_⟩;cases r with
 |none=>
  refine⟨by simp,hk [(b,_)] (.inr ⟨b,m,ck,rfl,rfl,nd,?_⟩)⟩
  funext y;simp only[Nl];split
  ·rename_i e;subst e;exact hp.1.symm
  rfl
 |some jv=>
  obtain⟨j,u⟩:=jv;obtain⟨_,q,n,h1,rfl,h3⟩:=hp;rw[xdi]at h1;have hlt:=(xah.1 h1).1;refine⟨_,((cu.head _).append B).aO A,hk [(b,_)] (.inr ⟨b,m.eraseIdx j,ck,rfl,?_,?_,?_⟩)⟩
  ·congr 3;apply xc1;simp[fx,Array.eraseIdxIfInBounds,hlt,gk]
  ·rw[<-gk];exact nd.sublist (xd4 _ _)
  exact(sj m j x q n nd h1).symm
end
end Go.Sx
namespace Go.Sx
open Go
section
variable {P:Program} {g:Gh} {H:Hp}
theorem u4(off:Nat):∀(r:List zV) (i:Nat) (c:Array zV),(r.zipIdx i).foldl (λcs (x:zV×Nat)=>cs.setIfInBounds (off+x.2) x.1) c=over c (off+i) r
 | [],i,c=>rfl
 |v::r,i,c=>by
  rw[List.zipIdx_cons,xcN,u4 off r (i+1)];rfl
theorem Lr(off:Nat)(a c:Array zV):a.zipIdx.foldl (λcs (x:zV×Nat)=>cs.setIfInBounds (off+x.2) x.1) c=over c off a.toList:=by
 rw[<-Array.foldl_toList];have:a.zipIdx.toList=a.toList.zipIdx 0:=by simp
 rw[this,u4 off a.toList 0 c];rfl
def r9:List zV->Nat->List zV->List zV
 |c,_,[]=>c
 |c,off,v::r=>r9 (c.set off v) (off+1) r
theorem jb:∀(r c:List zV) (off:Nat),over c.toArray off r=(r9 c off r).toArray
 | [],c,off=>rfl
 |v::r,c,off=>by
  have:c.toArray.setIfInBounds off v=(c.set off v).toArray:=by simp
  rw[over,r9,this,jb r]
def kC(place:Nat->Option (Nat×Nat)):List zV->List (Nat×zV)->Option (List zV)
 |c,[]=>some c
 |c,(i,v)::r=>
  match place i with
  |none=>none
  |some (off,size)=>cond (Nat.beq v.cells.toList.length size&&Nat.ble (off+v.cells.toList.length) c.length) (kC place (r9 c off v.cells.toList) r) none
theorem jj{place:Nat->Option (Nat×Nat)}:∀(r:List (Nat×zV)) (c cs:List zV),kC place c r=some cs->Instr.fill place c.toArray r=some cs.toArray
 | [],c,cs,h=>by simp only[kC,xas]at h;subst h;rfl
 |(i,v)::r,c,cs,h=>by
  simp only[kC]at h;simp only[Instr.fill];split at h
  ·simp at h
  rename_i off size hp;cases hc:(Nat.beq v.cells.toList.length size&&Nat.ble (off+v.cells.toList.length) c.length)<;>simp only[hc,xao,xaj,reduceCtorEq]at h;simp only[xaC]at hc;have h1:=xaI hc.1;have h2:=xco hc.2;have h3:v.cells.toList.length=v.cells.size:=xb6;have hsz:v.cells.size=size:=by rw[<-h3];exact h1
  have hle:off+v.cells.size<=c.length:=by rw[<-h3];exact h2
  simp only[hp];have Qn:(decide (v.cells.size≠size)||decide (off+v.cells.size>c.toArray.size))=false:=by
   rw[xaL];exact⟨by simp[hsz],by simp only[xdb,xbk];omega⟩
  rw[Qn];simp only[xaD,xaT];rw[Lr,jb];exact jj r _ cs h
def pP(P:Program):List Field->Option (List (Nat×Nat))
 | []=>some []
 |f::r=>match cA P f.type,pP P r with
  |some n,some l=>some ((f.offset,n)::l)
  |_,_=>none
def RG(P:Program)(t:TypeId)(parts:List (Nat×zV)):Option (List zV):=
 match P.underlying t,dV P t with
 |some (.struct fs),some z=>match pP P fs.toList with
  |some pl=>kC (λi=>pl[i]?) z.cells.toList parts
  |none=>none
 |_,_=>none
theorem r7:∀(fs:List Field) (pl:List (Nat×Nat)),pP P fs=some pl->∀w,(fs.mapM λf=>(do pure (f.offset,<-sizeOf f.type):Sem (Nat×Nat))).run P w=.ok pl w
 | [],pl,h,w=>by simp only[pP,xas]at h;subst h;rfl
 |f::r,pl,h,w=>by
  simp only[pP]at h;split at h
  ·rename_i n l hn hl;simp only[xas]at h;subst h;obtain⟨i,hi,hin⟩:=aU hn;have ih:=r7 r l hl w;simp only[xee,Sem.run_bind,run_sizeOf hi,Result.andThen_ok,Sem.run_pure,hin,ih]
  simp at h
theorem Build.mk{t:TypeId}{parts:List (Nat×zV)}{cs:List zV}{k:zV->Prop}(hb:RG P t parts=some cs)(h:k (.agg cs.toArray)):Build P t parts k:=by
 refine⟨_,λw=>?_,h⟩;unfold RG at hb;split at hb
 ·rename_i fs z hu hz;split at hb
  ·rename_i pl mq;obtain⟨i,hi,wT⟩:=cB hz;have hf:=jj _ _ _ hb;have hp:=r7 fs.toList pl mq w;simp only[Instr.build,Sem.run_bind,dB hi wT,Result.andThen_ok,run_underlying hu];have e2:((fs.mapM λf=>(do pure (f.offset,<-sizeOf f.type):Sem (Nat×Nat))).run P w)=.ok pl.toArray w:=by
    rw[Array.mapM_eq_mapM_toList];simp only[Sem.run_map,hp,Result.andThen_ok]
   rw[e2];show Sem.run P _ w=_;have e3:Instr.fill (λx=>pl.toArray[x]?) z.cells parts=some cs.toArray:=by
    simpa using hf
   simp only[e3];rfl
  simp at hb
 simp at hb
theorem aj.one{t e k:Nat}{z:zV}{r:List zV}{K:zV->Hp->Prop}(h1:P.underlying t=some (.slice e))(h2:cA P e=some k)(h3:dV P e=some z)(hk:0<k/\k<=16777216)(hr:r.length=k)
 (h:∀b,K (.slice (some ⟨b,0,none⟩) 1 1) ((b,.cells r.toArray e zZ)::H)):aj P t 1 [(0,.agg r.toArray)] H K:=by
 refine⟨r.toArray,e,k,z,h1,h2,h3,by omega,?_,λb _=>h b⟩;have:((Array.range (1*k)).map (z.cells[· %z.cells.size]!))=(((Array.range (1*k)).map (z.cells[· %z.cells.size]!)).toList).toArray:=by rw[xcK]
 rw[this];generalize hc:((Array.range (1*k)).map (z.cells[· %z.cells.size]!)).toList=c;have hlen:c.length=k:=by rw[<-hc];simp
 refine jj _ _ _ ?_;simp only[kC,Value.cells];have hb:(Nat.beq r.toArray.toList.length k&&Nat.ble (0*k+r.toArray.toList.length) c.length)=true:=by simp[hr,hlen]
 rw[hb];simp only[xao,xas];have:=kV r c 0 zO;rw[jb]at this;have h5:r9 c 0 r=List.take 0 c++r++List.drop (0+r.length) c:=by simpa using xca Array.toList this
 simp only[xdK];rw[h5];simp[xbc,hr,hlen]
end
end Go.Sx
namespace Go.Sx
open Go
section
variable {P:Program} {g:Gh} {H:Hp}
theorem jR.Ky{β:Type}{kd:IntKind}{enc:β->zV}{v zero:zV}{f:Int->Option β}{C:Hp}{ok:Bool}{x:Int}{K:zV->Prop}{p:β}(h:jR kd enc v f C)(hC:∀y∈C,y∈H)(hf:f x=some p)
 (hk:K (cond ok (.tuple #[enc p,.bool true]) (enc p))):jE (.int kd) zero ok H v (.int kd x) K:=h.look hC (by rw[hf];exact hk)
theorem jR.Kz{β:Type}{kd:IntKind}{enc:β->zV}{v zero:zV}{f:Int->Option β}{C:Hp}{ok:Bool}{x:Int}{K:zV->Prop}(h:jR kd enc v f C)(hC:∀y∈C,y∈H)(hf:f x=none)
 (hk:K (cond ok (.tuple #[zero,.bool false]) zero)):jE (.int kd) zero ok H v (.int kd x) K:=h.look hC (by rw[hf];exact hk)
theorem cP.upto{size n c h:Nat}{a:Option Addr}{kd:IntKind}{k:zV->Prop}(hh:h<=c)(hk:k (.slice a h c)):cP size (.slice a n c) none (some (.int kd (h:Int))) k:=by
 refine⟨a,n,c,0,h,rfl,rfl,rfl,by omega,by omega,by omega,?_⟩;have:(if c=(0:Int).toNat then a else a.map (·.add ((0:Int).toNat*size)))=a:=by
  split
  ·rfl
  simp only[Int.toNat_zero,xdK];cases a with
  |none=>rfl
  |some x=>simp[Addr.add_zero']
 rw[this];simpa using hk
end
end Go.Sx
namespace Go.Sx
open Go
section
variable {P:Program} {g:Gh} {H:Hp}
inductive br(C:Hp):Hp->(Hp->Hp)->Prop
 |here:br C C (λX=>X)
 |left {A:Hp}:br C (C++A) (λX=>X++A)
 |cons {x:Nat×Obj} {H:Hp} {c:Hp->Hp} (h:br C H c):br C (x::H) (λX=>x::c X)
 |app {A H:Hp} {c:Hp->Hp} (h:br C H c):br C (A++H) (λX=>A++c X)
theorem br.spec{C H:Hp}{c:Hp->Hp}(h:br C H c):H=c C/\∃F,∀X,(c X).Perm (X++F):=by
 induction h with
 |here=>exact⟨rfl,[],λX=>by simp⟩
 | @left A=>exact⟨rfl,A,λX=>.refl _⟩
 | @cons x H c h ih=>
  obtain⟨h1,F,h2⟩:=ih;exact⟨by rw[h1],x::F,λX=>(List.Perm.cons x (h2 X)).trans xaU.symm⟩
 | @app A H c h ih=>
  obtain⟨h1,F,h2⟩:=ih;refine⟨by rw[h1],A++F,λX=>(xcn A (h2 X)).trans ?_⟩;rw[<-xai,<-xai];exact xa0.append_right F
theorem br.dL{C H:Hp}{c:Hp->Hp}(h:br C H c){X Y:Hp}(e:aF X Y):aF (c X) (c Y):=by
 obtain⟨_,F,hp⟩:=h.spec;exact(aF.perm (hp X)).trans ((e.frame F).trans (.perm (hp Y).symm))
theorem aF.cons{x:Nat×Obj}{A B:Hp}(h:aF A B):aF (x::A) (x::B):=aF.cL h [x]
theorem aF.skip{x:Nat×Obj}{A B:Hp}(h:aF A B):aF (x::A) B:=aF.tail.trans h
theorem aF.bN{X A B:Hp}(h:aF A B):aF (X++A) B:=aF.right.trans h
theorem aF.assoc{A B C:Hp}:aF ((A++B)++C) (A++(B++C)):=λ_ _ h=>by rw[<-xai];exact h
theorem aY.frame{f:FuncId}{args:Array zV}{C F:Hp}{R:Ending->Hp->Prop}(h:∀g,aY P g f args C R):aY P g f args (C++F) (λe H'=>∃C',H'=C'++F/\R e C'):=by
 intro w hw;exact((h (g.add F)) w (Own.eF.1 hw)).mono λe w' ⟨H',ho,hr⟩=>⟨_,Own.eF.2 ho,H',rfl,hr⟩
theorem aY.hole{f:FuncId}{args:Array zV}{C H:Hp}{c:Hp->Hp}{R:Ending->Hp->Prop}(hh:br C H c)(h:∀g,aY P g f args C R):aY P g f args H (λe H'=>∃C',H'=c C'/\R e C'):=by
 obtain⟨rfl,F,hp⟩:=hh.spec;exact((aY.frame (F:=F) h).pre (.perm (hp C))).post λe H' ⟨C',h1,h2⟩=>⟨c C',by rw[h1];exact .perm (hp C').symm,C',rfl,h2⟩
def Fc(P:Program)(f:FuncId)(args:Array zV)(C:Hp)(Q:zV->Hp->Prop):Prop:=
 ∀g,aY P g f args C (λe H'=>∃v gY,e=.returned v/\aF H' gY/\Q v gY)
def aQ(Q:zV->Hp->Prop):Ending->Hp->Prop:=λe H'=>∃v gY,e=.returned v/\aF H' gY/\Q v gY
theorem aQ.mk{Q:zV->Hp->Prop}{v:zV}{H gY:Hp}(he:aF H gY)(h:Q v gY):aQ Q (.returned v) H:=⟨v,gY,rfl,he,h⟩
theorem aQ.here{Q:zV->Hp->Prop}{v:zV}{H:Hp}(h:Q v H):aQ Q (.returned v) H:=⟨v,H,rfl,.refl _,h⟩
theorem Fc.mono{f:FuncId}{args:Array zV}{C:Hp}{Q Q':zV->Hp->Prop}(h:Fc P f args C Q)(hq:∀v H,Q v H->Q' v H):Fc P f args C Q':=
 λg=>(h g).mono λe H' ⟨v,gY,h1,h2,h3⟩=>⟨v,gY,h1,h2,hq _ _ h3⟩
def Rd(P:Program)(f:FuncId)(args:Array zV)(B:Hp)(Q:zV->Prop):Prop:=Fc P f args B (λv H=>H=B/\Q v)
theorem aa.fn{f:FuncId}{args:Array zV}{C H:Hp}{c:Hp->Hp}{Q:zV->Hp->Prop}{K:zV->Hp->Prop}{KP:List PanicEntry->Hp->Prop}(hh:br C H c)(hc:Fc P f args C Q)
 (hk:∀v C',Q v C'->K v (c C')):aa P g f args H K KP:=
 (aY.hole hh hc).post λe H' ⟨C',h1,v,ZN,h2,h3,h4⟩=>⟨c ZN,by rw[h1];exact hh.dL h3,by subst h2;exact hk _ _ h4⟩
theorem aa.rd{f:FuncId}{args:Array zV}{B H:Hp}{c:Hp->Hp}{Q:zV->Prop}{K:zV->Hp->Prop}{KP:List PanicEntry->Hp->Prop}(hh:br B H c)(hc:Rd P f args B Q)
 (hk:∀v,Q v->K v H):aa P g f args H K KP:=
 aa.fn hh hc λv C' ⟨h1,h2⟩=>by subst h1;rw[<-hh.spec.1];exact hk v h2
theorem bK.of{fv:zV}{args:Array zV}{K:zV->Hp->Prop}{KP:List PanicEntry->Hp->Prop}{f:FuncId}{first captured:Array zV}(hf:fv=.func (.func f) first captured)(hc:bR P f=true)
 (h:aa P g f (first++args++captured) H K KP):bK P g fv args H K KP:=⟨f,first,captured,hf,hc,h⟩
theorem DR.self{body:Hp->Prop}(h:body H):DR H body:=⟨H,.refl _,h⟩
theorem DR.of{R:Hp}{body:Hp->Prop}(e:aF H R)(h:body R):DR H body:=⟨R,e,h⟩
def At(B:Hp)(p:zV)(r:List zV):Prop:=∃b o c T fz,p=.pointer (some ⟨b,o,none⟩)/\(b,Obj.cells c T fz)∈B/\∀j v,r[j]? =some v->c[o+j]? =some v
theorem At.block{b:Nat}{l:List zV}{T:TypeId}{fz:Nat×Nat}{B:Hp}(h:(b,Obj.cells l.toArray T fz)∈B):At B (.pointer (some ⟨b,0,none⟩)) l:=
 ⟨b,0,_,T,fz,rfl,h,λj v hj=>by simpa using hj⟩
theorem Ld.at{p v:zV}{r:List zV}{B:Hp}{k:zV->Prop}(h:At B p (v::r))(hs:∀x∈B,x∈H)(hk:k v):Ld H p k:=by
 obtain⟨b,o,c,T,fz,h1,h2,h3⟩:=h;exact⟨b,o,c,T,fz,v,h1,hs _ h2,by simpa using h3 0 v rfl,hk⟩
theorem af.at{p:zV}{r:List zV}{B:Hp}{j:Nat}{k:zV->Prop}(h:At B p r)(hk:∀q,At B q (r.drop j)->k q):af j p k:=by
 obtain⟨b,o,c,T,fz,h1,h2,h3⟩:=h;refine⟨b,o,h1,hk _ ⟨b,o+j,c,T,fz,rfl,h2,λi v hi=>?_⟩⟩;rw[List.getElem?_drop]at hi;rw[xdB];exact h3 _ _ hi
theorem ax.at{p:zV}{r:List zV}{B:Hp}{n:Nat}{k:zV->Prop}(h:At B p r)(hn:r.length=n)(hp:0<n)(hs:∀x∈B,x∈H)(hk:k (.agg r.toArray)):ax n H p k:=by
 obtain⟨b,o,c,T,fz,h1,h2,h3⟩:=h;have hsz:o+n<=c.size:=by
  have:=h3 (n-1) (r[n-1]' zO) (xab _);have:=(xaR.1 this).1;omega
 refine⟨b,o,c,T,fz,h1,hs _ h2,hsz,?_⟩;have:c.extract o (o+n)=r.toArray:=by
  apply xez
  ·simp;omega
  intro i hi1 IV;simp only[xdb]at IV;have:=h3 i r[i] (xab _);rw[xd5];have:=(xaR.1 this).2;simpa using this
 rw[this];exact hk
def Sl(k:Nat)(B:Hp)(v:zV)(rs:List (List zV)):Prop:=
 (∀r∈rs,r.length=k)/\
 ((∃a cap,v=.slice a 0 cap/\rs=[])\/∃b o cap c T fz,v=.slice (some ⟨b,o,none⟩) rs.length cap/\rs.length<=cap/\(b,Obj.cells c T fz)∈B/\o+rs.length*k<=c.size/\∀i r,rs[i]? =some r->∀j v,r[j]? =some v->c[o+i*k+j]? =some v)
theorem Sl.mono{k:Nat}{B B':Hp}{v:zV}{rs:List (List zV)}(h:Sl k B v rs)(hs:∀x∈B,x∈B'):Sl k B' v rs:=by
 obtain⟨h0,h⟩:=h;refine⟨h0,?_⟩;rcases h with h|⟨b,o,cap,c,T,fz,h1,h2,h3,h4⟩
 ·exact .inl h
 exact .inr ⟨b,o,cap,c,T,fz,h1,h2,hs _ h3,h4⟩
theorem Sl.nil(k:Nat)(B:Hp):Sl k B (.slice none 0 0) []:=⟨by simp,.inl ⟨_,_,rfl,rfl⟩⟩
theorem Sl.shape{k:Nat}{B:Hp}{v:zV}{rs:List (List zV)}(h:Sl k B v rs):∃a cap,v=.slice a rs.length cap/\rs.length<=cap:=by
 rcases h.2 with⟨a,cap,rfl,rfl⟩|⟨b,o,cap,c,T,fz,h1,h2,_⟩
 ·exact⟨_,_,rfl,xaA _⟩
 exact⟨_,_,h1,h2⟩
theorem Sl.bE{k:Nat}{B:Hp}{v:zV}{rs:List (List zV)}(h:Sl k B v rs){K:zV->Prop}(hk:K (.int .i64 rs.length)):aE v K:=by
 obtain⟨a,c,rfl,_⟩:=h.shape;exact aE.mk hk
theorem ah.sl{k:Nat}{B:Hp}{v:zV}{rs:List (List zV)}{kd:IntKind}{i:Nat}{r:List zV}{K:zV->Prop}(h:Sl k B v rs)(hi:rs[i]? =some r)(hk:∀p,At B p r->K p):ah k v (.int kd (i:Int)) K:=by
 have hlt:=(xah.1 hi).1;rcases h.2 with⟨a,cap,rfl,rfl⟩|⟨b,o,cap,c,T,fz,h1,h2,h3,h4,h5⟩
 ·simp at hlt
 subst h1;refine ah.nat zO (hk _ ⟨b,_,c,T,fz,rfl,h3,λj v hj=>h5 i r hi j v hj⟩)
theorem Sl.cells{k:Nat}{B:Hp}{v:zV}{rs:List (List zV)}(h:Sl k B v rs):∃a cap,v=.slice a rs.length cap/\Cells B a (rs.length*k) (rows rs):=by
 rcases h.2 with⟨a,cap,rfl,rfl⟩|⟨b,o,cap,c,T,fz,h1,h2,h3,h4,h5⟩
 ·refine⟨a,cap,rfl,?_⟩;cases a with
  |none=>simp[Cells,rows]
  |some a=>exact .inl ⟨by simp,rfl⟩
 ·refine⟨_,cap,h1,.inr ⟨rfl,c,T,fz,h3,h4,?_⟩⟩;apply xez
  ·rw[bC h.1];simp;omega
  intro i hi1 IV;rw[bC h.1]at hi1;have hk:0<k:=Nat.pos_of_ne_zero λe=>by simp[e]at hi1
  have hd:i/k<rs.length:=xd8 (by rw[xbJ];exact hi1);have hm:i%k<k:=xbx _ hk;have he:i/k*k+i%k=i:=by rw[xbJ];exact xdr i k
  have hr:=h.1 rs[i/k] (xaF hd);have g1:=gS h.1 (i:=i/k) hm;rw[he,xab hd,xd1,xab zO]at g1;have g2:=h5 (i/k) _ (xab hd) (i%k) _ (xab zO);rw[xdB,he]at g2;have e1:=(xaR.1 g1).2;have e2:=(xaR.1 g2).2;rw[xd5];exact e1.trans e2.symm
theorem Sl.fZ{T:TypeId}{k:Nat}{v:zV}{rs:List (List zV)}{C:Hp}(h:aM T k v rs C)(hk:0<k):Sl k C v rs:=by
 rcases h with⟨rfl,rfl,rfl⟩|⟨b,au,rfl,rfl,aD⟩
 ·exact Sl.nil _ _
 refine⟨λr hr=>aD r (by simp[hr]),.inr ⟨b,0,_,rows (rs++au),T,(0,0),rfl,by omega,by simp,?_,λi r hi j v hj=>?_⟩⟩
 ·rw[bC aD,xaf,xa1];exact xba _ zO
 have hlt:=(xah.1 hi).1;have hr:=aD r (xad _ (xay hi));have Wj:j<k:=by rw[<-hr];exact(xah.1 hj).1
 rw[xa1,gS aD Wj,xaQ hlt,hi];exact hj
end
end Go.Sx
namespace Go.Sx
open Go
def aS:IntKind->Nat
 | .i8=>128| .i16=>32768| .i32=>2147483648| .i64=>9223372036854775808
 | .u8=>256| .u16=>65536| .u32=>4294967296| .u64=>18446744073709551616
theorem eZ{kd:IntKind}{n:Nat}(h:n<aS kd):kd.wrap (n:Int)=n:=by
 cases kd<;>simp only[aS]at h<;>simp only[IntKind.wrap,IntKind.bits,IntKind.signed,Bool.false_and,xct,xaD,xaT,xaP];all_goals first
  |omega
  |(rw[xac zP];omega)
theorem wrap_u64(n:Int):IntKind.u64.wrap n=n%18446744073709551616:=by simp[IntKind.wrap,IntKind.bits,IntKind.signed]
theorem Pp(kd:IntKind):aS kd<=2^kd.bits:=by cases kd<;>decide
def nh(a b:Nat):Nat:=a^^^(a&&&b)
theorem dP(a b j:Nat):(nh a b).testBit j=(a.testBit j&& !b.testBit j):=by
 unfold nh;rw[Nat.testBit_xor,xa8];cases a.testBit j<;>cases b.testBit j<;>rfl
theorem nV(a b:Nat):nh a b<=a:=by
 have:nh a b=a&&&nh a b:=by
  apply xaX;intro j;rw[xa8,dP];cases a.testBit j<;>simp
 rw[this];exact xcd
theorem bits_nat{kd:IntKind}{a b:Nat}(ha:a<aS kd)(hb:b<aS kd):
  bits .and kd a b=((a&&&b:Nat):Int)/\bits .or kd a b=((a|||b:Nat):Int)/\bits .xor kd a b=((a^^^b:Nat):Int)/\bits .andNot kd a b=((nh a b:Nat):Int):=by
 have hl:=Pp kd;have h1:(BitVec.ofInt kd.bits (a:Int)).toNat=a:=by rw[xcO,BitVec.toNat_ofNat,xa5 zO]
 have h2:(BitVec.ofInt kd.bits (b:Int)).toNat=b:=by rw[xcO,BitVec.toNat_ofNat,xa5 zO]
 obtain⟨n,hn⟩:∃n,aS kd=2^n:=by cases kd<;>first|exact⟨7,rfl⟩|exact⟨15,rfl⟩|exact⟨31,rfl⟩|exact⟨63,rfl⟩|exact⟨8,rfl⟩|exact⟨16,rfl⟩|exact⟨32,rfl⟩|exact⟨64,rfl⟩
 rw[hn]at ha hb;refine⟨?_,?_,?_,?_⟩
 ·simp only[bits,BitVec.toNat_and,h1,h2];exact eZ (by rw[hn];exact xaE xcd ha)
 ·simp only[bits,BitVec.toNat_or,h1,h2];exact eZ (by rw[hn];exact xb8 ha hb)
 ·simp only[bits,BitVec.toNat_xor,h1,h2];exact eZ (by rw[hn];exact Nat.xor_lt_two_pow ha hb)
 simp only[bits];have:(BitVec.ofInt kd.bits (a:Int) &&& ~~~BitVec.ofInt kd.bits (b:Int)).toNat=nh a b:=by
  apply xaX;intro j;rw[dP,<-BitVec.getLsbD,BitVec.getLsbD_and,BitVec.getLsbD_not,BitVec.getLsbD,BitVec.getLsbD,h1,h2];by_cases hj:j<kd.bits
  ·simp[hj]
  have:a.testBit j=false:=xbN (xa2 ha (by rw[<-hn];exact xbZ hl (xat zD zO)));simp[this]
 rw[this];exact eZ (by rw[hn];exact xaE (nV a b) ha)
section
variable {kd wO:IntKind} {a b:Nat} {k:zV->Prop}
theorem ae.fm(ha:a<aS kd)(hb:b<aS kd)(h:k (.int kd ((a&&&b:Nat):Int))):ae .num .and (.int kd a) (.int kd b) k:=⟨_,by simp[eX,kz,(bits_nat ha hb).1],h⟩
theorem ae.No(ha:a<aS kd)(hb:b<aS kd)(h:k (.int kd ((a|||b:Nat):Int))):ae .num .or (.int kd a) (.int kd b) k:=⟨_,by simp[eX,kz,(bits_nat ha hb).2.1],h⟩
theorem ae.WX(ha:a<aS kd)(hb:b<aS kd)(h:k (.int kd ((a^^^b:Nat):Int))):ae .num .xor (.int kd a) (.int kd b) k:=⟨_,by simp[eX,kz,(bits_nat ha hb).2.2.1],h⟩
theorem ae.Jn(ha:a<aS kd)(hb:b<aS kd)(h:k (.int kd ((nh a b:Nat):Int))):ae .num .andNot (.int kd a) (.int kd b) k:=⟨_,by simp[eX,kz,(bits_nat ha hb).2.2.2],h⟩
theorem ae.e9(ha:a<aS kd)(h:k (.int kd ((a>>>b:Nat):Int))):ae .num .shr (.int kd a) (.int wO b) k:=by
 refine⟨_,?_,h⟩;have h0:¬((b:Int)<0):=by omega
 simp only[eX,h0,xaT,xas,Value.int.injEq,xdt,xbI];rw[Int.fdiv_eq_ediv_of_nonneg _ (Int.le_of_lt (Int.pow_pos zD)),xaN];have hl:=Pp kd;by_cases hb:b<=kd.bits
 ·rw[xbX hb];push_cast;rfl
 rw[xdj zO];have h1:a/2^kd.bits=0:=xcr zO;have h2:a/2^b=0:=xcr (xa2 zO (xat zD (by omega:kd.bits<=b)));have:(a:Int) / (2^kd.bits:Int)=((a/2^kd.bits:Nat):Int):=by push_cast;rfl
 rw[this,h1,h2]
theorem ae.DS(hb:b<=kd.bits)(hr:a<<<b<aS kd)(h:k (.int kd ((a<<<b:Nat):Int))):ae .num .shl (.int kd a) (.int wO b) k:=by
 refine⟨_,?_,h⟩;have h0:¬((b:Int)<0):=by omega
 simp only[eX,h0,xaT,xas,Value.int.injEq,xdt,xbI,xbX hb];rw[<-eZ hr,xdk];push_cast;rfl
theorem ae.sP(h:k (.int .u64 (((a<<<b)%18446744073709551616:Nat):Int))):ae .num .shl (.int .u64 a) (.int wO b) k:=by
 refine⟨_,?_,h⟩;have h0:¬((b:Int)<0):=by omega
 simp only[eX,h0,xaT,xas,Value.int.injEq,xdt,xbI,IntKind.bits,wrap_u64];rw[xdk];by_cases hb:b<=64
 ·rw[xbX hb,Int.natCast_emod,Int.natCast_mul,Int.natCast_pow];rfl
 rw[xdj zO];have h1:(a*2^b)%18446744073709551616=0:=by
  have:2^b=18446744073709551616*2^(b-64):=by rw[show(18446744073709551616:Nat)=2^64 by rfl,<-xdf];congr 1;omega
  rw[this,Nat.mul_left_comm];exact Nat.mul_mod_right _ _
 rw[h1];exact Int.mul_emod_left _ _
theorem ae.dX(hr:a+b<aS kd)(h:k (.int kd ((a+b:Nat):Int))):ae .num .add (.int kd a) (.int kd b) k:=by
 refine ae.add ?_;have:((a:Int)+(b:Int))=((a+b:Nat):Int):=by push_cast;rfl
 rw[this,eZ hr];exact h
theorem ae.gD(ha:a<aS kd)(hb:b<=a)(h:k (.int kd ((a-b:Nat):Int))):ae .num .sub (.int kd a) (.int kd b) k:=by
 refine ae.sub ?_;have:((a:Int) -(b:Int))=((a-b:Nat):Int):=by omega
 rw[this,eZ zO];exact h
theorem ae.mI(hr:a*b<aS kd)(h:k (.int kd ((a*b:Nat):Int))):ae .num .mul (.int kd a) (.int kd b) k:=by
 refine ae.mul ?_;have:((a:Int)*(b:Int))=((a*b:Nat):Int):=by push_cast;rfl
 rw[this,eZ hr];exact h
theorem ae.qm(ha:a<aS kd)(hb:b≠0)(h:k (.int kd ((a/b:Nat):Int))):ae .num .quo (.int kd a) (.int kd b) k:=by
 refine⟨_,?_,h⟩;have h0:¬((b:Int)=0):=by omega
 simp only[eX,kz,xa7,h0,xaT];have:(a:Int).tdiv b=((a/b:Nat):Int):=by rw[Int.tdiv_eq_ediv_of_nonneg zO];push_cast;rfl
 rw[this,eZ (xaE (Nat.div_le_self _ _) ha)]
theorem ae.lT{x y:Int}(h:k (.bool (decide (x=y)))):ae .num .eql (.int kd x) (.int kd y) k:=ae.eql (by rw[show(x==y)=decide (x=y)from by cases hb:decide (x=y)<;>simp_all];exact h)
theorem ae.ic{x y:Int}(h:k (.bool (decide (x≠y)))):ae .num .neq (.int kd x) (.int kd y) k:=ae.neq (by rw[show(x !=y)=decide (x≠y)from by cases hb:decide (x=y)<;>simp_all];exact h)
theorem ae.bB(h:k (.bool (decide (a=b)))):ae .num .eql (.int kd a) (.int kd b) k:=ae.lT (by simpa[xeA]using h)
theorem ae.jD(h:k (.bool (decide (a≠b)))):ae .num .neq (.int kd a) (.int kd b) k:=ae.ic (by simpa[xeA]using h)
theorem ae.cX(h:k (.bool (decide (a<b)))):ae .num .lss (.int kd a) (.int kd b) k:=ae.lss (by simpa[Int.ofNat_lt]using h)
theorem ae.xO(h:k (.bool (decide (a<=b)))):ae .num .leq (.int kd a) (.int kd b) k:=ae.leq (by simpa[Int.ofNat_le]using h)
theorem ae.gW(h:k (.bool (decide (b<a)))):ae .num .gtr (.int kd a) (.int kd b) k:=ae.gtr (by simpa[Int.ofNat_lt]using h)
theorem ae.kM(h:k (.bool (decide (b<=a)))):ae .num .geq (.int kd a) (.int kd b) k:=ae.geq (by simpa[Int.ofNat_le]using h)
theorem aH.nat(ha:a<aS kd)(h:k (.int kd (a:Int))):aH kd (.int wO a) k:=aH.of (eZ ha) h
theorem aH.af4(h:k (.int .u8 ((a%256:Nat):Int))):aH .u8 (.int wO a) k:=aH.of (by simp[IntKind.wrap,IntKind.bits,IntKind.signed]) h
theorem Un.ad4(ha:a<18446744073709551616)(h:k (.int .u64 (((18446744073709551616-a)%18446744073709551616:Nat):Int))):Un .neg (.int .u64 a) k:=by
 refine⟨_,?_,h⟩;simp only[unV,wrap_u64,xas,Value.int.injEq,xdt];omega
theorem Un.JC(ha:a<18446744073709551616)(h:k (.int .u64 ((18446744073709551615-a:Nat):Int))):Un .xor (.int .u64 a) k:=by
 refine⟨_,?_,h⟩;have e:(if IntKind.u64.signed=true then(-1:Int)else IntKind.u64.max)=((18446744073709551615:Nat):Int):=by decide
 simp only[unV,e,(bits_nat (kd:=.u64) (a:=18446744073709551615) (b:=a) zD ha).2.2.1,xas,Value.int.injEq,xdt];congr 1;have:18446744073709551615^^^a=18446744073709551615-a:=by
  have Dz:a<2^64:=ha;rw[show(18446744073709551615:Nat)=2^64-1 by rfl];apply xaX;intro j;rw[Nat.testBit_xor,show 2^64-1-a=2^64-(a+1)by omega,xef Dz,xc6];by_cases hj:j<64
  ·simp[hj]
  simp[hj];exact xbN (xa2 Dz (xat zD zO))
 exact this
end
theorem Br.dec{p:Prop}[Decidable p]{t f:Prop}(h1:p->t)(h2:¬p->f):Br (.bool (decide p)) t f:=⟨_,rfl,λh=>h1 (by simpa using h),λh=>h2 (by simpa using h)⟩
theorem Br.U9{p:Prop}[Decidable p]{t f:Prop}(hp:p)(h1:t):Br (.bool (decide p)) t f:=Br.dec (λ_=>h1) λh=>absurd hp h
theorem Br.Rk{p:Prop}[Decidable p]{t f:Prop}(hp:¬p)(h1:f):Br (.bool (decide p)) t f:=Br.dec (λh=>absurd h hp) λ_=>h1
end Go.Sx
namespace ak
open Go.Sx
def wN(n:Nat):Nat:=max 1 (2^n/64)
def dr(n:Nat):Nat:=if 6<=n then 18446744073709551615 else 2^2^n-1
structure dA(n:Nat)(ws:zL):Prop where
 si:n<=16
 len:ws.length=wN n
 full:∀w∈ws,w<=dr n
instance (n:Nat)(ws:zL):Decidable (dA n ws):=decidable_of_iff (n<=16/\ws.length=wN n/\∀w∈ws,w<=dr n) ⟨λ⟨a,b,c⟩=>⟨a,b,c⟩,λ⟨a,b,c⟩=>⟨a,b,c⟩⟩
def bit(ws:zL)(x:Nat):Bool:=(ws.getD (x/64) 0).testBit (x%64)
def aB(x v:Nat)(b:Bool):Nat:=if b then x|||2^v else nh x (2^v)
theorem W0(n:Nat):0<wN n:=Nat.le_max_left _ _
theorem HX{n:Nat}(h:6<=n):wN n=2^(n-6):=by
 unfold wN;have:2^n/64=2^(n-6):=by
  rw[show(64:Nat)=2^6 by rfl,Nat.pow_div h zD]
 rw[this];exact Nat.max_eq_right (xbK _)
theorem HW{n:Nat}(h:n<7):wN n=1:=by
 have:n=0\/n=1\/n=2\/n=3\/n=4\/n=5\/n=6:=by omega
 rcases this with rfl|rfl|rfl|rfl|rfl|rfl|rfl<;>rfl
theorem tI{n:Nat}(h:n<=16):wN n<=1024:=by
 by_cases h6:6<=n
 ·rw[HX h6];exact xat zD (by omega:n-6<=10)
 rw[HW zO];decide
theorem qf(n:Nat):dr n<18446744073709551616:=by
 unfold dr;split
 ·decide
 have h1:2^n<=32:=xat (n:=2) zD (by omega:n<=5);have h2:2^2^n<=2^32:=xat zD h1;omega
theorem dA.lt{n:Nat}{ws:zL}(h:dA n ws){w:Nat}(hw:w∈ws):w<18446744073709551616:=xaE (h.full w hw) (qf n)
theorem vE{n w:Nat}(h:w<=dr n):w&&&dr n=w:=by
 unfold dr at*;split at h
 ·rename_i h6;rw[xae h6,show(18446744073709551615:Nat)=2^64-1 by rfl,xb0,xa5 zO]
 rename_i h6;rw[xac h6,xb0,xa5];have:=xbK (2^n);omega
theorem kR(n j:Nat):(dr n).testBit j=decide (j<if 6<=n then 64 else 2^n):=by
 unfold dr;split
 ·rw[show(18446744073709551615:Nat)=2^64-1 by rfl,xc6]
 rw[xc6]
theorem Bu{n x:Nat}(h:x<2^n):x/64<wN n:=by
 by_cases h6:6<=n
 ·rw[HX h6];refine xd8 ?_;rw[show(64:Nat)=2^6 by rfl,<-xdf];rwa [show 6+(n-6)=n by omega]
 have h1:2^n<=32:=xat (n:=2) zD (by omega:n<=5);rw[HW zO];omega
theorem dA.ext{n:Nat}{a b:zL}(ha:dA n a)(hb:dA n b)(h:∀x,x<2^n->bit a x=bit b x):a=b:=by
 apply List.ext_getElem (by rw[ha.len,hb.len]);intro i h1 h2;apply xaX;intro j;have hfa:=vE (ha.full _ (xaF h1));have hfb:=vE (hb.full _ (xaF h2));by_cases hj:j<(if 6<=n then 64 else 2^n)
 ·have aju:j<64:=by
   split at hj
   ·exact hj
   have h1:2^n<=32:=xat (n:=2) zD (by omega:n<=5);omega
  have hx:64*i+j<2^n:=by
   by_cases h6:6<=n
   ·have hi:i<2^(n-6):=by rw[<-HX h6,<-ha.len];exact h1
    have:2^n=64*2^(n-6):=by rw[show(64:Nat)=2^6 by rfl,<-xdf];congr 1;omega
    omega
   have hi:i<1:=by rw[<-HW (show n<7 by omega),<-ha.len];exact h1
   rw[xac h6]at hj;omega
  have:=h _ hx;unfold bit at this;rw[show(64*i+j) /64=i by omega,show(64*i+j)%64=j by omega]at this;simpa[h1,h2]using this
 have hd:(dr n).testBit j=false:=by rw[kR];simpa using hj
 rw[<-hfa,<-hfb,xa8,xa8,hd];simp
def Aj(v:Nat):Nat->Nat
 |0=>0
 |j+1=>Aj v j|||(((j>>>v) &&&1)<<<j)
def mask(v:Nat):Nat:=Aj v 64
theorem eH(m:Nat):m&&&1=if m.testBit 0 then 1 else 0:=by
 rw[xc7,Nat.testBit_zero];rcases Nat.mod_two_eq_zero_or_one m with h|h<;>simp[h]
theorem pH(v:Nat):∀J k,(Aj v J).testBit k=(decide (k<J) &&k.testBit v)
 |0,k=>by simp[Aj]
 |J+1,k=>by
  rw[Aj,xcw,pH v J k,eH,xbh,xbY];by_cases e:k=J
  ·subst e;cases hb:k.testBit v<;>simp[xd6]
  have:((if(J.testBit v)=true then 1 else 0)<<<J).testBit k=false:=by
   rw[xd6];split
   ·by_cases hk:J<=k
    ·have h1:Nat.testBit 1 (k-J)=false:=xbN (Nat.one_lt_two_pow zO);simp[hk,h1]
    simp[hk]
   simp
  rw[this];have:(decide (k<J+1))=decide (k<J):=by simp;omega
  rw[this];simp
theorem Ai(v:Nat):∀J,Aj v J<2^J
 |0=>by simp[Aj]
 |J+1=>by
  have h1:=Ai v J;have h2:((J>>>v) &&&1)<<<J<2^(J+1):=by
   rw[eH,xdk];split
   ·rw[xdD];exact xcx zD zO
   rw[xdK];exact xbK _
  exact xb8 (xa2 h1 (xat zD zO)) h2
theorem fV(v k:Nat):(mask v).testBit k=(decide (k<64) &&k.testBit v):=pH v 64 k
theorem zl(v:Nat):mask v<18446744073709551616:=Ai v 64
def qe(ws:zL)(v:Nat)(b:Bool)(i:Nat):Nat:=
 if 6<=v then ws.getD (aB i (v-6) b) 0
 else if b then(ws.getD i 0&&&mask v)|||(ws.getD i 0&&&mask v)>>>2^v
 else nh (ws.getD i 0) (mask v)|||(nh (ws.getD i 0) (mask v)<<<2^v)%18446744073709551616
def fU(n:Nat)(ws:zL)(v:Nat)(b:Bool):zL:=(List.range (wN n)).map λi=>qe ws v b i&&&dr n
theorem dQ{n v:Nat}{ws:zL}{b:Bool}(h:n<=16):dA n (fU n ws v b):=by
 refine⟨h,by simp[fU],λw hw=>?_⟩;obtain⟨i,_,rfl⟩:=xam.1 hw;exact xb3
theorem ai(x v:Nat)(b:Bool)(k:Nat):(aB x v b).testBit k=if k=v then b else x.testBit k:=by
 unfold aB;cases b<;>simp only[xa7,xaD,xaT]
 ·rw[dP,xdF];by_cases e:k=v
  ·simp[e]
  simp[e,xbn e]
 rw[xcw,xdF];by_cases e:k=v
 ·simp[e]
 simp[e,xbn e]
theorem fw{x v n:Nat}{b:Bool}(hx:x<2^n)(hv:v<n):aB x v b<2^n:=by
 unfold aB;split
 ·exact xb8 hx (xcx zD hv)
 exact xaE (nV _ _) hx
theorem Xd:∀v:Fin 6,∀j:Fin 64,(j.1.testBit v.1=true->aB j v true=j/\aB j v false=j-2^v.1/\2^v.1<=j.1/\(j.1+2^v.1).testBit v.1=false/\(j.1-2^v.1).testBit v.1=false)/\
  (j.1.testBit v.1=false->aB j v true=j.1+2^v.1/\j.1+2^v.1<64/\aB j v false=j/\(j.1+2^v.1).testBit v.1=true/\(2^v.1<=j.1->(j.1-2^v.1).testBit v.1=true)):=by decide+kernel
theorem oJ{x v:Nat}{b:Bool}:(6<=v->aB x v b/64=aB (x/64) (v-6) b/\aB x v b%64=x%64)/\(v<6->aB x v b/64=x/64/\aB x v b%64=aB (x%64) v b):=by
 have Dz:∀y:Nat,y/64=y>>>6:=λy=>by rw[xaN]
 have m64:∀y:Nat,y%64=y%2^6:=λy=>rfl;refine⟨λh=>⟨?_,?_⟩,λh=>⟨?_,?_⟩⟩<;>apply xaX<;>intro k
 ·rw[Dz,Dz,xbh,ai,ai,xbh];by_cases e:k=v-6
  ·rw[xae e,xae zO]
  rw[xac e,xac zO]
 ·rw[m64 (aB x v b),m64 x,xbl,xbl,ai];by_cases hk:k<6
  ·rw[xac zO]
  simp[hk]
 ·rw[Dz,Dz,xbh,ai,xbh,xac zO]
 rw[m64 (aB x v b),m64 x,xbl,ai,ai,xbl];by_cases e:k=v
 ·subst e;simp[h]
 simp[e]
theorem ez{n v x:Nat}{ws:zL}{b:Bool}(hf:dA n ws)(hv:v<n)(hx:x<2^n):bit (fU n ws v b) x=bit ws (aB x v b):=by
 have hi:=Bu hx;unfold bit;have fI:(fU n ws v b).getD (x/64) 0=qe ws v b (x/64) &&&dr n:=by
  simp[fU,hi]
 rw[fI,xa8,kR];have hfb:decide (x%64<if 6<=n then 64 else 2^n)=true:=by
  rw[xaP];split
  ·exact xbx _ zD
  have h1:2^n<=32:=xat (n:=2) zD (by omega:n<=5);omega
 rw[hfb,xdY];unfold qe;by_cases h6:6<=v
 ·rw[xae h6,(oJ.1 h6).1,(oJ.1 h6).2]
 rw[xac h6];obtain⟨e1,e2⟩:=(oJ (x:=x) (v:=v) (b:=b)).2 zO;rw[e1,e2];generalize hw:ws.getD (x/64) 0=w;have Dp:w<2^64:=by
  rw[<-hw];rw[xan,xab (by rw[hf.len];exact hi)];exact hf.lt (xaF _)
 have hj:x%64<64:=xbx _ zD;generalize x%64=j at hj;obtain⟨s1,s2⟩:=Xd ⟨v,by omega⟩ ⟨j,hj⟩;simp only at s1 s2;cases b
 ·simp only[xaD,xaT];rw[show(18446744073709551616:Nat)=2^64 by rfl,xcw,xbl,xd6,dP,dP,fV,fV];cases hb:j.testBit v
  ·obtain⟨t1,t2,t3,t4,t5⟩:=s2 hb;rw[t3];by_cases hle:2^v<=j
   ·have:=t5 hle;have Dz:j-2^v<64:=xaE (xdP _ _) hj;simp[hj,this,Dz]
   simp[hj,hle]
  obtain⟨t1,t2,t3,t4,t5⟩:=s1 hb;rw[t2];simp[hj,t3,t5]
 simp only[xa7];rw[xcw,xa8,xbh,xa8,fV,fV];cases hb:j.testBit v
 ·obtain⟨t1,t2,t3,t4,t5⟩:=s2 hb;rw[t1,xcP (2^v) j];simp[hj,t2,t4]
 obtain⟨t1,t2,t3,t4,t5⟩:=s1 hb;rw[t1,xcP (2^v) j];simp[hj,t4]
def dep(n:Nat)(ws:zL)(v:Nat):Bool:=decide (fU n ws v false≠fU n ws v true)
theorem iN(x v:Nat):aB x v (x.testBit v)=x:=by
 apply xaX;intro k;rw[ai];by_cases e:k=v
 ·rw[xae e,e]
 rw[xac e]
theorem m7{n v:Nat}{ws:zL}{b:Bool}(hf:dA n ws)(hv:v<n)(h:dep n ws v=false):fU n ws v b=ws:=by
 have he:fU n ws v false=fU n ws v true:=by simpa[dep]using h
 have aD:∀c d,fU n ws v c=fU n ws v d:=by intro c d;cases c<;>cases d<;>first|rfl|exact he|exact he.symm
 refine(dQ hf.si).ext hf λx hx=>?_;rw[aD b (x.testBit v),ez hf hv hx,iN]
theorem tE{n v:Nat}{ws:zL}(hf:dA n ws)(hv:v<n):dep n ws v=true↔∃x,x<2^n/\bit ws (aB x v false)≠bit ws (aB x v true):=by
 constructor
 ·intro h;refine xaY λhno=>?_;have:fU n ws v false=fU n ws v true:=(dQ hf.si).ext (dQ hf.si) λx hx=>by
   rw[ez hf hv hx,ez hf hv hx];exact xaY λhne=>hno ⟨x,hx,hne⟩
  simp[dep,this]at h
 rintro⟨x,hx,hne⟩;simp only[dep,ne_eq,xaP];intro he;apply hne;rw[<-ez hf hv hx,<-ez hf hv hx,he]
end ak
namespace Go.Sx
open Go
inductive bG:Hp->Hp->Prop
 |refl (B:Hp):bG B B
 |cons {x:Nat×Obj} {B H:Hp} (h:bG B H):bG B (x::H)
 |app {N B H:Hp} (h:bG B H):bG B (N++H)
theorem bG.spec{B H:Hp}(h:bG B H):∃N,H=N++B:=by
 induction h with
 |refl=>exact⟨[],rfl⟩
 | @cons x B H h ih=>obtain⟨N,rfl⟩:=ih;exact⟨x::N,rfl⟩
 | @app M B H h ih=>obtain⟨N,rfl⟩:=ih;exact⟨M++N,by rw[xai]⟩
theorem bG.sub{B H:Hp}(h:bG B H):∀x∈B,x∈H:=by
 obtain⟨N,rfl⟩:=h.spec;exact λx hx=>xaa _ hx
theorem bG.dL{B H:Hp}(h:bG B H):aF H B:=by
 obtain⟨N,rfl⟩:=h.spec;exact aF.right
section
variable {P:Program} {g:Gh} {H:Hp}
def Px(P:Program)(f:FuncId)(args:Array zV)(B:Hp)(Q:zV->Hp->Prop):Prop:=Fc P f args B (λv H=>bG B H/\Q v H)
theorem aa.px{f:FuncId}{args:Array zV}{B H:Hp}{c:Hp->Hp}{Q:zV->Hp->Prop}{K:zV->Hp->Prop}{KP:List PanicEntry->Hp->Prop}(hh:br B H c)(hc:Px P f args B Q)
 (hk:∀v N,Q v (N++B)->K v (c (N++B))):aa P g f args H K KP:=
 aa.fn hh hc λv C' ⟨h1,h2⟩=>by obtain⟨N,rfl⟩:=h1.spec;exact hk v N h2
theorem aa.pre{f:FuncId}{args:Array zV}{H':Hp}{K:zV->Hp->Prop}{KP:List PanicEntry->Hp->Prop}(he:aF H H')(h:aa P g f args H' K KP):aa P g f args H K KP:=aY.pre h he
theorem aF.swap{x y:Nat×Obj}{A:Hp}:aF (x::y::A) (y::x::A):=.perm (.swap _ _ _)
theorem As.mk{Q:zV->Hp->Prop}{v:zV}{B H:Hp}(he:bG B H)(h:Q v H):aQ (λv H=>bG B H/\Q v H) (.returned v) H:=⟨v,H,rfl,.refl _,he,h⟩
theorem bD.mk{Q:zV->Prop}{v:zV}{B H:Hp}(he:aF H B)(h:Q v):aQ (λv H=>H=B/\Q v) (.returned v) H:=⟨v,B,rfl,he,rfl,h⟩
def aA(kd:IntKind)(l:List Int):Array zV:=(l.map λn=>Value.int kd n).toArray
theorem Er(kd:IntKind)(l:List Int)(i:Nat)(n:Int):(aA kd l).setIfInBounds i (.int kd n)=aA kd (l.set i n):=by
 simp[aA,xc5]
@[simp] theorem V1(kd:IntKind)(l:List Int):(aA kd l).size=l.length:=by simp[aA]
theorem Kx(kd:IntKind)(n:Nat):madeCells (Value.cells (.int kd 0)) (n*1)=aA kd (List.replicate n 0):=by
 apply xez
 ·simp[madeCells,aA]
 intro i h1 h2;simp[madeCells,aA,Value.cells,xeG]
def er(kd:IntKind)(B:Hp)(v:zV)(l:List Int):Prop:=Sl 1 B v (l.map λn=>[Value.int kd n])
theorem er.mono{kd:IntKind}{B B':Hp}{v:zV}{l:List Int}(h:er kd B v l)(hs:∀x∈B,x∈B'):er kd B' v l:=Sl.mono h hs
theorem er.bE{kd:IntKind}{B:Hp}{v:zV}{l:List Int}(h:er kd B v l){K:zV->Prop}(hk:K (.int .i64 l.length)):aE v K:=Sl.bE h (by simpa using hk)
theorem er.block{kd:IntKind}{B:Hp}{b cap:Nat}{l:List Int}{T:TypeId}{fz:Nat×Nat}(hm:(b,Obj.cells (aA kd l) T fz)∈B)(hc:l.length<=cap):er kd B (.slice (some ⟨b,0,none⟩) l.length cap) l:=by
 refine⟨by simp,.inr ⟨b,0,cap,_,T,fz,by simp,by simpa using hc,hm,by simp[aA],λi r hi j v hj=>?_⟩⟩;rw[xar]at hi;cases hl:l[i]? with
 |none=>rw[hl]at hi;simp at hi
 |some n=>
  rw[hl]at hi;simp only[xbj,xas]at hi;subst hi;cases j with
  |zero=>
   simp only[xch,xas]at hj;subst hj;simp[aA,hl]
  |succ j=>simp at hj
theorem er.at{kd wO:IntKind}{B:Hp}{v:zV}{l:List Int}(h:er kd B v l){i:Nat}{n:Int}(hi:l[i]? =some n){K:zV->Prop}(hk:∀p,At B p [.int kd n]->K p):ah 1 v (.int wO (i:Int)) K:=
 ah.sl h (by rw[xar,hi];rfl) hk
theorem er.ld{kd wO:IntKind}{B:Hp}{v:zV}{l:List Int}(h:er kd B v l){i:Nat}{n:Int}(hi:l[i]? =some n)(hs:∀x∈B,x∈H){K:zV->Prop}(hk:K (.int kd n)):ah 1 v (.int wO (i:Int)) (λp=>Ld H p K):=
 h.at hi λp hp=>Ld.at hp hs hk
theorem df.ints{T:TypeId}{kd kl:IntKind}{bytes n:Nat}{K:zV->Hp->Prop}(cJ:n<=9223372036854775807)(hb:n*bytes<=281474976710656)
 (h:∀b,K (.slice (some ⟨b,0,none⟩) n n) ((b,.cells (aA kd (List.replicate n 0)) T zZ)::H)):df T 1 bytes (.int kd 0) H (.int kl n) (.int kl n) K:=
 ⟨kl,kl,n,n,rfl,rfl,xal _,by omega,hb,λb _=>by rw[Kx];exact h b⟩
theorem St.ints{b i:Nat}{kd:IntKind}{l:List Int}{x:Int}{T:TypeId}{H':Hp}{K:Hp->Prop}(hu:cu b (.cells (aA kd l) T zZ) (.cells (aA kd (l.set i x)) T zZ) H H')(hi:i<l.length)(h:K H'):
  St 1 H (.pointer (some ⟨b,0+i*1,none⟩)) (.int kd x) K:=
 St.one (c:=aA kd l) (c':=aA kd (l.set i x)) hu rfl (by simpa using hi) (by rw[xa1,xcc];exact Er kd l i x) h
end
def bA:List zV->Nat->Nat
 | .int _ q::_,0=>q.toNat
 |_::r,i+1=>bA r i
 |_,_=>0
structure Tb where
 n:Int
 ws:zL
 deriving DecidableEq
def iw(ws:zL):List Int:=ws.map (Nat.cast:Nat->Int)
@[simp] theorem an(ws:zL):(iw ws).length=ws.length:=by simp[iw]
theorem cr{ws:zL}{i w:Nat}(h:ws[i]? =some w):(iw ws)[i]? =some (w:Int):=by simp[iw,h]
def Words(B:Hp)(s:zV)(ws:zL):Prop:=er .u64 B s (iw ws)/\∀w∈ws,w<18446744073709551616
theorem Words.mono{B B':Hp}{v:zV}{ws:zL}(h:Words B v ws)(hs:∀x∈B,x∈B'):Words B' v ws:=⟨h.1.mono hs,h.2⟩
theorem Words.block{B:Hp}{b cap:Nat}{ws:zL}{T:TypeId}{fz:Nat×Nat}(hm:(b,Obj.cells (aA .u64 (iw ws)) T fz)∈B)(hc:ws.length<=cap)(hw:∀w∈ws,w<18446744073709551616):Words B (.slice (some ⟨b,0,none⟩) ws.length cap) ws:=by
 have:=er.block (cap:=cap) hm (by simpa using hc);rw[an]at this;exact⟨this,hw⟩
def DD(B:Hp)(v:zV)(t:Tb):Prop:=∃s,v=.agg #[.int .i64 t.n,s]/\Words B s t.ws
theorem DD.mono{B B':Hp}{v:zV}{t:Tb}(h:DD B v t)(hs:∀x∈B,x∈B'):DD B' v t:=let ⟨s,h1,h2⟩:=h;⟨s,h1,h2.mono hs⟩
def R8(B:Hp)(r:List zV)(t:Tb):Prop:=∃s,r=[.int .i64 t.n,s]/\Words B s t.ws
theorem R8.mono{B B':Hp}{r:List zV}{t:Tb}(h:R8 B r t)(hs:∀x∈B,x∈B'):R8 B' r t:=let ⟨s,h1,h2⟩:=h;⟨s,h1,h2.mono hs⟩
def rR{α:Type}(p:List zV->α->Prop)(rs:List (List zV))(l:List α):Prop:=rs.length=l.length/\∀(i:Nat) (r:List zV) (x:α),rs[i]? =some r->l[i]? =some x->p r x
theorem rR.nil{α:Type}{p:List zV->α->Prop}:rR p [] []:=⟨rfl,by simp⟩
theorem rR.get{α:Type}{p:List zV->α->Prop}{rs:List (List zV)}{l:List α}(h:rR p rs l){i:Nat}{x:α}(hx:l[i]? =some x):∃r,rs[i]? =some r/\p r x:=by
 have hlt:=(xah.1 hx).1;have:i<rs.length:=by rw[h.1];exact hlt
 exact⟨rs[i],xab this,h.2 i _ _ (xab this) hx⟩
theorem rR.mono{α:Type}{p q:List zV->α->Prop}{rs:List (List zV)}{l:List α}(h:rR p rs l)(hpq:∀r x,p r x->q r x):rR q rs l:=⟨h.1,λi r x h1 h2=>hpq _ _ (h.2 i r x h1 h2)⟩
theorem rR.snoc{α:Type}{p:List zV->α->Prop}{rs:List (List zV)}{l:List α}(h:rR p rs l){r:List zV}{x:α}(hx:p r x):rR p (rs++[r]) (l++[x]):=by
 refine⟨by simp[h.1],λi r' x' h1 h2=>?_⟩;by_cases e:i<l.length
 ·rw[xaQ e]at h2;rw[xaQ (by rw[h.1];exact e)]at h1;exact h.2 i _ _ h1 h2
 rw[xbL zO]at h2;rw[xbL (by rw[h.1];omega),h.1]at h1;cases hi:i-l.length with
 |zero=>rw[hi]at h1 h2;simp at h1 h2;subst h1;subst h2;exact hx
 |succ k=>rw[hi]at h2;simp at h2
def iq(B:Hp)(v:zV)(ts:List Tb):Prop:=∃rs,Sl 2 B v rs/\rR (R8 B) rs ts
theorem iq.mono{B B':Hp}{v:zV}{ts:List Tb}(h:iq B v ts)(hs:∀x∈B,x∈B'):iq B' v ts:=let ⟨rs,h1,h2⟩:=h;⟨rs,h1.mono hs,h2.mono λ_ _ h=>h.mono hs⟩
theorem iq.bE{B:Hp}{v:zV}{ts:List Tb}(h:iq B v ts){K:zV->Prop}(hk:K (.int .i64 ts.length)):aE v K:=by
 obtain⟨rs,h1,h2⟩:=h;refine h1.bE ?_;have:=h2.1;rw[this];exact hk
theorem iq.ld{B H:Hp}{v:zV}{ts:List Tb}{kd:IntKind}(h:iq B v ts){i:Nat}{t:Tb}(hi:ts[i]? =some t)(hs:∀x∈B,x∈H){K:zV->Prop}(hk:∀s,Words B s t.ws->K (.agg #[.int .i64 t.n,s])):ah 2 v (.int kd (i:Int)) (λp=>ax 2 H p K):=by
 obtain⟨rs,h1,h2⟩:=h;obtain⟨r,hr,s,rfl,hw⟩:=h2.get hi;exact ah.sl h1 hr λp hp=>ax.at hp rfl zD hs (hk s hw)
theorem iq.ldN{B H:Hp}{v:zV}{ts:List Tb}{kd:IntKind}(h:iq B v ts){i:Nat}{t:Tb}(hi:ts[i]? =some t)(hs:∀x∈B,x∈H){K:zV->Prop}(hk:K (.int .i64 t.n)):ah 2 v (.int kd (i:Int)) (λp=>af 0 p (λq=>Ld H q K)):=by
 obtain⟨rs,h1,h2⟩:=h;obtain⟨r,hr,s,rfl,hw⟩:=h2.get hi;exact ah.sl h1 hr λp hp=>af.at hp λq hq=>Ld.at hq hs hk
theorem iq.one{B:Hp}{b cap:Nat}{t:Tb}{s:zV}{T:TypeId}{fz:Nat×Nat}(hm:(b,Obj.cells #[.int .i64 t.n,s] T fz)∈B)(hw:Words B s t.ws):iq B (.slice (some ⟨b,0,none⟩) 1 (cap+1)) [t]:=by
 refine⟨[[.int .i64 t.n,s]],⟨by simp,.inr ⟨b,0,cap+1,_,T,fz,rfl,by simp,hm,by simp,λi r hi j v hj=>?_⟩⟩,rfl,λi r x h1 h2=>?_⟩
 ·cases i with
  |zero=>simp at hi;subst hi;simpa using hj
  |succ i=>simp at hi
 ·cases i with
  |zero=>simp at h1 h2;subst h1;subst h2;exact⟨s,rfl,hw⟩
  |succ i=>simp at h1
def TF(t:Tb):Prop:=0<=t.n/\ak.dA t.n.toNat t.ws
instance (t:Tb):Decidable (TF t):=by unfold TF;infer_instance
end Go.Sx
namespace Go.Sx
open Go Go.RowKit
section
variable {P:Program}
def whole(W:World):Hp:=(List.range W.heap.size).map λi=>(i,W.heap.getD i default)
theorem Ko(W:World):Own ⟨W,[]⟩ (whole W) W:=by
 refine⟨rfl,rfl,rfl,?_,?_⟩
 ·have:(whole W).map Prod.fst=List.range W.heap.size:=by
   unfold whole;rw[xbR];have:(Prod.fst∘λi=>(i,W.heap.getD i default))=id:=by funext i;rfl
   rw[this,xej]
  rw[xaH,this];exact xbs
 intro x hx;rw[xaH]at hx;obtain⟨i,hi,rfl⟩:=xam.1 hx;have:=xaO.1 hi;simp[xav,this]
theorem Own.below{W W':World}(h:Own ⟨W,[]⟩ (whole W) W'):Below W.heap.size W W':=by
 have hb:∀k,k<W.heap.size->W'.heap[k]? =W.heap[k]? :=λk hk=>by
  have:=h.has (k,W.heap.getD k default) (xam.2 ⟨k,xaO.2 hk,rfl⟩);simp only at this;rw[this];simp[xav,hk]
 refine⟨h.os,h.tape,h.out,?_,hb⟩;rcases Nat.eq_zero_or_pos W.heap.size with h0|h0
 ·omega
 have:=hb (W.heap.size-1) zO;rw[show W.heap[W.heap.size-1]? =some (W.heap[W.heap.size-1]' zO)from xbE zO]at this;have:=(xaR.1 this).1;omega
theorem KE{f:FuncId}{args:Array zV}{W:World}(h:aY P ⟨W,[]⟩ f args (whole W) (λe H'=>e=.returned (.bool true)/\aF H' (whole W))):
  Calls P f args W λe W'=>e=.returned (.bool true)/\Below W.heap.size W W':=
 (h W (Ko W)).mono λe W' ⟨H',ho,he,hent⟩=>⟨he,(hent _ _ ho).below⟩
theorem Xx{f:FuncId}{args:Array zV}{W:World}(h:Px P f args (whole W) (λv _=>v=.bool true)):
  Calls P f args W λe W'=>e=.returned (.bool true)/\Below W.heap.size W W':=
 KE ((h ⟨W,[]⟩).post λe H' ⟨v,C,he,hent,hg,hv⟩=>⟨H',.refl _,by rw[he,hv],hent.trans hg.dL⟩)
section
variable {H:Type} {enc:TypeId×zV->H}
open Go.ChangeShapes Go.WideShapes Go.ChangeAt Go.RowKit
theorem ob(hl:laidOutB P=true){W W':World}{sp:Nat->Bool}(hb:Below W.heap.size W W'):∀(ts:List TypeId) (vs:List zV) (ds:List (DataW H)) (ps:List MemPlace),
  (∀t∈ts,P.readableRec t=true/\t<P.types.size)->DataW.TrodAll enc P W 0 (λ_=>true) true ts vs ds ps->(∀x∈ps,x.block<W.heap.size)->(∀x∈ps,sp x.block=true)->DataW.TrodAll enc P W' 0 sp true ts vs ds ps
 | [],vs,ds,ps,_,h,_,_=>by
  obtain⟨rfl,rfl,rfl⟩:=trodAll_nil h;exact trodAll_mk0
 |t::ts,vs,ds,ps,hr,h,hlt,hsp=>by
  obtain⟨v,vs',d,ds',p,q,rfl,rfl,rfl,h0,h1⟩:=trodAll_cons h;have ht:=hr t zI;exact trodAll_cons_mk (WideElems.Trod_stays hl ht.1 ht.2 h0 (λx hx=>hb.same (hlt x (by simp[hx]))) (λx hx=>hsp x (by simp[hx])))
   (ob hl hb ts vs' ds' q (λt' h'=>hr t' (by simp[h'])) h1 (λx hx=>hlt x (by simp[hx])) (λx hx=>hsp x (by simp[hx])))
theorem Pv{f:Func}{s:ChangeSpec}{W W':World}{args:Array zV}{ds gs:List (DataW H)}{before:List MemPlace}{tb:TypeId}(hvars:s.vars=[])
 (hW:DataW.Whole enc P f.params.toList s.vars false W args.toList ds gs before)(hs:s.fn H (ds++gs)={results:=[.lit (.bool true)],args:=ds})(hb:Below W.heap.size W W')
 (hl:laidOutB P=true)(hr:∀t∈f.params.toList,P.readableRec t=true/\t<P.types.size)(hrt:f.resultTypes=#[tb])(abo:P.underlying tb=some .bool):
  s.post enc P f false true false false W args (.bool true) W':=by
 have hW':=hW;have hlt:=hW.lt;obtain⟨p,q,hA,hV,rfl,hfz,gw⟩:=hW;rw[hvars]at hV;obtain⟨rfl,rfl⟩:=trodVars_none hV;refine⟨ds,_,_,[],p,[],hW',?_,?_,?_,World.keptBut_mono (λp hp=>⟨hp,?_⟩) (hb.frame (· ∈p++[])),λh=>by cases h⟩
 ·rw[hs,hrt];exact trodAll_cons_mk (shut_bool abo _) trodAll_mk0
 ·rw[hs];exact ob hl hb _ _ _ _ hr hA (λx hx=>hlt x (by simp[hx])) (λx hx=>by simpa using hlt x (by simp[hx]))
 ·rw[hvars,hs];rfl
 right;simpa using hp
end
end
end Go.Sx
namespace Go.Sx
open Go
section
variable {P:Program} {g:Gh} {H:Hp}
theorem aM.ahF{T:TypeId}{v x:zV}{rs:List (List zV)}{C:Hp}(hs:aM T 1 v rs C){i:Nat}(hi:i<rs.length)(hr:rs[i]? =some [x])(hC:∀y∈C,y∈H){K:zV->Prop}(hk:K x):
  ah 1 v (.int .i64 (i:Int)) λp=>Ld H p K:=by
 obtain⟨b',au,rfl,rfl,aD⟩:=hs.pos zO;refine ah.nat hi ?_;exact Ld.Z4 (l:=rs++au) (hC _ (List.Mem.head _)) aD (by rw[xaQ hi];exact hr) hk
theorem aM.adY{T:TypeId}{v x y:zV}{rs:List (List zV)}{C A B:Hp}(hs:aM T 1 v rs C){i:Nat}(hi:i<rs.length)(hr:rs[i]? =some [y])(h1:x.oneCell'=true){K:Hp->Prop}
 (hk:∀C',aM T 1 v (rs.set i [x]) C'->K (A++(C'++B))):ah 1 v (.int .i64 (i:Int)) λp=>St 1 (A++(C++B)) p x K:=by
 obtain⟨b',au,rfl,rfl,aD⟩:=hs.pos zO;refine ah.nat hi ?_;refine St.cell (l:=rs++au) (i:=i) (k:=1) (j:=0) (r:=[y]) (((cu.head _).append B).aO A) aD (by rw[xaQ hi];exact hr) zO h1 ?_;have e:(rs++au).set i ([y].set 0 x)=rs.set i [x]++au:=by rw[xdd _ _ hi];rfl
 rw[e];refine hk [(b',_)] (aM.mk' (au:=au) (λr hr'=>?_) zI zI);rcases xaq.1 hr' with hr'|hr'
 ·rcases xcm hr' with hr'|rfl
  ·exact aD r (by simp[hr'])
  rfl
 exact aD r (by simp[hr'])
end
end Go.Sx
namespace Go.Sx
open Go
section
variable {κ β:Type} [DecidableEq κ]
structure aT(ke:κ->zV)(vr:zV->β->Prop)(es:Array MapEntry)(ck:Nat)(m:List (κ×β)):Prop where
 len:es.size=m.length
 key:∀(i:Nat) (e:MapEntry) (x:κ×β),es[i]? =some e->m[i]? =some x->e.key=ke x.1/\vr e.val x.2
 nd:(m.map Prod.fst).Nodup
 born:(es.toList.map MapEntry.born).Nodup
 lt:∀e∈es.toList,e.born<ck
variable {ke:κ->zV} {vr:zV->β->Prop} {es:Array MapEntry} {ck:Nat} {m:List (κ×β)}
theorem aT.empty:aT ke vr #[] 0 []:=⟨rfl,by simp,by simp,by simp,by simp⟩
theorem aT.mono{vr':zV->β->Prop}(h:aT ke vr es ck m)(hv:∀v x,vr v x->vr' v x):aT ke vr' es ck m:=⟨h.len,λi e x h1 h2=>⟨(h.key i e x h1 h2).1,hv _ _ (h.key i e x h1 h2).2⟩,h.nd,h.born,h.lt⟩
def cY(m:List (κ×β))(k:κ)(x:β):List (κ×β):=if k∈m.map Prod.fst then m.map (λy=>if y.1=k then(k,x)else y)else m++[(k,x)]
def bO(m:List (κ×β))(k:κ):Option β:=(m.find? (λy=>y.1=k)).map Prod.snd
theorem fe{m:List (κ×β)}{k:κ}{x:β}(nd:(m.map Prod.fst).Nodup):bO m k=some x↔(k,x)∈m:=by
 induction m with
 |nil=>simp[bO]
 |cons y r ih=>
  rw[xaM,xaW]at nd;obtain⟨a,b⟩:=y;simp only[bO,xbG]at ih⊢;by_cases e:a=k
  ·subst e;simp only[decide_true,xbj,xas,xag,xdC,xdt];constructor
   ·intro h;exact .inl h.symm
   rintro(h|h)
   ·exact h.symm
   exact absurd (xam.2 ⟨_,h,rfl⟩) nd.1
  simp only[e,xdI,xag,xdC,xbn e,false_and,false_or];exact ih nd.2
theorem gE{m:List (κ×β)}{k:κ}:bO m k=none↔k∉m.map Prod.fst:=by
 simp only[bO,Option.map_eq_none_iff,xc4,xaP,xam,not_exists,not_and]
theorem aT.findNow{kd:TypeDesc}(hk:∀a b,Instr.sameNow kd (ke a) (ke b)=some (decide (a=b)))(h:aT ke vr es ck m)(k:κ):
  (∃(i:Nat) (x:β) (e:MapEntry),es[i]? =some e/\m[i]? =some (k,x)/\vr e.val x/\Instr.findNow kd (ke k) es.toList 0=some (some (i,e.val)))\/(k∉m.map Prod.fst/\Instr.findNow kd (ke k) es.toList 0=some none):=by
 have key:∀(l:List MapEntry) (q:List (κ×β)) (j:Nat),l.length=q.length->(∀(i:Nat) (e:MapEntry) (x:κ×β),l[i]? =some e->q[i]? =some x->e.key=ke x.1/\vr e.val x.2)->
   (∃(i:Nat) (x:β) (e:MapEntry),l[i]? =some e/\q[i]? =some (k,x)/\vr e.val x/\Instr.findNow kd (ke k) l j=some (some (j+i,e.val)))\/(k∉q.map Prod.fst/\Instr.findNow kd (ke k) l j=some none):=by
  intro l;induction l with
  |nil=>intro q j hl _;cases q with|nil=>exact .inr ⟨by simp,rfl⟩|cons a b=>simp at hl
  |cons e r ih=>
   intro q j hl hkey;cases q with
   |nil=>simp at hl
   |cons y q=>
    obtain⟨h1,h2⟩:=hkey 0 e y rfl rfl;simp only[Instr.findNow,h1,hk];by_cases e0:k=y.1
    ·subst e0;exact .inl ⟨0,y.2,e,rfl,rfl,h2,by simp⟩
    rw[xap e0];rcases ih q (j+1) (by simpa using hl) (λi e x h1 h2=>hkey (i+1) e x (by simpa using h1) (by simpa using h2))with⟨i,x,e',g1,g2,g3,g4⟩|⟨g1,g2⟩
    ·exact .inl ⟨i+1,x,e',by simpa using g1,by simpa using g2,g3,by simp only[g4];rw[show j+1+i=j+(i+1)by omega]⟩
    exact .inr ⟨by rw[xaM,xag];rintro(h|h);exact e0 h;exact g1 h,by simpa using g2⟩
 have:=key es.toList m 0 (by simpa using h.len) (λi e x h1 h2=>h.key i e x (by simpa using h1) h2);rcases this with⟨i,x,e,g1,g2,g3,g4⟩|h2
 ·exact .inl ⟨i,x,e,by simpa using g1,g2,g3,by simpa using g4⟩
 exact .inr h2
theorem aT.Cb{P:Program}{kt:TypeId}(hk:∀a b,Dc P kt (ke a) (ke b) (decide (a=b)))(h:aT ke vr es ck m)(k:κ):
  (∃(i:Nat) (x:β) (e:MapEntry),es[i]? =some e/\m[i]? =some (k,x)/\vr e.val x/\l6 P kt (ke k) es.toList 0 (some (i,e.val)))\/(k∉m.map Prod.fst/\l6 P kt (ke k) es.toList 0 none):=by
 have key:∀(l:List MapEntry) (q:List (κ×β)) (j:Nat),l.length=q.length->(∀(i:Nat) (e:MapEntry) (x:κ×β),l[i]? =some e->q[i]? =some x->e.key=ke x.1/\vr e.val x.2)->
   (∃(i:Nat) (x:β) (e:MapEntry),l[i]? =some e/\q[i]? =some (k,x)/\vr e.val x/\l6 P kt (ke k) l j (some (j+i,e.val)))\/(k∉q.map Prod.fst/\l6 P kt (ke k) l j none):=by
  intro l;induction l with
  |nil=>intro q j hl _;cases q with|nil=>exact .inr ⟨by simp,rfl⟩|cons a b=>simp at hl
  |cons e r ih=>
   intro q j hl hkey;cases q with
   |nil=>simp at hl
   |cons y q=>
    obtain⟨h1,h2⟩:=hkey 0 e y rfl rfl;have hb:=hk k y.1;rw[<-h1]at hb;by_cases e0:k=y.1
    ·refine .inl ⟨0,y.2,e,rfl,by rw[e0];rfl,h2,?_⟩;exact⟨_,hb,λ_=>by simp,λh=>by simp[e0]at h⟩
    rcases ih q (j+1) (by simpa using hl) (λi e x h1 h2=>hkey (i+1) e x (by simpa using h1) (by simpa using h2))with⟨i,x,e',g1,g2,g3,g4⟩|⟨g1,g2⟩
    ·refine .inl ⟨i+1,x,e',by simpa using g1,by simpa using g2,g3,_,hb,λh=>by simp[e0]at h,λ_=>?_⟩;rw[show j+(i+1)=j+1+i by omega];exact g4
    exact .inr ⟨by rw[xaM,xag];rintro(h|h);exact e0 h;exact g1 h,_,hb,λh=>by simp[e0]at h,λ_=>g2⟩
 have:=key es.toList m 0 (by simpa using h.len) (λi e x h1 h2=>h.key i e x (by simpa using h1) h2);rcases this with⟨i,x,e,g1,g2,g3,g4⟩|h2
 ·exact .inl ⟨i,x,e,by simpa using g1,g2,g3,by simpa using g4⟩
 exact .inr h2
theorem aT.put(h:aT ke vr es ck m){i:Nat}{k:κ}{y x:β}{val:zV}(hi:m[i]? =some (k,y))(hv:vr val x):aT ke vr (es.modify i λe=>{e with key:=ke k,val}) ck (cY m k x):=by
 have hmem:k∈m.map Prod.fst:=xam.2 ⟨_,xay hi,rfl⟩;have hlt:=(xah.1 hi).1;have aaD:∀j z,m[j]? =some z->z.1=k->j=i:=λj z hj hz=>by
  have hj':=(xah.1 hj).1;have e1:(m.map Prod.fst)[j]? =some k:=by rw[xar,hj];simp[hz]
  have e2:(m.map Prod.fst)[i]? =some k:=by rw[xar,hi];rfl
  exact(List.getElem?_inj (by simpa using hj') h.nd).1 (e1.trans e2.symm)
 have hb:((es.modify i λe=>{e with key:=ke k,val}).toList.map MapEntry.born)=es.toList.map MapEntry.born:=by
  apply xbq;intro j;simp only[xar,xbm,xbf];split
  ·cases es[j]? <;>rfl
  rfl
 refine⟨by simp[cY,hmem,h.len],λj e z he hz=>?_,?_,by rw[hb];exact h.born,λe he=>?_⟩
 ·simp only[cY,hmem,xa7,xar]at hz;rw[xbf]at he;cases hm:m[j]? with
  |none=>rw[hm]at hz;simp at hz
  |some z0=>
   rw[hm]at hz;simp only[xbj,xas]at hz;cases hes:es[j]? with
   |none=>rw[hes]at he;split at he<;>simp at he
   |some e0=>
    rw[hes]at he;by_cases ek:z0.1=k
    ·have:=aaD j z0 hm ek;subst this;rw[xae ek]at hz;subst hz;simp only[xa7,xbj,xas]at he;subst he;exact⟨rfl,hv⟩
    rw[xac ek]at hz;subst hz;rw[xac (λe=>by subst e;rw[hi]at hm;cases hm;exact ek rfl)]at he;simp only[xas]at he;subst he;exact h.key j _ _ hes hm
 ·have:(cY m k x).map Prod.fst=m.map Prod.fst:=by
   simp only[cY,hmem,xa7,xbR];apply xbr;intro z _;simp only[Function.comp];split
   ·rename_i hz;exact hz.symm
   rfl
  rw[this];exact h.nd
 have:e.born∈(es.modify i λe=>{e with key:=ke k,val}).toList.map MapEntry.born:=xbd he;rw[hb]at this;obtain⟨e0,h1,h2⟩:=xam.1 this;rw[<-h2];exact h.lt e0 h1
theorem aT.more(h:aT ke vr es ck m){k:κ}{x:β}{val:zV}(hk:k∉m.map Prod.fst)(hv:vr val x):aT ke vr (es.push {key:=ke k,val,born:=ck}) (ck+1) (cY m k x):=by
 have hs:cY m k x=m++[(k,x)]:=by unfold cY;rw[xac hk]
 rw[hs];refine⟨by simp[h.len],λj e z he hz=>?_,?_,?_,λe he=>?_⟩
 ·by_cases hj:j<m.length
  ·rw[xaQ hj]at hz;rw[xdE,xac (by rw[h.len];omega)]at he;exact h.key j _ _ he hz
  have Wk:=(xah.1 hz).1;simp only[xaf,xak,xa3]at Wk;have:j=m.length:=by omega
  subst this;rw[xbL (xal _)]at hz;simp at hz;subst hz;rw[xdE,xae h.len.symm]at he;simp at he;subst he;exact⟨rfl,hv⟩
 ·rw[xaB,xa9];refine⟨h.nd,by simp,λa ha b hb=>?_⟩;simp at hb;subst hb;rintro rfl;exact hk ha
 ·rw[xen,xaB,xa9];refine⟨h.born,by simp,λa ha b hb=>?_⟩;simp at hb;subst hb;obtain⟨e,he,rfl⟩:=xam.1 ha;have:=h.lt e he;omega
 rw[xen,xaq]at he;rcases he with he|he
 ·have:=h.lt e he;omega
 simp at he;subst he;simp
variable {H:Hp} {b:Nat}
theorem aT.hit{kd:TypeDesc}{zero:zV}{ok:Bool}{k:κ}{x:β}{K:zV->Prop}(hk:∀a b,Instr.sameNow kd (ke a) (ke b)=some (decide (a=b)))(h:aT ke vr es ck m)(hm:(b,Obj.map es ck)∈H)(hx:bO m k=some x)
 (h1:∀v,vr v x->K (cond ok (.tuple #[v,.bool true]) v)):jE kd zero ok H (.map (some b)) (ke k) K:=by
 rcases h.findNow hk k with⟨i,y,e,g1,g2,g3,g4⟩|⟨g1,g2⟩
 ·have:bO m k=some y:=(fe h.nd).2 (xay g2);rw[hx]at this;cases this;exact⟨es,_,.inr ⟨b,ck,rfl,hm⟩,g4,h1 _ g3⟩
 rw[gE.2 g1]at hx;cases hx
theorem aT.bU{kd:TypeDesc}{zero:zV}{ok:Bool}{k:κ}{K:zV->Prop}(hk:∀a b,Instr.sameNow kd (ke a) (ke b)=some (decide (a=b)))(h:aT ke vr es ck m)(hm:(b,Obj.map es ck)∈H)(hx:bO m k=none)
 (h1:K (cond ok (.tuple #[zero,.bool false]) zero)):jE kd zero ok H (.map (some b)) (ke k) K:=by
 rcases h.findNow hk k with⟨i,y,e,g1,g2,g3,g4⟩|⟨g1,g2⟩
 ·exact absurd (xam.2 ⟨_,xay g2,rfl⟩) (gE.1 hx)
 exact⟨es,_,.inr ⟨b,ck,rfl,hm⟩,g2,h1⟩
theorem aT.bT{kd:TypeDesc}{k:κ}{x:β}{val:zV}{K:Hp->Prop}(hk:∀a b,Instr.sameNow kd (ke a) (ke b)=some (decide (a=b)))(hb:∀a,Instr.sameBits 10000 (ke a) (ke a)=true)(h:aT ke vr es ck m)(hv:vr val x)
 (h1:∀es' cC,aT ke vr es' cC (cY m k x)->∃H',cu b (.map es ck) (.map es' cC) H H'/\K H'):dJ kd H (.map (some b)) (ke k) val K:=by
 rcases h.findNow hk k with⟨i,y,e,g1,g2,g3,g4⟩|⟨g1,g2⟩
 ·refine⟨b,es,ck,_,rfl,g4,λe' he'=>?_,by rw[h.len];exact(xah.1 g2).1,h1 _ _ (h.put g2 hv)⟩;rw[(h.key i e' _ he' g2).1];exact hb k
 exact⟨b,es,ck,_,rfl,g2,h1 _ _ (h.more g1 hv)⟩
theorem aT.KY{P:Program}{kt:TypeId}{zero:zV}{ok:Bool}{k:κ}{x:β}{K:zV->Prop}(hk:∀a b,Dc P kt (ke a) (ke b) (decide (a=b)))(hc:∀a,mj P kt (ke a))(h:aT ke vr es ck m)(hm:(b,Obj.map es ck)∈H)(hx:bO m k=some x)
 (h1:∀v,vr v x->K (cond ok (.tuple #[v,.bool true]) v)):jN P kt zero ok H (.map (some b)) (ke k) K:=by
 rcases h.Cb hk k with⟨i,y,e,g1,g2,g3,g4⟩|⟨g1,g2⟩
 ·have:bO m k=some y:=(fe h.nd).2 (xay g2);rw[hx]at this;cases this;exact⟨es,_,.inr ⟨b,ck,rfl,hm⟩,hc k,g4,h1 _ g3⟩
 rw[gE.2 g1]at hx;cases hx
theorem aT.xF{P:Program}{kt:TypeId}{zero:zV}{ok:Bool}{k:κ}{K:zV->Prop}(hk:∀a b,Dc P kt (ke a) (ke b) (decide (a=b)))(hc:∀a,mj P kt (ke a))(h:aT ke vr es ck m)(hm:(b,Obj.map es ck)∈H)(hx:bO m k=none)
 (h1:K (cond ok (.tuple #[zero,.bool false]) zero)):jN P kt zero ok H (.map (some b)) (ke k) K:=by
 rcases h.Cb hk k with⟨i,y,e,g1,g2,g3,g4⟩|⟨g1,g2⟩
 ·exact absurd (xam.2 ⟨_,xay g2,rfl⟩) (gE.1 hx)
 exact⟨es,_,.inr ⟨b,ck,rfl,hm⟩,hc k,g2,h1⟩
theorem aT.NZ{P:Program}{kt:TypeId}{k:κ}{x:β}{val:zV}{K:Hp->Prop}(hk:∀a b,Dc P kt (ke a) (ke b) (decide (a=b)))(hc:∀a,mj P kt (ke a))(hb:∀a,Instr.sameBits 10000 (ke a) (ke a)=true)(h:aT ke vr es ck m)(hv:vr val x)
 (h1:∀es' cC,aT ke vr es' cC (cY m k x)->∃H',cu b (.map es ck) (.map es' cC) H H'/\K H'):jM P kt H (.map (some b)) (ke k) val K:=by
 rcases h.Cb hk k with⟨i,y,e,g1,g2,g3,g4⟩|⟨g1,g2⟩
 ·refine⟨b,es,ck,_,rfl,hc k,g4,λe' he'=>?_,by rw[h.len];exact(xah.1 g2).1,h1 _ _ (h.put g2 hv)⟩;rw[(h.key i e' _ he' g2).1];exact hb k
 exact⟨b,es,ck,_,rfl,hc k,g2,h1 _ _ (h.more g1 hv)⟩
theorem aT.Pu(h:aT ke vr es ck m)(hm:(b,Obj.map es ck)∈H){K:zV->Prop}(hk:K (.int .i64 m.length)):Au H (.map (some b)) K:=⟨_,rfl,.inr ⟨b,es,ck,rfl,hm,by rw[h.len];exact hk⟩⟩
def dx(es:Array MapEntry)(m:List (κ×β))(seen:Array Nat):List (κ×β):=((es.toList.zip m).filter λp=> !seen.contains p.1.born).map Prod.snd
omit [DecidableEq κ] in
theorem tO(h:aT ke vr es ck m):dx es m #[]=m:=by
 unfold dx;rw[xdo.2 zI,<-List.unzip_snd,List.unzip_zip];simpa using h.len
omit [DecidableEq κ] in
theorem AM(h:aT ke vr es ck m){seen:Array Nat}{i:Nat}{e:MapEntry}{x:κ×β}(he:es[i]? =some e)(hx:m[i]? =some x)(hs:e.born∉seen):(dx es m seen).Perm (x::dx es m (seen.push e.born)):=by
 unfold dx;have hz:(es.toList.zip m)[i]? =some (e,x):=by rw[List.getElem?_zip_eq_some];exact⟨by simpa using he,hx⟩
 obtain⟨A,C,hAC,hlen⟩:∃A C,es.toList.zip m=A++(e,x)::C/\A.length=i:=by
  obtain⟨hlt,hg⟩:=xah.1 hz;exact⟨(es.toList.zip m).take i,(es.toList.zip m).drop (i+1),by rw[<-hg,List.getElem_cons_drop,xbo],by simp only[xbA];omega⟩
 have ae1:(es.toList.zip m).map (λp=>p.1.born)=es.toList.map MapEntry.born:=by
  have:(es.toList.zip m).map Prod.fst=es.toList:=by rw[<-List.unzip_fst,List.unzip_zip];simpa using h.len
  rw[show(λp:MapEntry×(κ×β)=>p.1.born)=MapEntry.born∘Prod.fst from rfl,<-xbR,this]
 have gw:=h.born;rw[<-ae1,hAC,xaB,xaM]at gw;have aa0:=xaU.nodup_iff.1 gw;rw[xaW,<-xaB]at aa0;have hne:∀p∈A++C,p.1.born≠e.born:=λp hp e0=>aa0.1 (xam.2 ⟨p,hp,e0⟩);have Wu:∀L:List (MapEntry×(κ×β)),(∀p∈L,p.1.born≠e.born)->(L.filter λp=> !(seen.push e.born).contains p.1.born)=L.filter λp=> !seen.contains p.1.born:=λL hL=>by
  apply xdv;intro p hp;have:=hL p hp;simp[Array.mem_push,this]
 rw[hAC,xcs,xcs,xb4,xb4];rw[xae (by simpa using hs),xac zI,Wu A λp hp=>hne p (xad _ hp),Wu C λp hp=>hne p (xaa _ hp)];rw[xaB,xaB,xaM];exact xaU
omit [DecidableEq κ] in
theorem aT.next{bi bm:Nat}{seen:Array Nat}{K:zV->Hp->Prop}(h:aT ke vr es ck m)(hm:(bm,Obj.map es ck)∈H)(hi:(bi,Obj.mapIter (some bm) ck seen ck)∈H)
 (h1:∀e x seen',e∈es.toList->e.key=ke x.1->vr e.val x.2->(dx es m seen).Perm (x::dx es m seen')->seen'.back?=some e.born->es.find? (·.born==e.born)=some e->
   ∃H',cu bi (.mapIter (some bm) ck seen ck) (.mapIter (some bm) ck seen' ck) H H'/\K (.tuple #[.bool true,e.key,e.val]) H')
 (h2:dx es m seen=[]->K (.tuple #[.bool false]) H):ZH H (.pointer (some ⟨bi,0,none⟩)) K:=by
 refine⟨bi,some bm,ck,seen,ck,rfl,hi,es,ck,hm,λe he=>⟨h.lt e he,h.lt e he⟩,λe he hs=>?_,λaD=>h2 ?_⟩
 ·obtain⟨i,hi',rfl⟩:=xbB.1 he;have IV:i<m.length:=by rw[<-h.len];simpa using hi'
  have g1:es[i]? =some es.toList[i]:=by rw[<-xbm];exact xab hi'
  have g2:m[i]? =some m[i]:=xab IV;obtain⟨k1,k2⟩:=h.key i _ _ g1 g2;refine h1 _ m[i] _ he k1 k2 (AM h g1 g2 hs) zI ?_;rw[<-Array.find?_toList];have gw:=h.born;rw[xec];refine⟨by simp,es.toList.take i,es.toList.drop (i+1),by rw[List.getElem_cons_drop,xbo],λa ha=>?_⟩;simp only[xbU,beq_eq_false_iff_ne,ne_eq];intro e0;obtain⟨j,hj,rfl⟩:=xbB.1 ha;simp only[xbA]at hj;rw[List.getElem_take]at e0;have:=(List.getElem_inj (by simpa using h.born) (xs:=es.toList.map MapEntry.born) (i:=j) (j:=i) (h₀:=by rw[xax];omega) (h₁:=by rw[xax];exact hi')).1 (by simpa using e0);omega
 unfold dx;rw[xdX.2,xcL];intro p hp;have:=aD p.1 (xd9 hp).1;simpa using this
end
end Go.Sx
namespace ak
def jQ(w:Nat):List UInt8:=(List.range 8).map λi=>UInt8.ofNat (w>>>(8*i))
def gx(ws:zL):List UInt8:=ws.flatMap jQ
theorem fj(w:Nat):(jQ w).length=8:=by simp[jQ]
theorem sn:∀l:zL,(gx l).length=8*l.length
 | []=>rfl
 |x::l=>by rw[gx,xeo,xaf,fj];have:=sn l;unfold gx at this;rw[this,xak];omega
theorem EU{a b:Nat}(ha:a<18446744073709551616)(hb:b<18446744073709551616)(h:jQ a=jQ b):a=b:=by
 apply xaX;intro j;by_cases hj:j<64
 ·have hi:j/8<8:=by omega
  have h1:=xca (λl=>l[j/8]?) h;simp only[jQ,xar,xdp hi,xbj,xas]at h1;have h2:=xca UInt8.toNat h1;simp only[xdL]at h2;have h3:=xca (λx=>x.testBit (j%8)) h2;simp only[xbl,xbh]at h3;rw[show 8*(j/8)+j%8=j by omega]at h3;have:decide (j%8<8)=true:=by simp;omega
  simpa[this]using h3
 rw[xbN (xa2 ha (xat (n:=2) zD (by omega:64<=j))),xbN (xa2 hb (xat (n:=2) zD (by omega:64<=j)))]
theorem BD:∀{a b:zL},(∀w∈a,w<18446744073709551616)->(∀w∈b,w<18446744073709551616)->gx a=gx b->a=b
 | [],[],_,_,_=>rfl
 | [],y::b,_,_,h=>by have:=xca List.length h;simp[gx,fj]at this;omega
 |x::a,[],_,_,h=>by have:=xca List.length h;simp[gx,fj]at this
 |x::a,y::b,ha,hb,h=>by
  simp only[gx,xeo]at h;obtain⟨h1,h2⟩:=List.append_inj h (by rw[fj,fj]);rw[EU (ha x zI) (hb y zI) h1,BD (λw hw=>ha w (by simp[hw])) (λw hw=>hb w (by simp[hw])) h2]
theorem dA.key_inj{n:Nat}{a b:zL}(ha:dA n a)(hb:dA n b)(h:gx a=gx b):a=b:=BD (λw hw=>ha.lt hw) (λw hw=>hb.lt hw) h
abbrev Fs:=List (zL)
def add(l:Fs)(t:zL):Fs:=if t∈l then l else l++[t]
def iS(L:Fs):Fs:=L.foldl add []
def given(n:Nat)(l:Fs)(v:Nat):Fs:=l.foldl (λacc t=>add (add acc (fU n t v false)) (fU n t v true)) []
def nodes(n:Nat)(l:Fs)(v:Nat):Fs:=l.filter λt=>dep n t v
def st(n:Nat)(L:Fs)(A:Nat):Nat->Fs
 |0=>iS L
 |k+1=>if A.testBit k then given n (st n L A k) k else st n L A k
def lvl(n:Nat)(L:Fs)(A v:Nat):Nat:=(nodes n (st n L A n) v).length
theorem zj{l:Fs}{t x:zL}:x∈add l t↔x∈l\/x=t:=by
 unfold add;split
 ·constructor
  ·exact .inl
  rintro(h|rfl)<;>assumption
 simp
theorem rO{l:Fs}{t:zL}(h:l.Nodup):(add l t).Nodup:=by
 unfold add;split
 ·exact h
 rename_i hn;rw[xa9];exact⟨h,by simp,λa ha b hb=>by simp at hb;subst hb;rintro rfl;exact hn ha⟩
theorem jP{α:Type}(f:α->Fs->Fs)(g:α->zL->Prop)(hf:∀a l x,x∈f a l↔x∈l\/g a x):∀(L:List α) (acc:Fs) (x:zL),x∈L.foldl (λacc a=>f a acc) acc↔x∈acc\/∃a∈L,g a x
 | [],acc,x=>by simp
 |a::L,acc,x=>by
  rw[xcN,jP f g hf L,hf];simp only[xag,exists_eq_or_imp,or_assoc]
theorem ig{α:Type}(f:α->Fs->Fs)(hf:∀a l,l.Nodup->(f a l).Nodup):∀(L:List α) (acc:Fs),acc.Nodup->(L.foldl (λacc a=>f a acc) acc).Nodup
 | [],acc,h=>h
 |a::L,acc,h=>ig f hf L _ (hf a acc h)
theorem fF{L:Fs}{x:zL}:x∈iS L↔x∈L:=by
 unfold iS;have:=jP (λa l=>add l a) (λa x=>x=a) (λa l x=>zj) L [] x;rw[this];simp
theorem kQ(L:Fs):(iS L).Nodup:=ig (λa l=>add l a) (λa l h=>rO h) L [] zI
theorem bY{n v:Nat}{l:Fs}{x:zL}:x∈given n l v↔∃t∈l,∃b,x=fU n t v b:=by
 unfold given;have:=jP (λt acc=>add (add acc (fU n t v false)) (fU n t v true)) (λt x=>∃b,x=fU n t v b) (λt l x=>by
  rw[zj,zj];constructor
  ·rintro((h|h)|h)
   ·exact .inl h
   ·exact .inr ⟨false,h⟩
   exact .inr ⟨true,h⟩
  rintro(h|⟨b,h⟩)
  ·exact .inl (.inl h)
  cases b
  ·exact .inl (.inr h)
  exact .inr h) l [] x
 rw[this];simp
theorem mV(n:Nat)(l:Fs)(v:Nat):(given n l v).Nodup:=ig (λt acc=>add (add acc (fU n t v false)) (fU n t v true)) (λa l h=>rO (rO h)) l [] zI
theorem mB(n:Nat)(L:Fs)(A:Nat):∀k,(st n L A k).Nodup
 |0=>kQ L
 |k+1=>by
  rw[st];split
  ·exact mV _ _ _
  exact mB n L A k
theorem iE{a b:Fs}(ha:a.Nodup)(hb:b.Nodup)(h:∀x,x∈a↔x∈b):a.Perm b:=(xc9 ha hb).2 h
theorem kX{n v:Nat}{a b:Fs}(h:a.Perm b):(nodes n a v).length=(nodes n b v).length:=(h.filter _).length_eq
theorem DN{n:Nat}{L:Fs}{A:Nat}(hL:∀t∈L,dA n t)(hn:n<=16):∀k,∀t∈st n L A k,dA n t
 |0,t,h=>hL t (fF.1 h)
 |k+1,t,h=>by
  rw[st]at h;split at h
  ·obtain⟨u,_,b,rfl⟩:=bY.1 h;exact dQ hn
  exact DN hL hn k t h
theorem gK(l:Fs)(t:zL):(add l t).length<=l.length+1:=by unfold add;split<;>simp
theorem dH{α:Type}(f:α->Fs->Fs)(c:Nat)(hf:∀a l,(f a l).length<=l.length+c):∀(L:List α) (acc:Fs),(L.foldl (λacc a=>f a acc) acc).length<=acc.length+c*L.length
 | [],acc=>by simp
 |a::L,acc=>by
  have h1:=dH f c hf L (f a acc);have h2:=hf a acc;rw[xcN,xak,Nat.mul_succ];omega
theorem qV(n:Nat)(L:Fs)(A:Nat):∀k,(st n L A k).length<=2^k*L.length
 |0=>by have:=dH (λa l=>add l a) 1 (λa l=>gK l a) L [];simpa[st,iS]using this
 |k+1=>by
  have ih:=qV n L A k;rw[st,xcB];split
  ·have h:=dH (λt acc=>add (add acc (fU n t k false)) (fU n t k true)) 2 (λa l=>by have h1:=gK (add l (fU n a k false)) (fU n a k true);have h2:=gK l (fU n a k false);omega) (st n L A k) [];have h':(given n (st n L A k) k).length<=2*(st n L A k).length:=by simpa[given]using h
   have:2*(st n L A k).length<=2*(2^k*L.length):=Nat.mul_le_mul_left _ ih;rw[xbJ (2^k) 2,xcu];omega
  have:2^k*L.length<=2^k*2*L.length:=xba _ zO;omega
def jZ(n:Nat)(ws:zL):Nat->Nat
 |0=>0
 |v+1=>if dep n ws v then jZ n ws v|||2^v else jZ n ws v
def oF(n:Nat)(ws:zL):Nat:=jZ n ws n
theorem gO(n:Nat)(ws:zL)(u:Nat):∀k,(jZ n ws k).testBit u=(decide (u<k) &&dep n ws u)
 |0=>by simp[jZ]
 |v+1=>by
  rw[jZ];by_cases e:u=v
  ·subst e;split
   ·rename_i h;rw[xcw,Nat.testBit_two_pow_self];simp[h]
   rename_i h;rw[gO n ws u u];simp[h]
  have h1:decide (u<v+1)=decide (u<v):=by simp;omega
  rw[h1];split
  ·rw[xcw,xdF,gO n ws u v];simp[xbn e]
  exact gO n ws u v
theorem mz(n:Nat)(ws:zL):∀k,jZ n ws k<2^k
 |0=>by simp[jZ]
 |v+1=>by
  have h1:=mz n ws v;have h2:2^v<2^(v+1):=xcx zD zO;rw[jZ];split
  ·exact xb8 zO h2
  omega
theorem tG(A u:Nat):(A>>>u&&&1=1)↔A.testBit u=true:=by
 rw[eH,xbh,xbY];cases A.testBit u<;>simp
theorem Ji(A u:Nat):((A>>>u)%2=1)↔A.testBit u=true:=by
 rw[<-tG,xc7]
end ak
