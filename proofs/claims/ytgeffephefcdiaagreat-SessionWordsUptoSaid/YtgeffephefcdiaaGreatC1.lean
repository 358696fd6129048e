import Derived.WalkKit
import Derived.Still
import Derived.KernelRfl
import Derived.Deep.Quiet
import Derived.OrdersHeld
import Derived.ProofKit
import Derived.OpenShut
import Derived.Below
import Derived.ChangeKeysEq
import Derived.Laws.StructEq
set_option linter.unusedVariables false
set_option linter.unusedSimpArgs false
set_option linter.unusedSectionVars false
theorem zM{α:Type _}{x:α}{l:List α}(h:x∈l:=by repeat (first|assumption|exact List.Mem.head _|apply List.Mem.tail|apply List.mem_append_right)):x∈l:=h
theorem zS{α:Type _}{A B:List α}(h:∀x∈A,x∈B:=by intro _ h;repeat (first|exact h|apply List.mem_cons_of_mem|apply List.mem_append_right)):∀x∈A,x∈B:=h
theorem zO{p:Prop}(h:p:=by omega):p:=h
theorem zI{p:Prop}(h:p:=by simp):p:=h
theorem zD{p:Prop}(h:p:=by decide):p:=h
theorem zK{p:Prop}(h:p:=by kernel_rfl):p:=h
theorem zP{p:Prop}(h:p:=by simp;omega):p:=h
theorem zC{p:Prop}(h:p:=by intro c h;cases h):p:=h
abbrev zL:=List Nat
abbrev zV:=Go.Value
abbrev zZ:Nat×Nat:=(0,0)
set_option linter.defProp false
def xaa:=@List.getElem?_eq_getElem
def xab:=@List.mem_append_right
def xac:=@if_neg
def xad:=@List.mem_append_left
def xae:=@if_pos
def xaf:=@List.length_append
def xag:=@cond_false
def xah:=@List.getElem?_eq_some_iff
def xai:=@Nat.le_refl
def xaj:=@List.append_assoc
def xak:=@decide_eq_false
def xal:=@List.mem_cons
def xam:=@decide_eq_true
def xan:=@List.mem_append
def xao:=@List.mem_map
def xap:=@cond_true
def xaq:=@Option.some.injEq
def xar:=@List.getD_eq_getElem?_getD
def xas:=@Array.getD_eq_getD_getElem?
def xat:=@List.getElem?_map
def xau:=@Nat.lt_of_le_of_lt
def xav:=@List.length_map
def xaw:=@List.mem_of_getElem?
def xax:=@List.cons.injEq
def xay:=@Bool.and_eq_true
def xaz:=@List.mem_singleton
def xaA:=@Nat.pow_le_pow_right
def xaB:=@List.length_cons
def xaC:=@List.map_cons
def xaD:=@Classical.byContradiction
def xaE:=@List.getElem?_eq_none
def xaF:=@List.getElem_mem
def xaG:=@Bool.or_eq_false_iff
def xaH:=@List.map_append
def xaI:=@Nat.eq_of_beq_eq_true
def xaJ:=@decide_eq_true_eq
def xaK:=@List.length_range
def xaL:=@List.append_nil
def xaM:=@List.mem_range
def xaN:=@Nat.lt_of_lt_of_le
def xaO:=@Nat.zero_le
def xaP:=@List.cons_append
def xaQ:=@List.not_mem_nil
def xaR:=@List.mem_map_of_mem
def xaS:=@Bool.false_eq_true
def xaT:=@List.perm_middle
def xaU:=@Array.getElem?_eq_some_iff
def xaV:=@List.getElem?_append_left
def xaW:=@Nat.shiftRight_eq_div_pow
def xaX:=@List.nodup_cons
def xaY:=@Nat.eq_of_testBit_eq
def xaZ:=@Nat.mul_le_mul_right
def xa0:=@and_true
def xa1:=@if_false
def xa2:=@List.nodup_append
def xa3:=@Int.toNat_natCast
def xa4:=@Nat.one_shiftLeft
def xa5:=@Nat.zero_add
def xa6:=@Nat.two_pow_pos
def xa7:=@if_true
def xa8:=@Bool.decide_or
def xa9:=@List.mem_iff_getElem
def xba:=@List.take_succ_eq_append_getElem
def xbb:=@Ne.symm
def xbc:=@Nat.mod_eq_of_lt
def xbd:=@Nat.testBit_and
def xbe:=@List.perm_append_comm
def xbf:=@Array.getElem?_toList
def xbg:=@List.ext_getElem?
def xbh:=@List.count_append
def xbi:=@List.nodup_range
def xbj:=@List.map_congr_left
def xbk:=@Nat.pow_lt_pow_right
def xbl:=@decide_eq_false_iff_not
def xbm:=@List.take_length
def xbn:=@List.filter_cons
def xbo:=@Nat.shiftRight_le
def xbp:=@Option.some.inj
def xbq:=@Bool.or_eq_true
def xbr:=@List.getElem?_set
def xbs:=@List.take_add_one
def xbt:=@List.take_append_drop
def xbu:=@List.drop_eq_getElem_cons
def xbv:=@Nat.testBit_shiftRight
def xbw:=@List.mem_cons_of_mem
def xbx:=@Nat.succ_mul
def xby:=@List.find?_cons
def xbz:=@List.getElem?_append_right
def xbA:=@Nat.testBit_mod_two_pow
def xbB:=@Nat.testBit_two_pow
def xbC:=@Array.getElem?_eq_getElem
def xbD:=@List.mem_filter
def xbE:=@Bool.not_eq_true'
def xbF:=@Nat.or_lt_two_pow
def xbG:=@Nat.mod_lt
def xbH:=@or_false
def xbI:=@List.length_take
def xbJ:=@List.getElem?_set_ne
def xbK:=@List.mem_cons_self
def xbL:=@List.getElem?_set_self
def xbM:=@List.count_pos_iff
def xbN:=@Array.getElem?_setIfInBounds_self_of_lt
def xbO:=@List.map_map
def xbP:=@Nat.testBit_eq_decide_div_mod_eq
def xbQ:=@Array.getElem?_setIfInBounds_ne
def xbR:=@List.length_set
def xbS:=@Nat.le_trans
def xbT:=@Nat.and_one_is_mod
def xbU:=@Bool.eq_iff_iff
def xbV:=@Nat.mul_one
def xbW:=@Nat.testBit_lt_two_pow
def xbX:=@List.eq_nil_of_length_eq_zero
def xbY:=@Array.getElem?_modify
def xbZ:=@List.Perm.append_left
def xb0:=@List.eq_of_mem_replicate
def xb1:=@Nat.testBit_or
def xb2:=@List.length_filter_le
def xb3:=@List.length_singleton
def xb4:=@List.nil_append
def xb5:=@List.count_cons
def xb6:=@List.filter_append
def xb7:=@Nat.add_sub_cancel
def xb8:=@decide_eq_decide
def xb9:=@List.map_nil
def xca:=@Nat.le_of_lt
def xcb:=@Nat.mul_le_mul
def xcc:=@List.pairwise_map
def xcd:=@of_decide_eq_true
def xce:=@congrArg
def xcf:=@Array.length_toList
def xcg:=@List.filter_eq_self
def xch:=@List.length_nil
def xci:=@List.mem_or_eq_of_mem_set
def xcj:=@Nat.and_le_left
def xck:=@Option.map_some
def xcl:=@List.range_succ
def xcm:=@Nat.mul_comm
def xcn:=@Nat.add_zero
def xco:=@Nat.shiftLeft_eq
def xcp:=@Bool.true_and
def xcq:=@Nat.mul_assoc
def xcr:=@Array.getElem?_setIfInBounds
def xcs:=@Bool.not_false
def xct:=@List.flatten_append
def xcu:=@List.perm_iff_count
def xcv:=@Array.getElem?_eq_none
def xcw:=@List.take_of_length_le
def xcx:=@List.perm_ext_iff_of_nodup
def xcy:=@Bool.not_true
def xcz:=@List.any_eq_true
def xcA:=@Nat.zero_testBit
def xcB:=@List.set_cons_zero
def xcC:=@List.find?_eq_none
def xcD:=@Classical.choose_spec
def xcE:=@List.set_append_right
def xcF:=@List.eq_nil_iff_forall_not_mem
def xcG:=@Nat.min_eq_left
def xcH:=@List.mem_of_mem_take
def xcI:=@List.foldl_cons
def xcJ:=@BitVec.ofInt_natCast
def xcK:=@List.count_singleton
def xcL:=@Nat.succ_le_of_lt
def xcM:=@Nat.lt_trichotomy
def xcN:=@Nat.add_assoc
def xcO:=@List.getElem?_cons_zero
def xcP:=@List.length_eq_zero_iff
def xcQ:=@Nat.div_eq_of_lt
def xcR:=@beq_iff_eq
def xcS:=@List.filter_eq_nil_iff
def xcT:=@List.map_set
def xcU:=@Nat.testBit_two_pow_sub_one
def xcV:=@Nat.sub_self
def xcW:=@Nat.le_of_ble_eq_true
def xcX:=@Nat.not_lt_zero
def xcY:=@Iff.rfl
def xcZ:=@true_and
def xc0:=@List.size_toArray
def xc1:=@List.flatten_cons
def xc2:=@Array.mem_toList_iff
def xc3:=@List.set_append_left
def xc4:=@List.set_eq_take_append_cons_drop
def xc5:=@Array.getElem?_replicate
def xc6:=@List.all_eq_true
def xc7:=@Nat.sub_zero
def xc8:=@Nat.le_of_not_lt
def xc9:=@Nat.and_le_right
def xda:=@List.replicate_succ
def xdb:=@Nat.mul_le_mul_left
def xdc:=@List.length_pos_iff
def xdd:=@Array.empty_append
def xde:=@List.append_of_mem
def xdf:=@Int.natCast_nonneg
def xdg:=@Array.ext'
def xdh:=@of_decide_eq_false
def xdi:=@List.filter_filter
def xdj:=@Array.getElem?_extract
def xdk:=@List.drop_eq_nil_of_le
def xdl:=@Nat.pow_add
def xdm:=@Nat.one_mul
def xdn:=@Nat.mul_add
def xdo:=@List.filter_congr
def xdp:=@List.foldl_append
def xdq:=@decide_false
def xdr:=@List.getElem?_toArray
def xds:=@Nat.testBit_two_pow_sub_succ
def xdt:=@Nat.pow_succ
def xdu:=@Nat.ne_of_gt
def xdv:=@Array.toArray_toList
def xdw:=@Nat.min_eq_right
def xdx:=@Nat.sub_le
def xdy:=@Bool.or_false
def xdz:=@Prod.mk.injEq
def xdA:=@Bool.false_or
def xdB:=@Array.getElem?_push
def xdC:=@List.getElem?_range
def xdD:=@List.toList_toArray
def xdE:=@List.of_mem_zip
def xdF:=@Decidable.byContradiction
def xdG:=@Bool.decide_and
def xdH:=@List.mem_of_find?_eq_some
def xdI:=@Array.append_empty
def xdJ:=@Option.isSome_iff_exists
def xdK:=@Nat.shiftRight_add
def xdL:=@List.count_eq_zero
def xdM:=@Bool.or_true
def xdN:=@Bool.false_and
def xdO:=@List.count_nil
def xdP:=@List.count_set
def xdQ:=@List.getElem?_replicate
def xdR:=@Nat.mul_div_cancel_left
def xdS:=@List.take_sublist
def xdT:=@Classical.not_not
def xdU:=@Array.getElem?_setIfInBounds_self
def xdV:=@Option.map_eq_some_iff
def xdW:=@Bool.and_true
def xdX:=@Array.toList_map
def xdY:=@Array.getElem?_append
def xdZ:=@List.length_replicate
def xd0:=@List.eraseIdx_sublist
def xd1:=@Nat.testBit_shiftLeft
def xd2:=@List.getElem?_append
def xd3:=@Nat.div_lt_of_lt_mul
def xd4:=@Nat.zero_mul
def xd5:=@Nat.and_two_pow_sub_one_eq_mod
def xd6:=@Nat.le_antisymm
def xd7:=@List.find?_eq_some_iff_append
def xd8:=@List.take_succ_cons
def xd9:=@List.mapM_cons
def xea:=@List.take_left
def xeb:=@dif_pos
def xec:=@List.dropLast_concat_getLast
def xed:=@Bool.and_false
def xee:=@List.take_zero
def xef:=@Nat.add_mul
def xeg:=@List.map_id
def xeh:=@List.set_cons_succ
def xei:=@Nat.pos_of_ne_zero
def xej:=@Nat.one_le_two_pow
def xek:=@List.idxOf_lt_length_of_mem
def xel:=@Array.toList_push
def xem:=@List.flatMap_cons
def xen:=@List.mem_range'_1
def xeo:=@Bool.not_eq_true
def xep:=@Array.mem_filter
def xeq:=@Option.bind_some
def xer:=@beq_self_eq_true
def xes:=@Nat.lt_or_ge
def xet:=@List.take_append
def xeu:=@List.drop_append
def xev:=@List.drop_length
def xew:=@Array.map_empty
def xex:=@List.forIn_cons
def xey:=@Nat.div_add_mod
def xez:=@Int.natCast_inj
def xeA:=@List.take_left'
def xeB:=@List.find?_some
def xeC:=@List.countP_map
abbrev zX:ByteArray:=ByteArray.mk #[0,1,2,2,3,3,3,3,4,4,4,4,4,4,4,4,5,5,5,5,5,5,5,5,5,5,5,5,5,5,5,5,6,6,6,6,6,6,6,6,6,6,6,6,6,6,6,6,6,6,6,6,6,6,6,6,6,6,6,6,6,6,6,6,7,7,7,7,7,7,7,7,7,7,7,7,7,7,7,7,7,7,7,7,7,7,7,7,7,7,7,7,7,7,7,7,7,7,7,7,7,7,7,7,7,7,7,7,7,7,7,7,7,7,7,7,7,7,7,7,7,7,7,7,7,7,7,7,8,8,8,8,8,8,8,8,8,8,8,8,8,8,8,8,8,8,8,8,8,8,8,8,8,8,8,8,8,8,8,8,8,8,8,8,8,8,8,8,8,8,8,8,8,8,8,8,8,8,8,8,8,8,8,8,8,8,8,8,8,8,8,8,8,8,8,8,8,8,8,8,8,8,8,8,8,8,8,8,8,8,8,8,8,8,8,8,8,8,8,8,8,8,8,8,8,8,8,8,8,8,8,8,8,8,8,8,8,8,8,8,8,8,8,8,8,8,8,8,8,8,8,8,8,8,8,8]
namespace Go.Sx
open Go
abbrev Hp:=List (Nat×Obj)
structure Gh where
 w:World
 fr:Hp
def Gh.add(g:Gh)(F:Hp):Gh:=⟨g.w,F++g.fr⟩
structure Own(g:Gh)(H:Hp)(w:World):Prop where
 os:w.os=g.w.os
 out:w.output=g.w.output
 tape:w.tape=g.w.tape
 nd:((H++g.fr).map Prod.fst).Nodup
 Bi:∀x,x∈H++g.fr->w.heap[x.1]? =some x.2
theorem Own.has{g:Gh}{H:Hp}{w:World}(h:Own g H w)(x:Nat×Obj)(hx:x∈H):w.heap[x.1]? =some x.2:=h.Bi x (xad _ hx)
theorem Own.perm{g:Gh}{H H':Hp}{w:World}(h:Own g H w)(p:H.Perm H'):Own g H' w:=
 ⟨h.os,h.out,h.tape,((p.append_right _).map _).nodup_iff.1 h.nd,λx hx=>h.Bi x ((p.append_right _).mem_iff.2 hx)⟩
theorem Own.right{g:Gh}{A B:Hp}{w:World}(h:Own g (A++B) w):Own g B w:=
 ⟨h.os,h.out,h.tape,by have:=h.nd;rw[xaj,xaH]at this;exact(xa2.1 this).2.1,λx hx=>h.Bi x (by rw[xaj];exact xab _ hx)⟩
theorem Own.left{g:Gh}{A B:Hp}{w:World}(h:Own g (A++B) w):Own g A w:=Own.right (A:=B) (h.perm xbe)
theorem Own.tail{g:Gh}{x:Nat×Obj}{B:Hp}{w:World}(h:Own g (x::B) w):Own g B w:=Own.right (A:=[x]) h
theorem Own.fm{g:Gh}{A F:Hp}{w:World}:Own g (A++F) w↔Own (g.add F) A w:=by
 constructor
 ·intro h;exact⟨h.os,h.out,h.tape,by have:=h.nd;rw[xaj]at this;exact this,λx hx=>h.Bi x (by rw[xaj];exact hx)⟩
 intro h;exact⟨h.os,h.out,h.tape,by have:=h.nd;rw[xaj];exact this,λx hx=>h.Bi x (by rw[xaj]at hx;exact hx)⟩
def aN(H H':Hp):Prop:=∀g w,Own g H w->Own g H' w
theorem aN.refl(H:Hp):aN H H:=λ_ _ h=>h
theorem aN.trans{A B C:Hp}(h:aN A B)(h':aN B C):aN A C:=λg w x=>h' g w (h g w x)
theorem aN.perm{A B:Hp}(p:A.Perm B):aN A B:=λ_ _ h=>h.perm p
theorem aN.right{A B:Hp}:aN (A++B) B:=λ_ _ h=>h.right
theorem aN.left{A B:Hp}:aN (A++B) A:=λ_ _ h=>h.left
theorem aN.tail{x:Nat×Obj}{B:Hp}:aN (x::B) B:=λ_ _ h=>h.tail
theorem aN.frame{A B:Hp}(h:aN A B)(F:Hp):aN (A++F) (B++F):=λ_ _ o=>Own.fm.2 (h _ _ (Own.fm.1 o))
theorem aN.c8{A B:Hp}(h:aN A B)(F:Hp):aN (F++A) (F++B):=(aN.perm xbe).trans ((h.frame F).trans (.perm xbe))
inductive dg(b:Nat)(o o':Obj):Hp->Hp->Prop
 |head (R:Hp):dg b o o' ((b,o)::R) ((b,o')::R)
 |tail {x:Nat×Obj} {R R':Hp} (h:dg b o o' R R'):dg b o o' (x::R) (x::R')
theorem dg.mem{b:Nat}{o o':Obj}{H H':Hp}(h:dg b o o' H H'):(b,o)∈H:=by
 induction h with
 |head R=>simp
 |tail _ ih=>simp[ih]
theorem dg.keys{b:Nat}{o o':Obj}{H H':Hp}(h:dg b o o' H H'):H'.map Prod.fst=H.map Prod.fst:=by
 induction h with
 |head R=>simp
 |tail _ ih=>simp[ih]
theorem dg.NC{b:Nat}{o o':Obj}{H H':Hp}(h:dg b o o' H H')(nd:(H.map Prod.fst).Nodup):∀x∈H',x=(b,o')\/(x∈H/\x.1≠b):=by
 induction h with
 |head R=>
  intro x hx;rcases xal.1 hx with rfl|hx
  ·exact .inl rfl
  refine .inr ⟨by simp[hx],λe=>?_⟩;simp only[xaC,xaX]at nd;exact nd.1 (e▸xaR hx)
 | @tail y R R' h ih=>
  intro x hx;simp only[xaC,xaX]at nd;rcases xal.1 hx with rfl|hx
  ·refine .inr ⟨by simp,λe=>?_⟩;exact nd.1 (e▸xaR (f:=Prod.fst) h.mem)
  rcases ih nd.2 x hx with h1|h1
  ·exact .inl h1
  exact .inr ⟨by simp[h1.1],h1.2⟩
theorem dg.append{b:Nat}{o o':Obj}{C C':Hp}(h:dg b o o' C C')(B:Hp):dg b o o' (C++B) (C'++B):=by
 induction h with
 |head R=>exact .head _
 |tail _ ih=>exact .tail ih
theorem Own.bt{g:Gh}{H H':Hp}{w w':World}{b:Nat}{o o':Obj}(h:Own g H w)(u:dg b o o' H H')
 (hos:w'.os=w.os)(hout:w'.output=w.output)(RW:w'.tape=w.tape)
 (hb:w'.heap[b]? =some o')(hr:∀c,c≠b->w'.heap[c]? =w.heap[c]?):Own g H' w':=
 ⟨hos.trans h.os,hout.trans h.out,RW.trans h.tape,by rw[(u.append g.fr).keys];exact h.nd,λx hx=>by
  rcases(u.append g.fr).NC h.nd x hx with rfl|⟨h1,h2⟩
  ·exact hb
  rw[hr _ h2];exact h.Bi x h1⟩
theorem Own.same{g:Gh}{H:Hp}{w w':World}(h:Own g H w)(hos:w'.os=w.os)(hout:w'.output=w.output)(RW:w'.tape=w.tape)
 (hr:∀(c:Nat) (o:Obj),w.heap[c]? =some o->w'.heap[c]? =some o):Own g H w':=
 ⟨hos.trans h.os,hout.trans h.out,RW.trans h.tape,h.nd,λx hx=>hr _ _ (h.Bi x hx)⟩
theorem Own.drew{g:Gh}{H:Hp}{w:World}(h:Own g H w):Own g H w.drew:=h.same rfl rfl rfl λ_ _ h=>h
theorem Own.z9{g:Gh}{H:Hp}{w:World}(h:Own g H w):Own g H {w with drawn:=w.drawn+1}:=h.drew
theorem Own.lt0{g:Gh}{H:Hp}{w:World}(h:Own g H w){x:Nat×Obj}(hx:x∈H++g.fr):x.1<w.heap.size:=by
 have:=h.Bi x hx;exact(xaU.1 this).1
theorem Own.lt{g:Gh}{H:Hp}{w:World}(h:Own g H w){x:Nat×Obj}(hx:x∈H):x.1<w.heap.size:=h.lt0 (xad _ hx)
theorem Own.S8{g:Gh}{H:Hp}{w:World}(h:Own g H w):w.heap.size∉(H++g.fr).map Prod.fst:=by
 intro hm;obtain⟨x,hx,e⟩:=xao.1 hm;have:=h.lt0 hx;omega
theorem Own.fresh{g:Gh}{H:Hp}{w:World}(h:Own g H w):w.heap.size∉H.map Prod.fst:=λhm=>h.S8 (by rw[xaH];exact xad _ hm)
theorem Own.alloc{g:Gh}{H:Hp}{w:World}(h:Own g H w)(o:Obj):Own g ((w.heap.size,o)::H) (w.alloc o):=by
 refine⟨h.os,h.out,h.tape,?_,?_⟩
 ·rw[xaP,xaC,xaX];exact⟨h.S8,h.nd⟩
 intro x hx;rw[xaP]at hx;rcases xal.1 hx with rfl|hx
 ·show(w.heap.push o)[w.heap.size]? =some o;rw[xdB,xae rfl]
 have:=h.Bi x hx;have hl:=h.lt0 hx;show(w.heap.push o)[x.1]? =some x.2;rw[xdB,xac zO];exact this
theorem Own.cell{g:Gh}{H:Hp}{w:World}(h:Own g H w){b:Nat}{c:Array zV}{T:TypeId}{fz:Nat×Nat}(hm:(b,Obj.cells c T fz)∈H)(off:Nat):
  w.cell? ⟨b,off,none⟩=c[off]? :=by
 have:=h.has _ hm;simp only[World.cell?];simp only at this;rw[this];rfl
theorem Own.frozen{g:Gh}{H:Hp}{w:World}(h:Own g H w){b:Nat}{c:Array zV}{T:TypeId}(hm:(b,Obj.cells c T zZ)∈H)(off:Nat)(sp:Option Nat):
  w.frozen? ⟨b,off,sp⟩=false:=by
 have:=h.has _ hm;simp only at this;simp[World.frozen?,this]
def j4(c:Array zV)(off:Nat):List zV->Array zV
 | []=>c
 |v::r=>j4 (c.setIfInBounds off v) (off+1) r
theorem Own.setCell{g:Gh}{H:Hp}{w:World}(h:Own g H w){b:Nat}{c:Array zV}{T:TypeId}{fz:Nat×Nat}{H':Hp}(off:Nat)(v:zV)
 (u:dg b (.cells c T fz) (.cells (c.setIfInBounds off v) T fz) H H'):Own g H' (w.setCell ⟨b,off,none⟩ v):=by
 refine h.bt u rfl rfl rfl ?_ ?_
 ·have:=h.has _ u.mem;simp only at this;simp[World.setCell,xbY,this]
 intro d hd;simp only[World.setCell];rw[xbY,xac (λe=>hd (Eq.symm e))]
theorem dg.re{b:Nat}{o o':Obj}{H H':Hp}(u:dg b o o' H H')(o₁:Obj):∃H₁,dg b o o₁ H H₁/\dg b o₁ o' H₁ H':=by
 induction u with
 |head R=>exact⟨_,.head R,.head R⟩
 |tail _ ih=>obtain⟨H₁,u1,u2⟩:=ih;exact⟨_,.tail u1,.tail u2⟩
theorem gj{P:Program}{g:Gh}{b:Nat}{T:TypeId}(off:Nat):∀(l:List zV) (i:Nat) (c:Array zV) (H H':Hp) (w:World),Own g H w->
  dg b (.cells c T zZ) (.cells (j4 c (off+i) l) T zZ) H H'->(∀v∈l,v.oneCell'=true)->off+i+l.length<=c.size->
  ∃w',(storeCells ⟨b,off,none⟩ l i).run P w=.ok () w'/\Own g H' w'
 | [],i,c,H,H',w,h,u,_,_=>by
  refine⟨w,rfl,?_⟩;exact h.bt u rfl rfl rfl (h.has _ u.mem) λ_ _=>rfl
 |v::r,i,c,H,H',w,h,u,h1,hs=>by
  obtain⟨H₁,u1,u2⟩:=u.re (.cells (c.setIfInBounds (off+i) v) T zZ);have jg:=h.setCell (off+i) v u1;simp only[xaB]at hs;obtain⟨w',hr,ho⟩:=gj (P:=P) off r (i+1) (c.setIfInBounds (off+i) v) H₁ H' _ jg (by simpa[j4,xcN]using u2) (λx hx=>h1 x (by simp[hx])) zP;refine⟨w',?_,ho⟩;have hc:w.cell? ⟨b,off+i,none⟩=some c[off+i]:=by
   rw[h.cell u.mem,xbC]
  have hf:=h.frozen u.mem (off+i) none;have ha:Addr.add ⟨b,off,none⟩ i=⟨b,off+i,none⟩:=Addr.add_lit _ _ _;simp only[storeCells,Sem.run_bind,ha,run_store P w _ v .plain (h1 v zI),hc,hf,xaS,xa1,Result.andThen_ok,hr]
theorem kJ{P:Program}{g:Gh}{H:Hp}{w:World}(h:Own g H w){b:Nat}{c:Array zV}{T:TypeId}{fz:Nat×Nat}(hm:(b,Obj.cells c T fz)∈H)
 (off n:Nat)(hs:off+n<=c.size):(loadCells ⟨b,off,none⟩ n).run P w=.ok (c.extract off (off+n)) w:=by
 have hl:((c.extract off (off+n)).toList).length=n:=by simp;omega
 have:=run_loadCells_list (P:=P) w ⟨b,off,none⟩ (c.extract off (off+n)).toList (λj v hj=>by
  rw[Addr.add_lit,h.cell hm];have LO:j<n:=by
   have:=(xah.1 hj).1;omega
  rw[xbf,xdj]at hj;rw[xae zO]at hj;exact hj)
 rw[hl]at this;exact this
end Go.Sx
namespace Go.Sx
open Go
abbrev Fr:=Nat->zV
def bt(fr:Fr)(d:Option Nat)(v:zV):Fr:=
 match d with
 |none=>fr
 |some d=>λs=>cond (Nat.beq s d) v (fr s)
def ev(fr:Fr):Operand->zV
 | .tmp t=>fr t
 | .const v=>v
 | .global g=>.pointer (some ⟨g,0,none⟩)
 | .func f=>.func (.func f) #[] #[]
def eH(n:Nat):Option Nat->Bool
 |none=>true
 |some d=>Nat.blt d n
structure cE(ds:List Deferred)(n:Nat)(a:Act)(fr:Fr):Prop where
 defers:a.defers=ds
 size:a.tmps.size=n
 get:∀s,a.tmps.getD s undef=fr s
theorem cE.eval{ds:List Deferred}{n:Nat}{a:Act}{fr:Fr}(h:cE ds n a fr):a.eval=ev fr:=by
 funext x
 cases x<;>simp only[Act.eval,ev];exact h.get _
theorem cE.put{ds:List Deferred}{n:Nat}{a:Act}{fr:Fr}(h:cE ds n a fr){d:Option Nat}(hd:eH n d=true)(v:zV):cE ds n (a.put d v) (bt fr d v):=by
 cases d with
 |none=>exact h
 |some d=>
  have hlt:d<n:=by simpa[eH,Nat.blt_eq]using hd
  refine⟨h.defers,by simp[Act.put,h.size],λs=>?_⟩;simp only[Act.put,bt];have hs:=h.size;by_cases e:s=d
  ·subst e;simp[hs,hlt]
  have e':d≠s:=λx=>e x.symm;have hb:Nat.beq s d=false:=by
   cases hh:Nat.beq s d
   ·rfl
   exact absurd (xaI hh) e
  rw[hb];simp only[xag];have:=h.get s;simpa[xas,xbQ e']using this
def bE(P:Program)(g:Gh)(f:FuncId)(args:Array zV)(H:Hp)(R:Ending->Hp->Prop):Prop:=
 ∀w,Own g H w->Calls P f args w λe w'=>∃H',Own g H' w'/\R e H'
theorem bE.mono{P:Program}{g:Gh}{f:FuncId}{args:Array zV}{H:Hp}{R R':Ending->Hp->Prop}(h:bE P g f args H R)(hr:∀e H',R e H'->R' e H'):
  bE P g f args H R':=λw hw=>(h w hw).mono λe w' ⟨H',o,r⟩=>⟨H',o,hr _ _ r⟩
theorem bE.pre{P:Program}{g:Gh}{f:FuncId}{args:Array zV}{H H':Hp}{R:Ending->Hp->Prop}(h:bE P g f args H' R)(he:aN H H'):
  bE P g f args H R:=λw hw=>h w (he _ _ hw)
theorem bE.post{P:Program}{g:Gh}{f:FuncId}{args:Array zV}{H:Hp}{R R':Ending->Hp->Prop}(h:bE P g f args H R)
 (hr:∀e H',R e H'->∃nH,aN H' nH/\R' e nH):bE P g f args H R':=λw hw=>(h w hw).mono λe w' ⟨H',o,r⟩=>
 let ⟨nH,en,r'⟩:=hr _ _ r;⟨nH,en _ _ o,r'⟩
def ad7(K:zV->Hp->Prop)(KP:List PanicEntry->Hp->Prop):Ending->Hp->Prop
 | .returned v,H=>K v H
 | .panicked ch,H=>KP ch H
 | .outgrown,_=>False
def oE(P:Program)(g:Gh)(K:zV->Hp->Prop)(KP:List PanicEntry->Hp->Prop):Result Next->Prop
 | .ok (.value v) w=>∃H,Own g H w/\K v H
 | .ok .skip w=>∃H,Own g H w/\K undef H
 | .ok (.enter f args) w=>Calls P f args w λe w'=>∃H,Own g H w'/\ad7 K KP e H
 | .halt (.panic v) w=>∃H,Own g H w/\KP [{v,recovered:=false}] H
 |_=>False
def oC(P:Program)(g:Gh)(o:Oper)(ρ:Operand->zV)(H:Hp)(K:zV->Hp->Prop)(KP:List PanicEntry->Hp->Prop):Prop:=
 ∀w,Own g H w->oE P g K KP ((execOp ρ o).run P w)
def OR(H:Hp)(o:Obj)(k:Nat->Hp->Prop):Prop:=∀b,b∉H.map Prod.fst->k b ((b,o)::H)
def aM(c a b:zV)(k:zV->Prop):Prop:=∃t,c=.bool t/\k (cond t a b)
def Ld(H:Hp)(p:zV)(k:zV->Prop):Prop:=
 ∃b off c T fz v,p=.pointer (some ⟨b,off,none⟩)/\(b,Obj.cells c T fz)∈H/\c[off]? =some v/\k v
def az(n:Nat)(H:Hp)(p:zV)(k:zV->Prop):Prop:=
 ∃b off c T fz,p=.pointer (some ⟨b,off,none⟩)/\(b,Obj.cells c T fz)∈H/\off+n<=c.size/\k (.agg (c.extract off (off+n)))
def St(n:Nat)(H:Hp)(p x:zV)(k:Hp->Prop):Prop:=
 ∃b off c T H',p=.pointer (some ⟨b,off,none⟩)/\x.cells.size=n/\off+n<=c.size/\(∀v∈x.cells.toList,v.oneCell'=true)/\
  dg b (.cells c T zZ) (.cells (j4 c off x.cells.toList) T zZ) H H'/\k H'
inductive BK|num|bool|ptr|slice|map|func|str|other
def BA:TypeDesc->BK
 | .bool=>.bool
 | .int _=>.num
 | .pointer _=>.ptr
 | .slice _=>.slice
 | .map _ _=>.map
 | .func _ _ _=>.func
 | .string=>.str
 |_=>.other
def mc(op:BinOp)(k:IntKind)(a b:Int):Option zV:=
 match op with
 | .add=>some (.int k (k.wrap (a+b)))
 | .sub=>some (.int k (k.wrap (a-b)))
 | .mul=>some (.int k (k.wrap (a*b)))
 | .quo=>if b=0 then none else some (.int k (k.wrap (a.tdiv b)))
 | .rem=>if b=0 then none else some (.int k (a.tmod b))
 | .and=>some (.int k (bits .and k a b))
 | .or=>some (.int k (bits .or k a b))
 | .xor=>some (.int k (bits .xor k a b))
 | .andNot=>some (.int k (bits .andNot k a b))
 | .eql=>some (.bool (a==b))
 | .neq=>some (.bool (a !=b))
 | .lss=>some (.bool (decide (a<b)))
 | .leq=>some (.bool (decide (a<=b)))
 | .gtr=>some (.bool (decide (b<a)))
 | .geq=>some (.bool (decide (b<=a)))
 |_=>none
def gu(kd:BK)(op:BinOp)(x y:zV):Option zV:=
 match x with
 | .int k a=>
  match y with
  | .int k' b=>
   match op with
   | .shl=>if b<0 then none else some (.int k (k.wrap (a*2^(min b.toNat k.bits))))
   | .shr=>if b<0 then none else some (.int k (a.fdiv (2^(min b.toNat k.bits))))
   |op=>if k=k' then mc op k a b else none
  |_=>none
 | .bool a=>
  match kd,op,y with
  | .bool,.eql,.bool b=>some (.bool (a==b))
  | .bool,.neq,.bool b=>some (.bool (!(a==b)))
  |_,_,_=>none
 | .string a=>
  match op,y with
  | .eql,.string b=>some (.bool (a.toList==b.toList))
  | .neq,.string b=>some (.bool (!(a.toList==b.toList)))
  |_,_=>none
 | .pointer a=>
  match kd,op,y with
  | .ptr,.eql,.pointer b=>if a.isNone\/b.isNone then some (.bool (a.isNone&&b.isNone))else none
  | .ptr,.neq,.pointer b=>if a.isNone\/b.isNone then some (.bool (!(a.isNone&&b.isNone)))else none
  |_,_,_=>none
 | .slice a n c=>
  match kd,op,y with
  | .slice,.eql,.slice b _ _=>if a.isNone\/b.isNone then some (.bool (a.isNone&&b.isNone))else none
  | .slice,.neq,.slice b _ _=>if a.isNone\/b.isNone then some (.bool (!(a.isNone&&b.isNone)))else none
  |_,_,_=>none
 | .map a=>
  match kd,op,y with
  | .map,.eql,.map b=>if a.isNone\/b.isNone then some (.bool (a.isNone&&b.isNone))else none
  | .map,.neq,.map b=>if a.isNone\/b.isNone then some (.bool (!(a.isNone&&b.isNone)))else none
  |_,_,_=>none
 |_=>none
def ae(kd:BK)(op:BinOp)(x y:zV)(k:zV->Prop):Prop:=∃v,gu kd op x y=some v/\k v
def unV(op:UnOp)(x:zV):Option zV:=
 match op,x with
 | .neg,.int k n=>some (.int k (k.wrap (0-n)))
 | .not,.bool b=>some (.bool !b)
 | .xor,.int k n=>some (.int k (bits .xor k (if k.signed then-1 else k.max) n))
 |_,_=>none
def Un(op:UnOp)(x:zV)(k:zV->Prop):Prop:=∃v,unV op x=some v/\k v
def bc(kd:IntKind)(x:zV)(k:zV->Prop):Prop:=∃j n,x=.int j n/\k (.int kd (kd.wrap n))
def ai(off:Nat)(x:zV)(k:zV->Prop):Prop:=∃b o,x=.pointer (some ⟨b,o,none⟩)/\k (.pointer (some ⟨b,o+off,none⟩))
def B7(off:Nat)(x:zV)(k:zV->Prop):Prop:=∃cs v,x=.agg cs/\cs[off]? =some v/\k v
def Xq(off n:Nat)(x:zV)(k:zV->Prop):Prop:=∃cs,x=.agg cs/\k (.agg (cs.extract off (off+n)))
def av(size:Nat)(x ix:zV)(k:zV->Prop):Prop:=
 ∃b o n c kd i,x=.slice (some ⟨b,o,none⟩) n c/\ix=.int kd i/\0<=i/\i<(n:Int)/\k (.pointer (some ⟨b,o+i.toNat*size,none⟩))
def jb(len size:Nat)(x ix:zV)(k:zV->Prop):Prop:=
 ∃b o kd i,x=.pointer (some ⟨b,o,none⟩)/\ix=.int kd i/\0<=i/\i<(len:Int)/\k (.pointer (some ⟨b,o+i.toNat*size,none⟩))
def VK:Option zV->Option Int
 |none=>some 0
 |some (.int _ n)=>some n
 |_=>none
def NZ(len:Nat):Option zV->Option Int
 |none=>some len
 |some (.int _ n)=>some n
 |_=>none
def gx(size:Nat)(x:zV)(lo hi:Option zV)(k:zV->Prop):Prop:=
 ∃a n c l h,x=.slice a n c/\VK lo=some l/\NZ n hi=some h/\0<=l/\l<=h/\h<=(c:Int)/\
  k (.slice (if c=l.toNat then a else a.map (·.add (l.toNat*size))) (h.toNat-l.toNat) (c-l.toNat))
def Ext(i:Nat)(x:zV)(k:zV->Prop):Prop:=∃vs v,x=.tuple vs/\vs[i]? =some v/\k v
def aR(x:zV)(k:zV->Prop):Prop:=∃a n c,x=.slice a n c/\k (.int .i64 n)
def BH(H:Hp)(x:zV)(k:zV->Prop):Prop:=
 ∃m,x=.map m/\((m=none/\k (.int .i64 0))\/∃b es clock,m=some b/\(b,Obj.map es clock)∈H/\k (.int .i64 es.size))
def Cells(H:Hp)(base:Option Addr)(n:Nat)(cs:Array zV):Prop:=
 match base with
 |none=>cs=#[]
 |some a=>(n=0/\cs=#[])\/(a.spot=none/\∃c T fz,(a.block,Obj.cells c T fz)∈H/\a.off+n<=c.size/\cs=c.extract a.off (a.off+n))
def App(P:Program)(elem size bytes:Nat)(zero:zV)(H:Hp)(s x:zV)(k:zV->Hp->Prop):Prop:=
 ∃base n cap xb m xc olds news,s=.slice base n cap/\x=.slice xb m xc/\Cells H base (n*size) olds/\Cells H xb (m*size) news/\
  news.size=m*size/\olds.size=n*size/\(∀v∈news.toList,v.oneCell'=true)/\
  (n+m<=cap->match base with
   |none=>k (.slice none (n+m) cap) H
   |some a=>∃c T H',a.spot=none/\a.off+n*size+m*size<=c.size/\dg a.block (.cells c T zZ) (.cells (j4 c (a.off+n*size) news.toList) T zZ) H H'/\k (.slice (some a) (n+m) cap) H')/\
  (cap<n+m->(n+m)*bytes<=140737488355328/\(n+m:Nat)<=9223372036854775807/\∀gm,n+m<=gm->
   OR H (.cells (olds++news++Builtin.zeroCells zero.cells (gm-(n+m))) elem zZ) λb H'=>∃nH,aN H' nH/\k (.slice (some ⟨b,0,none⟩) (n+m) gm) nH)
def cZ(elem size bytes:Nat)(zero:zV)(H:Hp)(l c:zV)(k:zV->Hp->Prop):Prop:=
 ∃kl kc ln cn,l=.int kl (ln:Nat)/\c=.int kc (cn:Nat)/\ln<=cn/\(cn:Int)<=9223372036854775807/\cn*bytes<=281474976710656/\
  OR H (.cells (madeCells zero.cells (cn*size)) elem zZ) λb H'=>k (.slice (some ⟨b,0,none⟩) ln cn) H'
def gJ(H:Hp)(k:zV->Hp->Prop):Prop:=OR H (.map #[] 0) λb H'=>k (.map (some b)) H'
def Ms(H:Hp)(m:zV)(es:Array MapEntry):Prop:=(m=.map none/\es=#[])\/∃b clock,m=.map (some b)/\(b,Obj.map es clock)∈H
def df(kd:TypeDesc)(zero:zV)(ok:Bool)(H:Hp)(m key:zV)(k:zV->Prop):Prop:=
 ∃es r,Ms H m es/\Instr.findNow kd key es.toList 0=some r/\
  k (match r with
   |some (_,v)=>cond ok (.tuple #[v,.bool true]) v
   |none=>cond ok (.tuple #[zero,.bool false]) zero)
def aW(kd:TypeDesc)(H:Hp)(m key val:zV)(k:Hp->Prop):Prop:=
 ∃b es clock r,m=.map (some b)/\Instr.findNow kd key es.toList 0=some r/\
  match r with
  |some (i,_)=>(∀e,es[i]? =some e->Instr.sameBits 10000 e.key key=true)/\i<es.size/\∃H',dg b (.map es clock) (.map (es.modify i λe=>{e with key,val}) clock) H H'/\k H'
  |none=>∃H',dg b (.map es clock) (.map (es.push {key,val,born:=clock}) (clock+1)) H H'/\k H'
def oD(kd:TypeDesc)(H:Hp)(m key:zV)(k:Hp->Prop):Prop:=
 (m=.map none/\k H)\/∃b es clock r,m=.map (some b)/\Instr.findNow kd key es.toList 0=some r/\
  match r with
  |some (i,_)=>∃H',dg b (.map es clock) (.map (es.eraseIdxIfInBounds i) clock) H H'/\k H'
  |none=>(b,Obj.map es clock)∈H/\k H
def aT(P:Program)(f:FuncId):Bool:=
 match P.funcs[f]? with
 |none=>false
 |some fn=> !(fn.name== "runtime.NumGoroutine") &&fn.body.isSome
def aa(P:Program)(g:Gh)(f:FuncId)(args:Array zV)(H:Hp)(K:zV->Hp->Prop)(KP:List PanicEntry->Hp->Prop):Prop:=
 bE P g f args H (ad7 K KP)
def aL(P:Program)(g:Gh)(fv:zV)(args:Array zV)(H:Hp)(K:zV->Hp->Prop)(KP:List PanicEntry->Hp->Prop):Prop:=
 ∃f first captured,fv=.func (.func f) first captured/\aT P f=true/\aa P g f (first++args++captured) H K KP
def BJ(P:Program)(kt:TypeId)(x y:zV)(b:Bool):Prop:=∀w,(Op.equal kt x y).run P w=.ok b w
def mD(P:Program)(kt:TypeId)(x:zV):Prop:=∀e w,(Instr.checkKey e 10000 kt x).run P w=.ok () w
def nu(P:Program)(kt:TypeId)(key:zV):List MapEntry->Nat->Option (Nat×zV)->Prop
 | [],_,r=>r=none
 |e::es,i,r=>∃b,BJ P kt key e.key b/\(b=true->r=some (i,e.val))/\(b=false->nu P kt key es (i+1) r)
def kg(P:Program)(kt:TypeId)(zero:zV)(ok:Bool)(H:Hp)(m key:zV)(k:zV->Prop):Prop:=
 ∃es r,Ms H m es/\mD P kt key/\nu P kt key es.toList 0 r/\
  k (match r with
   |some (_,v)=>cond ok (.tuple #[v,.bool true]) v
   |none=>cond ok (.tuple #[zero,.bool false]) zero)
def iO(P:Program)(kt:TypeId)(H:Hp)(m key val:zV)(k:Hp->Prop):Prop:=
 ∃b es clock r,m=.map (some b)/\mD P kt key/\nu P kt key es.toList 0 r/\
  match r with
  |some (i,_)=>(∀e,es[i]? =some e->Instr.sameBits 10000 e.key key=true)/\i<es.size/\∃H',dg b (.map es clock) (.map (es.modify i λe=>{e with key,val}) clock) H H'/\k H'
  |none=>∃H',dg b (.map es clock) (.map (es.push {key,val,born:=clock}) (clock+1)) H H'/\k H'
def sg(P:Program)(kt:TypeId)(H:Hp)(m key:zV)(k:Hp->Prop):Prop:=
 mD P kt key/\((m=.map none/\k H)\/∃b es clock r,m=.map (some b)/\nu P kt key es.toList 0 r/\
  match r with
  |some (i,_)=>∃H',dg b (.map es clock) (.map (es.eraseIdxIfInBounds i) clock) H H'/\k H'
  |none=>(b,Obj.map es clock)∈H/\k H)
def Rng(H:Hp)(x:zV)(k:zV->Hp->Prop):Prop:=
 (x=.map none/\OR H (.mapIter none 0 #[] 0) λb H'=>k (.pointer (some ⟨b,0,none⟩)) H')\/
 ∃m es clock,x=.map (some m)/\(m,Obj.map es clock)∈H/\OR H (.mapIter (some m) clock #[] clock) λb H'=>k (.pointer (some ⟨b,0,none⟩)) H'
def Yp(H:Hp)(it:zV)(k:zV->Hp->Prop):Prop:=
 ∃b mo since seen last,it=.pointer (some ⟨b,0,none⟩)/\(b,Obj.mapIter mo since seen last)∈H/\
  match mo with
  |none=>k (.tuple #[.bool false]) H
  |some m=>∃es clock,(m,Obj.map es clock)∈H/\(∀e∈es.toList,e.born<since/\e.born<last)/\
   (∀e∈es.toList,e.born∉seen->∃H',dg b (.mapIter (some m) since seen last) (.mapIter (some m) since (seen.push e.born) clock) H H'/\k (.tuple #[.bool true,e.key,e.val]) H')/\
   ((∀e∈es.toList,e.born∈seen)->k (.tuple #[.bool false]) H)
def KR(H:Hp)(it:zV)(k:zV->Prop):Prop:=
 ∃b m since seen stamp clock es e,it=.pointer (some ⟨b,0,none⟩)/\(b,Obj.mapIter (some m) since seen clock)∈H/\seen.back?=some stamp/\(m,Obj.map es clock)∈H/\es.find? (·.born==stamp)=some e/\k (.tuple #[e.key,e.val])
def Xn(x y:zV)(k:zV->Prop):Prop:=∃kd a b,x=.int kd a/\y=.int kd b/\k (.int kd (if b>a then b else a))
def aax(x y:zV)(k:zV->Prop):Prop:=∃kd a b,x=.int kd a/\y=.int kd b/\k (.int kd (if b<a then b else a))
def lg(H:Hp)(x:zV)(k:zV->Prop):Prop:=
 ∃base n c,∃bs:List UInt8,x=.slice base n c/\Cells H base n ((bs.map λb=>Value.int .u8 b.toNat).toArray)/\bs.length=n/\k (.string ⟨bs.toArray⟩)
def Yo(x i:zV)(k:zV->Prop):Prop:=∃s kd j b,x=.string s/\i=.int kd j/\0<=j/\s[j.toNat]? =some b/\k (.int .u8 b.toNat)
def aaz(x:zV)(k:zV->Prop):Prop:=∃s,x=.string s/\k (.int .i64 s.size)
def plainKey:TypeDesc->Bool
 | .int _| .string| .bool=>true
 |_=>false
def cU:TypeDesc->Bool
 | .struct _| .array _ _=>true
 |_=>false
end Go.Sx
namespace Go.Sx
open Go
section
variable {P:Program} {g:Gh} {H:Hp} {K:zV->Hp->Prop} {KP:List PanicEntry->Hp->Prop}
theorem dV{t:TypeId}{i:TypeInfo}{z:zV}(hi:P.info? t=some i)(hz:i.zero=some z)(w:World):(zeroValue t).run P w=.ok z w:=by
 simp[zeroValue,typeInfo,hi,hz]
theorem oN{t:TypeId}{d:TypeDesc}(hd:P.underlying t=some d)(w:World):(isAgg t).run P w=.ok (cU d) w:=by
 simp only[isAgg,Sem.run_bind,run_underlying hd,Result.andThen_ok];cases d<;>rfl
theorem run_sizeOf{t:TypeId}{i:TypeInfo}(hi:P.info? t=some i)(w:World):(sizeOf t).run P w=.ok i.size w:=by
 simp[sizeOf,typeInfo,hi]
theorem Ld.run{p:zV}{k:zV->Prop}(h:Ld H p k){w:World}(hw:Own g H w){t:TypeId}{d:TypeDesc}(hd:P.underlying t=some d)(ha:cU d=false):
  ∃v,(Instr.loadAt t p).run P w=.ok v w/\k v:=by
 obtain⟨b,off,c,T,fz,v,rfl,hm,hc,hk⟩:=h;refine⟨v,?_,hk⟩;have:=hw.cell hm off;rw[hc]at this;simp only[Instr.loadAt,Instr.sureAddr,loadVar,Sem.run_bind,Sem.run_pure,Result.andThen_ok,oN hd,ha,Sem.run_ite,xaS,xa1,run_load,this]
theorem az.run{n:Nat}{p:zV}{k:zV->Prop}(h:az n H p k){w:World}(hw:Own g H w){t:TypeId}{d:TypeDesc}(hd:P.underlying t=some d)(ha:cU d=true)
 {i:TypeInfo}(hi:P.info? t=some i)(hn:i.size=n):
  ∃v,(Instr.loadAt t p).run P w=.ok v w/\k v:=by
 obtain⟨b,off,c,T,fz,rfl,hm,hs,hk⟩:=h;refine⟨_,?_,hk⟩;simp only[Instr.loadAt,Instr.sureAddr,loadVar,Sem.run_bind,Sem.run_pure,Result.andThen_ok,oN hd,ha,Sem.run_ite,xa7,run_sizeOf hi,hn,kJ hw hm off n hs]
theorem St.run{n:Nat}{p x:zV}{k:Hp->Prop}(h:St n H p x k){w:World}(hw:Own g H w){t:TypeId}{i:TypeInfo}(hi:P.info? t=some i)(hn:i.size=n):
  ∃w' H',(Instr.storeAt t p x).run P w=.ok () w'/\Own g H' w'/\k H':=by
 obtain⟨b,off,c,T,H',rfl,hx,hs,hv,hu,hk⟩:=h;obtain⟨w',hr,ho⟩:=gj (P:=P) off x.cells.toList 0 c H H' w hw (by simpa using hu) hv zP;refine⟨w',H',?_,ho,hk⟩;simp only[Instr.storeAt,Instr.sureAddr,storeVar,Sem.run_bind,Sem.run_pure,Result.andThen_ok,run_sizeOf hi,hn,hx,ne_eq,not_true,xa1,hr]
theorem RL{op:BinOp}{k:IntKind}{a b:Int}{v:zV}{t:TypeId}(h:mc op k a b=some v)(w:World)(hs:op≠.shl/\op≠.shr):
  (binOp op t (.int k a) (.int k b)).run P w=.ok v w:=by
 cases op<;>simp[mc]at h hs<;>try subst h
 case quo=> 
  obtain⟨h0,rfl⟩:=h;simp[binOp,Op.intDiv,h0]
 case rem=>
  obtain⟨h0,rfl⟩:=h;simp[binOp,Op.intDiv,h0]
 all_goals first
  |simp[binOp,Op.intArith];done
  |simp[binOp,Op.intCmp];done
  |(simp only[binOp_and,binOp_or,binOp_xor,binOp_andNot,intBits_and,intBits_or,intBits_xor,intBits_andNot];rfl)
theorem jD{t:TypeId}{x y:zV}{r:Result Bool}{w:World}(h:∀d,(Op.equalIn (d+1) t x y).run P w=r):(Op.equal t x y).run P w=r:=h 9999
theorem run_eql_bool{t:TypeId}(hd:P.underlying t=some .bool)(a b:Bool)(w:World):(Op.equal t (.bool a) (.bool b)).run P w=.ok (a==b) w:=
 jD λd=>by simp[Op.equalIn,run_underlying hd]
theorem CI{t e:TypeId}(hd:P.underlying t=some (.pointer e))(a b:Option Addr)(hab:a.isNone\/b.isNone)(w:World):(Op.equal t (.pointer a) (.pointer b)).run P w=.ok (a.isNone&&b.isNone) w:=
 jD λd=>by cases a<;>cases b<;>simp at hab<;>simp[Op.equalIn,run_underlying hd]
theorem x7{t e:TypeId}(hd:P.underlying t=some (.slice e))(a b:Option Addr)(n c n' c':Nat)(hab:a.isNone\/b.isNone)(w:World):(Op.equal t (.slice a n c) (.slice b n' c')).run P w=.ok (a.isNone&&b.isNone) w:=
 jD λd=>by cases a<;>cases b<;>simp at hab<;>simp[Op.equalIn,run_underlying hd]
theorem CJ{t e f:TypeId}(hd:P.underlying t=some (.map e f))(a b:Option Nat)(hab:a.isNone\/b.isNone)(w:World):(Op.equal t (.map a) (.map b)).run P w=.ok (a.isNone&&b.isNone) w:=
 jD λd=>by cases a<;>cases b<;>simp at hab<;>simp[Op.equalIn,run_underlying hd]
theorem TK{kd:BK}{op:BinOp}{x y v:zV}{t:TypeId}{d:TypeDesc}(hd:P.underlying t=some d)(hk:BA d=kd)(h:gu kd op x y=some v)(w:World):
  (binOp op t x y).run P w=.ok v w:=by
 cases x<;>simp only[gu]at h<;>try (simp at h;done)
 case int k a=>
  cases y<;>simp only at h<;>try (simp at h;done)
  rename_i k' b;by_cases hs:op=.shl
  ·subst hs;simp only at h;split at h
   ·simp at h
   simp only[xaq]at h;subst h;rename_i hb;simp[binOp,Op.shift,hb]
  by_cases hs':op=.shr
  ·subst hs';simp only at h;split at h
   ·simp at h
   simp only[xaq]at h;subst h;rename_i hb;simp[binOp,Op.shift,hb]
  have h2:(if k=k' then mc op k a b else none)=some v:=by
   cases op<;>first|exact h|exact absurd rfl hs|exact absurd rfl hs'
  split at h2
  ·rename_i e;subst e;exact RL h2 w ⟨hs,hs'⟩
  simp at h2
 case bool a=>
  split at h<;>simp only[xaq,reduceCtorEq]at h;all_goals
   subst h;have:d=.bool:=by cases d<;>simp_all[BA]
   subst this;simp[binOp,run_eql_bool hd]
 case string a=>
  split at h<;>simp only[xaq,reduceCtorEq]at h;all_goals
   subst h;first|rfl|(simp only[binOp,Op.stringOp];rfl)
 case pointer a=>
  split at h<;>try (simp at h;done)
  all_goals
   have:∃e,d=.pointer e:=by cases d<;>simp_all[BA]
   obtain⟨e,rfl⟩:=this;split at h<;>simp only[xaq,reduceCtorEq]at h;subst h;rename_i bb hab;simp[binOp,CI hd _ _ hab]
 case slice a n c=>
  split at h<;>try (simp at h;done)
  all_goals
   have:∃e,d=.slice e:=by cases d<;>simp_all[BA]
   obtain⟨e,rfl⟩:=this;split at h<;>simp only[xaq,reduceCtorEq]at h;subst h;rename_i bb _ _ hab;simp[binOp,x7 hd _ _ _ _ _ _ hab]
 case map a=>
  split at h<;>try (simp at h;done)
  all_goals
   have:∃e f,d=.map e f:=by cases d<;>simp_all[BA]
   obtain⟨e,f,rfl⟩:=this;split at h<;>simp only[xaq,reduceCtorEq]at h;subst h;rename_i bb hab;simp[binOp,CJ hd _ _ hab]
theorem G6{kd:BK}{op:BinOp}{x y v:zV}{t:TypeId}{ox oy:Operand}(h:gu kd op x y=some v):eqGuard op t ox oy x y=pure ():=by
 cases x<;>simp[gu]at h<;>cases op<;>rfl
theorem ae.run{kd:BK}{op:BinOp}{x y:zV}{k:zV->Prop}(h:ae kd op x y k)(w:World){t:TypeId}{d:TypeDesc}{ox oy:Operand}(hd:P.underlying t=some d)(hk:BA d=kd):
  ∃v,(do eqGuard op t ox oy x y;binOp op t x y:Sem zV).run P w=.ok v w/\k v:=by
 obtain⟨v,hv,hkv⟩:=h;refine⟨v,?_,hkv⟩;rw[Sem.run_bind,G6 hv];simp only[Sem.run_pure,Result.andThen_ok];exact TK hd hk hv w
theorem Un.run{op:UnOp}{x:zV}{k:zV->Prop}(h:Un op x k)(w:World):∃v,(Op.unary op x).run P w=.ok v w/\k v:=by
 obtain⟨v,hv,hk⟩:=h;refine⟨v,?_,hk⟩;cases op<;>cases x<;>simp[unV]at hv<;>subst hv;all_goals first|(simp[Op.unary,Op.intArith];done)|rfl
theorem bc.run{kd:IntKind}{x:zV}{k:zV->Prop}(h:bc kd x k)(w:World){src dst:TypeId}{ds dd:TypeDesc}(hs:P.underlying src=some ds)(hd:P.underlying dst=some dd)(hk:dd=.int kd):
  ∃v,(convert src dst x).run P w=.ok v w/\k v:=by
 obtain⟨j,n,rfl,hkv⟩:=h;subst hk;refine⟨_,?_,hkv⟩;simp only[convert,Sem.run_bind,run_underlying hs,run_underlying hd,Result.andThen_ok];cases ds<;>rfl
theorem ai.run{off:Nat}{x:zV}{k:zV->Prop}(h:ai off x k)(w:World){s:TypeId}{fs:Array Field}{f:Nat}{fl:Field}{i:TypeInfo}(hs:P.underlying s=some (.struct fs))(hf:fs[f]? =some fl)
 (hi:P.info? fl.type=some i)(h0:i.size≠0)(ho:fl.offset=off):∃v,(Instr.fieldAt s x f).run P w=.ok v w/\k v:=by
 obtain⟨b,o,rfl,hk⟩:=h;refine⟨_,?_,hk⟩;subst ho;simp[Instr.fieldAt,run_underlying hs,hf,Instr.sureAddr,fieldPlace,run_sizeOf hi,h0,Addr.add_lit]
theorem B7.run{off:Nat}{x:zV}{k:zV->Prop}(h:B7 off x k)(w:World){s:TypeId}{fs:Array Field}{f:Nat}{fl:Field}{d:TypeDesc}(hs:P.underlying s=some (.struct fs))(hf:fs[f]? =some fl)
 (hd:P.underlying fl.type=some d)(ha:cU d=false)(ho:fl.offset=off):∃v,(Instr.field s x f).run P w=.ok v w/\k v:=by
 obtain⟨cs,v,rfl,hc,hk⟩:=h;refine⟨v,?_,hk⟩;subst ho;simp[Instr.field,run_underlying hs,hf,asAgg,part,oN hd,ha,hc]
theorem Xq.run{off n:Nat}{x:zV}{k:zV->Prop}(h:Xq off n x k)(w:World){s:TypeId}{fs:Array Field}{f:Nat}{fl:Field}{d:TypeDesc}{i:TypeInfo}(hs:P.underlying s=some (.struct fs))(hf:fs[f]? =some fl)
 (hd:P.underlying fl.type=some d)(ha:cU d=true)(hi:P.info? fl.type=some i)(hn:i.size=n)(ho:fl.offset=off):∃v,(Instr.field s x f).run P w=.ok v w/\k v:=by
 obtain⟨cs,rfl,hk⟩:=h;refine⟨_,?_,hk⟩;subst ho;subst hn;simp[Instr.field,run_underlying hs,hf,asAgg,part,oN hd,ha,run_sizeOf hi]
theorem av.run{size:Nat}{x ix:zV}{k:zV->Prop}(h:av size x ix k)(w:World){t e:TypeId}{i:TypeInfo}(ht:P.underlying t=some (.slice e))(hi:P.info? e=some i)(hn:i.size=size):
  ∃v,(Instr.indexAt t x ix).run P w=.ok v w/\k v:=by
 obtain⟨b,o,n,c,kd,j,rfl,rfl,h0,h1,hk⟩:=h;refine⟨_,?_,hk⟩;subst hn;simp[Instr.indexAt,run_underlying ht,asIntOf,h0,h1,run_sizeOf hi,Addr.add_lit]
theorem jb.run{len size:Nat}{x ix:zV}{k:zV->Prop}(h:jb len size x ix k)(w:World){t e:TypeId}{i:TypeInfo}(ht:P.underlying t=some (.array len e))(hi:P.info? e=some i)(hn:i.size=size):
  ∃v,(Instr.indexAt t x ix).run P w=.ok v w/\k v:=by
 obtain⟨b,o,kd,j,rfl,rfl,h0,h1,hk⟩:=h;refine⟨_,?_,hk⟩;subst hn;simp[Instr.indexAt,run_underlying ht,asIntOf,h0,h1,run_sizeOf hi,Addr.add_lit,Instr.sureAddr]
theorem gx.run{size:Nat}{x:zV}{lo hi:Option zV}{k:zV->Prop}(h:gx size x lo hi k)(w:World){t e:TypeId}{i:TypeInfo}(ht:P.underlying t=some (.slice e))(hi':P.info? e=some i)(hn:i.size=size):
  ∃v,(Instr.sliceAt t x lo hi none).run P w=.ok v w/\k v:=by
 obtain⟨a,n,c,l,hh,rfl,hl,pN,h0,h1,h2,hk⟩:=h;refine⟨_,?_,hk⟩;subst hn;have bl:∀(kk:IntKind) (z:Int) (y:Nat) (cd:BoundsCode),0<=z->z<=y->(Instr.sliceBound (.int kk z) y cd).run P w=.ok z.toNat w:=by
  intro kk z y cd a1 a2;simp[Instr.sliceBound,asIntOf,a1,a2]
 have fN:∀(m l:Nat),(if m=l then a else a.map (·.add (l*i.size)))=(if m=l then a else a.map λx=>x.add (l*i.size)):=λ_ _=>rfl;have e1:l<=((hh.toNat:Nat):Int):=by omega
 cases lo with
 |none=>
  simp only[VK,xaq]at hl;subst hl;cases hi with
  |none=>
   simp only[NZ,xaq]at pN;subst pN;simp[Instr.sliceAt,run_underlying ht,Instr.slice,Instr.sliceBounds,run_sizeOf hi']
  |some v=>
   cases v<;>simp only[NZ,reduceCtorEq,xaq]at pN;subst pN;simp[Instr.sliceAt,run_underlying ht,Instr.slice,Instr.sliceBounds,run_sizeOf hi',bl _ _ c .sliceAcap zO h2]
 |some vl=>
  cases vl<;>simp only[VK,reduceCtorEq,xaq]at hl;subst hl;cases hi with
  |none=>
   simp only[NZ,xaq]at pN;subst pN;have:=bl ‹_› _ n .sliceB h0 h1;simp[Instr.sliceAt,run_underlying ht,Instr.slice,Instr.sliceBounds,run_sizeOf hi',this]
  |some v=>
   cases v<;>simp only[NZ,reduceCtorEq,xaq]at pN;subst pN;rename_i k1 n1 k2 n2;have b1:=bl k2 n2 c .sliceAcap zO h2;have b2:=bl k1 n1 n2.toNat .sliceB h0 zO;simp[Instr.sliceAt,run_underlying ht,Instr.slice,Instr.sliceBounds,run_sizeOf hi',b1,b2]
theorem Ext.run{i:Nat}{x:zV}{k:zV->Prop}(h:Ext i x k)(w:World):∃v,(Instr.extract x i).run P w=.ok v w/\k v:=by
 obtain⟨vs,v,rfl,hv,hk⟩:=h;exact⟨v,by simp[Instr.extract,hv],hk⟩
theorem aR.run{x:zV}{k:zV->Prop}(h:aR x k)(w:World){t e ty:TypeId}(ht:P.underlying t=some (.slice e)):∃v,(Builtin.len_ #[t] ty #[x]).run P w=.ok v w/\k v:=by
 obtain⟨a,n,c,rfl,hk⟩:=h;exact⟨_,by simp[Builtin.len_,run_underlying ht,goInt],hk⟩
theorem aY{w:World}(hw:Own g H w){b:Nat}{es:Array MapEntry}{clock:Nat}(hm:(b,Obj.map es clock)∈H):(getObj b).run P w=.ok (.map es clock) w:=by
 have:=hw.has _ hm;simp only at this;simp[getObj,Sem.run,this]
theorem BH.run{x:zV}{k:zV->Prop}(h:BH H x k){w:World}(hw:Own g H w){t e e' ty:TypeId}(ht:P.underlying t=some (.map e e')):∃v,(Builtin.len_ #[t] ty #[x]).run P w=.ok v w/\k v:=by
 obtain⟨m,rfl,⟨rfl,hk⟩|⟨b,es,clock,rfl,hm,hk⟩⟩:=h
 ·exact⟨_,by simp[Builtin.len_,run_underlying ht,goInt],hk⟩
 exact⟨_,by simp[Builtin.len_,run_underlying ht,goInt,aY hw hm],hk⟩
end
end Go.Sx
namespace Go.Sx
open Go
section
variable {P:Program} {g:Gh} {H:Hp} {K:zV->Hp->Prop} {KP:List PanicEntry->Hp->Prop}
theorem Cells.run{w:World}(hw:Own g H w){base:Option Addr}{size n cap:Nat}{cs:Array zV}(h:Cells H base (n*size) cs):
  (Builtin.firstCells size n (.slice base n cap)).run P w=.ok cs w:=by
 cases base with
 |none=>simp only[Cells]at h;subst h;simp[Builtin.firstCells]
 |some a=>
  rcases h with⟨hn,rfl⟩|⟨h0,c,T,fz,hm,hs,rfl⟩
  ·simp only[Builtin.firstCells,hn];rfl
  obtain⟨b,o,sp⟩:=a;simp only at h0 hm hs;subst h0;simp only[Builtin.firstCells,kJ hw hm _ _ hs]
theorem App.run{elem size bytes:Nat}{zero:zV}{s x:zV}{k:zV->Hp->Prop}(h:App P elem size bytes zero H s x k){w:World}(hw:Own g H w){t t' ty:TypeId}{i:TypeInfo}
 (ht:P.underlying t=some (.slice elem))(ht':∃e,P.underlying t'=some (.slice e))(hi:P.info? elem=some i)(hz:i.zero=some zero)(hn:i.size=size)(hb:i.bytes=bytes):
  ∃v w' H',(Builtin.append_ #[t,t'] ty #[s,x]).run P w=.ok v w'/\Own g H' w'/\k v H':=by
 obtain⟨base,n,cap,xb,m,xc,olds,news,rfl,rfl,hco,hcn,Wb,hso,hone,hfit,hgrow⟩:=h;obtain⟨e',ht'⟩:=ht';subst hn;subst hb;by_cases hc:n+m<=cap
 ·have hk:=hfit hc;have hnew:=Cells.run (P:=P) (cap:=xc) hw hcn;cases base with
  |none=>
   refine⟨_,w,H,?_,hw,hk⟩;simp[Builtin.append_,run_underlying ht,run_underlying ht',run_sizeOf hi,Builtin.lenOf,hc,hnew]
  |some a=>
   obtain⟨c,T,H',h0,hs,hu,hk⟩:=hk;obtain⟨b,o,sp⟩:=a;simp only at h0 hu hs;subst h0;obtain⟨w',hr,ho⟩:=gj (P:=P) (o+n*i.size) news.toList 0 c H H' w hw (by simpa using hu) hone zP;refine⟨_,w',H',?_,ho,hk⟩;simp[Builtin.append_,run_underlying ht,run_underlying ht',run_sizeOf hi,Builtin.lenOf,hc,hnew,Addr.add_lit,hr]
 obtain⟨agN,h63,hk⟩:=hgrow zO;have jg:=hw.drew;have hnew:=Cells.run (P:=P) (cap:=xc) jg hcn;have hold:=Cells.run (P:=P) (cap:=cap) jg hco;have DO:Builtin.nextslicecap (n+m) cap*i.bytes<=281474976710656:=growslice_fits zO agN;have WI:¬(281474976710656<Builtin.nextslicecap (n+m) cap*i.bytes):=by omega
 have ahn:¬(9223372036854775807<((n:Int)+(m:Int))):=by omega
 obtain⟨nH,wz,hkk⟩:=hk (grownCap w (n+m) cap elem) (by simp only[grownCap,Question.cut];omega) _ jg.fresh;refine⟨_,_,_,?_,wz _ _ (jg.alloc _),hkk⟩;simp[Builtin.append_,run_underlying ht,run_underlying ht',sizeOf,typeInfo,zeroValue,hi,hz,Builtin.lenOf,hc,ahn,WI,Question.forced,hnew,hold,newRow,grownCap]
theorem cZ.run{elem size bytes:Nat}{zero:zV}{l c:zV}{k:zV->Hp->Prop}(h:cZ elem size bytes zero H l c k){w:World}(hw:Own g H w){t:TypeId}{i:TypeInfo}
 (ht:P.underlying t=some (.slice elem))(hi:P.info? elem=some i)(hz:i.zero=some zero)(hn:i.size=size)(hb:i.bytes=bytes):
  ∃v w' H',(Instr.makeSlice t l c).run P w=.ok v w'/\Own g H' w'/\k v H':=by
 obtain⟨kl,kc,ln,cn,rfl,rfl,hlc,cD,hby,hk⟩:=h;subst hn;subst hb;refine⟨_,_,_,?_,hw.alloc _,hk _ hw.fresh⟩;have e1:IntKind.i64.wrap (ln:Int)=ln:=IntWalk.i64_in _ zO;have e2:IntKind.i64.wrap (cn:Int)=cn:=IntWalk.i64_in _ zO;have e3:¬((i.bytes:Int)*(cn:Int)>281474976710656):=by
  have:((cn*i.bytes:Nat):Int)<=281474976710656:=by omega
  rw[Int.mul_comm];push_cast at this;omega
 have e4:¬((cn:Int)<ln):=by omega
 by_cases h0:cn*i.size=0
 ·simp[Instr.makeSlice,run_underlying ht,asInt,asIntOf,typeInfo,hi,e1,e2,e3,e4,sizeOf,zeroValue,hz,newRow,madeCells,h0,show¬((cn:Int)<0)from by omega,show¬((ln:Int)<0)from by omega];have:Array.range 0=#[]:=rfl;simp[this]
 simp[Instr.makeSlice,run_underlying ht,asInt,asIntOf,typeInfo,hi,e1,e2,e3,e4,sizeOf,zeroValue,hz,newRow,madeCells,h0,show¬((cn:Int)<0)from by omega,show¬((ln:Int)<0)from by omega]
theorem Ms.run{m:zV}{es:Array MapEntry}(h:Ms H m es){w:World}(hw:Own g H w):
  (m=.map none/\es=#[])\/∃b clock,m=.map (some b)/\(getObj b).run P w=.ok (.map es clock) w:=by
 rcases h with h|⟨b,clock,hm,hb⟩
 ·exact .inl h
 exact .inr ⟨b,clock,hm,aY hw hb⟩
theorem run_checkKey(e:Bool){t:TypeId}{d:TypeDesc}(hd:P.underlying t=some d)(hp:plainKey d=true)(v:zV)(w:World):(Instr.checkKey e 10000 t v).run P w=.ok () w:=by
 have:∀n,(Instr.checkKey e (n+1) t v).run P w=.ok () w:=λn=>by
  simp only[Instr.checkKey,Sem.run_bind,run_underlying hd,Result.andThen_ok];cases d<;>first|(simp[plainKey]at hp;done)|rfl
 exact this 9999
theorem run_findKey{t:TypeId}{d:TypeDesc}(hd:P.underlying t=some d){key:zV}{es:List MapEntry}{r:Option (Nat×zV)}(h:Instr.findNow d key es 0=some r)(w:World):
  (Instr.findKey t key es).run P w=.ok r w:=by
 simp[Instr.findKey,run_underlying hd,h]
theorem df.run{kd:TypeDesc}{zero:zV}{ok:Bool}{m key:zV}{k:zV->Prop}(h:df kd zero ok H m key k){w:World}(hw:Own g H w){t kt e:TypeId}{i:TypeInfo}
 (ht:P.underlying t=some (.map kt e))(hk:P.underlying kt=some kd)(hp:plainKey kd=true)(hi:P.info? e=some i)(hz:i.zero=some zero):
  ∃v,(Instr.lookup t m key ok).run P w=.ok v w/\k v:=by
 obtain⟨es,r,hm,hf,hkv⟩:=h;have fE:=λb=>run_checkKey (P:=P) b hk hp key w;have pB:=run_findKey (P:=P) hk hf w;refine⟨_,?_,hkv⟩;rcases hm.run (P:=P) hw with⟨rfl,rfl⟩|⟨b,clock,rfl,hg⟩
 ·cases r with
  |none=>cases ok<;>simp[Instr.lookup,run_underlying ht,fE,pB,dV hi hz]
  |some x=>obtain⟨j,v⟩:=x;cases ok<;>simp[Instr.lookup,run_underlying ht,fE,pB]
 ·cases r with
  |none=>cases ok<;>simp[Instr.lookup,run_underlying ht,fE,pB,dV hi hz,hg]
  |some x=>obtain⟨j,v⟩:=x;cases ok<;>simp[Instr.lookup,run_underlying ht,fE,pB,hg]
theorem bU{w:World}(hw:Own g H w){b:Nat}{es:Array MapEntry}{clock:Nat}(es':Array MapEntry)(clock':Nat){H':Hp}(hu:dg b (.map es clock) (.map es' clock') H H'):
  ∃w',(setObj b (.map es' clock')).run P w=.ok () w'/\Own g H' w':=by
 have hm:=hw.has _ hu.mem;simp only at hm;refine⟨{w with heap:=w.heap.setIfInBounds b (.map es' clock')},by simp[setObj,Sem.run,hm],?_⟩;have hlt:=hw.lt hu.mem;refine hw.bt hu rfl rfl rfl ?_ ?_
 ·simp only at hlt;simp[hlt]
 intro c hc;rw[xcr,xac (λe=>hc (Eq.symm e))]
theorem aW.run{kd:TypeDesc}{m key val:zV}{k:Hp->Prop}(h:aW kd H m key val k){w:World}(hw:Own g H w){t kt e:TypeId}
 (ht:P.underlying t=some (.map kt e))(hk:P.underlying kt=some kd)(hp:plainKey kd=true):
  ∃w' H',(Instr.mapUpdate t m key val).run P w=.ok () w'/\Own g H' w'/\k H':=by
 obtain⟨b,es,clock,r,rfl,hf,hr⟩:=h;have fE:=λb=>run_checkKey (P:=P) b hk hp key w;have pB:=run_findKey (P:=P) hk hf w;cases r with
 |none=>
  obtain⟨H',hu,hkk⟩:=hr;obtain⟨w',hs,ho⟩:=bU (P:=P) hw _ _ hu;refine⟨w',H',?_,ho,hkk⟩;simp[Instr.mapUpdate,run_underlying ht,aY hw hu.mem,fE,pB,hs]
 |some x=>
  obtain⟨j,v⟩:=x;obtain⟨hsame,hj,H',hu,hkk⟩:=hr;obtain⟨w',hs,ho⟩:=bU (P:=P) hw _ _ hu;refine⟨w',H',?_,ho,hkk⟩;have hsb:=hsame es[j] (xbC hj);simp[Instr.mapUpdate,run_underlying ht,aY hw hu.mem,fE,pB,hj,Instr.keyThatStays,hsb,hs]
theorem oD.run{kd:TypeDesc}{m key:zV}{k:Hp->Prop}(h:oD kd H m key k){w:World}(hw:Own g H w){t kt e ty:TypeId}{as:Array TypeId}(has:as[0]? =some t)
 (ht:P.underlying t=some (.map kt e))(hk:P.underlying kt=some kd)(hp:plainKey kd=true):
  ∃w' H',(Builtin.delete_ as ty #[m,key]).run P w=.ok (.tuple #[]) w'/\Own g H' w'/\k H':=by
 have fE:=λb=>run_checkKey (P:=P) b hk hp key w;rcases h with⟨rfl,hkk⟩|⟨b,es,clock,r,rfl,hf,hr⟩
 ·exact⟨w,H,by simp[Builtin.delete_,has,run_underlying ht,fE],hw,hkk⟩
 have pB:=run_findKey (P:=P) hk hf w;cases r with
 |none=>
  obtain⟨hm,hkk⟩:=hr;have hu:∃H',dg b (.map es clock) (.map es clock) H H'/\H'=H:=by
   clear hkk hf pB hw;induction H with
   |nil=>simp at hm
   |cons x R ih=>
    rcases xal.1 hm with e|hm'
    ·subst e;exact⟨_,.head _,rfl⟩
    obtain⟨H',u,rfl⟩:=ih hm';exact⟨_,.tail u,rfl⟩
  obtain⟨H',hu,rfl⟩:=hu;obtain⟨w',hs,ho⟩:=bU (P:=P) hw _ _ hu;exact⟨w',_,by simp[Builtin.delete_,has,run_underlying ht,aY hw hm,fE,pB,hs],ho,hkk⟩
 |some x=>
  obtain⟨j,v⟩:=x;obtain⟨H',hu,hkk⟩:=hr;obtain⟨w',hs,ho⟩:=bU (P:=P) hw _ _ hu;exact⟨w',_,by simp[Builtin.delete_,has,run_underlying ht,aY hw hu.mem,fE,pB,hs],ho,hkk⟩
theorem Ec{kd:TypeDesc}(h:cU kd=true)(key:zV)(es:List MapEntry)(i:Nat):Instr.findNow kd key es i=if es=[]then some none else none:=by
 cases es with
 |nil=>rfl
 |cons e r=>
  simp only[Instr.findNow,reduceCtorEq,xa1];cases kd<;>simp[cU]at h<;>rfl
theorem nQ{kt:TypeId}{key:zV}:∀{es:List MapEntry} {i:Nat} {r:Option (Nat×zV)},nu P kt key es i r->∀w,(Instr.findAsking kt key es i).run P w=.ok r w
 | [],i,r,h,w=>by simp only[nu]at h;subst h;rfl
 |e::es,i,r,h,w=>by
  obtain⟨b,he,h1,h2⟩:=h;simp only[Instr.findAsking,Sem.run_bind,he w,Result.andThen_ok];cases b
  ·simp only[xaS,xa1];exact nQ (h2 rfl) w
  simp only[xa7,h1 rfl,Sem.run_pure]
theorem gM{t:TypeId}{d:TypeDesc}(hd:P.underlying t=some d)(ha:cU d=true){key:zV}{es:List MapEntry}{r:Option (Nat×zV)}(h:nu P t key es 0 r)(w:World):
  (Instr.findKey t key es).run P w=.ok r w:=by
 simp only[Instr.findKey,Sem.run_bind,run_underlying hd,Result.andThen_ok,Ec ha];cases es with
 |nil=>simp only[nu]at h;subst h;simp
 |cons e es=>simp only[reduceCtorEq,xa1];exact nQ h w
theorem kg.run{zero:zV}{ok:Bool}{m key:zV}{k:zV->Prop}{t kt e:TypeId}{kd:TypeDesc}(h:kg P kt zero ok H m key k){w:World}(hw:Own g H w){i:TypeInfo}
 (ht:P.underlying t=some (.map kt e))(hk:P.underlying kt=some kd)(hp:cU kd=true)(hi:P.info? e=some i)(hz:i.zero=some zero):
  ∃v,(Instr.lookup t m key ok).run P w=.ok v w/\k v:=by
 obtain⟨es,r,hm,hc,hf,hkv⟩:=h;have fE:=λb=>hc b w;have pB:=gM (P:=P) hk hp hf w;refine⟨_,?_,hkv⟩;rcases hm.run (P:=P) hw with⟨rfl,rfl⟩|⟨b,clock,rfl,hg⟩
 ·cases r with
  |none=>cases ok<;>simp[Instr.lookup,run_underlying ht,fE,pB,dV hi hz]
  |some x=>obtain⟨j,v⟩:=x;cases ok<;>simp[Instr.lookup,run_underlying ht,fE,pB]
 ·cases r with
  |none=>cases ok<;>simp[Instr.lookup,run_underlying ht,fE,pB,dV hi hz,hg]
  |some x=>obtain⟨j,v⟩:=x;cases ok<;>simp[Instr.lookup,run_underlying ht,fE,pB,hg]
theorem iO.run{m key val:zV}{k:Hp->Prop}{t kt e:TypeId}{kd:TypeDesc}(h:iO P kt H m key val k){w:World}(hw:Own g H w)
 (ht:P.underlying t=some (.map kt e))(hk:P.underlying kt=some kd)(hp:cU kd=true):
  ∃w' H',(Instr.mapUpdate t m key val).run P w=.ok () w'/\Own g H' w'/\k H':=by
 obtain⟨b,es,clock,r,rfl,hc,hf,hr⟩:=h;have fE:=λb=>hc b w;have pB:=gM (P:=P) hk hp hf w;cases r with
 |none=>
  obtain⟨H',hu,hkk⟩:=hr;obtain⟨w',hs,ho⟩:=bU (P:=P) hw _ _ hu;refine⟨w',H',?_,ho,hkk⟩;simp[Instr.mapUpdate,run_underlying ht,aY hw hu.mem,fE,pB,hs]
 |some x=>
  obtain⟨j,v⟩:=x;obtain⟨hsame,hj,H',hu,hkk⟩:=hr;obtain⟨w',hs,ho⟩:=bU (P:=P) hw _ _ hu;refine⟨w',H',?_,ho,hkk⟩;have hsb:=hsame es[j] (xbC hj);simp[Instr.mapUpdate,run_underlying ht,aY hw hu.mem,fE,pB,hj,Instr.keyThatStays,hsb,hs]
theorem dg.same{b:Nat}{o:Obj}{H:Hp}(hm:(b,o)∈H):dg b o o H H:=by
 induction H with
 |nil=>simp at hm
 |cons x R ih=>
  rcases xal.1 hm with e|hm'
  ·subst e;exact .head _
  exact .tail (ih hm')
theorem sg.run{m key:zV}{k:Hp->Prop}{t kt e ty:TypeId}{kd:TypeDesc}{as:Array TypeId}(h:sg P kt H m key k){w:World}(hw:Own g H w)(has:as[0]? =some t)
 (ht:P.underlying t=some (.map kt e))(hk:P.underlying kt=some kd)(hp:cU kd=true):
  ∃w' H',(Builtin.delete_ as ty #[m,key]).run P w=.ok (.tuple #[]) w'/\Own g H' w'/\k H':=by
 obtain⟨hc,h⟩:=h;have fE:=λb=>hc b w;rcases h with⟨rfl,hkk⟩|⟨b,es,clock,r,rfl,hf,hr⟩
 ·exact⟨w,H,by simp[Builtin.delete_,has,run_underlying ht,fE],hw,hkk⟩
 have pB:=gM (P:=P) hk hp hf w;cases r with
 |none=>
  obtain⟨hm,hkk⟩:=hr;obtain⟨w',hs,ho⟩:=bU (P:=P) hw _ _ (dg.same hm);exact⟨w',_,by simp[Builtin.delete_,has,run_underlying ht,aY hw hm,fE,pB,hs],ho,hkk⟩
 |some x=>
  obtain⟨j,v⟩:=x;obtain⟨H',hu,hkk⟩:=hr;obtain⟨w',hs,ho⟩:=bU (P:=P) hw _ _ hu;exact⟨w',_,by simp[Builtin.delete_,has,run_underlying ht,aY hw hu.mem,fE,pB,hs],ho,hkk⟩
theorem Rng.run{x:zV}{k:zV->Hp->Prop}(h:Rng H x k){w:World}(hw:Own g H w){t kt e:TypeId}(ht:P.underlying t=some (.map kt e)):
  ∃v w' H',(Instr.range t x).run P w=.ok v w'/\Own g H' w'/\k v H':=by
 rcases h with⟨rfl,hk⟩|⟨m,es,clock,rfl,hm,hk⟩
 ·refine⟨_,_,_,?_,hw.alloc _,hk _ hw.fresh⟩;simp[Instr.range,run_underlying ht]
 refine⟨_,_,_,?_,hw.alloc _,hk _ hw.fresh⟩;simp[Instr.range,run_underlying ht,aY hw hm]
theorem ni{w:World}(hw:Own g H w){b:Nat}{mo:Option Nat}{since last:Nat}{seen:Array Nat}(hm:(b,Obj.mapIter mo since seen last)∈H):(getObj b).run P w=.ok (.mapIter mo since seen last) w:=by
 have:=hw.has _ hm;simp only at this;simp[getObj,Sem.run,this]
theorem uh{w:World}(hw:Own g H w){b:Nat}{mo mo':Option Nat}{since last since' last':Nat}{seen seen':Array Nat}{H':Hp}(hu:dg b (.mapIter mo since seen last) (.mapIter mo' since' seen' last') H H'):
  ∃w',(setObj b (.mapIter mo' since' seen' last')).run P w=.ok () w'/\Own g H' w':=by
 have hm:=hw.has _ hu.mem;simp only at hm;refine⟨{w with heap:=w.heap.setIfInBounds b (.mapIter mo' since' seen' last')},by simp[setObj,Sem.run,hm],?_⟩;have hlt:=hw.lt hu.mem;refine hw.bt hu rfl rfl rfl ?_ ?_
 ·simp only at hlt;simp[hlt]
 intro c hc;rw[xcr,xac (λe=>hc (Eq.symm e))]
theorem KR.run{it:zV}{k:zV->Prop}(h:KR H it k){w:World}(hw:Own g H w):∃v,(Instr.entry it).run P w=.ok v w/\k v:=by
 obtain⟨b,m,since,seen,stamp,clock,es,e,rfl,hb,hs,hm,hf,hk⟩:=h;refine⟨_,?_,hk⟩;simp[Instr.entry,ni (P:=P) hw hb,hs,aY (P:=P) hw hm,hf]
theorem uj(n:Nat)(hn:0<n){w:World}:∃i w',(choose (.mapNext n)).run P w=.ok i w'/\i<n/\(w'=w\/w'=w.drew):=by
 by_cases h:n<=1
 ·exact⟨0,w,by simp[choose,Sem.run,Question.forced,h],hn,.inl rfl⟩
 exact⟨_,_,by simp only[choose,Sem.run,Question.forced,h,xdq,xaS,xa1];rfl,xbG _ hn,.inr rfl⟩
theorem Yp.run{it:zV}{k:zV->Hp->Prop}(h:Yp H it k){w:World}(hw:Own g H w){ty:TypeId}:
  ∃v w' H',(Instr.next it false ty).run P w=.ok v w'/\Own g H' w'/\k v H':=by
 obtain⟨b,mo,since,seen,last,rfl,hb,h⟩:=h;have hgi:=ni (P:=P) hw hb;cases mo with
 |none=>exact⟨_,w,H,by simp[Instr.next,hgi],hw,h⟩
 |some m=>
  obtain⟨es,clock,hm,SB,DQ,acp⟩:=h;have hgm:=aY (P:=P) hw hm;have acC:(!seen.isEmpty&& !es.isEmpty&&es.all (λe=>decide (e.born≥last)))=false:=by
   cases he:es.isEmpty
   ·have hne:es≠#[]:=by intro e;rw[e]at he;simp at he
    have:es.all (λe=>decide (e.born≥last))=false:=by
     rw[<-xeo,Array.all_eq_true];intro aJ;have h0:0<es.size:=Array.size_pos_iff.2 hne;have:=aJ 0 h0;have h2:=(SB es[0] zI).2;simp only[ge_iff_le,xaJ]at this;omega
    rw[this];simp
   simp
  have hold:((es.filter λe=> !seen.contains e.born).filter λe=>decide (e.born<since))=es.filter λe=> !seen.contains e.born:=by
   rw[Array.filter_eq_self];intro e he;have:=(xep.1 he).1;exact xam (SB e (by simpa using this)).1
  have hnew:((es.filter λe=> !seen.contains e.born).filter λe=>decide (e.born≥since))=#[]:=by
   rw[Array.filter_eq_empty_iff];intro e he;have:=(xep.1 he).1;have:=(SB e (by simpa using this)).1;simp only[ge_iff_le,xaJ];omega
  generalize hleft:(es.filter λe=> !seen.contains e.born)=left at hold hnew;have hrun:∀(rest:Sem zV),(Instr.next (.pointer (some ⟨b,0,none⟩)) false ty).run P w=((choose (.mapNext (((if left.isEmpty then#[none]else#[])++left.map some).size))).run P w).andThen λi w=>(Sem.run P (match((if left.isEmpty then#[none]else#[])++left.map some)[i]? with
    |some (some e)=>do setObj b (.mapIter (some m) since (seen.push e.born) clock);pure (.tuple #[.bool true,e.key,e.val])
    |some none=>pure (.tuple #[.bool false])
    |none=>stuck "Next: no such candidate" :Sem zV) w):=by
   intro _;simp only[Instr.next,Sem.run_bind,hgi,Result.andThen_ok,hgm,acC,xaS,xa1,hleft,hold,hnew,xdI,Sem.run_pure];rfl
  rw[hrun (pure undef)];by_cases ZP:left=#[]
  ·subst ZP;simp only[Array.isEmpty_empty,xa7,xew,xdI];refine⟨_,w,H,?_,hw,acp λe he=>?_⟩
   ·simp[choose,Sem.run,Question.forced]
   have:=Array.filter_eq_empty_iff.1 hleft e (by simpa using he);simpa using this
  have hne:left.isEmpty=false:=by simpa using ZP
  have hpos:0<left.size:=Array.size_pos_iff.2 ZP;simp only[hne,xaS,xa1,xdd,Array.size_map];obtain⟨i,w1,hc,hi,jg⟩:=uj (P:=P) (w:=w) left.size hpos;rw[hc];simp only[Result.andThen_ok];have gT:(left.map some)[i]? =some (some left[i]):=by simp[hi]
  simp only[gT];have hmem:left[i]∈es.filter λe=> !seen.contains e.born:=by rw[hleft];exact Array.getElem_mem hi
  obtain⟨Gz,Up⟩:=xep.1 hmem;obtain⟨H',hu,hk⟩:=DQ left[i] (by simpa using Gz) (by simpa using Up);have ye:Own g H w1:=by rcases jg with rfl|rfl;exact hw;exact hw.drew
  obtain⟨w2,hs,tM⟩:=uh (P:=P) ye hu;exact⟨_,w2,H',by simp[hs],tM,hk⟩
end
end Go.Sx
namespace Go.Sx
open Go
section
variable {P:Program} {g:Gh} {H:Hp} {K:zV->Hp->Prop} {KP:List PanicEntry->Hp->Prop}
def ad3(x:zV):Option zV:=
 match x with
 | .pointer (some a)=>some (.pointer (some a))
 | .func (.func f) a b=>some (.func (.func f) a b)
 | .iface t v=>some (.iface t v)
 |_=>none
def Nil(x:zV)(k:zV->Prop):Prop:=∃v,ad3 x=some v/\k v
def PMk(fn:Fn)(a b:List zV)(k:zV->Prop):Prop:=k (.func fn a.toArray b.toArray)
def Build(P:Program)(t:TypeId)(parts:List (Nat×zV))(k:zV->Prop):Prop:=∃v,(∀w,(Instr.build t parts.toArray).run P w=.ok v w)/\k v
def jM(P:Program)(g:Gh)(o:Oper)(ρ:Operand->zV)(H:Hp)(k:zV->Prop):Prop:=
 ∃v,(∀w,Own g H w->(execOp ρ o).run P w=.ok (.value v) w)/\k v
def dL(P:Program)(t:TypeId):Option Nat:=match P.info? t with|some i=>some i.size|none=>none
def fK(P:Program)(t:TypeId):Option zV:=match P.info? t with|some i=>i.zero|none=>none
def wX(P:Program)(t:TypeId):Option Nat:=match P.info? t with|some i=>some i.bytes|none=>none
def AZ(P:Program)(g:Gh)(o:Oper)(ρ:Operand->zV)(H:Hp)(k:zV->Prop):Prop:=
 match o.op with
 | .move x=>k (ρ x)
 | .assign x=>k (ρ x)
 | .pick c a b=>aM (ρ c) (ρ a) (ρ b) k
 | .load t a=>
  match P.underlying t,dL P t with
  |some d,some n=>cond (cU d) (az n H (ρ a) k) (Ld H (ρ a) k)
  |_,_=>False
 | .nilCheck x=>Nil (ρ x) k
 | .binOp op t x y _=>
  match P.underlying t with
  |some d=>match BA d with
   | .other=>jM P g o ρ H k
   |bk=>ae bk op (ρ x) (ρ y) k
  |none=>False
 | .unOp op _ x=>Un op (ρ x) k
 | .convert s d x=>
  match P.underlying s,P.underlying d with
  |some _,some (.int kd)=>bc kd (ρ x) k
  |some (.slice e),some .string=>match P.underlying e with
   |some (.int .u8)=>lg H (ρ x) k
   |_=>jM P g o ρ H k
  |_,_=>jM P g o ρ H k
 | .index t x i=>
  match P.underlying t with
  |some .string=>Yo (ρ x) (ρ i) k
  |_=>jM P g o ρ H k
 | .fieldAddr s x f=>
  match P.underlying s with
  |some (.struct fs)=>match fs[f]? with
   |some fl=>match dL P fl.type with
    |some (_+1)=>ai fl.offset (ρ x) k
    |_=>False
   |none=>False
  |_=>False
 | .field s x f=>
  match P.underlying s with
  |some (.struct fs)=>match fs[f]? with
   |some fl=>match P.underlying fl.type,dL P fl.type with
    |some d,some n=>cond (cU d) (Xq fl.offset n (ρ x) k) (B7 fl.offset (ρ x) k)
    |_,_=>False
   |none=>False
  |_=>False
 | .indexAddr t x i=>
  match P.underlying t with
  |some (.slice e)=>match dL P e with
   |some n=>av n (ρ x) (ρ i) k
   |none=>False
  |some (.array len e)=>match dL P e with
   |some n=>jb len n (ρ x) (ρ i) k
   |none=>False
  |_=>False
 | .slice t x lo hi none=>
  match P.underlying t with
  |some (.slice e)=>match dL P e with
   |some n=>gx n (ρ x) (lo.map ρ) (hi.map ρ) k
   |none=>False
  |_=>jM P g o ρ H k
 | .extract t i=>Ext i (ρ t) k
 | .lookup t m key ok=>
  match P.underlying t with
  |some (.map kt e)=>match P.underlying kt,fK P e with
   |some kd,some z=>cond (plainKey kd) (df kd z ok H (ρ m) (ρ key) k) (cond (cU kd) (kg P kt z ok H (ρ m) (ρ key) k) (jM P g o ρ H k))
   |_,_=>False
  |_=>False
 | .makeFunc fn a b=>PMk fn (a.toList.map ρ) (b.toList.map ρ) k
 | .build t parts=>Build P t (parts.toList.map λp=>(p.1,ρ p.2)) k
 | .makeInterface t x=>
  match P.underlying t with
  |some (.interface _)=>False
  |some _=>k (.iface t (ρ x))
  |none=>False
 | .call c=>
  match c.callee with
  | .builtin .len=>
   match c.args.toList,c.argTypes.toList with
   | [x],[t]=>match P.underlying t with
    |some (.slice _)=>aR (ρ x) k
    |some (.map _ _)=>BH H (ρ x) k
    |some .string=>aaz (ρ x) k
    |_=>jM P g o ρ H k
   |_,_=>False
  | .builtin .max=>match c.args.toList,c.argTypes.toList with
   | [x,y],[t,_]=>match P.underlying t with
    |some (.int _)=>Xn (ρ x) (ρ y) k
    |_=>jM P g o ρ H k
   |_,_=>jM P g o ρ H k
  | .builtin .min=>match c.args.toList,c.argTypes.toList with
   | [x,y],[t,_]=>match P.underlying t with
    |some (.int _)=>aax (ρ x) (ρ y) k
    |_=>jM P g o ρ H k
   |_,_=>jM P g o ρ H k
  | .builtin _=>jM P g o ρ H k
  |_=>False
 |_=>jM P g o ρ H k
theorem mapList{α β:Type}(f:α->β)(a:Array α):(a.toList.map f).toArray=a.map f:=by rw[<-xdX,xdv]
theorem ad0{α:Type}{a:Array α}{x:α}(h:a.toList=[x]):a=#[x]:=by cases a;simp_all
theorem EC{α:Type}{a:Array α}{x y:α}(h:a.toList=[x,y]):a=#[x,y]:=by cases a;simp_all
theorem Ld.fix{p:zV}{k:zV->Prop}(h:Ld H p k):∃v,k v/\Ld H p (· =v):=by
 obtain⟨b,off,c,T,fz,v,h1,h2,h3,hk⟩:=h;exact⟨v,hk,b,off,c,T,fz,v,h1,h2,h3,rfl⟩
theorem az.fix{n:Nat}{p:zV}{k:zV->Prop}(h:az n H p k):∃v,k v/\az n H p (· =v):=by
 obtain⟨b,off,c,T,fz,h1,h2,h3,hk⟩:=h;exact⟨_,hk,b,off,c,T,fz,h1,h2,h3,rfl⟩
theorem df.fix{kd:TypeDesc}{zero:zV}{ok:Bool}{m key:zV}{k:zV->Prop}(h:df kd zero ok H m key k):∃v,k v/\df kd zero ok H m key (· =v):=by
 obtain⟨es,r,h1,h2,hk⟩:=h;exact⟨_,hk,es,r,h1,h2,rfl⟩
theorem BH.fix{x:zV}{k:zV->Prop}(h:BH H x k):∃v,k v/\BH H x (· =v):=by
 obtain⟨m,h1,⟨h2,hk⟩|⟨b,es,clock,h2,h3,hk⟩⟩:=h
 ·exact⟨_,hk,m,h1,.inl ⟨h2,rfl⟩⟩
 exact⟨_,hk,m,h1,.inr ⟨b,es,clock,h2,h3,rfl⟩⟩
theorem kg.fix{kt:TypeId}{zero:zV}{ok:Bool}{m key:zV}{k:zV->Prop}(h:kg P kt zero ok H m key k):∃v,k v/\kg P kt zero ok H m key (· =v):=by
 obtain⟨es,r,h1,h2,h3,hk⟩:=h;exact⟨_,hk,es,r,h1,h2,h3,rfl⟩
theorem G0{F:zV->ByteArray->Sem (ForInStep ByteArray)}(hF:∀(b:UInt8) s,F (.int .u8 b.toNat) s=pure (.yield (s.push b))){l:List UInt8}(s:ByteArray)(w:World):
  (forIn (l.map λb=>Value.int .u8 b.toNat) s F).run P w=.ok (⟨s.data++l.toArray⟩:ByteArray) w:=by
 induction l generalizing s with
 |nil=>simp
 |cons b r ih=>
  simp only[xaC,xex,hF,Sem.run_bind,Sem.run_pure,Result.andThen_ok];rw[ih];congr 1;simp[ByteArray.push]
theorem lg.run{x:zV}{k:zV->Prop}(h:lg H x k){w:World}(hw:Own g H w):∃v,(Conv.bytesToString x).run P w=.ok v w/\k v:=by
 obtain⟨base,n,c,bs,rfl,hc,hn,hk⟩:=h;refine⟨_,?_,hk⟩;cases base with
 |none=>
  simp only[Cells]at hc;have:bs=[]:=by simpa using xce Array.size hc
  subst this;rfl
 |some a=>
  have:=Cells.run (P:=P) (size:=1) (cap:=c) hw (by rw[xbV];exact hc);simp only[Builtin.firstCells,xbV]at this;simp only[Conv.bytesToString,Sem.run_bind,this,Result.andThen_ok];rw[List.forIn_toArray,G0 (P:=P) (l:=bs) (λb s=>by simp)];have e:ByteArray.empty.data=#[]:=rfl;simp[e]
theorem lg.fix{x:zV}{k:zV->Prop}(h:lg H x k):∃v,k v/\lg H x (· =v):=by
 obtain⟨base,n,c,bs,h1,h2,h3,hk⟩:=h;exact⟨_,hk,base,n,c,bs,h1,h2,h3,rfl⟩
def Reads(P:Program)(g:Gh)(o:Oper)(ρ:Operand->zV)(H:Hp)(k:zV->Prop):Prop:=
 ∃v,k v/\∀w,Own g H w->(execOp ρ o).run P w=.ok (.value v) w
theorem Reads.mk{o:Oper}{ρ:Operand->zV}{k:zV->Prop}{s:Sem zV}(he:execOp ρ o=(do pure (.value (<-s))))(h:∃v,k v/\∀w,Own g H w->s.run P w=.ok v w):Reads P g o ρ H k:=by
 obtain⟨v,hk,hr⟩:=h;refine⟨v,hk,λw hw=>?_⟩;rw[he];simp only[Sem.run_bind,hr w hw,Result.andThen_ok,Sem.run_pure]
theorem jM.reads{o:Oper}{ρ:Operand->zV}{k:zV->Prop}(h:jM P g o ρ H k):Reads P g o ρ H k:=let ⟨v,h1,h2⟩:=h;⟨v,h2,h1⟩
theorem uni{s:Sem zV}{k:zV->Prop}{C:(zV->Prop)->Prop}(agz:∃v,k v/\C (· =v))(hrun:∀(k:zV->Prop),C k->∀w,Own g H w->∃v,s.run P w=.ok v w/\k v):
  ∃v,k v/\∀w,Own g H w->s.run P w=.ok v w:=by
 obtain⟨v,hk,hc⟩:=agz;refine⟨v,hk,λw hw=>?_⟩;obtain⟨u,hr,rfl⟩:=hrun _ hc w hw;exact hr
theorem bG{t:TypeId}{n:Nat}(h:dL P t=some n):∃i,P.info? t=some i/\i.size=n:=by
 unfold dL at h;split at h
 ·rename_i i hi;exact⟨i,hi,by simpa using h⟩
 simp at h
theorem cJ{t:TypeId}{z:zV}(h:fK P t=some z):∃i,P.info? t=some i/\i.zero=some z:=by
 unfold fK at h;split at h
 ·rename_i i hi;exact⟨i,hi,by simpa using h⟩
 simp at h
theorem lT{o:Oper}{ρ:Operand->zV}{k:zV->Prop}(h:AZ P g o ρ H k):Reads P g o ρ H k:=by
 obtain⟨dst,op,type,pos,after,guard⟩:=o;cases op<;>simp only[AZ]at h
 case move x=>exact⟨_,h,λw _=>rfl⟩
 case assign x=>exact⟨_,h,λw _=>rfl⟩
 case pick c a b=>
  obtain⟨t,hc,hk⟩:=h;refine⟨_,hk,λw _=>?_⟩;cases t<;>simp[execOp,hc,asBool]
 case load t a=>
  split at h
  ·rename_i d n hd hn;obtain⟨i,hi,hin⟩:=bG hn;refine Reads.mk (s:=Instr.loadAt t (ρ a)) rfl ?_;cases ha:cU d<;>simp only[ha,xap,xag]at h
   ·exact uni h.fix λk hk w hw=>hk.run hw hd ha
   exact uni h.fix λk hk w hw=>hk.run hw hd ha hi hin
  exact h.elim
 case nilCheck x=>
  obtain⟨v,hv,hk⟩:=h;refine⟨v,hk,λw _=>?_⟩;unfold ad3 at hv;simp only[execOp];split at hv<;>simp only[xaq,reduceCtorEq]at hv<;>subst hv<;>simp_all
 case binOp op t x y yt=>
  split at h
  ·rename_i d hd;split at h
   ·exact h.reads
   rename_i hbk;refine Reads.mk (s:=do eqGuard op t x y (ρ x) (ρ y);binOp op t (ρ x) (ρ y)) rfl ?_;obtain⟨v,hv,hk⟩:=h;exact⟨v,hk,λw _=>by
    obtain⟨u,hr,rfl⟩:=ae.run (P:=P) (k:=(· =v)) ⟨v,hv,rfl⟩ w (ox:=x) (oy:=y) hd rfl;exact hr⟩
  exact h.elim
 case unOp op t x=>
  obtain⟨v,hv,hk⟩:=h;refine Reads.mk (s:=Op.unary op (ρ x)) rfl ⟨v,hk,λw _=>?_⟩;obtain⟨u,hr,rfl⟩:=Un.run (P:=P) (k:=(· =v)) ⟨v,hv,rfl⟩ w;exact hr
 case convert s d x=>
  split at h
  ·rename_i ds kd hs hd;obtain⟨j,n,hx,hk⟩:=h;refine Reads.mk (s:=Go.convert s d (ρ x)) rfl ⟨_,hk,λw _=>?_⟩;obtain⟨u,hr,rfl⟩:=bc.run (P:=P) (kd:=kd) (k:=(· =_)) ⟨j,n,hx,rfl⟩ w hs hd rfl;exact hr
  ·rename_i e hs hd;split at h
   ·rename_i he;refine Reads.mk (s:=Go.convert s d (ρ x)) rfl ?_;have:∀w,(Go.convert s d (ρ x)).run P w=(Conv.bytesToString (ρ x)).run P w:=λw=>by
     obtain⟨base,n,c,bs,hx,_⟩:=h;simp only[Go.convert,Sem.run_bind,run_underlying hs,run_underlying hd,Result.andThen_ok,hx,run_underlying he]
    simp only[this];exact uni h.fix λk hk w hw=>hk.run hw
   exact h.reads
  exact h.reads
 case index t x i=>
  split at h
  ·rename_i ht;obtain⟨s,kd,j,b,hx,hi,h0,hb,hk⟩:=h;refine Reads.mk (s:=Instr.index t (ρ x) (ρ i)) rfl ⟨_,hk,λw _=>?_⟩;simp[Instr.index,run_underlying ht,hx,hi,asIntOf,h0,hb]
  exact h.reads
 case fieldAddr s x f=>
  split at h<;>try exact h.elim
  rename_i fs hs;split at h<;>try exact h.elim
  rename_i fl hf;split at h<;>try exact h.elim
  rename_i m hm;obtain⟨i,hi,hin⟩:=bG hm;obtain⟨b,o,hx,hk⟩:=h;refine Reads.mk (s:=Instr.fieldAt s (ρ x) f) rfl ⟨_,hk,λw _=>?_⟩;obtain⟨u,hr,rfl⟩:=ai.run (P:=P) (k:=(· =_)) ⟨b,o,hx,rfl⟩ w hs hf hi zO rfl;exact hr
 case field s x f=>
  split at h<;>try exact h.elim
  rename_i fs hs;split at h<;>try exact h.elim
  rename_i fl hf;split at h<;>try exact h.elim
  rename_i d n hd hn;obtain⟨i,hi,hin⟩:=bG hn;refine Reads.mk (s:=Instr.field s (ρ x) f) rfl ?_;cases ha:cU d<;>simp only[ha,xap,xag]at h
  ·obtain⟨cs,v,hx,hv,hk⟩:=h;refine⟨v,hk,λw _=>?_⟩;obtain⟨u,hr,rfl⟩:=B7.run (P:=P) (k:=(· =v)) ⟨cs,v,hx,hv,rfl⟩ w hs hf hd ha rfl;exact hr
  obtain⟨cs,hx,hk⟩:=h;refine⟨_,hk,λw _=>?_⟩;obtain⟨u,hr,rfl⟩:=Xq.run (P:=P) (k:=(· =_)) ⟨cs,hx,rfl⟩ w hs hf hd ha hi hin rfl;exact hr
 case indexAddr t x ix=>
  refine Reads.mk (s:=Instr.indexAt t (ρ x) (ρ ix)) rfl ?_;split at h
  ·rename_i e ht;split at h<;>try exact h.elim
   rename_i n hn;obtain⟨i,hi,hin⟩:=bG hn;obtain⟨b,o,n',c,kd,j,hx,hix,h0,h1,hk⟩:=h;refine⟨_,hk,λw _=>?_⟩;obtain⟨u,hr,rfl⟩:=av.run (P:=P) (k:=(· =_)) ⟨b,o,n',c,kd,j,hx,hix,h0,h1,rfl⟩ w ht hi hin;exact hr
  ·rename_i len e ht;split at h<;>try exact h.elim
   rename_i n hn;obtain⟨i,hi,hin⟩:=bG hn;obtain⟨b,o,kd,j,hx,hix,h0,h1,hk⟩:=h;refine⟨_,hk,λw _=>?_⟩;obtain⟨u,hr,rfl⟩:=jb.run (P:=P) (k:=(· =_)) ⟨b,o,kd,j,hx,hix,h0,h1,rfl⟩ w ht hi hin;exact hr
  exact h.elim
 case slice t x lo hi mx=>
  cases mx with
  |some m=>simp only at h;exact h.reads
  |none=>
   simp only at h;split at h
   ·rename_i e ht;split at h<;>try exact h.elim
    rename_i n hn;obtain⟨i,hi',hin⟩:=bG hn;obtain⟨a,n',c,l,hh,hx,hl,pN,h0,h1,h2,hk⟩:=h;refine Reads.mk (s:=Instr.sliceAt t (ρ x) (lo.map ρ) (hi.map ρ) none) rfl ⟨_,hk,λw _=>?_⟩;obtain⟨u,hr,rfl⟩:=gx.run (P:=P) (k:=(· =_)) ⟨a,n',c,l,hh,hx,hl,pN,h0,h1,h2,rfl⟩ w ht hi' hin;exact hr
   exact h.reads
 case extract t i=>
  obtain⟨vs,v,hx,hv,hk⟩:=h;refine Reads.mk (s:=Instr.extract (ρ t) i) rfl ⟨v,hk,λw _=>?_⟩;obtain⟨u,hr,rfl⟩:=Ext.run (P:=P) (k:=(· =v)) ⟨vs,v,hx,hv,rfl⟩ w;exact hr
 case lookup t m key ok=>
  split at h<;>try exact h.elim
  rename_i kt e ht;split at h<;>try exact h.elim
  rename_i kd z DT hz;obtain⟨i,hi,yg⟩:=cJ hz;cases hp:plainKey kd<;>simp only[hp,xap,xag]at h
  ·cases iX:cU kd<;>simp only[iX,xap,xag]at h
   ·exact h.reads
   exact Reads.mk (s:=Instr.lookup t (ρ m) (ρ key) ok) rfl (uni h.fix λk hk w hw=>hk.run hw ht DT iX hi yg)
  exact Reads.mk (s:=Instr.lookup t (ρ m) (ρ key) ok) rfl (uni h.fix λk hk w hw=>hk.run hw ht DT hp hi yg)
 case makeFunc fn a b=>
  refine⟨_,h,λw _=>?_⟩;simp[execOp,Instr.makeFunc,mapList]
 case build t parts=>
  obtain⟨v,hr,hk⟩:=h;refine Reads.mk (s:=Instr.build t (parts.map λ(i,x)=>(i,ρ x))) rfl ⟨v,hk,λw _=>?_⟩;have:=hr w;rw[mapList (λp:Nat×Operand=>(p.1,ρ p.2)) parts]at this;exact this
 case makeInterface t x=>
  split at h
  ·exact h.elim
  ·rename_i d ZA hd;refine Reads.mk (s:=Instr.makeInterface t (ρ x)) rfl ⟨_,h,λw _=>?_⟩;simp only[Instr.makeInterface,Sem.run_bind,run_underlying hd,Result.andThen_ok];cases d<;>first|rfl|exact absurd hd (ZA _)
  exact h.elim
 case call c=>
  obtain⟨callee,args,argTypes⟩:=c;cases callee with
  |value f=>simp only at h
  |invoke r m=>simp only at h
  |builtin b=>
   cases b<;>simp only at h<;>try exact h.reads
   case max=>
    split at h<;>try exact h.reads
    rename_i x y t t' hx ht;split at h<;>try exact h.reads
    have hx:=EC hx;have ht:=EC ht;subst hx;subst ht;obtain⟨kd,a,b,h1,h2,hk⟩:=h;refine Reads.mk (s:=Builtin.max_ #[t,t'] type #[ρ x,ρ y]) (by simp[execOp,resolve,invoke,builtin,bind,Sem.bind];rfl) ⟨_,hk,λw _=>?_⟩;simp[Builtin.max_,Builtin.max2,h1,h2]
   case min=>
    split at h<;>try exact h.reads
    rename_i x y t t' hx ht;split at h<;>try exact h.reads
    have hx:=EC hx;have ht:=EC ht;subst hx;subst ht;obtain⟨kd,a,b,h1,h2,hk⟩:=h;refine Reads.mk (s:=Builtin.min_ #[t,t'] type #[ρ x,ρ y]) (by simp[execOp,resolve,invoke,builtin,bind,Sem.bind];rfl) ⟨_,hk,λw _=>?_⟩;simp[Builtin.min_,Builtin.min2,h1,h2]
   split at h<;>try exact h.elim
   rename_i x t hx ht;have hx:=ad0 hx;have ht:=ad0 ht;subst hx;subst ht;split at h
   ·rename_i e hd;refine Reads.mk (s:=Builtin.len_ #[t] type #[ρ x]) (by simp[execOp,resolve,invoke,builtin,bind,Sem.bind];rfl) ?_;obtain⟨a,n,c,hx,hk⟩:=h;refine⟨_,hk,λw _=>?_⟩;obtain⟨u,hr,rfl⟩:=aR.run (P:=P) (k:=(· =_)) ⟨a,n,c,hx,rfl⟩ w (ty:=type) hd;exact hr
   ·rename_i e e' hd;refine Reads.mk (s:=Builtin.len_ #[t] type #[ρ x]) (by simp[execOp,resolve,invoke,builtin,bind,Sem.bind];rfl) ?_;exact uni h.fix λk hk w hw=>hk.run hw hd
   ·rename_i hd;refine Reads.mk (s:=Builtin.len_ #[t] type #[ρ x]) (by simp[execOp,resolve,invoke,builtin,bind,Sem.bind];rfl) ?_;obtain⟨s,hx,hk⟩:=h;exact⟨_,hk,λw _=>by simp[Builtin.len_,run_underlying hd,hx,goInt]⟩
   exact h.reads
 all_goals exact h.reads
def valOf(o:Oper)(ρ:Operand->zV)(v:zV):Prop:=
 match o.op with
 | .move x=>v=ρ x
 | .assign x=>v=ρ x
 | .pick c a b=>∀t,ρ c=.bool t->v=cond t (ρ a) (ρ b)
 |_=>True
theorem oV{o:Oper}{ρ:Operand->zV}{k:zV->Prop}(h:AZ P g o ρ H k):∃v,k v/\(∀w,Own g H w->(execOp ρ o).run P w=.ok (.value v) w)/\valOf o ρ v:=by
 obtain⟨dst,op,type,pos,after,guard⟩:=o;cases op
 case move x=>exact⟨_,h,λw _=>rfl,rfl⟩
 case assign x=>exact⟨_,h,λw _=>rfl,rfl⟩
 case pick c a b=>
  obtain⟨t,hc,hk⟩:=h;refine⟨_,hk,λw _=>?_,λt' ht'=>?_⟩
  ·cases t<;>simp[execOp,hc,asBool]
  rw[hc]at ht';simp only[Value.bool.injEq]at ht';subst ht';rfl
 all_goals
  obtain⟨v,hk,hr⟩:=lT h;exact⟨v,hk,hr,trivial⟩
end
end Go.Sx
namespace Go.Sx
open Go
section
variable {P:Program} {g:Gh} {H:Hp} {K:zV->Hp->Prop} {KP:List PanicEntry->Hp->Prop}
def au(P:Program)(t len:Nat)(parts:List (Nat×zV))(H:Hp)(k:zV->Hp->Prop):Prop:=
 ∃cs,(∃e n z,P.underlying t=some (.slice e)/\dL P e=some n/\fK P e=some z/\len*n<=2^24/\
   Instr.fill (λi=>some (i*n,n)) ((Array.range (len*n)).map (z.cells[· %z.cells.size]!)) parts=some cs/\
   OR H (.cells cs e zZ) λb H'=>k (.slice (some ⟨b,0,none⟩) len len) H')
def Ny(P:Program)(g:Gh)(o:Oper)(ρ:Operand->zV)(H:Hp)(K:zV->Hp->Prop)(KP:List PanicEntry->Hp->Prop):Prop:=
 match o.op with
 | .alloc t=>match fK P t with
  |some z=>OR H (.cells z.cells t zZ) λb H'=>K (.pointer (some ⟨b,0,none⟩)) H'
  |none=>False
 | .box t x=>OR H (.cells (ρ x).cells t zZ) λb H'=>K (.pointer (some ⟨b,0,none⟩)) H'
 | .store t a x=>match dL P t with
  |some n=>St n H (ρ a) (ρ x) λH'=>K undef H'
  |none=>False
 | .buildSlice t len parts=>au P t len (parts.toList.map λp=>(p.1,ρ p.2)) H K
 | .makeMap _ none=>gJ H K
 | .makeSlice t l c=>match P.underlying t with
  |some (.slice e)=>match dL P e,wX P e,fK P e with
   |some n,some b,some z=>cZ e n b z H (ρ l) (ρ c) K
   |_,_,_=>False
  |_=>False
 | .mapUpdate t m key x=>match P.underlying t with
  |some (.map kt _)=>match P.underlying kt with
   |some kd=>cond (plainKey kd) (aW kd H (ρ m) (ρ key) (ρ x) λH'=>K undef H') (cond (cU kd) (iO P kt H (ρ m) (ρ key) (ρ x) λH'=>K undef H') (oC P g o ρ H K KP))
   |none=>False
  |_=>False
 | .insert t m key x=>match P.underlying t with
  |some (.map kt _)=>match P.underlying kt with
   |some kd=>cond (plainKey kd) (aW kd H (ρ m) (ρ key) (ρ x) λH'=>K undef H') (cond (cU kd) (iO P kt H (ρ m) (ρ key) (ρ x) λH'=>K undef H') (oC P g o ρ H K KP))
   |none=>False
  |_=>False
 | .range t x=>match P.underlying t with
  |some (.map _ _)=>Rng H (ρ x) K
  |_=>oC P g o ρ H K KP
 | .next it false=>Yp H (ρ it) K
 | .entry it=>KR H (ρ it) λv=>K v H
 | .call c=>
  match c.callee with
  | .value (.func f)=>cond (aT P f) (aa P g f (c.args.toList.map ρ).toArray H K KP) (oC P g o ρ H K KP)
  | .value f=>aL P g (ρ f) (c.args.toList.map ρ).toArray H K KP
  | .builtin .append=>
   match c.args.toList,c.argTypes.toList with
   | [s,x],[t,t']=>match P.underlying t,P.underlying t' with
    |some (.slice e),some (.slice _)=>match dL P e,wX P e,fK P e with
     |some n,some b,some z=>App P e n b z H (ρ s) (ρ x) K
     |_,_,_=>False
    |_,_=>oC P g o ρ H K KP
   |_,_=>False
  | .builtin .delete=>
   match c.args.toList,c.argTypes.toList with
   | [m,key],[t,_]=>match P.underlying t with
    |some (.map kt _)=>match P.underlying kt with
     |some kd=>cond (plainKey kd) (oD kd H (ρ m) (ρ key) λH'=>K (.tuple #[]) H') (cond (cU kd) (sg P kt H (ρ m) (ρ key) λH'=>K (.tuple #[]) H') (oC P g o ρ H K KP))
     |none=>False
    |_=>False
   |_,_=>oC P g o ρ H K KP
  |_=>oC P g o ρ H K KP
 |_=>oC P g o ρ H K KP
theorem om{t:TypeId}{n:Nat}(h:wX P t=some n):∃i,P.info? t=some i/\i.bytes=n:=by
 unfold wX at h;split at h
 ·rename_i i hi;exact⟨i,hi,by simpa using h⟩
 simp at h
theorem oC.ofValue{o:Oper}{ρ:Operand->zV}{s:Sem zV}(he:execOp ρ o=(do pure (.value (<-s))))(h:∀w,Own g H w->∃v w' H',s.run P w=.ok v w'/\Own g H' w'/\K v H'):oC P g o ρ H K KP:=by
 intro w hw;obtain⟨v,w',H',hr,ho,hk⟩:=h w hw;rw[he];simp only[Sem.run_bind,hr,Result.andThen_ok,Sem.run_pure];exact⟨H',ho,hk⟩
theorem oC.sI{o:Oper}{ρ:Operand->zV}{s:Sem Unit}(he:execOp ρ o=(do s;pure .skip))(h:∀w,Own g H w->∃w' H',s.run P w=.ok () w'/\Own g H' w'/\K undef H'):oC P g o ρ H K KP:=by
 intro w hw;obtain⟨w',H',hr,ho,hk⟩:=h w hw;rw[he];simp only[Sem.run_bind,hr,Result.andThen_ok,Sem.run_pure];exact⟨H',ho,hk⟩
theorem eE{f:FuncId}(h:aT P f=true)(args:Array zV)(w:World):(callFunc f args).run P w=.ok (.enter f args) w:=by
 unfold aT at h;split at h
 ·simp at h
 rename_i fn hf;simp only[xay,xbE]at h;obtain⟨h1,h2⟩:=h;have h3:fn.body.isNone=false:=by cases hb:fn.body<;>simp_all
 simp only[callFunc,Sem.run_bind,run_program,Result.andThen_ok,hf,show(fn.name== "runtime.NumGoroutine")=false from h1,h3,xaS,xa1];rfl
theorem aL.op{o:Oper}{c:Call}{ρ:Operand->zV}{x:Operand}(ho:o.op=.call c)(hc:c.callee=.value x)(h:aL P g (ρ x) (c.args.toList.map ρ).toArray H K KP):oC P g o ρ H K KP:=by
 obtain⟨f,first,captured,hf,fN,LS⟩:=h;rw[mapList]at LS;intro w hw;have hr:(execOp ρ o).run P w=.ok (.enter f (first++c.args.map ρ++captured)) w:=by
  simp only[execOp,ho,resolve,hc,Deferred.ofValue,hf,invoke];show(callFunc f (first++c.args.map ρ++captured)).run P w=_;exact eE fN _ w
 rw[hr];exact LS w hw
theorem vP{o:Oper}{ρ:Operand->zV}(hρ:∀f,ρ (.func f)=.func (.func f) #[] #[])(h:Ny P g o ρ H K KP):oC P g o ρ H K KP:=by
 unfold Ny at h;split at h
 case h_1 t hop=>
  split at h
  ·rename_i z hz;obtain⟨i,hi,yg⟩:=cJ hz;refine oC.ofValue (s:=Instr.alloc t true (.tuple #[])) (by simp only[execOp,hop]) λw hw=>⟨_,_,_,?_,hw.alloc _,h _ hw.fresh⟩;simp[Instr.alloc,dV hi yg,newVar,newRow]
  exact h.elim
 case h_2 t x hop=>
  refine oC.ofValue (s:=Instr.box t (ρ x)) (by simp only[execOp,hop]) λw hw=>⟨_,_,_,?_,hw.alloc _,h _ hw.fresh⟩;simp[Instr.box,newVar,newRow]
 case h_3 t a x hop=>
  split at h
  ·rename_i n hn;obtain⟨i,hi,hin⟩:=bG hn;exact oC.sI (s:=Instr.storeAt t (ρ a) (ρ x)) (by simp only[execOp,hop]) λw hw=>h.run hw hi hin
  exact h.elim
 case h_4 t len parts hop=>
  obtain⟨cs,e,n,z,ht,hn,hz,hl,hf,hk⟩:=h;obtain⟨i,hi,hin⟩:=bG hn;obtain⟨i',hi',yg⟩:=cJ hz;have:i'=i:=xbp (hi'.symm.trans hi);subst this;subst hin;refine oC.ofValue (s:=Instr.buildSlice t len (parts.map λ(i,x)=>(i,ρ x))) (by simp only[execOp,hop]) λw hw=>⟨_,_,_,?_,hw.alloc _,hk _ hw.fresh⟩;have hl':¬(len*i'.size>2^24):=by omega
  have zu:(parts.map λ(x:Nat×Operand)=>(x.1,ρ x.2)).toList=parts.toList.map λp=>(p.1,ρ p.2):=by rw[xdX]
  by_cases h0:len*i'.size=0
  ·simp only[Instr.buildSlice,Sem.run_bind,run_underlying ht,Result.andThen_ok,run_sizeOf hi,hl',xa1,h0,xa7,Sem.run_pure];rw[h0]at hf;have Zt:Array.range 0=#[]:=rfl;simp only[Zt,xew,List.map_toArray,xb9]at hf⊢;rw[zu,hf];simp[newRow]
  simp only[Instr.buildSlice,Sem.run_bind,run_underlying ht,Result.andThen_ok,run_sizeOf hi,hl',xa1,h0,dV hi yg,Sem.run_pure];simp[hf,newRow]
 case h_5 t hop=>
  refine oC.ofValue (s:=Instr.makeMap t none) (by simp only[execOp,hop];rfl) λw hw=>⟨_,_,_,?_,hw.alloc _,h _ hw.fresh⟩;simp[Instr.makeMap]
 case h_6 t l c hop=>
  split at h<;>try exact h.elim
  rename_i e ht;split at h<;>try exact h.elim
  rename_i n b z hn hb hz;obtain⟨i,hi,hin⟩:=bG hn;obtain⟨i',hi',yg⟩:=cJ hz;obtain⟨i2,LP,zv⟩:=om hb;have e1:i'=i:=xbp (hi'.symm.trans hi);have e2:i2=i:=xbp (LP.symm.trans hi);subst e1;subst e2;exact oC.ofValue (s:=Instr.makeSlice t (ρ l) (ρ c)) (by simp only[execOp,hop]) λw hw=>h.run hw ht hi yg hin zv
 case h_7 t m key x hop=>
  split at h<;>try exact h.elim
  rename_i kt e ht;split at h<;>try exact h.elim
  rename_i kd DT;cases hp:plainKey kd<;>simp only[hp,xap,xag]at h
  ·cases iX:cU kd<;>simp only[iX,xap,xag]at h
   ·exact h
   exact oC.sI (s:=Instr.mapUpdate t (ρ m) (ρ key) (ρ x)) (by simp only[execOp,hop]) λw hw=>h.run hw ht DT iX
  exact oC.sI (s:=Instr.mapUpdate t (ρ m) (ρ key) (ρ x)) (by simp only[execOp,hop]) λw hw=>h.run hw ht DT hp
 case h_8 t m key x hop=>
  split at h<;>try exact h.elim
  rename_i kt e ht;split at h<;>try exact h.elim
  rename_i kd DT;cases hp:plainKey kd<;>simp only[hp,xap,xag]at h
  ·cases iX:cU kd<;>simp only[iX,xap,xag]at h
   ·exact h
   exact oC.sI (s:=Instr.mapUpdate t (ρ m) (ρ key) (ρ x)) (by simp only[execOp,hop]) λw hw=>h.run hw ht DT iX
  exact oC.sI (s:=Instr.mapUpdate t (ρ m) (ρ key) (ρ x)) (by simp only[execOp,hop]) λw hw=>h.run hw ht DT hp
 case h_9 t x hop=>
  split at h
  ·rename_i kt e ht;exact oC.ofValue (s:=Instr.range t (ρ x)) (by simp only[execOp,hop]) λw hw=>h.run hw ht
  exact h
 case h_10 it hop=>
  exact oC.ofValue (s:=Instr.next (ρ it) false o.type) (by simp only[execOp,hop]) λw hw=>h.run hw
 case h_11 it hop=>
  exact oC.ofValue (s:=Instr.entry (ρ it)) (by simp only[execOp,hop]) λw hw=>let ⟨v,hr,hk⟩:=h.run hw;⟨v,w,H,hr,hw,hk⟩
 case h_12 c hop=>
  split at h
  ·rename_i f hc;cases fN:aT P f<;>simp only[fN,xap,xag]at h
   ·exact h
   rw[mapList]at h;intro w hw;have hr:(execOp ρ o).run P w=.ok (.enter f (c.args.map ρ)) w:=by
    simp only[execOp,hop,resolve,hc,Deferred.ofValue,hρ,invoke];show(callFunc f ((#[]++c.args.map ρ)++ #[])).run P w=_;rw[xdd,xdI];exact eE fN _ w
   rw[hr];exact h w hw
  ·rename_i x _ hc;exact aL.op hop hc h
  ·rename_i hc;split at h<;>try exact h.elim
   rename_i s x t t' hx ht;have hx:=EC hx;have ht:=EC ht;split at h
   ·rename_i e e' hd dR;split at h<;>try exact h.elim
    rename_i n b z hn hb hz;obtain⟨i,hi,hin⟩:=bG hn;obtain⟨i',hi',yg⟩:=cJ hz;obtain⟨i2,LP,zv⟩:=om hb;have e1:i'=i:=xbp (hi'.symm.trans hi);have e2:i2=i:=xbp (LP.symm.trans hi);subst e1;subst e2;refine oC.ofValue (s:=Builtin.append_ #[t,t'] o.type #[ρ s,ρ x]) ?_ λw hw=>h.run hw hd ⟨_,dR⟩ hi yg hin zv;simp only[execOp,hop,resolve,hc,hx,ht,invoke,builtin];simp[bind,Sem.bind];rfl
   exact h
  ·rename_i hc;split at h
   ·rename_i m key t t' hx ht;have hx:=EC hx;have ht:=EC ht;split at h<;>try exact h.elim
    rename_i kt e hd;split at h<;>try exact h.elim
    rename_i kd DT;cases hp:plainKey kd<;>simp only[hp,xap,xag]at h
    ·cases iX:cU kd<;>simp only[iX,xap,xag]at h
     ·exact h
     refine oC.ofValue (s:=Builtin.delete_ #[t,t'] o.type #[ρ m,ρ key]) ?_ λw hw=>?_
     ·simp only[execOp,hop,resolve,hc,hx,ht,invoke,builtin];simp[bind,Sem.bind];rfl
     obtain⟨w',H',hr,ho,hk⟩:=h.run (P:=P) hw (as:=#[t,t']) (ty:=o.type) rfl hd DT iX;exact⟨_,w',H',hr,ho,hk⟩
    refine oC.ofValue (s:=Builtin.delete_ #[t,t'] o.type #[ρ m,ρ key]) ?_ λw hw=>?_
    ·simp only[execOp,hop,resolve,hc,hx,ht,invoke,builtin];simp[bind,Sem.bind];rfl
    obtain⟨w',H',hr,ho,hk⟩:=h.run (P:=P) hw (as:=#[t,t']) (ty:=o.type) rfl hd DT hp;exact⟨_,w',H',hr,ho,hk⟩
   exact h
  exact h
 all_goals exact h
end
end Go.Sx
namespace Go.Sx
open Go
section
variable {P:Program} {g:Gh} {ds:List Deferred}
def wj:Op->Bool
 | .move _| .assign _| .pick .. | .load .. | .nilCheck _| .binOp .. | .unOp .. | .convert .. | .fieldAddr .. | .field .. | .indexAddr .. | .index .. | .slice .. | .extract .. | .lookup .. | .makeFunc .. | .build .. | .makeInterface ..
 | .typeAssert .. =>true
 | .call c=>match c.callee with
  | .builtin .len| .builtin .cap| .builtin .min| .builtin .max=>true
  |_=>false
 |_=>false
def Ys(P:Program)(g:Gh)(f:FuncId)(args:Array zV)(H:Hp)(k:zV->Prop):Prop:=
 ∃v,bE P g f args H (λe H'=>e=.returned v/\H'=H)/\k v
def opQ(P:Program)(g:Gh)(o:Oper)(ρ:Operand->zV)(H:Hp)(k:zV->Prop):Prop:=
 match o.op with
 | .call c=>match c.callee with
  | .value (.func f)=>cond (aT P f) (Ys P g f (c.args.toList.map ρ).toArray H k) False
  | .value x=>∃f first captured,ρ x=.func (.func f) first captured/\aT P f=true/\Ys P g f (first++(c.args.toList.map ρ).toArray++captured) H k
  |_=>False
 |_=>False
def cF:Option (Nat×Bool)->Option (Nat×Bool)->Bool
 |none,none=>true
 |some (i,a),some (j,b)=>Nat.beq i j&& (a==b)
 |_,_=>false
theorem jz{x y:Option (Nat×Bool)}(h:cF x y=true):x=y:=by
 cases x with
 |none=>cases y<;>simp_all[cF]
 |some a=>
  obtain⟨i,a⟩:=a;cases y with
  |none=>simp[cF]at h
  |some b=>
   obtain⟨j,b⟩:=b;simp only[cF,xay,xcR]at h;rw[xaI h.1,h.2]
def ir(cur:Option (Nat×Bool)):List Oper->List Oper
 | []=>[]
 |o::r=>cond (cF o.guard cur) [] (o::ir cur r)
def ju(cur:Option (Nat×Bool)):List Oper->List Oper
 | []=>[]
 |o::r=>cond (cF o.guard cur) (o::r) (ju cur r)
theorem tA(cur:Option (Nat×Bool))(l:List Oper):ir cur l++ju cur l=l:=by
 induction l with
 |nil=>rfl
 |cons o r ih=>simp only[ir,ju];cases cF o.guard cur<;>simp[ih]
def tB:List Oper->Fr->Fr
 | [],fr=>fr
 |o::r,fr=>tB r (bt fr o.dst undef)
def bQ:List Oper->Nat->Bool
 | [],_=>false
 |o::r,s=>(match o.dst with|some d=>Nat.beq s d|none=>false)||bQ r s
def jd(n:Nat):List Oper->Bool
 | []=>true
 |o::r=>eH n o.dst&&jd n r
def Bm(G:List Oper)(gs fr:Fr):Fr:=λs=>cond (bQ G s) (gs s) (fr s)
def qs(p:Oper)(fr:Fr):zV:=
 match p.op with
 | .pick c a b=>match ev fr c with
  | .bool t=>cond t (ev fr a) (ev fr b)
  |_=>undef
 |_=>undef
def sO(p:Oper):Bool:=match p.op with| .pick .. =>true|_=>false
def eS(ops:Array Oper)(j:Nat):Option Nat:=match ops[j]? with|some oj=>oj.dst|none=>none
def nO(ops:Array Oper)(s:Nat)(want:Bool):zL->List Oper->Bool
 |_,[]=>true
 |seen,o::r=>
  (match o.guard with
  |none=>false
  |some (j,w)=>match eS ops j with
   |none=>false
   |some t=>(Nat.beq t s&& (w==want))||seen.any (Nat.beq t)) &&
  nO ops s want (match o.dst with|some d=>d::seen|none=>seen) r
def cm(v:zV)(want:Bool)(inner els k:Bool->Prop):Prop:=∃a t:Bool,v=.bool a/\(a=want->inner t)/\(a= !want->els t)/\k t
def Split(v:zV)(want:Bool)(k1 k2:Prop):Prop:=∃a:Bool,v=.bool a/\(a=want->k1)/\(a= !want->k2)
def l7:List (Nat×Bool)->Nat->Option Bool
 | [],_=>none
 |(t,b)::r,s=>cond (Nat.beq t s) (some b) (l7 r s)
def nj:List (Nat×Bool)->Option Nat->List (Nat×Bool)
 |kn,none=>kn
 | [],some _=>[]
 |(t,b)::r,some d=>cond (Nat.beq t d) (nj r (some d)) ((t,b)::nj r (some d))
def mX:List (Nat×Bool)->List Oper->List (Nat×Bool)
 |kn,[]=>kn
 |kn,o::r=>mX (nj kn o.dst) r
def rI(kn:List (Nat×Bool)):Operand->Option Bool
 | .const (.bool b)=>some b
 | .tmp t=>l7 kn t
 |_=>none
def Zd(kn:List (Nat×Bool))(o:Oper):Option Bool:=
 match o.op with
 | .move x=>rI kn x
 | .assign x=>rI kn x
 | .pick c a b=>match rI kn c with
  |some true=>rI kn a
  |some false=>rI kn b
  |none=>none
 |_=>none
def Zc(kn:List (Nat×Bool))(o:Oper):List (Nat×Bool):=
 match Zd kn o,o.dst with
 |some b,some d=>(d,b)::nj kn (some d)
 |_,d=>nj kn d
def jm(kn:List (Nat×Bool))(fr:Fr):Prop:=∀s b,l7 kn s=some b->fr s=.bool b
theorem jm.nil(fr:Fr):jm [] fr:=λs b h=>by simp[l7]at h
theorem zj{kn:List (Nat×Bool)}{d s:Nat}{b:Bool}(h:l7 (nj kn (some d)) s=some b):s≠d/\l7 kn s=some b:=by
 induction kn with
 |nil=>simp[nj,l7]at h
 |cons x r ih=>
  obtain⟨t,c⟩:=x;simp only[nj]at h;cases hb:Nat.beq t d<;>simp only[hb,xap,xag]at h
  ·simp only[l7]at h⊢;cases hs:Nat.beq t s<;>simp only[hs,xap,xag]at h⊢
   ·exact ih h
   refine⟨λe=>?_,h⟩;have:=xaI hs;subst this;subst e;simp at hb
  have h':=ih h;refine⟨h'.1,?_⟩;simp only[l7];have:=xaI hb;subst this;cases hs:Nat.beq t s
  ·exact h'.2
  exact absurd (xaI hs).symm h'.1
theorem jm.del{kn:List (Nat×Bool)}{fr:Fr}(h:jm kn fr)(d:Option Nat)(v:zV):jm (nj kn d) (bt fr d v):=by
 cases d with
 |none=>cases kn<;>exact h
 |some d=>
  intro s b hs;obtain⟨h1,h2⟩:=zj hs;simp only[bt];cases hb:Nat.beq s d
  ·exact h s b h2
  exact absurd (xaI hb) h1
theorem jm.put{kn:List (Nat×Bool)}{fr:Fr}(h:jm kn fr){s:Nat}{b:Bool}(hs:fr s=.bool b):jm ((s,b)::kn) fr:=by
 intro t c ht;simp only[l7]at ht;cases hb:Nat.beq s t<;>simp only[hb,xap,xag]at ht
 ·exact h t c ht
 have:=xaI hb;subst this;simp only[xaq]at ht;subst ht;exact hs
theorem l6{kn:List (Nat×Bool)}{fr:Fr}(h:jm kn fr){x:Operand}{b:Bool}(hx:rI kn x=some b):ev fr x=.bool b:=by
 cases x with
 |tmp t=>exact h t b hx
 |const v=>cases v<;>simp[rI]at hx;subst hx;rfl
 |global g=>simp[rI]at hx
 |func f=>simp[rI]at hx
theorem VS{kn:List (Nat×Bool)}{fr:Fr}(h:jm kn fr){o:Oper}{v:zV}(hv:valOf o (ev fr) v){b:Bool}(hb:Zd kn o=some b):v=.bool b:=by
 unfold Zd at hb;unfold valOf at hv;split at hb
 ·rename_i x hop;rw[hop]at hv;exact hv.trans (l6 h hb)
 ·rename_i x hop;rw[hop]at hv;exact hv.trans (l6 h hb)
 ·rename_i c a b' hop;rw[hop]at hv;split at hb
  ·rename_i hc;rw[hv _ (l6 h hc)];exact l6 h hb
  ·rename_i hc;rw[hv _ (l6 h hc)];exact l6 h hb
  simp at hb
 simp at hb
theorem jm.up{kn:List (Nat×Bool)}{fr:Fr}(h:jm kn fr){o:Oper}{v:zV}(hv:valOf o (ev fr) v):jm (Zc kn o) (bt fr o.dst v):=by
 unfold Zc;split
 ·rename_i b d hb hd;rw[hd];exact(h.del (some d) v).put (by simp[bt,VS h hv hb])
 exact h.del _ _
theorem jm.adS{kn:List (Nat×Bool)}{fr fr':Fr}:∀(l:List Oper),jm kn fr->(∀s,bQ l s=false->fr' s=fr s)->jm (mX kn l) fr':=by
 intro l;have key:∀(l:List Oper) (kn:List (Nat×Bool)) (s:Nat) (b:Bool),l7 (mX kn l) s=some b->bQ l s=false/\l7 kn s=some b:=by
  intro l;induction l with
  |nil=>intro kn s b h;exact⟨rfl,h⟩
  |cons o r ih=>
   intro kn s b h;simp only[mX]at h;obtain⟨h1,h2⟩:=ih _ s b h;simp only[bQ,h1,xdy];cases hd:o.dst with
   |none=>rw[hd]at h2;exact⟨rfl,by cases kn<;>exact h2⟩
   |some d=>
    rw[hd]at h2;obtain⟨h3,h4⟩:=zj h2;refine⟨?_,h4⟩;cases hb:Nat.beq s d
    ·exact hb
    exact absurd (xaI hb) h3
 intro h ho s b hs;obtain⟨h1,h2⟩:=key l kn s b hs;rw[ho s h1];exact h s b h2
def eV(P:Program)(g:Gh)(n:Nat)(ops:Array Oper)(gq:Bool):Nat->Bool->Option (Nat×Bool)->List (Nat×Bool)->List Oper->Fr->Hp->(List (Nat×Bool)->Fr->Hp->Prop)->(List PanicEntry->Hp->Prop)->Prop
 |0,_,_,_,_,_,_,_,_=>False
 |_+1,_,_,kn,[],fr,H,K,_=>K kn fr H
 |f+1,q,cur,kn,o::r,fr,H,K,KP=>
  cond (cF o.guard cur)
   (cond (eH n o.dst)
    (cond (wj o.op) (AZ P g o (ev fr) H λv=>eV P g n ops gq f q cur (Zc kn o) r (bt fr o.dst v) H K KP)
     (cond q (opQ P g o (ev fr) H λv=>eV P g n ops gq f q cur (nj kn o.dst) r (bt fr o.dst v) H K KP)
      (Ny P g o (ev fr) H (λv H'=>eV P g n ops gq f q cur (nj kn o.dst) r (bt fr o.dst v) H' K KP) KP))) False)
   (match o.guard with
   |none=>False
   |some (j,want)=>
    match eS ops j with
    |none=>False
    |some s=>
     cond (eH n (some s) &&jd n (ir cur (o::r)) && !bQ (ir cur (o::r)) s&&nO ops s want [] (ir cur (o::r)))
     (match l7 kn s with
     |some b=>cond (b==want)
       (eV P g n ops gq f q o.guard kn (ir cur (o::r)) fr H (λqQ fr' H'=>eV P g n ops gq f q cur qQ (ju cur (o::r)) fr' H' K KP) KP)
       (eV P g n ops gq f q cur (mX kn (ir cur (o::r))) (ju cur (o::r)) (tB (ir cur (o::r)) fr) H K KP)
     |none=>
     cond (q||gq)
      (match ju cur (o::r)with
      | []=>False
      |p::r'=>
       cond (sO p&&eH n p.dst)
       (cm (fr s) want
        (λt=>eV P g n ops gq f true o.guard ((s,want)::kn) (ir cur (o::r)) (bt fr (some s) (.bool want)) H (λ_ fr' H'=>H'=H/\qs p fr'=.bool t) (λ_ _=>False))
        (λt=>qs p (tB (ir cur (o::r)) (bt fr (some s) (.bool !want)))=.bool t)
        (λt=>∀gs,eV P g n ops gq f q cur (nj (mX kn (ir cur (o::r))) p.dst) r' (bt (Bm (ir cur (o::r)) gs fr) p.dst (.bool t)) H K KP)) False)
      (Split (fr s) want
       (eV P g n ops gq f q o.guard ((s,want)::kn) (ir cur (o::r)) (bt fr (some s) (.bool want)) H (λqQ fr' H'=>eV P g n ops gq f q cur qQ (ju cur (o::r)) fr' H' K KP) KP)
       (eV P g n ops gq f q cur ((s, !want)::mX kn (ir cur (o::r))) (ju cur (o::r)) (tB (ir cur (o::r)) (bt fr (some s) (.bool !want))) H K KP))) False)
theorem lz{fr:Fr}{s:Nat}{v:zV}(h:fr s=v):bt fr (some s) v=fr:=by
 funext x
 simp only[bt];cases hb:Nat.beq x s
 ·rfl
 have:=xaI hb;subst this;simp[h]
theorem gi{fr:Fr}{d:Option Nat}{v:zV}{s:Nat}(h:bQ [({(default:Oper)with dst:=d})] s=false):bt fr d v s=fr s:=by
 cases d with
 |none=>rfl
 |some d=>simp only[bQ,xdy]at h;simp only[bt,h,xag]
theorem dN{o:Oper}{r:List Oper}{s:Nat}:bQ (o::r) s=(bQ [({(default:Oper)with dst:=o.dst})] s||bQ r s):=by
 simp[bQ]
theorem cj{a b:List Oper}{s:Nat}:bQ (a++b) s=(bQ a s||bQ b s):=by
 induction a with
 |nil=>simp[bQ]
 |cons o r ih=>simp only[xaP,bQ,ih,Bool.or_assoc]
def eM(l:List Oper)(fr fr':Fr):Prop:=∀s,bQ l s=false->fr' s=fr s
def mC(ops:Array Oper)(cur:Option (Nat×Bool))(l:List Oper)(fr:Fr):Prop:=
 match cur with
 |none=>True
 |some (j,want)=>∃s,eS ops j=some s/\fr s=.bool want/\bQ l s=false
theorem mC.tail{ops:Array Oper}{cur:Option (Nat×Bool)}{o:Oper}{r:List Oper}{fr fr':Fr}(h:mC ops cur (o::r) fr)(he:∀s,bQ [({(default:Oper)with dst:=o.dst})] s=false->fr' s=fr s):mC ops cur r fr':=by
 unfold mC at*;split
 ·trivial
 obtain⟨s,h1,h2,h3⟩:=h;rw[dN,xaG]at h3;exact⟨s,h1,(he s h3.1).trans h2,h3.2⟩
theorem mH{n:Nat}{ops:Array Oper}{a:Act}{fr:Fr}(h:cE ds n a fr){j s:Nat}(hs:eS ops j=some s):yielded ops a.tmps j=match fr s with| .bool b=>some b|_=>none:=by
 unfold eS at hs;split at hs
 ·rename_i oj hj;have hg:=h.get s;rw[xas]at hg;simp only[yielded,hj,xeq,hs];cases ht:a.tmps[s]? with
  |none=>rw[ht]at hg;simp only[Option.getD_none]at hg;rw[<-hg];rfl
  |some v=>rw[ht]at hg;simp only[Option.getD_some]at hg;rw[<-hg];cases v<;>rfl
 ·simp at hs
theorem mC.wanted{n:Nat}{ops:Array Oper}{cur:Option (Nat×Bool)}{l:List Oper}{fr:Fr}(h:mC ops cur l fr){o:Oper}(ho:o.guard=cur){a:Act}(ha:cE ds n a fr):Region.wanted o (yielded ops a.tmps)=true:=by
 unfold mC at h;unfold Region.wanted;rw[ho];split at h
 ·rfl
 obtain⟨s,h1,h2,_⟩:=h;simp only[mH ha h1,h2,xer]
theorem qq{p:Oper}{fr:Fr}{t:Bool}(hp:sO p=true)(h:qs p fr=.bool t)(w:World):(execOp (ev fr) p).run P w=.ok (.value (.bool t)) w:=by
 unfold sO at hp;split at hp<;>try (simp at hp;done)
 rename_i c a b hop;simp only[qs,hop]at h;split at h
 ·rename_i t' hc;simp only[execOp,hop,hc,asBool];cases t'<;>simp only[xap,xag]at h<;>simp[h]
 simp[undef]at h
theorem oI{n:Nat}{ops:Array Oper}{Q:Exit->Act->World->Prop}{s:Nat}{want:Bool}{w:World}{rest:List Oper}:∀(l:List Oper) (seen:zL) (fr:Fr) (a:Act),jd n l=true->bQ l s=false->nO ops s want seen l=true->
  fr s=.bool (!want)->(∀t∈seen,fr t=undef)->cE ds n a fr->(∀a',cE ds n a' (tB l fr)->wpList P ops Q rest a' w)->wpList P ops Q (l++rest) a w
 | [],_,fr,a,_,_,_,_,_,ha,hk=>hk a ha
 |o::r,seen,fr,a,hd,hi,hs,hf,wm,ha,hk=>by
  simp only[jd,xay]at hd;rw[dN,xaG]at hi;simp only[nO,xay]at hs;obtain⟨uJ,sQ⟩:=hs;have hnw:Region.wanted o (yielded ops a.tmps)=false:=by
   unfold Region.wanted;split at uJ
   ·simp at uJ
   rename_i j w' hg;rw[hg];split at uJ
   ·simp at uJ
   rename_i t ht;simp only[mH ha ht];simp only[xbq,xay,xcR]at uJ;rcases uJ with⟨h1,rfl⟩|h1
   ·have:=xaI h1;subst this;rw[hf];cases w'<;>rfl
   obtain⟨u,hu,hb⟩:=xcz.1 h1;have:=xaI hb;subst this;rw[wm _ hu];rfl
  simp only[xaP,wpList,hnw,xaS,xa1];refine oI r _ (bt fr o.dst undef) _ hd.2 hi.2 sQ ?_ ?_ (ha.put hd.1 undef) (λa' h'=>hk a' h')
  ·rw[gi hi.1,hf]
  intro t ht;cases Su:o.dst with
  |none=>rw[Su]at ht;exact wm t ht
  |some d=>
   rw[Su]at ht;simp only[bt];cases hb:Nat.beq t d
   ·simp only[xag];rcases xal.1 ht with rfl|ht
    ·simp at hb
    exact wm t ht
   rfl
theorem p9{n:Nat}{ops:Array Oper}{C:World->Prop}{Q:Act->Prop}{s:Nat}{want:Bool}{rest:List Oper}:∀(l:List Oper) (seen:zL) (fr:Fr) (a:Act),jd n l=true->bQ l s=false->nO ops s want seen l=true->
  fr s=.bool (!want)->(∀t∈seen,fr t=undef)->cE ds n a fr->(∀a',cE ds n a' (tB l fr)->wpQuiet P ops C Q rest a')->wpQuiet P ops C Q (l++rest) a
 | [],_,fr,a,_,_,_,_,_,ha,hk=>hk a ha
 |o::r,seen,fr,a,hd,hi,hs,hf,wm,ha,hk=>by
  simp only[jd,xay]at hd;rw[dN,xaG]at hi;simp only[nO,xay]at hs;obtain⟨uJ,sQ⟩:=hs;have hnw:Region.wanted o (yielded ops a.tmps)=false:=by
   unfold Region.wanted;split at uJ
   ·simp at uJ
   rename_i j w' hg;rw[hg];split at uJ
   ·simp at uJ
   rename_i t ht;simp only[mH ha ht];simp only[xbq,xay,xcR]at uJ;rcases uJ with⟨h1,rfl⟩|h1
   ·have:=xaI h1;subst this;rw[hf];cases w'<;>rfl
   obtain⟨u,hu,hb⟩:=xcz.1 h1;have:=xaI hb;subst this;rw[wm _ hu];rfl
  simp only[xaP,wpQuiet,hnw,xaS,xa1];refine p9 r _ (bt fr o.dst undef) _ hd.2 hi.2 sQ ?_ ?_ (ha.put hd.1 undef) (λa' h'=>hk a' h')
  ·rw[gi hi.1,hf]
  intro t ht;cases Su:o.dst with
  |none=>rw[Su]at ht;exact wm t ht
  |some d=>
   rw[Su]at ht;simp only[bt];cases hb:Nat.beq t d
   ·simp only[xag];rcases xal.1 ht with rfl|ht
    ·simp at hb
    exact wm t ht
   rfl
theorem dm:∀(l:List Oper) (fr:Fr),eM l fr (tB l fr)
 | [],fr=>λs _=>rfl
 |o::r,fr=>λs hs=>by
  rw[dN,xaG]at hs;rw[tB,dm r _ s hs.2,gi hs.1]
end
end Go.Sx
namespace Go.Sx
open Go
section
variable {P:Program} {g:Gh} {ds:List Deferred}
theorem pe(fr:Fr):∀f,ev fr (.func f)=.func (.func f) #[] #[]:=λ_=>rfl
theorem Lw{o:Oper}{fr:Fr}{H:Hp}{k:zV->Prop}(h:opQ P g o (ev fr) H k):
  ∃v f args,(∀w,(execOp (ev fr) o).run P w=.ok (.enter f args) w)/\bE P g f args H (λe H'=>e=.returned v/\H'=H)/\k v:=by
 unfold opQ at h;split at h<;>try exact h.elim
 rename_i c hop;split at h<;>try exact h.elim
 ·rename_i f hc;cases fN:aT P f<;>simp only[fN,xap,xag]at h;obtain⟨v,hs,hk⟩:=h;rw[mapList]at hs;refine⟨v,f,_,λw=>?_,hs,hk⟩;simp only[execOp,hop,resolve,hc,Deferred.ofValue,pe,invoke];show(callFunc f ((#[]++c.args.map (ev fr))++ #[])).run P w=_;rw[xdd,xdI];exact eE fN _ w
 rename_i x _ hc;obtain⟨f,first,captured,hf,fN,v,hs,hk⟩:=h;rw[mapList]at hs;refine⟨v,f,_,λw=>?_,hs,hk⟩;simp only[execOp,hop,resolve,hc,Deferred.ofValue,hf,invoke];show(callFunc f (first++c.args.map (ev fr)++captured)).run P w=_;exact eE fN _ w
theorem oE.upon{o:Oper}{a:Act}{K:zV->Hp->Prop}{KP:List PanicEntry->Hp->Prop}{next:Act->World->Prop}{Q:Exit->Act->World->Prop}{r:Result Next}
 (h:oE P g K KP r)(hn:∀v H' w',Own g H' w'->K v H'->next (a.put o.dst v) w')(hp:∀ch H' w',Own g H' w'->KP ch H'->Q (.panic ch) a w'):o.upon P a next Q r:=by
 cases r with
 |ok n w'=>
  cases n<;>simp only[oE]at h<;>simp only[Oper.upon]
  case value v=>obtain⟨H',ho,hk⟩:=h;exact hn _ _ _ ho hk
  case skip=>obtain⟨H',ho,hk⟩:=h;exact hn _ _ _ ho hk
  case enter f args=>
   refine h.mono λe w'' ⟨H',ho,hk⟩=>?_;cases e with
   |returned v=>exact hn _ _ _ ho hk
   |panicked ch=>exact hp _ _ _ ho hk
   |outgrown=>exact hk.elim
 |halt x w'=>
  cases x<;>simp only[oE]at h
  case panic v=>obtain⟨H',ho,hk⟩:=h;exact hp _ _ _ ho hk
theorem eM.refl(l:List Oper)(fr:Fr):eM l fr fr:=λ_ _=>rfl
theorem eM.cons{o:Oper}{r:List Oper}{fr fr':Fr}{v:zV}(h:eM r (bt fr o.dst v) fr'):eM (o::r) fr fr':=λs hs=>by
 rw[dN,xaG]at hs;rw[h s hs.2,gi hs.1]
theorem cM{n:Nat}{ops:Array Oper}{gq:Bool}:∀(f:Nat) (q:Bool) (cur:Option (Nat×Bool)) (kn:List (Nat×Bool)) (l:List Oper) (fr:Fr) (H:Hp) (K:List (Nat×Bool)->Fr->Hp->Prop) (KP:List PanicEntry->Hp->Prop),
  eV P g n ops gq f q cur kn l fr H K KP->mC ops cur l fr->jm kn fr->∀(a:Act) (w:World),cE ds n a fr->Own g H w->∀(rest:List Oper) (Q:Exit->Act->World->Prop),
  (∀a' w' qQ fr' H',cE ds n a' fr'->Own g H' w'->eM l fr fr'->jm qQ fr'->K qQ fr' H'->wpList P ops Q rest a' w')->
  (∀ch a' w' fr' H',cE ds n a' fr'->Own g H' w'->KP ch H'->Q (.panic ch) a' w')->wpList P ops Q (l++rest) a w
 |0,_,_,_,_,_,_,_,_,h=>h.elim
 |f+1,q,cur,kn,[],fr,H,K,KP,h=>λ_ hkn a w ha hw rest Q hk _=>hk a w kn fr H ha hw (eM.refl _ _) hkn h
 |f+1,q,cur,kn,o::r,fr,H,K,KP,h=>by
  intro mg hkn a w ha hw rest Q hk hp;unfold eV at h;cases hsg:cF o.guard cur<;>simp only[hsg,xap,xag]at h
  case true=>
   have hg:=jz hsg;have pL:=mg.wanted hg ha;cases hd:eH n o.dst<;>simp only[hd,xap,xag]at h;simp only[xaP,wpList,pL,xa7];refine .inl ?_;unfold Oper.wp;rw[ha.eval];cases Be:wj o.op<;>simp only[Be,xap,xag]at h
   case true=>
    obtain⟨v,hk',hr,hv⟩:=oV h;rw[hr w hw];exact cM f q cur _ r _ H K KP hk' (mg.tail λs hs=>gi hs) (hkn.up hv) _ w (ha.put hd v) hw rest Q (λa' w' qQ fr' H' h1 h2 h3 h5 h4=>hk a' w' qQ fr' H' h1 h2 h3.cons h5 h4) hp
   case false=>
    cases q<;>simp only[xap,xag]at h
    case true=>
     obtain⟨v,f',args,hr,hs,hk'⟩:=Lw h;rw[hr w];refine(hs w hw).mono λe w'' ⟨H',ho,he,hH⟩=>?_;subst he;subst hH;exact cM f true cur _ r _ H' K KP hk' (mg.tail λs hs=>gi hs) (hkn.del _ _) _ w'' (ha.put hd v) ho rest Q (λa' w' qQ fr' H' h1 h2 h3 h5 h4=>hk a' w' qQ fr' H' h1 h2 h3.cons h5 h4) hp
    case false=>
     refine(vP (pe fr) h w hw).upon (λv H' w' ho hk'=>?_) (λch H' w' ho hk'=>hp ch a w' fr H' ha ho hk');exact cM f false cur _ r _ H' K KP hk' (mg.tail λs hs=>gi hs) (hkn.del _ _) _ w' (ha.put hd v) ho rest Q (λa' w' qQ fr' H' h1 h2 h3 h5 h4=>hk a' w' qQ fr' H' h1 h2 h3.cons h5 h4) hp
  case false=>
   split at h<;>try exact h.elim
   rename_i j want hog;split at h<;>try exact h.elim
   rename_i s kP;generalize hG:ir cur (o::r)=G at h;generalize hR:ju cur (o::r)=R at h;have LY:G++R=o::r:=by rw[<-hG,<-hR];exact tA _ _
   cases fE:(eH n (some s) &&jd n G&& !bQ G s&&nO ops s want [] G)<;>simp only[fE,xap,xag]at h;simp only[xay,xbE]at fE;obtain⟨⟨⟨hds,hdG⟩,PN⟩,XW⟩:=fE;rw[<-LY,xaj];have aiW:∀fr',eM G fr fr'->∀s,bQ (o::r) s=false->fr' s=fr s:=λfr' ho s hs=>by
    rw[<-LY,cj,xaG]at hs;exact ho s hs.1
   have n6:∀fr',eM G fr fr'->mC ops cur R fr':=λfr' ho=>by
    unfold mC at mg⊢;split
    ·trivial
    obtain⟨t,h1,h2,h3⟩:=mg;have zG:=h3;rw[<-LY,cj,xaG]at zG;exact⟨t,h1,(ho t zG.1).trans h2,zG.2⟩
   have NY:∀fr',eM G fr fr'->jm (mX kn G) fr':=λfr' ho=>hkn.adS G ho;split at h
   ·rename_i b hb;have qS:=hkn s b hb;cases Ws:(b==want)<;>simp only[Ws,xap,xag]at h
    ·have pC:b= !want:=by cases b<;>cases want<;>simp_all
     subst pC;refine oI G [] fr a hdG PN XW qS (λt ht=>by simp at ht) ha λa' er=>?_;refine cM f q cur _ R _ H K KP h (n6 _ (dm G fr)) (NY _ (dm G fr)) a' w er hw rest Q (λa2 w2 Ge tT H2 k1 k2 k3 k5 k4=>hk a2 w2 Ge tT H2 k1 k2 ?_ k5 k4) hp;intro x hx;have hx':=hx;rw[<-LY,cj,xaG]at hx';rw[k3 x hx'.2,dm G fr x hx'.1]
    have pC:b=want:=by cases b<;>cases want<;>simp_all
    subst pC;refine cM f q o.guard kn G fr H _ KP h ?_ hkn a w ha hw (R++rest) Q ?_ hp
    ·rw[hog];exact⟨s,kP,qS,PN⟩
    intro a' w' qQ fr' H' g1 g2 g3 g5 g4;refine cM f q cur qQ R fr' H' K KP g4 (n6 fr' g3) g5 a' w' g1 g2 rest Q (λa2 w2 Ge tT H2 k1 k2 k3 k5 k4=>hk a2 w2 Ge tT H2 k1 k2 ?_ k5 k4) hp;intro x hx;have hx':=hx;rw[<-LY,cj,xaG]at hx';rw[k3 x hx'.2,g3 x hx'.1]
   rename_i ZD;cases hqq:(q||gq)<;>simp only[hqq,xap,xag]at h
   case true=>
    split at h<;>try exact h.elim
    rename_i p r' ;have hpg:cF p.guard cur=true:=by
     have:∀l:List Oper,ju cur l=p::r'->cF p.guard cur=true:=by
      intro l;induction l with
      |nil=>intro e;simp[ju]at e
      |cons x y ih=>
       intro e;simp only[ju]at e;cases hx:cF x.guard cur<;>simp only[hx,xap,xag]at e
       ·exact ih e
       simp only[xax]at e;rw[<-e.1];exact hx
     exact this _ hR
    cases hpk:(sO p&&eH n p.dst)<;>simp only[hpk,xap,xag]at h;simp only[xay]at hpk;obtain⟨b,t,qS,h1,h2,h3⟩:=h;have ik:∀(a':Act) (w':World) (fr':Fr),cE ds n a' fr'->Own g H w'->eM G fr fr'->qs p fr'=.bool t->wpList P ops Q (p::r'++rest) a' w':=by
     intro a' w' fr' er eP ho Zu;have pL:=(n6 fr' ho).wanted (jz hpg) er;simp only[xaP,wpList,pL,xa7];refine .inl ?_;unfold Oper.wp;rw[er.eval,qq hpk.1 Zu w'];have Sj:Bm G fr' fr=fr':=by
      funext x
      simp only[Bm];cases hx:bQ G x
      ·exact(ho x hx).symm
      rfl
     have zG:=h3 fr';rw[Sj]at zG;refine cM f q cur _ r' _ H K KP zG ((n6 fr' ho).tail λs hs=>gi hs) ((NY fr' ho).del _ _) _ w' (er.put hpk.2 _) eP rest Q (λa2 w2 Ge tT H2 g1 g2 g3 g5 g4=>hk a2 w2 Ge tT H2 g1 g2 ?_ g5 g4) hp;intro x hx;have hx':=hx;rw[<-LY,cj,xaG,dN,xaG]at hx';rw[g3 x hx'.2.2,gi hx'.2.1,ho x hx'.1]
    by_cases Ws:b=want
    ·subst Ws;have sX:=h1 rfl;rw[lz qS]at sX;refine cM f true o.guard _ G fr H _ _ sX ?_ (hkn.put qS) a w ha hw (p::r'++rest) Q ?_ ?_
     ·rw[hog];exact⟨s,kP,qS,PN⟩
     ·intro a' w' qQ fr' H' g1 g2 g3 _ ⟨g4,g5⟩;subst g4;exact ik a' w' fr' g1 g2 g3 g5
     intro _ _ _ _ _ _ _ h0;exact h0.elim
    have pC:b= !want:=by cases b<;>cases want<;>simp_all
    have o9:=h2 pC;subst pC;rw[lz qS]at o9;refine oI G [] fr a hdG PN XW qS (λt ht=>by simp at ht) ha λa' er=>?_;exact ik a' w _ er hw (dm G fr) o9
   case false=>
    obtain⟨b,qS,h1,h2⟩:=h;by_cases Ws:b=want
    ·subst Ws;have sX:=h1 rfl;rw[lz qS]at sX;refine cM f q o.guard _ G fr H _ KP sX ?_ (hkn.put qS) a w ha hw (R++rest) Q ?_ hp
     ·rw[hog];exact⟨s,kP,qS,PN⟩
     intro a' w' qQ fr' H' g1 g2 g3 g5 g4;refine cM f q cur qQ R fr' H' K KP g4 (n6 fr' g3) g5 a' w' g1 g2 rest Q (λa2 w2 Ge tT H2 k1 k2 k3 k5 k4=>hk a2 w2 Ge tT H2 k1 k2 ?_ k5 k4) hp;intro x hx;have hx':=hx;rw[<-LY,cj,xaG]at hx';rw[k3 x hx'.2,g3 x hx'.1]
    have pC:b= !want:=by cases b<;>cases want<;>simp_all
    have o9:=h2 pC;subst pC;rw[lz qS]at o9;refine oI G [] fr a hdG PN XW qS (λt ht=>by simp at ht) ha λa' er=>?_;refine cM f q cur _ R _ H K KP o9 (n6 _ (dm G fr)) ((NY _ (dm G fr)).put (by rw[dm G fr s PN,qS])) a' w er hw rest Q (λa2 w2 Ge tT H2 k1 k2 k3 k5 k4=>hk a2 w2 Ge tT H2 k1 k2 ?_ k5 k4) hp;intro x hx;have hx':=hx;rw[<-LY,cj,xaG]at hx';rw[k3 x hx'.2,dm G fr x hx'.1]
theorem dQ{n:Nat}{ops:Array Oper}{gq:Bool}:∀(f:Nat) (cur:Option (Nat×Bool)) (kn:List (Nat×Bool)) (l:List Oper) (fr:Fr) (H:Hp) (K:List (Nat×Bool)->Fr->Hp->Prop) (KP:List PanicEntry->Hp->Prop),
  eV P g n ops gq f true cur kn l fr H K KP->mC ops cur l fr->jm kn fr->∀(a:Act),cE ds n a fr->∀(rest:List Oper) (Q:Act->Prop),
  (∀a' qQ fr',cE ds n a' fr'->eM l fr fr'->jm qQ fr'->K qQ fr' H->wpQuiet P ops (Own g H) Q rest a')->wpQuiet P ops (Own g H) Q (l++rest) a
 |0,_,_,_,_,_,_,_,h=>h.elim
 |f+1,cur,kn,[],fr,H,K,KP,h=>λ_ hkn a ha rest Q hk=>hk a kn fr ha (eM.refl _ _) hkn h
 |f+1,cur,kn,o::r,fr,H,K,KP,h=>by
  intro mg hkn a ha rest Q hk;unfold eV at h;cases hsg:cF o.guard cur<;>simp only[hsg,xap,xag]at h
  case true=>
   have hg:=jz hsg;have pL:=mg.wanted hg ha;cases hd:eH n o.dst<;>simp only[hd,xap,xag]at h;simp only[xaP,wpQuiet,pL,xa7];cases Be:wj o.op<;>simp only[Be,xap,xag]at h
   case true=>
    obtain⟨v,hk',hr,hv⟩:=oV h;refine⟨v,λw hw=>?_,?_⟩
    ·unfold Oper.quietAt;rw[ha.eval,hr w hw];exact⟨rfl,rfl⟩
    exact dQ f cur _ r _ H K KP hk' (mg.tail λs hs=>gi hs) (hkn.up hv) _ (ha.put hd v) rest Q (λa' qQ fr' h1 h3 h5 h4=>hk a' qQ fr' h1 h3.cons h5 h4)
   case false=>
    obtain⟨v,f',args,hr,hs,hk'⟩:=Lw h;refine⟨v,λw hw=>?_,?_⟩
    ·unfold Oper.quietAt;rw[ha.eval,hr w];refine⟨rfl,(hs w hw).mono λe w'' ⟨H',ho,he,hH⟩=>?_⟩;subst hH;exact⟨he,ho⟩
    exact dQ f cur _ r _ H K KP hk' (mg.tail λs hs=>gi hs) (hkn.del _ _) _ (ha.put hd v) rest Q (λa' qQ fr' h1 h3 h5 h4=>hk a' qQ fr' h1 h3.cons h5 h4)
  case false=>
   split at h<;>try exact h.elim
   rename_i j want hog;split at h<;>try exact h.elim
   rename_i s kP;generalize hG:ir cur (o::r)=G at h;generalize hR:ju cur (o::r)=R at h;have LY:G++R=o::r:=by rw[<-hG,<-hR];exact tA _ _
   cases fE:(eH n (some s) &&jd n G&& !bQ G s&&nO ops s want [] G)<;>simp only[fE,xap,xag]at h;simp only[xay,xbE]at fE;obtain⟨⟨⟨hds,hdG⟩,PN⟩,XW⟩:=fE;rw[<-LY,xaj];have n6:∀fr',eM G fr fr'->mC ops cur R fr':=λfr' ho=>by
    unfold mC at mg⊢;split
    ·trivial
    obtain⟨t,h1,h2,h3⟩:=mg;have zG:=h3;rw[<-LY,cj,xaG]at zG;exact⟨t,h1,(ho t zG.1).trans h2,zG.2⟩
   have NY:∀fr',eM G fr fr'->jm (mX kn G) fr':=λfr' ho=>hkn.adS G ho;split at h
   ·rename_i b hb;have qS:=hkn s b hb;cases Ws:(b==want)<;>simp only[Ws,xap,xag]at h
    ·have pC:b= !want:=by cases b<;>cases want<;>simp_all
     subst pC;refine p9 G [] fr a hdG PN XW qS (λt ht=>by simp at ht) ha λa' er=>?_;refine dQ f cur _ R _ H K KP h (n6 _ (dm G fr)) (NY _ (dm G fr)) a' er rest Q (λa2 Ge tT k1 k3 k5 k4=>hk a2 Ge tT k1 ?_ k5 k4);intro x hx;have hx':=hx;rw[<-LY,cj,xaG]at hx';rw[k3 x hx'.2,dm G fr x hx'.1]
    have pC:b=want:=by cases b<;>cases want<;>simp_all
    subst pC;refine dQ f o.guard kn G fr H _ KP h ?_ hkn a ha (R++rest) Q ?_
    ·rw[hog];exact⟨s,kP,qS,PN⟩
    intro a' qQ fr' g1 g3 g5 g4;refine dQ f cur qQ R fr' H K KP g4 (n6 fr' g3) g5 a' g1 rest Q (λa2 Ge tT k1 k3 k5 k4=>hk a2 Ge tT k1 ?_ k5 k4);intro x hx;have hx':=hx;rw[<-LY,cj,xaG]at hx';rw[k3 x hx'.2,g3 x hx'.1]
   rename_i ZD;simp only[Bool.true_or,xap]at h;split at h<;>try exact h.elim
   rename_i p r' ;have hpg:cF p.guard cur=true:=by
    have:∀l:List Oper,ju cur l=p::r'->cF p.guard cur=true:=by
     intro l;induction l with
     |nil=>intro e;simp[ju]at e
     |cons x y ih=>
      intro e;simp only[ju]at e;cases hx:cF x.guard cur<;>simp only[hx,xap,xag]at e
      ·exact ih e
      simp only[xax]at e;rw[<-e.1];exact hx
    exact this _ hR
   cases hpk:(sO p&&eH n p.dst)<;>simp only[hpk,xap,xag]at h;simp only[xay]at hpk;obtain⟨b,t,qS,h1,h2,h3⟩:=h;have ik:∀(a':Act) (fr':Fr),cE ds n a' fr'->eM G fr fr'->qs p fr'=.bool t->wpQuiet P ops (Own g H) Q (p::r'++rest) a':=by
    intro a' fr' er ho Zu;have pL:=(n6 fr' ho).wanted (jz hpg) er;simp only[xaP,wpQuiet,pL,xa7];refine⟨.bool t,λw hw=>?_,?_⟩
    ·unfold Oper.quietAt;rw[er.eval,qq hpk.1 Zu w];exact⟨rfl,rfl⟩
    have Sj:Bm G fr' fr=fr':=by
     funext x
     simp only[Bm];cases hx:bQ G x
     ·exact(ho x hx).symm
     rfl
    have zG:=h3 fr';rw[Sj]at zG;refine dQ f cur _ r' _ H K KP zG ((n6 fr' ho).tail λs hs=>gi hs) ((NY fr' ho).del _ _) _ (er.put hpk.2 _) rest Q (λa2 Ge tT g1 g3 g5 g4=>hk a2 Ge tT g1 ?_ g5 g4);intro x hx;have hx':=hx;rw[<-LY,cj,xaG,dN,xaG]at hx';rw[g3 x hx'.2.2,gi hx'.2.1,ho x hx'.1]
   by_cases Ws:b=want
   ·subst Ws;have sX:=h1 rfl;rw[lz qS]at sX;refine dQ f o.guard _ G fr H _ _ sX ?_ (hkn.put qS) a ha (p::r'++rest) Q ?_
    ·rw[hog];exact⟨s,kP,qS,PN⟩
    intro a' qQ fr' g1 g3 _ ⟨_,g5⟩;exact ik a' fr' g1 g3 g5
   have pC:b= !want:=by cases b<;>cases want<;>simp_all
   have o9:=h2 pC;subst pC;rw[lz qS]at o9;refine p9 G [] fr a hdG PN XW qS (λt ht=>by simp at ht) ha λa' er=>?_;exact ik a' _ er (dm G fr) o9
end
end Go.Sx
namespace Go.Sx
open Go
section
variable {P:Program} {ops:Array Oper} {Q:Exit->Act->World->Prop} {md:Region.Mode} {S:Nat->World->World->Prop} {S0:World->Prop}
def di(P:Program)(md:Region.Mode)(ops:Array Oper)(Q:Exit->Act->World->Prop)(S:Nat->World->World->Prop):Nat->Array Bool->Act->World->Prop
 |0,listed,a,w=>Region.ready md ops listed=[]/\Q .normal a w
 |n+1,listed,a,w=>(Region.ready md ops listed=[]->Q .normal a w)/\
  ∀i∈Region.ready md ops listed,wpOp P ops Q i (λa' w'=>S i w w'/\di P md ops Q S n (listed.setIfInBounds i true) a' w') a w
theorem di.any:∀{n:Nat} {listed:Array Bool} {a:Act} {w:World},di P md ops Q S n listed a w->wpAny P md ops Q n listed a w
 |0,_,_,_,h=>h
 |_+1,_,_,_,h=>⟨h.1,λi hi=>wpOp_mono (λ_ _ h'=>h'.2.any) (h.2 i hi)⟩
theorem di.mono{S':Nat->World->World->Prop}(hS:∀j w w',S j w w'->S' j w w'):∀{n:Nat} {listed:Array Bool} {a:Act} {w:World},di P md ops Q S n listed a w->di P md ops Q S' n listed a w
 |0,_,_,_,h=>h
 |_+1,_,_,_,h=>⟨h.1,λi hi=>wpOp_mono (λ_ _ h'=>⟨hS _ _ _ h'.1,h'.2.mono hS⟩) (h.2 i hi)⟩
def Rk(md:Region.Mode)(ops:Array Oper)(i j:Nat):Prop:=∀oj,ops[j]? =some oj->∀e∈oj.after,Region.binds md e=true->e.on≠i
def fw(md:Region.Mode)(ops:Array Oper)(listed:Array Bool):Prop:=∀j oj,ops[j]? =some oj->listed.getD j true=true->∀e∈oj.after,Region.binds md e=true->listed.getD e.on true=true
inductive ou(md:Region.Mode)(ops:Array Oper)(i:Nat):Nat->Prop
 |one {j:Nat} {oj:Oper} {e:Edge}:ops[j]? =some oj->e∈oj.after->Region.binds md e=true->e.on=i->ou md ops i j
 |more {j:Nat} {oj:Oper} {e:Edge}:ops[j]? =some oj->e∈oj.after->Region.binds md e=true->ou md ops i e.on->ou md ops i j
theorem Bl{a:Array Bool}{i:Nat}(h:a.getD i false=true):a.getD i true=true:=by
 rw[xas]at*;cases hg:a[i]? with
 |none=>rfl
 |some b=>rw[hg]at h;simpa using h
theorem tQ{a:Array Bool}{i k:Nat}(h:a.getD k true=true):(a.setIfInBounds i true).getD k true=true:=by
 by_cases e:i=k
 ·subst e;rw[xas,xdU];split<;>rfl
 rw[getD_set_ne true e];exact h
theorem fw.waits{listed:Array Bool}(hc:fw md ops listed){i j:Nat}(h:ou md ops i j):listed.getD j true=true->listed.getD i true=true:=by
 induction h with
 |one h1 h2 h3 h4=>intro h;rw[<-h4];exact hc _ _ h1 h _ h2 h3
 |more h1 h2 h3 _ ih=>intro h;exact ih (hc _ _ h1 h _ h2 h3)
theorem fw.ready{listed:Array Bool}(hc:fw md ops listed){i j:Nat}(hj:j∈Region.ready md ops listed)(h:ou md ops i j):listed.getD i true=true:=by
 obtain⟨_,oj,js,aJ⟩:=mem_ready.1 hj;cases h with
 |one h1 h2 h3 h4=>rw[js]at h1;cases h1;rw[<-h4];exact Bl (aJ _ h2 h3)
 |more h1 h2 h3 h4=>rw[js]at h1;cases h1;exact hc.waits h4 (Bl (aJ _ h2 h3))
theorem fw.step{listed:Array Bool}(hc:fw md ops listed){j:Nat}(hj:j∈Region.ready md ops listed):fw md ops (listed.setIfInBounds j true):=by
 intro k ok hk hl e he hb;by_cases Wn:j=k
 ·subst Wn;obtain⟨_,oj,js,aJ⟩:=mem_ready.1 hj;rw[hk]at js;cases js;exact tQ (Bl (aJ e he hb))
 rw[getD_set_ne true Wn]at hl;exact tQ (hc k ok hk hl e he hb)
theorem fw.none(n:Nat)(h:ops.size=n):fw md ops (Array.replicate n false):=by
 intro j oj hj hl;exfalso;have hlt:=(xaU.1 hj).1;rw[xas,xc5,xae zO]at hl;cases hl
theorem di.first{i:Nat}{oi:Oper}{v:zV}(hi:ops[i]? =some oi)(hsel:Region.noSelect ops=true)(hQ:∀c a w,Q (.panic c) (a.put oi.dst v) w->Q (.panic c) a w)
 (hSi:∀w,S0 w->S i w w)(hS:∀j oj w w',ops[j]? =some oj->j≠i->¬ou md ops i j->S0 w->S j w w'->S0 w'):∀(n:Nat) (listed:Array Bool) (a:Act) (w:World),fw md ops listed->
   (∀j oj,ops[j]? =some oj->j≠i->listed.getD j true=false->Rk md ops i j->oi.apart ops oj=true)->i∈Region.ready md ops listed->YieldsIf P ops S0 oi v a->S0 w->
   di P md ops Q S n (listed.setIfInBounds i true) (a.put oi.dst v) w->di P md ops Q S (n+1) listed a w:=by
 have sel:=Region.noSelect_spec hsel;intro n;induction n with
 |zero=>
  intro listed a w hc hfree hr hy h0 h;refine⟨λe=>absurd hr (by rw[e];simp),λj hj=>?_⟩;by_cases e:j=i
  ·rw[e];exact hy.wpOp hi h0 ⟨hSi _ h0,h⟩
  exact absurd (ready_mono hj e) (by rw[h.1];simp)
 |succ n ih=>
  intro listed a w hc hfree hr hy h0 h;refine⟨λe=>absurd hr (by rw[e];simp),λj hj=>?_⟩;by_cases e:j=i
  ·rw[e];exact hy.wpOp hi h0 ⟨hSi _ h0,h⟩
  obtain⟨hun,oj,js,aJ⟩:=mem_ready.1 hj;have hno:Rk md ops i j:=λo ho x hx hb he=>by
   rw[js]at ho;cases ho;have h1:=aJ x hx hb;have h2:=(mem_ready.1 hr).1;rw[he]at h1;rw[xas]at h1 h2;cases hg:listed[i]? with
   |none=>rw[hg]at h1;simp at h1
   |some y=>rw[hg]at h1 h2;simp at h1 h2;rw[h2]at h1;cases h1
  have hnw:¬ou md ops i j:=λhw=>by
   have h1:=hc.ready hj hw;rw[(mem_ready.1 hr).1]at h1;cases h1
  refine wpOp_mono ?_ (wpOp_putIf js (hfree j oj js e hun hno) (λcs b=>sel i oi cs b hi) (λcs b=>sel j oj cs b js) hQ hy (h.2 j (ready_mono hj e)));rintro a' w' ⟨hy',hs',jr⟩;refine⟨hs',ih _ _ _ (hc.step hj) (λk ok hk ZG V5 DP=>hfree k ok hk ZG ?_ DP) (ready_mono hr (xbb e)) hy' (hS j oj w w' js e hnw h0 hs') (by rw[Array.setIfInBounds_comm _ _ e];exact jr)⟩;by_cases Wn:j=k
  ·rw[<-Wn];exact hun
  rw[<-V5,getD_set_ne true Wn]
theorem di.take{i:Nat}{oi:Oper}{v:zV}{n:Nat}{listed:Array Bool}{a:Act}{w:World}(hc:fw md ops listed)(hi:ops[i]? =some oi)(hsel:Region.noSelect ops=true)(hf:Region.free md ops listed i=true)
 (hr:(Region.ready md ops listed).contains i=true)(hQ:∀c a w,Q (.panic c) (a.put oi.dst v) w->Q (.panic c) a w)(hSi:∀w,S0 w->S i w w)(hS:∀j oj w w',ops[j]? =some oj->j≠i->¬ou md ops i j->S0 w->S j w w'->S0 w')
 (hy:YieldsIf P ops S0 oi v a)(h0:S0 w)(h:di P md ops Q S n (listed.setIfInBounds i true) (a.put oi.dst v) w):di P md ops Q S (n+1) listed a w:=
 di.first hi hsel hQ hSi hS n listed a w hc (λj oj h1 h2 h3 h4=>Region.free_spec hi hf j oj h1 h2 h3 (h4 oj h1)) (by simpa using hr) hy h0 h
theorem di.all{rs:zL}{n:Nat}{listed:Array Bool}{a:Act}{w:World}(hr:Region.ready md ops listed=rs)(hne:rs≠[])
 (h:∀i∈rs,wpOp P ops Q i (λa' w'=>S i w w'/\di P md ops Q S n (listed.setIfInBounds i true) a' w') a w):di P md ops Q S (n+1) listed a w:=
 ⟨λh0=>absurd (hr▸h0) hne,hr▸h⟩
theorem di.done{listed:Array Bool}{a:Act}{w:World}(hr:Region.ready md ops listed=[])(h:Q .normal a w):∀n,di P md ops Q S n listed a w
 |0=>⟨hr,h⟩
 |_+1=>⟨λ_=>h,by rw[hr];simp⟩
def onB(j:Oper)(i:Nat):Bool:=j.after.toList.any λe=>Nat.beq e.on i&&Region.binds .any e
def isN(P:Program):Op->Bool
 | .move _| .assign _| .pick .. | .nilCheck _| .fieldAddr .. | .field .. | .indexAddr .. | .unOp .. =>true
 | .slice t _ _ _ none=>match P.underlying t with|some (.slice _)=>true|_=>false
 | .binOp _ t _ _ _=>match P.underlying t with
  |some d=>match BA d with| .other=>false|_=>true
  |none=>true
 |_=>false
theorem Dd{g:Gh}{o:Oper}(h:isN P o.op=true)(ρ:Operand->zV)(H H':Hp)(k:zV->Prop):AZ P g o ρ H k=AZ P g o ρ H' k:=by
 obtain⟨d,op,t,p,a,gd⟩:=o;cases op<;>first|rfl|(simp only[isN]at h;first|cases h|skip)
 case binOp op t x y z=>
  simp only[AZ];cases hu:P.underlying t with
  |none=>rfl
  |some d=>
   simp only[hu]at h;cases hb:BA d<;>simp only[hb]at h⊢;cases h
 case slice t x lo hi m=>
  cases m with
  |none=>
   simp only[AZ];cases hu:P.underlying t with
   |none=>simp[hu]at h
   |some d=>cases d<;>first|rfl|(exfalso;simp[hu]at h)
  |some m=>cases h
def yd(P:Program)(o:Op):Bool:=wj o&& !isN P o
def LA(P:Program)(ops:Array Oper)(j:Nat):Bool:=match ops[j]? with
 |some oj=>(List.range ops.size).any λi=>match ops[i]? with|some oi=>yd P oi.op&& !onB oj i&& !Nat.beq i j|none=>false
 |none=>true
def pX(ops:Array Oper)(i:Nat):Nat->Nat->Bool
 |0,_=>false
 |n+1,j=>match ops[j]? with
  |some oj=>oj.after.toList.any λe=>Region.binds .any e&& (Nat.beq e.on i||pX ops i n e.on)
  |none=>false
theorem tw{i:Nat}:∀{n j:Nat},pX ops i n j=true->ou .any ops i j
 |0,j,h=>by simp[pX]at h
 |n+1,j,h=>by
  unfold pX at h;split at h
  ·rename_i oj js;obtain⟨e,he,h2⟩:=xcz.1 h;simp only[xay,xbq]at h2;rcases h2.2 with h3|h3
   ·exact .one js (xc2.1 he) h2.1 (xaI h3)
   exact .more js (xc2.1 he) h2.1 (tw h3)
  cases h
def tF(P:Program)(ops:Array Oper)(j:Nat):Bool:=(List.range ops.size).any λi=>match ops[i]? with|some oi=>yd P oi.op&& !pX ops i 6 j&& !Nat.beq i j|none=>false
def Mw(P:Program)(g:Gh)(R:Hp)(ops:Array Oper)(j:Nat)(w w':World):Prop:=∀oj,ops[j]? =some oj->(wj oj.op=true->w'=w)/\(wj oj.op=false->Own g [] w'/\(tF P ops j=true->Own g R w->Own g R w'))
def qO(P:Program)(g:Gh)(Xs:List Hp)(ops:Array Oper)(j:Nat)(w w':World):Prop:=∀X∈Xs,Mw P g X ops j w w'
theorem mU{i j:Nat}{oi:Oper}(hi:ops[i]? =some oi)(hp:yd P oi.op=true)(hne:j≠i)(h:¬ou .any ops i j):tF P ops j=true:=by
 unfold tF;rw[xcz];refine⟨i,xaM.2 (xaU.1 hi).1,?_⟩;simp only[hi,hp,xcp,xay,xbE];refine⟨?_,?_⟩
 ·cases hb:pX ops i 6 j
  ·rfl
  exact absurd (tw hb) h
 cases hb:Nat.beq i j
 ·rfl
 exact absurd (xaI hb).symm hne
theorem vS{j:Nat}(h:tF P ops j=true):LA P ops j=true:=by
 unfold tF at h;obtain⟨i,hi,h2⟩:=xcz.1 h;unfold LA;split
 ·rename_i oj js;refine xcz.2 ⟨i,hi,?_⟩;split at h2
  ·rename_i oi o7;simp only[xay,xbE]at h2⊢;refine⟨⟨h2.1.1,?_⟩,h2.2⟩;cases hb:onB oj i
   ·rfl
   have h3:=h2.1.2;unfold pX at h3;simp only[js]at h3;unfold onB at hb;obtain⟨e,he,h4⟩:=xcz.1 hb;rw[<-xeo,xcz]at h3;refine absurd ⟨e,he,?_⟩ h3;simp only[xay,xbq]at h4⊢;exact⟨h4.2,.inl h4.1⟩
  cases h2
 rfl
end
end Go.Sx
namespace Go.Sx
open Go
section
variable {P:Program} {g:Gh} {ds:List Deferred}
def MB(b:Bool)(p q:Prop):Prop:=cond b (p/\q) q
theorem MB.of{b:Bool}{p q:Prop}(h:MB b p q):(b=true->p)/\q:=by
  cases b
  · exact⟨λe=>(by cases e),h⟩
  · exact⟨λ_=>h.1,h.2⟩
def Rn(P:Program)(ops:Array Oper)(T:zL)(i:Nat):Bool:=cond T.isEmpty (LA P ops i) (tF P ops i)
theorem Rl{ops:Array Oper}{T:zL}{i:Nat}(h:tF P ops i=true):Rn P ops T i=true:=by
  unfold Rn;cases T.isEmpty
  · exact h
  · exact vS h
def Ou(P:Program)(g:Gh)(n:Nat)(ops:Array Oper)(R:Hp)(K:Fr->Hp->Prop):zL->Array Bool->Fr->Hp->Prop
  | [],listed,fr,H=>cond (Region.ready .any ops listed).isEmpty (K fr H) False
  |i::r,listed,fr,H=>
    match ops[i]? with
    |none=>False
    |some o=>
      cond (eH n o.dst&&o.guard.isNone)
        (cond (wj o.op)
          (cond (Region.free .any ops listed i&& (Region.ready .any ops listed).contains i)
            (AZ P g o (ev fr) R λv=>Ou P g n ops R K r (listed.setIfInBounds i true) (bt fr o.dst v) H) False)
          (cond (Region.ready .any ops listed==[i])
            (Ny P g o (ev fr) H (λv H'=>MB (LA P ops i) (aN H' R) (Ou P g n ops R K r (listed.setIfInBounds i true) (bt fr o.dst v) H')) (λ_ _=>False)) False)) False
def sb(Q:Exit->Act->World->Prop):Exit->Act->World->Prop
  | .panic _,_,_=>False
  |e,a,w=>Q e a w
theorem kG{o:Oper}(h:o.guard.isNone=true)(y:Nat->Option Bool):Region.wanted o y=true:=by
  unfold Region.wanted;cases hg:o.guard<;>simp_all
theorem Own.aZ{g:Gh}{H:Hp}{w:World}(h:Own g H w):Own g [] w:=Own.right (A:=H) (B:=[]) (by simpa using h)
theorem gA{listed:Array Bool}{i k:Nat}(hun:listed.getD i true=false)(h:(listed.setIfInBounds i true).getD k true=false):listed.getD k true=false:=by
  by_cases e:i=k
  · rw[<-e];exact hun
  · rwa [getD_set_ne true e]at h
theorem rX{n:Nat}{ops:Array Oper}{R:Hp}{K:Fr->Hp->Prop}{Q:Exit->Act->World->Prop}(hs:Region.noSelect ops=true)(ym:Fr)
   (hk:∀a w fr H,cE ds n a fr->Own g H w->eM ops.toList ym fr->K fr H->Q .normal a w):
    ∀(l:zL) (listed:Array Bool) (fr:Fr) (H:Hp),Ou P g n ops R K l listed fr H->∀(fuel:Nat),l.length<=fuel->fw .any ops listed->∀(a:Act) (w:World),cE ds n a fr->Own g H w->((∃k ok,ops[k]? =some ok/\yd P ok.op=true/\listed.getD k true=false)->Own g R w)->eM ops.toList ym fr->
      di P .any ops (sb Q) (Mw P g R ops) fuel listed a w
  | [],listed,fr,H,h=>by
    intro fuel _ jH a w ha hw hR ho;unfold Ou at h;cases hr:(Region.ready .any ops listed).isEmpty<;>simp only[hr,xap,xag]at h;exact di.done (Q:=sb Q) (by simpa using hr) (hk a w fr H ha hw ho h) fuel
  |i::r,listed,fr,H,h=>by
    intro fuel hfuel jH a w ha hw hR ho;unfold Ou at h;split at h<;>try exact h.elim
    rename_i o o7;have hmem:o∈ops.toList:=xc2.2 (Array.mem_of_getElem? o7);have hout:∀v,eM ops.toList ym (bt fr o.dst v):=λv s hs'=>by
      rw[gi,ho s hs'];have:∀l:List Oper,o∈l->bQ l s=false->bQ [({(default:Oper)with dst:=o.dst})] s=false:=by
        intro l;induction l with
        |nil=>intro h;simp at h
        |cons x y ih=>
          intro hm hi;rw[dN,xaG]at hi;rcases xal.1 hm with rfl|hm
          · exact hi.1
          · exact ih hm hi.2
      exact this _ hmem hs'
    cases hc:(eH n o.dst&&o.guard.isNone)<;>simp only[hc,xap,xag]at h;simp only[xay]at hc;obtain⟨fuel,rfl⟩:∃f,fuel=f+1:=⟨fuel-1,by simp only[xaB]at hfuel;omega⟩;have Gx:r.length<=fuel:=by simp only[xaB]at hfuel;omega
    cases Be:wj o.op<;>simp only[Be,xap,xag]at h
    case true=>
      cases kQ:(Region.free .any ops listed i&& (Region.ready .any ops listed).contains i)<;>simp only[kQ,xap,xag]at h;simp only[xay]at kQ;have hun:=(mem_ready.1 (by simpa using kQ.2:i∈Region.ready .any ops listed)).1;have iW:∀w,Mw P g R ops i w w:=λw oj nB=>⟨λ_=>rfl,λhn=>(by rw[o7]at nB;cases nB;rw[Be]at hn;cases hn)⟩;cases hn:isN P o.op
      case true=>
        rw[Dd hn (ev fr) R []]at h;obtain⟨v,hk',hr⟩:=lT h;refine di.take jH (S0:=Own g []) o7 hs kQ.1 kQ.2 (λ_ _ _ h=>h) (λw _=>iW w) (λj oj w w' js hj hno h0 hk=>?_) (.inl ⟨kG hc.2 _,λw' eP=>by rw[ha.eval];exact hr w' eP⟩) hw.aZ ?_
        · cases Bc:wj oj.op
          · exact((hk oj js).2 Bc).1
          · rw[(hk oj js).1 Bc];exact h0
        · refine rX hs ym hk r _ _ H hk' fuel Gx (jH.step (by simpa using kQ.2)) _ w (ha.put hc.1 v) hw ?_ (hout v)
          rintro⟨k,ok,ux,rO,pM⟩;exact hR ⟨k,ok,ux,rO,gA hun pM⟩
      case false=>
        obtain⟨v,hk',hr⟩:=lT h;have hrd:yd P o.op=true:=by simp[yd,Be,hn]
        have PU:Own g R w:=hR ⟨i,o,o7,hrd,hun⟩;refine di.take jH (S0:=Own g R) o7 hs kQ.1 kQ.2 (λ_ _ _ h=>h) (λw _=>iW w) (λj oj w w' js hj hno h0 hk=>?_) (.inl ⟨kG hc.2 _,λw' eP=>by rw[ha.eval];exact hr w' eP⟩) PU ?_
        · cases Bc:wj oj.op
          · exact((hk oj js).2 Bc).2 (mU o7 hrd hj hno) h0
          · rw[(hk oj js).1 Bc];exact h0
        · exact rX hs ym hk r _ _ H hk' fuel Gx (jH.step (by simpa using kQ.2)) _ w (ha.put hc.1 v) hw (λ_=>PU) (hout v)
    case false=>
      cases kQ:(Region.ready .any ops listed==[i])<;>simp only[kQ,xap,xag]at h;have hrd:=xcR.1 kQ;have EY:i∈Region.ready .any ops listed:=by rw[hrd];simp
      refine di.all hrd zI λj hj=>?_;simp only[xaz]at hj;subst hj;unfold wpOp;simp only[o7,kG hc.2,xa7];refine .inl ?_;unfold Oper.wp;rw[ha.eval];refine(vP (pe fr) h w hw).upon (λv H' w' cC hb=>?_) (λch H' w' _ h0=>h0.elim);obtain⟨he,hk'⟩:=hb.of;refine⟨λoj nB=>⟨λhp=>(by rw[o7]at nB;cases nB;rw[Be]at hp;cases hp),λ_=>⟨cC.aZ,λhn _=>he (vS hn) _ _ cC⟩⟩,rX hs ym hk r _ _ H' hk' fuel Gx (jH.step EY) _ w' (ha.put hc.1 v) cC ?_ (hout v)⟩;rintro⟨k,ok,ux,rO,pM⟩;refine he (vS ?_) _ _ cC;have ZG:j≠k:=λe=>by
        subst e;rw[xas,xdU]at pM;have:=(mem_ready.1 EY).1;rw[xas]at this;split at pM
        · simp at pM
        · rename_i hlt;rw[xcv zO]at this;simp at this
      rw[getD_set_ne true ZG]at pM;refine mU ux rO ZG λhw=>?_;rw[jH.ready EY hw]at pM;cases pM
abbrev Mk:=Obj×(Nat->zV)
def T9(elem size bytes:Nat)(zero:zV)(l c:zV)(k:Mk->Prop):Prop:=
  ∃kl kc ln cn,l=.int kl (ln:Nat)/\c=.int kc (cn:Nat)/\ln<=cn/\(cn:Int)<=9223372036854775807/\cn*bytes<=281474976710656/\
    k (.cells (madeCells zero.cells (cn*size)) elem (0,0),λb=>.slice (some ⟨b,0,none⟩) ln cn)
def Uf(P:Program)(t len:Nat)(parts:List (Nat×zV))(k:Mk->Prop):Prop:=
  ∃cs e n z,P.underlying t=some (.slice e)/\dL P e=some n/\fK P e=some z/\len*n<=2^24/\
      Instr.fill (λi=>some (i*n,n)) ((Array.range (len*n)).map (z.cells[· %z.cells.size]!)) parts=some cs/\k (.cells cs e (0,0),λb=>.slice (some ⟨b,0,none⟩) len len)
def Claim(P:Program)(o:Oper)(ρ:Operand->zV)(k:Mk->Prop):Prop:=
  match o.op with
  | .alloc t=>match fK P t with
    |some z=>k (.cells z.cells t (0,0),λb=>.pointer (some ⟨b,0,none⟩))
    |none=>False
  | .makeMap _ none=>k (.map #[] 0,λb=>.map (some b))
  | .makeSlice t l c=>match P.underlying t with
    |some (.slice e)=>match dL P e,wX P e,fK P e with
      |some n,some b,some z=>T9 e n b z (ρ l) (ρ c) k
      |_,_,_=>False
    |_=>False
  | .buildSlice t len parts=>Uf P t len (parts.toList.map λp=>(p.1,ρ p.2)) k
  |_=>False
def Ao(P:Program)(o:Oper)(ρ:Operand->zV)(x:Mk):Prop:=∀w,(execOp ρ o).run P w=.ok (.value (x.2 w.heap.size)) (w.alloc x.1)
theorem Claim.makes{o:Oper}{ρ:Operand->zV}{k:Mk->Prop}(h:Claim P o ρ k):∃x,Ao P o ρ x/\k x:=by
  unfold Claim at h;split at h
  · rename_i t hop
    split at h<;>try exact h.elim
    rename_i z hz;obtain⟨i,hi,yg⟩:=cJ hz;refine⟨_,λw=>?_,h⟩;simp only[execOp,hop];simp[Instr.alloc,dV hi yg,newVar,newRow]
  · rename_i t hop
    refine⟨_,λw=>?_,h⟩;simp only[execOp,hop];simp[Instr.makeMap]
  · rename_i t l c hop
    split at h<;>try exact h.elim
    rename_i e ht;split at h<;>try exact h.elim
    rename_i n b z hn hb hz;obtain⟨i,hi,hin⟩:=bG hn;obtain⟨i',hi',yg⟩:=cJ hz;obtain⟨i2,LP,zv⟩:=om hb;have e1:i'=i:=xbp (hi'.symm.trans hi);have e2:i2=i:=xbp (LP.symm.trans hi);subst e1;subst e2;obtain⟨kl,kc,ln,cn,hl,hc,hlc,cD,hby,hk⟩:=h;subst hin;subst zv;refine⟨_,λw=>?_,hk⟩;have e1:IntKind.i64.wrap (ln:Int)=ln:=IntWalk.i64_in _ zO;have e2:IntKind.i64.wrap (cn:Int)=cn:=IntWalk.i64_in _ zO;have e3:¬((i2.bytes:Int)*(cn:Int)>281474976710656):=by
      have:((cn*i2.bytes:Nat):Int)<=281474976710656:=by omega
      rw[Int.mul_comm];push_cast at this;omega
    have e4:¬((cn:Int)<ln):=by omega
    simp only[execOp,hop];by_cases h0:cn*i2.size=0
    · simp[Instr.makeSlice,run_underlying ht,asInt,asIntOf,typeInfo,hi,hl,hc,e1,e2,e3,e4,sizeOf,zeroValue,yg,newRow,madeCells,h0,show¬((cn:Int)<0)from by omega,show¬((ln:Int)<0)from by omega]
      have:Array.range 0=#[]:=rfl;simp[this]
    · simp[Instr.makeSlice,run_underlying ht,asInt,asIntOf,typeInfo,hi,hl,hc,e1,e2,e3,e4,sizeOf,zeroValue,yg,newRow,madeCells,h0,show¬((cn:Int)<0)from by omega,show¬((ln:Int)<0)from by omega]
  · rename_i t len parts hop
    obtain⟨cs,e,n,z,ht,hn,hz,hl,hf,hk⟩:=h;obtain⟨i,hi,hin⟩:=bG hn;obtain⟨i',hi',yg⟩:=cJ hz;have:i'=i:=xbp (hi'.symm.trans hi);subst this;subst hin;refine⟨_,λw=>?_,hk⟩;have hl':¬(len*i'.size>2^24):=by omega
    have zu:(parts.map λ(x:Nat×Operand)=>(x.1,ρ x.2)).toList=parts.toList.map λp=>(p.1,ρ p.2):=by rw[xdX]
    by_cases h0:len*i'.size=0
    · simp only[execOp,hop,Instr.buildSlice,Sem.run_bind,run_underlying ht,Result.andThen_ok,run_sizeOf hi,hl',xa1,h0,xa7,Sem.run_pure]
      rw[h0]at hf;have Zt:Array.range 0=#[]:=rfl;simp only[Zt,xew,List.map_toArray,xb9]at hf⊢;rw[zu,hf];simp[newRow]
    · simp only[execOp,hop,Instr.buildSlice,Sem.run_bind,run_underlying ht,Result.andThen_ok,run_sizeOf hi,hl',xa1,h0,dV hi yg,Sem.run_pure]
      simp[hf,newRow]
  · exact h.elim
abbrev KT:=List (Nat×Mk)
def marks:KT->Nat->Array Bool->Array Bool
  | [],_,l=>l
  |x::r,i,l=>marks r i (cond (Nat.beq x.1 i) l (l.setIfInBounds x.1 true))
def fp(ops:Array Oper)(o:Oper)(i:Nat)(listed:Array Bool):KT->Bool
  | []=>true
  |x::r=>(Nat.beq x.1 i||listed.getD x.1 true||(match ops[x.1]? with|some of=>of.apart ops o|none=>false)) &&fp ops o i listed r
def fO:KT->Nat->Option Mk
  | [],_=>none
  |x::r,i=>cond (Nat.beq x.1 i) (some x.2) (fO r i)
def TX(listed:Array Bool):KT->Bool
  | []=>true
  |x::r=>listed.getD x.1 false&&TX listed r
inductive Hn
  |e
  |h(m:Nat)(L I:zL)(a b:Hn)
def Hn.m:Hn->Nat| .e=>0| .h m _ _ _ _=>m
def Hn.L:Hn->zL| .e=>[]| .h _ L _ _ _=>L
def Hn.I:Hn->zL| .e=>[]| .h _ _ I _ _=>I
def Hn.a:Hn->Hn| .e=>.e| .h _ _ _ a _=>a
def Hn.b:Hn->Hn| .e=>.e| .h _ _ _ _ b=>b
def Br(v:zV)(t f:Prop):Prop:=∃b,v=.bool b/\(b=true->t)/\(b=false->f)
def Ze(p:Oper)(fr:Fr):zV:=
  match p.op with
  | .move x=>ev fr x
  | .assign x=>ev fr x
  |_=>qs p fr
def NT(p:Oper):Bool:=match p.op with| .pick .. =>true| .move _=>true| .assign _=>true|_=>false
theorem RB{p:Oper}{fr:Fr}{t:Bool}(hp:NT p=true)(h:Ze p fr=.bool t)(w:World):(execOp (ev fr) p).run P w=.ok (.value (.bool t)) w:=by
  unfold NT at hp;unfold Ze at h;split at h
  · rename_i x hop;simp only[execOp,hop,h];rfl
  · rename_i x hop;simp only[execOp,hop,h];rfl
  · rename_i h1 h2
    split at hp
    · rename_i hop;exact qq (by unfold sO;rw[hop]) h w
    · rename_i x hop;exact absurd hop (h1 x)
    · rename_i x hop;exact absurd hop (h2 x)
    · cases hp
theorem RI{p:Oper}(hp:NT p=true):wj p.op=true:=by
  unfold NT at hp;split at hp<;>first|(rename_i hop;rw[hop];rfl)|cases hp
def AA(ops:Array Oper)(fr:Fr)(o:Oper):Option Bool:=
  match o.guard with
  |none=>some true
  |some (j,want)=>match eS ops j with
    |none=>none
    |some s=>match fr s with
      | .bool b=>some (b==want)
      | .tuple _=>some false
      |_=>none
def pF(P:Program)(g:Gh)(n:Nat)(ops:Array Oper)(R:Hp)(K:Fr->Hp->Prop):Hn->KT->Array Bool->Fr->Hp->Prop
  | .e,cl,listed,fr,H=>cond ((Region.ready .any ops listed).isEmpty&&TX listed cl) (K fr H) False
  | .h m L T pa pb,cl,listed,fr,H=>
    match L with
    | [i]=>
      match ops[i]? with
      |none=>False
      |some o=>
        cond (Nat.beq m 1)
          (cond (eH n o.dst&&o.guard.isNone&& !wj o.op&& !listed.getD i true&&fp ops o i listed cl&& (match fO cl i with|none=>true|some _=>false))
            (Claim P o (ev fr) λx=>pF P g n ops R K pa ((i,x)::cl) listed fr H) False)
          (cond (eH n o.dst&&fp ops o i listed cl&& (Region.ready .any ops listed).contains i)
            (match AA ops fr o with
            |none=>False
            |some false=>cond (Region.free .any ops listed i&& (match fO cl i with|none=>true|some _=>false)) (pF P g n ops R K pa cl (listed.setIfInBounds i true) (bt fr o.dst undef) H) False
            |some true=>
              cond (Nat.beq m 3) (cond (NT o&&Region.free .any ops listed i) (match Ze o fr with
                | .bool b=>pF P g n ops R K pa cl (listed.setIfInBounds i true) (bt fr o.dst (.bool b)) H
                |_=>False) False)
              (cond (wj o.op)
                (cond (Region.free .any ops listed i)
                  (AZ P g o (ev fr) R λv=>cond (Nat.beq m 0) (pF P g n ops R K pa cl (listed.setIfInBounds i true) (bt fr o.dst v) H)
                    (Br v (pF P g n ops R K pa cl (listed.setIfInBounds i true) (bt fr o.dst (.bool true)) H) (pF P g n ops R K pb cl (listed.setIfInBounds i true) (bt fr o.dst (.bool false)) H))) False)
                (cond (Region.ready .any ops (marks cl i listed)==[i])
                  (match fO cl i with
                    |some x=>OR H x.1 λb H'=>pF P g n ops R K pa cl (listed.setIfInBounds i true) (bt fr o.dst (x.2 b)) H'
                    |none=>∀F,Ny P (g.add F) o (ev fr) H (λv H'=>MB (Rn P ops T i) (aN H' R) (pF P g n ops R K pa cl (listed.setIfInBounds i true) (bt fr o.dst v) H')) (λ_ _=>False)) False))) False)
    | []=>cond (Nat.beq m 4) (∃R',aN H R'/\aN R' R/\pF P g n ops R' K pa cl listed fr H) False
    |_=>False
theorem Te{cl:KT}{i:Nat}{x:Mk}(h:fO cl i=some x):(i,x)∈cl:=by
  induction cl with
  |nil=>simp[fO]at h
  |cons y r ih=>
    simp only[fO]at h;cases hb:Nat.beq y.1 i<;>simp only[hb,xap,xag]at h
    · exact xbw _ (ih h)
    · have:=xaI hb
      simp only[xaq]at h;subst this;subst h;exact xbK
theorem Oh{cl:KT}{i:Nat}(h:i∈cl.map Prod.fst):∃x,fO cl i=some x:=by
  induction cl with
  |nil=>simp at h
  |cons y r ih=>
    simp only[fO];cases hb:Nat.beq y.1 i
    · simp only[xag]
      rw[xaC,xal]at h;rcases h with h|h
      · subst h;simp at hb
      · exact ih h
    · exact⟨_,rfl⟩
theorem j8{cl:KT}{i:Nat}{x:Mk}(h:fO cl i=some x):i∈cl.map Prod.fst:=xao.2 ⟨_,Te h,rfl⟩
theorem y7{l:KT}{i:Nat}{b:Array Bool}{k:Nat}:(marks l i b)[k]? =if k∈l.map Prod.fst/\k≠i/\k<b.size then some true else b[k]? :=by
  induction l generalizing b with
  |nil=>simp[marks]
  |cons y r ih=>
    simp only[marks];cases hy:Nat.beq y.1 i
    · have hne:y.1≠i:=λe=>by rw[e]at hy;simp at hy
      simp only[xag,ih,Array.size_setIfInBounds];by_cases hk:k∈r.map Prod.fst/\k≠i/\k<b.size
      · rw[xae hk,xae ⟨by rw[xaC];exact xbw _ hk.1,hk.2⟩]
      · rw[xac hk]
        by_cases e:y.1=k
        · subst e
          by_cases hlt:y.1<b.size
          · rw[xae ⟨by simp,hne,hlt⟩,xbN hlt]
          · rw[xac (λh=>hlt h.2.2),xcv zP,xcv zO]
        · rw[xbQ e,xac]
          rintro⟨h1,h2⟩;rw[xaC,xal]at h1;rcases h1 with h1|h1
          · exact e h1.symm
          · exact hk ⟨h1,h2⟩
    · have he:=xaI hy
      simp only[xap,ih];by_cases hk:k∈r.map Prod.fst/\k≠i/\k<b.size
      · rw[xae hk,xae ⟨by rw[xaC];exact xbw _ hk.1,hk.2⟩]
      · rw[xac hk,xac]
        rintro⟨h1,h2,h3⟩;rw[xaC,xal]at h1;rcases h1 with h1|h1
        · exact h2 (h1.trans he)
        · exact hk ⟨h1,h2,h3⟩
theorem fW{ops:Array Oper}{o:Oper}{i:Nat}{listed:Array Bool}{l:KT}(h:fp ops o i listed l=true){f:Nat}(hf:f∈l.map Prod.fst)(hne:f≠i)(hun:listed.getD f true=false):
    ∃of,ops[f]? =some of/\of.apart ops o=true:=by
  induction l with
  |nil=>simp at hf
  |cons x r ih=>
    simp only[fp,xay,xbq]at h;rw[xaC]at hf;rcases xal.1 hf with rfl|hf
    · rcases h.1 with(h1|h1)|h1
      · exact absurd (xaI h1) hne
      · rw[hun]at h1;simp at h1
      · split at h1
        · rename_i of ho;exact⟨of,ho,h1⟩
        · simp at h1
    · exact ih h.2 hf
theorem Ho{ops:Array Oper}{x y:Oper}(h:x.apart ops y=true):y.apart ops x=true:=by
  unfold Oper.apart at*;cases hx:x.dst<;>cases hy:y.dst<;>simp_all;exact λe=>h.1.2 e.symm
theorem s8{ops:Array Oper}{l l':Array Bool}{i:Nat}(h:Region.free .any ops l i=true)(hm:∀k,l.getD k true=true->l'.getD k true=true):Region.free .any ops l' i=true:=by
  unfold Region.free at*;split at h
  · simp at h
  · rename_i oi o7
    rw[xc6]at h⊢;intro j hj;have:=h j hj;simp only[xbq]at this⊢;rcases this with(h1|h1)|h1
    · exact .inl (.inl h1)
    · exact .inl (.inr (hm j h1))
    · exact .inr h1
abbrev Early:=List (Nat×Nat×Mk)
def Yg(E:Early):Hp:=E.map λx=>(x.2.1,x.2.2.1)
structure aaI(P:Program)(n:Nat)(ops:Array Oper)(listed:Array Bool)(cl:KT)(fr:Fr)(j:Nat)(x:Mk)(o:Oper):Prop where
  op:ops[j]? =some o
  Di:wj o.op=false
  dst:eH n o.dst=true
  gd:o.guard.isNone=true
  makes:Ao P o (ev fr) x
  far:∀k y,fO cl k=some y->k≠j->listed.getD k true=false->∃ok,ops[k]? =some ok/\ok.apart ops o=true
structure mA(P:Program)(n:Nat)(ops:Array Oper)(cl:KT)(listed la:Array Bool)(E:Early)(fr fa:Fr):Prop where
  mem:∀x∈E,fO cl x.1=some x.2.2/\listed.getD x.1 true=false
  nd:(E.map Prod.fst).Nodup
  la:∀k,la[k]? =if k∈E.map Prod.fst then some true else listed[k]?
  out:∀s,(∀x∈E,eS ops x.1≠some s)->fa s=fr s
  at_:∀x∈E,∀d,eS ops x.1=some d->fa d=x.2.2.2 x.2.1
  cl:∀j x,fO cl j=some x->listed.getD j true=false->∃o,aaI P n ops listed cl fr j x o
section
variable {n:Nat} {ops:Array Oper} {cl:KT} {listed la:Array Bool} {E:Early} {fr fa:Fr}
theorem mA.more(h:mA P n ops cl listed la E fr fa){k:Nat}{b:Bool}(hk:listed.getD k b=true):la.getD k b=true:=by
  have:=h.la k;rw[xas]at hk⊢;rw[this];split
  · rfl
  · exact hk
theorem mA.ready(h:mA P n ops cl listed la E fr fa){i:Nat}(hi:i∉E.map Prod.fst)(hr:i∈Region.ready .any ops listed):i∈Region.ready .any ops la:=by
  rw[mem_ready]at hr⊢;obtain⟨h1,o,ho,aJ⟩:=hr;refine⟨?_,o,ho,λe he hb=>h.more (aJ e he hb)⟩;have:=h.la i;rw[xas]at h1⊢;rw[this,xac hi];exact h1
theorem Xw{i k:Nat}(h:(listed.setIfInBounds i true).getD k true=false):i≠k/\listed.getD k true=false:=by
  by_cases e:i=k
  · subst e
    rw[xas]at h;rcases xes i listed.size with hl|hl
    · rw[xbN hl]at h;cases h
    · rw[xcv (by simpa using hl)]at h;cases h
  · exact⟨e,by rwa [getD_set_ne true e]at h⟩
theorem Ao.congr{o o':Oper}{x:Mk}{v:zV}(h:Ao P o (ev fr) x)(hs:∀cs b,o.op≠.select cs b)(hap:o.apart ops o'=true):Ao P o (ev (bt fr o'.dst v)) x:=by
  have e:execOp (ev (bt fr o'.dst v)) o=execOp (ev fr) o:=by
    refine execOp_congr o hs λy hy=>?_;cases y with
    |tmp t=>
      obtain⟨_,_,h3⟩:=Oper.apart_spec hap;cases hd:o'.dst with
      |none=>rfl
      |some d=>
        have:=h3 d hd;have hne:Nat.beq t d=false:=by
          cases hb:Nat.beq t d
          · rfl
          · have e:=xaI hb;subst e
            refine absurd ?_ this;exact xad _ (List.mem_filterMap.2 ⟨Operand.tmp t,by simpa using hy,rfl⟩)
        simp only[ev,bt,hne,xag]
    |const v=>rfl
    |global g=>rfl
    |func f=>rfl
  intro w;rw[e];exact h w
theorem Ty(hs:Region.noSelect ops=true)(fN:∀j x,fO cl j=some x->listed.getD j true=false->∃o,aaI P n ops listed cl fr j x o){i:Nat}{o:Oper}(hap:fp ops o i listed cl=true)(v:zV):
    ∀j x,fO cl j=some x->(listed.setIfInBounds i true).getD j true=false->∃oj,aaI P n ops (listed.setIfInBounds i true) cl (bt fr o.dst v) j x oj:=by
  intro j x hx hun;obtain⟨hne,V5⟩:=Xw hun;obtain⟨oj,h⟩:=fN j x hx V5;obtain⟨oj',cC,agP⟩:=fW hap (j8 hx) (xbb hne) V5;rw[h.op]at cC;cases cC;exact⟨oj,h.op,h.Di,h.dst,h.gd,h.makes.congr (λcs b=>Region.noSelect_spec hs j oj cs b h.op) agP,λk y hk hkj Sc=>h.far k y hk hkj (Xw Sc).2⟩
theorem mA.step(hs:Region.noSelect ops=true)(h:mA P n ops cl listed la E fr fa){i:Nat}{o:Oper}(o7:ops[i]? =some o)(hi:i∉E.map Prod.fst)
   (wA:fp ops o i listed cl=true)(v:zV):mA P n ops cl (listed.setIfInBounds i true) (la.setIfInBounds i true) E (bt fr o.dst v) (bt fa o.dst v):=by
  have hap:∀x∈E,∃of,ops[x.1]? =some of/\of.apart ops o=true:=λx hx=>
      fW wA (j8 (h.mem x hx).1) (λe=>hi (e▸xaR hx)) (h.mem x hx).2
  have hsz:la[i]? =listed[i]? :=by rw[h.la i,xac hi]
  refine⟨λx hx=>⟨(h.mem x hx).1,?_⟩,h.nd,λk=>?_,λs hs=>?_,λx hx d hd=>?_,Ty hs h.cl wA v⟩
  · have hne:i≠x.1:=λe=>hi (e▸xaR hx)
    rw[getD_set_ne true hne];exact(h.mem x hx).2
  · by_cases e:i=k
    · subst e
      rw[xac hi,xcr,xcr];simp only[xa7];have:i<la.size↔i<listed.size:=by
        constructor
        · intro hlt;rw[xbC hlt]at hsz;exact(xaU.1 hsz.symm).1
        · intro hlt;rw[xbC hlt]at hsz;exact(xaU.1 hsz).1
      by_cases hlt:i<la.size
      · rw[xae hlt,xae (this.1 hlt)]
      · rw[xac hlt,xac (λx=>hlt (this.2 x))]
    · rw[xbQ e,xbQ e];exact h.la k
  · cases hd:o.dst with
    |none=>exact h.out s hs
    |some d=>
      simp only[bt];cases Nat.beq s d
      · exact h.out s hs
      · rfl
  · obtain⟨of,Wf,hap⟩:=hap x hx
    obtain⟨h1,h2,h3⟩:=Oper.apart_spec hap;have Zy:of.dst=some d:=by simpa[eS,Wf]using hd
    have:=h2 d Zy;cases hdo:o.dst with
    |none=>exact h.at_ x hx d hd
    |some d'=>
      have hne:Nat.beq d d'=false:=by
        cases hb:Nat.beq d d'
        · rfl
        · have e:=xaI hb;subst e;exact absurd hdo this
      simp only[bt,hne,xag];exact h.at_ x hx d hd
theorem mA.exec(h:mA P n ops cl listed la E fr fa){o:Oper}
   (hap:∀x∈E,∃of,ops[x.1]? =some of/\of.apart ops o=true)(hs:∀cs b,o.op≠.select cs b):execOp (ev fa) o=execOp (ev fr) o:=by
  refine execOp_congr o hs λx hx=>?_;cases x with
  |tmp t=>
    refine h.out t λy hy e=>?_;obtain⟨of,Wf,hap⟩:=hap y hy;obtain⟨h1,_,_⟩:=Oper.apart_spec hap;refine h1 t (by simpa[eS,Wf]using e) ?_;exact xad _ (List.mem_filterMap.2 ⟨.tmp t,by simpa using hx,rfl⟩)
  |const v=>rfl
  |global g=>rfl
  |func f=>rfl
theorem mA.early(h:mA P n ops cl listed la E fr fa){j b:Nat}{x:Mk}(hj:fO cl j=some x)(Sd:j∉E.map Prod.fst)(hun:listed.getD j true=false)
   {o:Oper}(ho:ops[j]? =some o):mA P n ops cl listed (la.setIfInBounds j true) ((j,b,x)::E) fr (bt fa o.dst (x.2 b)):=by
  obtain⟨o',fN⟩:=h.cl j x hj hun;have cC:=fN.op;rw[ho]at cC;cases cC;have ZV:∀y∈E,∃of,ops[y.1]? =some of/\of.apart ops o=true:=λy hy=>
    fN.far y.1 _ (h.mem y hy).1 (λe=>Sd (e▸xaR hy)) (h.mem y hy).2
  have agf:j<la.size:=by
    have hl:=h.la j;rw[xac Sd]at hl;have h2:j<listed.size:=by
      rcases xes j listed.size with h2|h2
      · exact h2
      · rw[xas,xcv h2]at hun;simp at hun
    rw[xbC h2]at hl;exact(xaU.1 hl).1
  refine⟨λy hy=>?_,?_,λk=>?_,λs hs=>?_,λy hy d hd=>?_,h.cl⟩
  · rcases xal.1 hy with rfl|hy
    · exact⟨hj,hun⟩
    · exact h.mem y hy
  · rw[xaC,xaX];exact⟨Sd,h.nd⟩
  · by_cases e:j=k
    · subst e;rw[xae zI,xbN agf]
    · rw[xbQ e,h.la k]
      by_cases hk:k∈E.map Prod.fst
      · rw[xae hk,xae (by rw[xaC];exact xbw _ hk)]
      · rw[xac hk,xac]
        rw[xaC,xal];rintro(h1|hk')
        · exact e h1.symm
        · exact hk hk'
  · have hne:=hs (j,b,x) zI
    simp only[eS,ho]at hne;rw[show bt fa o.dst (x.2 b) s=fa s from ?_]
    · exact h.out s λy hy=>hs y (by simp[hy])
    · cases hd:o.dst with
      |none=>rfl
      |some d=>
        rw[hd]at hne;have:Nat.beq s d=false:=by
          cases hb:Nat.beq s d
          · rfl
          · exact absurd (xce some (xaI hb).symm) hne
        simp only[bt,this,xag]
  · rcases xal.1 hy with rfl|hy
    · simp only[eS,ho]at hd
      rw[hd];simp[bt]
    · obtain⟨of,Wf,hap⟩:=ZV y hy
      obtain⟨_,h2,_⟩:=Oper.apart_spec hap;have Zy:of.dst=some d:=by simpa[eS,Wf]using hd
      have:=h2 d Zy;cases hdo:o.dst with
      |none=>exact h.at_ y hy d hd
      |some d'=>
        have hne:Nat.beq d d'=false:=by
          cases hb:Nat.beq d d'
          · rfl
          · have e:=xaI hb;subst e;exact absurd hdo this
        simp only[bt,hne,xag];exact h.at_ y hy d hd
theorem mA.AE(hs:Region.noSelect ops=true){E1 E2:Early}{j b:Nat}{x:Mk}(h:mA P n ops cl listed la (E1++(j,b,x)::E2) fr fa){o:Oper}(ho:ops[j]? =some o)(wA:fp ops o j listed cl=true):
    mA P n ops cl (listed.setIfInBounds j true) la (E1++E2) (bt fr o.dst (x.2 b)) fa:=by
  have fc:=h.nd;rw[xaH,xaC]at fc;have LO:j∉(E1++E2).map Prod.fst:=by
    have:=(xaT.nodup_iff.1 fc);rw[xaX]at this;rw[xaH];exact this.1
  have hsub:∀y,y∈E1++E2->y∈E1++(j,b,x)::E2:=λy hy=>by
    rcases xan.1 hy with hy|hy<;>simp[hy]
  have ZI:j<listed.size:=by
    have h2:=(h.mem (j,b,x) zI).2;rcases xes j listed.size with h3|h3
    · exact h3
    · simp only at h2;rw[xas,xcv h3]at h2;simp at h2
  refine⟨λy hy=>⟨(h.mem y (hsub y hy)).1,?_⟩,?_,λk=>?_,λs hs=>?_,λy hy d hd=>h.at_ y (hsub y hy) d hd,Ty hs h.cl wA _⟩
  · have hne:j≠y.1:=λe=>LO (e▸xaR hy)
    rw[getD_set_ne true hne];exact(h.mem y (hsub y hy)).2
  · have:=(xaT.nodup_iff.1 fc)
    rw[xaX]at this;rw[xaH];exact this.2
  · have hk:=h.la k
    by_cases e:j=k
    · subst e
      rw[xae zI]at hk;rw[hk,xac LO,xbN ZI]
    · rw[xbQ e,hk]
      have:k∈(E1++(j,b,x)::E2).map Prod.fst↔k∈(E1++E2).map Prod.fst:=by
        simp only[xaH,xaC,xan,xal];constructor
        · rintro(h|rfl|h)
          · exact .inl h
          · exact absurd rfl e
          · exact .inr h
        · rintro(h|h)
          · exact .inl h
          · exact .inr (.inr h)
      simp only[this]
  · by_cases e:eS ops j=some s
    · rw[h.at_ (j,b,x) zI s e]
      simp only[eS,ho]at e;rw[e];simp[bt]
    · rw[h.out s λy hy=>?_]
      · simp only[eS,ho]at e
        cases hd:o.dst with
        |none=>rfl
        |some d=>
          rw[hd]at e;have:Nat.beq s d=false:=by
            cases hb:Nat.beq s d
            · rfl
            · exact absurd (xce some (xaI hb).symm) e
          simp only[bt,this,xag]
      · rcases xan.1 hy with hy|hy
        · exact hs y (by simp[hy])
        · rcases xal.1 hy with rfl|hy
          · exact e
          · exact hs y (by simp[hy])
theorem mA.adW(h:mA P n ops cl listed la E fr fa){i:Nat}{o:Oper}{x:Mk}(ho:ops[i]? =some o)(hd:eH n o.dst=true)(hg:o.guard.isNone=true)(hp:wj o.op=false)(hun:listed.getD i true=false)
   (hap:fp ops o i listed cl=true)(hno:fO cl i=none)(hm:Ao P o (ev fr) x):mA P n ops ((i,x)::cl) listed la E fr fa:=by
  have hne:∀j y,fO cl j=some y->j≠i:=λj y hj e=>by subst e;rw[hno]at hj;cases hj
  have hex:∀j y,fO cl j=some y->fO ((i,x)::cl) j=some y:=λj y hj=>by
    have:Nat.beq i j=false:=by
      cases hb:Nat.beq i j
      · rfl
      · exact absurd (xaI hb).symm (hne j y hj)
    simp only[fO,this,xag];exact hj
  have ZO:∀j y,fO ((i,x)::cl) j=some y->(j=i/\y=x)\/(j≠i/\fO cl j=some y):=λj y hj=>by
    simp only[fO]at hj;cases hb:Nat.beq i j<;>simp only[hb,xap,xag]at hj
    · exact .inr ⟨λe=>by subst e;simp at hb,hj⟩
    · exact .inl ⟨(xaI hb).symm,by simpa using hj.symm⟩
  refine⟨λy hy=>⟨hex _ _ (h.mem y hy).1,(h.mem y hy).2⟩,h.nd,h.la,h.out,h.at_,λj y hj hu=>?_⟩;rcases ZO j y hj with⟨rfl,rfl⟩|⟨ZJ,X1⟩
  · refine⟨o,ho,hp,hd,hg,hm,λk z hk hkj Sc=>?_⟩
    rcases ZO k z hk with⟨rfl,rfl⟩|⟨_,hk⟩
    · exact absurd rfl hkj
    · exact fW hap (j8 hk) hkj Sc
  · obtain⟨oj,hc⟩:=h.cl j y X1 hu
    refine⟨oj,hc.op,hc.Di,hc.dst,hc.gd,hc.makes,λk z hk hkj Sc=>?_⟩;rcases ZO k z hk with⟨rfl,rfl⟩|⟨_,hk⟩
    · obtain⟨oj',h1,h2⟩:=fW hap (j8 X1) ZJ hu
      rw[hc.op]at h1;cases h1;exact⟨o,ho,Ho h2⟩
    · exact hc.far k z hk hkj Sc
end
theorem Oj{E1 E2:Early}{y:Nat×Nat×Mk}:(Yg (E1++y::E2)).Perm ((y.2.1,y.2.2.1)::Yg (E1++E2)):=by
  unfold Yg;rw[xaH,xaC,xaH];exact xaT
def cnt:List Bool->Nat
  | []=>0
  |b::r=>cond b 0 1+cnt r
theorem Mb:∀(l:List Bool) (i:Nat),l[i]? =some false->cnt (l.set i true)+1=cnt l
  | [],i,h=>by simp at h
  |b::r,0,h=>by simp only[xcO,xaq]at h;subst h;simp only[xcB,cnt,xap,xag];omega
  |b::r,i+1,h=>by
    simp only[List.getElem?_cons_succ]at h;have:=Mb r i h;simp only[xeh,cnt];omega
theorem yo(n:Nat):cnt (List.replicate n false)=n:=by
  induction n with
  |zero=>rfl
  |succ n ih=>simp only[xda,cnt,ih,xag];omega
theorem gg{a:Array Bool}{i:Nat}(h:a.getD i true=false):a[i]? =some false:=by
  rw[xas]at h;cases hg:a[i]? with
  |none=>rw[hg]at h;simp at h
  |some b=>rw[hg]at h;simpa using h
theorem oh{a:Array Bool}{i fuel:Nat}(h:a.getD i true=false)(hf:cnt a.toList<=fuel):∃f,fuel=f+1/\cnt (a.setIfInBounds i true).toList<=f:=by
  have h1:=gg h;have h2:a.toList[i]? =some false:=by rw[xbf];exact h1
  have:=Mb _ _ h2;refine⟨fuel-1,by omega,?_⟩;have:(a.setIfInBounds i true).toList=a.toList.set i true:=by simp
  rw[this];omega
theorem OL{listed:Array Bool}{l:KT}(h:TX listed l=true){f:Nat}(hf:f∈l.map Prod.fst):listed.getD f false=true:=by
  induction l with
  |nil=>simp at hf
  |cons x r ih=>
    simp only[TX,xay]at h;rw[xaC]at hf;rcases xal.1 hf with rfl|hf
    · exact h.1
    · exact ih h.2 hf
theorem WM{a:Array Bool}{i:Nat}(h:a.getD i false=true):a.getD i true=true:=by
  rw[xas]at*;cases hg:a[i]? with
  |none=>rfl
  |some b=>rw[hg]at h;simpa using h
theorem eL{n:Nat}{ops:Array Oper}{R:Hp}{Xs:List Hp}{K:Fr->Hp->Prop}{Q:Exit->Act->World->Prop}(hs:Region.noSelect ops=true)(BY:R∈Xs)(PS:∀X∈Xs,aN R X)(ym:Fr)
   (hk:∀a w fr H,cE ds n a fr->Own g H w->eM ops.toList ym fr->K fr H->Q .normal a w):
    ∀(fuel:Nat) (l:Hn) (cl:KT) (listed:Array Bool) (fr:Fr) (H:Hp),pF P g n ops R K l cl listed fr H->∀(E:Early) (la:Array Bool) (fa:Fr),cnt la.toList<=fuel->mA P n ops cl listed la E fr fa->fw .any ops la->
      ∀(a:Act) (w:World),cE ds n a fa->Own (g.add (Yg E)) H w->((∃k ok,ops[k]? =some ok/\yd P ok.op=true/\la.getD k true=false)->Own g R w)->eM ops.toList ym fr->
      di P .any ops (sb Q) (qO P g Xs ops) fuel la a w
  |fuel,.e,cl,listed,fr,H,h=>by
    intro E la fa hfuel hE jH a w ha hw hR ho;unfold pF at h;cases hr:((Region.ready .any ops listed).isEmpty&&TX listed cl)<;>simp only[hr,xap,xag]at h;simp only[xay]at hr;have hr':Region.ready .any ops listed=[]:=by simpa using hr.1
    have hE0:E=[]:=by
      cases E with
      |nil=>rfl
      |cons x y=>
        have h1:=hE.mem x zI;have h2:=WM (OL hr.2 (j8 h1.1));rw[h1.2]at h2;cases h2
    subst hE0;have hfa:fa=fr:=by funext s;exact hE.out s zI
    subst hfa;refine di.done (Q:=sb Q) ?_ (hk a w fa H ha hw ho h) fuel;rw[xcF]at hr'⊢;intro k hk';refine hr' k ?_;rw[mem_ready]at hk'⊢;obtain⟨h1,o,h2,h3⟩:=hk';have hla:=λk=>hE.la k;simp only[xb9,xaQ,xa1]at hla;refine⟨?_,o,h2,λe he hb=>?_⟩
    · rw[xas,<-hla,<-xas];exact h1
    · rw[xas,<-hla,<-xas];exact h3 e he hb
  |fuel,.h m L T pa pb,cl,listed,fr,H,h=>by
    intro E la fa hfuel hE jH a w ha hw hR ho;have h0:=h;unfold pF at h;split at h<;>try exact h.elim
    rotate_left
    · cases h4:Nat.beq m 4<;>simp only[h4,xap,xag]at h
      obtain⟨R',R1,qx,hk'⟩:=h;exact(eL (R:=R') (Xs:=R'::Xs) hs (.head _) (λX hX=>by
        rcases xal.1 hX with rfl|hX
        · exact .refl _
        · exact qx.trans (PS X hX)) ym hk fuel pa cl listed fr H hk' E la fa hfuel hE jH a w ha hw (λ_=>R1 _ _ (Own.fm.2 hw).left) ho).mono λj w w' hK X hX=>hK X (.tail _ hX)
    rename_i i;split at h<;>try exact h.elim
    rename_i o o7;cases h1:Nat.beq m 1<;>simp only[h1,xap,xag]at h
    case true=>
      cases hc:(eH n o.dst&&o.guard.isNone&& !wj o.op&& !listed.getD i true&&fp ops o i listed cl&& (match fO cl i with|none=>true|some _=>false))<;>simp only[hc,xap,xag]at h;simp only[xay,xbE]at hc;obtain⟨⟨⟨⟨⟨hd,hg⟩,hp⟩,hun⟩,hap⟩,hno⟩:=hc;have DP:fO cl i=none:=by
        split at hno
        · assumption
        · cases hno
      obtain⟨x,hm,hk'⟩:=h.makes;exact eL hs BY PS ym hk fuel pa _ listed fr H hk' E la fa hfuel (hE.adW o7 hd hg hp hun hap DP hm) jH a w ha hw hR ho
    have hmem:o∈ops.toList:=xc2.2 (Array.mem_of_getElem? o7);have hout:∀v,eM ops.toList ym (bt fr o.dst v):=λv s hs'=>by
      rw[gi,ho s hs'];have:∀l:List Oper,o∈l->bQ l s=false->bQ [({(default:Oper)with dst:=o.dst})] s=false:=by
        intro l;induction l with
        |nil=>intro h;simp at h
        |cons x y ih=>
          intro hm hi;rw[dN,xaG]at hi;rcases xal.1 hm with rfl|hm
          · exact hi.1
          · exact ih hm hi.2
      exact this _ hmem hs'
    cases hc:(eH n o.dst&&fp ops o i listed cl&& (Region.ready .any ops listed).contains i)<;>simp only[hc,xap,xag]at h;simp only[xay]at hc;obtain⟨⟨hd,wA⟩,afY⟩:=hc;have EY:i∈Region.ready .any ops listed:=by simpa using afY
    have hun:=(mem_ready.1 EY).1;have hap:i∉E.map Prod.fst->∀x∈E,∃of,ops[x.1]? =some of/\of.apart ops o=true:=λhi x hx=>
      fW wA (j8 (hE.mem x hx).1) (λe=>hi (e▸xaR hx)) (hE.mem x hx).2
    have hsel:∀cs b,o.op≠.select cs b:=λcs b=>Region.noSelect_spec hs i o cs b o7;have abt:∀j,j∈Region.ready .any ops la->j∉E.map Prod.fst/\listed.getD j true=false:=λj hj=>by
      have h1:=gg (mem_ready.1 hj).1;have h2:=hE.la j;by_cases Sd:j∈E.map Prod.fst
      · rw[xae Sd,h1]at h2;cases h2
      · rw[xac Sd,h1]at h2
        exact⟨Sd,by rw[xas,<-h2];rfl⟩
    have early:∀f',fuel=f'+1->(∀j,la.getD j true=false->cnt (la.setIfInBounds j true).toList<=f')->∀j x,j∈Region.ready .any ops la->fO cl j=some x->
        wpOp P ops (sb Q) j (λa' w'=>qO P g Xs ops j w w'/\di P .any ops (sb Q) (qO P g Xs ops) f' (la.setIfInBounds j true) a' w') a w:=by
      intro f' Sn mh j x hj hjf;obtain⟨Sd,ZI⟩:=abt j hj;obtain⟨oj,fN⟩:=hE.cl j x hjf ZI;have js:=fN.op;have Bc:=fN.Di;have ZN:=fN.gd;have agD:execOp (ev fa) oj=execOp (ev fr) oj:=hE.exec (λy hy=>fN.far y.1 _ (hE.mem y hy).1 (λe=>Sd (e▸xaR hy)) (hE.mem y hy).2) (λcs b=>Region.noSelect_spec hs j oj cs b js);unfold wpOp;simp only[js,kG ZN,xa7];refine .inl ?_;unfold Oper.wp;rw[ha.eval,agD,fN.makes w];simp only[Oper.upon];have Ww:∀{A:Hp},Own g A w->Own g A (w.alloc x.1):=λhA=>(hA.alloc x.1).tail;refine⟨λX _ oj' nB=>⟨λhp=>?_,λ_=>⟨Ww (Own.fm.2 hw).aZ,λ_ h1=>Ww h1⟩⟩,?_⟩
      · rw[js]at nB;cases nB;rw[Bc]at hp;cases hp
      · have DY:=hE.early (b:=w.heap.size) hjf Sd ZI js
        refine eL hs BY PS ym hk f' (.h m [i] T pa pb) cl listed fr H h0 ((j,w.heap.size,x)::E) _ _ (mh j (mem_ready.1 hj).1) DY (jH.step hj) _ _ (ha.put fN.dst _) ?_ ?_ ho
        · have h1:=hw.alloc x.1
          have h2:Own (g.add (Yg E)) (H++[(w.heap.size,x.1)]) (w.alloc x.1):=h1.perm (by exact(xbe (l₁:=[(w.heap.size,x.1)]) (l₂:=H)));have h3:=Own.fm.1 h2;exact h3
        · rintro⟨k,ok,ux,rO,pM⟩
          refine Ww (hR ⟨k,ok,ux,rO,gA (mem_ready.1 hj).1 pM⟩)
    have pL:∀b,AA ops fr o=some b->i∉E.map Prod.fst->Region.wanted o (yielded ops a.tmps)=b:=by
      intro b hb wy;unfold AA at hb;unfold Region.wanted;split at hb
      · rename_i hg;simp only[hg];simpa using hb
      · rename_i j want hg
        simp only[hg];split at hb<;>try (cases hb;done)
        rename_i s kP;rw[mH ha kP];have qS:fa s=fr s:=hE.out s λy hy e=>by
          obtain⟨of,Wf,hap⟩:=hap wy y hy;obtain⟨h1,_,_⟩:=Oper.apart_spec hap;refine h1 s (by simpa[eS,Wf]using e) ?_;refine xab _ ?_;rw[hg];unfold eS at kP;cases hj:ops[j]? with
          |none=>rw[hj]at kP;cases kP
          |some oj=>rw[hj]at kP;simp only at kP;simp[hj,kP]
        rw[qS];split at hb
        · rename_i c hc;rw[hc];simp only[xaq]at hb;subst hb;cases c<;>cases want<;>rfl
        · rename_i c hc;rw[hc];simp only[xaq]at hb;subst hb;cases want<;>rfl
        · cases hb
    split at h<;>try exact h.elim
    · -- not wanted
      rename_i hwd;cases kQ:(Region.free .any ops listed i&& (match fO cl i with|none=>true|some _=>false))<;>simp only[kQ,xap,xag]at h;simp only[xay]at kQ;have DP:fO cl i=none:=by
        have:=kQ.2;split at this
        · assumption
        · cases this
      have wy:i∉E.map Prod.fst:=λhm=>by
        obtain⟨x,hx,e⟩:=xao.1 hm;have:=(hE.mem x hx).1;rw[e,DP]at this;cases this
      have m4:=hE.ready wy EY;have sP:=(mem_ready.1 m4).1;obtain⟨f',rfl,mh⟩:=oh sP hfuel;have hfree:=s8 (l':=la) kQ.1 (λk hk=>hE.more hk);have N7:(Region.ready .any ops la).contains i=true:=by simpa using m4
      refine di.take jH (S0:=Own g []) o7 hs hfree N7 (λ_ _ _ h=>h) (λw hw X _ oj js=>⟨λ_=>rfl,λ_=>⟨hw,λ_ h=>h⟩⟩) (λj oj w w' js hj hno h0 hk=>?_) (.inr ⟨pL false hwd wy,rfl⟩) (Own.fm.2 hw).aZ ?_
      · cases Bc:wj oj.op
        · exact((hk R BY oj js).2 Bc).1
        · rw[(hk R BY oj js).1 Bc];exact h0
      · refine eL hs BY PS ym hk f' pa cl _ _ H h E _ _ mh (hE.step hs o7 wy wA _) (jH.step m4) _ w (ha.put hd _) hw ?_ (hout _)
        rintro⟨k,ok,ux,rO,pM⟩;exact hR ⟨k,ok,ux,rO,gA sP pM⟩
    rename_i hwd;have hgw:=pL true hwd;have X5:∀v f' Gc a' w',(cond (Nat.beq m 0) (pF P g n ops R K pa cl (listed.setIfInBounds i true) (bt fr o.dst v) H)
                    (Br v (pF P g n ops R K pa cl (listed.setIfInBounds i true) (bt fr o.dst (.bool true)) H) (pF P g n ops R K pb cl (listed.setIfInBounds i true) (bt fr o.dst (.bool false)) H)))->
        cnt Gc.toList<=f'->mA P n ops cl (listed.setIfInBounds i true) Gc E (bt fr o.dst v) (bt fa o.dst v)->fw .any ops Gc->cE ds n a' (bt fa o.dst v)->Own (g.add (Yg E)) H w'->
        ((∃k ok,ops[k]? =some ok/\yd P ok.op=true/\Gc.getD k true=false)->Own g R w')->f'<fuel->di P .any ops (sb Q) (qO P g Xs ops) f' Gc a' w':=by
      intro v f' Gc a' w' hv h1 h2 Sz h3 h4 h5 hlt;cases hm:Nat.beq m 0<;>simp only[hm,xap,xag]at hv
      · obtain⟨b,rfl,hb1,rP⟩:=hv
        cases b
        · exact eL hs BY PS ym hk f' pb cl _ _ H (rP rfl) E Gc _ h1 h2 Sz a' w' h3 h4 h5 (hout _)
        · exact eL hs BY PS ym hk f' pa cl _ _ H (hb1 rfl) E Gc _ h1 h2 Sz a' w' h3 h4 h5 (hout _)
      · exact eL hs BY PS ym hk f' pa cl _ _ H hv E Gc _ h1 h2 Sz a' w' h3 h4 h5 (hout _)
    cases h3:Nat.beq m 3<;>simp only[h3,xap,xag]at h
    case true=>
      cases kQ:(NT o&&Region.free .any ops listed i)<;>simp only[kQ,xap,xag]at h;simp only[xay]at kQ;split at h<;>try exact h.elim
      rename_i b Zu;have Be:wj o.op=true:=RI kQ.1;have wy:i∉E.map Prod.fst:=λhm=>by
        obtain⟨x,hx,e⟩:=xao.1 hm;have h2:=hE.mem x hx;obtain⟨o',fN⟩:=hE.cl _ _ h2.1 h2.2;have h3:=fN.op;rw[e,o7]at h3;cases h3;have:=fN.Di;rw[Be]at this;cases this
      have m4:=hE.ready wy EY;have sP:=(mem_ready.1 m4).1;obtain⟨f',rfl,mh⟩:=oh sP hfuel;have hfree:=s8 (l':=la) kQ.2 (λk hk=>hE.more hk);have N7:(Region.ready .any ops la).contains i=true:=by simpa using m4
      have iW:∀w,qO P g Xs ops i w w:=λw X _ oj nB=>⟨λ_=>rfl,λhn=>(by rw[o7]at nB;cases nB;rw[Be]at hn;cases hn)⟩;have N5:=hE.exec (hap wy) hsel;refine di.take jH (S0:=Own g []) o7 hs hfree N7 (λ_ _ _ h=>h) (λw _=>iW w) (λj oj w w' js hj hno h0 hk=>?_) (.inl ⟨hgw wy,λw' eP=>by rw[ha.eval,N5];exact RB kQ.1 Zu w'⟩) (Own.fm.2 hw).aZ ?_
      · cases Bc:wj oj.op
        · exact((hk R BY oj js).2 Bc).1
        · rw[(hk R BY oj js).1 Bc];exact h0
      · refine eL hs BY PS ym hk f' pa cl _ _ H h E _ _ mh (hE.step hs o7 wy wA _) (jH.step m4) _ w (ha.put hd _) hw ?_ (hout _)
        rintro⟨k,ok,ux,rO,pM⟩;exact hR ⟨k,ok,ux,rO,gA sP pM⟩
    cases Be:wj o.op<;>simp only[Be,xap,xag]at h
    case true=>
      cases kQ:(Region.free .any ops listed i)<;>simp only[kQ,xap,xag]at h;have wy:i∉E.map Prod.fst:=λhm=>by
        obtain⟨x,hx,e⟩:=xao.1 hm;have h2:=hE.mem x hx;obtain⟨o',fN⟩:=hE.cl _ _ h2.1 h2.2;have h3:=fN.op;rw[e,o7]at h3;cases h3;have:=fN.Di;rw[Be]at this;cases this
      have m4:=hE.ready wy EY;have sP:=(mem_ready.1 m4).1;obtain⟨f',rfl,mh⟩:=oh sP hfuel;have hfree:=s8 (l':=la) kQ (λk hk=>hE.more hk);have N7:(Region.ready .any ops la).contains i=true:=by simpa using m4
      have iW:∀w,qO P g Xs ops i w w:=λw X _ oj nB=>⟨λ_=>rfl,λhn=>(by rw[o7]at nB;cases nB;rw[Be]at hn;cases hn)⟩;have hst:=λv=>hE.step hs o7 wy wA v;have N5:=hE.exec (hap wy) hsel;cases hn:isN P o.op
      case true=>
        rw[Dd hn (ev fr) R []]at h;obtain⟨v,hk',hr⟩:=lT h;refine di.take jH (S0:=Own g []) o7 hs hfree N7 (λ_ _ _ h=>h) (λw _=>iW w) (λj oj w w' js hj hno h0 hk=>?_) (.inl ⟨hgw wy,λw' eP=>by rw[ha.eval,N5];exact hr w' eP⟩) (Own.fm.2 hw).aZ ?_
        · cases Bc:wj oj.op
          · exact((hk R BY oj js).2 Bc).1
          · rw[(hk R BY oj js).1 Bc];exact h0
        · refine X5 v f' _ _ w hk' mh (hst v) (jH.step m4) (ha.put hd v) hw ?_ zO
          rintro⟨k,ok,ux,rO,pM⟩;exact hR ⟨k,ok,ux,rO,gA sP pM⟩
      case false=>
        obtain⟨v,hk',hr⟩:=lT h;have hrd:yd P o.op=true:=by simp[yd,Be,hn]
        have PU:Own g R w:=hR ⟨i,o,o7,hrd,sP⟩;refine di.take jH (S0:=Own g R) o7 hs hfree N7 (λ_ _ _ h=>h) (λw _=>iW w) (λj oj w w' js hj hno h0 hk=>?_) (.inl ⟨hgw wy,λw' eP=>by rw[ha.eval,N5];exact hr w' eP⟩) PU ?_
        · cases Bc:wj oj.op
          · exact((hk R BY oj js).2 Bc).2 (mU o7 hrd hj hno) h0
          · rw[(hk R BY oj js).1 Bc];exact h0
        · exact X5 v f' _ _ w hk' mh (hst v) (jH.step m4) (ha.put hd v) hw (λ_=>PU) zO
    case false=>
      cases kQ:(Region.ready .any ops (marks cl i listed)==[i])<;>simp only[kQ,xap,xag]at h;have hrd:=xcR.1 kQ;by_cases wy:i∈E.map Prod.fst
      · obtain⟨⟨i',b,x⟩,hx,e⟩:=xao.1 wy
        simp only at e;subst e;have hex:fO cl i'=some x:=(hE.mem _ hx).1;simp only[hex]at h;obtain⟨E1,E2,rfl⟩:=xde hx;have jg:Own (g.add (Yg (E1++E2))) ((b,x.1)::H) w:=by
          have h1:=(Own.fm.2 hw).perm ((xbZ H (Oj (E1:=E1) (E2:=E2) (y:=(i',b,x)))).trans xaT);exact(Own.fm (A:=(b,x.1)::H)).1 h1
        have hb:b∉H.map Prod.fst:=by
          have:=jg.nd;rw[xaP,xaC,xaX,xaH,xan]at this;exact λh=>this.1 (.inl h)
        exact eL hs BY PS ym hk fuel pa cl _ _ _ (h b hb) (E1++E2) la fa hfuel (hE.AE hs o7 wA) jH a w ha jg hR (hout _)
      · have m4:=hE.ready wy EY
        have sP:=(mem_ready.1 m4).1;obtain⟨f',rfl,mh⟩:=oh sP hfuel;have acZ:∀j,la.getD j true=false->cnt (la.setIfInBounds j true).toList<=f':=λj hj=>by
          obtain⟨f2,h1,h2⟩:=oh hj hfuel;have:f2=f':=by omega
          subst this;exact h2
        have hst:=λv=>hE.step hs o7 wy wA v;have N5:=hE.exec (hap wy) hsel;refine di.all rfl (λe=>by rw[e]at m4;simp at m4) λj hj=>?_;by_cases ZJ:j=i
        · subst ZJ
          have Di:∀oj,ops[j]? =some oj->wj oj.op=true->False:=λoj js hp=>by rw[o7]at js;cases js;rw[Be]at hp;cases hp
          unfold wpOp;simp only[o7,hgw wy,xa7];refine .inl ?_;unfold Oper.wp;rw[ha.eval,N5];cases hex:fO cl j with
          |none=>
            simp only[hex]at h;have h:=h (Yg E);refine(vP (pe fr) h w hw).upon (λv H' w' cC hb=>?_) (λch H' w' _ h0=>h0.elim);obtain⟨he,hk'⟩:=hb.of;have adh:tF P ops j=true->Own g R w':=λhn=>(Own.fm.2 (he (Rl hn) _ _ cC)).left;refine⟨λX hX oj nB=>⟨λhp=>(Di oj nB hp).elim,λ_=>⟨(Own.fm.2 cC).aZ,λhn _=>PS X hX _ _ (adh hn)⟩⟩,eL hs BY PS ym hk f' pa cl _ _ H' hk' E _ _ mh (hst v) (jH.step m4) _ w' (ha.put hd v) cC ?_ (hout v)⟩;rintro⟨k,ok,ux,rO,pM⟩;refine adh ?_;have ZG:j≠k:=λe=>by
              subst e;have h1:=gg sP;have hlt:=(xaU.1 h1).1;rw[xas,xbN hlt]at pM;cases pM
            rw[getD_set_ne true ZG]at pM;refine mU ux rO ZG λhw=>?_;rw[jH.ready m4 hw]at pM;cases pM
          |some x=>
            simp only[hex]at h;obtain⟨oj,fN⟩:=hE.cl j x hex hun;have js:=fN.op;rw[o7]at js;cases js;rw[fN.makes w];simp only[Oper.upon];have Ww:∀{A:Hp},Own g A w->Own g A (w.alloc x.1):=λhA=>(hA.alloc x.1).tail;refine⟨λX _ oj nB=>⟨λhp=>(Di oj nB hp).elim,λ_=>⟨Ww (Own.fm.2 hw).aZ,λ_ h1=>Ww h1⟩⟩,?_⟩;refine eL hs BY PS ym hk f' pa cl _ _ _ (h _ hw.fresh) E _ _ mh (hst _) (jH.step m4) _ _ (ha.put hd _) (hw.alloc x.1) ?_ (hout _);rintro⟨k,ok,ux,rO,pM⟩;exact Ww (hR ⟨k,ok,ux,rO,gA sP pM⟩)
        · obtain⟨Sd,ZI⟩:=abt j hj
          cases acI:fO cl j with
          |some x=>exact early f' rfl acZ j x hj acI
          |none=>
          refine absurd ?_ ZJ;have hjf:j∉cl.map Prod.fst:=λhm=>by
            obtain⟨x,hx⟩:=Oh hm;rw[acI]at hx;cases hx
          have hjm:j∈Region.ready .any ops (marks cl i listed):=by
            obtain⟨_,oj,js,aJ⟩:=mem_ready.1 hj;rw[mem_ready];refine⟨?_,oj,js,λe he hb=>?_⟩
            · rw[xas,y7,xac (λh=>hjf h.1),<-xas];exact ZI
            · have h1:=aJ e he hb
              have h2:=hE.la e.on;rw[xas]at h1⊢;rw[y7];by_cases hm:e.on∈E.map Prod.fst
              · obtain⟨x,hx,e2⟩:=xao.1 hm
                have wv:=gg (hE.mem x hx).2;rw[e2]at wv;have hlt:=(xaU.1 wv).1;rw[xae ⟨e2▸j8 (hE.mem x hx).1,λe3=>wy (e3▸hm),hlt⟩];rfl
              · rw[xac hm]at h2
                split
                · rfl
                · rw[<-h2];exact h1
          rw[hrd]at hjm;simpa using hjm
  termination_by fuel l=>(fuel,SizeOf.sizeOf l)
def um:Code->Nat->Bool
  | .region _ ops _,s=>bQ ops.toList s
  | .seq a b,s=>um a s||um b s
  | .cond _ a b,s=>um a s||um b s
  | .block _ c,s=>um c s
  | .loop c,s=>um c s
  | .skip,_=>false
  | .ret,_=>false
  | .exit _,_=>false
  |_,_=>true
def Vv(c:Code):zL->Bool
  | []=>true
  |s::r=> !um c s&&Vv c r
def wJ(s:Nat):zL->Bool
  | []=>false
  |x::r=>Nat.beq s x||wJ s r
def Vz:zL->List zV->Fr->Fr
  |l::L,v::vs,base=>λs=>cond (Nat.beq s l) v (Vz L vs base s)
  |_,_,base=>base
def mix(L:zL)(vs:List zV)(I:zL)(fr gs:Fr):Fr:=Vz L vs λs=>cond (wJ s I) (fr s) (gs s)
def E6(fr:Fr):zL->List zV
  | []=>[]
  |s::r=>fr s::E6 fr r
def xS:Nat->(List zV->Prop)->Prop
  |0,p=>p []
  |n+1,p=>∀v,xS n λvs=>p (v::vs)
theorem xS.intro{p:List zV->Prop}(h:∀vs,p vs):∀n,xS n p
  |0=>h _
  |n+1=>λv=>xS.intro (λvs=>h (v::vs)) n
theorem xS.elim{p:List zV->Prop}:∀{n:Nat},xS n p->∀vs:List zV,vs.length=n->p vs
  |0,h,vs,e=>by cases vs with|nil=>exact h|cons x y=>simp at e
  |n+1,h,vs,e=>by
    cases vs with
    |nil=>simp at e
    |cons x y=>exact xS.elim (h x) y (by simpa using e)
theorem GO(fr:Fr)(L:zL):(E6 fr L).length=L.length:=by induction L<;>simp[E6, *]
theorem vU{L I:zL}{fr fr':Fr}(h:∀s,wJ s I=true->fr' s=fr s):mix L (E6 fr' L) I fr fr'=fr':=by
  funext s
  unfold mix;induction L with
  |nil=>
    simp only[E6,Vz];cases he:wJ s I
    · rfl
    · exact(h s he).symm
  |cons l L ih=>
    simp only[E6,Vz];cases hb:Nat.beq s l
    · exact ih
    · have:=xaI hb;subst this;rfl
theorem vR{c:Code}{I:zL}(h:Vv c I=true):∀s,wJ s I=true->um c s=false:=by
  induction I with
  |nil=>intro s hs;simp[wJ]at hs
  |cons x r ih=>
    intro s hs;simp only[Vv,xay,xbE]at h;simp only[wJ,xbq]at hs;rcases hs with hs|hs
    · rw[xaI hs];exact h.1
    · exact ih h.2 s hs
def Ck(next:Fr->Hp->Prop)(Q:Exit->Fr->Hp->Prop):Exit->Fr->Hp->Prop
  | .normal,fr,H=>next fr H
  |e,fr,H=>Q e fr H
def TJ(id:Nat)(Q:Exit->Fr->Hp->Prop):Exit->Fr->Hp->Prop
  | .exit id',fr,H=>cond (Nat.beq id' id) (Q .normal fr H) (Q (.exit id') fr H)
  |e,fr,H=>Q e fr H
def JE(J:List zV->Hp->Prop)(vs:List zV)(H:Hp):Prop:=∃H',aN H H'/\J vs H'
def aC(I:List zV->Hp->Prop)(m:List zV->Hp->Nat)(vs':List zV)(H':Hp)(vs:List zV)(H:Hp):Prop:=∃nH,aN H' nH/\I vs' nH/\m vs' nH<m vs H
def Loop(L:zL)(vs:List zV)(H:Hp)(body:(List zV->Hp->Prop)->List zV->Hp->Prop):Prop:=
  ∃(I:List zV->Hp->Prop) (m:List zV->Hp->Nat),JE I vs H/\xS L.length λvs=>∀H',I vs H'->body (λvs' nH=>aC I m vs' nH vs H') vs H'
def ad9(k:Nat)(rest:List zV->Hp->Prop)(body:(List zV->Hp->Prop)->Prop):Prop:=
  ∀J:List zV->Hp->Prop,(xS k λvs=>∀H,rest vs H->J vs H)->body J
def DR(H:Hp)(body:Hp->Prop):Prop:=∃R,aN H R/\body R
def DR2(H R:Hp)(body:Hp->Prop):Prop:=∃R',aN H R'/\aN R' R/\body R'
def qk:Code->Nat->Option (Array Oper)
  | .region id ops _,k=>cond (Nat.beq id k) (some ops) none
  | .seq a b,k=>match qk a k with|some x=>some x|none=>qk b k
  | .cond _ a b,k=>match qk a k with|some x=>some x|none=>qk b k
  | .block _ c,k=>qk c k
  | .loop c,k=>qk c k
  |_,_=>none
def aaw(P:Program)(g:Gh)(id:Nat)(ops:Array Oper)(L:zL)(vs:List zV)(H:Hp)(K:Hp->Prop):Prop:=
  ∀a w,jd a.tmps.size ops.toList=true->(L.map λs=>a.tmps.getD s undef)=vs->Own g H w->
    (Code.region id ops true).wp P (λe a' w'=>e=.normal/\a'.defers=a.defers/\a'.tmps.size=a.tmps.size/\(∀s,bQ ops.toList s=false->a'.tmps.getD s undef=a.tmps.getD s undef)/\∃H',Own g H' w'/\K H') a w
def pz(f:Func)(r:Nat):Array Oper:=match f.body with|some c=>(match qk c r with|some ops=>ops|none=>#[])|none=>#[]
theorem WO(fr:Fr)(L:zL):E6 fr L=L.map fr:=by induction L<;>simp[E6, *]
def den(P:Program)(g:Gh)(n:Nat):Code->Hn->(Exit->Fr->Hp->Prop)->Fr->Hp->Prop
  | .skip,_,Q,fr,H=>Q .normal fr H
  | .ret,_,Q,fr,H=>Q .ret fr H
  | .exit id,_,Q,fr,H=>Q (.exit id) fr H
  | .seq x y,hn,Q,fr,H=>
    match hn.m with
    |0=>den P g n x hn.a (Ck (den P g n y hn.b Q) Q) fr H
    |_=>cond (Vv x hn.I)
        (ad9 hn.L.length (λvs H'=>∀gs,den P g n y hn.b Q (mix hn.L vs hn.I fr gs) H') λJ=>den P g n x hn.a (Ck (λfr' H'=>JE J (E6 fr' hn.L) H') Q) fr H) False
  | .cond c x y,hn,Q,fr,H=>Br (ev fr c) (den P g n x hn.a Q fr H) (den P g n y hn.b Q fr H)
  | .block id c,hn,Q,fr,H=>den P g n c hn.a (TJ id Q) fr H
  | .loop c,hn,Q,fr,H=>
    cond (Vv c hn.I)
      (Loop hn.L (E6 fr hn.L) H λJ vs H'=>∀gs,den P g n c hn.a (Ck (λfr' nH=>J (E6 fr' hn.L) nH) Q) (mix hn.L vs hn.I fr gs) H') False
  | .region id ops draw,hn,Q,fr,H=>
    cond draw
      (match hn.m with
      |0=>match hn.L with
       | []=>cond (P.follows .mixedOrders&&Region.lexB .any ops) (eV P g n ops true (ops.toList.length+1) true none [] ops.toList fr H (λ_ fr' H'=>Q .normal fr' H') (λ_ _=>False)) False
       |l=>cond (P.follows .mixedOrders&&Region.noSelect ops&&Nat.ble l.length ops.size)
          (DR H λR=>Ou P g n ops R (λfr' H'=>Q .normal fr' H') l (Array.replicate ops.size false) fr H) False
      |9=>cond (jd n ops.toList) (aaw P g id ops hn.L (E6 fr hn.L) H λH'=>∀gs,Q .normal (Bm ops.toList gs fr) H') False
      |_=>cond (P.follows .mixedOrders&&Region.noSelect ops)
          (DR H λR=>pF P g n ops R (λfr' H'=>Q .normal fr' H') hn.a [] (Array.replicate ops.size false) fr H) False)
      (eV P g n ops (match hn.I with| []=>false|_=>true) (ops.toList.length+1) false none [] ops.toList fr H (λ_ fr' H'=>Q .normal fr' H') (λch H'=>∀fr',Q (.panic ch) fr' H'))
  |_,_,_,_,_=>False
theorem B8{c:Code}{Q:Exit->Act->World->Prop}{a:Act}{w:World}(R:Act->World->Nat->Prop)(h₀:∃m,R a w m)
   (round:∀a w m,R a w m->c.wp P (Exit.then (λa' w'=>∃m',m'<m/\R a' w' m') Q) a w):(Code.loop c).wp P Q a w:=by
  intro b k cs;have key:∀n a w,R a w n->
      ∃e a' w',Q e a' w'/\Arrives P (lone (b.at a (.code c:: .inLoop c::k)) cs w) b k cs e a' w':=by
    intro n;induction n using Nat.strongRecOn with
    |_ n ih=>
      intro a w hI;obtain⟨e,a₁,w₁,hq,DU⟩:=round a w n hI b (.inLoop c::k) cs;cases e with
      |normal=>
        obtain⟨m',hlt,ady⟩:=hq;obtain⟨e₂,a₂,w₂,acm,Wu⟩:=ih m' hlt a₁ w₁ ady;exact⟨e₂,a₂,w₂,acm,.of_steps (Steps.trans DU (.one step_inLoop)) Wu⟩
      |exit id=>exact⟨_,a₁,w₁,hq,.pass (x:=.inLoop c) rfl (λ_ _=>.inl zI) DU⟩
      |goto l=>exact⟨_,a₁,w₁,hq,.pass (x:=.inLoop c) rfl (λ_ _=>.inl zI) DU⟩
      |ret=>exact⟨_,a₁,w₁,hq,.pass (x:=.inLoop c) rfl (λ_ _=>.inl zI) DU⟩
      |panic ch=>exact⟨_,a₁,w₁,hq,.pass (x:=.inLoop c) rfl (λ_ _=>.inl zI) DU⟩
      |outgrown=>exact⟨_,a₁,w₁,hq,.pass (x:=.inLoop c) rfl (λ_ _=>.inl zI) DU⟩
  obtain⟨m,h₀⟩:=h₀;obtain⟨e,a',w',hq,DU⟩:=key m a w h₀;exact⟨e,a',w',hq,.of_steps (.one step_loop) DU⟩
def wh:Exit->Bool
  | .panic _=>true
  |_=>false
theorem mj{n:Nat}:∀(c:Code) (hn:Hn) (Q:Exit->Fr->Hp->Prop) (fr:Fr) (H:Hp),den P g n c hn Q fr H->∀(a:Act) (w:World),cE ds n a fr->Own g H w->c.wp P (λe a' w'=>∃fr' H',cE ds n a' fr'/\Own g H' w'/\(wh e=false->∀s,um c s=false->fr' s=fr s)/\Q e fr' H') a w:=by
  intro c;induction c with
  |skip=>intro hn Q fr H h a w ha hw;exact wp_skip ⟨fr,H,ha,hw,λ_ _ _=>rfl,h⟩
  |ret=>intro hn Q fr H h a w ha hw;exact wp_ret ⟨fr,H,ha,hw,λ_ _ _=>rfl,h⟩
  |exit id=>intro hn Q fr H h a w ha hw;exact wp_exit ⟨fr,H,ha,hw,λ_ _ _=>rfl,h⟩
  |seq x y ihx ihy=>
    intro hn Q fr H h a w ha hw;unfold den at h;have abH:∀{WR tT:Fr},(∀s,um x s=false->WR s=fr s)->(∀s,um y s=false->tT s=WR s)->∀s,um (.seq x y) s=false->tT s=fr s:=λh1 h2 s hs=>by
      simp only[um,xaG]at hs;rw[h2 s hs.2,h1 s hs.1]
    have x9:∀{WR:Fr},(∀s,um x s=false->WR s=fr s)->∀s,um (.seq x y) s=false->WR s=fr s:=λh1 s hs=>by
      simp only[um,xaG]at hs;exact h1 s hs.1
    split at h
    · refine wp_seq (wp_mono (ihx _ _ fr H h a w ha hw) ?_)
      rintro e a' w' ⟨fr',H',er,eP,ho,hq⟩;cases e with
      |normal=>exact wp_mono (ihy _ _ fr' H' hq a' w' er eP) λe2 a2 w2 ⟨tT,H2,g1,g2,g3,g4⟩=>⟨tT,H2,g1,g2,λhp=>abH (ho rfl) (g3 hp),g4⟩
      |exit id=>exact⟨fr',H',er,eP,λhp=>x9 (ho hp),hq⟩
      |goto l=>exact⟨fr',H',er,eP,λhp=>x9 (ho hp),hq⟩
      |ret=>exact⟨fr',H',er,eP,λhp=>x9 (ho hp),hq⟩
      |panic ch=>exact⟨fr',H',er,eP,λhp=>x9 (ho hp),hq⟩
      |outgrown=>exact⟨fr',H',er,eP,λhp=>x9 (ho hp),hq⟩
    · cases hno:Vv x hn.I<;>simp only[hno,xap,xag]at h
      have h':=h (λvs H'=>∀gs,den P g n y hn.b Q (mix hn.L vs hn.I fr gs) H') (xS.intro (λvs H' hh=>hh) _);refine wp_seq (wp_mono (ihx _ _ fr H h' a w ha hw) ?_);rintro e a' w' ⟨fr',H',er,eP,ho,hq⟩;cases e with
      |normal=>
        obtain⟨Hj,wz,hq⟩:=hq;have hq':den P g n y hn.b Q fr' Hj:=by
          have:=hq fr';rwa [vU λs hs=>ho rfl s (vR hno s hs)]at this
        exact wp_mono (ihy _ _ fr' Hj hq' a' w' er (wz _ _ eP)) λe2 a2 w2 ⟨tT,H2,g1,g2,g3,g4⟩=>⟨tT,H2,g1,g2,λhp=>abH (ho rfl) (g3 hp),g4⟩
      |exit id=>exact⟨fr',H',er,eP,λhp=>x9 (ho hp),hq⟩
      |goto l=>exact⟨fr',H',er,eP,λhp=>x9 (ho hp),hq⟩
      |ret=>exact⟨fr',H',er,eP,λhp=>x9 (ho hp),hq⟩
      |panic ch=>exact⟨fr',H',er,eP,λhp=>x9 (ho hp),hq⟩
      |outgrown=>exact⟨fr',H',er,eP,λhp=>x9 (ho hp),hq⟩
  |cond c x y ihx ihy=>
    intro hn Q fr H h a w ha hw;obtain⟨b,hb,ht,hf⟩:=h;refine wp_cond_split (t:=b) (by rw[ha.eval];exact hb) (λe=>?_) (λe=>?_)
    · exact wp_mono (ihx _ _ fr H (ht e) a w ha hw) λe2 a2 w2 ⟨tT,H2,g1,g2,g3,g4⟩=>⟨tT,H2,g1,g2,λhp s hs=>g3 hp s (by simp only[um,xaG]at hs;exact hs.1),g4⟩
    · exact wp_mono (ihy _ _ fr H (hf e) a w ha hw) λe2 a2 w2 ⟨tT,H2,g1,g2,g3,g4⟩=>⟨tT,H2,g1,g2,λhp s hs=>g3 hp s (by simp only[um,xaG]at hs;exact hs.2),g4⟩
  |block id c ih=>
    intro hn Q fr H h a w ha hw;refine wp_block (wp_mono (ih _ _ fr H h a w ha hw) ?_);rintro e a' w' ⟨fr',H',er,eP,ho,hq⟩;cases e with
    |exit id'=>
      simp only[TJ]at hq;cases hb:Nat.beq id' id<;>simp only[hb,xap,xag]at hq
      · have:id'≠id:=λe=>by subst e;simp at hb
        simp only[Exit.inBlock,this,xa1];exact⟨fr',H',er,eP,ho,hq⟩
      · have:=xaI hb
        simp only[Exit.inBlock,this,xa7];exact⟨fr',H',er,eP,ho,hq⟩
    |normal=>exact⟨fr',H',er,eP,ho,hq⟩
    |goto l=>exact⟨fr',H',er,eP,ho,hq⟩
    |ret=>exact⟨fr',H',er,eP,ho,hq⟩
    |panic ch=>exact⟨fr',H',er,eP,ho,hq⟩
    |outgrown=>exact⟨fr',H',er,eP,ho,hq⟩
  |loop c ih=>
    intro hn Q fr H h a w ha hw;unfold den at h;cases hno:Vv c hn.I<;>simp only[hno,xap,xag]at h;obtain⟨I,m,⟨H0,acU,h0⟩,hr⟩:=h;refine B8 (λa w k=>∃fr' H',cE ds n a fr'/\Own g H' w/\(∀s,um c s=false->fr' s=fr s)/\I (E6 fr' hn.L) H'/\m (E6 fr' hn.L) H'=k) ⟨_,fr,H0,ha,acU _ _ hw,λ_ _=>rfl,h0,rfl⟩ ?_;rintro a w k ⟨WR,H1,uy,jg,ye,hI,rfl⟩;have hb:=hr.elim (E6 WR hn.L) (GO _ _) H1 hI WR;rw[vU λs hs=>ye s (vR hno s hs)]at hb;refine wp_mono (ih _ _ WR H1 hb a w uy jg) ?_;rintro e a' w' ⟨fr',H',er,eP,ho,hq⟩;have cC:wh e=false->∀s,um c s=false->fr' s=fr s:=λhp s hs=>(ho hp s hs).trans (ye s hs);cases e with
    |normal=>obtain⟨Hj,wz,PI,hq2⟩:=hq;exact⟨_,hq2,fr',Hj,er,wz _ _ eP,cC rfl,PI,rfl⟩
    |exit id=>exact⟨fr',H',er,eP,cC,hq⟩
    |goto l=>exact⟨fr',H',er,eP,cC,hq⟩
    |ret=>exact⟨fr',H',er,eP,cC,hq⟩
    |panic ch=>exact⟨fr',H',er,eP,cC,hq⟩
    |outgrown=>exact⟨fr',H',er,eP,cC,hq⟩
  |region id ops draw=>
    intro hn Q fr H h a w ha hw;unfold den at h;cases draw<;>simp only[xap,xag]at h
    case false=>
      refine wp_region_list ?_;have:=cM _ _ _ _ _ fr H _ _ h trivial (jm.nil fr) a w ha hw [] (λe a' w'=>∃fr' H',cE ds n a' fr'/\Own g H' w'/\(wh e=false->∀s,um (.region id ops false) s=false->fr' s=fr s)/\Q e fr' H') ?_ ?_
      · simpa using this
      · intro a' w' qQ fr' H' h1 h2 h3 _ h4
        exact⟨fr',H',h1,h2,λ_=>h3,h4⟩
      · intro ch a' w' fr' H' h1 h2 h3
        exact⟨fr',H',h1,h2,λhp=>by simp[wh]at hp,h3 fr'⟩
    case true=>
      split at h
      · split at h
        · cases hc:(P.follows .mixedOrders&&Region.lexB .any ops)<;>simp only[hc,xap,xag]at h
          simp only[xay]at hc;refine wp_region_quiet (C:=Own g H) hc.1 hc.2 hw.z9 ?_;have:=dQ _ none _ ops.toList fr H _ _ h trivial (jm.nil fr) a ha [] (λa'=>∀w',Own g H w'->∃fr' H',cE ds n a' fr'/\Own g H' w'/\(wh .normal=false->∀s,um (.region id ops true) s=false->fr' s=fr s)/\Q .normal fr' H') ?_
          · simpa using this
          · intro a' qQ fr' h1 h3 _ h4
            exact λw' eP=>⟨fr',H,h1,eP,λ_=>h3,h4⟩
        · cases hc:(P.follows .mixedOrders&&Region.noSelect ops&&Nat.ble hn.L.length ops.size)<;>simp only[hc,xap,xag]at h
          simp only[xay]at hc;obtain⟨R,hR,h⟩:=h;refine wp_mono (Q:=sb λe a' w'=>∃fr' H',cE ds n a' fr'/\Own g H' w'/\(wh e=false->∀s,um (.region id ops true) s=false->fr' s=fr s)/\Q e fr' H') ?_ ?_
          · refine wp_region_any hc.1.1 (di.any (S:=Mw P g R ops) ?_)
            exact rX hc.1.2 fr (λa w fr' H' h1 h2 h3 h4=>⟨fr',H',h1,h2,λ_=>h3,h4⟩) _ _ fr H h _ (xcW hc.2) (fw.none _ rfl) _ _ ha hw.z9 (λ_=>(hR _ _ hw).z9) (eM.refl _ _)
          · intro e a w h
            cases e<;>first|exact h|exact h.elim
      · cases hc:jd n ops.toList<;>simp only[hc,xap,xag]at h
        refine wp_mono (h a w (by rw[ha.size];exact hc) (by rw[WO];exact xbj λs _=>ha.get s) hw) ?_;rintro e a' w' ⟨rfl,hd,hs,ho,H',eP,hk⟩;refine⟨Bm ops.toList (λs=>a'.tmps.getD s undef) fr,H',⟨hd.trans ha.defers,hs.trans ha.size,λs=>?_⟩,eP,λ_ s hs=>?_,hk _⟩
        · unfold Bm
          cases hb:bQ ops.toList s
          · rw[xag,ho s hb,ha.get]
          · rfl
        · unfold Bm;simp only[um]at hs;rw[hs,xag]
      · cases hc:(P.follows .mixedOrders&&Region.noSelect ops)<;>simp only[hc,xap,xag]at h
        simp only[xay]at hc;obtain⟨R,hR,h⟩:=h;refine wp_mono (Q:=sb λe a' w'=>∃fr' H',cE ds n a' fr'/\Own g H' w'/\(wh e=false->∀s,um (.region id ops true) s=false->fr' s=fr s)/\Q e fr' H') ?_ ?_
        · refine wp_region_any hc.1 (di.any (S:=qO P g [R] ops) ?_)
          refine eL (Xs:=[_]) hc.2 (.head _) (λX hX=>by rw[xaz.1 hX];exact .refl _) fr (λa w fr' H' h1 h2 h3 h4=>⟨fr',H',h1,h2,λ_=>h3,h4⟩) _ _ [] _ fr H h [] _ fr (by rw[Array.toList_replicate,yo];exact xai _) ⟨by simp,by simp,by simp,λ_ _=>rfl,by simp,λj x hx=>by simp[fO]at hx⟩ (fw.none _ rfl) _ _ ha hw.z9 (λ_=>(hR _ _ hw).z9) (eM.refl _ _)
        · intro e a w h
          cases e<;>first|exact h|exact h.elim
  |label l=>intro hn Q fr H h;exact h.elim
  |goto l=>intro hn Q fr H h;exact h.elim
  |scope c _=>intro hn Q fr H h;exact h.elim
  |refuse s=>intro hn Q fr H h;exact h.elim
  |rangeFunc f ps as b _ _=>intro hn Q fr H h;exact h.elim
def dD(R:Ending->Hp->Prop):List PanicEntry->Hp->Prop:=λch H=>∀_:Fr,R (.panicked ch) H
def fJ:List PanicEntry->Hp->Prop:=λ_ _=>False
def vD:Code->Nat->Option (Array Oper)
  | .region id ops _,k=>cond (Nat.beq id k) (some ops) none
  | .seq a b,k=>match vD a k with|some x=>some x|none=>vD b k
  | .cond _ a b,k=>match vD a k with|some x=>some x|none=>vD b k
  | .block _ c,k=>vD c k
  | .loop c,k=>vD c k
  |_,_=>none
def fi(f:Func)(r i:Nat):Oper:=match f.body with|some c=>(match vD c r with|some ops=>(match ops[i]? with|some o=>o|none=>default)|none=>default)|none=>default
def gR:List zV->Nat->Fr
  | [],_=>λ_=>undef
  |v::r,i=>λs=>cond (Nat.beq s i) v (gR r (i+1) s)
def vA(P:Program)(fr:Fr)(H:Hp):List ResultVar->(List zV->Prop)->Prop
  | [],k=>k []
  | .tmp t::r,k=>vA P fr H r λvs=>k (fr t::vs)
  | .cell a t::r,k=>match P.underlying t,dL P t with
    |some d,some n=>cond (cU d) (az n H (fr a) λv=>vA P fr H r λvs=>k (v::vs)) (Ld H (fr a) λv=>vA P fr H r λvs=>k (v::vs))
    |_,_=>False
def Fp:List zV->zV
  | [v]=>v
  |vs=>.tuple vs.toArray
def ahw(P:Program)(fn:Func)(R:Ending->Hp->Prop):Exit->Fr->Hp->Prop
  | .normal,fr,H=>vA P fr H fn.results.toList λvs=>R (.returned (Fp vs)) H
  | .ret,fr,H=>vA P fr H fn.results.toList λvs=>R (.returned (Fp vs)) H
  | .panic ch,_,H=>R (.panicked ch) H
  |_,_,_=>False
def GV(P:Program)(g:Gh)(fn:Func)(hn:Hn)(args:List zV)(H:Hp)(R:Ending->Hp->Prop):Prop:=
  match fn.body with
  |some c=>cond (Nat.ble args.length fn.ntmps) (den P g fn.ntmps c hn (ahw P fn R) (gR args 0) H) False
  |none=>False
theorem m0:∀(l:List zV) (i s:Nat),gR l i s=if s<i then undef else l.getD (s-i) undef
  | [],i,s=>by simp[gR]
  |v::r,i,s=>by
    simp only[gR,m0 r (i+1) s];cases hb:Nat.beq s i
    · have hne:s≠i:=λe=>by subst e;simp at hb
      simp only[xag];by_cases h:s<i
      · rw[xae zO,xae h]
      · rw[xac zO,xac h,show s-i=(s-(i+1))+1 by omega]
        simp[List.getD]
    · have:=xaI hb;subst this
      simp[List.getD]
def Nn(fr:Fr):ResultVar->Sem zV
  | .tmp t=>pure (fr t)
  | .cell b t=>do loadVar t (<-asAddr (fr b))
theorem tH{fr:Fr}{H:Hp}{w:World}(hw:Own g H w){b:Tmp}{t:TypeId}{v:zV}{p:Addr}(hp:fr b=.pointer (some p))(h:(Instr.loadAt t (fr b)).run P w=.ok v w):(Nn fr (.cell b t)).run P w=.ok v w:=by
  rw[hp]at h;simp only[Nn,hp,asAddr];simpa[Instr.loadAt,Instr.sureAddr]using h
theorem rf{fr:Fr}{H:Hp}{w:World}(hw:Own g H w):∀(l:List ResultVar) (k:List zV->Prop),vA P fr H l k->
    ∃vs,(l.mapM (Nn fr)).run P w=.ok vs w/\k vs
  | [],k,h=>⟨[],by simp,h⟩
  | .tmp t::r,k,h=>by
    obtain⟨vs,hr,hk⟩:=rf hw r _ h;refine⟨fr t::vs,?_,hk⟩;simp only[xd9,Sem.run_bind,Sem.run_pure,Result.andThen_ok,hr,Nn]
  | .cell b t::r,k,h=>by
    unfold vA at h;split at h<;>try exact h.elim
    rename_i d m hd hm;obtain⟨i,hi,him⟩:=bG hm;cases hag:cU d<;>simp only[hag,xap,xag]at h
    · obtain⟨v,hk',hf⟩:=h.fix
      obtain⟨v2,qx,e⟩:=hf.run (P:=P) hw hd hag;subst e;obtain⟨bb,off,c,T,fz,u,hp,_⟩:=hf;obtain⟨vs,hr,hk⟩:=rf hw r _ hk';refine⟨v2::vs,?_,hk⟩;have:=tH hw hp qx;simp only[xd9,Sem.run_bind,Result.andThen_ok,hr,Sem.run_pure,this]
    · obtain⟨v,hk',hf⟩:=h.fix
      obtain⟨v2,qx,e⟩:=hf.run (P:=P) hw hd hag hi him;subst e;obtain⟨bb,off,c,T,fz,hp,_⟩:=hf;obtain⟨vs,hr,hk⟩:=rf hw r _ hk';refine⟨v2::vs,?_,hk⟩;have:=tH hw hp qx;simp only[xd9,Sem.run_bind,Result.andThen_ok,hr,Sem.run_pure,this]
theorem iQ{fn:Func}{fr:Fr}{H:Hp}{n:Nat}{a:Act}{w:World}(ha:cE ds n a fr)(hw:Own g H w){k:List zV->Prop}(h:vA P fr H fn.results.toList k):
    ∃vs,(results fn a.tmps).run P w=.ok (Fp vs) w/\k vs:=by
  obtain⟨vs,hr,hk⟩:=rf (P:=P) hw _ _ h;refine⟨vs,?_,hk⟩;have e:results fn a.tmps=(do let vs <-fn.results.mapM (Nn fr);pure (if h:vs.size=1 then vs[0]else .tuple vs)):=by
    unfold results;congr 1;congr 1
    funext x
    cases x<;>simp only[Nn,ha.get]
  rw[e,Array.mapM_eq_mapM_toList];simp only[Sem.run_bind,Sem.run_map,hr,Result.andThen_ok,Sem.run_pure];congr 1
  match vs with
  | []=>rfl
  | [v]=>rfl
  |a::b::r=>simp[Fp]
theorem GU{f:FuncId}{fn:Func}{hn:Hn}{args:List zV}{H:Hp}{R:Ending->Hp->Prop}(hf:P.funcs[f]? =some fn)(h:GV P g fn hn args H R):bE P g f args.toArray H R:=by
  intro w hw;unfold GV at h;split at h<;>try exact h.elim
  rename_i c hc;cases hl:Nat.ble args.length fn.ntmps<;>simp only[hl,xap,xag]at h;have hle:=xcW hl;refine calls_of_wp hf hc (wp_mono (mj c hn _ _ H h _ w ⟨rfl,?_,?_⟩ hw) ?_)
  · simp;omega
  · intro s
    rw[m0,xas,xdY];simp only[xc0,xcX,xa1,xc7];by_cases hs:s<args.length
    · simp[hs,List.getD]
    · rw[xac hs]
      rw[xc5];have:args.getD s undef=undef:=by simp[List.getD,xaE (xc8 hs)]
      rw[this];split<;>rfl
  · rintro e a' w' ⟨fr',H',er,eP,_,hq⟩
    cases e with
    |normal=>obtain⟨vs,hr,hk⟩:=iQ er eP hq;exact⟨er.defers,_,hr,H',eP,hk⟩
    |ret=>obtain⟨vs,hr,hk⟩:=iQ er eP hq;exact⟨er.defers,_,hr,H',eP,hk⟩
    |panic ch=>exact⟨er.defers,H',eP,hq⟩
    |exit id=>exact hq.elim
    |goto l=>exact hq.elim
    |outgrown=>exact hq.elim
end
end Go.Sx
namespace Go.Sx
open Go
section
variable {P:Program} {g:Gh} {H:Hp}
theorem Nil.ptr{a:Addr}{k:zV->Prop}(h:k (.pointer (some a))):Nil (.pointer (some a)) k:=⟨_,rfl,h⟩
theorem ai.mk{b o off:Nat}{k:zV->Prop}(h:k (.pointer (some ⟨b,o+off,none⟩))):ai off (.pointer (some ⟨b,o,none⟩)) k:=⟨b,o,rfl,h⟩
theorem Ld.mk{b off:Nat}{c:Array zV}{T:TypeId}{fz:Nat×Nat}{v:zV}{k:zV->Prop}(hm:(b,Obj.cells c T fz)∈H)(hc:c[off]? =some v)(h:k v):Ld H (.pointer (some ⟨b,off,none⟩)) k:=
 ⟨b,off,c,T,fz,v,rfl,hm,hc,h⟩
theorem az.mk{b off n:Nat}{c:Array zV}{T:TypeId}{fz:Nat×Nat}{vs:Array zV}{k:zV->Prop}(hm:(b,Obj.cells c T fz)∈H)(hs:off+n<=c.size)(hc:c.extract off (off+n)=vs)(h:k (.agg vs)):az n H (.pointer (some ⟨b,off,none⟩)) k:=
 ⟨b,off,c,T,fz,rfl,hm,hs,by rw[hc];exact h⟩
theorem St.mk{b off n:Nat}{c:Array zV}{T:TypeId}{x:zV}{c':Array zV}{H':Hp}{k:Hp->Prop}(hu:dg b (.cells c T zZ) (.cells c' T zZ) H H')(hx:x.cells.size=n)(hs:off+n<=c.size)
 (h1:∀v∈x.cells.toList,v.oneCell'=true)(hc:j4 c off x.cells.toList=c')(h:k H'):St n H (.pointer (some ⟨b,off,none⟩)) x k:=
 ⟨b,off,c,T,H',rfl,hx,hs,h1,by rw[hc];exact hu,h⟩
theorem JE.mk{J:List zV->Hp->Prop}{vs:List zV}(h:J vs H):JE J vs H:=⟨H,.refl _,h⟩
theorem JE.of{J:List zV->Hp->Prop}{vs:List zV}{H':Hp}(e:aN H H')(h:J vs H'):JE J vs H:=⟨H',e,h⟩
theorem aC.mk{I:List zV->Hp->Prop}{m:List zV->Hp->Nat}{vs' vs:List zV}{H0:Hp}(h:I vs' H)(hm:m vs' H<m vs H0):aC I m vs' H vs H0:=⟨H,.refl _,h,hm⟩
theorem aC.of{I:List zV->Hp->Prop}{m:List zV->Hp->Nat}{vs' vs:List zV}{H' H0:Hp}(e:aN H H')(h:I vs' H')(hm:m vs' H'<m vs H0):aC I m vs' H vs H0:=⟨H',e,h,hm⟩
theorem Br.mk{b:Bool}{t f:Prop}(h1:b=true->t)(h2:b=false->f):Br (.bool b) t f:=⟨b,rfl,h1,h2⟩
theorem Br.yes{t f:Prop}(h1:t):Br (.bool true) t f:=⟨true,rfl,λ_=>h1,λh=>by simp at h⟩
theorem Br.no{t f:Prop}(h1:f):Br (.bool false) t f:=⟨false,rfl,λh=>by simp at h,λ_=>h1⟩
theorem Br.UA{b:Bool}{t f:Prop}(hb:b=true)(h1:t):Br (.bool b) t f:=by subst hb;exact Br.yes h1
theorem Br.XI{b:Bool}{t f:Prop}(hb:b=false)(h1:f):Br (.bool b) t f:=by subst hb;exact Br.no h1
theorem cm.mk{a:Bool}{want:Bool}{inner els k:Bool->Prop}(t:Bool)(h1:a=want->inner t)(h2:a= !want->els t)(h3:k t):cm (.bool a) want inner els k:=⟨a,t,rfl,h1,h2,h3⟩
theorem cm.and{a:Bool}{inner els k:Bool->Prop}(b:Bool)(h1:a=true->inner b)(h2:els false)(h3:k (a&&b)):cm (.bool a) true inner els k:=
 ⟨a,a&&b,rfl,λe=>by subst e;exact h1 rfl,λe=>by subst e;exact h2,h3⟩
theorem cm.or{a:Bool}{inner els k:Bool->Prop}(b:Bool)(h1:a=false->inner b)(h2:els true)(h3:k (a||b)):cm (.bool a) false inner els k:=
 ⟨a,a||b,rfl,λe=>by subst e;exact h1 rfl,λe=>by subst e;exact h2,h3⟩
theorem Split.mk{a:Bool}{want:Bool}{k1 k2:Prop}(h1:a=want->k1)(h2:a= !want->k2):Split (.bool a) want k1 k2:=⟨a,rfl,h1,h2⟩
theorem Split.go{a:Bool}{want:Bool}{k1 k2:Prop}(e:a=want)(h1:k1):Split (.bool a) want k1 k2:=⟨a,rfl,λ_=>h1,λe'=>by subst e;cases a<;>simp at e'⟩
theorem Split.Vp{a:Bool}{want:Bool}{k1 k2:Prop}(e:a= !want)(h1:k2):Split (.bool a) want k1 k2:=⟨a,rfl,λe'=>by subst e';cases a<;>simp at e,λ_=>h1⟩
theorem aM.mk{t:Bool}{a b:zV}{k:zV->Prop}(h:k (cond t a b)):aM (.bool t) a b k:=⟨t,rfl,h⟩
theorem Un.not{b:Bool}{k:zV->Prop}(h:k (.bool !b)):Un .not (.bool b) k:=⟨_,rfl,h⟩
theorem Ext.mk{i:Nat}{vs:Array zV}{v:zV}{k:zV->Prop}(hv:vs[i]? =some v)(h:k v):Ext i (.tuple vs) k:=⟨vs,v,rfl,hv,h⟩
theorem aR.mk{a:Option Addr}{n c:Nat}{k:zV->Prop}(h:k (.int .i64 n)):aR (.slice a n c) k:=⟨a,n,c,rfl,h⟩
theorem bc.of{kd j:IntKind}{n m:Int}{k:zV->Prop}(e:kd.wrap n=m)(h:k (.int kd m)):bc kd (.int j n) k:=⟨j,n,rfl,by rw[e];exact h⟩
theorem B7.mk{off:Nat}{cs:Array zV}{v:zV}{k:zV->Prop}(hc:cs[off]? =some v)(h:k v):B7 off (.agg cs) k:=⟨cs,v,rfl,hc,h⟩
theorem av.mk{size b o n c:Nat}{kd:IntKind}{i:Int}{k:zV->Prop}(h0:0<=i)(h1:i<(n:Int))(h:k (.pointer (some ⟨b,o+i.toNat*size,none⟩))):av size (.slice (some ⟨b,o,none⟩) n c) (.int kd i) k:=
 ⟨b,o,n,c,kd,i,rfl,rfl,h0,h1,h⟩
theorem av.nat{size b o n c:Nat}{kd:IntKind}{j:Nat}{k:zV->Prop}(h1:j<n)(h:k (.pointer (some ⟨b,o+j*size,none⟩))):av size (.slice (some ⟨b,o,none⟩) n c) (.int kd (j:Int)) k:=
 av.mk (xdf j) zO (by simpa using h)
theorem av.of{size b o n c:Nat}{kd:IntKind}{i:Int}{k:zV->Prop}(j:Nat)(e:i=(j:Int))(h1:j<n)(h:k (.pointer (some ⟨b,o+j*size,none⟩))):av size (.slice (some ⟨b,o,none⟩) n c) (.int kd i) k:=by
 subst e;exact av.nat h1 h
theorem ae.eql{kd:IntKind}{a b:Int}{k:zV->Prop}(h:k (.bool (a==b))):ae .num .eql (.int kd a) (.int kd b) k:=⟨_,by simp[gu,mc],h⟩
theorem ae.neq{kd:IntKind}{a b:Int}{k:zV->Prop}(h:k (.bool (a !=b))):ae .num .neq (.int kd a) (.int kd b) k:=⟨_,by simp[gu,mc],h⟩
theorem ae.lss{kd:IntKind}{a b:Int}{k:zV->Prop}(h:k (.bool (decide (a<b)))):ae .num .lss (.int kd a) (.int kd b) k:=⟨_,by simp[gu,mc],h⟩
theorem ae.leq{kd:IntKind}{a b:Int}{k:zV->Prop}(h:k (.bool (decide (a<=b)))):ae .num .leq (.int kd a) (.int kd b) k:=⟨_,by simp[gu,mc],h⟩
theorem ae.gtr{kd:IntKind}{a b:Int}{k:zV->Prop}(h:k (.bool (decide (b<a)))):ae .num .gtr (.int kd a) (.int kd b) k:=⟨_,by simp[gu,mc],h⟩
theorem ae.geq{kd:IntKind}{a b:Int}{k:zV->Prop}(h:k (.bool (decide (b<=a)))):ae .num .geq (.int kd a) (.int kd b) k:=⟨_,by simp[gu,mc],h⟩
theorem ae.add{kd:IntKind}{a b:Int}{k:zV->Prop}(h:k (.int kd (kd.wrap (a+b)))):ae .num .add (.int kd a) (.int kd b) k:=⟨_,by simp[gu,mc],h⟩
theorem ae.sub{kd:IntKind}{a b:Int}{k:zV->Prop}(h:k (.int kd (kd.wrap (a-b)))):ae .num .sub (.int kd a) (.int kd b) k:=⟨_,by simp[gu,mc],h⟩
theorem ae.mul{kd:IntKind}{a b:Int}{k:zV->Prop}(h:k (.int kd (kd.wrap (a*b)))):ae .num .mul (.int kd a) (.int kd b) k:=⟨_,by simp[gu,mc],h⟩
theorem wrap_i64{a:Int}(h: -9223372036854775808<=a/\a<=9223372036854775807):IntKind.i64.wrap a=a:=IntWalk.i64_in _ h
theorem ae.EH{a b:Int}{c:Int}{k:zV->Prop}(e:a+b=c)(hb: -9223372036854775808<=c/\c<=9223372036854775807)(h:k (.int .i64 c)):ae .num .add (.int .i64 a) (.int .i64 b) k:=
 ae.add (by rw[e,wrap_i64 hb];exact h)
theorem ae.lJ{a b:Int}{c:Int}{k:zV->Prop}(e:a-b=c)(hb: -9223372036854775808<=c/\c<=9223372036854775807)(h:k (.int .i64 c)):ae .num .sub (.int .i64 a) (.int .i64 b) k:=
 ae.sub (by rw[e,wrap_i64 hb];exact h)
theorem ae.abO{a b:Int}{c:Int}{k:zV->Prop}(e:a*b=c)(hb: -9223372036854775808<=c/\c<=9223372036854775807)(h:k (.int .i64 c)):ae .num .mul (.int .i64 a) (.int .i64 b) k:=
 ae.mul (by rw[e,wrap_i64 hb];exact h)
theorem ae.QZ{a b:Int}{c:Int}{k:zV->Prop}(hb0:b≠0)(e:a.tdiv b=c)(hb: -9223372036854775808<=c/\c<=9223372036854775807)(h:k (.int .i64 c)):ae .num .quo (.int .i64 a) (.int .i64 b) k:=
 ⟨.int .i64 c,by simp[gu,mc,hb0,e,wrap_i64 hb],h⟩
theorem ae.aI{a:Addr}{k:zV->Prop}(h:k (.bool false)):ae .ptr .eql (.pointer (some a)) (.pointer none) k:=⟨.bool false,by simp[gu],h⟩
theorem ae.j5{k:zV->Prop}(h:k (.bool true)):ae .ptr .eql (.pointer none) (.pointer none) k:=⟨.bool true,by simp[gu],h⟩
theorem ae.AW{a:Addr}{k:zV->Prop}(h:k (.bool true)):ae .ptr .neq (.pointer (some a)) (.pointer none) k:=⟨.bool true,by simp[gu],h⟩
theorem ae.kZ{a:Option Nat}{k:zV->Prop}(h:k (.bool a.isNone)):ae .map .eql (.map a) (.map none) k:=⟨.bool a.isNone,by simp[gu],h⟩
theorem ae.abM{a b:Bool}{k:zV->Prop}(h:k (.bool (!(a==b)))):ae .bool .neq (.bool a) (.bool b) k:=⟨_,by simp[gu],h⟩
theorem aN.XC(A B C:Hp):aN (A++(B++C)) (B++(A++C)):=.perm (by rw[<-xaj,<-xaj];exact xbe.append_right C)
def flat:List Hp->Hp
 | []=>[]
 | [a]=>a
 |a::b::r=>a++flat (b::r)
theorem s9:∀(l:List Hp),(flat l).Perm l.flatten
 | []=>.refl _
 | [a]=>by simp[flat]
 |a::b::r=>by
  simp only[flat,xc1];exact xbZ _ (by simpa using s9 (b::r))
theorem aN.abz(S T:List Hp)(h:S.Perm T):aN (flat S) (flat T):=
 .perm ((s9 S).trans (h.flatten.trans (s9 T).symm))
def rows(l:List (List zV)):Array zV:=l.flatten.toArray
theorem tU{k:Nat}:∀(l:List (List zV)) (i j:Nat),(∀r∈l,r.length=k)->j<k->l.flatten[i*k+j]? =(l[i]?).bind (·[j]?)
 | [],i,j,_,_=>by simp
 |r::l,0,j,h,hj=>by
  have:=h r zI;simp[xd2,this,hj]
 |r::l,i+1,j,h,hj=>by
  have hr:=h r zI;have ih:=tU l i j (λx hx=>h x (by simp[hx])) hj;rw[xc1,xbz (by rw[hr,xbx];omega),hr,show(i+1)*k+j-k=i*k+j by rw[xbx];omega,ih];simp
theorem dy{k:Nat}:∀(l:List (List zV)),(∀r∈l,r.length=k)->l.flatten.length=l.length*k
 | [],_=>by simp
 |r::l,h=>by
  have hr:=h r zI;rw[xc1,xaf,hr,dy l (λx hx=>h x (by simp[hx]))];simp[xbx];omega
theorem bR{k:Nat}{l:List (List zV)}(h:∀r∈l,r.length=k):(rows l).size=l.length*k:=by simp[rows,dy l h]
theorem iP{k:Nat}{l:List (List zV)}(h:∀r∈l,r.length=k){i j:Nat}(hj:j<k):(rows l)[i*k+j]? =(l[i]?).bind (·[j]?):=by
 simp only[rows,xdr];exact tU l i j h hj
theorem AT{k:Nat}{l:List (List zV)}(h:∀r∈l,r.length=k){i:Nat}{r:List zV}(hi:l[i]? =some r):(rows l).extract (i*k) (i*k+k)=r.toArray:=by
 have hr:=h r (xaw hi);have hlt:=(xah.1 hi).1;apply xdg;apply xbg;intro j;by_cases hj:j<k
 ·have:=iP h (i:=i) hj;rw[xbf,xdj];rw[xae (by rw[bR h];have:=xaZ k (xcL hlt);rw[xbx]at this;omega),this,hi];simp
 rw[xaE zP,xaE zP]
theorem oU:∀(vs:List zV) (c:List zV) (off:Nat),off+vs.length<=c.length->j4 c.toArray off vs=(c.take off++vs++c.drop (off+vs.length)).toArray
 | [],c,off,_=>by simp[j4]
 |v::r,c,off,h=>by
  simp only[xaB]at h;have hl:off<c.length:=by omega
  have:c.toArray.setIfInBounds off v=(c.set off v).toArray:=by simp
  rw[j4,this,oU r (c.set off v) (off+1) (by simp only[xbR];omega)];congr 1;have e1:(c.set off v).take (off+1)=c.take off++[v]:=by
   rw[xc4,xae hl,xet];simp[List.take_take,hl,xcG (xca hl)]
  have e2:(c.set off v).drop (off+1+r.length)=c.drop (off+(v::r).length):=by
   rw[List.drop_set_of_lt zO];simp only[xaB];rw[show off+1+r.length=off+(r.length+1)by omega]
  rw[e1,e2];simp
theorem CK{k:Nat}{l:List (List zV)}(h:∀r∈l,r.length=k){i:Nat}(hi:i<l.length){r:List zV}(hr:r.length=k):j4 (rows l) (i*k) r=rows (l.set i r):=by
 unfold rows;have hlen:=dy l h;have hle:i*k+k<=l.length*k:=by have:=xaZ k (xcL hi);rwa [xbx]at this
 rw[oU r l.flatten (i*k) (by rw[hlen,hr];exact hle)];congr 1;have e:l=l.take i++[l[i]]++l.drop (i+1):=by simp
 have hp:(l.take i).flatten.length=i*k:=by
  rw[dy _ (λx hx=>h x (xcH hx))];simp[xcG (xca hi)]
 have hm:l[i].length=k:=h _ (xaF hi);have e3:l.flatten=(l.take i).flatten++(l[i]++(l.drop (i+1)).flatten):=by
  rw[<-xc1,<-xct,<-xbu hi,xbt]
 have e4:(l.set i r).flatten=(l.take i).flatten++(r++(l.drop (i+1)).flatten):=by
  rw[xc4,xae hi];simp[xct]
 rw[e4,e3,<-hp,xea,<-List.drop_drop,List.drop_left,hr,<-hm,List.drop_left];simp
end
end Go.Sx
namespace Go.Sx
open Go
section
variable {P:Program} {g:Gh}
theorem dg.ca{b:Nat}{o o':Obj}{C C':Hp}(h:dg b o o' C C')(A:Hp):dg b o o' (A++C) (A++C'):=by
 induction A with
 |nil=>exact h
 |cons x A ih=>exact .tail ih
def aV(T:TypeId)(k:Nat)(v:zV)(rs:List (List zV))(C:Hp):Prop:=
 (v=.slice none 0 0/\rs=[]/\C=[])\/
 ∃b aK,v=.slice (some ⟨b,0,none⟩) rs.length (rs.length+aK.length)/\C=[(b,.cells (rows (rs++aK)) T zZ)]/\(∀r∈rs++aK,r.length=k)
theorem aV.nil(T:TypeId)(k:Nat):aV T k (.slice none 0 0) [] []:=.inl ⟨rfl,rfl,rfl⟩
theorem aV.len{T:TypeId}{k:Nat}{v:zV}{rs:List (List zV)}{C:Hp}(h:aV T k v rs C):∃a c,v=.slice a rs.length c:=by
 rcases h with⟨rfl,rfl,rfl⟩|⟨b,aK,rfl,_⟩
 ·exact⟨_,_,rfl⟩
 exact⟨_,_,rfl⟩
theorem aV.bP{T:TypeId}{k:Nat}{v:zV}{rs:List (List zV)}{C:Hp}(h:aV T k v rs C){K:zV->Prop}(hk:K (.int .i64 rs.length)):aR v K:=by
 obtain⟨a,c,rfl⟩:=h.len;exact aR.mk hk
theorem qV{k:Nat}(z:List zV)(hz:z.length=k)(m:Nat):Builtin.zeroCells z.toArray m=rows (List.replicate m z):=by
 apply xdg;apply xbg;intro j;have aJ:∀r∈List.replicate m z,r.length=k:=λr hr=>by rw[xb0 hr,hz]
 by_cases hj:j<m*k
 ·have hk:0<k:=xei λe=>by simp[e]at hj
  have hd:j/k<m:=xd3 (by rw[xcm];exact hj);have hm:j%k<k:=xbG _ hk;have he:j/k*k+j%k=j:=by rw[xcm];exact xey j k
  have:=iP aJ (i:=j/k) hm;rw[he]at this;rw[xbf,xbf,this];simp only[Builtin.zeroCells,xc0,hz,xdQ,hd,xa7,xeq];rw[Array.getElem?_map,Array.getElem?_range];simp[hj,hz,hm]
 rw[xaE,xaE]
 ·simp only[xcf,bR aJ,xdZ];omega
 simp[Builtin.zeroCells,hz];omega
theorem eu(a b:List (List zV)):rows a++rows b=rows (a++b):=by simp[rows,xct]
theorem aV.Hi{elem k bytes:Nat}{zero:zV}{v:zV}{rs:List (List zV)}{C A B:Hp}(h:aV elem k v rs C){xb:Nat}{r:List zV}{xT:TypeId}{fz:Nat×Nat}{xc:Nat}
 (hx:(xb,Obj.cells r.toArray xT fz)∈A++(C++B))(hr:r.length=k)(h1:∀u∈r,u.oneCell'=true)(hz:∃z:List zV,zero.cells=z.toArray/\z.length=k)
 (hb:(rs.length+1)*bytes<=140737488355328)(cD:rs.length+1<=9223372036854775807){K:zV->Hp->Prop}
 (hk:∀v' C',aV elem k v' (rs++[r]) C'->K v' (A++(C'++B))):App P elem k bytes zero (A++(C++B)) v (.slice (some ⟨xb,0,none⟩) 1 xc) K:=by
 have LV:∀x∈[r],x.length=k:=λx hx=>by simp at hx;rw[hx];exact hr
 obtain⟨z,hz1,V0⟩:=hz;have hnews:Cells (A++(C++B)) (some ⟨xb,0,none⟩) (1*k) (rows [r]):=.inr ⟨rfl,_,_,_,hx,by simp[hr],by simp[rows];rw[<-hr,xbm]⟩;have hnone:∀u∈(rows [r]).toList,u.oneCell'=true:=by simpa[rows]using h1
 rcases h with⟨rfl,rfl,rfl⟩|⟨b,aK,rfl,rfl,aJ⟩
 ·refine⟨none,0,0,some ⟨xb,0,none⟩,1,xc,#[],rows [r],rfl,rfl,rfl,hnews,by rw[bR LV];simp,by simp,hnone,λh=>by omega,λ_=>⟨hb,by omega,λgm hn b hbf=>?_⟩⟩;rw[show(#[]:Array zV)++rows [r]++Builtin.zeroCells zero.cells (gm-(0+1))=rows ([]++[r]++List.replicate (gm-1) z)by rw[hz1,qV z V0];simp only[xa5,xdd,xb4];rw[eu]];refine⟨_,aN.XC [(b,_)] A B,hk _ [(b,_)] (.inr ⟨b,List.replicate (gm-1) z,?_,rfl,?_⟩)⟩
  ·simp;omega
  intro x hx;rcases xan.1 hx with hx|hx
  ·exact LV x hx
  rw[xb0 hx,V0]
 have hsz:=bR aJ;have pP:∀x∈rs,x.length=k:=λx hx=>aJ x (by simp[hx]);have hold:rows rs=(rows (rs++aK)).extract 0 (0+rs.length*k):=by
  rw[<-eu];apply xdg;have:=bR pP;have h2:(rows rs).toList.length=rs.length*k:=by rw[xcf];exact this
  rw[Array.toList_extract,Array.toList_append,List.extract_eq_take_drop,List.drop_zero,xa5,xc7,<-h2,xea]
 refine⟨some ⟨b,0,none⟩,rs.length,rs.length+aK.length,some ⟨xb,0,none⟩,1,xc,rows rs,rows [r],rfl,rfl,.inr ⟨rfl,_,elem,(0,0),by simp,?_,hold⟩,hnews,by rw[bR LV];simp,bR pP,hnone,λhfit=>?_,λhgrow=>⟨hb,by omega,λgm hn b' hbf=>?_⟩⟩
 ·rw[hsz];simp only[xaf,xa5];exact xaZ _ zO
 ·obtain⟨j0,RD,rfl⟩:∃j0 RD,aK=j0::RD:=by cases aK with|nil=>exact absurd hfit (by simp only[xch];omega)|cons a b=>exact⟨a,b,rfl⟩
  refine⟨_,elem,_,rfl,?_,((dg.head _).append B).ca A,hk _ [(b,_)] (.inr ⟨b,RD,?_,?_,?_⟩)⟩
  ·rw[hsz];simp[xbx,xef]
  ·simp;omega
  ·have e:(rows [r]).toList=r:=by simp[rows]
   rw[e,show(⟨b,0,none⟩:Addr).off+rs.length*k=rs.length*k by simp,CK aJ zI hr];simp
  intro x hx;simp only[xaj,xaP,xb4,xan,xal]at hx;rcases hx with hx|hx|hx
  ·exact pP x hx
  ·rw[hx];exact hr
  exact aJ x (by simp[hx])
 refine⟨A++([(b',_)]++B),?_,hk _ [(b',_)] (.inr ⟨b',List.replicate (gm-(rs.length+1)) z,?_,rfl,?_⟩)⟩
 ·rw[hz1,qV z V0,eu,eu];exact λg w h=>(aN.abz [[_],A,[_],B] [[_],A,[_],B] ((xbe (l₁:=[_,A]) (l₂:=[_])).append_right [B]|>.trans (.cons _ (.swap _ _ _))) g w h).tail
 ·simp;omega
 intro x hx;rcases xan.1 hx with hx|hx
 ·rcases xan.1 hx with hx|hx
  ·exact pP x hx
  exact LV x hx
 rw[xb0 hx,V0]
end
end Go.Sx
namespace Go.Sx
open Go
section
variable {P:Program} {g:Gh} {H:Hp}
theorem aV.pos{T:TypeId}{k:Nat}{v:zV}{rs:List (List zV)}{C:Hp}(h:aV T k v rs C)(hp:0<rs.length):
  ∃b aK,v=.slice (some ⟨b,0,none⟩) rs.length (rs.length+aK.length)/\C=[(b,.cells (rows (rs++aK)) T zZ)]/\(∀r∈rs++aK,r.length=k):=by
 rcases h with⟨_,rfl,_⟩|h
 ·simp at hp
 exact h
theorem aV.mk{T:TypeId}{k b:Nat}{rs aK:List (List zV)}(aJ:∀r∈rs++aK,r.length=k):aV T k (.slice (some ⟨b,0,none⟩) rs.length (rs.length+aK.length)) rs [(b,.cells (rows (rs++aK)) T zZ)]:=
 .inr ⟨b,aK,rfl,rfl,aJ⟩
theorem aV.mk'{T:TypeId}{k b n c:Nat}{rs aK:List (List zV)}(aJ:∀r∈rs++aK,r.length=k)(hn:n=rs.length)(hc:c=rs.length+aK.length):aV T k (.slice (some ⟨b,0,none⟩) n c) rs [(b,.cells (rows (rs++aK)) T zZ)]:=by
 subst hn;subst hc;exact aV.mk aJ
theorem az.row{b i k:Nat}{l:List (List zV)}{T:TypeId}{fz:Nat×Nat}{r:List zV}{K:zV->Prop}(hm:(b,Obj.cells (rows l) T fz)∈H)(aJ:∀r∈l,r.length=k)(hi:l[i]? =some r)(h:K (.agg r.toArray)):
  az k H (.pointer (some ⟨b,0+i*k,none⟩)) K:=by
 have hlt:=(xah.1 hi).1;refine az.mk hm ?_ ?_ h
 ·rw[bR aJ,xa5];have:=xaZ k (xcL hlt);rwa [xbx]at this
 rw[xa5];exact AT aJ hi
theorem Ld.row{b i j k:Nat}{l:List (List zV)}{T:TypeId}{fz:Nat×Nat}{r:List zV}{v:zV}{K:zV->Prop}(hm:(b,Obj.cells (rows l) T fz)∈H)(aJ:∀r∈l,r.length=k)(hi:l[i]? =some r)(hv:r[j]? =some v)(h:K v):
  Ld H (.pointer (some ⟨b,0+i*k+j,none⟩)) K:=by
 have hr:=aJ r (xaw hi);have hj:j<k:=by rw[<-hr];exact(xah.1 hv).1
 refine Ld.mk hm ?_ h;rw[xa5,iP aJ hj,hi];exact hv
theorem Ld.abA{b i:Nat}{l:List (List zV)}{T:TypeId}{fz:Nat×Nat}{v:zV}{K:zV->Prop}(hm:(b,Obj.cells (rows l) T fz)∈H)(aJ:∀r∈l,r.length=1)(hi:l[i]? =some [v])(h:K v):
  Ld H (.pointer (some ⟨b,0+i*1,none⟩)) K:=by
 have:=Ld.row (j:=0) hm aJ hi rfl h;simpa using this
theorem St.row{b i k:Nat}{l:List (List zV)}{T:TypeId}{r:List zV}{H':Hp}{K:Hp->Prop}(hu:dg b (.cells (rows l) T zZ) (.cells (rows (l.set i r)) T zZ) H H')(aJ:∀r∈l,r.length=k)(hi:i<l.length)
 (hr:r.length=k)(h1:∀v∈r,v.oneCell'=true)(h:K H'):St k H (.pointer (some ⟨b,0+i*k,none⟩)) (.agg r.toArray) K:=by
 refine St.mk hu (by simp[Value.cells,hr]) ?_ (by simpa[Value.cells]using h1) ?_ h
 ·rw[bR aJ,xa5];have:=xaZ k (xcL hi);rwa [xbx]at this
 simp only[Value.cells,xa5];exact CK aJ hi hr
theorem pK{k:Nat}{l:List (List zV)}(h:∀r∈l,r.length=k){i j:Nat}{r:List zV}(hi:l[i]? =some r)(hj:j<k)(v:zV):(rows l).setIfInBounds (i*k+j) v=rows (l.set i (r.set j v)):=by
 have hr:=h r (xaw hi);have hlt:=(xah.1 hi).1;have SH:∀x∈l.set i (r.set j v),x.length=k:=λx hx=>by
  rcases xci hx with hx|hx
  ·exact h x hx
  rw[hx,xbR];exact hr
 have hk:0<k:=by omega
 apply xdg;apply xbg;intro m;rw[xbf,xbf,xcr];have hm:m%k<k:=xbG _ hk;have he:m/k*k+m%k=m:=by rw[xcm];exact xey m k
 have g1:=iP h (i:=m/k) hm;have g2:=iP SH (i:=m/k) hm;rw[he]at g1 g2;rw[g1,g2];by_cases e:i*k+j=m
 ·have e1:m/k=i:=by rw[<-e,xcm,Nat.mul_add_div hk,xcQ hj,xcn]
  have e2:m%k=j:=by rw[<-e,xcm,Nat.mul_add_mod,xbc hj]
  rw[xae e,xae (by rw[bR h];have:=xaZ k (xcL hlt);rw[xbx]at this;omega),e1,e2];simp[hlt,hr,hj]
 rw[xac e];by_cases e1:m/k=i
 ·have e2:j≠m%k:=λe2=>e (by rw[e2,<-e1];exact he);rw[e1,hi];simp[hlt,e2]
 rw[xbJ (λx=>e1 x.symm)]
theorem St.cell{b i j k:Nat}{l:List (List zV)}{T:TypeId}{r:List zV}{v:zV}{H':Hp}{K:Hp->Prop}(hu:dg b (.cells (rows l) T zZ) (.cells (rows (l.set i (r.set j v))) T zZ) H H')(aJ:∀r∈l,r.length=k)
 (hi:l[i]? =some r)(hj:j<k)(h1:v.oneCell'=true)(h:K H'):St 1 H (.pointer (some ⟨b,0+i*k+j,none⟩)) v K:=by
 have hlt:=(xah.1 hi).1;have hc:v.cells=#[v]:=by cases v<;>first|rfl|(simp[Value.oneCell']at h1)
 refine St.mk hu (by simp[hc]) ?_ (by simp[hc,h1]) ?_ h
 ·rw[bR aJ,xa5];have:=xaZ k (xcL hlt);rw[xbx]at this;omega
 simp only[hc,xa5,j4];exact pK aJ hi hj v
theorem St.one{b off:Nat}{c c':Array zV}{T:TypeId}{v:zV}{H':Hp}{K:Hp->Prop}(hu:dg b (.cells c T zZ) (.cells c' T zZ) H H')(h1:v.oneCell'=true)(hs:off<c.size)(hc:c.setIfInBounds off v=c')(h:K H'):
  St 1 H (.pointer (some ⟨b,off,none⟩)) v K:=by
 have hv:v.cells=#[v]:=by cases v<;>first|rfl|(simp[Value.oneCell']at h1)
 exact St.mk hu (by simp[hv]) zO (by simp[hv,h1]) (by simpa[hv,j4]using hc) h
theorem St.whole{b n:Nat}{c:Array zV}{T:TypeId}{r:List zV}{H':Hp}{K:Hp->Prop}(hu:dg b (.cells c T zZ) (.cells r.toArray T zZ) H H')(hs:c.size=n)(hr:r.length=n)(h1:∀v∈r,v.oneCell'=true)(h:K H'):
  St n H (.pointer (some ⟨b,0,none⟩)) (.agg r.toArray) K:=by
 refine St.mk hu (by simp[Value.cells,hr]) zO (by simpa[Value.cells]using h1) ?_ h;have:=oU r c.toList 0 zP;rw[xdv]at this;simp only[Value.cells];rw[this];simp[xdk,hr,hs]
theorem az.whole{b n:Nat}{r:List zV}{T:TypeId}{fz:Nat×Nat}{K:zV->Prop}(hm:(b,Obj.cells r.toArray T fz)∈H)(hr:r.length=n)(h:K (.agg r.toArray)):az n H (.pointer (some ⟨b,0,none⟩)) K:=
 az.mk hm (by simp[hr]) (by simp;rw[<-hr,xbm]) h
theorem gW{α β:Type}(f:α->β):∀(l:List α) (i:Nat),(l.map f).eraseIdx i=(l.eraseIdx i).map f
 | [],_=>rfl
 |x::l,0=>rfl
 |x::l,i+1=>by simp[gW f l i]
def fY{β:Type}(kd:IntKind)(enc:β->zV)(m:List (Int×β×Nat)):Array MapEntry:=(m.map λx=>({key:=.int kd x.1,val:=enc x.2.1,born:=x.2.2}:MapEntry)).toArray
def gO{β:Type}(m:List (Int×β×Nat))(x:Int):Option β:=(m.find? (λy=>x==y.1)).map (·.2.1)
def lf{β:Type}(kd:IntKind)(enc:β->zV)(v:zV)(f:Int->Option β)(C:Hp):Prop:=
 (v=.map none/\C=[]/\f=λ_=>none)\/
 ∃b m ck,v=.map (some b)/\C=[(b,.map (fY kd enc m) ck)]/\(m.map Prod.fst).Nodup/\f=gO m
theorem jJ{β:Type}(kd:IntKind)(enc:β->zV)(x:Int):∀(m:List (Int×β×Nat)) (i:Nat),
  ∃r,Instr.findNow (.int kd) (.int kd x) (fY kd enc m).toList i=some r/\
   (match r with
    |none=>gO m x=none/\x∉m.map Prod.fst
    |some (j,v)=>i<=j/\∃p n,m[j-i]? =some (x,p,n)/\v=enc p/\gO m x=some p)
 | [],i=>⟨none,by simp[fY,Instr.findNow],by simp[gO]⟩
 |(y,p,n)::m,i=>by
  simp only[fY,xaC,Instr.findNow,Instr.sameNow,xa7];by_cases e:x=y
  ·subst e;refine⟨some (i,enc p),by simp[Instr.findNow,Instr.sameNow],xai _,p,n,by simp,rfl,by simp[gO]⟩
  obtain⟨r,hr,hp⟩:=jJ kd enc x m (i+1);have hb:(x==y)=false:=by simpa using e
  refine⟨r,?_,?_⟩
  ·simp only[fY]at hr;simp[Instr.findNow,Instr.sameNow,hb,hr]
  cases r with
  |none=>
   simp only[gO,xby,hb]at hp⊢;exact⟨hp.1,by simpa[e]using hp.2⟩
  |some jv=>
   obtain⟨j,v⟩:=jv;simp only[gO,xby,hb]at hp⊢;obtain⟨hij,p',n',h1,h2,h3⟩:=hp;refine⟨by omega,p',n',?_,h2,h3⟩;rw[show j-i=(j-(i+1))+1 by omega];simpa using h1
theorem lf.look{β:Type}{kd:IntKind}{enc:β->zV}{v zero:zV}{f:Int->Option β}{C:Hp}{ok:Bool}{x:Int}{K:zV->Prop}(h:lf kd enc v f C)(hC:∀y∈C,y∈H)
 (hk:K (match f x with|some p=>cond ok (.tuple #[enc p,.bool true]) (enc p)|none=>cond ok (.tuple #[zero,.bool false]) zero)):df (.int kd) zero ok H v (.int kd x) K:=by
 rcases h with⟨rfl,rfl,rfl⟩|⟨b,m,ck,rfl,rfl,_,rfl⟩
 ·exact⟨#[],none,.inl ⟨rfl,rfl⟩,rfl,hk⟩
 obtain⟨r,hr,hp⟩:=jJ kd enc x m 0;refine⟨_,r,.inr ⟨b,ck,rfl,hC _ zI⟩,hr,?_⟩;cases r with
 |none=>simp only[hp.1]at hk;exact hk
 |some jv=>
  obtain⟨j,u⟩:=jv;obtain⟨_,p,n,_,rfl,h3⟩:=hp;simp only[h3]at hk;exact hk
def PB{β:Type}(f:Int->Option β)(x:Int)(p:Option β):Int->Option β:=λy=>if y=x then p else f y
theorem lf.made{β:Type}{kd:IntKind}{enc:β->zV}(b:Nat):lf kd enc (.map (some b)) (λ_=>none) [(b,.map #[] 0)]:=
 .inr ⟨b,[],0,rfl,rfl,by simp,by funext x;simp[gO]⟩
theorem F4{β:Type}(m:List (Int×β×Nat))(x:Int)(p:β)(n:Nat)(hx:x∉m.map Prod.fst):gO (m++[(x,p,n)])=PB (gO m) x (some p):=by
 funext y
 simp only[gO,PB,List.find?_append];by_cases e:y=x
 ·subst e;have:m.find? (λz=>y==z.1)=none:=by
   rw[xcC];intro z hz;simp only[xcR];intro e;exact hx (e▸xaR hz)
  simp[this]
 have e':(y==x)=false:=by simpa using e
 rw[xac e];cases h:m.find? (λz=>y==z.1)<;>simp[e']
theorem y8{β:Type}:∀(m:List (Int×β×Nat)) (j:Nat) (x:Int) (p q:β) (n:Nat),(m.map Prod.fst).Nodup->m[j]? =some (x,q,n)->gO (m.set j (x,p,n))=PB (gO m) x (some p)
 | [],j,_,_,_,_,_,h=>by simp at h
 |y::m,0,x,p,q,n,nd,h=>by
  simp at h;subst h
  funext z
  simp only[xcB,gO,PB,xby];by_cases e:z=x
  ·subst e;simp
  have e':(z==x)=false:=by simpa using e
  rw[xac e];simp[e']
 |y::m,j+1,x,p,q,n,nd,h=>by
  simp at h;simp only[xaC,xaX]at nd;have ih:=y8 m j x p q n nd.2 h;have hne:x≠y.1:=λe=>nd.1 (e▸xaR (f:=Prod.fst) (xaw h))
  funext z
  have ihz:=congrFun ih z;simp only[xeh,gO,PB,xby]at ihz⊢;by_cases e:z=y.1
  ·have:z≠x:=λe2=>hne (e2▸e);simp[e,xbb hne]
  have e':(z==y.1)=false:=by simpa using e
  simp only[e'];exact ihz
theorem tG{β:Type}:∀(m:List (Int×β×Nat)) (j:Nat) (x:Int) (q:β) (n:Nat),(m.map Prod.fst).Nodup->m[j]? =some (x,q,n)->gO (m.eraseIdx j)=PB (gO m) x none
 | [],j,_,_,_,_,h=>by simp at h
 |y::m,0,x,q,n,nd,h=>by
  simp at h;subst h;simp only[xaC,xaX]at nd
  funext z
  simp only[List.eraseIdx_cons_zero,gO,PB,xby];by_cases e:z=x
  ·subst e;have:m.find? (λw=>z==w.1)=none:=by
    rw[xcC];intro w hw;simp only[xcR];intro e;exact nd.1 (e▸xaR hw)
   simp[this]
  have e':(z==x)=false:=by simpa using e
  rw[xac e];simp[e']
 |y::m,j+1,x,q,n,nd,h=>by
  simp at h;simp only[xaC,xaX]at nd;have ih:=tG m j x q n nd.2 h;have hne:x≠y.1:=λe=>nd.1 (e▸xaR (f:=Prod.fst) (xaw h))
  funext z
  have ihz:=congrFun ih z;simp only[List.eraseIdx_cons_succ,gO,PB,xby]at ihz⊢;by_cases e:z=y.1
  ·simp[e,xbb hne]
  have e':(z==y.1)=false:=by simpa using e
  simp only[e'];exact ihz
theorem lf.bt{β:Type}{kd:IntKind}{enc:β->zV}{b:Nat}{f:Int->Option β}{C:Hp}{x:Int}{p:β}{A B:Hp}{K:Hp->Prop}(h:lf kd enc (.map (some b)) f C)
 (hk:∀C',lf kd enc (.map (some b)) (PB f x (some p)) C'->K (A++(C'++B))):aW (.int kd) (A++(C++B)) (.map (some b)) (.int kd x) (enc p) K:=by
 rcases h with⟨h,_,_⟩|⟨b',m,ck,hb,rfl,nd,rfl⟩
 ·simp at h
 simp only[Value.map.injEq,xaq]at hb;subst hb;obtain⟨r,hr,hp⟩:=jJ kd enc x m 0;refine⟨b,fY kd enc m,ck,r,rfl,hr,?_⟩;cases r with
 |none=>
  refine⟨_,((dg.head _).append B).ca A,hk [(b,_)] (.inr ⟨b,m++[(x,p,ck)],ck+1,rfl,?_,?_,?_⟩)⟩
  ·simp[fY]
  ·rw[xaH,xa2];exact⟨nd,by simp,λa ha c hc=>by simp at hc;subst hc;intro e;subst e;exact hp.2 ha⟩
  exact(F4 m x p ck hp.2).symm
 |some jv=>
  obtain⟨j,u⟩:=jv;obtain⟨_,q,n,h1,rfl,h3⟩:=hp;rw[xc7]at h1;have hlt:=(xah.1 h1).1;refine⟨λe he=>?_,by simpa[fY]using hlt,_,((dg.head _).append B).ca A,hk [(b,_)] (.inr ⟨b,m.set j (x,p,n),ck,rfl,?_,?_,?_⟩)⟩
  ·have:e={key:=.int kd x,val:=enc q,born:=n}:=by
    simp only[fY,xdr,xat,h1]at he;simpa using he.symm
   subst this;simp[Instr.sameBits]
  ·congr 3;apply xdg;apply xbg;intro i;simp only[fY,xbf,xbY,xdr,xat,xbr];by_cases e:j=i
   ·subst e;have hj:m[j]=(x,q,n):=by have:=xaa hlt;rw[h1]at this;simpa using this.symm
    simp[hlt,hj]
   simp[e]
  ·rw[xcT];have hx:(m.map Prod.fst)[j]? =some x:=by rw[xat,h1];rfl
   rw[show(m.map Prod.fst).set j x=m.map Prod.fst by
    apply xbg;intro i;rw[xbr];by_cases e:j=i
    ·subst e;rw[hx];simp[hlt]
    simp[e]]
   exact nd
  exact(y8 m j x p q n nd h1).symm
theorem lf.del{β:Type}{kd:IntKind}{enc:β->zV}{v:zV}{f:Int->Option β}{C:Hp}{x:Int}{A B:Hp}{K:Hp->Prop}(h:lf kd enc v f C)
 (hk:∀C',lf kd enc v (PB f x none) C'->K (A++(C'++B))):oD (.int kd) (A++(C++B)) v (.int kd x) K:=by
 rcases h with⟨rfl,rfl,rfl⟩|⟨b,m,ck,rfl,rfl,nd,rfl⟩
 ·refine .inl ⟨rfl,hk [] (.inl ⟨rfl,rfl,?_⟩)⟩
  funext y;simp[PB]
 obtain⟨r,hr,hp⟩:=jJ kd enc x m 0;refine .inr ⟨b,fY kd enc m,ck,r,rfl,hr,?_⟩;cases r with
 |none=>
  refine⟨by simp,hk [(b,_)] (.inr ⟨b,m,ck,rfl,rfl,nd,?_⟩)⟩
  funext y;simp only[PB];split
  ·rename_i e;subst e;exact hp.1.symm
  rfl
 |some jv=>
  obtain⟨j,u⟩:=jv;obtain⟨_,q,n,h1,rfl,h3⟩:=hp;rw[xc7]at h1;have hlt:=(xah.1 h1).1;refine⟨_,((dg.head _).append B).ca A,hk [(b,_)] (.inr ⟨b,m.eraseIdx j,ck,rfl,?_,?_,?_⟩)⟩
  ·congr 3;apply xdg;simp[fY,Array.eraseIdxIfInBounds,hlt,gW]
  ·rw[<-gW];exact nd.sublist (xd0 _ _)
  exact(tG m j x q n nd h1).symm
end
end Go.Sx
namespace Go.Sx
open Go
section
variable {P:Program} {g:Gh} {H:Hp}
theorem wG(off:Nat):∀(r:List zV) (i:Nat) (c:Array zV),(r.zipIdx i).foldl (λcs (x:zV×Nat)=>cs.setIfInBounds (off+x.2) x.1) c=j4 c (off+i) r
 | [],i,c=>rfl
 |v::r,i,c=>by
  rw[List.zipIdx_cons,xcI,wG off r (i+1)];rfl
theorem Og(off:Nat)(a c:Array zV):a.zipIdx.foldl (λcs (x:zV×Nat)=>cs.setIfInBounds (off+x.2) x.1) c=j4 c off a.toList:=by
 rw[<-Array.foldl_toList];have:a.zipIdx.toList=a.toList.zipIdx 0:=by simp
 rw[this,wG off a.toList 0 c];rfl
def vL:List zV->Nat->List zV->List zV
 |c,_,[]=>c
 |c,off,v::r=>vL (c.set off v) (off+1) r
theorem mS:∀(r c:List zV) (off:Nat),j4 c.toArray off r=(vL c off r).toArray
 | [],c,off=>rfl
 |v::r,c,off=>by
  have:c.toArray.setIfInBounds off v=(c.set off v).toArray:=by simp
  rw[j4,vL,this,mS r]
def pT(place:Nat->Option (Nat×Nat)):List zV->List (Nat×zV)->Option (List zV)
 |c,[]=>some c
 |c,(i,v)::r=>
  match place i with
  |none=>none
  |some (off,size)=>cond (Nat.beq v.cells.toList.length size&&Nat.ble (off+v.cells.toList.length) c.length) (pT place (vL c off v.cells.toList) r) none
theorem m6{place:Nat->Option (Nat×Nat)}:∀(r:List (Nat×zV)) (c cs:List zV),pT place c r=some cs->Instr.fill place c.toArray r=some cs.toArray
 | [],c,cs,h=>by simp only[pT,xaq]at h;subst h;rfl
 |(i,v)::r,c,cs,h=>by
  simp only[pT]at h;simp only[Instr.fill];split at h
  ·simp at h
  rename_i off size hp;cases hc:(Nat.beq v.cells.toList.length size&&Nat.ble (off+v.cells.toList.length) c.length)<;>simp only[hc,xap,xag,reduceCtorEq]at h;simp only[xay]at hc;have h1:=xaI hc.1;have h2:=xcW hc.2;have h3:v.cells.toList.length=v.cells.size:=xcf;have hsz:v.cells.size=size:=by rw[<-h3];exact h1
  have hle:off+v.cells.size<=c.length:=by rw[<-h3];exact h2
  simp only[hp];have Sy:(decide (v.cells.size≠size)||decide (off+v.cells.size>c.toArray.size))=false:=by
   rw[xaG];exact⟨by simp[hsz],by simp only[xc0,xbl];omega⟩
  rw[Sy];simp only[xaS,xa1];rw[Og,mS];exact m6 r _ cs h
def rh(P:Program):List Field->Option (List (Nat×Nat))
 | []=>some []
 |f::r=>match dL P f.type,rh P r with
  |some n,some l=>some ((f.offset,n)::l)
  |_,_=>none
def TE(P:Program)(t:TypeId)(parts:List (Nat×zV)):Option (List zV):=
 match P.underlying t,fK P t with
 |some (.struct fs),some z=>match rh P fs.toList with
  |some pl=>pT (λi=>pl[i]?) z.cells.toList parts
  |none=>none
 |_,_=>none
theorem tD:∀(fs:List Field) (pl:List (Nat×Nat)),rh P fs=some pl->∀w,(fs.mapM λf=>(do pure (f.offset,<-sizeOf f.type):Sem (Nat×Nat))).run P w=.ok pl w
 | [],pl,h,w=>by simp only[rh,xaq]at h;subst h;rfl
 |f::r,pl,h,w=>by
  simp only[rh]at h;split at h
  ·rename_i n l hn hl;simp only[xaq]at h;subst h;obtain⟨i,hi,hin⟩:=bG hn;have ih:=tD r l hl w;simp only[xd9,Sem.run_bind,run_sizeOf hi,Result.andThen_ok,Sem.run_pure,hin,ih]
  simp at h
theorem Build.mk{t:TypeId}{parts:List (Nat×zV)}{cs:List zV}{k:zV->Prop}(hb:TE P t parts=some cs)(h:k (.agg cs.toArray)):Build P t parts k:=by
 refine⟨_,λw=>?_,h⟩;unfold TE at hb;split at hb
 ·rename_i fs z hu hz;split at hb
  ·rename_i pl zu;obtain⟨i,hi,yg⟩:=cJ hz;have hf:=m6 _ _ _ hb;have hp:=tD fs.toList pl zu w;simp only[Instr.build,Sem.run_bind,dV hi yg,Result.andThen_ok,run_underlying hu];have e2:((fs.mapM λf=>(do pure (f.offset,<-sizeOf f.type):Sem (Nat×Nat))).run P w)=.ok pl.toArray w:=by
    rw[Array.mapM_eq_mapM_toList];simp only[Sem.run_map,hp,Result.andThen_ok]
   rw[e2];show Sem.run P _ w=_;have e3:Instr.fill (λx=>pl.toArray[x]?) z.cells parts=some cs.toArray:=by
    simpa using hf
   simp only[e3];rfl
  simp at hb
 simp at hb
theorem au.one{t e k:Nat}{z:zV}{r:List zV}{K:zV->Hp->Prop}(h1:P.underlying t=some (.slice e))(h2:dL P e=some k)(h3:fK P e=some z)(hk:0<k/\k<=16777216)(hr:r.length=k)
 (h:∀b,K (.slice (some ⟨b,0,none⟩) 1 1) ((b,.cells r.toArray e zZ)::H)):au P t 1 [(0,.agg r.toArray)] H K:=by
 refine⟨r.toArray,e,k,z,h1,h2,h3,by omega,?_,λb _=>h b⟩;have:((Array.range (1*k)).map (z.cells[· %z.cells.size]!))=(((Array.range (1*k)).map (z.cells[· %z.cells.size]!)).toList).toArray:=by rw[xdv]
 rw[this];generalize hc:((Array.range (1*k)).map (z.cells[· %z.cells.size]!)).toList=c;have hlen:c.length=k:=by rw[<-hc];simp
 refine m6 _ _ _ ?_;simp only[pT,Value.cells];have hb:(Nat.beq r.toArray.toList.length k&&Nat.ble (0*k+r.toArray.toList.length) c.length)=true:=by simp[hr,hlen]
 rw[hb];simp only[xap,xaq];have:=oU r c 0 zO;rw[mS]at this;have h5:vL c 0 r=List.take 0 c++r++List.drop (0+r.length) c:=by simpa using xce Array.toList this
 simp only[xd4];rw[h5];simp[xdk,hr,hlen]
end
end Go.Sx
namespace Go.Sx
open Go
section
variable {P:Program} {g:Gh} {H:Hp}
theorem lf.NI{β:Type}{kd:IntKind}{enc:β->zV}{v zero:zV}{f:Int->Option β}{C:Hp}{ok:Bool}{x:Int}{K:zV->Prop}{p:β}(h:lf kd enc v f C)(hC:∀y∈C,y∈H)(hf:f x=some p)
 (hk:K (cond ok (.tuple #[enc p,.bool true]) (enc p))):df (.int kd) zero ok H v (.int kd x) K:=h.look hC (by rw[hf];exact hk)
theorem lf.NJ{β:Type}{kd:IntKind}{enc:β->zV}{v zero:zV}{f:Int->Option β}{C:Hp}{ok:Bool}{x:Int}{K:zV->Prop}(h:lf kd enc v f C)(hC:∀y∈C,y∈H)(hf:f x=none)
 (hk:K (cond ok (.tuple #[zero,.bool false]) zero)):df (.int kd) zero ok H v (.int kd x) K:=h.look hC (by rw[hf];exact hk)
theorem gx.upto{size n c h:Nat}{a:Option Addr}{kd:IntKind}{k:zV->Prop}(hh:h<=c)(hk:k (.slice a h c)):gx size (.slice a n c) none (some (.int kd (h:Int))) k:=by
 refine⟨a,n,c,0,h,rfl,rfl,rfl,by omega,by omega,by omega,?_⟩;have:(if c=(0:Int).toNat then a else a.map (·.add ((0:Int).toNat*size)))=a:=by
  split
  ·rfl
  simp only[Int.toNat_zero,xd4];cases a with
  |none=>rfl
  |some x=>simp[Addr.add_zero']
 rw[this];simpa using hk
end
end Go.Sx
namespace Go.Sx
open Go
section
variable {P:Program} {g:Gh} {H:Hp}
inductive bH(C:Hp):Hp->(Hp->Hp)->Prop
 |here:bH C C (λX=>X)
 |left {A:Hp}:bH C (C++A) (λX=>X++A)
 |cons {x:Nat×Obj} {H:Hp} {c:Hp->Hp} (h:bH C H c):bH C (x::H) (λX=>x::c X)
 |app {A H:Hp} {c:Hp->Hp} (h:bH C H c):bH C (A++H) (λX=>A++c X)
theorem bH.spec{C H:Hp}{c:Hp->Hp}(h:bH C H c):H=c C/\∃F,∀X,(c X).Perm (X++F):=by
 induction h with
 |here=>exact⟨rfl,[],λX=>by simp⟩
 | @left A=>exact⟨rfl,A,λX=>.refl _⟩
 | @cons x H c h ih=>
  obtain⟨h1,F,h2⟩:=ih;exact⟨by rw[h1],x::F,λX=>(List.Perm.cons x (h2 X)).trans xaT.symm⟩
 | @app A H c h ih=>
  obtain⟨h1,F,h2⟩:=ih;refine⟨by rw[h1],A++F,λX=>(xbZ A (h2 X)).trans ?_⟩;rw[<-xaj,<-xaj];exact xbe.append_right F
theorem bH.dK{C H:Hp}{c:Hp->Hp}(h:bH C H c){X Y:Hp}(e:aN X Y):aN (c X) (c Y):=by
 obtain⟨_,F,hp⟩:=h.spec;exact(aN.perm (hp X)).trans ((e.frame F).trans (.perm (hp Y).symm))
theorem aN.cons{x:Nat×Obj}{A B:Hp}(h:aN A B):aN (x::A) (x::B):=aN.c8 h [x]
theorem aN.skip{x:Nat×Obj}{A B:Hp}(h:aN A B):aN (x::A) B:=aN.tail.trans h
theorem aN.gC{X A B:Hp}(h:aN A B):aN (X++A) B:=aN.right.trans h
theorem aN.assoc{A B C:Hp}:aN ((A++B)++C) (A++(B++C)):=λ_ _ h=>by rw[<-xaj];exact h
theorem bE.frame{f:FuncId}{args:Array zV}{C F:Hp}{R:Ending->Hp->Prop}(h:∀g,bE P g f args C R):bE P g f args (C++F) (λe H'=>∃C',H'=C'++F/\R e C'):=by
 intro w hw;exact((h (g.add F)) w (Own.fm.1 hw)).mono λe w' ⟨H',ho,hr⟩=>⟨_,Own.fm.2 ho,H',rfl,hr⟩
theorem bE.hole{f:FuncId}{args:Array zV}{C H:Hp}{c:Hp->Hp}{R:Ending->Hp->Prop}(hh:bH C H c)(h:∀g,bE P g f args C R):bE P g f args H (λe H'=>∃C',H'=c C'/\R e C'):=by
 obtain⟨rfl,F,hp⟩:=hh.spec;exact((bE.frame (F:=F) h).pre (.perm (hp C))).post λe H' ⟨C',h1,h2⟩=>⟨c C',by rw[h1];exact .perm (hp C').symm,C',rfl,h2⟩
def Fc(P:Program)(f:FuncId)(args:Array zV)(C:Hp)(Q:zV->Hp->Prop):Prop:=
 ∀g,bE P g f args C (λe H'=>∃v nH,e=.returned v/\aN H' nH/\Q v nH)
def aF(Q:zV->Hp->Prop):Ending->Hp->Prop:=λe H'=>∃v nH,e=.returned v/\aN H' nH/\Q v nH
theorem aF.mk{Q:zV->Hp->Prop}{v:zV}{H nH:Hp}(he:aN H nH)(h:Q v nH):aF Q (.returned v) H:=⟨v,nH,rfl,he,h⟩
theorem aF.here{Q:zV->Hp->Prop}{v:zV}{H:Hp}(h:Q v H):aF Q (.returned v) H:=⟨v,H,rfl,.refl _,h⟩
theorem Fc.mono{f:FuncId}{args:Array zV}{C:Hp}{Q Q':zV->Hp->Prop}(h:Fc P f args C Q)(hq:∀v H,Q v H->Q' v H):Fc P f args C Q':=
 λg=>(h g).mono λe H' ⟨v,nH,h1,h2,h3⟩=>⟨v,nH,h1,h2,hq _ _ h3⟩
def Rd(P:Program)(f:FuncId)(args:Array zV)(B:Hp)(Q:zV->Prop):Prop:=Fc P f args B (λv H=>H=B/\Q v)
theorem aa.fn{f:FuncId}{args:Array zV}{C H:Hp}{c:Hp->Hp}{Q:zV->Hp->Prop}{K:zV->Hp->Prop}{KP:List PanicEntry->Hp->Prop}(hh:bH C H c)(hc:Fc P f args C Q)
 (hk:∀v C',Q v C'->K v (c C')):aa P g f args H K KP:=
 (bE.hole hh hc).post λe H' ⟨C',h1,v,C'',h2,h3,h4⟩=>⟨c C'',by rw[h1];exact hh.dK h3,by subst h2;exact hk _ _ h4⟩
theorem aa.rd{f:FuncId}{args:Array zV}{B H:Hp}{c:Hp->Hp}{Q:zV->Prop}{K:zV->Hp->Prop}{KP:List PanicEntry->Hp->Prop}(hh:bH B H c)(hc:Rd P f args B Q)
 (hk:∀v,Q v->K v H):aa P g f args H K KP:=
 aa.fn hh hc λv C' ⟨h1,h2⟩=>by subst h1;rw[<-hh.spec.1];exact hk v h2
theorem aL.of{fv:zV}{args:Array zV}{K:zV->Hp->Prop}{KP:List PanicEntry->Hp->Prop}{f:FuncId}{first captured:Array zV}(hf:fv=.func (.func f) first captured)(hc:aT P f=true)
 (h:aa P g f (first++args++captured) H K KP):aL P g fv args H K KP:=⟨f,first,captured,hf,hc,h⟩
theorem DR.self{body:Hp->Prop}(h:body H):DR H body:=⟨H,.refl _,h⟩
theorem DR.of{R:Hp}{body:Hp->Prop}(e:aN H R)(h:body R):DR H body:=⟨R,e,h⟩
def At(B:Hp)(p:zV)(r:List zV):Prop:=∃b o c T fz,p=.pointer (some ⟨b,o,none⟩)/\(b,Obj.cells c T fz)∈B/\∀j v,r[j]? =some v->c[o+j]? =some v
theorem At.block{b:Nat}{l:List zV}{T:TypeId}{fz:Nat×Nat}{B:Hp}(h:(b,Obj.cells l.toArray T fz)∈B):At B (.pointer (some ⟨b,0,none⟩)) l:=
 ⟨b,0,_,T,fz,rfl,h,λj v hj=>by simpa using hj⟩
theorem Ld.at{p v:zV}{r:List zV}{B:Hp}{k:zV->Prop}(h:At B p (v::r))(hs:∀x∈B,x∈H)(hk:k v):Ld H p k:=by
 obtain⟨b,o,c,T,fz,h1,h2,h3⟩:=h;exact⟨b,o,c,T,fz,v,h1,hs _ h2,by simpa using h3 0 v rfl,hk⟩
theorem ai.at{p:zV}{r:List zV}{B:Hp}{j:Nat}{k:zV->Prop}(h:At B p r)(hk:∀q,At B q (r.drop j)->k q):ai j p k:=by
 obtain⟨b,o,c,T,fz,h1,h2,h3⟩:=h;refine⟨b,o,h1,hk _ ⟨b,o+j,c,T,fz,rfl,h2,λi v hi=>?_⟩⟩;rw[List.getElem?_drop]at hi;rw[xcN];exact h3 _ _ hi
theorem az.at{p:zV}{r:List zV}{B:Hp}{n:Nat}{k:zV->Prop}(h:At B p r)(hn:r.length=n)(hp:0<n)(hs:∀x∈B,x∈H)(hk:k (.agg r.toArray)):az n H p k:=by
 obtain⟨b,o,c,T,fz,h1,h2,h3⟩:=h;have hsz:o+n<=c.size:=by
  have:=h3 (n-1) (r[n-1]' zO) (xaa _);have:=(xaU.1 this).1;omega
 refine⟨b,o,c,T,fz,h1,hs _ h2,hsz,?_⟩;have:c.extract o (o+n)=r.toArray:=by
  apply Array.ext
  ·simp;omega
  intro i hi1 LP;simp only[xc0]at LP;have:=h3 i r[i] (xaa _);rw[Array.getElem_extract];have:=(xaU.1 this).2;simpa using this
 rw[this];exact hk
def Sl(k:Nat)(B:Hp)(v:zV)(rs:List (List zV)):Prop:=
 (∀r∈rs,r.length=k)/\
 ((∃a cap,v=.slice a 0 cap/\rs=[])\/∃b o cap c T fz,v=.slice (some ⟨b,o,none⟩) rs.length cap/\rs.length<=cap/\(b,Obj.cells c T fz)∈B/\o+rs.length*k<=c.size/\∀i r,rs[i]? =some r->∀j v,r[j]? =some v->c[o+i*k+j]? =some v)
theorem Sl.mono{k:Nat}{B B':Hp}{v:zV}{rs:List (List zV)}(h:Sl k B v rs)(hs:∀x∈B,x∈B'):Sl k B' v rs:=by
 obtain⟨h0,h⟩:=h;refine⟨h0,?_⟩;rcases h with h|⟨b,o,cap,c,T,fz,h1,h2,h3,h4⟩
 ·exact .inl h
 exact .inr ⟨b,o,cap,c,T,fz,h1,h2,hs _ h3,h4⟩
theorem Sl.nil(k:Nat)(B:Hp):Sl k B (.slice none 0 0) []:=⟨by simp,.inl ⟨_,_,rfl,rfl⟩⟩
theorem Sl.shape{k:Nat}{B:Hp}{v:zV}{rs:List (List zV)}(h:Sl k B v rs):∃a cap,v=.slice a rs.length cap/\rs.length<=cap:=by
 rcases h.2 with⟨a,cap,rfl,rfl⟩|⟨b,o,cap,c,T,fz,h1,h2,_⟩
 ·exact⟨_,_,rfl,xaO _⟩
 exact⟨_,_,h1,h2⟩
theorem Sl.bP{k:Nat}{B:Hp}{v:zV}{rs:List (List zV)}(h:Sl k B v rs){K:zV->Prop}(hk:K (.int .i64 rs.length)):aR v K:=by
 obtain⟨a,c,rfl,_⟩:=h.shape;exact aR.mk hk
theorem av.sl{k:Nat}{B:Hp}{v:zV}{rs:List (List zV)}{kd:IntKind}{i:Nat}{r:List zV}{K:zV->Prop}(h:Sl k B v rs)(hi:rs[i]? =some r)(hk:∀p,At B p r->K p):av k v (.int kd (i:Int)) K:=by
 have hlt:=(xah.1 hi).1;rcases h.2 with⟨a,cap,rfl,rfl⟩|⟨b,o,cap,c,T,fz,h1,h2,h3,h4,h5⟩
 ·simp at hlt
 subst h1;refine av.nat zO (hk _ ⟨b,_,c,T,fz,rfl,h3,λj v hj=>h5 i r hi j v hj⟩)
theorem Sl.cells{k:Nat}{B:Hp}{v:zV}{rs:List (List zV)}(h:Sl k B v rs):∃a cap,v=.slice a rs.length cap/\Cells B a (rs.length*k) (rows rs):=by
 rcases h.2 with⟨a,cap,rfl,rfl⟩|⟨b,o,cap,c,T,fz,h1,h2,h3,h4,h5⟩
 ·refine⟨a,cap,rfl,?_⟩;cases a with
  |none=>simp[Cells,rows]
  |some a=>exact .inl ⟨by simp,rfl⟩
 ·refine⟨_,cap,h1,.inr ⟨rfl,c,T,fz,h3,h4,?_⟩⟩;apply Array.ext
  ·rw[bR h.1];simp;omega
  intro i hi1 LP;rw[bR h.1]at hi1;have hk:0<k:=xei λe=>by simp[e]at hi1
  have hd:i/k<rs.length:=xd3 (by rw[xcm];exact hi1);have hm:i%k<k:=xbG _ hk;have he:i/k*k+i%k=i:=by rw[xcm];exact xey i k
  have hr:=h.1 rs[i/k] (xaF hd);have g1:=iP h.1 (i:=i/k) hm;rw[he,xaa hd,xeq,xaa zO]at g1;have g2:=h5 (i/k) _ (xaa hd) (i%k) _ (xaa zO);rw[xcN,he]at g2;have e1:=(xaU.1 g1).2;have e2:=(xaU.1 g2).2;rw[Array.getElem_extract];exact e1.trans e2.symm
theorem Sl.rj{T:TypeId}{k:Nat}{v:zV}{rs:List (List zV)}{C:Hp}(h:aV T k v rs C)(hk:0<k):Sl k C v rs:=by
 rcases h with⟨rfl,rfl,rfl⟩|⟨b,aK,rfl,rfl,aJ⟩
 ·exact Sl.nil _ _
 refine⟨λr hr=>aJ r (by simp[hr]),.inr ⟨b,0,_,rows (rs++aK),T,(0,0),rfl,by omega,by simp,?_,λi r hi j v hj=>?_⟩⟩
 ·rw[bR aJ,xaf,xa5];exact xaZ _ zO
 have hlt:=(xah.1 hi).1;have hr:=aJ r (xad _ (xaw hi));have Wn:j<k:=by rw[<-hr];exact(xah.1 hj).1
 rw[xa5,iP aJ Wn,xaV hlt,hi];exact hj
end
end Go.Sx
namespace Go.Sx
open Go
def bA:IntKind->Nat
 | .i8=>128| .i16=>32768| .i32=>2147483648| .i64=>9223372036854775808
 | .u8=>256| .u16=>65536| .u32=>4294967296| .u64=>18446744073709551616
theorem fe{kd:IntKind}{n:Nat}(h:n<bA kd):kd.wrap (n:Int)=n:=by
 cases kd<;>simp only[bA]at h<;>simp only[IntKind.wrap,IntKind.bits,IntKind.signed,xdN,xcp,xaS,xa1,xaJ];all_goals first
  |omega
  |(rw[xac zP];omega)
theorem wrap_u64(n:Int):IntKind.u64.wrap n=n%18446744073709551616:=by simp[IntKind.wrap,IntKind.bits,IntKind.signed]
theorem Ru(kd:IntKind):bA kd<=2^kd.bits:=by cases kd<;>decide
def iJ(a b:Nat):Nat:=a^^^(a&&&b)
theorem cP(a b j:Nat):(iJ a b).testBit j=(a.testBit j&& !b.testBit j):=by
 unfold iJ;rw[Nat.testBit_xor,xbd];cases a.testBit j<;>cases b.testBit j<;>rfl
theorem fH(a b:Nat):iJ a b<=a:=by
 have:iJ a b=a&&&iJ a b:=by
  apply xaY;intro j;rw[xbd,cP];cases a.testBit j<;>simp
 rw[this];exact xcj
theorem bits_nat{kd:IntKind}{a b:Nat}(ha:a<bA kd)(hb:b<bA kd):
  bits .and kd a b=((a&&&b:Nat):Int)/\bits .or kd a b=((a|||b:Nat):Int)/\bits .xor kd a b=((a^^^b:Nat):Int)/\bits .andNot kd a b=((iJ a b:Nat):Int):=by
 have hl:=Ru kd;have h1:(BitVec.ofInt kd.bits (a:Int)).toNat=a:=by rw[xcJ,BitVec.toNat_ofNat,xbc zO]
 have h2:(BitVec.ofInt kd.bits (b:Int)).toNat=b:=by rw[xcJ,BitVec.toNat_ofNat,xbc zO]
 obtain⟨n,hn⟩:∃n,bA kd=2^n:=by cases kd<;>first|exact⟨7,rfl⟩|exact⟨15,rfl⟩|exact⟨31,rfl⟩|exact⟨63,rfl⟩|exact⟨8,rfl⟩|exact⟨16,rfl⟩|exact⟨32,rfl⟩|exact⟨64,rfl⟩
 rw[hn]at ha hb;refine⟨?_,?_,?_,?_⟩
 ·simp only[bits,BitVec.toNat_and,h1,h2];exact fe (by rw[hn];exact xau xcj ha)
 ·simp only[bits,BitVec.toNat_or,h1,h2];exact fe (by rw[hn];exact xbF ha hb)
 ·simp only[bits,BitVec.toNat_xor,h1,h2];exact fe (by rw[hn];exact Nat.xor_lt_two_pow ha hb)
 simp only[bits];have:(BitVec.ofInt kd.bits (a:Int) &&& ~~~BitVec.ofInt kd.bits (b:Int)).toNat=iJ a b:=by
  apply xaY;intro j;rw[cP,<-BitVec.getLsbD,BitVec.getLsbD_and,BitVec.getLsbD_not,BitVec.getLsbD,BitVec.getLsbD,h1,h2];by_cases hj:j<kd.bits
  ·simp[hj]
  have:a.testBit j=false:=xbW (xaN ha (by rw[<-hn];exact xbS hl (xaA zD zO)));simp[this]
 rw[this];exact fe (by rw[hn];exact xau (fH a b) ha)
section
variable {kd yc:IntKind} {a b:Nat} {k:zV->Prop}
theorem ae.jj(ha:a<bA kd)(hb:b<bA kd)(h:k (.int kd ((a&&&b:Nat):Int))):ae .num .and (.int kd a) (.int kd b) k:=⟨_,by simp[gu,mc,(bits_nat ha hb).1],h⟩
theorem ae.C9(ha:a<bA kd)(hb:b<bA kd)(h:k (.int kd ((a|||b:Nat):Int))):ae .num .or (.int kd a) (.int kd b) k:=⟨_,by simp[gu,mc,(bits_nat ha hb).2.1],h⟩
theorem ae.Yv(ha:a<bA kd)(hb:b<bA kd)(h:k (.int kd ((a^^^b:Nat):Int))):ae .num .xor (.int kd a) (.int kd b) k:=⟨_,by simp[gu,mc,(bits_nat ha hb).2.2.1],h⟩
theorem ae.pV(ha:a<bA kd)(hb:b<bA kd)(h:k (.int kd ((iJ a b:Nat):Int))):ae .num .andNot (.int kd a) (.int kd b) k:=⟨_,by simp[gu,mc,(bits_nat ha hb).2.2.2],h⟩
theorem ae.ic(ha:a<bA kd)(h:k (.int kd ((a>>>b:Nat):Int))):ae .num .shr (.int kd a) (.int yc b) k:=by
 refine⟨_,?_,h⟩;have h0:¬((b:Int)<0):=by omega
 simp only[gu,h0,xa1,xaq,Value.int.injEq,xcZ,xa3];rw[Int.fdiv_eq_ediv_of_nonneg _ (Int.le_of_lt (Int.pow_pos zD)),xaW];have hl:=Ru kd;by_cases hb:b<=kd.bits
 ·rw[xcG hb];push_cast;rfl
 rw[xdw zO];have h1:a/2^kd.bits=0:=xcQ zO;have h2:a/2^b=0:=xcQ (xaN zO (xaA zD (by omega:kd.bits<=b)));have:(a:Int) / (2^kd.bits:Int)=((a/2^kd.bits:Nat):Int):=by push_cast;rfl
 rw[this,h1,h2]
theorem ae.Cz(hb:b<=kd.bits)(hr:a<<<b<bA kd)(h:k (.int kd ((a<<<b:Nat):Int))):ae .num .shl (.int kd a) (.int yc b) k:=by
 refine⟨_,?_,h⟩;have h0:¬((b:Int)<0):=by omega
 simp only[gu,h0,xa1,xaq,Value.int.injEq,xcZ,xa3,xcG hb];rw[<-fe hr,xco];push_cast;rfl
theorem ae.kW(h:k (.int .u64 (((a<<<b)%18446744073709551616:Nat):Int))):ae .num .shl (.int .u64 a) (.int yc b) k:=by
 refine⟨_,?_,h⟩;have h0:¬((b:Int)<0):=by omega
 simp only[gu,h0,xa1,xaq,Value.int.injEq,xcZ,xa3,IntKind.bits,wrap_u64];rw[xco];by_cases hb:b<=64
 ·rw[xcG hb,Int.natCast_emod,Int.natCast_mul,Int.natCast_pow];rfl
 rw[xdw zO];have h1:(a*2^b)%18446744073709551616=0:=by
  have:2^b=18446744073709551616*2^(b-64):=by rw[show(18446744073709551616:Nat)=2^64 by rfl,<-xdl];congr 1;omega
  rw[this,Nat.mul_left_comm];exact Nat.mul_mod_right _ _
 rw[h1];exact Int.mul_emod_left _ _
theorem ae.Xg(hr:a+b<bA kd)(h:k (.int kd ((a+b:Nat):Int))):ae .num .add (.int kd a) (.int kd b) k:=by
 refine ae.add ?_;have:((a:Int)+(b:Int))=((a+b:Nat):Int):=by push_cast;rfl
 rw[this,fe hr];exact h
theorem ae.x5(ha:a<bA kd)(hb:b<=a)(h:k (.int kd ((a-b:Nat):Int))):ae .num .sub (.int kd a) (.int kd b) k:=by
 refine ae.sub ?_;have:((a:Int) -(b:Int))=((a-b:Nat):Int):=by omega
 rw[this,fe zO];exact h
theorem ae.afw(hr:a*b<bA kd)(h:k (.int kd ((a*b:Nat):Int))):ae .num .mul (.int kd a) (.int kd b) k:=by
 refine ae.mul ?_;have:((a:Int)*(b:Int))=((a*b:Nat):Int):=by push_cast;rfl
 rw[this,fe hr];exact h
theorem ae.GQ(ha:a<bA kd)(hb:b≠0)(h:k (.int kd ((a/b:Nat):Int))):ae .num .quo (.int kd a) (.int kd b) k:=by
 refine⟨_,?_,h⟩;have h0:¬((b:Int)=0):=by omega
 simp only[gu,mc,xa7,h0,xa1];have:(a:Int).tdiv b=((a/b:Nat):Int):=by rw[Int.tdiv_eq_ediv_of_nonneg zO];push_cast;rfl
 rw[this,fe (xau (Nat.div_le_self _ _) ha)]
theorem ae.afx(hb:b≠0)(h:k (.int kd ((a%b:Nat):Int))):ae .num .rem (.int kd a) (.int kd b) k:=by
 refine⟨_,?_,h⟩;have h0:¬((b:Int)=0):=by omega
 simp only[gu,mc,xa7,h0,xa1];have:(a:Int).tmod b=((a%b:Nat):Int):=by rw[Int.tmod_eq_emod_of_nonneg zO];push_cast;rfl
 rw[this]
theorem ae.gX{x y:Int}(h:k (.bool (decide (x=y)))):ae .num .eql (.int kd x) (.int kd y) k:=ae.eql (by rw[show(x==y)=decide (x=y)from by cases hb:decide (x=y)<;>simp_all];exact h)
theorem ae.cO{x y:Int}(h:k (.bool (decide (x≠y)))):ae .num .neq (.int kd x) (.int kd y) k:=ae.neq (by rw[show(x !=y)=decide (x≠y)from by cases hb:decide (x=y)<;>simp_all];exact h)
theorem ae.dJ(h:k (.bool (decide (a=b)))):ae .num .eql (.int kd a) (.int kd b) k:=ae.gX (by simpa[xez]using h)
theorem ae.xU(h:k (.bool (decide (a≠b)))):ae .num .neq (.int kd a) (.int kd b) k:=ae.cO (by simpa[xez]using h)
theorem ae.eZ(h:k (.bool (decide (a<b)))):ae .num .lss (.int kd a) (.int kd b) k:=ae.lss (by simpa[Int.ofNat_lt]using h)
theorem ae.BS(h:k (.bool (decide (a<=b)))):ae .num .leq (.int kd a) (.int kd b) k:=ae.leq (by simpa[Int.ofNat_le]using h)
theorem ae.nq(h:k (.bool (decide (b<a)))):ae .num .gtr (.int kd a) (.int kd b) k:=ae.gtr (by simpa[Int.ofNat_lt]using h)
theorem ae.s6(h:k (.bool (decide (b<=a)))):ae .num .geq (.int kd a) (.int kd b) k:=ae.geq (by simpa[Int.ofNat_le]using h)
theorem bc.nat(ha:a<bA kd)(h:k (.int kd (a:Int))):bc kd (.int yc a) k:=bc.of (fe ha) h
theorem bc.ahD(h:k (.int .u8 ((a%256:Nat):Int))):bc .u8 (.int yc a) k:=bc.of (by simp[IntKind.wrap,IntKind.bits,IntKind.signed]) h
theorem Un.abN(ha:a<18446744073709551616)(h:k (.int .u64 (((18446744073709551616-a)%18446744073709551616:Nat):Int))):Un .neg (.int .u64 a) k:=by
 refine⟨_,?_,h⟩;simp only[unV,wrap_u64,xaq,Value.int.injEq,xcZ];omega
theorem Un.afb(ha:a<18446744073709551616)(h:k (.int .u64 ((18446744073709551615-a:Nat):Int))):Un .xor (.int .u64 a) k:=by
 refine⟨_,?_,h⟩;have e:(if IntKind.u64.signed=true then(-1:Int)else IntKind.u64.max)=((18446744073709551615:Nat):Int):=by decide
 simp only[unV,e,(bits_nat (kd:=.u64) (a:=18446744073709551615) (b:=a) zD ha).2.2.1,xaq,Value.int.injEq,xcZ];congr 1;have:18446744073709551615^^^a=18446744073709551615-a:=by
  have E5:a<2^64:=ha;rw[show(18446744073709551615:Nat)=2^64-1 by rfl];apply xaY;intro j;rw[Nat.testBit_xor,show 2^64-1-a=2^64-(a+1)by omega,xds E5,xcU];by_cases hj:j<64
  ·simp[hj]
  simp[hj];exact xbW (xaN E5 (xaA zD zO))
 exact this
end
theorem Br.dec{p:Prop}[Decidable p]{t f:Prop}(h1:p->t)(h2:¬p->f):Br (.bool (decide p)) t f:=⟨_,rfl,λh=>h1 (by simpa using h),λh=>h2 (by simpa using h)⟩
theorem Br.adT{p:Prop}[Decidable p]{t f:Prop}(hp:p)(h1:t):Br (.bool (decide p)) t f:=Br.dec (λ_=>h1) λh=>absurd hp h
theorem Br.Tn{p:Prop}[Decidable p]{t f:Prop}(hp:¬p)(h1:f):Br (.bool (decide p)) t f:=Br.dec (λh=>absurd h hp) λ_=>h1
end Go.Sx
namespace ak
open Go.Sx
def wN(n:Nat):Nat:=max 1 (2^n/64)
def dP(n:Nat):Nat:=if 6<=n then 18446744073709551615 else 2^2^n-1
structure eY(n:Nat)(ws:zL):Prop where
 ya:n<=16
 len:ws.length=wN n
 full:∀w∈ws,w<=dP n
instance (n:Nat)(ws:zL):Decidable (eY n ws):=decidable_of_iff (n<=16/\ws.length=wN n/\∀w∈ws,w<=dP n) ⟨λ⟨a,b,c⟩=>⟨a,b,c⟩,λ⟨a,b,c⟩=>⟨a,b,c⟩⟩
def bit(ws:zL)(x:Nat):Bool:=(ws.getD (x/64) 0).testBit (x%64)
def aB(x v:Nat)(b:Bool):Nat:=if b then x|||2^v else iJ x (2^v)
theorem Yw(n:Nat):0<wN n:=Nat.le_max_left _ _
theorem KY{n:Nat}(h:6<=n):wN n=2^(n-6):=by
 unfold wN;have:2^n/64=2^(n-6):=by
  rw[show(64:Nat)=2^6 by rfl,Nat.pow_div h zD]
 rw[this];exact Nat.max_eq_right (xa6 _)
theorem KX{n:Nat}(h:n<7):wN n=1:=by
 have:n=0\/n=1\/n=2\/n=3\/n=4\/n=5\/n=6:=by omega
 rcases this with rfl|rfl|rfl|rfl|rfl|rfl|rfl<;>rfl
theorem yH{n:Nat}(h:n<=16):wN n<=1024:=by
 by_cases h6:6<=n
 ·rw[KY h6];exact xaA zD (by omega:n-6<=10)
 rw[KX zO];decide
theorem rT(n:Nat):dP n<18446744073709551616:=by
 unfold dP;split
 ·decide
 have h1:2^n<=32:=xaA (n:=2) zD (by omega:n<=5);have h2:2^2^n<=2^32:=xaA zD h1;omega
theorem eY.lt{n:Nat}{ws:zL}(h:eY n ws){w:Nat}(hw:w∈ws):w<18446744073709551616:=xau (h.full w hw) (rT n)
theorem xg{n w:Nat}(h:w<=dP n):w&&&dP n=w:=by
 unfold dP at*;split at h
 ·rename_i h6;rw[xae h6,show(18446744073709551615:Nat)=2^64-1 by rfl,xd5,xbc zO]
 rename_i h6;rw[xac h6,xd5,xbc];have:=xa6 (2^n);omega
theorem mL(n j:Nat):(dP n).testBit j=decide (j<if 6<=n then 64 else 2^n):=by
 unfold dP;split
 ·rw[show(18446744073709551615:Nat)=2^64-1 by rfl,xcU]
 rw[xcU]
theorem Dw{n x:Nat}(h:x<2^n):x/64<wN n:=by
 by_cases h6:6<=n
 ·rw[KY h6];refine xd3 ?_;rw[show(64:Nat)=2^6 by rfl,<-xdl];rwa [show 6+(n-6)=n by omega]
 have h1:2^n<=32:=xaA (n:=2) zD (by omega:n<=5);rw[KX zO];omega
theorem eY.ext{n:Nat}{a b:zL}(ha:eY n a)(hb:eY n b)(h:∀x,x<2^n->bit a x=bit b x):a=b:=by
 apply List.ext_getElem (by rw[ha.len,hb.len]);intro i h1 h2;apply xaY;intro j;have hfa:=xg (ha.full _ (xaF h1));have hfb:=xg (hb.full _ (xaF h2));by_cases hj:j<(if 6<=n then 64 else 2^n)
 ·have ak9:j<64:=by
   split at hj
   ·exact hj
   have h1:2^n<=32:=xaA (n:=2) zD (by omega:n<=5);omega
  have hx:64*i+j<2^n:=by
   by_cases h6:6<=n
   ·have hi:i<2^(n-6):=by rw[<-KY h6,<-ha.len];exact h1
    have:2^n=64*2^(n-6):=by rw[show(64:Nat)=2^6 by rfl,<-xdl];congr 1;omega
    omega
   have hi:i<1:=by rw[<-KX (show n<7 by omega),<-ha.len];exact h1
   rw[xac h6]at hj;omega
  have:=h _ hx;unfold bit at this;rw[show(64*i+j) /64=i by omega,show(64*i+j)%64=j by omega]at this;simpa[h1,h2]using this
 have hd:(dP n).testBit j=false:=by rw[mL];simpa using hj
 rw[<-hfa,<-hfb,xbd,xbd,hd];simp
def Bv(v:Nat):Nat->Nat
 |0=>0
 |j+1=>Bv v j|||(((j>>>v) &&&1)<<<j)
def mask(v:Nat):Nat:=Bv v 64
theorem gw(m:Nat):m&&&1=if m.testBit 0 then 1 else 0:=by
 rw[xbT,Nat.testBit_zero];rcases Nat.mod_two_eq_zero_or_one m with h|h<;>simp[h]
theorem qY(v:Nat):∀J k,(Bv v J).testBit k=(decide (k<J) &&k.testBit v)
 |0,k=>by simp[Bv]
 |J+1,k=>by
  rw[Bv,xb1,qY v J k,gw,xbv,xcn];by_cases e:k=J
  ·subst e;cases hb:k.testBit v<;>simp[xd1]
  have:((if(J.testBit v)=true then 1 else 0)<<<J).testBit k=false:=by
   rw[xd1];split
   ·by_cases hk:J<=k
    ·have h1:Nat.testBit 1 (k-J)=false:=xbW (Nat.one_lt_two_pow zO);simp[hk,h1]
    simp[hk]
   simp
  rw[this];have:(decide (k<J+1))=decide (k<J):=by simp;omega
  rw[this];simp
theorem Bu(v:Nat):∀J,Bv v J<2^J
 |0=>by simp[Bv]
 |J+1=>by
  have h1:=Bu v J;have h2:((J>>>v) &&&1)<<<J<2^(J+1):=by
   rw[gw,xco];split
   ·rw[xdm];exact xbk zD zO
   rw[xd4];exact xa6 _
  exact xbF (xaN h1 (xaA zD zO)) h2
theorem gK(v k:Nat):(mask v).testBit k=(decide (k<64) &&k.testBit v):=qY v 64 k
theorem rC(v:Nat):mask v<18446744073709551616:=Bu v 64
def rQ(ws:zL)(v:Nat)(b:Bool)(i:Nat):Nat:=
 if 6<=v then ws.getD (aB i (v-6) b) 0
 else if b then(ws.getD i 0&&&mask v)|||(ws.getD i 0&&&mask v)>>>2^v
 else iJ (ws.getD i 0) (mask v)|||(iJ (ws.getD i 0) (mask v)<<<2^v)%18446744073709551616
def iN(n:Nat)(ws:zL)(v:Nat)(b:Bool):zL:=(List.range (wN n)).map λi=>rQ ws v b i&&&dP n
theorem eB{n v:Nat}{ws:zL}{b:Bool}(h:n<=16):eY n (iN n ws v b):=by
 refine⟨h,by simp[iN],λw hw=>?_⟩;obtain⟨i,_,rfl⟩:=xao.1 hw;exact xc9
theorem aj(x v:Nat)(b:Bool)(k:Nat):(aB x v b).testBit k=if k=v then b else x.testBit k:=by
 unfold aB;cases b<;>simp only[xa7,xaS,xa1]
 ·rw[cP,xbB];by_cases e:k=v
  ·simp[e]
  simp[e,xbb e]
 rw[xb1,xbB];by_cases e:k=v
 ·simp[e]
 simp[e,xbb e]
theorem fX{x v n:Nat}{b:Bool}(hx:x<2^n)(hv:v<n):aB x v b<2^n:=by
 unfold aB;split
 ·exact xbF hx (xbk zD hv)
 exact xau (fH _ _) hx
theorem YG:∀v:Fin 6,∀j:Fin 64,(j.1.testBit v.1=true->aB j v true=j/\aB j v false=j-2^v.1/\2^v.1<=j.1/\(j.1+2^v.1).testBit v.1=false/\(j.1-2^v.1).testBit v.1=false)/\
  (j.1.testBit v.1=false->aB j v true=j.1+2^v.1/\j.1+2^v.1<64/\aB j v false=j/\(j.1+2^v.1).testBit v.1=true/\(2^v.1<=j.1->(j.1-2^v.1).testBit v.1=true)):=by decide+kernel
theorem qe{x v:Nat}{b:Bool}:(6<=v->aB x v b/64=aB (x/64) (v-6) b/\aB x v b%64=x%64)/\(v<6->aB x v b/64=x/64/\aB x v b%64=aB (x%64) v b):=by
 have E5:∀y:Nat,y/64=y>>>6:=λy=>by rw[xaW]
 have m64:∀y:Nat,y%64=y%2^6:=λy=>rfl;refine⟨λh=>⟨?_,?_⟩,λh=>⟨?_,?_⟩⟩<;>apply xaY<;>intro k
 ·rw[E5,E5,xbv,aj,aj,xbv];by_cases e:k=v-6
  ·rw[xae e,xae zO]
  rw[xac e,xac zO]
 ·rw[m64 (aB x v b),m64 x,xbA,xbA,aj];by_cases hk:k<6
  ·rw[xac zO]
  simp[hk]
 ·rw[E5,E5,xbv,aj,xbv,xac zO]
 rw[m64 (aB x v b),m64 x,xbA,aj,aj,xbA];by_cases e:k=v
 ·subst e;simp[h]
 simp[e]
theorem eX{n v x:Nat}{ws:zL}{b:Bool}(hf:eY n ws)(hv:v<n)(hx:x<2^n):bit (iN n ws v b) x=bit ws (aB x v b):=by
 have hi:=Dw hx;unfold bit;have gT:(iN n ws v b).getD (x/64) 0=rQ ws v b (x/64) &&&dP n:=by
  simp[iN,hi]
 rw[gT,xbd,mL];have hfb:decide (x%64<if 6<=n then 64 else 2^n)=true:=by
  rw[xaJ];split
  ·exact xbG _ zD
  have h1:2^n<=32:=xaA (n:=2) zD (by omega:n<=5);omega
 rw[hfb,xdW];unfold rQ;by_cases h6:6<=v
 ·rw[xae h6,(qe.1 h6).1,(qe.1 h6).2]
 rw[xac h6];obtain⟨e1,e2⟩:=(qe (x:=x) (v:=v) (b:=b)).2 zO;rw[e1,e2];generalize hw:ws.getD (x/64) 0=w;have hwl:w<2^64:=by
  rw[<-hw];rw[xar,xaa (by rw[hf.len];exact hi)];exact hf.lt (xaF _)
 have hj:x%64<64:=xbG _ zD;generalize x%64=j at hj;obtain⟨s1,s2⟩:=YG ⟨v,by omega⟩ ⟨j,hj⟩;simp only at s1 s2;cases b
 ·simp only[xaS,xa1];rw[show(18446744073709551616:Nat)=2^64 by rfl,xb1,xbA,xd1,cP,cP,gK,gK];cases hb:j.testBit v
  ·obtain⟨t1,t2,t3,t4,t5⟩:=s2 hb;rw[t3];by_cases hle:2^v<=j
   ·have:=t5 hle;have E5:j-2^v<64:=xau (xdx _ _) hj;simp[hj,this,E5]
   simp[hj,hle]
  obtain⟨t1,t2,t3,t4,t5⟩:=s1 hb;rw[t2];simp[hj,t3,t5]
 simp only[xa7];rw[xb1,xbd,xbv,xbd,gK,gK];cases hb:j.testBit v
 ·obtain⟨t1,t2,t3,t4,t5⟩:=s2 hb;rw[t1,Nat.add_comm (2^v) j];simp[hj,t2,t4]
 obtain⟨t1,t2,t3,t4,t5⟩:=s1 hb;rw[t1,Nat.add_comm (2^v) j];simp[hj,t4]
def dep(n:Nat)(ws:zL)(v:Nat):Bool:=decide (iN n ws v false≠iN n ws v true)
theorem iz(x v:Nat):aB x v (x.testBit v)=x:=by
 apply xaY;intro k;rw[aj];by_cases e:k=v
 ·rw[xae e,e]
 rw[xac e]
theorem og{n v:Nat}{ws:zL}{b:Bool}(hf:eY n ws)(hv:v<n)(h:dep n ws v=false):iN n ws v b=ws:=by
 have he:iN n ws v false=iN n ws v true:=by simpa[dep]using h
 have aJ:∀c d,iN n ws v c=iN n ws v d:=by intro c d;cases c<;>cases d<;>first|rfl|exact he|exact he.symm
 refine(eB hf.ya).ext hf λx hx=>?_;rw[aJ b (x.testBit v),eX hf hv hx,iz]
theorem uQ{n v:Nat}{ws:zL}(hf:eY n ws)(hv:v<n):dep n ws v=true↔∃x,x<2^n/\bit ws (aB x v false)≠bit ws (aB x v true):=by
 constructor
 ·intro h;refine xaD λhno=>?_;have:iN n ws v false=iN n ws v true:=(eB hf.ya).ext (eB hf.ya) λx hx=>by
   rw[eX hf hv hx,eX hf hv hx];exact xaD λhne=>hno ⟨x,hx,hne⟩
  simp[dep,this]at h
 rintro⟨x,hx,hne⟩;simp only[dep,ne_eq,xaJ];intro he;apply hne;rw[<-eX hf hv hx,<-eX hf hv hx,he]
end ak
namespace Go.Sx
open Go
inductive bV:Hp->Hp->Prop
 |refl (B:Hp):bV B B
 |cons {x:Nat×Obj} {B H:Hp} (h:bV B H):bV B (x::H)
 |app {N B H:Hp} (h:bV B H):bV B (N++H)
theorem bV.spec{B H:Hp}(h:bV B H):∃N,H=N++B:=by
 induction h with
 |refl=>exact⟨[],rfl⟩
 | @cons x B H h ih=>obtain⟨N,rfl⟩:=ih;exact⟨x::N,rfl⟩
 | @app M B H h ih=>obtain⟨N,rfl⟩:=ih;exact⟨M++N,by rw[xaj]⟩
theorem bV.sub{B H:Hp}(h:bV B H):∀x∈B,x∈H:=by
 obtain⟨N,rfl⟩:=h.spec;exact λx hx=>xab _ hx
theorem bV.dK{B H:Hp}(h:bV B H):aN H B:=by
 obtain⟨N,rfl⟩:=h.spec;exact aN.right
section
variable {P:Program} {g:Gh} {H:Hp}
def Px(P:Program)(f:FuncId)(args:Array zV)(B:Hp)(Q:zV->Hp->Prop):Prop:=Fc P f args B (λv H=>bV B H/\Q v H)
theorem aa.px{f:FuncId}{args:Array zV}{B H:Hp}{c:Hp->Hp}{Q:zV->Hp->Prop}{K:zV->Hp->Prop}{KP:List PanicEntry->Hp->Prop}(hh:bH B H c)(hc:Px P f args B Q)
 (hk:∀v N,Q v (N++B)->K v (c (N++B))):aa P g f args H K KP:=
 aa.fn hh hc λv C' ⟨h1,h2⟩=>by obtain⟨N,rfl⟩:=h1.spec;exact hk v N h2
theorem aa.pre{f:FuncId}{args:Array zV}{H':Hp}{K:zV->Hp->Prop}{KP:List PanicEntry->Hp->Prop}(he:aN H H')(h:aa P g f args H' K KP):aa P g f args H K KP:=bE.pre h he
theorem aN.swap{x y:Nat×Obj}{A:Hp}:aN (x::y::A) (y::x::A):=.perm (.swap _ _ _)
theorem Hs.mk{Q:zV->Hp->Prop}{v:zV}{B H:Hp}(he:bV B H)(h:Q v H):aF (λv H=>bV B H/\Q v H) (.returned v) H:=⟨v,H,rfl,.refl _,he,h⟩
theorem br.mk{Q:zV->Prop}{v:zV}{B H:Hp}(he:aN H B)(h:Q v):aF (λv H=>H=B/\Q v) (.returned v) H:=⟨v,B,rfl,he,rfl,h⟩
def ay(kd:IntKind)(l:List Int):Array zV:=(l.map λn=>Value.int kd n).toArray
theorem Gm(kd:IntKind)(l:List Int)(i:Nat)(n:Int):(ay kd l).setIfInBounds i (.int kd n)=ay kd (l.set i n):=by
 simp[ay,xcT]
@[simp] theorem XR(kd:IntKind)(l:List Int):(ay kd l).size=l.length:=by simp[ay]
theorem NH(kd:IntKind)(n:Nat):madeCells (Value.cells (.int kd 0)) (n*1)=ay kd (List.replicate n 0):=by
 apply Array.ext
 ·simp[madeCells,ay]
 intro i h1 h2;simp[madeCells,ay,Value.cells,Nat.mod_one]
def dF(kd:IntKind)(B:Hp)(v:zV)(l:List Int):Prop:=Sl 1 B v (l.map λn=>[Value.int kd n])
theorem dF.mono{kd:IntKind}{B B':Hp}{v:zV}{l:List Int}(h:dF kd B v l)(hs:∀x∈B,x∈B'):dF kd B' v l:=Sl.mono h hs
theorem dF.bP{kd:IntKind}{B:Hp}{v:zV}{l:List Int}(h:dF kd B v l){K:zV->Prop}(hk:K (.int .i64 l.length)):aR v K:=Sl.bP h (by simpa using hk)
theorem dF.block{kd:IntKind}{B:Hp}{b cap:Nat}{l:List Int}{T:TypeId}{fz:Nat×Nat}(hm:(b,Obj.cells (ay kd l) T fz)∈B)(hc:l.length<=cap):dF kd B (.slice (some ⟨b,0,none⟩) l.length cap) l:=by
 refine⟨by simp,.inr ⟨b,0,cap,_,T,fz,by simp,by simpa using hc,hm,by simp[ay],λi r hi j v hj=>?_⟩⟩;rw[xat]at hi;cases hl:l[i]? with
 |none=>rw[hl]at hi;simp at hi
 |some n=>
  rw[hl]at hi;simp only[xck,xaq]at hi;subst hi;cases j with
  |zero=>
   simp only[xcO,xaq]at hj;subst hj;simp[ay,hl]
  |succ j=>simp at hj
theorem dF.at{kd yc:IntKind}{B:Hp}{v:zV}{l:List Int}(h:dF kd B v l){i:Nat}{n:Int}(hi:l[i]? =some n){K:zV->Prop}(hk:∀p,At B p [.int kd n]->K p):av 1 v (.int yc (i:Int)) K:=
 av.sl h (by rw[xat,hi];rfl) hk
theorem dF.ld{kd yc:IntKind}{B:Hp}{v:zV}{l:List Int}(h:dF kd B v l){i:Nat}{n:Int}(hi:l[i]? =some n)(hs:∀x∈B,x∈H){K:zV->Prop}(hk:K (.int kd n)):av 1 v (.int yc (i:Int)) (λp=>Ld H p K):=
 h.at hi λp hp=>Ld.at hp hs hk
theorem cZ.ints{T:TypeId}{kd kl:IntKind}{bytes n:Nat}{K:zV->Hp->Prop}(cD:n<=9223372036854775807)(hb:n*bytes<=281474976710656)
 (h:∀b,K (.slice (some ⟨b,0,none⟩) n n) ((b,.cells (ay kd (List.replicate n 0)) T zZ)::H)):cZ T 1 bytes (.int kd 0) H (.int kl n) (.int kl n) K:=
 ⟨kl,kl,n,n,rfl,rfl,xai _,by omega,hb,λb _=>by rw[NH];exact h b⟩
theorem St.ints{b i:Nat}{kd:IntKind}{l:List Int}{x:Int}{T:TypeId}{H':Hp}{K:Hp->Prop}(hu:dg b (.cells (ay kd l) T zZ) (.cells (ay kd (l.set i x)) T zZ) H H')(hi:i<l.length)(h:K H'):
  St 1 H (.pointer (some ⟨b,0+i*1,none⟩)) (.int kd x) K:=
 St.one (c:=ay kd l) (c':=ay kd (l.set i x)) hu rfl (by simpa using hi) (by rw[xa5,xbV];exact Gm kd l i x) h
end
def bJ:List zV->Nat->Nat
 | .int _ q::_,0=>q.toNat
 |_::r,i+1=>bJ r i
 |_,_=>0
structure Tb where
 n:Int
 ws:zL
 deriving DecidableEq
def iw(ws:zL):List Int:=ws.map (Nat.cast:Nat->Int)
@[simp] theorem aq(ws:zL):(iw ws).length=ws.length:=by simp[iw]
theorem cL{ws:zL}{i w:Nat}(h:ws[i]? =some w):(iw ws)[i]? =some (w:Int):=by simp[iw,h]
def Words(B:Hp)(s:zV)(ws:zL):Prop:=dF .u64 B s (iw ws)/\∀w∈ws,w<18446744073709551616
theorem Words.mono{B B':Hp}{v:zV}{ws:zL}(h:Words B v ws)(hs:∀x∈B,x∈B'):Words B' v ws:=⟨h.1.mono hs,h.2⟩
theorem Words.block{B:Hp}{b cap:Nat}{ws:zL}{T:TypeId}{fz:Nat×Nat}(hm:(b,Obj.cells (ay .u64 (iw ws)) T fz)∈B)(hc:ws.length<=cap)(hw:∀w∈ws,w<18446744073709551616):Words B (.slice (some ⟨b,0,none⟩) ws.length cap) ws:=by
 have:=dF.block (cap:=cap) hm (by simpa using hc);rw[aq]at this;exact⟨this,hw⟩
def Fa(B:Hp)(v:zV)(t:Tb):Prop:=∃s,v=.agg #[.int .i64 t.n,s]/\Words B s t.ws
theorem Fa.mono{B B':Hp}{v:zV}{t:Tb}(h:Fa B v t)(hs:∀x∈B,x∈B'):Fa B' v t:=let ⟨s,h1,h2⟩:=h;⟨s,h1,h2.mono hs⟩
def T4(B:Hp)(r:List zV)(t:Tb):Prop:=∃s,r=[.int .i64 t.n,s]/\Words B s t.ws
theorem T4.mono{B B':Hp}{r:List zV}{t:Tb}(h:T4 B r t)(hs:∀x∈B,x∈B'):T4 B' r t:=let ⟨s,h1,h2⟩:=h;⟨s,h1,h2.mono hs⟩
def tt{α:Type}(p:List zV->α->Prop)(rs:List (List zV))(l:List α):Prop:=rs.length=l.length/\∀(i:Nat) (r:List zV) (x:α),rs[i]? =some r->l[i]? =some x->p r x
theorem tt.nil{α:Type}{p:List zV->α->Prop}:tt p [] []:=⟨rfl,by simp⟩
theorem tt.get{α:Type}{p:List zV->α->Prop}{rs:List (List zV)}{l:List α}(h:tt p rs l){i:Nat}{x:α}(hx:l[i]? =some x):∃r,rs[i]? =some r/\p r x:=by
 have hlt:=(xah.1 hx).1;have:i<rs.length:=by rw[h.1];exact hlt
 exact⟨rs[i],xaa this,h.2 i _ _ (xaa this) hx⟩
theorem tt.mono{α:Type}{p q:List zV->α->Prop}{rs:List (List zV)}{l:List α}(h:tt p rs l)(hpq:∀r x,p r x->q r x):tt q rs l:=⟨h.1,λi r x h1 h2=>hpq _ _ (h.2 i r x h1 h2)⟩
theorem tt.snoc{α:Type}{p:List zV->α->Prop}{rs:List (List zV)}{l:List α}(h:tt p rs l){r:List zV}{x:α}(hx:p r x):tt p (rs++[r]) (l++[x]):=by
 refine⟨by simp[h.1],λi r' x' h1 h2=>?_⟩;by_cases e:i<l.length
 ·rw[xaV e]at h2;rw[xaV (by rw[h.1];exact e)]at h1;exact h.2 i _ _ h1 h2
 rw[xbz zO]at h2;rw[xbz (by rw[h.1];omega),h.1]at h1;cases hi:i-l.length with
 |zero=>rw[hi]at h1 h2;simp at h1 h2;subst h1;subst h2;exact hx
 |succ k=>rw[hi]at h2;simp at h2
def jL(B:Hp)(v:zV)(ts:List Tb):Prop:=∃rs,Sl 2 B v rs/\tt (T4 B) rs ts
theorem jL.mono{B B':Hp}{v:zV}{ts:List Tb}(h:jL B v ts)(hs:∀x∈B,x∈B'):jL B' v ts:=let ⟨rs,h1,h2⟩:=h;⟨rs,h1.mono hs,h2.mono λ_ _ h=>h.mono hs⟩
theorem jL.bP{B:Hp}{v:zV}{ts:List Tb}(h:jL B v ts){K:zV->Prop}(hk:K (.int .i64 ts.length)):aR v K:=by
 obtain⟨rs,h1,h2⟩:=h;refine h1.bP ?_;have:=h2.1;rw[this];exact hk
theorem jL.ld{B H:Hp}{v:zV}{ts:List Tb}{kd:IntKind}(h:jL B v ts){i:Nat}{t:Tb}(hi:ts[i]? =some t)(hs:∀x∈B,x∈H){K:zV->Prop}(hk:∀s,Words B s t.ws->K (.agg #[.int .i64 t.n,s])):av 2 v (.int kd (i:Int)) (λp=>az 2 H p K):=by
 obtain⟨rs,h1,h2⟩:=h;obtain⟨r,hr,s,rfl,hw⟩:=h2.get hi;exact av.sl h1 hr λp hp=>az.at hp rfl zD hs (hk s hw)
theorem jL.ldN{B H:Hp}{v:zV}{ts:List Tb}{kd:IntKind}(h:jL B v ts){i:Nat}{t:Tb}(hi:ts[i]? =some t)(hs:∀x∈B,x∈H){K:zV->Prop}(hk:K (.int .i64 t.n)):av 2 v (.int kd (i:Int)) (λp=>ai 0 p (λq=>Ld H q K)):=by
 obtain⟨rs,h1,h2⟩:=h;obtain⟨r,hr,s,rfl,hw⟩:=h2.get hi;exact av.sl h1 hr λp hp=>ai.at hp λq hq=>Ld.at hq hs hk
theorem jL.one{B:Hp}{b cap:Nat}{t:Tb}{s:zV}{T:TypeId}{fz:Nat×Nat}(hm:(b,Obj.cells #[.int .i64 t.n,s] T fz)∈B)(hw:Words B s t.ws):jL B (.slice (some ⟨b,0,none⟩) 1 (cap+1)) [t]:=by
 refine⟨[[.int .i64 t.n,s]],⟨by simp,.inr ⟨b,0,cap+1,_,T,fz,rfl,by simp,hm,by simp,λi r hi j v hj=>?_⟩⟩,rfl,λi r x h1 h2=>?_⟩
 ·cases i with
  |zero=>simp at hi;subst hi;simpa using hj
  |succ i=>simp at hi
 ·cases i with
  |zero=>simp at h1 h2;subst h1;subst h2;exact⟨s,rfl,hw⟩
  |succ i=>simp at h1
def TF(t:Tb):Prop:=0<=t.n/\ak.eY t.n.toNat t.ws
instance (t:Tb):Decidable (TF t):=by unfold TF;infer_instance
end Go.Sx
namespace Go.Sx
open Go Go.RowKit
section
variable {P:Program}
def whole(W:World):Hp:=(List.range W.heap.size).map λi=>(i,W.heap.getD i default)
theorem Nv(W:World):Own ⟨W,[]⟩ (whole W) W:=by
 refine⟨rfl,rfl,rfl,?_,?_⟩
 ·have:(whole W).map Prod.fst=List.range W.heap.size:=by
   unfold whole;rw[xbO];have:(Prod.fst∘λi=>(i,W.heap.getD i default))=id:=by funext i;rfl
   rw[this,xeg]
  rw[xaL,this];exact xbi
 intro x hx;rw[xaL]at hx;obtain⟨i,hi,rfl⟩:=xao.1 hx;have:=xaM.1 hi;simp[xas,this]
theorem y5{W:World}{b:Nat}{o:Obj}(h:W.heap[b]? =some o):(b,o)∈whole W:=by
 have hlt:=(xaU.1 h).1;exact xao.2 ⟨b,xaM.2 hlt,by simp[xas,h]⟩
theorem Own.below{W W':World}(h:Own ⟨W,[]⟩ (whole W) W'):Below W.heap.size W W':=by
 have hb:∀k,k<W.heap.size->W'.heap[k]? =W.heap[k]? :=λk hk=>by
  have:=h.has (k,W.heap.getD k default) (xao.2 ⟨k,xaM.2 hk,rfl⟩);simp only at this;rw[this];simp[xas,hk]
 refine⟨h.os,h.tape,h.out,?_,hb⟩;rcases Nat.eq_zero_or_pos W.heap.size with h0|h0
 ·omega
 have:=hb (W.heap.size-1) zO;rw[show W.heap[W.heap.size-1]? =some (W.heap[W.heap.size-1]' zO)from xbC zO]at this;have:=(xaU.1 this).1;omega
theorem NL{f:FuncId}{args:Array zV}{W:World}(h:bE P ⟨W,[]⟩ f args (whole W) (λe H'=>e=.returned (.bool true)/\aN H' (whole W))):
  Calls P f args W λe W'=>e=.returned (.bool true)/\Below W.heap.size W W':=
 (h W (Nv W)).mono λe W' ⟨H',ho,he,wz⟩=>⟨he,(wz _ _ ho).below⟩
theorem Y9{f:FuncId}{args:Array zV}{W:World}(h:Px P f args (whole W) (λv _=>v=.bool true)):
  Calls P f args W λe W'=>e=.returned (.bool true)/\Below W.heap.size W W':=
 NL ((h ⟨W,[]⟩).post λe H' ⟨v,C,he,wz,hg,hv⟩=>⟨H',.refl _,by rw[he,hv],wz.trans hg.dK⟩)
section
variable {H:Type} {enc:TypeId×zV->H}
open Go.ChangeShapes Go.WideShapes Go.ChangeAt Go.RowKit
theorem pI(hl:laidOutB P=true){W W':World}{sp:Nat->Bool}(hb:Below W.heap.size W W'):∀(ts:List TypeId) (vs:List zV) (ds:List (DataW H)) (ps:List MemPlace),
  (∀t∈ts,P.readableRec t=true/\t<P.types.size)->DataW.TrodAll enc P W 0 (λ_=>true) true ts vs ds ps->(∀x∈ps,x.block<W.heap.size)->(∀x∈ps,sp x.block=true)->DataW.TrodAll enc P W' 0 sp true ts vs ds ps
 | [],vs,ds,ps,_,h,_,_=>by
  obtain⟨rfl,rfl,rfl⟩:=trodAll_nil h;exact trodAll_mk0
 |t::ts,vs,ds,ps,hr,h,hlt,hsp=>by
  obtain⟨v,vs',d,ds',p,q,rfl,rfl,rfl,h0,h1⟩:=trodAll_cons h;have ht:=hr t zI;exact trodAll_cons_mk (WideElems.Trod_stays hl ht.1 ht.2 h0 (λx hx=>hb.same (hlt x (by simp[hx]))) (λx hx=>hsp x (by simp[hx])))
   (pI hl hb ts vs' ds' q (λt' h'=>hr t' (by simp[h'])) h1 (λx hx=>hlt x (by simp[hx])) (λx hx=>hsp x (by simp[hx])))
theorem Rz{f:Func}{s:ChangeSpec}{W W':World}{args:Array zV}{ds gs:List (DataW H)}{before:List MemPlace}{tb:TypeId}(hvars:s.vars=[])
 (hW:DataW.Whole enc P f.params.toList s.vars false W args.toList ds gs before)(hs:s.fn H (ds++gs)={results:=[.lit (.bool true)],args:=ds})(hb:Below W.heap.size W W')
 (hl:laidOutB P=true)(hr:∀t∈f.params.toList,P.readableRec t=true/\t<P.types.size)(hrt:f.resultTypes=#[tb])(ac2:P.underlying tb=some .bool):
  s.post enc P f false true false false W args (.bool true) W':=by
 have hW':=hW;have hlt:=hW.lt;obtain⟨p,q,hA,hV,rfl,hfz,fc⟩:=hW;rw[hvars]at hV;obtain⟨rfl,rfl⟩:=trodVars_none hV;refine⟨ds,_,_,[],p,[],hW',?_,?_,?_,World.keptBut_mono (λp hp=>⟨hp,?_⟩) (hb.frame (· ∈p++[])),λh=>by cases h⟩
 ·rw[hs,hrt];exact trodAll_cons_mk (shut_bool ac2 _) trodAll_mk0
 ·rw[hs];exact pI hl hb _ _ _ _ hr hA (λx hx=>hlt x (by simp[hx])) (λx hx=>by simpa using hlt x (by simp[hx]))
 ·rw[hvars,hs];rfl
 right;simpa using hp
end
end
end Go.Sx
namespace Go.Sx
open Go
section
variable {P:Program} {g:Gh} {H:Hp}
theorem aV.ajo{T:TypeId}{v x:zV}{rs:List (List zV)}{C:Hp}(hs:aV T 1 v rs C){i:Nat}(hi:i<rs.length)(hr:rs[i]? =some [x])(hC:∀y∈C,y∈H){K:zV->Prop}(hk:K x):
  av 1 v (.int .i64 (i:Int)) λp=>Ld H p K:=by
 obtain⟨b',aK,rfl,rfl,aJ⟩:=hs.pos zO;refine av.nat hi ?_;exact Ld.abA (l:=rs++aK) (hC _ (List.Mem.head _)) aJ (by rw[xaV hi];exact hr) hk
theorem aV.afo{T:TypeId}{v x y:zV}{rs:List (List zV)}{C A B:Hp}(hs:aV T 1 v rs C){i:Nat}(hi:i<rs.length)(hr:rs[i]? =some [y])(h1:x.oneCell'=true){K:Hp->Prop}
 (hk:∀C',aV T 1 v (rs.set i [x]) C'->K (A++(C'++B))):av 1 v (.int .i64 (i:Int)) λp=>St 1 (A++(C++B)) p x K:=by
 obtain⟨b',aK,rfl,rfl,aJ⟩:=hs.pos zO;refine av.nat hi ?_;refine St.cell (l:=rs++aK) (i:=i) (k:=1) (j:=0) (r:=[y]) (((dg.head _).append B).ca A) aJ (by rw[xaV hi];exact hr) zO h1 ?_;have e:(rs++aK).set i ([y].set 0 x)=rs.set i [x]++aK:=by rw[xc3 _ _ hi];rfl
 rw[e];refine hk [(b',_)] (aV.mk' (aK:=aK) (λr hr'=>?_) zI zI);rcases xan.1 hr' with hr'|hr'
 ·rcases xci hr' with hr'|rfl
  ·exact aJ r (by simp[hr'])
  rfl
 exact aJ r (by simp[hr'])
end
end Go.Sx
namespace Go.Sx
open Go
section
variable {κ β:Type} [DecidableEq κ]
structure aD(ke:κ->zV)(vr:zV->β->Prop)(es:Array MapEntry)(ck:Nat)(m:List (κ×β)):Prop where
 len:es.size=m.length
 key:∀(i:Nat) (e:MapEntry) (x:κ×β),es[i]? =some e->m[i]? =some x->e.key=ke x.1/\vr e.val x.2
 nd:(m.map Prod.fst).Nodup
 born:(es.toList.map MapEntry.born).Nodup
 lt:∀e∈es.toList,e.born<ck
variable {ke:κ->zV} {vr:zV->β->Prop} {es:Array MapEntry} {ck:Nat} {m:List (κ×β)}
theorem aD.empty:aD ke vr #[] 0 []:=⟨rfl,by simp,by simp,by simp,by simp⟩
theorem aD.mono{vr':zV->β->Prop}(h:aD ke vr es ck m)(hv:∀v x,vr v x->vr' v x):aD ke vr' es ck m:=⟨h.len,λi e x h1 h2=>⟨(h.key i e x h1 h2).1,hv _ _ (h.key i e x h1 h2).2⟩,h.nd,h.born,h.lt⟩
def eo(m:List (κ×β))(k:κ)(x:β):List (κ×β):=if k∈m.map Prod.fst then m.map (λy=>if y.1=k then(k,x)else y)else m++[(k,x)]
def aG(m:List (κ×β))(k:κ):Option β:=(m.find? (λy=>y.1=k)).map Prod.snd
theorem dX{m:List (κ×β)}{k:κ}{x:β}(nd:(m.map Prod.fst).Nodup):aG m k=some x↔(k,x)∈m:=by
 induction m with
 |nil=>simp[aG]
 |cons y r ih=>
  rw[xaC,xaX]at nd;obtain⟨a,b⟩:=y;simp only[aG,xby]at ih⊢;by_cases e:a=k
  ·subst e;simp only[decide_true,xck,xaq,xal,xdz,xcZ];constructor
   ·intro h;exact .inl h.symm
   rintro(h|h)
   ·exact h.symm
   exact absurd (xao.2 ⟨_,h,rfl⟩) nd.1
  simp only[e,xdq,xal,xdz,xbb e,false_and,false_or];exact ih nd.2
theorem iB{m:List (κ×β)}{k:κ}:aG m k=none↔k∉m.map Prod.fst:=by
 simp only[aG,Option.map_eq_none_iff,xcC,xaJ,xao,not_exists,not_and]
theorem aD.findNow{kd:TypeDesc}(hk:∀a b,Instr.sameNow kd (ke a) (ke b)=some (decide (a=b)))(h:aD ke vr es ck m)(k:κ):
  (∃(i:Nat) (x:β) (e:MapEntry),es[i]? =some e/\m[i]? =some (k,x)/\vr e.val x/\Instr.findNow kd (ke k) es.toList 0=some (some (i,e.val)))\/(k∉m.map Prod.fst/\Instr.findNow kd (ke k) es.toList 0=some none):=by
 have key:∀(l:List MapEntry) (q:List (κ×β)) (j:Nat),l.length=q.length->(∀(i:Nat) (e:MapEntry) (x:κ×β),l[i]? =some e->q[i]? =some x->e.key=ke x.1/\vr e.val x.2)->
   (∃(i:Nat) (x:β) (e:MapEntry),l[i]? =some e/\q[i]? =some (k,x)/\vr e.val x/\Instr.findNow kd (ke k) l j=some (some (j+i,e.val)))\/(k∉q.map Prod.fst/\Instr.findNow kd (ke k) l j=some none):=by
  intro l;induction l with
  |nil=>intro q j hl _;cases q with|nil=>exact .inr ⟨by simp,rfl⟩|cons a b=>simp at hl
  |cons e r ih=>
   intro q j hl hkey;cases q with
   |nil=>simp at hl
   |cons y q=>
    obtain⟨h1,h2⟩:=hkey 0 e y rfl rfl;simp only[Instr.findNow,h1,hk];by_cases e0:k=y.1
    ·subst e0;exact .inl ⟨0,y.2,e,rfl,rfl,h2,by simp⟩
    rw[xak e0];rcases ih q (j+1) (by simpa using hl) (λi e x h1 h2=>hkey (i+1) e x (by simpa using h1) (by simpa using h2))with⟨i,x,e',g1,g2,g3,g4⟩|⟨g1,g2⟩
    ·exact .inl ⟨i+1,x,e',by simpa using g1,by simpa using g2,g3,by simp only[g4];rw[show j+1+i=j+(i+1)by omega]⟩
    exact .inr ⟨by rw[xaC,xal];rintro(h|h);exact e0 h;exact g1 h,by simpa using g2⟩
 have:=key es.toList m 0 (by simpa using h.len) (λi e x h1 h2=>h.key i e x (by simpa using h1) h2);rcases this with⟨i,x,e,g1,g2,g3,g4⟩|h2
 ·exact .inl ⟨i,x,e,by simpa using g1,g2,g3,by simpa using g4⟩
 exact .inr h2
theorem aD.Eb{P:Program}{kt:TypeId}(hk:∀a b,BJ P kt (ke a) (ke b) (decide (a=b)))(h:aD ke vr es ck m)(k:κ):
  (∃(i:Nat) (x:β) (e:MapEntry),es[i]? =some e/\m[i]? =some (k,x)/\vr e.val x/\nu P kt (ke k) es.toList 0 (some (i,e.val)))\/(k∉m.map Prod.fst/\nu P kt (ke k) es.toList 0 none):=by
 have key:∀(l:List MapEntry) (q:List (κ×β)) (j:Nat),l.length=q.length->(∀(i:Nat) (e:MapEntry) (x:κ×β),l[i]? =some e->q[i]? =some x->e.key=ke x.1/\vr e.val x.2)->
   (∃(i:Nat) (x:β) (e:MapEntry),l[i]? =some e/\q[i]? =some (k,x)/\vr e.val x/\nu P kt (ke k) l j (some (j+i,e.val)))\/(k∉q.map Prod.fst/\nu P kt (ke k) l j none):=by
  intro l;induction l with
  |nil=>intro q j hl _;cases q with|nil=>exact .inr ⟨by simp,rfl⟩|cons a b=>simp at hl
  |cons e r ih=>
   intro q j hl hkey;cases q with
   |nil=>simp at hl
   |cons y q=>
    obtain⟨h1,h2⟩:=hkey 0 e y rfl rfl;have hb:=hk k y.1;rw[<-h1]at hb;by_cases e0:k=y.1
    ·refine .inl ⟨0,y.2,e,rfl,by rw[e0];rfl,h2,?_⟩;exact⟨_,hb,λ_=>by simp,λh=>by simp[e0]at h⟩
    rcases ih q (j+1) (by simpa using hl) (λi e x h1 h2=>hkey (i+1) e x (by simpa using h1) (by simpa using h2))with⟨i,x,e',g1,g2,g3,g4⟩|⟨g1,g2⟩
    ·refine .inl ⟨i+1,x,e',by simpa using g1,by simpa using g2,g3,_,hb,λh=>by simp[e0]at h,λ_=>?_⟩;rw[show j+(i+1)=j+1+i by omega];exact g4
    exact .inr ⟨by rw[xaC,xal];rintro(h|h);exact e0 h;exact g1 h,_,hb,λh=>by simp[e0]at h,λ_=>g2⟩
 have:=key es.toList m 0 (by simpa using h.len) (λi e x h1 h2=>h.key i e x (by simpa using h1) h2);rcases this with⟨i,x,e,g1,g2,g3,g4⟩|h2
 ·exact .inl ⟨i,x,e,by simpa using g1,g2,g3,by simpa using g4⟩
 exact .inr h2
theorem aD.put(h:aD ke vr es ck m){i:Nat}{k:κ}{y x:β}{val:zV}(hi:m[i]? =some (k,y))(hv:vr val x):aD ke vr (es.modify i λe=>{e with key:=ke k,val}) ck (eo m k x):=by
 have hmem:k∈m.map Prod.fst:=xao.2 ⟨_,xaw hi,rfl⟩;have hlt:=(xah.1 hi).1;have ab8:∀j z,m[j]? =some z->z.1=k->j=i:=λj z hj hz=>by
  have hj':=(xah.1 hj).1;have e1:(m.map Prod.fst)[j]? =some k:=by rw[xat,hj];simp[hz]
  have e2:(m.map Prod.fst)[i]? =some k:=by rw[xat,hi];rfl
  exact(List.getElem?_inj (by simpa using hj') h.nd).1 (e1.trans e2.symm)
 have hb:((es.modify i λe=>{e with key:=ke k,val}).toList.map MapEntry.born)=es.toList.map MapEntry.born:=by
  apply xbg;intro j;simp only[xat,xbf,xbY];split
  ·cases es[j]? <;>rfl
  rfl
 refine⟨by simp[eo,hmem,h.len],λj e z he hz=>?_,?_,by rw[hb];exact h.born,λe he=>?_⟩
 ·simp only[eo,hmem,xa7,xat]at hz;rw[xbY]at he;cases hm:m[j]? with
  |none=>rw[hm]at hz;simp at hz
  |some z0=>
   rw[hm]at hz;simp only[xck,xaq]at hz;cases hes:es[j]? with
   |none=>rw[hes]at he;split at he<;>simp at he
   |some e0=>
    rw[hes]at he;by_cases ek:z0.1=k
    ·have:=ab8 j z0 hm ek;subst this;rw[xae ek]at hz;subst hz;simp only[xa7,xck,xaq]at he;subst he;exact⟨rfl,hv⟩
    rw[xac ek]at hz;subst hz;rw[xac (λe=>by subst e;rw[hi]at hm;cases hm;exact ek rfl)]at he;simp only[xaq]at he;subst he;exact h.key j _ _ hes hm
 ·have:(eo m k x).map Prod.fst=m.map Prod.fst:=by
   simp only[eo,hmem,xa7,xbO];apply xbj;intro z _;simp only[Function.comp];split
   ·rename_i hz;exact hz.symm
   rfl
  rw[this];exact h.nd
 have:e.born∈(es.modify i λe=>{e with key:=ke k,val}).toList.map MapEntry.born:=xaR he;rw[hb]at this;obtain⟨e0,h1,h2⟩:=xao.1 this;rw[<-h2];exact h.lt e0 h1
theorem aD.more(h:aD ke vr es ck m){k:κ}{x:β}{val:zV}(hk:k∉m.map Prod.fst)(hv:vr val x):aD ke vr (es.push {key:=ke k,val,born:=ck}) (ck+1) (eo m k x):=by
 have hs:eo m k x=m++[(k,x)]:=by unfold eo;rw[xac hk]
 rw[hs];refine⟨by simp[h.len],λj e z he hz=>?_,?_,?_,λe he=>?_⟩
 ·by_cases hj:j<m.length
  ·rw[xaV hj]at hz;rw[xdB,xac (by rw[h.len];omega)]at he;exact h.key j _ _ he hz
  have X1:=(xah.1 hz).1;simp only[xaf,xaB,xch]at X1;have:j=m.length:=by omega
  subst this;rw[xbz (xai _)]at hz;simp at hz;subst hz;rw[xdB,xae h.len.symm]at he;simp at he;subst he;exact⟨rfl,hv⟩
 ·rw[xaH,xa2];refine⟨h.nd,by simp,λa ha b hb=>?_⟩;simp at hb;subst hb;rintro rfl;exact hk ha
 ·rw[xel,xaH,xa2];refine⟨h.born,by simp,λa ha b hb=>?_⟩;simp at hb;subst hb;obtain⟨e,he,rfl⟩:=xao.1 ha;have:=h.lt e he;omega
 rw[xel,xan]at he;rcases he with he|he
 ·have:=h.lt e he;omega
 simp at he;subst he;simp
variable {H:Hp} {b:Nat}
theorem aD.hit{kd:TypeDesc}{zero:zV}{ok:Bool}{k:κ}{x:β}{K:zV->Prop}(hk:∀a b,Instr.sameNow kd (ke a) (ke b)=some (decide (a=b)))(h:aD ke vr es ck m)(hm:(b,Obj.map es ck)∈H)(hx:aG m k=some x)
 (h1:∀v,vr v x->K (cond ok (.tuple #[v,.bool true]) v)):df kd zero ok H (.map (some b)) (ke k) K:=by
 rcases h.findNow hk k with⟨i,y,e,g1,g2,g3,g4⟩|⟨g1,g2⟩
 ·have:aG m k=some y:=(dX h.nd).2 (xaw g2);rw[hx]at this;cases this;exact⟨es,_,.inr ⟨b,ck,rfl,hm⟩,g4,h1 _ g3⟩
 rw[iB.2 g1]at hx;cases hx
theorem aD.bM{kd:TypeDesc}{zero:zV}{ok:Bool}{k:κ}{K:zV->Prop}(hk:∀a b,Instr.sameNow kd (ke a) (ke b)=some (decide (a=b)))(h:aD ke vr es ck m)(hm:(b,Obj.map es ck)∈H)(hx:aG m k=none)
 (h1:K (cond ok (.tuple #[zero,.bool false]) zero)):df kd zero ok H (.map (some b)) (ke k) K:=by
 rcases h.findNow hk k with⟨i,y,e,g1,g2,g3,g4⟩|⟨g1,g2⟩
 ·exact absurd (xao.2 ⟨_,xaw g2,rfl⟩) (iB.1 hx)
 exact⟨es,_,.inr ⟨b,ck,rfl,hm⟩,g2,h1⟩
theorem aD.bt{kd:TypeDesc}{k:κ}{x:β}{val:zV}{K:Hp->Prop}(hk:∀a b,Instr.sameNow kd (ke a) (ke b)=some (decide (a=b)))(hb:∀a,Instr.sameBits 10000 (ke a) (ke a)=true)(h:aD ke vr es ck m)(hv:vr val x)
 (h1:∀es' bD,aD ke vr es' bD (eo m k x)->∃H',dg b (.map es ck) (.map es' bD) H H'/\K H'):aW kd H (.map (some b)) (ke k) val K:=by
 rcases h.findNow hk k with⟨i,y,e,g1,g2,g3,g4⟩|⟨g1,g2⟩
 ·refine⟨b,es,ck,_,rfl,g4,λe' he'=>?_,by rw[h.len];exact(xah.1 g2).1,h1 _ _ (h.put g2 hv)⟩;rw[(h.key i e' _ he' g2).1];exact hb k
 exact⟨b,es,ck,_,rfl,g2,h1 _ _ (h.more g1 hv)⟩
theorem aD.Gu{P:Program}{kt:TypeId}{zero:zV}{ok:Bool}{k:κ}{x:β}{K:zV->Prop}(hk:∀a b,BJ P kt (ke a) (ke b) (decide (a=b)))(hc:∀a,mD P kt (ke a))(h:aD ke vr es ck m)(hm:(b,Obj.map es ck)∈H)(hx:aG m k=some x)
 (h1:∀v,vr v x->K (cond ok (.tuple #[v,.bool true]) v)):kg P kt zero ok H (.map (some b)) (ke k) K:=by
 rcases h.Eb hk k with⟨i,y,e,g1,g2,g3,g4⟩|⟨g1,g2⟩
 ·have:aG m k=some y:=(dX h.nd).2 (xaw g2);rw[hx]at this;cases this;exact⟨es,_,.inr ⟨b,ck,rfl,hm⟩,hc k,g4,h1 _ g3⟩
 rw[iB.2 g1]at hx;cases hx
theorem aD.vV{P:Program}{kt:TypeId}{zero:zV}{ok:Bool}{k:κ}{K:zV->Prop}(hk:∀a b,BJ P kt (ke a) (ke b) (decide (a=b)))(hc:∀a,mD P kt (ke a))(h:aD ke vr es ck m)(hm:(b,Obj.map es ck)∈H)(hx:aG m k=none)
 (h1:K (cond ok (.tuple #[zero,.bool false]) zero)):kg P kt zero ok H (.map (some b)) (ke k) K:=by
 rcases h.Eb hk k with⟨i,y,e,g1,g2,g3,g4⟩|⟨g1,g2⟩
 ·exact absurd (xao.2 ⟨_,xaw g2,rfl⟩) (iB.1 hx)
 exact⟨es,_,.inr ⟨b,ck,rfl,hm⟩,hc k,g2,h1⟩
theorem aD.MQ{P:Program}{kt:TypeId}{k:κ}{x:β}{val:zV}{K:Hp->Prop}(hk:∀a b,BJ P kt (ke a) (ke b) (decide (a=b)))(hc:∀a,mD P kt (ke a))(hb:∀a,Instr.sameBits 10000 (ke a) (ke a)=true)(h:aD ke vr es ck m)(hv:vr val x)
 (h1:∀es' bD,aD ke vr es' bD (eo m k x)->∃H',dg b (.map es ck) (.map es' bD) H H'/\K H'):iO P kt H (.map (some b)) (ke k) val K:=by
 rcases h.Eb hk k with⟨i,y,e,g1,g2,g3,g4⟩|⟨g1,g2⟩
 ·refine⟨b,es,ck,_,rfl,hc k,g4,λe' he'=>?_,by rw[h.len];exact(xah.1 g2).1,h1 _ _ (h.put g2 hv)⟩;rw[(h.key i e' _ he' g2).1];exact hb k
 exact⟨b,es,ck,_,rfl,hc k,g2,h1 _ _ (h.more g1 hv)⟩
theorem aD.Rx(h:aD ke vr es ck m)(hm:(b,Obj.map es ck)∈H){K:zV->Prop}(hk:K (.int .i64 m.length)):BH H (.map (some b)) K:=⟨_,rfl,.inr ⟨b,es,ck,rfl,hm,by rw[h.len];exact hk⟩⟩
def bT(es:Array MapEntry)(m:List (κ×β))(seen:Array Nat):List (κ×β):=((es.toList.zip m).filter λp=> !seen.contains p.1.born).map Prod.snd
omit [DecidableEq κ] in
theorem mI(h:aD ke vr es ck m):bT es m #[]=m:=by
 unfold bT;rw[xcg.2 zI,<-List.unzip_snd,List.unzip_zip];simpa using h.len
omit [DecidableEq κ] in
theorem Ch(h:aD ke vr es ck m){seen:Array Nat}{i:Nat}{e:MapEntry}{x:κ×β}(he:es[i]? =some e)(hx:m[i]? =some x)(hs:e.born∉seen):(bT es m seen).Perm (x::bT es m (seen.push e.born)):=by
 unfold bT;have hz:(es.toList.zip m)[i]? =some (e,x):=by rw[List.getElem?_zip_eq_some];exact⟨by simpa using he,hx⟩
 obtain⟨A,C,hAC,hlen⟩:∃A C,es.toList.zip m=A++(e,x)::C/\A.length=i:=by
  obtain⟨hlt,hg⟩:=xah.1 hz;exact⟨(es.toList.zip m).take i,(es.toList.zip m).drop (i+1),by rw[<-hg,List.getElem_cons_drop,xbt],by simp only[xbI];omega⟩
 have agw:(es.toList.zip m).map (λp=>p.1.born)=es.toList.map MapEntry.born:=by
  have:(es.toList.zip m).map Prod.fst=es.toList:=by rw[<-List.unzip_fst,List.unzip_zip];simpa using h.len
  rw[show(λp:MapEntry×(κ×β)=>p.1.born)=MapEntry.born∘Prod.fst from rfl,<-xbO,this]
 have fc:=h.born;rw[<-agw,hAC,xaH,xaC]at fc;have acz:=xaT.nodup_iff.1 fc;rw[xaX,<-xaH]at acz;have hne:∀p∈A++C,p.1.born≠e.born:=λp hp e0=>acz.1 (xao.2 ⟨p,hp,e0⟩);have X6:∀L:List (MapEntry×(κ×β)),(∀p∈L,p.1.born≠e.born)->(L.filter λp=> !(seen.push e.born).contains p.1.born)=L.filter λp=> !seen.contains p.1.born:=λL hL=>by
  apply xdo;intro p hp;have:=hL p hp;simp[Array.mem_push,this]
 rw[hAC,xb6,xb6,xbn,xbn];rw[xae (by simpa using hs),xac zI,X6 A λp hp=>hne p (xad _ hp),X6 C λp hp=>hne p (xab _ hp)];rw[xaH,xaH,xaC];exact xaT
omit [DecidableEq κ] in
theorem aD.next{bi bm:Nat}{seen:Array Nat}{K:zV->Hp->Prop}(h:aD ke vr es ck m)(hm:(bm,Obj.map es ck)∈H)(hi:(bi,Obj.mapIter (some bm) ck seen ck)∈H)
 (h1:∀e x seen',e∈es.toList->e.key=ke x.1->vr e.val x.2->(bT es m seen).Perm (x::bT es m seen')->seen'.back?=some e.born->es.find? (·.born==e.born)=some e->
   ∃H',dg bi (.mapIter (some bm) ck seen ck) (.mapIter (some bm) ck seen' ck) H H'/\K (.tuple #[.bool true,e.key,e.val]) H')
 (h2:bT es m seen=[]->K (.tuple #[.bool false]) H):Yp H (.pointer (some ⟨bi,0,none⟩)) K:=by
 refine⟨bi,some bm,ck,seen,ck,rfl,hi,es,ck,hm,λe he=>⟨h.lt e he,h.lt e he⟩,λe he hs=>?_,λaJ=>h2 ?_⟩
 ·obtain⟨i,hi',rfl⟩:=xa9.1 he;have LP:i<m.length:=by rw[<-h.len];simpa using hi'
  have g1:es[i]? =some es.toList[i]:=by rw[<-xbf];exact xaa hi'
  have g2:m[i]? =some m[i]:=xaa LP;obtain⟨k1,k2⟩:=h.key i _ _ g1 g2;refine h1 _ m[i] _ he k1 k2 (Ch h g1 g2 hs) zI ?_;rw[<-Array.find?_toList];have fc:=h.born;rw[xd7];refine⟨by simp,es.toList.take i,es.toList.drop (i+1),by rw[List.getElem_cons_drop,xbt],λa ha=>?_⟩;simp only[xbE,beq_eq_false_iff_ne,ne_eq];intro e0;obtain⟨j,hj,rfl⟩:=xa9.1 ha;simp only[xbI]at hj;rw[List.getElem_take]at e0;have:=(List.getElem_inj (by simpa using h.born) (xs:=es.toList.map MapEntry.born) (i:=j) (j:=i) (h₀:=by rw[xav];omega) (h₁:=by rw[xav];exact hi')).1 (by simpa using e0);omega
 unfold bT;rw[xcS.2,xb9];intro p hp;have:=aJ p.1 (xdE hp).1;simpa using this
end
end Go.Sx
namespace ak
def k8(w:Nat):List UInt8:=(List.range 8).map λi=>UInt8.ofNat (w>>>(8*i))
def ij(ws:zL):List UInt8:=ws.flatMap k8
theorem fV(w:Nat):(k8 w).length=8:=by simp[k8]
theorem tI:∀l:zL,(ij l).length=8*l.length
 | []=>rfl
 |x::l=>by rw[ij,xem,xaf,fV];have:=tI l;unfold ij at this;rw[this,xaB];omega
theorem G4{a b:Nat}(ha:a<18446744073709551616)(hb:b<18446744073709551616)(h:k8 a=k8 b):a=b:=by
 apply xaY;intro j;by_cases hj:j<64
 ·have hi:j/8<8:=by omega
  have h1:=xce (λl=>l[j/8]?) h;simp only[k8,xat,xdC hi,xck,xaq]at h1;have h2:=xce UInt8.toNat h1;simp only[UInt8.toNat_ofNat']at h2;have h3:=xce (λx=>x.testBit (j%8)) h2;simp only[xbA,xbv]at h3;rw[show 8*(j/8)+j%8=j by omega]at h3;have:decide (j%8<8)=true:=by simp;omega
  simpa[this]using h3
 rw[xbW (xaN ha (xaA (n:=2) zD (by omega:64<=j))),xbW (xaN hb (xaA (n:=2) zD (by omega:64<=j)))]
theorem DD:∀{a b:zL},(∀w∈a,w<18446744073709551616)->(∀w∈b,w<18446744073709551616)->ij a=ij b->a=b
 | [],[],_,_,_=>rfl
 | [],y::b,_,_,h=>by have:=xce List.length h;simp[ij,fV]at this;omega
 |x::a,[],_,_,h=>by have:=xce List.length h;simp[ij,fV]at this
 |x::a,y::b,ha,hb,h=>by
  simp only[ij,xem]at h;obtain⟨h1,h2⟩:=List.append_inj h (by rw[fV,fV]);rw[G4 (ha x zI) (hb y zI) h1,DD (λw hw=>ha w (by simp[hw])) (λw hw=>hb w (by simp[hw])) h2]
theorem eY.key_inj{n:Nat}{a b:zL}(ha:eY n a)(hb:eY n b)(h:ij a=ij b):a=b:=DD (λw hw=>ha.lt hw) (λw hw=>hb.lt hw) h
abbrev Fs:=List (zL)
def add(l:Fs)(t:zL):Fs:=if t∈l then l else l++[t]
def mK(L:Fs):Fs:=L.foldl add []
def given(n:Nat)(l:Fs)(v:Nat):Fs:=l.foldl (λacc t=>add (add acc (iN n t v false)) (iN n t v true)) []
def nodes(n:Nat)(l:Fs)(v:Nat):Fs:=l.filter λt=>dep n t v
def st(n:Nat)(L:Fs)(A:Nat):Nat->Fs
 |0=>mK L
 |k+1=>if A.testBit k then given n (st n L A k) k else st n L A k
def lvl(n:Nat)(L:Fs)(A v:Nat):Nat:=(nodes n (st n L A n) v).length
theorem A1{l:Fs}{t x:zL}:x∈add l t↔x∈l\/x=t:=by
 unfold add;split
 ·constructor
  ·exact .inl
  rintro(h|rfl)<;>assumption
 simp
theorem tp{l:Fs}{t:zL}(h:l.Nodup):(add l t).Nodup:=by
 unfold add;split
 ·exact h
 rename_i hn;rw[xa2];exact⟨h,by simp,λa ha b hb=>by simp at hb;subst hb;rintro rfl;exact hn ha⟩
theorem k6{α:Type}(f:α->Fs->Fs)(g:α->zL->Prop)(hf:∀a l x,x∈f a l↔x∈l\/g a x):∀(L:List α) (acc:Fs) (x:zL),x∈L.foldl (λacc a=>f a acc) acc↔x∈acc\/∃a∈L,g a x
 | [],acc,x=>by simp
 |a::L,acc,x=>by
  rw[xcI,k6 f g hf L,hf];simp only[xal,exists_eq_or_imp,or_assoc]
theorem jh{α:Type}(f:α->Fs->Fs)(hf:∀a l,l.Nodup->(f a l).Nodup):∀(L:List α) (acc:Fs),acc.Nodup->(L.foldl (λacc a=>f a acc) acc).Nodup
 | [],acc,h=>h
 |a::L,acc,h=>jh f hf L _ (hf a acc h)
theorem gn{L:Fs}{x:zL}:x∈mK L↔x∈L:=by
 unfold mK;have:=k6 (λa l=>add l a) (λa x=>x=a) (λa l x=>A1) L [] x;rw[this];simp
theorem mJ(L:Fs):(mK L).Nodup:=jh (λa l=>add l a) (λa l h=>tp h) L [] zI
theorem cf{n v:Nat}{l:Fs}{x:zL}:x∈given n l v↔∃t∈l,∃b,x=iN n t v b:=by
 unfold given;have:=k6 (λt acc=>add (add acc (iN n t v false)) (iN n t v true)) (λt x=>∃b,x=iN n t v b) (λt l x=>by
  rw[A1,A1];constructor
  ·rintro((h|h)|h)
   ·exact .inl h
   ·exact .inr ⟨false,h⟩
   exact .inr ⟨true,h⟩
  rintro(h|⟨b,h⟩)
  ·exact .inl (.inl h)
  cases b
  ·exact .inl (.inr h)
  exact .inr h) l [] x
 rw[this];simp
theorem n9(n:Nat)(l:Fs)(v:Nat):(given n l v).Nodup:=jh (λt acc=>add (add acc (iN n t v false)) (iN n t v true)) (λa l h=>tp (tp h)) l [] zI
theorem nM(n:Nat)(L:Fs)(A:Nat):∀k,(st n L A k).Nodup
 |0=>mJ L
 |k+1=>by
  rw[st];split
  ·exact n9 _ _ _
  exact nM n L A k
theorem jE{a b:Fs}(ha:a.Nodup)(hb:b.Nodup)(h:∀x,x∈a↔x∈b):a.Perm b:=(xcx ha hb).2 h
theorem mT{n v:Nat}{a b:Fs}(h:a.Perm b):(nodes n a v).length=(nodes n b v).length:=(h.filter _).length_eq
theorem Fy{n:Nat}{L:Fs}{A:Nat}(hL:∀t∈L,eY n t)(hn:n<=16):∀k,∀t∈st n L A k,eY n t
 |0,t,h=>hL t (gn.1 h)
 |k+1,t,h=>by
  rw[st]at h;split at h
  ·obtain⟨u,_,b,rfl⟩:=cf.1 h;exact eB hn
  exact Fy hL hn k t h
theorem qK(l:Fs)(t:zL):(add l t).length<=l.length+1:=by unfold add;split<;>simp
theorem iF{α:Type}(f:α->Fs->Fs)(c:Nat)(hf:∀a l,(f a l).length<=l.length+c):∀(L:List α) (acc:Fs),(L.foldl (λacc a=>f a acc) acc).length<=acc.length+c*L.length
 | [],acc=>by simp
 |a::L,acc=>by
  have h1:=iF f c hf L (f a acc);have h2:=hf a acc;rw[xcI,xaB,Nat.mul_succ];omega
theorem su(n:Nat)(L:Fs)(A:Nat):∀k,(st n L A k).length<=2^k*L.length
 |0=>by have:=iF (λa l=>add l a) 1 (λa l=>qK l a) L [];simpa[st,mK]using this
 |k+1=>by
  have ih:=su n L A k;rw[st,xdt];split
  ·have h:=iF (λt acc=>add (add acc (iN n t k false)) (iN n t k true)) 2 (λa l=>by have h1:=qK (add l (iN n a k false)) (iN n a k true);have h2:=qK l (iN n a k false);omega) (st n L A k) [];have h':(given n (st n L A k) k).length<=2*(st n L A k).length:=by simpa[given]using h
   have:2*(st n L A k).length<=2*(2^k*L.length):=xdb _ ih;rw[xcm (2^k) 2,xcq];omega
  have:2^k*L.length<=2^k*2*L.length:=xaZ _ zO;omega
def lH(n:Nat)(ws:zL):Nat->Nat
 |0=>0
 |v+1=>if dep n ws v then lH n ws v|||2^v else lH n ws v
def p7(n:Nat)(ws:zL):Nat:=lH n ws n
theorem iM(n:Nat)(ws:zL)(u:Nat):∀k,(lH n ws k).testBit u=(decide (u<k) &&dep n ws u)
 |0=>by simp[lH]
 |v+1=>by
  rw[lH];by_cases e:u=v
  ·subst e;split
   ·rename_i h;rw[xb1,Nat.testBit_two_pow_self];simp[h]
   rename_i h;rw[iM n ws u u];simp[h]
  have h1:decide (u<v+1)=decide (u<v):=by simp;omega
  rw[h1];split
  ·rw[xb1,xbB,iM n ws u v];simp[xbb e]
  exact iM n ws u v
theorem nL(n:Nat)(ws:zL):∀k,lH n ws k<2^k
 |0=>by simp[lH]
 |v+1=>by
  have h1:=nL n ws v;have h2:2^v<2^(v+1):=xbk zD zO;rw[lH];split
  ·exact xbF zO h2
  omega
theorem uS(A u:Nat):(A>>>u&&&1=1)↔A.testBit u=true:=by
 rw[gw,xbv,xcn];cases A.testBit u<;>simp
theorem Mg(A u:Nat):((A>>>u)%2=1)↔A.testBit u=true:=by
 rw[<-uS,xbT]
end ak
namespace Go.Sx
open Go
section
variable {P:Program} {H:Hp}
theorem au.int{t e:Nat}{kd:IntKind}{x:Int}{K:zV->Hp->Prop}(h1:P.underlying t=some (.slice e))(h2:dL P e=some 1)(h3:fK P e=some (.int kd 0))
 (h:∀b,K (.slice (some ⟨b,0,none⟩) 1 1) ((b,.cells (ay kd [x]) e zZ)::H)):au P t 1 [(0,.int kd x)] H K:=by
 refine⟨ay kd [x],e,1,_,h1,h2,h3,by decide,?_,λb _=>h b⟩;have e1:Array.range 1=#[0]:=rfl;simp[Instr.fill,Value.cells,ay,e1]
theorem au.none{t e k:Nat}{z:zV}{K:zV->Hp->Prop}(h1:P.underlying t=some (.slice e))(h2:dL P e=some k)(h3:fK P e=some z)
 (h:∀b,K (.slice (some ⟨b,0,none⟩) 0 0) ((b,.cells #[] e zZ)::H)):au P t 0 [] H K:=by
 refine⟨_,e,k,z,h1,h2,h3,by simp,rfl,λb _=>?_⟩;have:((Array.range (0*k)).map λi=>z.cells[i%z.cells.size]!)=#[]:=by simp
 rw[this];exact h b
def r8(T:TypeId)(v:zV)(ts:List Tb)(C B:Hp):Prop:=∃rs,aV T 2 v rs C/\tt (T4 B) rs ts
theorem r8.nil{T:TypeId}{B:Hp}:r8 T (.slice none 0 0) [] [] B:=⟨[],aV.nil _ _,tt.nil⟩
theorem r8.mono{T:TypeId}{v:zV}{ts:List Tb}{C B B':Hp}(h:r8 T v ts C B)(hs:∀x∈B,x∈B'):r8 T v ts C B':=let ⟨rs,h1,h2⟩:=h;⟨rs,h1,h2.mono λ_ _ h=>h.mono hs⟩
theorem r8.afk{T:TypeId}{v:zV}{ts:List Tb}{C B B':Hp}(h:r8 T v ts C B)(hc:∀x∈C,x∈B')(hb:∀x∈B,x∈B'):jL B' v ts:=by
 obtain⟨rs,h1,h2⟩:=h;exact⟨rs,(Sl.rj h1 zD).mono hc,h2.mono λ_ _ h=>h.mono hb⟩
theorem r8.app{T:TypeId}{v:zV}{ts:List Tb}{C B0 A B:Hp}(h:r8 T v ts C B0){xb xc:Nat}{t:Tb}{s:zV}{xT:TypeId}{fz:Nat×Nat}(hx:(xb,Obj.cells #[.int .i64 t.n,s] xT fz)∈A++(C++B))(hw:Words B0 s t.ws)
 (hl:ts.length<4398046511103){K:zV->Hp->Prop}(hk:∀v' C',r8 T v' (ts++[t]) C' B0->K v' (A++(C'++B))):App P T 2 32 (.agg #[.int .i64 0,.slice none 0 0]) (A++(C++B)) v (.slice (some ⟨xb,0,none⟩) 1 xc) K:=by
 obtain⟨rs,h1,h2⟩:=h;have hs:s.oneCell'=true:=by obtain⟨a,c,rfl,_⟩:=hw.1.shape;rfl
 have DM:=h2.1;refine h1.Hi (r:=[.int .i64 t.n,s]) hx rfl (λu hu=>by simp only[xal,xaQ,xbH]at hu;rcases hu with rfl|rfl;rfl;exact hs) ⟨[.int .i64 0,.slice none 0 0],rfl,rfl⟩ zO zO λv' C' ho=>hk v' C' ⟨_,ho,h2.snoc ⟨s,rfl,hw⟩⟩
def tf(l:List UInt8):List (List zV):=l.map λb=>[Value.int .u8 b.toNat]
theorem Nl(l:List UInt8):rows (tf l)=(l.map λb=>Value.int .u8 b.toNat).toArray:=by
 unfold rows tf;congr 1;induction l with
 |nil=>rfl
 |cons b r ih=>simp[ih]
theorem lg.own{T:TypeId}{v:zV}{l:List UInt8}{C:Hp}(h:aV T 1 v (tf l) C)(hs:∀x∈C,x∈H){K:zV->Prop}(hk:K (.string ⟨l.toArray⟩)):lg H v K:=by
 obtain⟨a,cap,h1,h2⟩:=((Sl.rj h zD).mono hs).cells;refine⟨a,_,cap,l,h1,?_,by simp[tf],hk⟩;rw[Nl,xbV]at h2;exact h2
def AI(l:List UInt8):zV:=.string ⟨l.toArray⟩
theorem vg(a b:List UInt8):((⟨a.toArray⟩:ByteArray)==⟨b.toArray⟩)=decide (a=b):=by
 rw[beq_toListBytes,ByteArray.toList_eq,ByteArray.toList_eq];simp only[xdD];rw[xbU];simp
theorem Qt(a b:List UInt8):Instr.sameNow .string (AI a) (AI b)=some (decide (a=b)):=by
 show some _=some _;rw[vg]
theorem MW(a:List UInt8):Instr.sameBits 10000 (AI a) (AI a)=true:=by
 show((⟨a.toArray⟩:ByteArray)==⟨a.toArray⟩)=true;rw[vg];simp
theorem ae.abw{a b:List UInt8}{k:zV->Prop}(h:k (.bool (decide (a≠b)))):ae .str .neq (AI a) (AI b) k:=by
 refine⟨_,rfl,?_⟩;have:(!((⟨a.toArray⟩:ByteArray).toList==(⟨b.toArray⟩:ByteArray).toList))=decide (a≠b):=by
  rw[<-beq_toListBytes,vg];simp
 rw[this];exact h
def gI(n:Nat)(B:Hp)(es:Array MapEntry)(ck:Nat)(m:List (List UInt8×zL)):Prop:=
 aD AI (λv ws=>Fa B v ⟨n,ws⟩) es ck m/\∀x∈m,x.1=ak.ij x.2/\ak.eY n x.2
theorem gI.mono{n:Nat}{B B':Hp}{es:Array MapEntry}{ck:Nat}{m:List (List UInt8×zL)}(h:gI n B es ck m)(hs:∀x∈B,x∈B'):gI n B' es ck m:=⟨h.1.mono λ_ _ h=>h.mono hs,h.2⟩
theorem gI.empty(n:Nat)(B:Hp):gI n B #[] 0 []:=⟨aD.empty,by simp⟩
def AG(m:List (List UInt8×zL))(ws:zL):List (List UInt8×zL):=eo m (ak.ij ws) ws
theorem gI.nodup{n:Nat}{B:Hp}{es:Array MapEntry}{ck:Nat}{m:List (List UInt8×zL)}(h:gI n B es ck m):(m.map Prod.snd).Nodup:=by
 have h1:=h.1.nd;have e:m.map Prod.fst=(m.map Prod.snd).map ak.ij:=by
  rw[xbO];apply xbj;intro x hx;exact(h.2 x hx).1
 rw[e]at h1;exact List.Pairwise.of_map ak.ij (λa b hne e=>hne (by rw[e])) h1
theorem sq{n:Nat}{m:List (List UInt8×zL)}{ws:zL}(hm:∀x∈m,x.1=ak.ij x.2/\ak.eY n x.2)(hf:ak.eY n ws):∀x,x∈(AG m ws).map Prod.snd↔x∈m.map Prod.snd\/x=ws:=by
 intro x;unfold AG eo;split
 ·rename_i hk;obtain⟨y,hy,hky⟩:=xao.1 hk;have hyw:y.2=ws:=(hm y hy).2.key_inj hf (by rw[<-(hm y hy).1,hky]);have:(m.map λy=>if y.1=ak.ij ws then(ak.ij ws,ws)else y)=m:=by
   conv=>rhs;rw[<-xeg m]
   apply xbj;intro z hz;split
   ·rename_i hzk;have:z.2=ws:=(hm z hz).2.key_inj hf (by rw[<-(hm z hz).1,hzk]);simp only[id];rw[<-hzk,<-this]
   rfl
  rw[this];constructor
  ·exact .inl
  rintro(h|rfl)
  ·exact h
  exact xao.2 ⟨y,hy,hyw⟩
 simp
theorem UL{n:Nat}{m:List (List UInt8×zL)}{ws:zL}(hm:∀x∈m,x.1=ak.ij x.2/\ak.eY n x.2)(hf:ak.eY n ws):∀x∈AG m ws,x.1=ak.ij x.2/\ak.eY n x.2:=by
 intro x hx;unfold AG eo at hx;split at hx
 ·obtain⟨y,hy,rfl⟩:=xao.1 hx;split
  ·exact⟨rfl,hf⟩
  exact hm y hy
 rcases xan.1 hx with hx|hx
 ·exact hm x hx
 simp at hx;subst hx;exact⟨rfl,hf⟩
theorem gI.bt{n:Nat}{B:Hp}{es:Array MapEntry}{ck b:Nat}{m:List (List UInt8×zL)}{ws:zL}{val:zV}{K:Hp->Prop}(h:gI n B es ck m)(hv:Fa B val ⟨n,ws⟩)(hf:ak.eY n ws)
 (h1:∀es' bD,gI n B es' bD (AG m ws)->∃H',dg b (.map es ck) (.map es' bD) H H'/\K H'):aW .string H (.map (some b)) (AI (ak.ij ws)) val K:=
 aD.bt Qt MW h.1 hv λes' bD he=>h1 es' bD ⟨he,UL h.2 hf⟩
end
end Go.Sx
namespace Go.Sx
open Go
section
variable {P:Program} {g:Gh} {H:Hp}
theorem aV.apps{elem k bytes:Nat}{zero:zV}{v:zV}{rs:List (List zV)}{C A B:Hp}(h:aV elem k v rs C){xa:Option Addr}{xc:Nat}{r2:List (List zV)}
 (hx:Cells (A++(C++B)) xa (r2.length*k) (rows r2))(hr:∀r∈r2,r.length=k)(h1:∀r∈r2,∀u∈r,u.oneCell'=true)(hz:∃z:List zV,zero.cells=z.toArray/\z.length=k)
 (hb:(rs.length+r2.length)*bytes<=140737488355328)(cD:rs.length+r2.length<=9223372036854775807){K:zV->Hp->Prop}
 (hk:∀v' C',aV elem k v' (rs++r2) C'->K v' (A++(C'++B))):App P elem k bytes zero (A++(C++B)) v (.slice xa r2.length xc) K:=by
 obtain⟨z,hz1,V0⟩:=hz;have hnone:∀u∈(rows r2).toList,u.oneCell'=true:=by
  intro u hu;simp only[rows,List.mem_flatten]at hu;obtain⟨r,h2,h3⟩:=hu;exact h1 r h2 u h3
 rcases h with⟨rfl,rfl,rfl⟩|⟨b,aK,rfl,rfl,aJ⟩
 ·refine⟨none,0,0,xa,r2.length,xc,#[],rows r2,rfl,rfl,rfl,hx,bR hr,by simp,hnone,λh=>?_,λ_=>⟨by simpa using hb,by simpa using cD,λgm hn b hbf=>?_⟩⟩
  ·have:r2=[]:=xbX zO;subst this;exact hk _ [] (.inl ⟨rfl,rfl,rfl⟩)
  rw[show(#[]:Array zV)++rows r2++Builtin.zeroCells zero.cells (gm-(0+r2.length))=rows ([]++r2++List.replicate (gm-r2.length) z)by rw[hz1,qV z V0];simp only[xa5,xdd,xb4];rw[eu]];refine⟨_,aN.XC [(b,_)] A B,hk _ [(b,_)] (.inr ⟨b,List.replicate (gm-r2.length) z,?_,rfl,?_⟩)⟩
  ·simp;omega
  intro x hx;rcases xan.1 hx with hx|hx
  ·exact hr x hx
  rw[xb0 hx,V0]
 have hsz:=bR aJ;have pP:∀x∈rs,x.length=k:=λx hx=>aJ x (by simp[hx]);have hold:rows rs=(rows (rs++aK)).extract 0 (0+rs.length*k):=by
  rw[<-eu];apply xdg;have:=bR pP;have h2:(rows rs).toList.length=rs.length*k:=by rw[xcf];exact this
  rw[Array.toList_extract,Array.toList_append,List.extract_eq_take_drop,List.drop_zero,xa5,xc7,<-h2,xea]
 refine⟨some ⟨b,0,none⟩,rs.length,rs.length+aK.length,xa,r2.length,xc,rows rs,rows r2,rfl,rfl,.inr ⟨rfl,_,elem,(0,0),by simp,?_,hold⟩,hx,bR hr,bR pP,hnone,λhfit=>?_,λhgrow=>⟨hb,by omega,λgm hn b' hbf=>?_⟩⟩
 ·rw[hsz];simp only[xaf,xa5];exact xaZ _ zO
 ·obtain⟨j1,j2,rfl,hj⟩:∃j1 j2,aK=j1++j2/\j1.length=r2.length:=⟨aK.take r2.length,aK.drop r2.length,(xbt _ _).symm,by rw[xbI];omega⟩;have ac7:∀x∈j1,x.length=k:=λx hx=>aJ x (by simp[hx]);refine⟨_,elem,_,rfl,?_,((dg.head _).append B).ca A,hk _ [(b,_)] (.inr ⟨b,j2,?_,?_,?_⟩)⟩
  ·rw[hsz,xaf,xaf,hj,xef,xef];show 0+rs.length*k+r2.length*k<=_;omega
  ·simp;omega
  ·have e:(⟨b,0,none⟩:Addr).off+rs.length*k=rs.length*k:=by simp
   have l1:=dy rs pP;have l2:=dy j1 ac7;have l3:=dy r2 hr;have e2:j4 (rows (rs++(j1++j2))) (rs.length*k) (rows r2).toList=rows (rs++r2++j2):=by
    unfold rows;rw[xct,xct,xdD,oU _ _ _ (by rw[xaf,xaf,l1,l2,l3,hj];omega)];congr 1;rw[xct,xct,<-l1,xea,l3,<-hj,<-l2,xeu,<-xaj];simp[xeu]
   rw[e,e2]
  intro x hx;simp only[xaj,xan]at hx;rcases hx with hx|hx|hx
  ·exact pP x hx
  ·exact hr x hx
  exact aJ x (by simp[hx])
 refine⟨A++([(b',_)]++B),?_,hk _ [(b',_)] (.inr ⟨b',List.replicate (gm-(rs.length+r2.length)) z,?_,rfl,?_⟩)⟩
 ·rw[hz1,qV z V0,eu,eu];exact λg w h=>(aN.abz [[_],A,[_],B] [[_],A,[_],B] ((xbe (l₁:=[_,A]) (l₂:=[_])).append_right [B]|>.trans (.cons _ (.swap _ _ _))) g w h).tail
 ·simp;omega
 intro x hx;rcases xan.1 hx with hx|hx
 ·rcases xan.1 hx with hx|hx
  ·exact pP x hx
  exact hr x hx
 rw[xb0 hx,V0]
def aP(T:TypeId)(kd:IntKind)(v:zV)(l:List Int)(C:Hp):Prop:=aV T 1 v (l.map λn=>[Value.int kd n]) C
theorem aP.nil{T:TypeId}{kd:IntKind}:aP T kd (.slice none 0 0) [] []:=aV.nil _ _
theorem aP.bP{T:TypeId}{kd:IntKind}{v:zV}{l:List Int}{C:Hp}(h:aP T kd v l C){K:zV->Prop}(hk:K (.int .i64 l.length)):aR v K:=aV.bP h (by simpa using hk)
theorem aP.ints{T:TypeId}{kd:IntKind}{v:zV}{l:List Int}{C:Hp}(h:aP T kd v l C):dF kd C v l:=Sl.rj h zD
theorem aP.app{T:TypeId}{kd:IntKind}{v:zV}{l:List Int}{C A B:Hp}{bytes:Nat}(h:aP T kd v l C){xb xc:Nat}{x:Int}{xT:TypeId}{fz:Nat×Nat}(hx:(xb,Obj.cells (ay kd [x]) xT fz)∈A++(C++B))
 (hb:(l.length+1)*bytes<=140737488355328)(hm:l.length+1<=9223372036854775807){K:zV->Hp->Prop}(hk:∀v' C',aP T kd v' (l++[x]) C'->K v' (A++(C'++B))):App P T 1 bytes (.int kd 0) (A++(C++B)) v (.slice (some ⟨xb,0,none⟩) 1 xc) K:=
 aV.Hi (r:=[.int kd x]) h hx rfl (by simp[Value.oneCell']) ⟨[.int kd 0],rfl,rfl⟩ (by simpa using hb) (by simpa using hm) λv' C' ho=>hk v' C' (by unfold aP;simpa using ho)
theorem aP.apps{T:TypeId}{kd:IntKind}{v x:zV}{l l2:List Int}{C A B:Hp}{bytes:Nat}(h:aP T kd v l C)(hx:dF kd (A++(C++B)) x l2)
 (hb:(l.length+l2.length)*bytes<=140737488355328)(hm:l.length+l2.length<=9223372036854775807){K:zV->Hp->Prop}(hk:∀v' C',aP T kd v' (l++l2) C'->K v' (A++(C'++B))):App P T 1 bytes (.int kd 0) (A++(C++B)) v x K:=by
 obtain⟨a,cap,rfl,hc⟩:=Sl.cells hx;exact aV.apps h hc zI (by simp[Value.oneCell']) ⟨[.int kd 0],rfl,rfl⟩ (by simpa using hb) (by simpa using hm) λv' C' ho=>hk v' C' (by unfold aP;rw[xaH];exact ho)
theorem au.abZ{t e:Nat}{kd:IntKind}{x y z:Int}{K:zV->Hp->Prop}(h1:P.underlying t=some (.slice e))(h2:dL P e=some 1)(h3:fK P e=some (.int kd 0))
 (h:∀b,K (.slice (some ⟨b,0,Option.none⟩) 3 3) ((b,.cells (ay kd [x,y,z]) e zZ)::H)):au P t 3 [(0,.int kd x),(1,.int kd y),(2,.int kd z)] H K:=by
 refine⟨ay kd [x,y,z],e,1,_,h1,h2,h3,by decide,?_,λb _=>h b⟩;have e1:Array.range (3*1)=#[0,1,2]:=rfl;simp[Instr.fill,Value.cells,ay,e1]
end
end Go.Sx
namespace Go.Sx
open Go
section
variable {P:Program}
theorem Er{e:TypeId}{i:TypeInfo}(hi:P.info? e=some i)(hs:i.size=1):P.cellsOf e=1:=by simp[Program.cellsOf,hi,hs]
theorem ri{e:TypeId}{q:IntKind}(hu:P.underlying e=some (.int q)){l:List Int}{j:Nat}{x:Int}(h:l[j]? =some x)(w:World):(part e (ay q l) j).run P w=.ok (.int q x) w:=by
 simp[part,isAgg,run_underlying hu,ay,h]
theorem rW{e:TypeId}{q:IntKind}(hu:P.underlying e=some (.int q))(hc:P.cellsOf e=1)(d:Nat)(l l':List Int)(w:World):∀is:zL,(∀i∈is,i<l.length/\i<l'.length)->
  (Op.eqItems (d+1) e (P.cellsOf e) (ay q l) (ay q l') is).run P w=.ok (is.all λi=>l[i]? ==l'[i]?) w
 | [],_=>by simp[Op.eqItems]
 |i::is,h=>by
  obtain⟨h1,h2⟩:=h i zI;have g1:l[i]? =some l[i]:=xaa h1;have g2:l'[i]? =some l'[i]:=xaa h2;have p1:=ri (P:=P) hu g1 w;have p2:=ri (P:=P) hu g2 w;have p3:(Op.equalIn (d+1) e (.int q l[i]) (.int q l'[i])).run P w=.ok (l[i]==l'[i]) w:=by
   simp only[Op.equalIn,Sem.run_bind,run_underlying hu,Result.andThen_ok,xa7,Sem.run_pure]
  have ih:=rW hu hc d l l' w is λj hj=>h j (by simp[hj]);simp only[Op.eqItems,hc,xbV,Sem.run_bind,p1,p2,p3,Result.andThen_ok]at ih⊢;rw[List.all_cons,g1,g2];cases hb:(l[i]==l'[i])
  ·simp[hb]
  simp[hb,ih]
theorem BJ.array{t e:TypeId}{q:IntKind}{n:Nat}(ht:P.underlying t=some (.array n e))(hu:P.underlying e=some (.int q))(hz:dL P e=some 1)(l l':List Int)(h1:l.length=n)(h2:l'.length=n):
  BJ P t (.agg (ay q l)) (.agg (ay q l')) (decide (l=l')):=by
 obtain⟨i,hi,hs⟩:=bG hz;have hc:=Er hi hs;intro w;show(Op.equalIn (9998+1+1) t _ _).run P w=_;rw[run_equalIn_array w (9998+1) _ _ ht hi,rW hu hc 9998 l l' w _ (λj hj=>by have:=xaM.1 hj;omega)];congr 1;rw[xbU];simp only[xc6,xaM,xaJ,xcR];constructor
 ·intro h;apply xbg;intro j;by_cases hj:j<n
  ·exact h j hj
  rw[xaE zO,xaE zO]
 rintro rfl j _;rfl
theorem mD.array{t e:TypeId}{q:IntKind}{n:Nat}(ht:P.underlying t=some (.array n e))(hu:P.underlying e=some (.int q))(hz:dL P e=some 1)(l:List Int)(h1:l.length=n):mD P t (.agg (ay q l)):=by
 obtain⟨i,hi,hs⟩:=bG hz;intro b w;have gen:∀d,(Instr.checkKey b (d+1+1) t (.agg (ay q l))).run P w=.ok () w:=by
  intro d;have p2:∀x:Int,(Instr.checkKey b (d+1) e (.int q x)).run P w=.ok () w:=λx=>by
   simp only[Instr.checkKey,Sem.run_bind,run_underlying hu,Result.andThen_ok,Sem.run_pure]
  unfold Instr.checkKey;simp only[Sem.run_bind,run_underlying ht,Result.andThen_ok];simp only[Std.Legacy.Range.forIn_eq_forIn_range',Std.Legacy.Range.size,xc7,Nat.add_one_sub_one,Nat.div_one];have key:∀is:zL,(∀j∈is,j<l.length)->(forIn is PUnit.unit λj (_:PUnit)=>(do
     Instr.checkKey b (d+1) e (<-part e (ay q l) (j*(<-sizeOf e)))
     pure (ForInStep.yield PUnit.unit):Sem (ForInStep PUnit))).run P w=.ok PUnit.unit w:=by
   intro is;induction is with
   |nil=>intro _;simp
   |cons j is ih=>
    intro h;have p1:=ri (P:=P) hu (xaa (h j zI)) w;simp only[xex,Sem.run_bind,run_sizeOf hi,Result.andThen_ok,hs,xbV,p1,p2,Sem.run_pure];exact ih λk hk=>h k (by simp[hk])
  have:=key (List.range' 0 n) (λj hj=>by have:=xen.1 hj;omega);rw[this];rfl
 exact gen 9998
theorem Build.two{t e:TypeId}{q:IntKind}{x y:Int}{K:zV->Prop}(ht:P.underlying t=some (.array 2 e))(hz:dL P e=some 1)(h0:fK P t=some (.agg (ay q [0,0])))(h:K (.agg (ay q [x,y]))):
  Build P t [(0,.int q x),(1,.int q y)] K:=by
 refine⟨_,λw=>?_,h⟩;obtain⟨i,hi,hs⟩:=bG hz;obtain⟨i0,Gw,XS⟩:=cJ h0;simp only[Instr.build,Sem.run_bind,dV Gw XS,Result.andThen_ok,run_underlying ht,run_sizeOf hi,hs];simp[Instr.fill,Value.cells,ay]
end
end Go.Sx
namespace Go.Sx
open Go
section
variable {P:Program} {g:Gh} {H:Hp}
theorem jM.struct{o:Oper}{ρ:Operand->zV}{k:zV->Prop}{neq:Bool}{t yt:TypeId}{x y:Operand}{xs ys:Array zV}{b:Bool}(ho:o.op=.binOp (cond neq .neq .eql) t x y yt)(hx:ρ x=.agg xs)(hy:ρ y=.agg ys)
 (hg:P.eqGuardType P.depth t=false)(hu:P.underlying t=some (.struct (P.fieldsOf t)))(hp:P.stoodInHeld t=false)
 (he:∀w,(Op.eqFields 9999 xs ys (P.fieldsOf t).toList).run P w=.ok b w)(hk:k (.bool (cond neq (!b) b))):jM P g o ρ H k:=by
 obtain⟨dst,op,type,pos,after,guard⟩:=o;simp only at ho;subst ho;obtain⟨v,h1,h2⟩:=Reads.mk (P:=P) (g:=g) (H:=H) (o:=⟨dst,.binOp (cond neq .neq .eql) t x y yt,type,pos,after,guard⟩) (ρ:=ρ) (k:=k) (s:=do eqGuard (cond neq .neq .eql) t x y (ρ x) (ρ y);binOp (cond neq .neq .eql) t (ρ x) (ρ y)) rfl
  ⟨.bool (cond neq (!b) b),hk,λw _=>by
   rw[hx,hy];simp only[Sem.run_bind,run_eqGuard_agg w _ t x y xs ys hg,Result.andThen_ok];cases neq
   ·simp only[xag];rw[run_eql_struct,show(10000:Nat)=9999+1 from rfl,run_equalIn_struct w 9999 t xs ys hu hp,he];rfl
   simp only[xap];rw[run_neq_struct,show(10000:Nat)=9999+1 from rfl,run_equalIn_struct w 9999 t xs ys hu hp,he];rfl⟩
 exact⟨v,h2,h1⟩
end
end Go.Sx
