import Derived.WalkKit
import Derived.Still
import Derived.KernelRfl
import Derived.Deep.Quiet
import Derived.OrdersHeld
import Derived.ProofKit
import Derived.OpenShut
import Derived.Below
import Derived.ChangeKeysEq
set_option linter.unusedVariables false
set_option linter.unusedSimpArgs false
set_option linter.unusedSectionVars false
theorem zM{α:Type _}{x:α}{l:List α}(h:x∈l:=by repeat (first|assumption|exact List.Mem.head _|apply List.Mem.tail|apply List.mem_append_right)):x∈l:=h
theorem zS{α:Type _}{A B:List α}(h:∀x∈A,x∈B:=by intro _ h;repeat (first|exact h|apply List.mem_cons_of_mem|apply List.mem_append_right)):∀x∈A,x∈B:=h
theorem zO{p:Prop}(h:p:=by omega):p:=h
theorem zI{p:Prop}(h:p:=by simp):p:=h
theorem zD{p:Prop}(h:p:=by decide):p:=h
theorem zK{p:Prop}(h:p:=by kernel_rfl):p:=h
theorem zP{p:Prop}(h:p:=by simp;omega):p:=h
theorem zC{p:Prop}(h:p:=by intro c h;cases h):p:=h
abbrev zL:=List Nat
abbrev zV:=Go.Value
abbrev zZ:Nat×Nat:=(0,0)
set_option linter.defProp false
def xaa:=@List.getElem?_eq_getElem
def xab:=@List.mem_append_right
def xac:=@if_neg
def xad:=@if_pos
def xae:=@List.mem_append_left
def xaf:=@List.length_append
def xag:=@Nat.le_refl
def xah:=@cond_false
def xai:=@decide_eq_false
def xaj:=@List.append_assoc
def xak:=@List.getElem?_eq_some_iff
def xal:=@decide_eq_true
def xam:=@List.mem_cons
def xan:=@List.mem_map
def xao:=@List.mem_append
def xap:=@List.getD_eq_getElem?_getD
def xaq:=@cond_true
def xar:=@decide_eq_true_eq
def xas:=@Option.some.injEq
def xat:=@Array.getD_eq_getD_getElem?
def xau:=@List.getElem?_map
def xav:=@List.mem_of_getElem?
def xaw:=@List.cons.injEq
def xax:=@Bool.or_eq_false_iff
def xay:=@Nat.pow_le_pow_right
def xaz:=@List.length_range
def xaA:=@Nat.lt_of_le_of_lt
def xaB:=@List.map_cons
def xaC:=@List.length_map
def xaD:=@Bool.and_eq_true
def xaE:=@List.getElem?_eq_none
def xaF:=@List.getElem_mem
def xaG:=@Nat.eq_of_beq_eq_true
def xaH:=@List.length_cons
def xaI:=@List.mem_singleton
def xaJ:=@List.map_append
def xaK:=@Classical.byContradiction
def xaL:=@List.append_nil
def xaM:=@List.mem_range
def xaN:=@Nat.zero_le
def xaO:=@Nat.lt_of_lt_of_le
def xaP:=@List.not_mem_nil
def xaQ:=@Bool.false_eq_true
def xaR:=@List.cons_append
def xaS:=@List.perm_middle
def xaT:=@List.mem_map_of_mem
def xaU:=@Array.getElem?_eq_some_iff
def xaV:=@Nat.mul_le_mul_right
def xaW:=@Nat.eq_of_testBit_eq
def xaX:=@List.nodup_cons
def xaY:=@List.getElem?_append_left
def xaZ:=@Nat.shiftRight_eq_div_pow
def xa0:=@if_false
def xa1:=@Bool.or_eq_true
def xa2:=@and_true
def xa3:=@Nat.zero_add
def xa4:=@decide_eq_false_iff_not
def xa5:=@List.nodup_append
def xa6:=@Nat.one_shiftLeft
def xa7:=@if_true
def xa8:=@Bool.decide_or
def xa9:=@List.take_succ_eq_append_getElem
def xba:=@Ne.symm
def xbb:=@List.filter_cons
def xbc:=@List.drop_eq_getElem_cons
def xbd:=@List.mem_iff_getElem
def xbe:=@List.perm_append_comm
def xbf:=@Array.getElem?_toList
def xbg:=@List.ext_getElem?
def xbh:=@Int.toNat_natCast
def xbi:=@List.count_append
def xbj:=@Nat.testBit_and
def xbk:=@List.take_append_drop
def xbl:=@List.take_length
def xbm:=@Nat.mod_eq_of_lt
def xbn:=@List.nodup_range
def xbo:=@Nat.shiftRight_le
def xbp:=@Option.some.inj
def xbq:=@List.map_congr_left
def xbr:=@List.getElem?_set
def xbs:=@Nat.two_pow_pos
def xbt:=@Nat.pow_lt_pow_right
def xbu:=@List.getElem?_append_right
def xbv:=@Nat.mod_lt
def xbw:=@Nat.testBit_mod_two_pow
def xbx:=@Array.getElem?_eq_getElem
def xby:=@List.find?_cons
def xbz:=@List.length_take
def xbA:=@List.mem_cons_of_mem
def xbB:=@Nat.testBit_shiftRight
def xbC:=@Nat.succ_mul
def xbD:=@or_false
def xbE:=@Bool.not_eq_true'
def xbF:=@Nat.or_lt_two_pow
def xbG:=@Nat.le_trans
def xbH:=@List.take_add_one
def xbI:=@List.getElem?_set_ne
def xbJ:=@List.filter_append
def xbK:=@List.getElem?_set_self
def xbL:=@List.count_pos_iff
def xbM:=@Array.getElem?_setIfInBounds_self_of_lt
def xbN:=@Bool.eq_iff_iff
def xbO:=@List.length_filter_le
def xbP:=@List.length_singleton
def xbQ:=@Array.getElem?_setIfInBounds_ne
def xbR:=@Bool.true_and
def xbS:=@List.mem_cons_self
def xbT:=@List.length_set
def xbU:=@Nat.and_one_is_mod
def xbV:=@List.mem_filter
def xbW:=@List.eq_nil_of_length_eq_zero
def xbX:=@Nat.testBit_two_pow
def xbY:=@Array.getElem?_modify
def xbZ:=@List.Perm.append_left
def xb0:=@List.eq_of_mem_replicate
def xb1:=@Nat.testBit_or
def xb2:=@List.map_map
def xb3:=@List.set_append_right
def xb4:=@Nat.mul_one
def xb5:=@List.nil_append
def xb6:=@List.range_succ
def xb7:=@List.count_cons
def xb8:=@Nat.add_sub_cancel
def xb9:=@Nat.le_of_lt
def xca:=@Nat.testBit_lt_two_pow
def xcb:=@Nat.mul_le_mul
def xcc:=@List.pairwise_map
def xcd:=@of_decide_eq_true
def xce:=@Array.length_toList
def xcf:=@List.length_nil
def xcg:=@List.mem_or_eq_of_mem_set
def xch:=@Nat.and_le_left
def xci:=@Option.map_some
def xcj:=@congrArg
def xck:=@List.map_nil
def xcl:=@List.set_cons_zero
def xcm:=@Nat.mul_comm
def xcn:=@Nat.shiftLeft_eq
def xco:=@Bool.not_true
def xcp:=@Array.getElem?_setIfInBounds
def xcq:=@Bool.not_false
def xcr:=@List.flatten_append
def xcs:=@List.filter_eq_self
def xct:=@List.perm_iff_count
def xcu:=@Array.getElem?_eq_none
def xcv:=@Nat.add_zero
def xcw:=@List.any_eq_true
def xcx:=@decide_eq_decide
def xcy:=@List.find?_eq_none
def xcz:=@Classical.choose_spec
def xcA:=@List.eq_nil_iff_forall_not_mem
def xcB:=@Nat.min_eq_left
def xcC:=@List.mem_of_mem_take
def xcD:=@List.foldl_cons
def xcE:=@BitVec.ofInt_natCast
def xcF:=@Nat.sub_self
def xcG:=@List.count_singleton
def xcH:=@Nat.succ_le_of_lt
def xcI:=@Nat.lt_trichotomy
def xcJ:=@Nat.mul_assoc
def xcK:=@List.getElem?_cons_zero
def xcL:=@Nat.zero_testBit
def xcM:=@beq_iff_eq
def xcN:=@List.map_set
def xcO:=@Nat.testBit_two_pow_sub_one
def xcP:=@Nat.le_of_ble_eq_true
def xcQ:=@Nat.not_lt_zero
def xcR:=@Iff.rfl
def xcS:=@Nat.add_assoc
def xcT:=@true_and
def xcU:=@List.perm_ext_iff_of_nodup
def xcV:=@List.size_toArray
def xcW:=@List.flatten_cons
def xcX:=@Array.mem_toList_iff
def xcY:=@List.set_append_left
def xcZ:=@List.set_eq_take_append_cons_drop
def xc0:=@Array.getElem?_replicate
def xc1:=@List.all_eq_true
def xc2:=@Nat.sub_zero
def xc3:=@Nat.le_of_not_lt
def xc4:=@Nat.and_le_right
def xc5:=@Nat.testBit_eq_decide_div_mod_eq
def xc6:=@List.replicate_succ
def xc7:=@List.getElem?_range
def xc8:=@Nat.mul_le_mul_left
def xc9:=@List.length_pos_iff
def xda:=@List.length_eq_zero_iff
def xdb:=@Array.empty_append
def xdc:=@List.append_of_mem
def xdd:=@Int.natCast_nonneg
def xde:=@Array.ext'
def xdf:=@of_decide_eq_false
def xdg:=@List.filter_filter
def xdh:=@Array.getElem?_extract
def xdi:=@List.drop_eq_nil_of_le
def xdj:=@Nat.one_mul
def xdk:=@List.filter_eq_nil_iff
def xdl:=@List.take_of_length_le
def xdm:=@List.filter_congr
def xdn:=@List.foldl_append
def xdo:=@decide_false
def xdp:=@List.getElem?_toArray
def xdq:=@Nat.ne_of_gt
def xdr:=@Nat.div_eq_of_lt
def xds:=@Nat.min_eq_right
def xdt:=@Nat.sub_le
def xdu:=@Bool.or_false
def xdv:=@Bool.false_or
def xdw:=@Nat.pow_add
def xdx:=@Nat.mul_add
def xdy:=@Array.getElem?_push
def xdz:=@List.toList_toArray
def xdA:=@List.of_mem_zip
def xdB:=@Decidable.byContradiction
def xdC:=@Bool.decide_and
def xdD:=@List.mem_of_find?_eq_some
def xdE:=@Array.append_empty
def xdF:=@Option.isSome_iff_exists
def xdG:=@Nat.shiftRight_add
def xdH:=@List.count_eq_zero
def xdI:=@Bool.or_true
def xdJ:=@List.count_nil
def xdK:=@List.count_set
def xdL:=@Bool.and_false
def xdM:=@List.getElem?_replicate
def xdN:=@Nat.add_sub_cancel_left
def xdO:=@List.take_sublist
def xdP:=@Array.getElem?_setIfInBounds_self
def xdQ:=@Nat.add_mul
def xdR:=@Option.map_eq_some_iff
def xdS:=@Bool.and_true
def xdT:=@Prod.mk.injEq
def xdU:=@Array.toList_map
def xdV:=@Array.getElem?_append
def xdW:=@List.length_replicate
def xdX:=@List.eraseIdx_sublist
def xdY:=@Nat.testBit_shiftLeft
def xdZ:=@Array.toArray_toList
def xd0:=@List.getElem?_append
def xd1:=@Nat.div_lt_of_lt_mul
def xd2:=@Nat.zero_mul
def xd3:=@Nat.and_two_pow_sub_one_eq_mod
def xd4:=@Nat.pow_succ
def xd5:=@Nat.le_antisymm
def xd6:=@List.find?_eq_some_iff_append
def xd7:=@List.mapM_cons
def xd8:=@List.take_left
def xd9:=@Bool.false_and
def xea:=@Nat.testBit_two_pow_sub_succ
def xeb:=@dif_pos
def xec:=@List.dropLast_concat_getLast
def xed:=@List.set_cons_succ
def xee:=@Nat.pos_of_ne_zero
def xef:=@Nat.one_le_two_pow
def xeg:=@List.idxOf_lt_length_of_mem
def xeh:=@Array.toList_push
def xei:=@List.flatMap_cons
def xej:=@List.mem_range'_1
def xek:=@Classical.not_not
def xel:=@Bool.not_eq_true
def xem:=@Array.mem_filter
def xen:=@Option.bind_some
def xeo:=@beq_self_eq_true
def xep:=@Nat.lt_or_ge
def xeq:=@List.drop_length
def xer:=@Array.map_empty
def xes:=@List.forIn_cons
def xet:=@Nat.div_add_mod
def xeu:=@Int.natCast_inj
def xev:=@List.take_left'
def xew:=@List.find?_some
def xex:=@List.countP_map
def xey:=@List.map_id
abbrev zX:ByteArray:=ByteArray.mk #[0,1,2,2,3,3,3,3,4,4,4,4,4,4,4,4,5,5,5,5,5,5,5,5,5,5,5,5,5,5,5,5,6,6,6,6,6,6,6,6,6,6,6,6,6,6,6,6,6,6,6,6,6,6,6,6,6,6,6,6,6,6,6,6,7,7,7,7,7,7,7,7,7,7,7,7,7,7,7,7,7,7,7,7,7,7,7,7,7,7,7,7,7,7,7,7,7,7,7,7,7,7,7,7,7,7,7,7,7,7,7,7,7,7,7,7,7,7,7,7,7,7,7,7,7,7,7,7,8,8,8,8,8,8,8,8,8,8,8,8,8,8,8,8,8,8,8,8,8,8,8,8,8,8,8,8,8,8,8,8,8,8,8,8,8,8,8,8,8,8,8,8,8,8,8,8,8,8,8,8,8,8,8,8,8,8,8,8,8,8,8,8,8,8,8,8,8,8,8,8,8,8,8,8,8,8,8,8,8,8,8,8,8,8,8,8,8,8,8,8,8,8,8,8,8,8,8,8,8,8,8,8,8,8,8,8,8,8,8,8,8,8,8,8,8,8,8,8,8,8,8,8,8,8,8,8]
namespace Go.Sx
open Go
abbrev Hp:=List (Nat×Obj)
structure Gh where
 w:World
 fr:Hp
def Gh.add(g:Gh)(F:Hp):Gh:=⟨g.w,F++g.fr⟩
structure Own(g:Gh)(H:Hp)(w:World):Prop where
 os:w.os=g.w.os
 out:w.output=g.w.output
 tape:w.tape=g.w.tape
 nd:((H++g.fr).map Prod.fst).Nodup
 Bb:∀x,x∈H++g.fr->w.heap[x.1]? =some x.2
theorem Own.has{g:Gh}{H:Hp}{w:World}(h:Own g H w)(x:Nat×Obj)(hx:x∈H):w.heap[x.1]? =some x.2:=h.Bb x (xae _ hx)
theorem Own.perm{g:Gh}{H H':Hp}{w:World}(h:Own g H w)(p:H.Perm H'):Own g H' w:=
 ⟨h.os,h.out,h.tape,((p.append_right _).map _).nodup_iff.1 h.nd,λx hx=>h.Bb x ((p.append_right _).mem_iff.2 hx)⟩
theorem Own.right{g:Gh}{A B:Hp}{w:World}(h:Own g (A++B) w):Own g B w:=
 ⟨h.os,h.out,h.tape,by have:=h.nd;rw[xaj,xaJ]at this;exact(xa5.1 this).2.1,λx hx=>h.Bb x (by rw[xaj];exact xab _ hx)⟩
theorem Own.left{g:Gh}{A B:Hp}{w:World}(h:Own g (A++B) w):Own g A w:=Own.right (A:=B) (h.perm xbe)
theorem Own.tail{g:Gh}{x:Nat×Obj}{B:Hp}{w:World}(h:Own g (x::B) w):Own g B w:=Own.right (A:=[x]) h
theorem Own.fp{g:Gh}{A F:Hp}{w:World}:Own g (A++F) w↔Own (g.add F) A w:=by
 constructor
 ·intro h;exact⟨h.os,h.out,h.tape,by have:=h.nd;rw[xaj]at this;exact this,λx hx=>h.Bb x (by rw[xaj];exact hx)⟩
 intro h;exact⟨h.os,h.out,h.tape,by have:=h.nd;rw[xaj];exact this,λx hx=>h.Bb x (by rw[xaj]at hx;exact hx)⟩
def aL(H H':Hp):Prop:=∀g w,Own g H w->Own g H' w
theorem aL.refl(H:Hp):aL H H:=λ_ _ h=>h
theorem aL.trans{A B C:Hp}(h:aL A B)(h':aL B C):aL A C:=λg w x=>h' g w (h g w x)
theorem aL.perm{A B:Hp}(p:A.Perm B):aL A B:=λ_ _ h=>h.perm p
theorem aL.right{A B:Hp}:aL (A++B) B:=λ_ _ h=>h.right
theorem aL.left{A B:Hp}:aL (A++B) A:=λ_ _ h=>h.left
theorem aL.tail{x:Nat×Obj}{B:Hp}:aL (x::B) B:=λ_ _ h=>h.tail
theorem aL.frame{A B:Hp}(h:aL A B)(F:Hp):aL (A++F) (B++F):=λ_ _ o=>Own.fp.2 (h _ _ (Own.fp.1 o))
theorem aL.cU{A B:Hp}(h:aL A B)(F:Hp):aL (F++A) (F++B):=(aL.perm xbe).trans ((h.frame F).trans (.perm xbe))
inductive c8(b:Nat)(o o':Obj):Hp->Hp->Prop
 |head (R:Hp):c8 b o o' ((b,o)::R) ((b,o')::R)
 |tail {x:Nat×Obj} {R R':Hp} (h:c8 b o o' R R'):c8 b o o' (x::R) (x::R')
theorem c8.mem{b:Nat}{o o':Obj}{H H':Hp}(h:c8 b o o' H H'):(b,o)∈H:=by
 induction h with
 |head R=>simp
 |tail _ ih=>simp[ih]
theorem c8.keys{b:Nat}{o o':Obj}{H H':Hp}(h:c8 b o o' H H'):H'.map Prod.fst=H.map Prod.fst:=by
 induction h with
 |head R=>simp
 |tail _ ih=>simp[ih]
theorem c8.M6{b:Nat}{o o':Obj}{H H':Hp}(h:c8 b o o' H H')(nd:(H.map Prod.fst).Nodup):∀x∈H',x=(b,o')\/(x∈H/\x.1≠b):=by
 induction h with
 |head R=>
  intro x hx;rcases xam.1 hx with rfl|hx
  ·exact .inl rfl
  refine .inr ⟨by simp[hx],λe=>?_⟩;simp only[xaB,xaX]at nd;exact nd.1 (e▸xaT hx)
 | @tail y R R' h ih=>
  intro x hx;simp only[xaB,xaX]at nd;rcases xam.1 hx with rfl|hx
  ·refine .inr ⟨by simp,λe=>?_⟩;exact nd.1 (e▸xaT (f:=Prod.fst) h.mem)
  rcases ih nd.2 x hx with h1|h1
  ·exact .inl h1
  exact .inr ⟨by simp[h1.1],h1.2⟩
theorem c8.append{b:Nat}{o o':Obj}{C C':Hp}(h:c8 b o o' C C')(B:Hp):c8 b o o' (C++B) (C'++B):=by
 induction h with
 |head R=>exact .head _
 |tail _ ih=>exact .tail ih
theorem Own.br{g:Gh}{H H':Hp}{w w':World}{b:Nat}{o o':Obj}(h:Own g H w)(u:c8 b o o' H H')
 (hos:w'.os=w.os)(hout:w'.output=w.output)(Rx:w'.tape=w.tape)
 (hb:w'.heap[b]? =some o')(hr:∀c,c≠b->w'.heap[c]? =w.heap[c]?):Own g H' w':=
 ⟨hos.trans h.os,hout.trans h.out,Rx.trans h.tape,by rw[(u.append g.fr).keys];exact h.nd,λx hx=>by
  rcases(u.append g.fr).M6 h.nd x hx with rfl|⟨h1,h2⟩
  ·exact hb
  rw[hr _ h2];exact h.Bb x h1⟩
theorem Own.same{g:Gh}{H:Hp}{w w':World}(h:Own g H w)(hos:w'.os=w.os)(hout:w'.output=w.output)(Rx:w'.tape=w.tape)
 (hr:∀(c:Nat) (o:Obj),w.heap[c]? =some o->w'.heap[c]? =some o):Own g H w':=
 ⟨hos.trans h.os,hout.trans h.out,Rx.trans h.tape,h.nd,λx hx=>hr _ _ (h.Bb x hx)⟩
theorem Own.drew{g:Gh}{H:Hp}{w:World}(h:Own g H w):Own g H w.drew:=h.same rfl rfl rfl λ_ _ h=>h
theorem Own.zx{g:Gh}{H:Hp}{w:World}(h:Own g H w):Own g H {w with drawn:=w.drawn+1}:=h.drew
theorem Own.lt0{g:Gh}{H:Hp}{w:World}(h:Own g H w){x:Nat×Obj}(hx:x∈H++g.fr):x.1<w.heap.size:=by
 have:=h.Bb x hx;exact(xaU.1 this).1
theorem Own.lt{g:Gh}{H:Hp}{w:World}(h:Own g H w){x:Nat×Obj}(hx:x∈H):x.1<w.heap.size:=h.lt0 (xae _ hx)
theorem Own.SA{g:Gh}{H:Hp}{w:World}(h:Own g H w):w.heap.size∉(H++g.fr).map Prod.fst:=by
 intro hm;obtain⟨x,hx,e⟩:=xan.1 hm;have:=h.lt0 hx;omega
theorem Own.fresh{g:Gh}{H:Hp}{w:World}(h:Own g H w):w.heap.size∉H.map Prod.fst:=λhm=>h.SA (by rw[xaJ];exact xae _ hm)
theorem Own.alloc{g:Gh}{H:Hp}{w:World}(h:Own g H w)(o:Obj):Own g ((w.heap.size,o)::H) (w.alloc o):=by
 refine⟨h.os,h.out,h.tape,?_,?_⟩
 ·rw[xaR,xaB,xaX];exact⟨h.SA,h.nd⟩
 intro x hx;rw[xaR]at hx;rcases xam.1 hx with rfl|hx
 ·show(w.heap.push o)[w.heap.size]? =some o;rw[xdy,xad rfl]
 have:=h.Bb x hx;have hl:=h.lt0 hx;show(w.heap.push o)[x.1]? =some x.2;rw[xdy,xac zO];exact this
theorem Own.cell{g:Gh}{H:Hp}{w:World}(h:Own g H w){b:Nat}{c:Array zV}{T:TypeId}{fz:Nat×Nat}(hm:(b,Obj.cells c T fz)∈H)(off:Nat):
  w.cell? ⟨b,off,none⟩=c[off]? :=by
 have:=h.has _ hm;simp only[World.cell?];simp only at this;rw[this];rfl
theorem Own.frozen{g:Gh}{H:Hp}{w:World}(h:Own g H w){b:Nat}{c:Array zV}{T:TypeId}(hm:(b,Obj.cells c T zZ)∈H)(off:Nat)(sp:Option Nat):
  w.frozen? ⟨b,off,sp⟩=false:=by
 have:=h.has _ hm;simp only at this;simp[World.frozen?,this]
def jQ(c:Array zV)(off:Nat):List zV->Array zV
 | []=>c
 |v::r=>jQ (c.setIfInBounds off v) (off+1) r
theorem Own.setCell{g:Gh}{H:Hp}{w:World}(h:Own g H w){b:Nat}{c:Array zV}{T:TypeId}{fz:Nat×Nat}{H':Hp}(off:Nat)(v:zV)
 (u:c8 b (.cells c T fz) (.cells (c.setIfInBounds off v) T fz) H H'):Own g H' (w.setCell ⟨b,off,none⟩ v):=by
 refine h.br u rfl rfl rfl ?_ ?_
 ·have:=h.has _ u.mem;simp only at this;simp[World.setCell,xbY,this]
 intro d hd;simp only[World.setCell];rw[xbY,xac (λe=>hd (Eq.symm e))]
theorem c8.re{b:Nat}{o o':Obj}{H H':Hp}(u:c8 b o o' H H')(o₁:Obj):∃H₁,c8 b o o₁ H H₁/\c8 b o₁ o' H₁ H':=by
 induction u with
 |head R=>exact⟨_,.head R,.head R⟩
 |tail _ ih=>obtain⟨H₁,u1,u2⟩:=ih;exact⟨_,.tail u1,.tail u2⟩
theorem gn{P:Program}{g:Gh}{b:Nat}{T:TypeId}(off:Nat):∀(l:List zV) (i:Nat) (c:Array zV) (H H':Hp) (w:World),Own g H w->
  c8 b (.cells c T zZ) (.cells (jQ c (off+i) l) T zZ) H H'->(∀v∈l,v.oneCell'=true)->off+i+l.length<=c.size->
  ∃w',(storeCells ⟨b,off,none⟩ l i).run P w=.ok () w'/\Own g H' w'
 | [],i,c,H,H',w,h,u,_,_=>by
  refine⟨w,rfl,?_⟩;exact h.br u rfl rfl rfl (h.has _ u.mem) λ_ _=>rfl
 |v::r,i,c,H,H',w,h,u,h1,hs=>by
  obtain⟨H₁,u1,u2⟩:=u.re (.cells (c.setIfInBounds (off+i) v) T zZ);have ju:=h.setCell (off+i) v u1;simp only[xaH]at hs;obtain⟨w',hr,ho⟩:=gn (P:=P) off r (i+1) (c.setIfInBounds (off+i) v) H₁ H' _ ju (by simpa[jQ,xcS]using u2) (λx hx=>h1 x (by simp[hx])) zP;refine⟨w',?_,ho⟩;have hc:w.cell? ⟨b,off+i,none⟩=some c[off+i]:=by
   rw[h.cell u.mem,xbx]
  have hf:=h.frozen u.mem (off+i) none;have ha:Addr.add ⟨b,off,none⟩ i=⟨b,off+i,none⟩:=Addr.add_lit _ _ _;simp only[storeCells,Sem.run_bind,ha,run_store P w _ v .plain (h1 v zI),hc,hf,xaQ,xa0,Result.andThen_ok,hr]
theorem kA{P:Program}{g:Gh}{H:Hp}{w:World}(h:Own g H w){b:Nat}{c:Array zV}{T:TypeId}{fz:Nat×Nat}(hm:(b,Obj.cells c T fz)∈H)
 (off n:Nat)(hs:off+n<=c.size):(loadCells ⟨b,off,none⟩ n).run P w=.ok (c.extract off (off+n)) w:=by
 have hl:((c.extract off (off+n)).toList).length=n:=by simp;omega
 have:=run_loadCells_list (P:=P) w ⟨b,off,none⟩ (c.extract off (off+n)).toList (λj v hj=>by
  rw[Addr.add_lit,h.cell hm];have TW:j<n:=by
   have:=(xak.1 hj).1;omega
  rw[xbf,xdh]at hj;rw[xad zO]at hj;exact hj)
 rw[hl]at this;exact this
end Go.Sx
namespace Go.Sx
open Go
abbrev Fr:=Nat->zV
def br(fr:Fr)(d:Option Nat)(v:zV):Fr:=
 match d with
 |none=>fr
 |some d=>λs=>cond (Nat.beq s d) v (fr s)
def ev(fr:Fr):Operand->zV
 | .tmp t=>fr t
 | .const v=>v
 | .global g=>.pointer (some ⟨g,0,none⟩)
 | .func f=>.func (.func f) #[] #[]
def eL(n:Nat):Option Nat->Bool
 |none=>true
 |some d=>Nat.blt d n
structure cB(ds:List Deferred)(n:Nat)(a:Act)(fr:Fr):Prop where
 defers:a.defers=ds
 size:a.tmps.size=n
 get:∀s,a.tmps.getD s undef=fr s
theorem cB.eval{ds:List Deferred}{n:Nat}{a:Act}{fr:Fr}(h:cB ds n a fr):a.eval=ev fr:=by
 funext x
 cases x<;>simp only[Act.eval,ev];exact h.get _
theorem cB.put{ds:List Deferred}{n:Nat}{a:Act}{fr:Fr}(h:cB ds n a fr){d:Option Nat}(hd:eL n d=true)(v:zV):cB ds n (a.put d v) (br fr d v):=by
 cases d with
 |none=>exact h
 |some d=>
  have hlt:d<n:=by simpa[eL,Nat.blt_eq]using hd
  refine⟨h.defers,by simp[Act.put,h.size],λs=>?_⟩;simp only[Act.put,br];have hs:=h.size;by_cases e:s=d
  ·subst e;simp[hs,hlt]
  have e':d≠s:=λx=>e x.symm;have hb:Nat.beq s d=false:=by
   cases hh:Nat.beq s d
   ·rfl
   exact absurd (xaG hh) e
  rw[hb];simp only[xah];have:=h.get s;simpa[xat,xbQ e']using this
def bD(P:Program)(g:Gh)(f:FuncId)(args:Array zV)(H:Hp)(R:Ending->Hp->Prop):Prop:=
 ∀w,Own g H w->Calls P f args w λe w'=>∃H',Own g H' w'/\R e H'
theorem bD.mono{P:Program}{g:Gh}{f:FuncId}{args:Array zV}{H:Hp}{R R':Ending->Hp->Prop}(h:bD P g f args H R)(hr:∀e H',R e H'->R' e H'):
  bD P g f args H R':=λw hw=>(h w hw).mono λe w' ⟨H',o,r⟩=>⟨H',o,hr _ _ r⟩
theorem bD.pre{P:Program}{g:Gh}{f:FuncId}{args:Array zV}{H H':Hp}{R:Ending->Hp->Prop}(h:bD P g f args H' R)(he:aL H H'):
  bD P g f args H R:=λw hw=>h w (he _ _ hw)
theorem bD.post{P:Program}{g:Gh}{f:FuncId}{args:Array zV}{H:Hp}{R R':Ending->Hp->Prop}(h:bD P g f args H R)
 (hr:∀e H',R e H'->∃nB,aL H' nB/\R' e nB):bD P g f args H R':=λw hw=>(h w hw).mono λe w' ⟨H',o,r⟩=>
 let ⟨nB,en,r'⟩:=hr _ _ r;⟨nB,en _ _ o,r'⟩
def adK(K:zV->Hp->Prop)(KP:List PanicEntry->Hp->Prop):Ending->Hp->Prop
 | .returned v,H=>K v H
 | .panicked ch,H=>KP ch H
 | .outgrown,_=>False
def ou(P:Program)(g:Gh)(K:zV->Hp->Prop)(KP:List PanicEntry->Hp->Prop):Result Next->Prop
 | .ok (.value v) w=>∃H,Own g H w/\K v H
 | .ok .skip w=>∃H,Own g H w/\K undef H
 | .ok (.enter f args) w=>Calls P f args w λe w'=>∃H,Own g H w'/\adK K KP e H
 | .halt (.panic v) w=>∃H,Own g H w/\KP [{v,recovered:=false}] H
 |_=>False
def oq(P:Program)(g:Gh)(o:Oper)(ρ:Operand->zV)(H:Hp)(K:zV->Hp->Prop)(KP:List PanicEntry->Hp->Prop):Prop:=
 ∀w,Own g H w->ou P g K KP ((execOp ρ o).run P w)
def Ov(H:Hp)(o:Obj)(k:Nat->Hp->Prop):Prop:=∀b,b∉H.map Prod.fst->k b ((b,o)::H)
def aD(c a b:zV)(k:zV->Prop):Prop:=∃t,c=.bool t/\k (cond t a b)
def Ld(H:Hp)(p:zV)(k:zV->Prop):Prop:=
 ∃b off c T fz v,p=.pointer (some ⟨b,off,none⟩)/\(b,Obj.cells c T fz)∈H/\c[off]? =some v/\k v
def ax(n:Nat)(H:Hp)(p:zV)(k:zV->Prop):Prop:=
 ∃b off c T fz,p=.pointer (some ⟨b,off,none⟩)/\(b,Obj.cells c T fz)∈H/\off+n<=c.size/\k (.agg (c.extract off (off+n)))
def St(n:Nat)(H:Hp)(p x:zV)(k:Hp->Prop):Prop:=
 ∃b off c T H',p=.pointer (some ⟨b,off,none⟩)/\x.cells.size=n/\off+n<=c.size/\(∀v∈x.cells.toList,v.oneCell'=true)/\
  c8 b (.cells c T zZ) (.cells (jQ c off x.cells.toList) T zZ) H H'/\k H'
inductive BK|num|bool|ptr|slice|map|func|str|other
def Bs:TypeDesc->BK
 | .bool=>.bool
 | .int _=>.num
 | .pointer _=>.ptr
 | .slice _=>.slice
 | .map _ _=>.map
 | .func _ _ _=>.func
 | .string=>.str
 |_=>.other
def lT(op:BinOp)(k:IntKind)(a b:Int):Option zV:=
 match op with
 | .add=>some (.int k (k.wrap (a+b)))
 | .sub=>some (.int k (k.wrap (a-b)))
 | .mul=>some (.int k (k.wrap (a*b)))
 | .quo=>if b=0 then none else some (.int k (k.wrap (a.tdiv b)))
 | .rem=>if b=0 then none else some (.int k (a.tmod b))
 | .and=>some (.int k (bits .and k a b))
 | .or=>some (.int k (bits .or k a b))
 | .xor=>some (.int k (bits .xor k a b))
 | .andNot=>some (.int k (bits .andNot k a b))
 | .eql=>some (.bool (a==b))
 | .neq=>some (.bool (a !=b))
 | .lss=>some (.bool (decide (a<b)))
 | .leq=>some (.bool (decide (a<=b)))
 | .gtr=>some (.bool (decide (b<a)))
 | .geq=>some (.bool (decide (b<=a)))
 |_=>none
def gw(kd:BK)(op:BinOp)(x y:zV):Option zV:=
 match x with
 | .int k a=>
  match y with
  | .int k' b=>
   match op with
   | .shl=>if b<0 then none else some (.int k (k.wrap (a*2^(min b.toNat k.bits))))
   | .shr=>if b<0 then none else some (.int k (a.fdiv (2^(min b.toNat k.bits))))
   |op=>if k=k' then lT op k a b else none
  |_=>none
 | .bool a=>
  match kd,op,y with
  | .bool,.eql,.bool b=>some (.bool (a==b))
  | .bool,.neq,.bool b=>some (.bool (!(a==b)))
  |_,_,_=>none
 | .string a=>
  match op,y with
  | .eql,.string b=>some (.bool (a.toList==b.toList))
  | .neq,.string b=>some (.bool (!(a.toList==b.toList)))
  |_,_=>none
 | .pointer a=>
  match kd,op,y with
  | .ptr,.eql,.pointer b=>if a.isNone\/b.isNone then some (.bool (a.isNone&&b.isNone))else none
  | .ptr,.neq,.pointer b=>if a.isNone\/b.isNone then some (.bool (!(a.isNone&&b.isNone)))else none
  |_,_,_=>none
 | .slice a n c=>
  match kd,op,y with
  | .slice,.eql,.slice b _ _=>if a.isNone\/b.isNone then some (.bool (a.isNone&&b.isNone))else none
  | .slice,.neq,.slice b _ _=>if a.isNone\/b.isNone then some (.bool (!(a.isNone&&b.isNone)))else none
  |_,_,_=>none
 | .map a=>
  match kd,op,y with
  | .map,.eql,.map b=>if a.isNone\/b.isNone then some (.bool (a.isNone&&b.isNone))else none
  | .map,.neq,.map b=>if a.isNone\/b.isNone then some (.bool (!(a.isNone&&b.isNone)))else none
  |_,_,_=>none
 |_=>none
def ae(kd:BK)(op:BinOp)(x y:zV)(k:zV->Prop):Prop:=∃v,gw kd op x y=some v/\k v
def unV(op:UnOp)(x:zV):Option zV:=
 match op,x with
 | .neg,.int k n=>some (.int k (k.wrap (0-n)))
 | .not,.bool b=>some (.bool !b)
 | .xor,.int k n=>some (.int k (bits .xor k (if k.signed then-1 else k.max) n))
 |_,_=>none
def Un(op:UnOp)(x:zV)(k:zV->Prop):Prop:=∃v,unV op x=some v/\k v
def aV(kd:IntKind)(x:zV)(k:zV->Prop):Prop:=∃j n,x=.int j n/\k (.int kd (kd.wrap n))
def ai(off:Nat)(x:zV)(k:zV->Prop):Prop:=∃b o,x=.pointer (some ⟨b,o,none⟩)/\k (.pointer (some ⟨b,o+off,none⟩))
def An(off:Nat)(x:zV)(k:zV->Prop):Prop:=∃cs v,x=.agg cs/\cs[off]? =some v/\k v
def WV(off n:Nat)(x:zV)(k:zV->Prop):Prop:=∃cs,x=.agg cs/\k (.agg (cs.extract off (off+n)))
def au(size:Nat)(x ix:zV)(k:zV->Prop):Prop:=
 ∃b o n c kd i,x=.slice (some ⟨b,o,none⟩) n c/\ix=.int kd i/\0<=i/\i<(n:Int)/\k (.pointer (some ⟨b,o+i.toNat*size,none⟩))
def iY(len size:Nat)(x ix:zV)(k:zV->Prop):Prop:=
 ∃b o kd i,x=.pointer (some ⟨b,o,none⟩)/\ix=.int kd i/\0<=i/\i<(len:Int)/\k (.pointer (some ⟨b,o+i.toNat*size,none⟩))
def Vh:Option zV->Option Int
 |none=>some 0
 |some (.int _ n)=>some n
 |_=>none
def NA(len:Nat):Option zV->Option Int
 |none=>some len
 |some (.int _ n)=>some n
 |_=>none
def gy(size:Nat)(x:zV)(lo hi:Option zV)(k:zV->Prop):Prop:=
 ∃a n c l h,x=.slice a n c/\Vh lo=some l/\NA n hi=some h/\0<=l/\l<=h/\h<=(c:Int)/\
  k (.slice (if c=l.toNat then a else a.map (·.add (l.toNat*size))) (h.toNat-l.toNat) (c-l.toNat))
def Ext(i:Nat)(x:zV)(k:zV->Prop):Prop:=∃vs v,x=.tuple vs/\vs[i]? =some v/\k v
def aR(x:zV)(k:zV->Prop):Prop:=∃a n c,x=.slice a n c/\k (.int .i64 n)
def By(H:Hp)(x:zV)(k:zV->Prop):Prop:=
 ∃m,x=.map m/\((m=none/\k (.int .i64 0))\/∃b es clock,m=some b/\(b,Obj.map es clock)∈H/\k (.int .i64 es.size))
def Cells(H:Hp)(base:Option Addr)(n:Nat)(cs:Array zV):Prop:=
 match base with
 |none=>cs=#[]
 |some a=>(n=0/\cs=#[])\/(a.spot=none/\∃c T fz,(a.block,Obj.cells c T fz)∈H/\a.off+n<=c.size/\cs=c.extract a.off (a.off+n))
def App(P:Program)(elem size bytes:Nat)(zero:zV)(H:Hp)(s x:zV)(k:zV->Hp->Prop):Prop:=
 ∃base n cap xb m xc olds news,s=.slice base n cap/\x=.slice xb m xc/\Cells H base (n*size) olds/\Cells H xb (m*size) news/\
  news.size=m*size/\olds.size=n*size/\(∀v∈news.toList,v.oneCell'=true)/\
  (n+m<=cap->match base with
   |none=>k (.slice none (n+m) cap) H
   |some a=>∃c T H',a.spot=none/\a.off+n*size+m*size<=c.size/\c8 a.block (.cells c T zZ) (.cells (jQ c (a.off+n*size) news.toList) T zZ) H H'/\k (.slice (some a) (n+m) cap) H')/\
  (cap<n+m->(n+m)*bytes<=140737488355328/\(n+m:Nat)<=9223372036854775807/\∀gu,n+m<=gu->
   Ov H (.cells (olds++news++Builtin.zeroCells zero.cells (gu-(n+m))) elem zZ) λb H'=>∃nB,aL H' nB/\k (.slice (some ⟨b,0,none⟩) (n+m) gu) nB)
def cW(elem size bytes:Nat)(zero:zV)(H:Hp)(l c:zV)(k:zV->Hp->Prop):Prop:=
 ∃kl kc ln cn,l=.int kl (ln:Nat)/\c=.int kc (cn:Nat)/\ln<=cn/\(cn:Int)<=9223372036854775807/\cn*bytes<=281474976710656/\
  Ov H (.cells (madeCells zero.cells (cn*size)) elem zZ) λb H'=>k (.slice (some ⟨b,0,none⟩) ln cn) H'
def gH(H:Hp)(k:zV->Hp->Prop):Prop:=Ov H (.map #[] 0) λb H'=>k (.map (some b)) H'
def L3(H:Hp)(m:zV)(es:Array MapEntry):Prop:=(m=.map none/\es=#[])\/∃b clock,m=.map (some b)/\(b,Obj.map es clock)∈H
def c6(kd:TypeDesc)(zero:zV)(ok:Bool)(H:Hp)(m key:zV)(k:zV->Prop):Prop:=
 ∃es r,L3 H m es/\Instr.findNow kd key es.toList 0=some r/\
  k (match r with
   |some (_,v)=>cond ok (.tuple #[v,.bool true]) v
   |none=>cond ok (.tuple #[zero,.bool false]) zero)
def aW(kd:TypeDesc)(H:Hp)(m key val:zV)(k:Hp->Prop):Prop:=
 ∃b es clock r,m=.map (some b)/\Instr.findNow kd key es.toList 0=some r/\
  match r with
  |some (i,_)=>(∀e,es[i]? =some e->Instr.sameBits 10000 e.key key=true)/\i<es.size/\∃H',c8 b (.map es clock) (.map (es.modify i λe=>{e with key,val}) clock) H H'/\k H'
  |none=>∃H',c8 b (.map es clock) (.map (es.push {key,val,born:=clock}) (clock+1)) H H'/\k H'
def ot(kd:TypeDesc)(H:Hp)(m key:zV)(k:Hp->Prop):Prop:=
 (m=.map none/\k H)\/∃b es clock r,m=.map (some b)/\Instr.findNow kd key es.toList 0=some r/\
  match r with
  |some (i,_)=>∃H',c8 b (.map es clock) (.map (es.eraseIdxIfInBounds i) clock) H H'/\k H'
  |none=>(b,Obj.map es clock)∈H/\k H
def aU(P:Program)(f:FuncId):Bool:=
 match P.funcs[f]? with
 |none=>false
 |some fn=> !(fn.name== "runtime.NumGoroutine") &&fn.body.isSome
def aa(P:Program)(g:Gh)(f:FuncId)(args:Array zV)(H:Hp)(K:zV->Hp->Prop)(KP:List PanicEntry->Hp->Prop):Prop:=
 bD P g f args H (adK K KP)
def aK(P:Program)(g:Gh)(fv:zV)(args:Array zV)(H:Hp)(K:zV->Hp->Prop)(KP:List PanicEntry->Hp->Prop):Prop:=
 ∃f first captured,fv=.func (.func f) first captured/\aU P f=true/\aa P g f (first++args++captured) H K KP
def BA(P:Program)(kt:TypeId)(x y:zV)(b:Bool):Prop:=∀w,(Op.equal kt x y).run P w=.ok b w
def mu(P:Program)(kt:TypeId)(x:zV):Prop:=∀e w,(Instr.checkKey e 10000 kt x).run P w=.ok () w
def nk(P:Program)(kt:TypeId)(key:zV):List MapEntry->Nat->Option (Nat×zV)->Prop
 | [],_,r=>r=none
 |e::es,i,r=>∃b,BA P kt key e.key b/\(b=true->r=some (i,e.val))/\(b=false->nk P kt key es (i+1) r)
def jW(P:Program)(kt:TypeId)(zero:zV)(ok:Bool)(H:Hp)(m key:zV)(k:zV->Prop):Prop:=
 ∃es r,L3 H m es/\mu P kt key/\nk P kt key es.toList 0 r/\
  k (match r with
   |some (_,v)=>cond ok (.tuple #[v,.bool true]) v
   |none=>cond ok (.tuple #[zero,.bool false]) zero)
def iL(P:Program)(kt:TypeId)(H:Hp)(m key val:zV)(k:Hp->Prop):Prop:=
 ∃b es clock r,m=.map (some b)/\mu P kt key/\nk P kt key es.toList 0 r/\
  match r with
  |some (i,_)=>(∀e,es[i]? =some e->Instr.sameBits 10000 e.key key=true)/\i<es.size/\∃H',c8 b (.map es clock) (.map (es.modify i λe=>{e with key,val}) clock) H H'/\k H'
  |none=>∃H',c8 b (.map es clock) (.map (es.push {key,val,born:=clock}) (clock+1)) H H'/\k H'
def r7(P:Program)(kt:TypeId)(H:Hp)(m key:zV)(k:Hp->Prop):Prop:=
 mu P kt key/\((m=.map none/\k H)\/∃b es clock r,m=.map (some b)/\nk P kt key es.toList 0 r/\
  match r with
  |some (i,_)=>∃H',c8 b (.map es clock) (.map (es.eraseIdxIfInBounds i) clock) H H'/\k H'
  |none=>(b,Obj.map es clock)∈H/\k H)
def Z5(H:Hp)(x:zV)(k:zV->Hp->Prop):Prop:=
 (x=.map none/\Ov H (.mapIter none 0 #[] 0) λb H'=>k (.pointer (some ⟨b,0,none⟩)) H')\/
 ∃m es clock,x=.map (some m)/\(m,Obj.map es clock)∈H/\Ov H (.mapIter (some m) clock #[] clock) λb H'=>k (.pointer (some ⟨b,0,none⟩)) H'
def XW(H:Hp)(it:zV)(k:zV->Hp->Prop):Prop:=
 ∃b mo since seen last,it=.pointer (some ⟨b,0,none⟩)/\(b,Obj.mapIter mo since seen last)∈H/\
  match mo with
  |none=>k (.tuple #[.bool false]) H
  |some m=>∃es clock,(m,Obj.map es clock)∈H/\(∀e∈es.toList,e.born<since/\e.born<last)/\
   (∀e∈es.toList,e.born∉seen->∃H',c8 b (.mapIter (some m) since seen last) (.mapIter (some m) since (seen.push e.born) clock) H H'/\k (.tuple #[.bool true,e.key,e.val]) H')/\
   ((∀e∈es.toList,e.born∈seen)->k (.tuple #[.bool false]) H)
def Ku(H:Hp)(it:zV)(k:zV->Prop):Prop:=
 ∃b m since seen stamp clock es e,it=.pointer (some ⟨b,0,none⟩)/\(b,Obj.mapIter (some m) since seen clock)∈H/\seen.back?=some stamp/\(m,Obj.map es clock)∈H/\es.find? (·.born==stamp)=some e/\k (.tuple #[e.key,e.val])
def WS(x y:zV)(k:zV->Prop):Prop:=∃kd a b,x=.int kd a/\y=.int kd b/\k (.int kd (if b>a then b else a))
def Z7(x y:zV)(k:zV->Prop):Prop:=∃kd a b,x=.int kd a/\y=.int kd b/\k (.int kd (if b<a then b else a))
def kY(H:Hp)(x:zV)(k:zV->Prop):Prop:=
 ∃base n c,∃bs:List UInt8,x=.slice base n c/\Cells H base n ((bs.map λb=>Value.int .u8 b.toNat).toArray)/\bs.length=n/\k (.string ⟨bs.toArray⟩)
def XV(x i:zV)(k:zV->Prop):Prop:=∃s kd j b,x=.string s/\i=.int kd j/\0<=j/\s[j.toNat]? =some b/\k (.int .u8 b.toNat)
def Z8(x:zV)(k:zV->Prop):Prop:=∃s,x=.string s/\k (.int .i64 s.size)
def plainKey:TypeDesc->Bool
 | .int _| .string| .bool=>true
 |_=>false
def cR:TypeDesc->Bool
 | .struct _| .array _ _=>true
 |_=>false
end Go.Sx
namespace Go.Sx
open Go
section
variable {P:Program} {g:Gh} {H:Hp} {K:zV->Hp->Prop} {KP:List PanicEntry->Hp->Prop}
theorem dU{t:TypeId}{i:TypeInfo}{z:zV}(hi:P.info? t=some i)(hz:i.zero=some z)(w:World):(zeroValue t).run P w=.ok z w:=by
 simp[zeroValue,typeInfo,hi,hz]
theorem oD{t:TypeId}{d:TypeDesc}(hd:P.underlying t=some d)(w:World):(isAgg t).run P w=.ok (cR d) w:=by
 simp only[isAgg,Sem.run_bind,run_underlying hd,Result.andThen_ok];cases d<;>rfl
theorem run_sizeOf{t:TypeId}{i:TypeInfo}(hi:P.info? t=some i)(w:World):(sizeOf t).run P w=.ok i.size w:=by
 simp[sizeOf,typeInfo,hi]
theorem Ld.run{p:zV}{k:zV->Prop}(h:Ld H p k){w:World}(hw:Own g H w){t:TypeId}{d:TypeDesc}(hd:P.underlying t=some d)(ha:cR d=false):
  ∃v,(Instr.loadAt t p).run P w=.ok v w/\k v:=by
 obtain⟨b,off,c,T,fz,v,rfl,hm,hc,hk⟩:=h;refine⟨v,?_,hk⟩;have:=hw.cell hm off;rw[hc]at this;simp only[Instr.loadAt,Instr.sureAddr,loadVar,Sem.run_bind,Sem.run_pure,Result.andThen_ok,oD hd,ha,Sem.run_ite,xaQ,xa0,run_load,this]
theorem ax.run{n:Nat}{p:zV}{k:zV->Prop}(h:ax n H p k){w:World}(hw:Own g H w){t:TypeId}{d:TypeDesc}(hd:P.underlying t=some d)(ha:cR d=true)
 {i:TypeInfo}(hi:P.info? t=some i)(hn:i.size=n):
  ∃v,(Instr.loadAt t p).run P w=.ok v w/\k v:=by
 obtain⟨b,off,c,T,fz,rfl,hm,hs,hk⟩:=h;refine⟨_,?_,hk⟩;simp only[Instr.loadAt,Instr.sureAddr,loadVar,Sem.run_bind,Sem.run_pure,Result.andThen_ok,oD hd,ha,Sem.run_ite,xa7,run_sizeOf hi,hn,kA hw hm off n hs]
theorem St.run{n:Nat}{p x:zV}{k:Hp->Prop}(h:St n H p x k){w:World}(hw:Own g H w){t:TypeId}{i:TypeInfo}(hi:P.info? t=some i)(hn:i.size=n):
  ∃w' H',(Instr.storeAt t p x).run P w=.ok () w'/\Own g H' w'/\k H':=by
 obtain⟨b,off,c,T,H',rfl,hx,hs,hv,hu,hk⟩:=h;obtain⟨w',hr,ho⟩:=gn (P:=P) off x.cells.toList 0 c H H' w hw (by simpa using hu) hv zP;refine⟨w',H',?_,ho,hk⟩;simp only[Instr.storeAt,Instr.sureAddr,storeVar,Sem.run_bind,Sem.run_pure,Result.andThen_ok,run_sizeOf hi,hn,hx,ne_eq,not_true,xa0,hr]
theorem Rj{op:BinOp}{k:IntKind}{a b:Int}{v:zV}{t:TypeId}(h:lT op k a b=some v)(w:World)(hs:op≠.shl/\op≠.shr):
  (binOp op t (.int k a) (.int k b)).run P w=.ok v w:=by
 cases op<;>simp[lT]at h hs<;>try subst h
 case quo=> 
  obtain⟨h0,rfl⟩:=h;simp[binOp,Op.intDiv,h0]
 case rem=>
  obtain⟨h0,rfl⟩:=h;simp[binOp,Op.intDiv,h0]
 all_goals first
  |simp[binOp,Op.intArith];done
  |simp[binOp,Op.intCmp];done
  |(simp only[binOp_and,binOp_or,binOp_xor,binOp_andNot,intBits_and,intBits_or,intBits_xor,intBits_andNot];rfl)
theorem jm{t:TypeId}{x y:zV}{r:Result Bool}{w:World}(h:∀d,(Op.equalIn (d+1) t x y).run P w=r):(Op.equal t x y).run P w=r:=h 9999
theorem run_eql_bool{t:TypeId}(hd:P.underlying t=some .bool)(a b:Bool)(w:World):(Op.equal t (.bool a) (.bool b)).run P w=.ok (a==b) w:=
 jm λd=>by simp[Op.equalIn,run_underlying hd]
theorem Cq{t e:TypeId}(hd:P.underlying t=some (.pointer e))(a b:Option Addr)(hab:a.isNone\/b.isNone)(w:World):(Op.equal t (.pointer a) (.pointer b)).run P w=.ok (a.isNone&&b.isNone) w:=
 jm λd=>by cases a<;>cases b<;>simp at hab<;>simp[Op.equalIn,run_underlying hd]
theorem xQ{t e:TypeId}(hd:P.underlying t=some (.slice e))(a b:Option Addr)(n c n' c':Nat)(hab:a.isNone\/b.isNone)(w:World):(Op.equal t (.slice a n c) (.slice b n' c')).run P w=.ok (a.isNone&&b.isNone) w:=
 jm λd=>by cases a<;>cases b<;>simp at hab<;>simp[Op.equalIn,run_underlying hd]
theorem Cr{t e f:TypeId}(hd:P.underlying t=some (.map e f))(a b:Option Nat)(hab:a.isNone\/b.isNone)(w:World):(Op.equal t (.map a) (.map b)).run P w=.ok (a.isNone&&b.isNone) w:=
 jm λd=>by cases a<;>cases b<;>simp at hab<;>simp[Op.equalIn,run_underlying hd]
theorem Td{kd:BK}{op:BinOp}{x y v:zV}{t:TypeId}{d:TypeDesc}(hd:P.underlying t=some d)(hk:Bs d=kd)(h:gw kd op x y=some v)(w:World):
  (binOp op t x y).run P w=.ok v w:=by
 cases x<;>simp only[gw]at h<;>try (simp at h;done)
 case int k a=>
  cases y<;>simp only at h<;>try (simp at h;done)
  rename_i k' b;by_cases hs:op=.shl
  ·subst hs;simp only at h;split at h
   ·simp at h
   simp only[xas]at h;subst h;rename_i hb;simp[binOp,Op.shift,hb]
  by_cases hs':op=.shr
  ·subst hs';simp only at h;split at h
   ·simp at h
   simp only[xas]at h;subst h;rename_i hb;simp[binOp,Op.shift,hb]
  have h2:(if k=k' then lT op k a b else none)=some v:=by
   cases op<;>first|exact h|exact absurd rfl hs|exact absurd rfl hs'
  split at h2
  ·rename_i e;subst e;exact Rj h2 w ⟨hs,hs'⟩
  simp at h2
 case bool a=>
  split at h<;>simp only[xas,reduceCtorEq]at h;all_goals
   subst h;have:d=.bool:=by cases d<;>simp_all[Bs]
   subst this;simp[binOp,run_eql_bool hd]
 case string a=>
  split at h<;>simp only[xas,reduceCtorEq]at h;all_goals
   subst h;first|rfl|(simp only[binOp,Op.stringOp];rfl)
 case pointer a=>
  split at h<;>try (simp at h;done)
  all_goals
   have:∃e,d=.pointer e:=by cases d<;>simp_all[Bs]
   obtain⟨e,rfl⟩:=this;split at h<;>simp only[xas,reduceCtorEq]at h;subst h;rename_i bb hab;simp[binOp,Cq hd _ _ hab]
 case slice a n c=>
  split at h<;>try (simp at h;done)
  all_goals
   have:∃e,d=.slice e:=by cases d<;>simp_all[Bs]
   obtain⟨e,rfl⟩:=this;split at h<;>simp only[xas,reduceCtorEq]at h;subst h;rename_i bb _ _ hab;simp[binOp,xQ hd _ _ _ _ _ _ hab]
 case map a=>
  split at h<;>try (simp at h;done)
  all_goals
   have:∃e f,d=.map e f:=by cases d<;>simp_all[Bs]
   obtain⟨e,f,rfl⟩:=this;split at h<;>simp only[xas,reduceCtorEq]at h;subst h;rename_i bb hab;simp[binOp,Cr hd _ _ hab]
theorem GD{kd:BK}{op:BinOp}{x y v:zV}{t:TypeId}{ox oy:Operand}(h:gw kd op x y=some v):eqGuard op t ox oy x y=pure ():=by
 cases x<;>simp[gw]at h<;>cases op<;>rfl
theorem ae.run{kd:BK}{op:BinOp}{x y:zV}{k:zV->Prop}(h:ae kd op x y k)(w:World){t:TypeId}{d:TypeDesc}{ox oy:Operand}(hd:P.underlying t=some d)(hk:Bs d=kd):
  ∃v,(do eqGuard op t ox oy x y;binOp op t x y:Sem zV).run P w=.ok v w/\k v:=by
 obtain⟨v,hv,hkv⟩:=h;refine⟨v,?_,hkv⟩;rw[Sem.run_bind,GD hv];simp only[Sem.run_pure,Result.andThen_ok];exact Td hd hk hv w
theorem Un.run{op:UnOp}{x:zV}{k:zV->Prop}(h:Un op x k)(w:World):∃v,(Op.unary op x).run P w=.ok v w/\k v:=by
 obtain⟨v,hv,hk⟩:=h;refine⟨v,?_,hk⟩;cases op<;>cases x<;>simp[unV]at hv<;>subst hv;all_goals first|(simp[Op.unary,Op.intArith];done)|rfl
theorem aV.run{kd:IntKind}{x:zV}{k:zV->Prop}(h:aV kd x k)(w:World){src dst:TypeId}{ds dd:TypeDesc}(hs:P.underlying src=some ds)(hd:P.underlying dst=some dd)(hk:dd=.int kd):
  ∃v,(convert src dst x).run P w=.ok v w/\k v:=by
 obtain⟨j,n,rfl,hkv⟩:=h;subst hk;refine⟨_,?_,hkv⟩;simp only[convert,Sem.run_bind,run_underlying hs,run_underlying hd,Result.andThen_ok];cases ds<;>rfl
theorem ai.run{off:Nat}{x:zV}{k:zV->Prop}(h:ai off x k)(w:World){s:TypeId}{fs:Array Field}{f:Nat}{fl:Field}{i:TypeInfo}(hs:P.underlying s=some (.struct fs))(hf:fs[f]? =some fl)
 (hi:P.info? fl.type=some i)(h0:i.size≠0)(ho:fl.offset=off):∃v,(Instr.fieldAt s x f).run P w=.ok v w/\k v:=by
 obtain⟨b,o,rfl,hk⟩:=h;refine⟨_,?_,hk⟩;subst ho;simp[Instr.fieldAt,run_underlying hs,hf,Instr.sureAddr,fieldPlace,run_sizeOf hi,h0,Addr.add_lit]
theorem An.run{off:Nat}{x:zV}{k:zV->Prop}(h:An off x k)(w:World){s:TypeId}{fs:Array Field}{f:Nat}{fl:Field}{d:TypeDesc}(hs:P.underlying s=some (.struct fs))(hf:fs[f]? =some fl)
 (hd:P.underlying fl.type=some d)(ha:cR d=false)(ho:fl.offset=off):∃v,(Instr.field s x f).run P w=.ok v w/\k v:=by
 obtain⟨cs,v,rfl,hc,hk⟩:=h;refine⟨v,?_,hk⟩;subst ho;simp[Instr.field,run_underlying hs,hf,asAgg,part,oD hd,ha,hc]
theorem WV.run{off n:Nat}{x:zV}{k:zV->Prop}(h:WV off n x k)(w:World){s:TypeId}{fs:Array Field}{f:Nat}{fl:Field}{d:TypeDesc}{i:TypeInfo}(hs:P.underlying s=some (.struct fs))(hf:fs[f]? =some fl)
 (hd:P.underlying fl.type=some d)(ha:cR d=true)(hi:P.info? fl.type=some i)(hn:i.size=n)(ho:fl.offset=off):∃v,(Instr.field s x f).run P w=.ok v w/\k v:=by
 obtain⟨cs,rfl,hk⟩:=h;refine⟨_,?_,hk⟩;subst ho;subst hn;simp[Instr.field,run_underlying hs,hf,asAgg,part,oD hd,ha,run_sizeOf hi]
theorem au.run{size:Nat}{x ix:zV}{k:zV->Prop}(h:au size x ix k)(w:World){t e:TypeId}{i:TypeInfo}(ht:P.underlying t=some (.slice e))(hi:P.info? e=some i)(hn:i.size=size):
  ∃v,(Instr.indexAt t x ix).run P w=.ok v w/\k v:=by
 obtain⟨b,o,n,c,kd,j,rfl,rfl,h0,h1,hk⟩:=h;refine⟨_,?_,hk⟩;subst hn;simp[Instr.indexAt,run_underlying ht,asIntOf,h0,h1,run_sizeOf hi,Addr.add_lit]
theorem iY.run{len size:Nat}{x ix:zV}{k:zV->Prop}(h:iY len size x ix k)(w:World){t e:TypeId}{i:TypeInfo}(ht:P.underlying t=some (.array len e))(hi:P.info? e=some i)(hn:i.size=size):
  ∃v,(Instr.indexAt t x ix).run P w=.ok v w/\k v:=by
 obtain⟨b,o,kd,j,rfl,rfl,h0,h1,hk⟩:=h;refine⟨_,?_,hk⟩;subst hn;simp[Instr.indexAt,run_underlying ht,asIntOf,h0,h1,run_sizeOf hi,Addr.add_lit,Instr.sureAddr]
theorem gy.run{size:Nat}{x:zV}{lo hi:Option zV}{k:zV->Prop}(h:gy size x lo hi k)(w:World){t e:TypeId}{i:TypeInfo}(ht:P.underlying t=some (.slice e))(hi':P.info? e=some i)(hn:i.size=size):
  ∃v,(Instr.sliceAt t x lo hi none).run P w=.ok v w/\k v:=by
 obtain⟨a,n,c,l,hh,rfl,hl,pJ,h0,h1,h2,hk⟩:=h;refine⟨_,?_,hk⟩;subst hn;have bl:∀(kk:IntKind) (z:Int) (y:Nat) (cd:BoundsCode),0<=z->z<=y->(Instr.sliceBound (.int kk z) y cd).run P w=.ok z.toNat w:=by
  intro kk z y cd a1 a2;simp[Instr.sliceBound,asIntOf,a1,a2]
 have fP:∀(m l:Nat),(if m=l then a else a.map (·.add (l*i.size)))=(if m=l then a else a.map λx=>x.add (l*i.size)):=λ_ _=>rfl;have e1:l<=((hh.toNat:Nat):Int):=by omega
 cases lo with
 |none=>
  simp only[Vh,xas]at hl;subst hl;cases hi with
  |none=>
   simp only[NA,xas]at pJ;subst pJ;simp[Instr.sliceAt,run_underlying ht,Instr.slice,Instr.sliceBounds,run_sizeOf hi']
  |some v=>
   cases v<;>simp only[NA,reduceCtorEq,xas]at pJ;subst pJ;simp[Instr.sliceAt,run_underlying ht,Instr.slice,Instr.sliceBounds,run_sizeOf hi',bl _ _ c .sliceAcap zO h2]
 |some vl=>
  cases vl<;>simp only[Vh,reduceCtorEq,xas]at hl;subst hl;cases hi with
  |none=>
   simp only[NA,xas]at pJ;subst pJ;have:=bl ‹_› _ n .sliceB h0 h1;simp[Instr.sliceAt,run_underlying ht,Instr.slice,Instr.sliceBounds,run_sizeOf hi',this]
  |some v=>
   cases v<;>simp only[NA,reduceCtorEq,xas]at pJ;subst pJ;rename_i k1 n1 k2 n2;have b1:=bl k2 n2 c .sliceAcap zO h2;have b2:=bl k1 n1 n2.toNat .sliceB h0 zO;simp[Instr.sliceAt,run_underlying ht,Instr.slice,Instr.sliceBounds,run_sizeOf hi',b1,b2]
theorem Ext.run{i:Nat}{x:zV}{k:zV->Prop}(h:Ext i x k)(w:World):∃v,(Instr.extract x i).run P w=.ok v w/\k v:=by
 obtain⟨vs,v,rfl,hv,hk⟩:=h;exact⟨v,by simp[Instr.extract,hv],hk⟩
theorem aR.run{x:zV}{k:zV->Prop}(h:aR x k)(w:World){t e ty:TypeId}(ht:P.underlying t=some (.slice e)):∃v,(Builtin.len_ #[t] ty #[x]).run P w=.ok v w/\k v:=by
 obtain⟨a,n,c,rfl,hk⟩:=h;exact⟨_,by simp[Builtin.len_,run_underlying ht,goInt],hk⟩
theorem aY{w:World}(hw:Own g H w){b:Nat}{es:Array MapEntry}{clock:Nat}(hm:(b,Obj.map es clock)∈H):(getObj b).run P w=.ok (.map es clock) w:=by
 have:=hw.has _ hm;simp only at this;simp[getObj,Sem.run,this]
theorem By.run{x:zV}{k:zV->Prop}(h:By H x k){w:World}(hw:Own g H w){t e e' ty:TypeId}(ht:P.underlying t=some (.map e e')):∃v,(Builtin.len_ #[t] ty #[x]).run P w=.ok v w/\k v:=by
 obtain⟨m,rfl,⟨rfl,hk⟩|⟨b,es,clock,rfl,hm,hk⟩⟩:=h
 ·exact⟨_,by simp[Builtin.len_,run_underlying ht,goInt],hk⟩
 exact⟨_,by simp[Builtin.len_,run_underlying ht,goInt,aY hw hm],hk⟩
end
end Go.Sx
namespace Go.Sx
open Go
section
variable {P:Program} {g:Gh} {H:Hp} {K:zV->Hp->Prop} {KP:List PanicEntry->Hp->Prop}
theorem Cells.run{w:World}(hw:Own g H w){base:Option Addr}{size n cap:Nat}{cs:Array zV}(h:Cells H base (n*size) cs):
  (Builtin.firstCells size n (.slice base n cap)).run P w=.ok cs w:=by
 cases base with
 |none=>simp only[Cells]at h;subst h;simp[Builtin.firstCells]
 |some a=>
  rcases h with⟨hn,rfl⟩|⟨h0,c,T,fz,hm,hs,rfl⟩
  ·simp only[Builtin.firstCells,hn];rfl
  obtain⟨b,o,sp⟩:=a;simp only at h0 hm hs;subst h0;simp only[Builtin.firstCells,kA hw hm _ _ hs]
theorem App.run{elem size bytes:Nat}{zero:zV}{s x:zV}{k:zV->Hp->Prop}(h:App P elem size bytes zero H s x k){w:World}(hw:Own g H w){t t' ty:TypeId}{i:TypeInfo}
 (ht:P.underlying t=some (.slice elem))(ht':∃e,P.underlying t'=some (.slice e))(hi:P.info? elem=some i)(hz:i.zero=some zero)(hn:i.size=size)(hb:i.bytes=bytes):
  ∃v w' H',(Builtin.append_ #[t,t'] ty #[s,x]).run P w=.ok v w'/\Own g H' w'/\k v H':=by
 obtain⟨base,n,cap,xb,m,xc,olds,news,rfl,rfl,hco,XH,VH,hso,hone,hfit,hgrow⟩:=h;obtain⟨e',ht'⟩:=ht';subst hn;subst hb;by_cases hc:n+m<=cap
 ·have hk:=hfit hc;have hnew:=Cells.run (P:=P) (cap:=xc) hw XH;cases base with
  |none=>
   refine⟨_,w,H,?_,hw,hk⟩;simp[Builtin.append_,run_underlying ht,run_underlying ht',run_sizeOf hi,Builtin.lenOf,hc,hnew]
  |some a=>
   obtain⟨c,T,H',h0,hs,hu,hk⟩:=hk;obtain⟨b,o,sp⟩:=a;simp only at h0 hu hs;subst h0;obtain⟨w',hr,ho⟩:=gn (P:=P) (o+n*i.size) news.toList 0 c H H' w hw (by simpa using hu) hone zP;refine⟨_,w',H',?_,ho,hk⟩;simp[Builtin.append_,run_underlying ht,run_underlying ht',run_sizeOf hi,Builtin.lenOf,hc,hnew,Addr.add_lit,hr]
 obtain⟨agv,h63,hk⟩:=hgrow zO;have ju:=hw.drew;have hnew:=Cells.run (P:=P) (cap:=xc) ju XH;have hold:=Cells.run (P:=P) (cap:=cap) ju hco;have A6:Builtin.nextslicecap (n+m) cap*i.bytes<=281474976710656:=growslice_fits zO agv;have Wf:¬(281474976710656<Builtin.nextslicecap (n+m) cap*i.bytes):=by omega
 have ag6:¬(9223372036854775807<((n:Int)+(m:Int))):=by omega
 obtain⟨nB,wh,hkk⟩:=hk (grownCap w (n+m) cap elem) (by simp only[grownCap,Question.cut];omega) _ ju.fresh;refine⟨_,_,_,?_,wh _ _ (ju.alloc _),hkk⟩;simp[Builtin.append_,run_underlying ht,run_underlying ht',sizeOf,typeInfo,zeroValue,hi,hz,Builtin.lenOf,hc,ag6,Wf,Question.forced,hnew,hold,newRow,grownCap]
theorem cW.run{elem size bytes:Nat}{zero:zV}{l c:zV}{k:zV->Hp->Prop}(h:cW elem size bytes zero H l c k){w:World}(hw:Own g H w){t:TypeId}{i:TypeInfo}
 (ht:P.underlying t=some (.slice elem))(hi:P.info? elem=some i)(hz:i.zero=some zero)(hn:i.size=size)(hb:i.bytes=bytes):
  ∃v w' H',(Instr.makeSlice t l c).run P w=.ok v w'/\Own g H' w'/\k v H':=by
 obtain⟨kl,kc,ln,cn,rfl,rfl,hlc,cJ,hby,hk⟩:=h;subst hn;subst hb;refine⟨_,_,_,?_,hw.alloc _,hk _ hw.fresh⟩;have e1:IntKind.i64.wrap (ln:Int)=ln:=IntWalk.i64_in _ zO;have e2:IntKind.i64.wrap (cn:Int)=cn:=IntWalk.i64_in _ zO;have e3:¬((i.bytes:Int)*(cn:Int)>281474976710656):=by
  have:((cn*i.bytes:Nat):Int)<=281474976710656:=by omega
  rw[Int.mul_comm];push_cast at this;omega
 have e4:¬((cn:Int)<ln):=by omega
 by_cases h0:cn*i.size=0
 ·simp[Instr.makeSlice,run_underlying ht,asInt,asIntOf,typeInfo,hi,e1,e2,e3,e4,sizeOf,zeroValue,hz,newRow,madeCells,h0,show¬((cn:Int)<0)from by omega,show¬((ln:Int)<0)from by omega];have:Array.range 0=#[]:=rfl;simp[this]
 simp[Instr.makeSlice,run_underlying ht,asInt,asIntOf,typeInfo,hi,e1,e2,e3,e4,sizeOf,zeroValue,hz,newRow,madeCells,h0,show¬((cn:Int)<0)from by omega,show¬((ln:Int)<0)from by omega]
theorem L3.run{m:zV}{es:Array MapEntry}(h:L3 H m es){w:World}(hw:Own g H w):
  (m=.map none/\es=#[])\/∃b clock,m=.map (some b)/\(getObj b).run P w=.ok (.map es clock) w:=by
 rcases h with h|⟨b,clock,hm,hb⟩
 ·exact .inl h
 exact .inr ⟨b,clock,hm,aY hw hb⟩
theorem run_checkKey(e:Bool){t:TypeId}{d:TypeDesc}(hd:P.underlying t=some d)(hp:plainKey d=true)(v:zV)(w:World):(Instr.checkKey e 10000 t v).run P w=.ok () w:=by
 have:∀n,(Instr.checkKey e (n+1) t v).run P w=.ok () w:=λn=>by
  simp only[Instr.checkKey,Sem.run_bind,run_underlying hd,Result.andThen_ok];cases d<;>first|(simp[plainKey]at hp;done)|rfl
 exact this 9999
theorem run_findKey{t:TypeId}{d:TypeDesc}(hd:P.underlying t=some d){key:zV}{es:List MapEntry}{r:Option (Nat×zV)}(h:Instr.findNow d key es 0=some r)(w:World):
  (Instr.findKey t key es).run P w=.ok r w:=by
 simp[Instr.findKey,run_underlying hd,h]
theorem c6.run{kd:TypeDesc}{zero:zV}{ok:Bool}{m key:zV}{k:zV->Prop}(h:c6 kd zero ok H m key k){w:World}(hw:Own g H w){t kt e:TypeId}{i:TypeInfo}
 (ht:P.underlying t=some (.map kt e))(hk:P.underlying kt=some kd)(hp:plainKey kd=true)(hi:P.info? e=some i)(hz:i.zero=some zero):
  ∃v,(Instr.lookup t m key ok).run P w=.ok v w/\k v:=by
 obtain⟨es,r,hm,hf,hkv⟩:=h;have fI:=λb=>run_checkKey (P:=P) b hk hp key w;have pn:=run_findKey (P:=P) hk hf w;refine⟨_,?_,hkv⟩;rcases hm.run (P:=P) hw with⟨rfl,rfl⟩|⟨b,clock,rfl,hg⟩
 ·cases r with
  |none=>cases ok<;>simp[Instr.lookup,run_underlying ht,fI,pn,dU hi hz]
  |some x=>obtain⟨j,v⟩:=x;cases ok<;>simp[Instr.lookup,run_underlying ht,fI,pn]
 ·cases r with
  |none=>cases ok<;>simp[Instr.lookup,run_underlying ht,fI,pn,dU hi hz,hg]
  |some x=>obtain⟨j,v⟩:=x;cases ok<;>simp[Instr.lookup,run_underlying ht,fI,pn,hg]
theorem bT{w:World}(hw:Own g H w){b:Nat}{es:Array MapEntry}{clock:Nat}(es':Array MapEntry)(clock':Nat){H':Hp}(hu:c8 b (.map es clock) (.map es' clock') H H'):
  ∃w',(setObj b (.map es' clock')).run P w=.ok () w'/\Own g H' w':=by
 have hm:=hw.has _ hu.mem;simp only at hm;refine⟨{w with heap:=w.heap.setIfInBounds b (.map es' clock')},by simp[setObj,Sem.run,hm],?_⟩;have hlt:=hw.lt hu.mem;refine hw.br hu rfl rfl rfl ?_ ?_
 ·simp only at hlt;simp[hlt]
 intro c hc;rw[xcp,xac (λe=>hc (Eq.symm e))]
theorem aW.run{kd:TypeDesc}{m key val:zV}{k:Hp->Prop}(h:aW kd H m key val k){w:World}(hw:Own g H w){t kt e:TypeId}
 (ht:P.underlying t=some (.map kt e))(hk:P.underlying kt=some kd)(hp:plainKey kd=true):
  ∃w' H',(Instr.mapUpdate t m key val).run P w=.ok () w'/\Own g H' w'/\k H':=by
 obtain⟨b,es,clock,r,rfl,hf,hr⟩:=h;have fI:=λb=>run_checkKey (P:=P) b hk hp key w;have pn:=run_findKey (P:=P) hk hf w;cases r with
 |none=>
  obtain⟨H',hu,hkk⟩:=hr;obtain⟨w',hs,ho⟩:=bT (P:=P) hw _ _ hu;refine⟨w',H',?_,ho,hkk⟩;simp[Instr.mapUpdate,run_underlying ht,aY hw hu.mem,fI,pn,hs]
 |some x=>
  obtain⟨j,v⟩:=x;obtain⟨hsame,hj,H',hu,hkk⟩:=hr;obtain⟨w',hs,ho⟩:=bT (P:=P) hw _ _ hu;refine⟨w',H',?_,ho,hkk⟩;have hsb:=hsame es[j] (xbx hj);simp[Instr.mapUpdate,run_underlying ht,aY hw hu.mem,fI,pn,hj,Instr.keyThatStays,hsb,hs]
theorem ot.run{kd:TypeDesc}{m key:zV}{k:Hp->Prop}(h:ot kd H m key k){w:World}(hw:Own g H w){t kt e ty:TypeId}{as:Array TypeId}(has:as[0]? =some t)
 (ht:P.underlying t=some (.map kt e))(hk:P.underlying kt=some kd)(hp:plainKey kd=true):
  ∃w' H',(Builtin.delete_ as ty #[m,key]).run P w=.ok (.tuple #[]) w'/\Own g H' w'/\k H':=by
 have fI:=λb=>run_checkKey (P:=P) b hk hp key w;rcases h with⟨rfl,hkk⟩|⟨b,es,clock,r,rfl,hf,hr⟩
 ·exact⟨w,H,by simp[Builtin.delete_,has,run_underlying ht,fI],hw,hkk⟩
 have pn:=run_findKey (P:=P) hk hf w;cases r with
 |none=>
  obtain⟨hm,hkk⟩:=hr;have hu:∃H',c8 b (.map es clock) (.map es clock) H H'/\H'=H:=by
   clear hkk hf pn hw;induction H with
   |nil=>simp at hm
   |cons x R ih=>
    rcases xam.1 hm with e|hm'
    ·subst e;exact⟨_,.head _,rfl⟩
    obtain⟨H',u,rfl⟩:=ih hm';exact⟨_,.tail u,rfl⟩
  obtain⟨H',hu,rfl⟩:=hu;obtain⟨w',hs,ho⟩:=bT (P:=P) hw _ _ hu;exact⟨w',_,by simp[Builtin.delete_,has,run_underlying ht,aY hw hm,fI,pn,hs],ho,hkk⟩
 |some x=>
  obtain⟨j,v⟩:=x;obtain⟨H',hu,hkk⟩:=hr;obtain⟨w',hs,ho⟩:=bT (P:=P) hw _ _ hu;exact⟨w',_,by simp[Builtin.delete_,has,run_underlying ht,aY hw hu.mem,fI,pn,hs],ho,hkk⟩
theorem DS{kd:TypeDesc}(h:cR kd=true)(key:zV)(es:List MapEntry)(i:Nat):Instr.findNow kd key es i=if es=[]then some none else none:=by
 cases es with
 |nil=>rfl
 |cons e r=>
  simp only[Instr.findNow,reduceCtorEq,xa0];cases kd<;>simp[cR]at h<;>rfl
theorem nL{kt:TypeId}{key:zV}:∀{es:List MapEntry} {i:Nat} {r:Option (Nat×zV)},nk P kt key es i r->∀w,(Instr.findAsking kt key es i).run P w=.ok r w
 | [],i,r,h,w=>by simp only[nk]at h;subst h;rfl
 |e::es,i,r,h,w=>by
  obtain⟨b,he,h1,h2⟩:=h;simp only[Instr.findAsking,Sem.run_bind,he w,Result.andThen_ok];cases b
  ·simp only[xaQ,xa0];exact nL (h2 rfl) w
  simp only[xa7,h1 rfl,Sem.run_pure]
theorem gL{t:TypeId}{d:TypeDesc}(hd:P.underlying t=some d)(ha:cR d=true){key:zV}{es:List MapEntry}{r:Option (Nat×zV)}(h:nk P t key es 0 r)(w:World):
  (Instr.findKey t key es).run P w=.ok r w:=by
 simp only[Instr.findKey,Sem.run_bind,run_underlying hd,Result.andThen_ok,DS ha];cases es with
 |nil=>simp only[nk]at h;subst h;simp
 |cons e es=>simp only[reduceCtorEq,xa0];exact nL h w
theorem jW.run{zero:zV}{ok:Bool}{m key:zV}{k:zV->Prop}{t kt e:TypeId}{kd:TypeDesc}(h:jW P kt zero ok H m key k){w:World}(hw:Own g H w){i:TypeInfo}
 (ht:P.underlying t=some (.map kt e))(hk:P.underlying kt=some kd)(hp:cR kd=true)(hi:P.info? e=some i)(hz:i.zero=some zero):
  ∃v,(Instr.lookup t m key ok).run P w=.ok v w/\k v:=by
 obtain⟨es,r,hm,hc,hf,hkv⟩:=h;have fI:=λb=>hc b w;have pn:=gL (P:=P) hk hp hf w;refine⟨_,?_,hkv⟩;rcases hm.run (P:=P) hw with⟨rfl,rfl⟩|⟨b,clock,rfl,hg⟩
 ·cases r with
  |none=>cases ok<;>simp[Instr.lookup,run_underlying ht,fI,pn,dU hi hz]
  |some x=>obtain⟨j,v⟩:=x;cases ok<;>simp[Instr.lookup,run_underlying ht,fI,pn]
 ·cases r with
  |none=>cases ok<;>simp[Instr.lookup,run_underlying ht,fI,pn,dU hi hz,hg]
  |some x=>obtain⟨j,v⟩:=x;cases ok<;>simp[Instr.lookup,run_underlying ht,fI,pn,hg]
theorem iL.run{m key val:zV}{k:Hp->Prop}{t kt e:TypeId}{kd:TypeDesc}(h:iL P kt H m key val k){w:World}(hw:Own g H w)
 (ht:P.underlying t=some (.map kt e))(hk:P.underlying kt=some kd)(hp:cR kd=true):
  ∃w' H',(Instr.mapUpdate t m key val).run P w=.ok () w'/\Own g H' w'/\k H':=by
 obtain⟨b,es,clock,r,rfl,hc,hf,hr⟩:=h;have fI:=λb=>hc b w;have pn:=gL (P:=P) hk hp hf w;cases r with
 |none=>
  obtain⟨H',hu,hkk⟩:=hr;obtain⟨w',hs,ho⟩:=bT (P:=P) hw _ _ hu;refine⟨w',H',?_,ho,hkk⟩;simp[Instr.mapUpdate,run_underlying ht,aY hw hu.mem,fI,pn,hs]
 |some x=>
  obtain⟨j,v⟩:=x;obtain⟨hsame,hj,H',hu,hkk⟩:=hr;obtain⟨w',hs,ho⟩:=bT (P:=P) hw _ _ hu;refine⟨w',H',?_,ho,hkk⟩;have hsb:=hsame es[j] (xbx hj);simp[Instr.mapUpdate,run_underlying ht,aY hw hu.mem,fI,pn,hj,Instr.keyThatStays,hsb,hs]
theorem c8.same{b:Nat}{o:Obj}{H:Hp}(hm:(b,o)∈H):c8 b o o H H:=by
 induction H with
 |nil=>simp at hm
 |cons x R ih=>
  rcases xam.1 hm with e|hm'
  ·subst e;exact .head _
  exact .tail (ih hm')
theorem r7.run{m key:zV}{k:Hp->Prop}{t kt e ty:TypeId}{kd:TypeDesc}{as:Array TypeId}(h:r7 P kt H m key k){w:World}(hw:Own g H w)(has:as[0]? =some t)
 (ht:P.underlying t=some (.map kt e))(hk:P.underlying kt=some kd)(hp:cR kd=true):
  ∃w' H',(Builtin.delete_ as ty #[m,key]).run P w=.ok (.tuple #[]) w'/\Own g H' w'/\k H':=by
 obtain⟨hc,h⟩:=h;have fI:=λb=>hc b w;rcases h with⟨rfl,hkk⟩|⟨b,es,clock,r,rfl,hf,hr⟩
 ·exact⟨w,H,by simp[Builtin.delete_,has,run_underlying ht,fI],hw,hkk⟩
 have pn:=gL (P:=P) hk hp hf w;cases r with
 |none=>
  obtain⟨hm,hkk⟩:=hr;obtain⟨w',hs,ho⟩:=bT (P:=P) hw _ _ (c8.same hm);exact⟨w',_,by simp[Builtin.delete_,has,run_underlying ht,aY hw hm,fI,pn,hs],ho,hkk⟩
 |some x=>
  obtain⟨j,v⟩:=x;obtain⟨H',hu,hkk⟩:=hr;obtain⟨w',hs,ho⟩:=bT (P:=P) hw _ _ hu;exact⟨w',_,by simp[Builtin.delete_,has,run_underlying ht,aY hw hu.mem,fI,pn,hs],ho,hkk⟩
theorem Z5.run{x:zV}{k:zV->Hp->Prop}(h:Z5 H x k){w:World}(hw:Own g H w){t kt e:TypeId}(ht:P.underlying t=some (.map kt e)):
  ∃v w' H',(Instr.range t x).run P w=.ok v w'/\Own g H' w'/\k v H':=by
 rcases h with⟨rfl,hk⟩|⟨m,es,clock,rfl,hm,hk⟩
 ·refine⟨_,_,_,?_,hw.alloc _,hk _ hw.fresh⟩;simp[Instr.range,run_underlying ht]
 refine⟨_,_,_,?_,hw.alloc _,hk _ hw.fresh⟩;simp[Instr.range,run_underlying ht,aY hw hm]
theorem m8{w:World}(hw:Own g H w){b:Nat}{mo:Option Nat}{since last:Nat}{seen:Array Nat}(hm:(b,Obj.mapIter mo since seen last)∈H):(getObj b).run P w=.ok (.mapIter mo since seen last) w:=by
 have:=hw.has _ hm;simp only at this;simp[getObj,Sem.run,this]
theorem tY{w:World}(hw:Own g H w){b:Nat}{mo mo':Option Nat}{since last since' last':Nat}{seen seen':Array Nat}{H':Hp}(hu:c8 b (.mapIter mo since seen last) (.mapIter mo' since' seen' last') H H'):
  ∃w',(setObj b (.mapIter mo' since' seen' last')).run P w=.ok () w'/\Own g H' w':=by
 have hm:=hw.has _ hu.mem;simp only at hm;refine⟨{w with heap:=w.heap.setIfInBounds b (.mapIter mo' since' seen' last')},by simp[setObj,Sem.run,hm],?_⟩;have hlt:=hw.lt hu.mem;refine hw.br hu rfl rfl rfl ?_ ?_
 ·simp only at hlt;simp[hlt]
 intro c hc;rw[xcp,xac (λe=>hc (Eq.symm e))]
theorem Ku.run{it:zV}{k:zV->Prop}(h:Ku H it k){w:World}(hw:Own g H w):∃v,(Instr.entry it).run P w=.ok v w/\k v:=by
 obtain⟨b,m,since,seen,stamp,clock,es,e,rfl,hb,hs,hm,hf,hk⟩:=h;refine⟨_,?_,hk⟩;simp[Instr.entry,m8 (P:=P) hw hb,hs,aY (P:=P) hw hm,hf]
theorem tZ(n:Nat)(hn:0<n){w:World}:∃i w',(choose (.mapNext n)).run P w=.ok i w'/\i<n/\(w'=w\/w'=w.drew):=by
 by_cases h:n<=1
 ·exact⟨0,w,by simp[choose,Sem.run,Question.forced,h],hn,.inl rfl⟩
 exact⟨_,_,by simp only[choose,Sem.run,Question.forced,h,xdo,xaQ,xa0];rfl,xbv _ hn,.inr rfl⟩
theorem XW.run{it:zV}{k:zV->Hp->Prop}(h:XW H it k){w:World}(hw:Own g H w){ty:TypeId}:
  ∃v w' H',(Instr.next it false ty).run P w=.ok v w'/\Own g H' w'/\k v H':=by
 obtain⟨b,mo,since,seen,last,rfl,hb,h⟩:=h;have hgi:=m8 (P:=P) hw hb;cases mo with
 |none=>exact⟨_,w,H,by simp[Instr.next,hgi],hw,h⟩
 |some m=>
  obtain⟨es,clock,hm,R6,Dx,abU⟩:=h;have hgm:=aY (P:=P) hw hm;have ab6:(!seen.isEmpty&& !es.isEmpty&&es.all (λe=>decide (e.born≥last)))=false:=by
   cases he:es.isEmpty
   ·have hne:es≠#[]:=by intro e;rw[e]at he;simp at he
    have:es.all (λe=>decide (e.born≥last))=false:=by
     rw[<-xel,Array.all_eq_true];intro aI;have h0:0<es.size:=Array.size_pos_iff.2 hne;have:=aI 0 h0;have h2:=(R6 es[0] zI).2;simp only[ge_iff_le,xar]at this;omega
    rw[this];simp
   simp
  have hold:((es.filter λe=> !seen.contains e.born).filter λe=>decide (e.born<since))=es.filter λe=> !seen.contains e.born:=by
   rw[Array.filter_eq_self];intro e he;have:=(xem.1 he).1;exact xal (R6 e (by simpa using this)).1
  have hnew:((es.filter λe=> !seen.contains e.born).filter λe=>decide (e.born≥since))=#[]:=by
   rw[Array.filter_eq_empty_iff];intro e he;have:=(xem.1 he).1;have:=(R6 e (by simpa using this)).1;simp only[ge_iff_le,xar];omega
  generalize hleft:(es.filter λe=> !seen.contains e.born)=left at hold hnew;have hrun:∀(rest:Sem zV),(Instr.next (.pointer (some ⟨b,0,none⟩)) false ty).run P w=((choose (.mapNext (((if left.isEmpty then#[none]else#[])++left.map some).size))).run P w).andThen λi w=>(Sem.run P (match((if left.isEmpty then#[none]else#[])++left.map some)[i]? with
    |some (some e)=>do setObj b (.mapIter (some m) since (seen.push e.born) clock);pure (.tuple #[.bool true,e.key,e.val])
    |some none=>pure (.tuple #[.bool false])
    |none=>stuck "Next: no such candidate" :Sem zV) w):=by
   intro _;simp only[Instr.next,Sem.run_bind,hgi,Result.andThen_ok,hgm,ab6,xaQ,xa0,hleft,hold,hnew,xdE,Sem.run_pure];rfl
  rw[hrun (pure undef)];by_cases Zq:left=#[]
  ·subst Zq;simp only[Array.isEmpty_empty,xa7,xer,xdE];refine⟨_,w,H,?_,hw,abU λe he=>?_⟩
   ·simp[choose,Sem.run,Question.forced]
   have:=Array.filter_eq_empty_iff.1 hleft e (by simpa using he);simpa using this
  have hne:left.isEmpty=false:=by simpa using Zq
  have hpos:0<left.size:=Array.size_pos_iff.2 Zq;simp only[hne,xaQ,xa0,xdb,Array.size_map];obtain⟨i,w1,hc,hi,ju⟩:=tZ (P:=P) (w:=w) left.size hpos;rw[hc];simp only[Result.andThen_ok];have gT:(left.map some)[i]? =some (some left[i]):=by simp[hi]
  simp only[gT];have hmem:left[i]∈es.filter λe=> !seen.contains e.born:=by rw[hleft];exact Array.getElem_mem hi
  obtain⟨Gc,XC⟩:=xem.1 hmem;obtain⟨H',hu,hk⟩:=Dx left[i] (by simpa using Gc) (by simpa using XC);have x5:Own g H w1:=by rcases ju with rfl|rfl;exact hw;exact hw.drew
  obtain⟨w2,hs,r9⟩:=tY (P:=P) x5 hu;exact⟨_,w2,H',by simp[hs],r9,hk⟩
end
end Go.Sx
namespace Go.Sx
open Go
section
variable {P:Program} {g:Gh} {H:Hp} {K:zV->Hp->Prop} {KP:List PanicEntry->Hp->Prop}
def adG(x:zV):Option zV:=
 match x with
 | .pointer (some a)=>some (.pointer (some a))
 | .func (.func f) a b=>some (.func (.func f) a b)
 | .iface t v=>some (.iface t v)
 |_=>none
def Nil(x:zV)(k:zV->Prop):Prop:=∃v,adG x=some v/\k v
def PMk(fn:Fn)(a b:List zV)(k:zV->Prop):Prop:=k (.func fn a.toArray b.toArray)
def Build(P:Program)(t:TypeId)(parts:List (Nat×zV))(k:zV->Prop):Prop:=∃v,(∀w,(Instr.build t parts.toArray).run P w=.ok v w)/\k v
def m7(P:Program)(g:Gh)(o:Oper)(ρ:Operand->zV)(H:Hp)(k:zV->Prop):Prop:=
 ∃v,(∀w,Own g H w->(execOp ρ o).run P w=.ok (.value v) w)/\k v
def dO(P:Program)(t:TypeId):Option Nat:=match P.info? t with|some i=>some i.size|none=>none
def fS(P:Program)(t:TypeId):Option zV:=match P.info? t with|some i=>i.zero|none=>none
def wO(P:Program)(t:TypeId):Option Nat:=match P.info? t with|some i=>some i.bytes|none=>none
def AS(P:Program)(g:Gh)(o:Oper)(ρ:Operand->zV)(H:Hp)(k:zV->Prop):Prop:=
 match o.op with
 | .move x=>k (ρ x)
 | .assign x=>k (ρ x)
 | .pick c a b=>aD (ρ c) (ρ a) (ρ b) k
 | .load t a=>
  match P.underlying t,dO P t with
  |some d,some n=>cond (cR d) (ax n H (ρ a) k) (Ld H (ρ a) k)
  |_,_=>False
 | .nilCheck x=>Nil (ρ x) k
 | .binOp op t x y _=>
  match P.underlying t with
  |some d=>match Bs d with
   | .other=>m7 P g o ρ H k
   |bk=>ae bk op (ρ x) (ρ y) k
  |none=>False
 | .unOp op _ x=>Un op (ρ x) k
 | .convert s d x=>
  match P.underlying s,P.underlying d with
  |some _,some (.int kd)=>aV kd (ρ x) k
  |some (.slice e),some .string=>match P.underlying e with
   |some (.int .u8)=>kY H (ρ x) k
   |_=>m7 P g o ρ H k
  |_,_=>m7 P g o ρ H k
 | .index t x i=>
  match P.underlying t with
  |some .string=>XV (ρ x) (ρ i) k
  |_=>m7 P g o ρ H k
 | .fieldAddr s x f=>
  match P.underlying s with
  |some (.struct fs)=>match fs[f]? with
   |some fl=>match dO P fl.type with
    |some (_+1)=>ai fl.offset (ρ x) k
    |_=>False
   |none=>False
  |_=>False
 | .field s x f=>
  match P.underlying s with
  |some (.struct fs)=>match fs[f]? with
   |some fl=>match P.underlying fl.type,dO P fl.type with
    |some d,some n=>cond (cR d) (WV fl.offset n (ρ x) k) (An fl.offset (ρ x) k)
    |_,_=>False
   |none=>False
  |_=>False
 | .indexAddr t x i=>
  match P.underlying t with
  |some (.slice e)=>match dO P e with
   |some n=>au n (ρ x) (ρ i) k
   |none=>False
  |some (.array len e)=>match dO P e with
   |some n=>iY len n (ρ x) (ρ i) k
   |none=>False
  |_=>False
 | .slice t x lo hi none=>
  match P.underlying t with
  |some (.slice e)=>match dO P e with
   |some n=>gy n (ρ x) (lo.map ρ) (hi.map ρ) k
   |none=>False
  |_=>m7 P g o ρ H k
 | .extract t i=>Ext i (ρ t) k
 | .lookup t m key ok=>
  match P.underlying t with
  |some (.map kt e)=>match P.underlying kt,fS P e with
   |some kd,some z=>cond (plainKey kd) (c6 kd z ok H (ρ m) (ρ key) k) (cond (cR kd) (jW P kt z ok H (ρ m) (ρ key) k) (m7 P g o ρ H k))
   |_,_=>False
  |_=>False
 | .makeFunc fn a b=>PMk fn (a.toList.map ρ) (b.toList.map ρ) k
 | .build t parts=>Build P t (parts.toList.map λp=>(p.1,ρ p.2)) k
 | .makeInterface t x=>
  match P.underlying t with
  |some (.interface _)=>False
  |some _=>k (.iface t (ρ x))
  |none=>False
 | .call c=>
  match c.callee with
  | .builtin .len=>
   match c.args.toList,c.argTypes.toList with
   | [x],[t]=>match P.underlying t with
    |some (.slice _)=>aR (ρ x) k
    |some (.map _ _)=>By H (ρ x) k
    |some .string=>Z8 (ρ x) k
    |_=>m7 P g o ρ H k
   |_,_=>False
  | .builtin .max=>match c.args.toList,c.argTypes.toList with
   | [x,y],[t,_]=>match P.underlying t with
    |some (.int _)=>WS (ρ x) (ρ y) k
    |_=>m7 P g o ρ H k
   |_,_=>m7 P g o ρ H k
  | .builtin .min=>match c.args.toList,c.argTypes.toList with
   | [x,y],[t,_]=>match P.underlying t with
    |some (.int _)=>Z7 (ρ x) (ρ y) k
    |_=>m7 P g o ρ H k
   |_,_=>m7 P g o ρ H k
  | .builtin _=>m7 P g o ρ H k
  |_=>False
 |_=>m7 P g o ρ H k
theorem mapList{α β:Type}(f:α->β)(a:Array α):(a.toList.map f).toArray=a.map f:=by rw[<-xdU,xdZ]
theorem adD{α:Type}{a:Array α}{x:α}(h:a.toList=[x]):a=#[x]:=by cases a;simp_all
theorem Eh{α:Type}{a:Array α}{x y:α}(h:a.toList=[x,y]):a=#[x,y]:=by cases a;simp_all
theorem Ld.fix{p:zV}{k:zV->Prop}(h:Ld H p k):∃v,k v/\Ld H p (· =v):=by
 obtain⟨b,off,c,T,fz,v,h1,h2,h3,hk⟩:=h;exact⟨v,hk,b,off,c,T,fz,v,h1,h2,h3,rfl⟩
theorem ax.fix{n:Nat}{p:zV}{k:zV->Prop}(h:ax n H p k):∃v,k v/\ax n H p (· =v):=by
 obtain⟨b,off,c,T,fz,h1,h2,h3,hk⟩:=h;exact⟨_,hk,b,off,c,T,fz,h1,h2,h3,rfl⟩
theorem c6.fix{kd:TypeDesc}{zero:zV}{ok:Bool}{m key:zV}{k:zV->Prop}(h:c6 kd zero ok H m key k):∃v,k v/\c6 kd zero ok H m key (· =v):=by
 obtain⟨es,r,h1,h2,hk⟩:=h;exact⟨_,hk,es,r,h1,h2,rfl⟩
theorem By.fix{x:zV}{k:zV->Prop}(h:By H x k):∃v,k v/\By H x (· =v):=by
 obtain⟨m,h1,⟨h2,hk⟩|⟨b,es,clock,h2,h3,hk⟩⟩:=h
 ·exact⟨_,hk,m,h1,.inl ⟨h2,rfl⟩⟩
 exact⟨_,hk,m,h1,.inr ⟨b,es,clock,h2,h3,rfl⟩⟩
theorem jW.fix{kt:TypeId}{zero:zV}{ok:Bool}{m key:zV}{k:zV->Prop}(h:jW P kt zero ok H m key k):∃v,k v/\jW P kt zero ok H m key (· =v):=by
 obtain⟨es,r,h1,h2,h3,hk⟩:=h;exact⟨_,hk,es,r,h1,h2,h3,rfl⟩
theorem GA{F:zV->ByteArray->Sem (ForInStep ByteArray)}(hF:∀(b:UInt8) s,F (.int .u8 b.toNat) s=pure (.yield (s.push b))){l:List UInt8}(s:ByteArray)(w:World):
  (forIn (l.map λb=>Value.int .u8 b.toNat) s F).run P w=.ok (⟨s.data++l.toArray⟩:ByteArray) w:=by
 induction l generalizing s with
 |nil=>simp
 |cons b r ih=>
  simp only[xaB,xes,hF,Sem.run_bind,Sem.run_pure,Result.andThen_ok];rw[ih];congr 1;simp[ByteArray.push]
theorem kY.run{x:zV}{k:zV->Prop}(h:kY H x k){w:World}(hw:Own g H w):∃v,(Conv.bytesToString x).run P w=.ok v w/\k v:=by
 obtain⟨base,n,c,bs,rfl,hc,hn,hk⟩:=h;refine⟨_,?_,hk⟩;cases base with
 |none=>
  simp only[Cells]at hc;have:bs=[]:=by simpa using xcj Array.size hc
  subst this;rfl
 |some a=>
  have:=Cells.run (P:=P) (size:=1) (cap:=c) hw (by rw[xb4];exact hc);simp only[Builtin.firstCells,xb4]at this;simp only[Conv.bytesToString,Sem.run_bind,this,Result.andThen_ok];rw[List.forIn_toArray,GA (P:=P) (l:=bs) (λb s=>by simp)];have e:ByteArray.empty.data=#[]:=rfl;simp[e]
theorem kY.fix{x:zV}{k:zV->Prop}(h:kY H x k):∃v,k v/\kY H x (· =v):=by
 obtain⟨base,n,c,bs,h1,h2,h3,hk⟩:=h;exact⟨_,hk,base,n,c,bs,h1,h2,h3,rfl⟩
def Reads(P:Program)(g:Gh)(o:Oper)(ρ:Operand->zV)(H:Hp)(k:zV->Prop):Prop:=
 ∃v,k v/\∀w,Own g H w->(execOp ρ o).run P w=.ok (.value v) w
theorem Reads.mk{o:Oper}{ρ:Operand->zV}{k:zV->Prop}{s:Sem zV}(he:execOp ρ o=(do pure (.value (<-s))))(h:∃v,k v/\∀w,Own g H w->s.run P w=.ok v w):Reads P g o ρ H k:=by
 obtain⟨v,hk,hr⟩:=h;refine⟨v,hk,λw hw=>?_⟩;rw[he];simp only[Sem.run_bind,hr w hw,Result.andThen_ok,Sem.run_pure]
theorem m7.reads{o:Oper}{ρ:Operand->zV}{k:zV->Prop}(h:m7 P g o ρ H k):Reads P g o ρ H k:=let ⟨v,h1,h2⟩:=h;⟨v,h2,h1⟩
theorem uni{s:Sem zV}{k:zV->Prop}{C:(zV->Prop)->Prop}(agf:∃v,k v/\C (· =v))(hrun:∀(k:zV->Prop),C k->∀w,Own g H w->∃v,s.run P w=.ok v w/\k v):
  ∃v,k v/\∀w,Own g H w->s.run P w=.ok v w:=by
 obtain⟨v,hk,hc⟩:=agf;refine⟨v,hk,λw hw=>?_⟩;obtain⟨u,hr,rfl⟩:=hrun _ hc w hw;exact hr
theorem bF{t:TypeId}{n:Nat}(h:dO P t=some n):∃i,P.info? t=some i/\i.size=n:=by
 unfold dO at h;split at h
 ·rename_i i hi;exact⟨i,hi,by simpa using h⟩
 simp at h
theorem cH{t:TypeId}{z:zV}(h:fS P t=some z):∃i,P.info? t=some i/\i.zero=some z:=by
 unfold fS at h;split at h
 ·rename_i i hi;exact⟨i,hi,by simpa using h⟩
 simp at h
theorem lq{o:Oper}{ρ:Operand->zV}{k:zV->Prop}(h:AS P g o ρ H k):Reads P g o ρ H k:=by
 obtain⟨dst,op,type,pos,after,guard⟩:=o;cases op<;>simp only[AS]at h
 case move x=>exact⟨_,h,λw _=>rfl⟩
 case assign x=>exact⟨_,h,λw _=>rfl⟩
 case pick c a b=>
  obtain⟨t,hc,hk⟩:=h;refine⟨_,hk,λw _=>?_⟩;cases t<;>simp[execOp,hc,asBool]
 case load t a=>
  split at h
  ·rename_i d n hd hn;obtain⟨i,hi,hin⟩:=bF hn;refine Reads.mk (s:=Instr.loadAt t (ρ a)) rfl ?_;cases ha:cR d<;>simp only[ha,xaq,xah]at h
   ·exact uni h.fix λk hk w hw=>hk.run hw hd ha
   exact uni h.fix λk hk w hw=>hk.run hw hd ha hi hin
  exact h.elim
 case nilCheck x=>
  obtain⟨v,hv,hk⟩:=h;refine⟨v,hk,λw _=>?_⟩;unfold adG at hv;simp only[execOp];split at hv<;>simp only[xas,reduceCtorEq]at hv<;>subst hv<;>simp_all
 case binOp op t x y yt=>
  split at h
  ·rename_i d hd;split at h
   ·exact h.reads
   rename_i hbk;refine Reads.mk (s:=do eqGuard op t x y (ρ x) (ρ y);binOp op t (ρ x) (ρ y)) rfl ?_;obtain⟨v,hv,hk⟩:=h;exact⟨v,hk,λw _=>by
    obtain⟨u,hr,rfl⟩:=ae.run (P:=P) (k:=(· =v)) ⟨v,hv,rfl⟩ w (ox:=x) (oy:=y) hd rfl;exact hr⟩
  exact h.elim
 case unOp op t x=>
  obtain⟨v,hv,hk⟩:=h;refine Reads.mk (s:=Op.unary op (ρ x)) rfl ⟨v,hk,λw _=>?_⟩;obtain⟨u,hr,rfl⟩:=Un.run (P:=P) (k:=(· =v)) ⟨v,hv,rfl⟩ w;exact hr
 case convert s d x=>
  split at h
  ·rename_i ds kd hs hd;obtain⟨j,n,hx,hk⟩:=h;refine Reads.mk (s:=Go.convert s d (ρ x)) rfl ⟨_,hk,λw _=>?_⟩;obtain⟨u,hr,rfl⟩:=aV.run (P:=P) (kd:=kd) (k:=(· =_)) ⟨j,n,hx,rfl⟩ w hs hd rfl;exact hr
  ·rename_i e hs hd;split at h
   ·rename_i he;refine Reads.mk (s:=Go.convert s d (ρ x)) rfl ?_;have:∀w,(Go.convert s d (ρ x)).run P w=(Conv.bytesToString (ρ x)).run P w:=λw=>by
     obtain⟨base,n,c,bs,hx,_⟩:=h;simp only[Go.convert,Sem.run_bind,run_underlying hs,run_underlying hd,Result.andThen_ok,hx,run_underlying he]
    simp only[this];exact uni h.fix λk hk w hw=>hk.run hw
   exact h.reads
  exact h.reads
 case index t x i=>
  split at h
  ·rename_i ht;obtain⟨s,kd,j,b,hx,hi,h0,hb,hk⟩:=h;refine Reads.mk (s:=Instr.index t (ρ x) (ρ i)) rfl ⟨_,hk,λw _=>?_⟩;simp[Instr.index,run_underlying ht,hx,hi,asIntOf,h0,hb]
  exact h.reads
 case fieldAddr s x f=>
  split at h<;>try exact h.elim
  rename_i fs hs;split at h<;>try exact h.elim
  rename_i fl hf;split at h<;>try exact h.elim
  rename_i m hm;obtain⟨i,hi,hin⟩:=bF hm;obtain⟨b,o,hx,hk⟩:=h;refine Reads.mk (s:=Instr.fieldAt s (ρ x) f) rfl ⟨_,hk,λw _=>?_⟩;obtain⟨u,hr,rfl⟩:=ai.run (P:=P) (k:=(· =_)) ⟨b,o,hx,rfl⟩ w hs hf hi zO rfl;exact hr
 case field s x f=>
  split at h<;>try exact h.elim
  rename_i fs hs;split at h<;>try exact h.elim
  rename_i fl hf;split at h<;>try exact h.elim
  rename_i d n hd hn;obtain⟨i,hi,hin⟩:=bF hn;refine Reads.mk (s:=Instr.field s (ρ x) f) rfl ?_;cases ha:cR d<;>simp only[ha,xaq,xah]at h
  ·obtain⟨cs,v,hx,hv,hk⟩:=h;refine⟨v,hk,λw _=>?_⟩;obtain⟨u,hr,rfl⟩:=An.run (P:=P) (k:=(· =v)) ⟨cs,v,hx,hv,rfl⟩ w hs hf hd ha rfl;exact hr
  obtain⟨cs,hx,hk⟩:=h;refine⟨_,hk,λw _=>?_⟩;obtain⟨u,hr,rfl⟩:=WV.run (P:=P) (k:=(· =_)) ⟨cs,hx,rfl⟩ w hs hf hd ha hi hin rfl;exact hr
 case indexAddr t x ix=>
  refine Reads.mk (s:=Instr.indexAt t (ρ x) (ρ ix)) rfl ?_;split at h
  ·rename_i e ht;split at h<;>try exact h.elim
   rename_i n hn;obtain⟨i,hi,hin⟩:=bF hn;obtain⟨b,o,n',c,kd,j,hx,hix,h0,h1,hk⟩:=h;refine⟨_,hk,λw _=>?_⟩;obtain⟨u,hr,rfl⟩:=au.run (P:=P) (k:=(· =_)) ⟨b,o,n',c,kd,j,hx,hix,h0,h1,rfl⟩ w ht hi hin;exact hr
  ·rename_i len e ht;split at h<;>try exact h.elim
   rename_i n hn;obtain⟨i,hi,hin⟩:=bF hn;obtain⟨b,o,kd,j,hx,hix,h0,h1,hk⟩:=h;refine⟨_,hk,λw _=>?_⟩;obtain⟨u,hr,rfl⟩:=iY.run (P:=P) (k:=(· =_)) ⟨b,o,kd,j,hx,hix,h0,h1,rfl⟩ w ht hi hin;exact hr
  exact h.elim
 case slice t x lo hi mx=>
  cases mx with
  |some m=>simp only at h;exact h.reads
  |none=>
   simp only at h;split at h
   ·rename_i e ht;split at h<;>try exact h.elim
    rename_i n hn;obtain⟨i,hi',hin⟩:=bF hn;obtain⟨a,n',c,l,hh,hx,hl,pJ,h0,h1,h2,hk⟩:=h;refine Reads.mk (s:=Instr.sliceAt t (ρ x) (lo.map ρ) (hi.map ρ) none) rfl ⟨_,hk,λw _=>?_⟩;obtain⟨u,hr,rfl⟩:=gy.run (P:=P) (k:=(· =_)) ⟨a,n',c,l,hh,hx,hl,pJ,h0,h1,h2,rfl⟩ w ht hi' hin;exact hr
   exact h.reads
 case extract t i=>
  obtain⟨vs,v,hx,hv,hk⟩:=h;refine Reads.mk (s:=Instr.extract (ρ t) i) rfl ⟨v,hk,λw _=>?_⟩;obtain⟨u,hr,rfl⟩:=Ext.run (P:=P) (k:=(· =v)) ⟨vs,v,hx,hv,rfl⟩ w;exact hr
 case lookup t m key ok=>
  split at h<;>try exact h.elim
  rename_i kt e ht;split at h<;>try exact h.elim
  rename_i kd z Dz hz;obtain⟨i,hi,x7⟩:=cH hz;cases hp:plainKey kd<;>simp only[hp,xaq,xah]at h
  ·cases kT:cR kd<;>simp only[kT,xaq,xah]at h
   ·exact h.reads
   exact Reads.mk (s:=Instr.lookup t (ρ m) (ρ key) ok) rfl (uni h.fix λk hk w hw=>hk.run hw ht Dz kT hi x7)
  exact Reads.mk (s:=Instr.lookup t (ρ m) (ρ key) ok) rfl (uni h.fix λk hk w hw=>hk.run hw ht Dz hp hi x7)
 case makeFunc fn a b=>
  refine⟨_,h,λw _=>?_⟩;simp[execOp,Instr.makeFunc,mapList]
 case build t parts=>
  obtain⟨v,hr,hk⟩:=h;refine Reads.mk (s:=Instr.build t (parts.map λ(i,x)=>(i,ρ x))) rfl ⟨v,hk,λw _=>?_⟩;have:=hr w;rw[mapList (λp:Nat×Operand=>(p.1,ρ p.2)) parts]at this;exact this
 case makeInterface t x=>
  split at h
  ·exact h.elim
  ·rename_i d Zb hd;refine Reads.mk (s:=Instr.makeInterface t (ρ x)) rfl ⟨_,h,λw _=>?_⟩;simp only[Instr.makeInterface,Sem.run_bind,run_underlying hd,Result.andThen_ok];cases d<;>first|rfl|exact absurd hd (Zb _)
  exact h.elim
 case call c=>
  obtain⟨callee,args,argTypes⟩:=c;cases callee with
  |value f=>simp only at h
  |invoke r m=>simp only at h
  |builtin b=>
   cases b<;>simp only at h<;>try exact h.reads
   case max=>
    split at h<;>try exact h.reads
    rename_i x y t t' hx ht;split at h<;>try exact h.reads
    have hx:=Eh hx;have ht:=Eh ht;subst hx;subst ht;obtain⟨kd,a,b,h1,h2,hk⟩:=h;refine Reads.mk (s:=Builtin.max_ #[t,t'] type #[ρ x,ρ y]) (by simp[execOp,resolve,invoke,builtin,bind,Sem.bind];rfl) ⟨_,hk,λw _=>?_⟩;simp[Builtin.max_,Builtin.max2,h1,h2]
   case min=>
    split at h<;>try exact h.reads
    rename_i x y t t' hx ht;split at h<;>try exact h.reads
    have hx:=Eh hx;have ht:=Eh ht;subst hx;subst ht;obtain⟨kd,a,b,h1,h2,hk⟩:=h;refine Reads.mk (s:=Builtin.min_ #[t,t'] type #[ρ x,ρ y]) (by simp[execOp,resolve,invoke,builtin,bind,Sem.bind];rfl) ⟨_,hk,λw _=>?_⟩;simp[Builtin.min_,Builtin.min2,h1,h2]
   split at h<;>try exact h.elim
   rename_i x t hx ht;have hx:=adD hx;have ht:=adD ht;subst hx;subst ht;split at h
   ·rename_i e hd;refine Reads.mk (s:=Builtin.len_ #[t] type #[ρ x]) (by simp[execOp,resolve,invoke,builtin,bind,Sem.bind];rfl) ?_;obtain⟨a,n,c,hx,hk⟩:=h;refine⟨_,hk,λw _=>?_⟩;obtain⟨u,hr,rfl⟩:=aR.run (P:=P) (k:=(· =_)) ⟨a,n,c,hx,rfl⟩ w (ty:=type) hd;exact hr
   ·rename_i e e' hd;refine Reads.mk (s:=Builtin.len_ #[t] type #[ρ x]) (by simp[execOp,resolve,invoke,builtin,bind,Sem.bind];rfl) ?_;exact uni h.fix λk hk w hw=>hk.run hw hd
   ·rename_i hd;refine Reads.mk (s:=Builtin.len_ #[t] type #[ρ x]) (by simp[execOp,resolve,invoke,builtin,bind,Sem.bind];rfl) ?_;obtain⟨s,hx,hk⟩:=h;exact⟨_,hk,λw _=>by simp[Builtin.len_,run_underlying hd,hx,goInt]⟩
   exact h.reads
 all_goals exact h.reads
def valOf(o:Oper)(ρ:Operand->zV)(v:zV):Prop:=
 match o.op with
 | .move x=>v=ρ x
 | .assign x=>v=ρ x
 | .pick c a b=>∀t,ρ c=.bool t->v=cond t (ρ a) (ρ b)
 |_=>True
theorem oJ{o:Oper}{ρ:Operand->zV}{k:zV->Prop}(h:AS P g o ρ H k):∃v,k v/\(∀w,Own g H w->(execOp ρ o).run P w=.ok (.value v) w)/\valOf o ρ v:=by
 obtain⟨dst,op,type,pos,after,guard⟩:=o;cases op
 case move x=>exact⟨_,h,λw _=>rfl,rfl⟩
 case assign x=>exact⟨_,h,λw _=>rfl,rfl⟩
 case pick c a b=>
  obtain⟨t,hc,hk⟩:=h;refine⟨_,hk,λw _=>?_,λt' ht'=>?_⟩
  ·cases t<;>simp[execOp,hc,asBool]
  rw[hc]at ht';simp only[Value.bool.injEq]at ht';subst ht';rfl
 all_goals
  obtain⟨v,hk,hr⟩:=lq h;exact⟨v,hk,hr,trivial⟩
end
end Go.Sx
namespace Go.Sx
open Go
section
variable {P:Program} {g:Gh} {H:Hp} {K:zV->Hp->Prop} {KP:List PanicEntry->Hp->Prop}
def az(P:Program)(t len:Nat)(parts:List (Nat×zV))(H:Hp)(k:zV->Hp->Prop):Prop:=
 ∃cs,(∃e n z,P.underlying t=some (.slice e)/\dO P e=some n/\fS P e=some z/\len*n<=2^24/\
   Instr.fill (λi=>some (i*n,n)) ((Array.range (len*n)).map (z.cells[· %z.cells.size]!)) parts=some cs/\
   Ov H (.cells cs e zZ) λb H'=>k (.slice (some ⟨b,0,none⟩) len len) H')
def M1(P:Program)(g:Gh)(o:Oper)(ρ:Operand->zV)(H:Hp)(K:zV->Hp->Prop)(KP:List PanicEntry->Hp->Prop):Prop:=
 match o.op with
 | .alloc t=>match fS P t with
  |some z=>Ov H (.cells z.cells t zZ) λb H'=>K (.pointer (some ⟨b,0,none⟩)) H'
  |none=>False
 | .box t x=>Ov H (.cells (ρ x).cells t zZ) λb H'=>K (.pointer (some ⟨b,0,none⟩)) H'
 | .store t a x=>match dO P t with
  |some n=>St n H (ρ a) (ρ x) λH'=>K undef H'
  |none=>False
 | .buildSlice t len parts=>az P t len (parts.toList.map λp=>(p.1,ρ p.2)) H K
 | .makeMap _ none=>gH H K
 | .makeSlice t l c=>match P.underlying t with
  |some (.slice e)=>match dO P e,wO P e,fS P e with
   |some n,some b,some z=>cW e n b z H (ρ l) (ρ c) K
   |_,_,_=>False
  |_=>False
 | .mapUpdate t m key x=>match P.underlying t with
  |some (.map kt _)=>match P.underlying kt with
   |some kd=>cond (plainKey kd) (aW kd H (ρ m) (ρ key) (ρ x) λH'=>K undef H') (cond (cR kd) (iL P kt H (ρ m) (ρ key) (ρ x) λH'=>K undef H') (oq P g o ρ H K KP))
   |none=>False
  |_=>False
 | .insert t m key x=>match P.underlying t with
  |some (.map kt _)=>match P.underlying kt with
   |some kd=>cond (plainKey kd) (aW kd H (ρ m) (ρ key) (ρ x) λH'=>K undef H') (cond (cR kd) (iL P kt H (ρ m) (ρ key) (ρ x) λH'=>K undef H') (oq P g o ρ H K KP))
   |none=>False
  |_=>False
 | .range t x=>match P.underlying t with
  |some (.map _ _)=>Z5 H (ρ x) K
  |_=>oq P g o ρ H K KP
 | .next it false=>XW H (ρ it) K
 | .entry it=>Ku H (ρ it) λv=>K v H
 | .call c=>
  match c.callee with
  | .value (.func f)=>cond (aU P f) (aa P g f (c.args.toList.map ρ).toArray H K KP) (oq P g o ρ H K KP)
  | .value f=>aK P g (ρ f) (c.args.toList.map ρ).toArray H K KP
  | .builtin .append=>
   match c.args.toList,c.argTypes.toList with
   | [s,x],[t,t']=>match P.underlying t,P.underlying t' with
    |some (.slice e),some (.slice _)=>match dO P e,wO P e,fS P e with
     |some n,some b,some z=>App P e n b z H (ρ s) (ρ x) K
     |_,_,_=>False
    |_,_=>oq P g o ρ H K KP
   |_,_=>False
  | .builtin .delete=>
   match c.args.toList,c.argTypes.toList with
   | [m,key],[t,_]=>match P.underlying t with
    |some (.map kt _)=>match P.underlying kt with
     |some kd=>cond (plainKey kd) (ot kd H (ρ m) (ρ key) λH'=>K (.tuple #[]) H') (cond (cR kd) (r7 P kt H (ρ m) (ρ key) λH'=>K (.tuple #[]) H') (oq P g o ρ H K KP))
     |none=>False
    |_=>False
   |_,_=>oq P g o ρ H K KP
  |_=>oq P g o ρ H K KP
 |_=>oq P g o ρ H K KP
theorem ob{t:TypeId}{n:Nat}(h:wO P t=some n):∃i,P.info? t=some i/\i.bytes=n:=by
 unfold wO at h;split at h
 ·rename_i i hi;exact⟨i,hi,by simpa using h⟩
 simp at h
theorem oq.ofValue{o:Oper}{ρ:Operand->zV}{s:Sem zV}(he:execOp ρ o=(do pure (.value (<-s))))(h:∀w,Own g H w->∃v w' H',s.run P w=.ok v w'/\Own g H' w'/\K v H'):oq P g o ρ H K KP:=by
 intro w hw;obtain⟨v,w',H',hr,ho,hk⟩:=h w hw;rw[he];simp only[Sem.run_bind,hr,Result.andThen_ok,Sem.run_pure];exact⟨H',ho,hk⟩
theorem oq.sF{o:Oper}{ρ:Operand->zV}{s:Sem Unit}(he:execOp ρ o=(do s;pure .skip))(h:∀w,Own g H w->∃w' H',s.run P w=.ok () w'/\Own g H' w'/\K undef H'):oq P g o ρ H K KP:=by
 intro w hw;obtain⟨w',H',hr,ho,hk⟩:=h w hw;rw[he];simp only[Sem.run_bind,hr,Result.andThen_ok,Sem.run_pure];exact⟨H',ho,hk⟩
theorem eE{f:FuncId}(h:aU P f=true)(args:Array zV)(w:World):(callFunc f args).run P w=.ok (.enter f args) w:=by
 unfold aU at h;split at h
 ·simp at h
 rename_i fn hf;simp only[xaD,xbE]at h;obtain⟨h1,h2⟩:=h;have h3:fn.body.isNone=false:=by cases hb:fn.body<;>simp_all
 simp only[callFunc,Sem.run_bind,run_program,Result.andThen_ok,hf,show(fn.name== "runtime.NumGoroutine")=false from h1,h3,xaQ,xa0];rfl
theorem aK.op{o:Oper}{c:Call}{ρ:Operand->zV}{x:Operand}(ho:o.op=.call c)(hc:c.callee=.value x)(h:aK P g (ρ x) (c.args.toList.map ρ).toArray H K KP):oq P g o ρ H K KP:=by
 obtain⟨f,first,captured,hf,fP,Lp⟩:=h;rw[mapList]at Lp;intro w hw;have hr:(execOp ρ o).run P w=.ok (.enter f (first++c.args.map ρ++captured)) w:=by
  simp only[execOp,ho,resolve,hc,Deferred.ofValue,hf,invoke];show(callFunc f (first++c.args.map ρ++captured)).run P w=_;exact eE fP _ w
 rw[hr];exact Lp w hw
theorem vE{o:Oper}{ρ:Operand->zV}(hρ:∀f,ρ (.func f)=.func (.func f) #[] #[])(h:M1 P g o ρ H K KP):oq P g o ρ H K KP:=by
 unfold M1 at h;split at h
 case h_1 t hop=>
  split at h
  ·rename_i z hz;obtain⟨i,hi,x7⟩:=cH hz;refine oq.ofValue (s:=Instr.alloc t true (.tuple #[])) (by simp only[execOp,hop]) λw hw=>⟨_,_,_,?_,hw.alloc _,h _ hw.fresh⟩;simp[Instr.alloc,dU hi x7,newVar,newRow]
  exact h.elim
 case h_2 t x hop=>
  refine oq.ofValue (s:=Instr.box t (ρ x)) (by simp only[execOp,hop]) λw hw=>⟨_,_,_,?_,hw.alloc _,h _ hw.fresh⟩;simp[Instr.box,newVar,newRow]
 case h_3 t a x hop=>
  split at h
  ·rename_i n hn;obtain⟨i,hi,hin⟩:=bF hn;exact oq.sF (s:=Instr.storeAt t (ρ a) (ρ x)) (by simp only[execOp,hop]) λw hw=>h.run hw hi hin
  exact h.elim
 case h_4 t len parts hop=>
  obtain⟨cs,e,n,z,ht,hn,hz,hl,hf,hk⟩:=h;obtain⟨i,hi,hin⟩:=bF hn;obtain⟨i',hi',x7⟩:=cH hz;have:i'=i:=xbp (hi'.symm.trans hi);subst this;subst hin;refine oq.ofValue (s:=Instr.buildSlice t len (parts.map λ(i,x)=>(i,ρ x))) (by simp only[execOp,hop]) λw hw=>⟨_,_,_,?_,hw.alloc _,hk _ hw.fresh⟩;have hl':¬(len*i'.size>2^24):=by omega
  have zc:(parts.map λ(x:Nat×Operand)=>(x.1,ρ x.2)).toList=parts.toList.map λp=>(p.1,ρ p.2):=by rw[xdU]
  by_cases h0:len*i'.size=0
  ·simp only[Instr.buildSlice,Sem.run_bind,run_underlying ht,Result.andThen_ok,run_sizeOf hi,hl',xa0,h0,xa7,Sem.run_pure];rw[h0]at hf;have YY:Array.range 0=#[]:=rfl;simp only[YY,xer,List.map_toArray,xck]at hf⊢;rw[zc,hf];simp[newRow]
  simp only[Instr.buildSlice,Sem.run_bind,run_underlying ht,Result.andThen_ok,run_sizeOf hi,hl',xa0,h0,dU hi x7,Sem.run_pure];simp[hf,newRow]
 case h_5 t hop=>
  refine oq.ofValue (s:=Instr.makeMap t none) (by simp only[execOp,hop];rfl) λw hw=>⟨_,_,_,?_,hw.alloc _,h _ hw.fresh⟩;simp[Instr.makeMap]
 case h_6 t l c hop=>
  split at h<;>try exact h.elim
  rename_i e ht;split at h<;>try exact h.elim
  rename_i n b z hn hb hz;obtain⟨i,hi,hin⟩:=bF hn;obtain⟨i',hi',x7⟩:=cH hz;obtain⟨i2,F8,ze⟩:=ob hb;have e1:i'=i:=xbp (hi'.symm.trans hi);have e2:i2=i:=xbp (F8.symm.trans hi);subst e1;subst e2;exact oq.ofValue (s:=Instr.makeSlice t (ρ l) (ρ c)) (by simp only[execOp,hop]) λw hw=>h.run hw ht hi x7 hin ze
 case h_7 t m key x hop=>
  split at h<;>try exact h.elim
  rename_i kt e ht;split at h<;>try exact h.elim
  rename_i kd Dz;cases hp:plainKey kd<;>simp only[hp,xaq,xah]at h
  ·cases kT:cR kd<;>simp only[kT,xaq,xah]at h
   ·exact h
   exact oq.sF (s:=Instr.mapUpdate t (ρ m) (ρ key) (ρ x)) (by simp only[execOp,hop]) λw hw=>h.run hw ht Dz kT
  exact oq.sF (s:=Instr.mapUpdate t (ρ m) (ρ key) (ρ x)) (by simp only[execOp,hop]) λw hw=>h.run hw ht Dz hp
 case h_8 t m key x hop=>
  split at h<;>try exact h.elim
  rename_i kt e ht;split at h<;>try exact h.elim
  rename_i kd Dz;cases hp:plainKey kd<;>simp only[hp,xaq,xah]at h
  ·cases kT:cR kd<;>simp only[kT,xaq,xah]at h
   ·exact h
   exact oq.sF (s:=Instr.mapUpdate t (ρ m) (ρ key) (ρ x)) (by simp only[execOp,hop]) λw hw=>h.run hw ht Dz kT
  exact oq.sF (s:=Instr.mapUpdate t (ρ m) (ρ key) (ρ x)) (by simp only[execOp,hop]) λw hw=>h.run hw ht Dz hp
 case h_9 t x hop=>
  split at h
  ·rename_i kt e ht;exact oq.ofValue (s:=Instr.range t (ρ x)) (by simp only[execOp,hop]) λw hw=>h.run hw ht
  exact h
 case h_10 it hop=>
  exact oq.ofValue (s:=Instr.next (ρ it) false o.type) (by simp only[execOp,hop]) λw hw=>h.run hw
 case h_11 it hop=>
  exact oq.ofValue (s:=Instr.entry (ρ it)) (by simp only[execOp,hop]) λw hw=>let ⟨v,hr,hk⟩:=h.run hw;⟨v,w,H,hr,hw,hk⟩
 case h_12 c hop=>
  split at h
  ·rename_i f hc;cases fP:aU P f<;>simp only[fP,xaq,xah]at h
   ·exact h
   rw[mapList]at h;intro w hw;have hr:(execOp ρ o).run P w=.ok (.enter f (c.args.map ρ)) w:=by
    simp only[execOp,hop,resolve,hc,Deferred.ofValue,hρ,invoke];show(callFunc f ((#[]++c.args.map ρ)++ #[])).run P w=_;rw[xdb,xdE];exact eE fP _ w
   rw[hr];exact h w hw
  ·rename_i x _ hc;exact aK.op hop hc h
  ·rename_i hc;split at h<;>try exact h.elim
   rename_i s x t t' hx ht;have hx:=Eh hx;have ht:=Eh ht;split at h
   ·rename_i e e' hd dP;split at h<;>try exact h.elim
    rename_i n b z hn hb hz;obtain⟨i,hi,hin⟩:=bF hn;obtain⟨i',hi',x7⟩:=cH hz;obtain⟨i2,F8,ze⟩:=ob hb;have e1:i'=i:=xbp (hi'.symm.trans hi);have e2:i2=i:=xbp (F8.symm.trans hi);subst e1;subst e2;refine oq.ofValue (s:=Builtin.append_ #[t,t'] o.type #[ρ s,ρ x]) ?_ λw hw=>h.run hw hd ⟨_,dP⟩ hi x7 hin ze;simp only[execOp,hop,resolve,hc,hx,ht,invoke,builtin];simp[bind,Sem.bind];rfl
   exact h
  ·rename_i hc;split at h
   ·rename_i m key t t' hx ht;have hx:=Eh hx;have ht:=Eh ht;split at h<;>try exact h.elim
    rename_i kt e hd;split at h<;>try exact h.elim
    rename_i kd Dz;cases hp:plainKey kd<;>simp only[hp,xaq,xah]at h
    ·cases kT:cR kd<;>simp only[kT,xaq,xah]at h
     ·exact h
     refine oq.ofValue (s:=Builtin.delete_ #[t,t'] o.type #[ρ m,ρ key]) ?_ λw hw=>?_
     ·simp only[execOp,hop,resolve,hc,hx,ht,invoke,builtin];simp[bind,Sem.bind];rfl
     obtain⟨w',H',hr,ho,hk⟩:=h.run (P:=P) hw (as:=#[t,t']) (ty:=o.type) rfl hd Dz kT;exact⟨_,w',H',hr,ho,hk⟩
    refine oq.ofValue (s:=Builtin.delete_ #[t,t'] o.type #[ρ m,ρ key]) ?_ λw hw=>?_
    ·simp only[execOp,hop,resolve,hc,hx,ht,invoke,builtin];simp[bind,Sem.bind];rfl
    obtain⟨w',H',hr,ho,hk⟩:=h.run (P:=P) hw (as:=#[t,t']) (ty:=o.type) rfl hd Dz hp;exact⟨_,w',H',hr,ho,hk⟩
   exact h
  exact h
 all_goals exact h
end
end Go.Sx
namespace Go.Sx
open Go
section
variable {P:Program} {g:Gh} {ds:List Deferred}
def vY:Op->Bool
 | .move _| .assign _| .pick .. | .load .. | .nilCheck _| .binOp .. | .unOp .. | .convert .. | .fieldAddr .. | .field .. | .indexAddr .. | .index .. | .slice .. | .extract .. | .lookup .. | .makeFunc .. | .build .. | .makeInterface ..
 | .typeAssert .. =>true
 | .call c=>match c.callee with
  | .builtin .len| .builtin .cap| .builtin .min| .builtin .max=>true
  |_=>false
 |_=>false
def X0(P:Program)(g:Gh)(f:FuncId)(args:Array zV)(H:Hp)(k:zV->Prop):Prop:=
 ∃v,bD P g f args H (λe H'=>e=.returned v/\H'=H)/\k v
def opQ(P:Program)(g:Gh)(o:Oper)(ρ:Operand->zV)(H:Hp)(k:zV->Prop):Prop:=
 match o.op with
 | .call c=>match c.callee with
  | .value (.func f)=>cond (aU P f) (X0 P g f (c.args.toList.map ρ).toArray H k) False
  | .value x=>∃f first captured,ρ x=.func (.func f) first captured/\aU P f=true/\X0 P g f (first++(c.args.toList.map ρ).toArray++captured) H k
  |_=>False
 |_=>False
def cC:Option (Nat×Bool)->Option (Nat×Bool)->Bool
 |none,none=>true
 |some (i,a),some (j,b)=>Nat.beq i j&& (a==b)
 |_,_=>false
theorem jl{x y:Option (Nat×Bool)}(h:cC x y=true):x=y:=by
 cases x with
 |none=>cases y<;>simp_all[cC]
 |some a=>
  obtain⟨i,a⟩:=a;cases y with
  |none=>simp[cC]at h
  |some b=>
   obtain⟨j,b⟩:=b;simp only[cC,xaD,xcM]at h;rw[xaG h.1,h.2]
def ig(cur:Option (Nat×Bool)):List Oper->List Oper
 | []=>[]
 |o::r=>cond (cC o.guard cur) [] (o::ig cur r)
def jj(cur:Option (Nat×Bool)):List Oper->List Oper
 | []=>[]
 |o::r=>cond (cC o.guard cur) (o::r) (jj cur r)
theorem tp(cur:Option (Nat×Bool))(l:List Oper):ig cur l++jj cur l=l:=by
 induction l with
 |nil=>rfl
 |cons o r ih=>simp only[ig,jj];cases cC o.guard cur<;>simp[ih]
def tq:List Oper->Fr->Fr
 | [],fr=>fr
 |o::r,fr=>tq r (br fr o.dst undef)
def bQ:List Oper->Nat->Bool
 | [],_=>false
 |o::r,s=>(match o.dst with|some d=>Nat.beq s d|none=>false)||bQ r s
def ja(n:Nat):List Oper->Bool
 | []=>true
 |o::r=>eL n o.dst&&ja n r
def Bf(G:List Oper)(gs fr:Fr):Fr:=λs=>cond (bQ G s) (gs s) (fr s)
def qj(p:Oper)(fr:Fr):zV:=
 match p.op with
 | .pick c a b=>match ev fr c with
  | .bool t=>cond t (ev fr a) (ev fr b)
  |_=>undef
 |_=>undef
def sK(p:Oper):Bool:=match p.op with| .pick .. =>true|_=>false
def eV(ops:Array Oper)(j:Nat):Option Nat:=match ops[j]? with|some oj=>oj.dst|none=>none
def nH(ops:Array Oper)(s:Nat)(want:Bool):zL->List Oper->Bool
 |_,[]=>true
 |seen,o::r=>
  (match o.guard with
  |none=>false
  |some (j,w)=>match eV ops j with
   |none=>false
   |some t=>(Nat.beq t s&& (w==want))||seen.any (Nat.beq t)) &&
  nH ops s want (match o.dst with|some d=>d::seen|none=>seen) r
def cm(v:zV)(want:Bool)(inner els k:Bool->Prop):Prop:=∃a t:Bool,v=.bool a/\(a=want->inner t)/\(a= !want->els t)/\k t
def Split(v:zV)(want:Bool)(k1 k2:Prop):Prop:=∃a:Bool,v=.bool a/\(a=want->k1)/\(a= !want->k2)
def lJ:List (Nat×Bool)->Nat->Option Bool
 | [],_=>none
 |(t,b)::r,s=>cond (Nat.beq t s) (some b) (lJ r s)
def m9:List (Nat×Bool)->Option Nat->List (Nat×Bool)
 |kn,none=>kn
 | [],some _=>[]
 |(t,b)::r,some d=>cond (Nat.beq t d) (m9 r (some d)) ((t,b)::m9 r (some d))
def mO:List (Nat×Bool)->List Oper->List (Nat×Bool)
 |kn,[]=>kn
 |kn,o::r=>mO (m9 kn o.dst) r
def rB(kn:List (Nat×Bool)):Operand->Option Bool
 | .const (.bool b)=>some b
 | .tmp t=>lJ kn t
 |_=>none
def YI(kn:List (Nat×Bool))(o:Oper):Option Bool:=
 match o.op with
 | .move x=>rB kn x
 | .assign x=>rB kn x
 | .pick c a b=>match rB kn c with
  |some true=>rB kn a
  |some false=>rB kn b
  |none=>none
 |_=>none
def YH(kn:List (Nat×Bool))(o:Oper):List (Nat×Bool):=
 match YI kn o,o.dst with
 |some b,some d=>(d,b)::m9 kn (some d)
 |_,d=>m9 kn d
def je(kn:List (Nat×Bool))(fr:Fr):Prop:=∀s b,lJ kn s=some b->fr s=.bool b
theorem je.nil(fr:Fr):je [] fr:=λs b h=>by simp[lJ]at h
theorem y3{kn:List (Nat×Bool)}{d s:Nat}{b:Bool}(h:lJ (m9 kn (some d)) s=some b):s≠d/\lJ kn s=some b:=by
 induction kn with
 |nil=>simp[m9,lJ]at h
 |cons x r ih=>
  obtain⟨t,c⟩:=x;simp only[m9]at h;cases hb:Nat.beq t d<;>simp only[hb,xaq,xah]at h
  ·simp only[lJ]at h⊢;cases hs:Nat.beq t s<;>simp only[hs,xaq,xah]at h⊢
   ·exact ih h
   refine⟨λe=>?_,h⟩;have:=xaG hs;subst this;subst e;simp at hb
  have h':=ih h;refine⟨h'.1,?_⟩;simp only[lJ];have:=xaG hb;subst this;cases hs:Nat.beq t s
  ·exact h'.2
  exact absurd (xaG hs).symm h'.1
theorem je.del{kn:List (Nat×Bool)}{fr:Fr}(h:je kn fr)(d:Option Nat)(v:zV):je (m9 kn d) (br fr d v):=by
 cases d with
 |none=>cases kn<;>exact h
 |some d=>
  intro s b hs;obtain⟨h1,h2⟩:=y3 hs;simp only[br];cases hb:Nat.beq s d
  ·exact h s b h2
  exact absurd (xaG hb) h1
theorem je.put{kn:List (Nat×Bool)}{fr:Fr}(h:je kn fr){s:Nat}{b:Bool}(hs:fr s=.bool b):je ((s,b)::kn) fr:=by
 intro t c ht;simp only[lJ]at ht;cases hb:Nat.beq s t<;>simp only[hb,xaq,xah]at ht
 ·exact h t c ht
 have:=xaG hb;subst this;simp only[xas]at ht;subst ht;exact hs
theorem lH{kn:List (Nat×Bool)}{fr:Fr}(h:je kn fr){x:Operand}{b:Bool}(hx:rB kn x=some b):ev fr x=.bool b:=by
 cases x with
 |tmp t=>exact h t b hx
 |const v=>cases v<;>simp[rB]at hx;subst hx;rfl
 |global g=>simp[rB]at hx
 |func f=>simp[rB]at hx
theorem Vo{kn:List (Nat×Bool)}{fr:Fr}(h:je kn fr){o:Oper}{v:zV}(hv:valOf o (ev fr) v){b:Bool}(hb:YI kn o=some b):v=.bool b:=by
 unfold YI at hb;unfold valOf at hv;split at hb
 ·rename_i x hop;rw[hop]at hv;exact hv.trans (lH h hb)
 ·rename_i x hop;rw[hop]at hv;exact hv.trans (lH h hb)
 ·rename_i c a b' hop;rw[hop]at hv;split at hb
  ·rename_i hc;rw[hv _ (lH h hc)];exact lH h hb
  ·rename_i hc;rw[hv _ (lH h hc)];exact lH h hb
  simp at hb
 simp at hb
theorem je.up{kn:List (Nat×Bool)}{fr:Fr}(h:je kn fr){o:Oper}{v:zV}(hv:valOf o (ev fr) v):je (YH kn o) (br fr o.dst v):=by
 unfold YH;split
 ·rename_i b d hb hd;rw[hd];exact(h.del (some d) v).put (by simp[br,Vo h hv hb])
 exact h.del _ _
theorem je.adv{kn:List (Nat×Bool)}{fr fr':Fr}:∀(l:List Oper),je kn fr->(∀s,bQ l s=false->fr' s=fr s)->je (mO kn l) fr':=by
 intro l;have key:∀(l:List Oper) (kn:List (Nat×Bool)) (s:Nat) (b:Bool),lJ (mO kn l) s=some b->bQ l s=false/\lJ kn s=some b:=by
  intro l;induction l with
  |nil=>intro kn s b h;exact⟨rfl,h⟩
  |cons o r ih=>
   intro kn s b h;simp only[mO]at h;obtain⟨h1,h2⟩:=ih _ s b h;simp only[bQ,h1,xdu];cases hd:o.dst with
   |none=>rw[hd]at h2;exact⟨rfl,by cases kn<;>exact h2⟩
   |some d=>
    rw[hd]at h2;obtain⟨h3,h4⟩:=y3 h2;refine⟨?_,h4⟩;cases hb:Nat.beq s d
    ·exact hb
    exact absurd (xaG hb) h3
 intro h ho s b hs;obtain⟨h1,h2⟩:=key l kn s b hs;rw[ho s h1];exact h s b h2
def eY(P:Program)(g:Gh)(n:Nat)(ops:Array Oper)(gq:Bool):Nat->Bool->Option (Nat×Bool)->List (Nat×Bool)->List Oper->Fr->Hp->(List (Nat×Bool)->Fr->Hp->Prop)->(List PanicEntry->Hp->Prop)->Prop
 |0,_,_,_,_,_,_,_,_=>False
 |_+1,_,_,kn,[],fr,H,K,_=>K kn fr H
 |f+1,q,cur,kn,o::r,fr,H,K,KP=>
  cond (cC o.guard cur)
   (cond (eL n o.dst)
    (cond (vY o.op) (AS P g o (ev fr) H λv=>eY P g n ops gq f q cur (YH kn o) r (br fr o.dst v) H K KP)
     (cond q (opQ P g o (ev fr) H λv=>eY P g n ops gq f q cur (m9 kn o.dst) r (br fr o.dst v) H K KP)
      (M1 P g o (ev fr) H (λv H'=>eY P g n ops gq f q cur (m9 kn o.dst) r (br fr o.dst v) H' K KP) KP))) False)
   (match o.guard with
   |none=>False
   |some (j,want)=>
    match eV ops j with
    |none=>False
    |some s=>
     cond (eL n (some s) &&ja n (ig cur (o::r)) && !bQ (ig cur (o::r)) s&&nH ops s want [] (ig cur (o::r)))
     (match lJ kn s with
     |some b=>cond (b==want)
       (eY P g n ops gq f q o.guard kn (ig cur (o::r)) fr H (λqJ fr' H'=>eY P g n ops gq f q cur qJ (jj cur (o::r)) fr' H' K KP) KP)
       (eY P g n ops gq f q cur (mO kn (ig cur (o::r))) (jj cur (o::r)) (tq (ig cur (o::r)) fr) H K KP)
     |none=>
     cond (q||gq)
      (match jj cur (o::r)with
      | []=>False
      |p::r'=>
       cond (sK p&&eL n p.dst)
       (cm (fr s) want
        (λt=>eY P g n ops gq f true o.guard ((s,want)::kn) (ig cur (o::r)) (br fr (some s) (.bool want)) H (λ_ fr' H'=>H'=H/\qj p fr'=.bool t) (λ_ _=>False))
        (λt=>qj p (tq (ig cur (o::r)) (br fr (some s) (.bool !want)))=.bool t)
        (λt=>∀gs,eY P g n ops gq f q cur (m9 (mO kn (ig cur (o::r))) p.dst) r' (br (Bf (ig cur (o::r)) gs fr) p.dst (.bool t)) H K KP)) False)
      (Split (fr s) want
       (eY P g n ops gq f q o.guard ((s,want)::kn) (ig cur (o::r)) (br fr (some s) (.bool want)) H (λqJ fr' H'=>eY P g n ops gq f q cur qJ (jj cur (o::r)) fr' H' K KP) KP)
       (eY P g n ops gq f q cur ((s, !want)::mO kn (ig cur (o::r))) (jj cur (o::r)) (tq (ig cur (o::r)) (br fr (some s) (.bool !want))) H K KP))) False)
theorem k7{fr:Fr}{s:Nat}{v:zV}(h:fr s=v):br fr (some s) v=fr:=by
 funext x
 simp only[br];cases hb:Nat.beq x s
 ·rfl
 have:=xaG hb;subst this;simp[h]
theorem gm{fr:Fr}{d:Option Nat}{v:zV}{s:Nat}(h:bQ [({(default:Oper)with dst:=d})] s=false):br fr d v s=fr s:=by
 cases d with
 |none=>rfl
 |some d=>simp only[bQ,xdu]at h;simp only[br,h,xah]
theorem dI{o:Oper}{r:List Oper}{s:Nat}:bQ (o::r) s=(bQ [({(default:Oper)with dst:=o.dst})] s||bQ r s):=by
 simp[bQ]
theorem cj{a b:List Oper}{s:Nat}:bQ (a++b) s=(bQ a s||bQ b s):=by
 induction a with
 |nil=>simp[bQ]
 |cons o r ih=>simp only[xaR,bQ,ih,Bool.or_assoc]
def eP(l:List Oper)(fr fr':Fr):Prop:=∀s,bQ l s=false->fr' s=fr s
def mr(ops:Array Oper)(cur:Option (Nat×Bool))(l:List Oper)(fr:Fr):Prop:=
 match cur with
 |none=>True
 |some (j,want)=>∃s,eV ops j=some s/\fr s=.bool want/\bQ l s=false
theorem mr.tail{ops:Array Oper}{cur:Option (Nat×Bool)}{o:Oper}{r:List Oper}{fr fr':Fr}(h:mr ops cur (o::r) fr)(he:∀s,bQ [({(default:Oper)with dst:=o.dst})] s=false->fr' s=fr s):mr ops cur r fr':=by
 unfold mr at*;split
 ·trivial
 obtain⟨s,h1,h2,h3⟩:=h;rw[dI,xax]at h3;exact⟨s,h1,(he s h3.1).trans h2,h3.2⟩
theorem my{n:Nat}{ops:Array Oper}{a:Act}{fr:Fr}(h:cB ds n a fr){j s:Nat}(hs:eV ops j=some s):yielded ops a.tmps j=match fr s with| .bool b=>some b|_=>none:=by
 unfold eV at hs;split at hs
 ·rename_i oj hj;have hg:=h.get s;rw[xat]at hg;simp only[yielded,hj,xen,hs];cases ht:a.tmps[s]? with
  |none=>rw[ht]at hg;simp only[Option.getD_none]at hg;rw[<-hg];rfl
  |some v=>rw[ht]at hg;simp only[Option.getD_some]at hg;rw[<-hg];cases v<;>rfl
 ·simp at hs
theorem mr.wanted{n:Nat}{ops:Array Oper}{cur:Option (Nat×Bool)}{l:List Oper}{fr:Fr}(h:mr ops cur l fr){o:Oper}(ho:o.guard=cur){a:Act}(ha:cB ds n a fr):Region.wanted o (yielded ops a.tmps)=true:=by
 unfold mr at h;unfold Region.wanted;rw[ho];split at h
 ·rfl
 obtain⟨s,h1,h2,_⟩:=h;simp only[my ha h1,h2,xeo]
theorem qh{p:Oper}{fr:Fr}{t:Bool}(hp:sK p=true)(h:qj p fr=.bool t)(w:World):(execOp (ev fr) p).run P w=.ok (.value (.bool t)) w:=by
 unfold sK at hp;split at hp<;>try (simp at hp;done)
 rename_i c a b hop;simp only[qj,hop]at h;split at h
 ·rename_i t' hc;simp only[execOp,hop,hc,asBool];cases t'<;>simp only[xaq,xah]at h<;>simp[h]
 simp[undef]at h
theorem oz{n:Nat}{ops:Array Oper}{Q:Exit->Act->World->Prop}{s:Nat}{want:Bool}{w:World}{rest:List Oper}:∀(l:List Oper) (seen:zL) (fr:Fr) (a:Act),ja n l=true->bQ l s=false->nH ops s want seen l=true->
  fr s=.bool (!want)->(∀t∈seen,fr t=undef)->cB ds n a fr->(∀a',cB ds n a' (tq l fr)->wpList P ops Q rest a' w)->wpList P ops Q (l++rest) a w
 | [],_,fr,a,_,_,_,_,_,ha,hk=>hk a ha
 |o::r,seen,fr,a,hd,hi,hs,hf,vZ,ha,hk=>by
  simp only[ja,xaD]at hd;rw[dI,xax]at hi;simp only[nH,xaD]at hs;obtain⟨uA,sM⟩:=hs;have hnw:Region.wanted o (yielded ops a.tmps)=false:=by
   unfold Region.wanted;split at uA
   ·simp at uA
   rename_i j w' hg;rw[hg];split at uA
   ·simp at uA
   rename_i t ht;simp only[my ha ht];simp only[xa1,xaD,xcM]at uA;rcases uA with⟨h1,rfl⟩|h1
   ·have:=xaG h1;subst this;rw[hf];cases w'<;>rfl
   obtain⟨u,hu,hb⟩:=xcw.1 h1;have:=xaG hb;subst this;rw[vZ _ hu];rfl
  simp only[xaR,wpList,hnw,xaQ,xa0];refine oz r _ (br fr o.dst undef) _ hd.2 hi.2 sM ?_ ?_ (ha.put hd.1 undef) (λa' h'=>hk a' h')
  ·rw[gm hi.1,hf]
  intro t ht;cases RZ:o.dst with
  |none=>rw[RZ]at ht;exact vZ t ht
  |some d=>
   rw[RZ]at ht;simp only[br];cases hb:Nat.beq t d
   ·simp only[xah];rcases xam.1 ht with rfl|ht
    ·simp at hb
    exact vZ t ht
   rfl
theorem pY{n:Nat}{ops:Array Oper}{C:World->Prop}{Q:Act->Prop}{s:Nat}{want:Bool}{rest:List Oper}:∀(l:List Oper) (seen:zL) (fr:Fr) (a:Act),ja n l=true->bQ l s=false->nH ops s want seen l=true->
  fr s=.bool (!want)->(∀t∈seen,fr t=undef)->cB ds n a fr->(∀a',cB ds n a' (tq l fr)->wpQuiet P ops C Q rest a')->wpQuiet P ops C Q (l++rest) a
 | [],_,fr,a,_,_,_,_,_,ha,hk=>hk a ha
 |o::r,seen,fr,a,hd,hi,hs,hf,vZ,ha,hk=>by
  simp only[ja,xaD]at hd;rw[dI,xax]at hi;simp only[nH,xaD]at hs;obtain⟨uA,sM⟩:=hs;have hnw:Region.wanted o (yielded ops a.tmps)=false:=by
   unfold Region.wanted;split at uA
   ·simp at uA
   rename_i j w' hg;rw[hg];split at uA
   ·simp at uA
   rename_i t ht;simp only[my ha ht];simp only[xa1,xaD,xcM]at uA;rcases uA with⟨h1,rfl⟩|h1
   ·have:=xaG h1;subst this;rw[hf];cases w'<;>rfl
   obtain⟨u,hu,hb⟩:=xcw.1 h1;have:=xaG hb;subst this;rw[vZ _ hu];rfl
  simp only[xaR,wpQuiet,hnw,xaQ,xa0];refine pY r _ (br fr o.dst undef) _ hd.2 hi.2 sM ?_ ?_ (ha.put hd.1 undef) (λa' h'=>hk a' h')
  ·rw[gm hi.1,hf]
  intro t ht;cases RZ:o.dst with
  |none=>rw[RZ]at ht;exact vZ t ht
  |some d=>
   rw[RZ]at ht;simp only[br];cases hb:Nat.beq t d
   ·simp only[xah];rcases xam.1 ht with rfl|ht
    ·simp at hb
    exact vZ t ht
   rfl
theorem di:∀(l:List Oper) (fr:Fr),eP l fr (tq l fr)
 | [],fr=>λs _=>rfl
 |o::r,fr=>λs hs=>by
  rw[dI,xax]at hs;rw[tq,di r _ s hs.2,gm hs.1]
end
end Go.Sx
namespace Go.Sx
open Go
section
variable {P:Program} {g:Gh} {ds:List Deferred}
theorem oZ(fr:Fr):∀f,ev fr (.func f)=.func (.func f) #[] #[]:=λ_=>rfl
theorem K8{o:Oper}{fr:Fr}{H:Hp}{k:zV->Prop}(h:opQ P g o (ev fr) H k):
  ∃v f args,(∀w,(execOp (ev fr) o).run P w=.ok (.enter f args) w)/\bD P g f args H (λe H'=>e=.returned v/\H'=H)/\k v:=by
 unfold opQ at h;split at h<;>try exact h.elim
 rename_i c hop;split at h<;>try exact h.elim
 ·rename_i f hc;cases fP:aU P f<;>simp only[fP,xaq,xah]at h;obtain⟨v,hs,hk⟩:=h;rw[mapList]at hs;refine⟨v,f,_,λw=>?_,hs,hk⟩;simp only[execOp,hop,resolve,hc,Deferred.ofValue,oZ,invoke];show(callFunc f ((#[]++c.args.map (ev fr))++ #[])).run P w=_;rw[xdb,xdE];exact eE fP _ w
 rename_i x _ hc;obtain⟨f,first,captured,hf,fP,v,hs,hk⟩:=h;rw[mapList]at hs;refine⟨v,f,_,λw=>?_,hs,hk⟩;simp only[execOp,hop,resolve,hc,Deferred.ofValue,hf,invoke];show(callFunc f (first++c.args.map (ev fr)++captured)).run P w=_;exact eE fP _ w
theorem ou.upon{o:Oper}{a:Act}{K:zV->Hp->Prop}{KP:List PanicEntry->Hp->Prop}{next:Act->World->Prop}{Q:Exit->Act->World->Prop}{r:Result Next}
 (h:ou P g K KP r)(hn:∀v H' w',Own g H' w'->K v H'->next (a.put o.dst v) w')(hp:∀ch H' w',Own g H' w'->KP ch H'->Q (.panic ch) a w'):o.upon P a next Q r:=by
 cases r with
 |ok n w'=>
  cases n<;>simp only[ou]at h<;>simp only[Oper.upon]
  case value v=>obtain⟨H',ho,hk⟩:=h;exact hn _ _ _ ho hk
  case skip=>obtain⟨H',ho,hk⟩:=h;exact hn _ _ _ ho hk
  case enter f args=>
   refine h.mono λe w'' ⟨H',ho,hk⟩=>?_;cases e with
   |returned v=>exact hn _ _ _ ho hk
   |panicked ch=>exact hp _ _ _ ho hk
   |outgrown=>exact hk.elim
 |halt x w'=>
  cases x<;>simp only[ou]at h
  case panic v=>obtain⟨H',ho,hk⟩:=h;exact hp _ _ _ ho hk
theorem eP.refl(l:List Oper)(fr:Fr):eP l fr fr:=λ_ _=>rfl
theorem eP.cons{o:Oper}{r:List Oper}{fr fr':Fr}{v:zV}(h:eP r (br fr o.dst v) fr'):eP (o::r) fr fr':=λs hs=>by
 rw[dI,xax]at hs;rw[h s hs.2,gm hs.1]
theorem cK{n:Nat}{ops:Array Oper}{gq:Bool}:∀(f:Nat) (q:Bool) (cur:Option (Nat×Bool)) (kn:List (Nat×Bool)) (l:List Oper) (fr:Fr) (H:Hp) (K:List (Nat×Bool)->Fr->Hp->Prop) (KP:List PanicEntry->Hp->Prop),
  eY P g n ops gq f q cur kn l fr H K KP->mr ops cur l fr->je kn fr->∀(a:Act) (w:World),cB ds n a fr->Own g H w->∀(rest:List Oper) (Q:Exit->Act->World->Prop),
  (∀a' w' qJ fr' H',cB ds n a' fr'->Own g H' w'->eP l fr fr'->je qJ fr'->K qJ fr' H'->wpList P ops Q rest a' w')->
  (∀ch a' w' fr' H',cB ds n a' fr'->Own g H' w'->KP ch H'->Q (.panic ch) a' w')->wpList P ops Q (l++rest) a w
 |0,_,_,_,_,_,_,_,_,h=>h.elim
 |f+1,q,cur,kn,[],fr,H,K,KP,h=>λ_ hkn a w ha hw rest Q hk _=>hk a w kn fr H ha hw (eP.refl _ _) hkn h
 |f+1,q,cur,kn,o::r,fr,H,K,KP,h=>by
  intro l6 hkn a w ha hw rest Q hk hp;unfold eY at h;cases hsg:cC o.guard cur<;>simp only[hsg,xaq,xah]at h
  case true=>
   have hg:=jl hsg;have pG:=l6.wanted hg ha;cases hd:eL n o.dst<;>simp only[hd,xaq,xah]at h;simp only[xaR,wpList,pG,xa7];refine .inl ?_;unfold Oper.wp;rw[ha.eval];cases A7:vY o.op<;>simp only[A7,xaq,xah]at h
   case true=>
    obtain⟨v,hk',hr,hv⟩:=oJ h;rw[hr w hw];exact cK f q cur _ r _ H K KP hk' (l6.tail λs hs=>gm hs) (hkn.up hv) _ w (ha.put hd v) hw rest Q (λa' w' qJ fr' H' h1 h2 h3 h5 h4=>hk a' w' qJ fr' H' h1 h2 h3.cons h5 h4) hp
   case false=>
    cases q<;>simp only[xaq,xah]at h
    case true=>
     obtain⟨v,f',args,hr,hs,hk'⟩:=K8 h;rw[hr w];refine(hs w hw).mono λe w'' ⟨H',ho,he,hH⟩=>?_;subst he;subst hH;exact cK f true cur _ r _ H' K KP hk' (l6.tail λs hs=>gm hs) (hkn.del _ _) _ w'' (ha.put hd v) ho rest Q (λa' w' qJ fr' H' h1 h2 h3 h5 h4=>hk a' w' qJ fr' H' h1 h2 h3.cons h5 h4) hp
    case false=>
     refine(vE (oZ fr) h w hw).upon (λv H' w' ho hk'=>?_) (λch H' w' ho hk'=>hp ch a w' fr H' ha ho hk');exact cK f false cur _ r _ H' K KP hk' (l6.tail λs hs=>gm hs) (hkn.del _ _) _ w' (ha.put hd v) ho rest Q (λa' w' qJ fr' H' h1 h2 h3 h5 h4=>hk a' w' qJ fr' H' h1 h2 h3.cons h5 h4) hp
  case false=>
   split at h<;>try exact h.elim
   rename_i j want hog;split at h<;>try exact h.elim
   rename_i s kG;generalize hG:ig cur (o::r)=G at h;generalize hR:jj cur (o::r)=R at h;have Lv:G++R=o::r:=by rw[<-hG,<-hR];exact tp _ _
   cases fI:(eL n (some s) &&ja n G&& !bQ G s&&nH ops s want [] G)<;>simp only[fI,xaq,xah]at h;simp only[xaD,xbE]at fI;obtain⟨⟨⟨hds,hdG⟩,Pm⟩,Xr⟩:=fI;rw[<-Lv,xaj];have aiA:∀fr',eP G fr fr'->∀s,bQ (o::r) s=false->fr' s=fr s:=λfr' ho s hs=>by
    rw[<-Lv,cj,xax]at hs;exact ho s hs.1
   have nW:∀fr',eP G fr fr'->mr ops cur R fr':=λfr' ho=>by
    unfold mr at l6⊢;split
    ·trivial
    obtain⟨t,h1,h2,h3⟩:=l6;have zj:=h3;rw[<-Lv,cj,xax]at zj;exact⟨t,h1,(ho t zj.1).trans h2,zj.2⟩
   have Nz:∀fr',eP G fr fr'->je (mO kn G) fr':=λfr' ho=>hkn.adv G ho;split at h
   ·rename_i b hb;have qL:=hkn s b hb;cases VW:(b==want)<;>simp only[VW,xaq,xah]at h
    ·have po:b= !want:=by cases b<;>cases want<;>simp_all
     subst po;refine oz G [] fr a hdG Pm Xr qL (λt ht=>by simp at ht) ha λa' ej=>?_;refine cK f q cur _ R _ H K KP h (nW _ (di G fr)) (Nz _ (di G fr)) a' w ej hw rest Q (λa2 w2 FN tJ H2 k1 k2 k3 k5 k4=>hk a2 w2 FN tJ H2 k1 k2 ?_ k5 k4) hp;intro x hx;have hx':=hx;rw[<-Lv,cj,xax]at hx';rw[k3 x hx'.2,di G fr x hx'.1]
    have po:b=want:=by cases b<;>cases want<;>simp_all
    subst po;refine cK f q o.guard kn G fr H _ KP h ?_ hkn a w ha hw (R++rest) Q ?_ hp
    ·rw[hog];exact⟨s,kG,qL,Pm⟩
    intro a' w' qJ fr' H' g1 g2 g3 g5 g4;refine cK f q cur qJ R fr' H' K KP g4 (nW fr' g3) g5 a' w' g1 g2 rest Q (λa2 w2 FN tJ H2 k1 k2 k3 k5 k4=>hk a2 w2 FN tJ H2 k1 k2 ?_ k5 k4) hp;intro x hx;have hx':=hx;rw[<-Lv,cj,xax]at hx';rw[k3 x hx'.2,g3 x hx'.1]
   rename_i Ze;cases hqq:(q||gq)<;>simp only[hqq,xaq,xah]at h
   case true=>
    split at h<;>try exact h.elim
    rename_i p r' ;have hpg:cC p.guard cur=true:=by
     have:∀l:List Oper,jj cur l=p::r'->cC p.guard cur=true:=by
      intro l;induction l with
      |nil=>intro e;simp[jj]at e
      |cons x y ih=>
       intro e;simp only[jj]at e;cases hx:cC x.guard cur<;>simp only[hx,xaq,xah]at e
       ·exact ih e
       simp only[xaw]at e;rw[<-e.1];exact hx
     exact this _ hR
    cases hpk:(sK p&&eL n p.dst)<;>simp only[hpk,xaq,xah]at h;simp only[xaD]at hpk;obtain⟨b,t,qL,h1,h2,h3⟩:=h;have ic:∀(a':Act) (w':World) (fr':Fr),cB ds n a' fr'->Own g H w'->eP G fr fr'->qj p fr'=.bool t->wpList P ops Q (p::r'++rest) a' w':=by
     intro a' w' fr' ej eU ho YZ;have pG:=(nW fr' ho).wanted (jl hpg) ej;simp only[xaR,wpList,pG,xa7];refine .inl ?_;unfold Oper.wp;rw[ej.eval,qh hpk.1 YZ w'];have RS:Bf G fr' fr=fr':=by
      funext x
      simp only[Bf];cases hx:bQ G x
      ·exact(ho x hx).symm
      rfl
     have zj:=h3 fr';rw[RS]at zj;refine cK f q cur _ r' _ H K KP zj ((nW fr' ho).tail λs hs=>gm hs) ((Nz fr' ho).del _ _) _ w' (ej.put hpk.2 _) eU rest Q (λa2 w2 FN tJ H2 g1 g2 g3 g5 g4=>hk a2 w2 FN tJ H2 g1 g2 ?_ g5 g4) hp;intro x hx;have hx':=hx;rw[<-Lv,cj,xax,dI,xax]at hx';rw[g3 x hx'.2.2,gm hx'.2.1,ho x hx'.1]
    by_cases VW:b=want
    ·subst VW;have sR:=h1 rfl;rw[k7 qL]at sR;refine cK f true o.guard _ G fr H _ _ sR ?_ (hkn.put qL) a w ha hw (p::r'++rest) Q ?_ ?_
     ·rw[hog];exact⟨s,kG,qL,Pm⟩
     ·intro a' w' qJ fr' H' g1 g2 g3 _ ⟨g4,g5⟩;subst g4;exact ic a' w' fr' g1 g2 g3 g5
     intro _ _ _ _ _ _ _ h0;exact h0.elim
    have po:b= !want:=by cases b<;>cases want<;>simp_all
    have oX:=h2 po;subst po;rw[k7 qL]at oX;refine oz G [] fr a hdG Pm Xr qL (λt ht=>by simp at ht) ha λa' ej=>?_;exact ic a' w _ ej hw (di G fr) oX
   case false=>
    obtain⟨b,qL,h1,h2⟩:=h;by_cases VW:b=want
    ·subst VW;have sR:=h1 rfl;rw[k7 qL]at sR;refine cK f q o.guard _ G fr H _ KP sR ?_ (hkn.put qL) a w ha hw (R++rest) Q ?_ hp
     ·rw[hog];exact⟨s,kG,qL,Pm⟩
     intro a' w' qJ fr' H' g1 g2 g3 g5 g4;refine cK f q cur qJ R fr' H' K KP g4 (nW fr' g3) g5 a' w' g1 g2 rest Q (λa2 w2 FN tJ H2 k1 k2 k3 k5 k4=>hk a2 w2 FN tJ H2 k1 k2 ?_ k5 k4) hp;intro x hx;have hx':=hx;rw[<-Lv,cj,xax]at hx';rw[k3 x hx'.2,g3 x hx'.1]
    have po:b= !want:=by cases b<;>cases want<;>simp_all
    have oX:=h2 po;subst po;rw[k7 qL]at oX;refine oz G [] fr a hdG Pm Xr qL (λt ht=>by simp at ht) ha λa' ej=>?_;refine cK f q cur _ R _ H K KP oX (nW _ (di G fr)) ((Nz _ (di G fr)).put (by rw[di G fr s Pm,qL])) a' w ej hw rest Q (λa2 w2 FN tJ H2 k1 k2 k3 k5 k4=>hk a2 w2 FN tJ H2 k1 k2 ?_ k5 k4) hp;intro x hx;have hx':=hx;rw[<-Lv,cj,xax]at hx';rw[k3 x hx'.2,di G fr x hx'.1]
theorem dM{n:Nat}{ops:Array Oper}{gq:Bool}:∀(f:Nat) (cur:Option (Nat×Bool)) (kn:List (Nat×Bool)) (l:List Oper) (fr:Fr) (H:Hp) (K:List (Nat×Bool)->Fr->Hp->Prop) (KP:List PanicEntry->Hp->Prop),
  eY P g n ops gq f true cur kn l fr H K KP->mr ops cur l fr->je kn fr->∀(a:Act),cB ds n a fr->∀(rest:List Oper) (Q:Act->Prop),
  (∀a' qJ fr',cB ds n a' fr'->eP l fr fr'->je qJ fr'->K qJ fr' H->wpQuiet P ops (Own g H) Q rest a')->wpQuiet P ops (Own g H) Q (l++rest) a
 |0,_,_,_,_,_,_,_,h=>h.elim
 |f+1,cur,kn,[],fr,H,K,KP,h=>λ_ hkn a ha rest Q hk=>hk a kn fr ha (eP.refl _ _) hkn h
 |f+1,cur,kn,o::r,fr,H,K,KP,h=>by
  intro l6 hkn a ha rest Q hk;unfold eY at h;cases hsg:cC o.guard cur<;>simp only[hsg,xaq,xah]at h
  case true=>
   have hg:=jl hsg;have pG:=l6.wanted hg ha;cases hd:eL n o.dst<;>simp only[hd,xaq,xah]at h;simp only[xaR,wpQuiet,pG,xa7];cases A7:vY o.op<;>simp only[A7,xaq,xah]at h
   case true=>
    obtain⟨v,hk',hr,hv⟩:=oJ h;refine⟨v,λw hw=>?_,?_⟩
    ·unfold Oper.quietAt;rw[ha.eval,hr w hw];exact⟨rfl,rfl⟩
    exact dM f cur _ r _ H K KP hk' (l6.tail λs hs=>gm hs) (hkn.up hv) _ (ha.put hd v) rest Q (λa' qJ fr' h1 h3 h5 h4=>hk a' qJ fr' h1 h3.cons h5 h4)
   case false=>
    obtain⟨v,f',args,hr,hs,hk'⟩:=K8 h;refine⟨v,λw hw=>?_,?_⟩
    ·unfold Oper.quietAt;rw[ha.eval,hr w];refine⟨rfl,(hs w hw).mono λe w'' ⟨H',ho,he,hH⟩=>?_⟩;subst hH;exact⟨he,ho⟩
    exact dM f cur _ r _ H K KP hk' (l6.tail λs hs=>gm hs) (hkn.del _ _) _ (ha.put hd v) rest Q (λa' qJ fr' h1 h3 h5 h4=>hk a' qJ fr' h1 h3.cons h5 h4)
  case false=>
   split at h<;>try exact h.elim
   rename_i j want hog;split at h<;>try exact h.elim
   rename_i s kG;generalize hG:ig cur (o::r)=G at h;generalize hR:jj cur (o::r)=R at h;have Lv:G++R=o::r:=by rw[<-hG,<-hR];exact tp _ _
   cases fI:(eL n (some s) &&ja n G&& !bQ G s&&nH ops s want [] G)<;>simp only[fI,xaq,xah]at h;simp only[xaD,xbE]at fI;obtain⟨⟨⟨hds,hdG⟩,Pm⟩,Xr⟩:=fI;rw[<-Lv,xaj];have nW:∀fr',eP G fr fr'->mr ops cur R fr':=λfr' ho=>by
    unfold mr at l6⊢;split
    ·trivial
    obtain⟨t,h1,h2,h3⟩:=l6;have zj:=h3;rw[<-Lv,cj,xax]at zj;exact⟨t,h1,(ho t zj.1).trans h2,zj.2⟩
   have Nz:∀fr',eP G fr fr'->je (mO kn G) fr':=λfr' ho=>hkn.adv G ho;split at h
   ·rename_i b hb;have qL:=hkn s b hb;cases VW:(b==want)<;>simp only[VW,xaq,xah]at h
    ·have po:b= !want:=by cases b<;>cases want<;>simp_all
     subst po;refine pY G [] fr a hdG Pm Xr qL (λt ht=>by simp at ht) ha λa' ej=>?_;refine dM f cur _ R _ H K KP h (nW _ (di G fr)) (Nz _ (di G fr)) a' ej rest Q (λa2 FN tJ k1 k3 k5 k4=>hk a2 FN tJ k1 ?_ k5 k4);intro x hx;have hx':=hx;rw[<-Lv,cj,xax]at hx';rw[k3 x hx'.2,di G fr x hx'.1]
    have po:b=want:=by cases b<;>cases want<;>simp_all
    subst po;refine dM f o.guard kn G fr H _ KP h ?_ hkn a ha (R++rest) Q ?_
    ·rw[hog];exact⟨s,kG,qL,Pm⟩
    intro a' qJ fr' g1 g3 g5 g4;refine dM f cur qJ R fr' H K KP g4 (nW fr' g3) g5 a' g1 rest Q (λa2 FN tJ k1 k3 k5 k4=>hk a2 FN tJ k1 ?_ k5 k4);intro x hx;have hx':=hx;rw[<-Lv,cj,xax]at hx';rw[k3 x hx'.2,g3 x hx'.1]
   rename_i Ze;simp only[Bool.true_or,xaq]at h;split at h<;>try exact h.elim
   rename_i p r' ;have hpg:cC p.guard cur=true:=by
    have:∀l:List Oper,jj cur l=p::r'->cC p.guard cur=true:=by
     intro l;induction l with
     |nil=>intro e;simp[jj]at e
     |cons x y ih=>
      intro e;simp only[jj]at e;cases hx:cC x.guard cur<;>simp only[hx,xaq,xah]at e
      ·exact ih e
      simp only[xaw]at e;rw[<-e.1];exact hx
    exact this _ hR
   cases hpk:(sK p&&eL n p.dst)<;>simp only[hpk,xaq,xah]at h;simp only[xaD]at hpk;obtain⟨b,t,qL,h1,h2,h3⟩:=h;have ic:∀(a':Act) (fr':Fr),cB ds n a' fr'->eP G fr fr'->qj p fr'=.bool t->wpQuiet P ops (Own g H) Q (p::r'++rest) a':=by
    intro a' fr' ej ho YZ;have pG:=(nW fr' ho).wanted (jl hpg) ej;simp only[xaR,wpQuiet,pG,xa7];refine⟨.bool t,λw hw=>?_,?_⟩
    ·unfold Oper.quietAt;rw[ej.eval,qh hpk.1 YZ w];exact⟨rfl,rfl⟩
    have RS:Bf G fr' fr=fr':=by
     funext x
     simp only[Bf];cases hx:bQ G x
     ·exact(ho x hx).symm
     rfl
    have zj:=h3 fr';rw[RS]at zj;refine dM f cur _ r' _ H K KP zj ((nW fr' ho).tail λs hs=>gm hs) ((Nz fr' ho).del _ _) _ (ej.put hpk.2 _) rest Q (λa2 FN tJ g1 g3 g5 g4=>hk a2 FN tJ g1 ?_ g5 g4);intro x hx;have hx':=hx;rw[<-Lv,cj,xax,dI,xax]at hx';rw[g3 x hx'.2.2,gm hx'.2.1,ho x hx'.1]
   by_cases VW:b=want
   ·subst VW;have sR:=h1 rfl;rw[k7 qL]at sR;refine dM f o.guard _ G fr H _ _ sR ?_ (hkn.put qL) a ha (p::r'++rest) Q ?_
    ·rw[hog];exact⟨s,kG,qL,Pm⟩
    intro a' qJ fr' g1 g3 _ ⟨_,g5⟩;exact ic a' fr' g1 g3 g5
   have po:b= !want:=by cases b<;>cases want<;>simp_all
   have oX:=h2 po;subst po;rw[k7 qL]at oX;refine pY G [] fr a hdG Pm Xr qL (λt ht=>by simp at ht) ha λa' ej=>?_;exact ic a' _ ej (di G fr) oX
end
end Go.Sx
namespace Go.Sx
open Go
section
variable {P:Program} {ops:Array Oper} {Q:Exit->Act->World->Prop} {md:Region.Mode} {S:Nat->World->World->Prop} {S0:World->Prop}
def de(P:Program)(md:Region.Mode)(ops:Array Oper)(Q:Exit->Act->World->Prop)(S:Nat->World->World->Prop):Nat->Array Bool->Act->World->Prop
 |0,listed,a,w=>Region.ready md ops listed=[]/\Q .normal a w
 |n+1,listed,a,w=>(Region.ready md ops listed=[]->Q .normal a w)/\
  ∀i∈Region.ready md ops listed,wpOp P ops Q i (λa' w'=>S i w w'/\de P md ops Q S n (listed.setIfInBounds i true) a' w') a w
theorem de.any:∀{n:Nat} {listed:Array Bool} {a:Act} {w:World},de P md ops Q S n listed a w->wpAny P md ops Q n listed a w
 |0,_,_,_,h=>h
 |_+1,_,_,_,h=>⟨h.1,λi hi=>wpOp_mono (λ_ _ h'=>h'.2.any) (h.2 i hi)⟩
theorem de.mono{S':Nat->World->World->Prop}(hS:∀j w w',S j w w'->S' j w w'):∀{n:Nat} {listed:Array Bool} {a:Act} {w:World},de P md ops Q S n listed a w->de P md ops Q S' n listed a w
 |0,_,_,_,h=>h
 |_+1,_,_,_,h=>⟨h.1,λi hi=>wpOp_mono (λ_ _ h'=>⟨hS _ _ _ h'.1,h'.2.mono hS⟩) (h.2 i hi)⟩
def QO(md:Region.Mode)(ops:Array Oper)(i j:Nat):Prop:=∀oj,ops[j]? =some oj->∀e∈oj.after,Region.binds md e=true->e.on≠i
def fy(md:Region.Mode)(ops:Array Oper)(listed:Array Bool):Prop:=∀j oj,ops[j]? =some oj->listed.getD j true=true->∀e∈oj.after,Region.binds md e=true->listed.getD e.on true=true
inductive oe(md:Region.Mode)(ops:Array Oper)(i:Nat):Nat->Prop
 |one {j:Nat} {oj:Oper} {e:Edge}:ops[j]? =some oj->e∈oj.after->Region.binds md e=true->e.on=i->oe md ops i j
 |more {j:Nat} {oj:Oper} {e:Edge}:ops[j]? =some oj->e∈oj.after->Region.binds md e=true->oe md ops i e.on->oe md ops i j
theorem Be{a:Array Bool}{i:Nat}(h:a.getD i false=true):a.getD i true=true:=by
 rw[xat]at*;cases hg:a[i]? with
 |none=>rfl
 |some b=>rw[hg]at h;simpa using h
theorem tG{a:Array Bool}{i k:Nat}(h:a.getD k true=true):(a.setIfInBounds i true).getD k true=true:=by
 by_cases e:i=k
 ·subst e;rw[xat,xdP];split<;>rfl
 rw[getD_set_ne true e];exact h
theorem fy.waits{listed:Array Bool}(hc:fy md ops listed){i j:Nat}(h:oe md ops i j):listed.getD j true=true->listed.getD i true=true:=by
 induction h with
 |one h1 h2 h3 h4=>intro h;rw[<-h4];exact hc _ _ h1 h _ h2 h3
 |more h1 h2 h3 _ ih=>intro h;exact ih (hc _ _ h1 h _ h2 h3)
theorem fy.ready{listed:Array Bool}(hc:fy md ops listed){i j:Nat}(hj:j∈Region.ready md ops listed)(h:oe md ops i j):listed.getD i true=true:=by
 obtain⟨_,oj,ji,aI⟩:=mem_ready.1 hj;cases h with
 |one h1 h2 h3 h4=>rw[ji]at h1;cases h1;rw[<-h4];exact Be (aI _ h2 h3)
 |more h1 h2 h3 h4=>rw[ji]at h1;cases h1;exact hc.waits h4 (Be (aI _ h2 h3))
theorem fy.step{listed:Array Bool}(hc:fy md ops listed){j:Nat}(hj:j∈Region.ready md ops listed):fy md ops (listed.setIfInBounds j true):=by
 intro k ok hk hl e he hb;by_cases VS:j=k
 ·subst VS;obtain⟨_,oj,ji,aI⟩:=mem_ready.1 hj;rw[hk]at ji;cases ji;exact tG (Be (aI e he hb))
 rw[getD_set_ne true VS]at hl;exact tG (hc k ok hk hl e he hb)
theorem fy.none(n:Nat)(h:ops.size=n):fy md ops (Array.replicate n false):=by
 intro j oj hj hl;exfalso;have hlt:=(xaU.1 hj).1;rw[xat,xc0,xad zO]at hl;cases hl
theorem de.first{i:Nat}{oi:Oper}{v:zV}(hi:ops[i]? =some oi)(hsel:Region.noSelect ops=true)(hQ:∀c a w,Q (.panic c) (a.put oi.dst v) w->Q (.panic c) a w)
 (hSi:∀w,S0 w->S i w w)(hS:∀j oj w w',ops[j]? =some oj->j≠i->¬oe md ops i j->S0 w->S j w w'->S0 w'):∀(n:Nat) (listed:Array Bool) (a:Act) (w:World),fy md ops listed->
   (∀j oj,ops[j]? =some oj->j≠i->listed.getD j true=false->QO md ops i j->oi.apart ops oj=true)->i∈Region.ready md ops listed->YieldsIf P ops S0 oi v a->S0 w->
   de P md ops Q S n (listed.setIfInBounds i true) (a.put oi.dst v) w->de P md ops Q S (n+1) listed a w:=by
 have sel:=Region.noSelect_spec hsel;intro n;induction n with
 |zero=>
  intro listed a w hc hfree hr hy h0 h;refine⟨λe=>absurd hr (by rw[e];simp),λj hj=>?_⟩;by_cases e:j=i
  ·rw[e];exact hy.wpOp hi h0 ⟨hSi _ h0,h⟩
  exact absurd (ready_mono hj e) (by rw[h.1];simp)
 |succ n ih=>
  intro listed a w hc hfree hr hy h0 h;refine⟨λe=>absurd hr (by rw[e];simp),λj hj=>?_⟩;by_cases e:j=i
  ·rw[e];exact hy.wpOp hi h0 ⟨hSi _ h0,h⟩
  obtain⟨hun,oj,ji,aI⟩:=mem_ready.1 hj;have hno:QO md ops i j:=λo ho x hx hb he=>by
   rw[ji]at ho;cases ho;have h1:=aI x hx hb;have h2:=(mem_ready.1 hr).1;rw[he]at h1;rw[xat]at h1 h2;cases hg:listed[i]? with
   |none=>rw[hg]at h1;simp at h1
   |some y=>rw[hg]at h1 h2;simp at h1 h2;rw[h2]at h1;cases h1
  have hnw:¬oe md ops i j:=λhw=>by
   have h1:=hc.ready hj hw;rw[(mem_ready.1 hr).1]at h1;cases h1
  refine wpOp_mono ?_ (wpOp_putIf ji (hfree j oj ji e hun hno) (λcs b=>sel i oi cs b hi) (λcs b=>sel j oj cs b ji) hQ hy (h.2 j (ready_mono hj e)));rintro a' w' ⟨hy',hs',jh⟩;refine⟨hs',ih _ _ _ (hc.step hj) (λk ok hk Zh VA Dw=>hfree k ok hk Zh ?_ Dw) (ready_mono hr (xba e)) hy' (hS j oj w w' ji e hnw h0 hs') (by rw[Array.setIfInBounds_comm _ _ e];exact jh)⟩;by_cases VS:j=k
  ·rw[<-VS];exact hun
  rw[<-VA,getD_set_ne true VS]
theorem de.take{i:Nat}{oi:Oper}{v:zV}{n:Nat}{listed:Array Bool}{a:Act}{w:World}(hc:fy md ops listed)(hi:ops[i]? =some oi)(hsel:Region.noSelect ops=true)(hf:Region.free md ops listed i=true)
 (hr:(Region.ready md ops listed).contains i=true)(hQ:∀c a w,Q (.panic c) (a.put oi.dst v) w->Q (.panic c) a w)(hSi:∀w,S0 w->S i w w)(hS:∀j oj w w',ops[j]? =some oj->j≠i->¬oe md ops i j->S0 w->S j w w'->S0 w')
 (hy:YieldsIf P ops S0 oi v a)(h0:S0 w)(h:de P md ops Q S n (listed.setIfInBounds i true) (a.put oi.dst v) w):de P md ops Q S (n+1) listed a w:=
 de.first hi hsel hQ hSi hS n listed a w hc (λj oj h1 h2 h3 h4=>Region.free_spec hi hf j oj h1 h2 h3 (h4 oj h1)) (by simpa using hr) hy h0 h
theorem de.all{rs:zL}{n:Nat}{listed:Array Bool}{a:Act}{w:World}(hr:Region.ready md ops listed=rs)(hne:rs≠[])
 (h:∀i∈rs,wpOp P ops Q i (λa' w'=>S i w w'/\de P md ops Q S n (listed.setIfInBounds i true) a' w') a w):de P md ops Q S (n+1) listed a w:=
 ⟨λh0=>absurd (hr▸h0) hne,hr▸h⟩
theorem de.done{listed:Array Bool}{a:Act}{w:World}(hr:Region.ready md ops listed=[])(h:Q .normal a w):∀n,de P md ops Q S n listed a w
 |0=>⟨hr,h⟩
 |_+1=>⟨λ_=>h,by rw[hr];simp⟩
def onB(j:Oper)(i:Nat):Bool:=j.after.toList.any λe=>Nat.beq e.on i&&Region.binds .any e
def isN(P:Program):Op->Bool
 | .move _| .assign _| .pick .. | .nilCheck _| .fieldAddr .. | .field .. | .indexAddr .. | .unOp .. =>true
 | .slice t _ _ _ none=>match P.underlying t with|some (.slice _)=>true|_=>false
 | .binOp _ t _ _ _=>match P.underlying t with
  |some d=>match Bs d with| .other=>false|_=>true
  |none=>true
 |_=>false
theorem CI{g:Gh}{o:Oper}(h:isN P o.op=true)(ρ:Operand->zV)(H H':Hp)(k:zV->Prop):AS P g o ρ H k=AS P g o ρ H' k:=by
 obtain⟨d,op,t,p,a,gd⟩:=o;cases op<;>first|rfl|(simp only[isN]at h;first|cases h|skip)
 case binOp op t x y z=>
  simp only[AS];cases hu:P.underlying t with
  |none=>rfl
  |some d=>
   simp only[hu]at h;cases hb:Bs d<;>simp only[hb]at h⊢;cases h
 case slice t x lo hi m=>
  cases m with
  |none=>
   simp only[AS];cases hu:P.underlying t with
   |none=>simp[hu]at h
   |some d=>cases d<;>first|rfl|(exfalso;simp[hu]at h)
  |some m=>cases h
def xZ(P:Program)(o:Op):Bool:=vY o&& !isN P o
def Lb(P:Program)(ops:Array Oper)(j:Nat):Bool:=match ops[j]? with
 |some oj=>(List.range ops.size).any λi=>match ops[i]? with|some oi=>xZ P oi.op&& !onB oj i&& !Nat.beq i j|none=>false
 |none=>true
def pR(ops:Array Oper)(i:Nat):Nat->Nat->Bool
 |0,_=>false
 |n+1,j=>match ops[j]? with
  |some oj=>oj.after.toList.any λe=>Region.binds .any e&& (Nat.beq e.on i||pR ops i n e.on)
  |none=>false
theorem ti{i:Nat}:∀{n j:Nat},pR ops i n j=true->oe .any ops i j
 |0,j,h=>by simp[pR]at h
 |n+1,j,h=>by
  unfold pR at h;split at h
  ·rename_i oj ji;obtain⟨e,he,h2⟩:=xcw.1 h;simp only[xaD,xa1]at h2;rcases h2.2 with h3|h3
   ·exact .one ji (xcX.1 he) h2.1 (xaG h3)
   exact .more ji (xcX.1 he) h2.1 (ti h3)
  cases h
def tw(P:Program)(ops:Array Oper)(j:Nat):Bool:=(List.range ops.size).any λi=>match ops[i]? with|some oi=>xZ P oi.op&& !pR ops i 6 j&& !Nat.beq i j|none=>false
def L6(P:Program)(g:Gh)(R:Hp)(ops:Array Oper)(j:Nat)(w w':World):Prop:=∀oj,ops[j]? =some oj->(vY oj.op=true->w'=w)/\(vY oj.op=false->Own g [] w'/\(tw P ops j=true->Own g R w->Own g R w'))
def qH(P:Program)(g:Gh)(Xs:List Hp)(ops:Array Oper)(j:Nat)(w w':World):Prop:=∀X∈Xs,L6 P g X ops j w w'
theorem mL{i j:Nat}{oi:Oper}(hi:ops[i]? =some oi)(hp:xZ P oi.op=true)(hne:j≠i)(h:¬oe .any ops i j):tw P ops j=true:=by
 unfold tw;rw[xcw];refine⟨i,xaM.2 (xaU.1 hi).1,?_⟩;simp only[hi,hp,xbR,xaD,xbE];refine⟨?_,?_⟩
 ·cases hb:pR ops i 6 j
  ·rfl
  exact absurd (ti hb) h
 cases hb:Nat.beq i j
 ·rfl
 exact absurd (xaG hb).symm hne
theorem vK{j:Nat}(h:tw P ops j=true):Lb P ops j=true:=by
 unfold tw at h;obtain⟨i,hi,h2⟩:=xcw.1 h;unfold Lb;split
 ·rename_i oj ji;refine xcw.2 ⟨i,hi,?_⟩;split at h2
  ·rename_i oi oV;simp only[xaD,xbE]at h2⊢;refine⟨⟨h2.1.1,?_⟩,h2.2⟩;cases hb:onB oj i
   ·rfl
   have h3:=h2.1.2;unfold pR at h3;simp only[ji]at h3;unfold onB at hb;obtain⟨e,he,h4⟩:=xcw.1 hb;rw[<-xel,xcw]at h3;refine absurd ⟨e,he,?_⟩ h3;simp only[xaD,xa1]at h4⊢;exact⟨h4.2,.inl h4.1⟩
  cases h2
 rfl
end
end Go.Sx
namespace Go.Sx
open Go
section
variable {P:Program} {g:Gh} {ds:List Deferred}
def Mb(b:Bool)(p q:Prop):Prop:=cond b (p/\q) q
theorem Mb.of{b:Bool}{p q:Prop}(h:Mb b p q):(b=true->p)/\q:=by
  cases b
  · exact⟨λe=>(by cases e),h⟩
  · exact⟨λ_=>h.1,h.2⟩
def QS(P:Program)(ops:Array Oper)(T:zL)(i:Nat):Bool:=cond T.isEmpty (Lb P ops i) (tw P ops i)
theorem QR{ops:Array Oper}{T:zL}{i:Nat}(h:tw P ops i=true):QS P ops T i=true:=by
  unfold QS;cases T.isEmpty
  · exact h
  · exact vK h
def N6(P:Program)(g:Gh)(n:Nat)(ops:Array Oper)(R:Hp)(K:Fr->Hp->Prop):zL->Array Bool->Fr->Hp->Prop
  | [],listed,fr,H=>cond (Region.ready .any ops listed).isEmpty (K fr H) False
  |i::r,listed,fr,H=>
    match ops[i]? with
    |none=>False
    |some o=>
      cond (eL n o.dst&&o.guard.isNone)
        (cond (vY o.op)
          (cond (Region.free .any ops listed i&& (Region.ready .any ops listed).contains i)
            (AS P g o (ev fr) R λv=>N6 P g n ops R K r (listed.setIfInBounds i true) (br fr o.dst v) H) False)
          (cond (Region.ready .any ops listed==[i])
            (M1 P g o (ev fr) H (λv H'=>Mb (Lb P ops i) (aL H' R) (N6 P g n ops R K r (listed.setIfInBounds i true) (br fr o.dst v) H')) (λ_ _=>False)) False)) False
def r6(Q:Exit->Act->World->Prop):Exit->Act->World->Prop
  | .panic _,_,_=>False
  |e,a,w=>Q e a w
theorem kx{o:Oper}(h:o.guard.isNone=true)(y:Nat->Option Bool):Region.wanted o y=true:=by
  unfold Region.wanted;cases hg:o.guard<;>simp_all
theorem Own.bt{g:Gh}{H:Hp}{w:World}(h:Own g H w):Own g [] w:=Own.right (A:=H) (B:=[]) (by simpa using h)
theorem gB{listed:Array Bool}{i k:Nat}(hun:listed.getD i true=false)(h:(listed.setIfInBounds i true).getD k true=false):listed.getD k true=false:=by
  by_cases e:i=k
  · rw[<-e];exact hun
  · rwa [getD_set_ne true e]at h
theorem rR{n:Nat}{ops:Array Oper}{R:Hp}{K:Fr->Hp->Prop}{Q:Exit->Act->World->Prop}(hs:Region.noSelect ops=true)(yc:Fr)
   (hk:∀a w fr H,cB ds n a fr->Own g H w->eP ops.toList yc fr->K fr H->Q .normal a w):
    ∀(l:zL) (listed:Array Bool) (fr:Fr) (H:Hp),N6 P g n ops R K l listed fr H->∀(fuel:Nat),l.length<=fuel->fy .any ops listed->∀(a:Act) (w:World),cB ds n a fr->Own g H w->((∃k ok,ops[k]? =some ok/\xZ P ok.op=true/\listed.getD k true=false)->Own g R w)->eP ops.toList yc fr->
      de P .any ops (r6 Q) (L6 P g R ops) fuel listed a w
  | [],listed,fr,H,h=>by
    intro fuel _ jw a w ha hw hR ho;unfold N6 at h;cases hr:(Region.ready .any ops listed).isEmpty<;>simp only[hr,xaq,xah]at h;exact de.done (Q:=r6 Q) (by simpa using hr) (hk a w fr H ha hw ho h) fuel
  |i::r,listed,fr,H,h=>by
    intro fuel hfuel jw a w ha hw hR ho;unfold N6 at h;split at h<;>try exact h.elim
    rename_i o oV;have hmem:o∈ops.toList:=xcX.2 (Array.mem_of_getElem? oV);have hout:∀v,eP ops.toList yc (br fr o.dst v):=λv s hs'=>by
      rw[gm,ho s hs'];have:∀l:List Oper,o∈l->bQ l s=false->bQ [({(default:Oper)with dst:=o.dst})] s=false:=by
        intro l;induction l with
        |nil=>intro h;simp at h
        |cons x y ih=>
          intro hm hi;rw[dI,xax]at hi;rcases xam.1 hm with rfl|hm
          · exact hi.1
          · exact ih hm hi.2
      exact this _ hmem hs'
    cases hc:(eL n o.dst&&o.guard.isNone)<;>simp only[hc,xaq,xah]at h;simp only[xaD]at hc;obtain⟨fuel,rfl⟩:∃f,fuel=f+1:=⟨fuel-1,by simp only[xaH]at hfuel;omega⟩;have Ga:r.length<=fuel:=by simp only[xaH]at hfuel;omega
    cases A7:vY o.op<;>simp only[A7,xaq,xah]at h
    case true=>
      cases kH:(Region.free .any ops listed i&& (Region.ready .any ops listed).contains i)<;>simp only[kH,xaq,xah]at h;simp only[xaD]at kH;have hun:=(mem_ready.1 (by simpa using kH.2:i∈Region.ready .any ops listed)).1;have iU:∀w,L6 P g R ops i w w:=λw oj nw=>⟨λ_=>rfl,λhn=>(by rw[oV]at nw;cases nw;rw[A7]at hn;cases hn)⟩;cases hn:isN P o.op
      case true=>
        rw[CI hn (ev fr) R []]at h;obtain⟨v,hk',hr⟩:=lq h;refine de.take jw (S0:=Own g []) oV hs kH.1 kH.2 (λ_ _ _ h=>h) (λw _=>iU w) (λj oj w w' ji hj hno h0 hk=>?_) (.inl ⟨kx hc.2 _,λw' eU=>by rw[ha.eval];exact hr w' eU⟩) hw.bt ?_
        · cases A4:vY oj.op
          · exact((hk oj ji).2 A4).1
          · rw[(hk oj ji).1 A4];exact h0
        · refine rR hs yc hk r _ _ H hk' fuel Ga (jw.step (by simpa using kH.2)) _ w (ha.put hc.1 v) hw ?_ (hout v)
          rintro⟨k,ok,uh,rJ,pI⟩;exact hR ⟨k,ok,uh,rJ,gB hun pI⟩
      case false=>
        obtain⟨v,hk',hr⟩:=lq h;have hrd:xZ P o.op=true:=by simp[xZ,A7,hn]
        have ZC:Own g R w:=hR ⟨i,o,oV,hrd,hun⟩;refine de.take jw (S0:=Own g R) oV hs kH.1 kH.2 (λ_ _ _ h=>h) (λw _=>iU w) (λj oj w w' ji hj hno h0 hk=>?_) (.inl ⟨kx hc.2 _,λw' eU=>by rw[ha.eval];exact hr w' eU⟩) ZC ?_
        · cases A4:vY oj.op
          · exact((hk oj ji).2 A4).2 (mL oV hrd hj hno) h0
          · rw[(hk oj ji).1 A4];exact h0
        · exact rR hs yc hk r _ _ H hk' fuel Ga (jw.step (by simpa using kH.2)) _ w (ha.put hc.1 v) hw (λ_=>ZC) (hout v)
    case false=>
      cases kH:(Region.ready .any ops listed==[i])<;>simp only[kH,xaq,xah]at h;have hrd:=xcM.1 kH;have EE:i∈Region.ready .any ops listed:=by rw[hrd];simp
      refine de.all hrd zI λj hj=>?_;simp only[xaI]at hj;subst hj;unfold wpOp;simp only[oV,kx hc.2,xa7];refine .inl ?_;unfold Oper.wp;rw[ha.eval];refine(vE (oZ fr) h w hw).upon (λv H' w' cA hb=>?_) (λch H' w' _ h0=>h0.elim);obtain⟨he,hk'⟩:=hb.of;refine⟨λoj nw=>⟨λhp=>(by rw[oV]at nw;cases nw;rw[A7]at hp;cases hp),λ_=>⟨cA.bt,λhn _=>he (vK hn) _ _ cA⟩⟩,rR hs yc hk r _ _ H' hk' fuel Ga (jw.step EE) _ w' (ha.put hc.1 v) cA ?_ (hout v)⟩;rintro⟨k,ok,uh,rJ,pI⟩;refine he (vK ?_) _ _ cA;have Zh:j≠k:=λe=>by
        subst e;rw[xat,xdP]at pI;have:=(mem_ready.1 EE).1;rw[xat]at this;split at pI
        · simp at pI
        · rename_i hlt;rw[xcu zO]at this;simp at this
      rw[getD_set_ne true Zh]at pI;refine mL uh rJ Zh λhw=>?_;rw[jw.ready EE hw]at pI;cases pI
abbrev Mk:=Obj×(Nat->zV)
def TJ(elem size bytes:Nat)(zero:zV)(l c:zV)(k:Mk->Prop):Prop:=
  ∃kl kc ln cn,l=.int kl (ln:Nat)/\c=.int kc (cn:Nat)/\ln<=cn/\(cn:Int)<=9223372036854775807/\cn*bytes<=281474976710656/\
    k (.cells (madeCells zero.cells (cn*size)) elem (0,0),λb=>.slice (some ⟨b,0,none⟩) ln cn)
def TO(P:Program)(t len:Nat)(parts:List (Nat×zV))(k:Mk->Prop):Prop:=
  ∃cs e n z,P.underlying t=some (.slice e)/\dO P e=some n/\fS P e=some z/\len*n<=2^24/\
      Instr.fill (λi=>some (i*n,n)) ((Array.range (len*n)).map (z.cells[· %z.cells.size]!)) parts=some cs/\k (.cells cs e (0,0),λb=>.slice (some ⟨b,0,none⟩) len len)
def Claim(P:Program)(o:Oper)(ρ:Operand->zV)(k:Mk->Prop):Prop:=
  match o.op with
  | .alloc t=>match fS P t with
    |some z=>k (.cells z.cells t (0,0),λb=>.pointer (some ⟨b,0,none⟩))
    |none=>False
  | .makeMap _ none=>k (.map #[] 0,λb=>.map (some b))
  | .makeSlice t l c=>match P.underlying t with
    |some (.slice e)=>match dO P e,wO P e,fS P e with
      |some n,some b,some z=>TJ e n b z (ρ l) (ρ c) k
      |_,_,_=>False
    |_=>False
  | .buildSlice t len parts=>TO P t len (parts.toList.map λp=>(p.1,ρ p.2)) k
  |_=>False
def Ad(P:Program)(o:Oper)(ρ:Operand->zV)(x:Mk):Prop:=∀w,(execOp ρ o).run P w=.ok (.value (x.2 w.heap.size)) (w.alloc x.1)
theorem Claim.makes{o:Oper}{ρ:Operand->zV}{k:Mk->Prop}(h:Claim P o ρ k):∃x,Ad P o ρ x/\k x:=by
  unfold Claim at h;split at h
  · rename_i t hop
    split at h<;>try exact h.elim
    rename_i z hz;obtain⟨i,hi,x7⟩:=cH hz;refine⟨_,λw=>?_,h⟩;simp only[execOp,hop];simp[Instr.alloc,dU hi x7,newVar,newRow]
  · rename_i t hop
    refine⟨_,λw=>?_,h⟩;simp only[execOp,hop];simp[Instr.makeMap]
  · rename_i t l c hop
    split at h<;>try exact h.elim
    rename_i e ht;split at h<;>try exact h.elim
    rename_i n b z hn hb hz;obtain⟨i,hi,hin⟩:=bF hn;obtain⟨i',hi',x7⟩:=cH hz;obtain⟨i2,F8,ze⟩:=ob hb;have e1:i'=i:=xbp (hi'.symm.trans hi);have e2:i2=i:=xbp (F8.symm.trans hi);subst e1;subst e2;obtain⟨kl,kc,ln,cn,hl,hc,hlc,cJ,hby,hk⟩:=h;subst hin;subst ze;refine⟨_,λw=>?_,hk⟩;have e1:IntKind.i64.wrap (ln:Int)=ln:=IntWalk.i64_in _ zO;have e2:IntKind.i64.wrap (cn:Int)=cn:=IntWalk.i64_in _ zO;have e3:¬((i2.bytes:Int)*(cn:Int)>281474976710656):=by
      have:((cn*i2.bytes:Nat):Int)<=281474976710656:=by omega
      rw[Int.mul_comm];push_cast at this;omega
    have e4:¬((cn:Int)<ln):=by omega
    simp only[execOp,hop];by_cases h0:cn*i2.size=0
    · simp[Instr.makeSlice,run_underlying ht,asInt,asIntOf,typeInfo,hi,hl,hc,e1,e2,e3,e4,sizeOf,zeroValue,x7,newRow,madeCells,h0,show¬((cn:Int)<0)from by omega,show¬((ln:Int)<0)from by omega]
      have:Array.range 0=#[]:=rfl;simp[this]
    · simp[Instr.makeSlice,run_underlying ht,asInt,asIntOf,typeInfo,hi,hl,hc,e1,e2,e3,e4,sizeOf,zeroValue,x7,newRow,madeCells,h0,show¬((cn:Int)<0)from by omega,show¬((ln:Int)<0)from by omega]
  · rename_i t len parts hop
    obtain⟨cs,e,n,z,ht,hn,hz,hl,hf,hk⟩:=h;obtain⟨i,hi,hin⟩:=bF hn;obtain⟨i',hi',x7⟩:=cH hz;have:i'=i:=xbp (hi'.symm.trans hi);subst this;subst hin;refine⟨_,λw=>?_,hk⟩;have hl':¬(len*i'.size>2^24):=by omega
    have zc:(parts.map λ(x:Nat×Operand)=>(x.1,ρ x.2)).toList=parts.toList.map λp=>(p.1,ρ p.2):=by rw[xdU]
    by_cases h0:len*i'.size=0
    · simp only[execOp,hop,Instr.buildSlice,Sem.run_bind,run_underlying ht,Result.andThen_ok,run_sizeOf hi,hl',xa0,h0,xa7,Sem.run_pure]
      rw[h0]at hf;have YY:Array.range 0=#[]:=rfl;simp only[YY,xer,List.map_toArray,xck]at hf⊢;rw[zc,hf];simp[newRow]
    · simp only[execOp,hop,Instr.buildSlice,Sem.run_bind,run_underlying ht,Result.andThen_ok,run_sizeOf hi,hl',xa0,h0,dU hi x7,Sem.run_pure]
      simp[hf,newRow]
  · exact h.elim
abbrev Kw:=List (Nat×Mk)
def marks:Kw->Nat->Array Bool->Array Bool
  | [],_,l=>l
  |x::r,i,l=>marks r i (cond (Nat.beq x.1 i) l (l.setIfInBounds x.1 true))
def fx(ops:Array Oper)(o:Oper)(i:Nat)(listed:Array Bool):Kw->Bool
  | []=>true
  |x::r=>(Nat.beq x.1 i||listed.getD x.1 true||(match ops[x.1]? with|some of=>of.apart ops o|none=>false)) &&fx ops o i listed r
def fQ:Kw->Nat->Option Mk
  | [],_=>none
  |x::r,i=>cond (Nat.beq x.1 i) (some x.2) (fQ r i)
def Tr(listed:Array Bool):Kw->Bool
  | []=>true
  |x::r=>listed.getD x.1 false&&Tr listed r
inductive Hn
  |e
  |h(m:Nat)(L I:zL)(a b:Hn)
def Hn.m:Hn->Nat| .e=>0| .h m _ _ _ _=>m
def Hn.L:Hn->zL| .e=>[]| .h _ L _ _ _=>L
def Hn.I:Hn->zL| .e=>[]| .h _ _ I _ _=>I
def Hn.a:Hn->Hn| .e=>.e| .h _ _ _ a _=>a
def Hn.b:Hn->Hn| .e=>.e| .h _ _ _ _ b=>b
def Br(v:zV)(t f:Prop):Prop:=∃b,v=.bool b/\(b=true->t)/\(b=false->f)
def YJ(p:Oper)(fr:Fr):zV:=
  match p.op with
  | .move x=>ev fr x
  | .assign x=>ev fr x
  |_=>qj p fr
def Ns(p:Oper):Bool:=match p.op with| .pick .. =>true| .move _=>true| .assign _=>true|_=>false
theorem Q6{p:Oper}{fr:Fr}{t:Bool}(hp:Ns p=true)(h:YJ p fr=.bool t)(w:World):(execOp (ev fr) p).run P w=.ok (.value (.bool t)) w:=by
  unfold Ns at hp;unfold YJ at h;split at h
  · rename_i x hop;simp only[execOp,hop,h];rfl
  · rename_i x hop;simp only[execOp,hop,h];rfl
  · rename_i h1 h2
    split at hp
    · rename_i hop;exact qh (by unfold sK;rw[hop]) h w
    · rename_i x hop;exact absurd hop (h1 x)
    · rename_i x hop;exact absurd hop (h2 x)
    · cases hp
theorem Rg{p:Oper}(hp:Ns p=true):vY p.op=true:=by
  unfold Ns at hp;split at hp<;>first|(rename_i hop;rw[hop];rfl)|cases hp
def Aq(ops:Array Oper)(fr:Fr)(o:Oper):Option Bool:=
  match o.guard with
  |none=>some true
  |some (j,want)=>match eV ops j with
    |none=>none
    |some s=>match fr s with
      | .bool b=>some (b==want)
      | .tuple _=>some false
      |_=>none
def pA(P:Program)(g:Gh)(n:Nat)(ops:Array Oper)(R:Hp)(K:Fr->Hp->Prop):Hn->Kw->Array Bool->Fr->Hp->Prop
  | .e,cl,listed,fr,H=>cond ((Region.ready .any ops listed).isEmpty&&Tr listed cl) (K fr H) False
  | .h m L T pa pb,cl,listed,fr,H=>
    match L with
    | [i]=>
      match ops[i]? with
      |none=>False
      |some o=>
        cond (Nat.beq m 1)
          (cond (eL n o.dst&&o.guard.isNone&& !vY o.op&& !listed.getD i true&&fx ops o i listed cl&& (match fQ cl i with|none=>true|some _=>false))
            (Claim P o (ev fr) λx=>pA P g n ops R K pa ((i,x)::cl) listed fr H) False)
          (cond (eL n o.dst&&fx ops o i listed cl&& (Region.ready .any ops listed).contains i)
            (match Aq ops fr o with
            |none=>False
            |some false=>cond (Region.free .any ops listed i&& (match fQ cl i with|none=>true|some _=>false)) (pA P g n ops R K pa cl (listed.setIfInBounds i true) (br fr o.dst undef) H) False
            |some true=>
              cond (Nat.beq m 3) (cond (Ns o&&Region.free .any ops listed i) (match YJ o fr with
                | .bool b=>pA P g n ops R K pa cl (listed.setIfInBounds i true) (br fr o.dst (.bool b)) H
                |_=>False) False)
              (cond (vY o.op)
                (cond (Region.free .any ops listed i)
                  (AS P g o (ev fr) R λv=>cond (Nat.beq m 0) (pA P g n ops R K pa cl (listed.setIfInBounds i true) (br fr o.dst v) H)
                    (Br v (pA P g n ops R K pa cl (listed.setIfInBounds i true) (br fr o.dst (.bool true)) H) (pA P g n ops R K pb cl (listed.setIfInBounds i true) (br fr o.dst (.bool false)) H))) False)
                (cond (Region.ready .any ops (marks cl i listed)==[i])
                  (match fQ cl i with
                    |some x=>Ov H x.1 λb H'=>pA P g n ops R K pa cl (listed.setIfInBounds i true) (br fr o.dst (x.2 b)) H'
                    |none=>∀F,M1 P (g.add F) o (ev fr) H (λv H'=>Mb (QS P ops T i) (aL H' R) (pA P g n ops R K pa cl (listed.setIfInBounds i true) (br fr o.dst v) H')) (λ_ _=>False)) False))) False)
    | []=>cond (Nat.beq m 4) (∃R',aL H R'/\aL R' R/\pA P g n ops R' K pa cl listed fr H) False
    |_=>False
theorem SE{cl:Kw}{i:Nat}{x:Mk}(h:fQ cl i=some x):(i,x)∈cl:=by
  induction cl with
  |nil=>simp[fQ]at h
  |cons y r ih=>
    simp only[fQ]at h;cases hb:Nat.beq y.1 i<;>simp only[hb,xaq,xah]at h
    · exact xbA _ (ih h)
    · have:=xaG hb
      simp only[xas]at h;subst this;subst h;exact xbS
theorem NS{cl:Kw}{i:Nat}(h:i∈cl.map Prod.fst):∃x,fQ cl i=some x:=by
  induction cl with
  |nil=>simp at h
  |cons y r ih=>
    simp only[fQ];cases hb:Nat.beq y.1 i
    · simp only[xah]
      rw[xaB,xam]at h;rcases h with h|h
      · subst h;simp at hb
      · exact ih h
    · exact⟨_,rfl⟩
theorem jS{cl:Kw}{i:Nat}{x:Mk}(h:fQ cl i=some x):i∈cl.map Prod.fst:=xan.2 ⟨_,SE h,rfl⟩
theorem yS{l:Kw}{i:Nat}{b:Array Bool}{k:Nat}:(marks l i b)[k]? =if k∈l.map Prod.fst/\k≠i/\k<b.size then some true else b[k]? :=by
  induction l generalizing b with
  |nil=>simp[marks]
  |cons y r ih=>
    simp only[marks];cases hy:Nat.beq y.1 i
    · have hne:y.1≠i:=λe=>by rw[e]at hy;simp at hy
      simp only[xah,ih,Array.size_setIfInBounds];by_cases hk:k∈r.map Prod.fst/\k≠i/\k<b.size
      · rw[xad hk,xad ⟨by rw[xaB];exact xbA _ hk.1,hk.2⟩]
      · rw[xac hk]
        by_cases e:y.1=k
        · subst e
          by_cases hlt:y.1<b.size
          · rw[xad ⟨by simp,hne,hlt⟩,xbM hlt]
          · rw[xac (λh=>hlt h.2.2),xcu zP,xcu zO]
        · rw[xbQ e,xac]
          rintro⟨h1,h2⟩;rw[xaB,xam]at h1;rcases h1 with h1|h1
          · exact e h1.symm
          · exact hk ⟨h1,h2⟩
    · have he:=xaG hy
      simp only[xaq,ih];by_cases hk:k∈r.map Prod.fst/\k≠i/\k<b.size
      · rw[xad hk,xad ⟨by rw[xaB];exact xbA _ hk.1,hk.2⟩]
      · rw[xac hk,xac]
        rintro⟨h1,h2,h3⟩;rw[xaB,xam]at h1;rcases h1 with h1|h1
        · exact h2 (h1.trans he)
        · exact hk ⟨h1,h2,h3⟩
theorem fY{ops:Array Oper}{o:Oper}{i:Nat}{listed:Array Bool}{l:Kw}(h:fx ops o i listed l=true){f:Nat}(hf:f∈l.map Prod.fst)(hne:f≠i)(hun:listed.getD f true=false):
    ∃of,ops[f]? =some of/\of.apart ops o=true:=by
  induction l with
  |nil=>simp at hf
  |cons x r ih=>
    simp only[fx,xaD,xa1]at h;rw[xaB]at hf;rcases xam.1 hf with rfl|hf
    · rcases h.1 with(h1|h1)|h1
      · exact absurd (xaG h1) hne
      · rw[hun]at h1;simp at h1
      · split at h1
        · rename_i of ho;exact⟨of,ho,h1⟩
        · simp at h1
    · exact ih h.2 hf
theorem GN{ops:Array Oper}{x y:Oper}(h:x.apart ops y=true):y.apart ops x=true:=by
  unfold Oper.apart at*;cases hx:x.dst<;>cases hy:y.dst<;>simp_all;exact λe=>h.1.2 e.symm
theorem sV{ops:Array Oper}{l l':Array Bool}{i:Nat}(h:Region.free .any ops l i=true)(hm:∀k,l.getD k true=true->l'.getD k true=true):Region.free .any ops l' i=true:=by
  unfold Region.free at*;split at h
  · simp at h
  · rename_i oi oV
    rw[xc1]at h⊢;intro j hj;have:=h j hj;simp only[xa1]at this⊢;rcases this with(h1|h1)|h1
    · exact .inl (.inl h1)
    · exact .inl (.inr (hm j h1))
    · exact .inr h1
abbrev Early:=List (Nat×Nat×Mk)
def XQ(E:Early):Hp:=E.map λx=>(x.2.1,x.2.2.1)
structure aah(P:Program)(n:Nat)(ops:Array Oper)(listed:Array Bool)(cl:Kw)(fr:Fr)(j:Nat)(x:Mk)(o:Oper):Prop where
  op:ops[j]? =some o
  CQ:vY o.op=false
  dst:eL n o.dst=true
  gd:o.guard.isNone=true
  makes:Ad P o (ev fr) x
  far:∀k y,fQ cl k=some y->k≠j->listed.getD k true=false->∃ok,ops[k]? =some ok/\ok.apart ops o=true
structure mj(P:Program)(n:Nat)(ops:Array Oper)(cl:Kw)(listed la:Array Bool)(E:Early)(fr fa:Fr):Prop where
  mem:∀x∈E,fQ cl x.1=some x.2.2/\listed.getD x.1 true=false
  nd:(E.map Prod.fst).Nodup
  la:∀k,la[k]? =if k∈E.map Prod.fst then some true else listed[k]?
  out:∀s,(∀x∈E,eV ops x.1≠some s)->fa s=fr s
  at_:∀x∈E,∀d,eV ops x.1=some d->fa d=x.2.2.2 x.2.1
  cl:∀j x,fQ cl j=some x->listed.getD j true=false->∃o,aah P n ops listed cl fr j x o
section
variable {n:Nat} {ops:Array Oper} {cl:Kw} {listed la:Array Bool} {E:Early} {fr fa:Fr}
theorem mj.more(h:mj P n ops cl listed la E fr fa){k:Nat}{b:Bool}(hk:listed.getD k b=true):la.getD k b=true:=by
  have:=h.la k;rw[xat]at hk⊢;rw[this];split
  · rfl
  · exact hk
theorem mj.ready(h:mj P n ops cl listed la E fr fa){i:Nat}(hi:i∉E.map Prod.fst)(hr:i∈Region.ready .any ops listed):i∈Region.ready .any ops la:=by
  rw[mem_ready]at hr⊢;obtain⟨h1,o,ho,aI⟩:=hr;refine⟨?_,o,ho,λe he hb=>h.more (aI e he hb)⟩;have:=h.la i;rw[xat]at h1⊢;rw[this,xac hi];exact h1
theorem W0{i k:Nat}(h:(listed.setIfInBounds i true).getD k true=false):i≠k/\listed.getD k true=false:=by
  by_cases e:i=k
  · subst e
    rw[xat]at h;rcases xep i listed.size with hl|hl
    · rw[xbM hl]at h;cases h
    · rw[xcu (by simpa using hl)]at h;cases h
  · exact⟨e,by rwa [getD_set_ne true e]at h⟩
theorem Ad.congr{o o':Oper}{x:Mk}{v:zV}(h:Ad P o (ev fr) x)(hs:∀cs b,o.op≠.select cs b)(hap:o.apart ops o'=true):Ad P o (ev (br fr o'.dst v)) x:=by
  have e:execOp (ev (br fr o'.dst v)) o=execOp (ev fr) o:=by
    refine execOp_congr o hs λy hy=>?_;cases y with
    |tmp t=>
      obtain⟨_,_,h3⟩:=Oper.apart_spec hap;cases hd:o'.dst with
      |none=>rfl
      |some d=>
        have:=h3 d hd;have hne:Nat.beq t d=false:=by
          cases hb:Nat.beq t d
          · rfl
          · have e:=xaG hb;subst e
            refine absurd ?_ this;exact xae _ (List.mem_filterMap.2 ⟨Operand.tmp t,by simpa using hy,rfl⟩)
        simp only[ev,br,hne,xah]
    |const v=>rfl
    |global g=>rfl
    |func f=>rfl
  intro w;rw[e];exact h w
theorem SZ(hs:Region.noSelect ops=true)(fP:∀j x,fQ cl j=some x->listed.getD j true=false->∃o,aah P n ops listed cl fr j x o){i:Nat}{o:Oper}(hap:fx ops o i listed cl=true)(v:zV):
    ∀j x,fQ cl j=some x->(listed.setIfInBounds i true).getD j true=false->∃oj,aah P n ops (listed.setIfInBounds i true) cl (br fr o.dst v) j x oj:=by
  intro j x hx hun;obtain⟨hne,VA⟩:=W0 hun;obtain⟨oj,h⟩:=fP j x hx VA;obtain⟨oj',cA,agy⟩:=fY hap (jS hx) (xba hne) VA;rw[h.op]at cA;cases cA;exact⟨oj,h.op,h.CQ,h.dst,h.gd,h.makes.congr (λcs b=>Region.noSelect_spec hs j oj cs b h.op) agy,λk y hk hkj RL=>h.far k y hk hkj (W0 RL).2⟩
theorem mj.step(hs:Region.noSelect ops=true)(h:mj P n ops cl listed la E fr fa){i:Nat}{o:Oper}(oV:ops[i]? =some o)(hi:i∉E.map Prod.fst)
   (wj:fx ops o i listed cl=true)(v:zV):mj P n ops cl (listed.setIfInBounds i true) (la.setIfInBounds i true) E (br fr o.dst v) (br fa o.dst v):=by
  have hap:∀x∈E,∃of,ops[x.1]? =some of/\of.apart ops o=true:=λx hx=>
      fY wj (jS (h.mem x hx).1) (λe=>hi (e▸xaT hx)) (h.mem x hx).2
  have hsz:la[i]? =listed[i]? :=by rw[h.la i,xac hi]
  refine⟨λx hx=>⟨(h.mem x hx).1,?_⟩,h.nd,λk=>?_,λs hs=>?_,λx hx d hd=>?_,SZ hs h.cl wj v⟩
  · have hne:i≠x.1:=λe=>hi (e▸xaT hx)
    rw[getD_set_ne true hne];exact(h.mem x hx).2
  · by_cases e:i=k
    · subst e
      rw[xac hi,xcp,xcp];simp only[xa7];have:i<la.size↔i<listed.size:=by
        constructor
        · intro hlt;rw[xbx hlt]at hsz;exact(xaU.1 hsz.symm).1
        · intro hlt;rw[xbx hlt]at hsz;exact(xaU.1 hsz).1
      by_cases hlt:i<la.size
      · rw[xad hlt,xad (this.1 hlt)]
      · rw[xac hlt,xac (λx=>hlt (this.2 x))]
    · rw[xbQ e,xbQ e];exact h.la k
  · cases hd:o.dst with
    |none=>exact h.out s hs
    |some d=>
      simp only[br];cases Nat.beq s d
      · exact h.out s hs
      · rfl
  · obtain⟨of,VL,hap⟩:=hap x hx
    obtain⟨h1,h2,h3⟩:=Oper.apart_spec hap;have Y9:of.dst=some d:=by simpa[eV,VL]using hd
    have:=h2 d Y9;cases hdo:o.dst with
    |none=>exact h.at_ x hx d hd
    |some d'=>
      have hne:Nat.beq d d'=false:=by
        cases hb:Nat.beq d d'
        · rfl
        · have e:=xaG hb;subst e;exact absurd hdo this
      simp only[br,hne,xah];exact h.at_ x hx d hd
theorem mj.exec(h:mj P n ops cl listed la E fr fa){o:Oper}
   (hap:∀x∈E,∃of,ops[x.1]? =some of/\of.apart ops o=true)(hs:∀cs b,o.op≠.select cs b):execOp (ev fa) o=execOp (ev fr) o:=by
  refine execOp_congr o hs λx hx=>?_;cases x with
  |tmp t=>
    refine h.out t λy hy e=>?_;obtain⟨of,VL,hap⟩:=hap y hy;obtain⟨h1,_,_⟩:=Oper.apart_spec hap;refine h1 t (by simpa[eV,VL]using e) ?_;exact xae _ (List.mem_filterMap.2 ⟨.tmp t,by simpa using hx,rfl⟩)
  |const v=>rfl
  |global g=>rfl
  |func f=>rfl
theorem mj.early(h:mj P n ops cl listed la E fr fa){j b:Nat}{x:Mk}(hj:fQ cl j=some x)(RM:j∉E.map Prod.fst)(hun:listed.getD j true=false)
   {o:Oper}(ho:ops[j]? =some o):mj P n ops cl listed (la.setIfInBounds j true) ((j,b,x)::E) fr (br fa o.dst (x.2 b)):=by
  obtain⟨o',fP⟩:=h.cl j x hj hun;have cA:=fP.op;rw[ho]at cA;cases cA;have Zx:∀y∈E,∃of,ops[y.1]? =some of/\of.apart ops o=true:=λy hy=>
    fP.far y.1 _ (h.mem y hy).1 (λe=>RM (e▸xaT hy)) (h.mem y hy).2
  have afV:j<la.size:=by
    have hl:=h.la j;rw[xac RM]at hl;have h2:j<listed.size:=by
      rcases xep j listed.size with h2|h2
      · exact h2
      · rw[xat,xcu h2]at hun;simp at hun
    rw[xbx h2]at hl;exact(xaU.1 hl).1
  refine⟨λy hy=>?_,?_,λk=>?_,λs hs=>?_,λy hy d hd=>?_,h.cl⟩
  · rcases xam.1 hy with rfl|hy
    · exact⟨hj,hun⟩
    · exact h.mem y hy
  · rw[xaB,xaX];exact⟨RM,h.nd⟩
  · by_cases e:j=k
    · subst e;rw[xad zI,xbM afV]
    · rw[xbQ e,h.la k]
      by_cases hk:k∈E.map Prod.fst
      · rw[xad hk,xad (by rw[xaB];exact xbA _ hk)]
      · rw[xac hk,xac]
        rw[xaB,xam];rintro(h1|hk')
        · exact e h1.symm
        · exact hk hk'
  · have hne:=hs (j,b,x) zI
    simp only[eV,ho]at hne;rw[show br fa o.dst (x.2 b) s=fa s from ?_]
    · exact h.out s λy hy=>hs y (by simp[hy])
    · cases hd:o.dst with
      |none=>rfl
      |some d=>
        rw[hd]at hne;have:Nat.beq s d=false:=by
          cases hb:Nat.beq s d
          · rfl
          · exact absurd (xcj some (xaG hb).symm) hne
        simp only[br,this,xah]
  · rcases xam.1 hy with rfl|hy
    · simp only[eV,ho]at hd
      rw[hd];simp[br]
    · obtain⟨of,VL,hap⟩:=Zx y hy
      obtain⟨_,h2,_⟩:=Oper.apart_spec hap;have Y9:of.dst=some d:=by simpa[eV,VL]using hd
      have:=h2 d Y9;cases hdo:o.dst with
      |none=>exact h.at_ y hy d hd
      |some d'=>
        have hne:Nat.beq d d'=false:=by
          cases hb:Nat.beq d d'
          · rfl
          · have e:=xaG hb;subst e;exact absurd hdo this
        simp only[br,hne,xah];exact h.at_ y hy d hd
theorem mj.Au(hs:Region.noSelect ops=true){E1 E2:Early}{j b:Nat}{x:Mk}(h:mj P n ops cl listed la (E1++(j,b,x)::E2) fr fa){o:Oper}(ho:ops[j]? =some o)(wj:fx ops o j listed cl=true):
    mj P n ops cl (listed.setIfInBounds j true) la (E1++E2) (br fr o.dst (x.2 b)) fa:=by
  have fO:=h.nd;rw[xaJ,xaB]at fO;have TW:j∉(E1++E2).map Prod.fst:=by
    have:=(xaS.nodup_iff.1 fO);rw[xaX]at this;rw[xaJ];exact this.1
  have hsub:∀y,y∈E1++E2->y∈E1++(j,b,x)::E2:=λy hy=>by
    rcases xao.1 hy with hy|hy<;>simp[hy]
  have hjl:j<listed.size:=by
    have h2:=(h.mem (j,b,x) zI).2;rcases xep j listed.size with h3|h3
    · exact h3
    · simp only at h2;rw[xat,xcu h3]at h2;simp at h2
  refine⟨λy hy=>⟨(h.mem y (hsub y hy)).1,?_⟩,?_,λk=>?_,λs hs=>?_,λy hy d hd=>h.at_ y (hsub y hy) d hd,SZ hs h.cl wj _⟩
  · have hne:j≠y.1:=λe=>TW (e▸xaT hy)
    rw[getD_set_ne true hne];exact(h.mem y (hsub y hy)).2
  · have:=(xaS.nodup_iff.1 fO)
    rw[xaX]at this;rw[xaJ];exact this.2
  · have hk:=h.la k
    by_cases e:j=k
    · subst e
      rw[xad zI]at hk;rw[hk,xac TW,xbM hjl]
    · rw[xbQ e,hk]
      have:k∈(E1++(j,b,x)::E2).map Prod.fst↔k∈(E1++E2).map Prod.fst:=by
        simp only[xaJ,xaB,xao,xam];constructor
        · rintro(h|rfl|h)
          · exact .inl h
          · exact absurd rfl e
          · exact .inr h
        · rintro(h|h)
          · exact .inl h
          · exact .inr (.inr h)
      simp only[this]
  · by_cases e:eV ops j=some s
    · rw[h.at_ (j,b,x) zI s e]
      simp only[eV,ho]at e;rw[e];simp[br]
    · rw[h.out s λy hy=>?_]
      · simp only[eV,ho]at e
        cases hd:o.dst with
        |none=>rfl
        |some d=>
          rw[hd]at e;have:Nat.beq s d=false:=by
            cases hb:Nat.beq s d
            · rfl
            · exact absurd (xcj some (xaG hb).symm) e
          simp only[br,this,xah]
      · rcases xao.1 hy with hy|hy
        · exact hs y (by simp[hy])
        · rcases xam.1 hy with rfl|hy
          · exact e
          · exact hs y (by simp[hy])
theorem mj.adz(h:mj P n ops cl listed la E fr fa){i:Nat}{o:Oper}{x:Mk}(ho:ops[i]? =some o)(hd:eL n o.dst=true)(hg:o.guard.isNone=true)(hp:vY o.op=false)(hun:listed.getD i true=false)
   (hap:fx ops o i listed cl=true)(hno:fQ cl i=none)(hm:Ad P o (ev fr) x):mj P n ops ((i,x)::cl) listed la E fr fa:=by
  have hne:∀j y,fQ cl j=some y->j≠i:=λj y hj e=>by subst e;rw[hno]at hj;cases hj
  have hex:∀j y,fQ cl j=some y->fQ ((i,x)::cl) j=some y:=λj y hj=>by
    have:Nat.beq i j=false:=by
      cases hb:Nat.beq i j
      · rfl
      · exact absurd (xaG hb).symm (hne j y hj)
    simp only[fQ,this,xah];exact hj
  have Zp:∀j y,fQ ((i,x)::cl) j=some y->(j=i/\y=x)\/(j≠i/\fQ cl j=some y):=λj y hj=>by
    simp only[fQ]at hj;cases hb:Nat.beq i j<;>simp only[hb,xaq,xah]at hj
    · exact .inr ⟨λe=>by subst e;simp at hb,hj⟩
    · exact .inl ⟨(xaG hb).symm,by simpa using hj.symm⟩
  refine⟨λy hy=>⟨hex _ _ (h.mem y hy).1,(h.mem y hy).2⟩,h.nd,h.la,h.out,h.at_,λj y hj hu=>?_⟩;rcases Zp j y hj with⟨rfl,rfl⟩|⟨Zj,Xz⟩
  · refine⟨o,ho,hp,hd,hg,hm,λk z hk hkj RL=>?_⟩
    rcases Zp k z hk with⟨rfl,rfl⟩|⟨_,hk⟩
    · exact absurd rfl hkj
    · exact fY hap (jS hk) hkj RL
  · obtain⟨oj,hc⟩:=h.cl j y Xz hu
    refine⟨oj,hc.op,hc.CQ,hc.dst,hc.gd,hc.makes,λk z hk hkj RL=>?_⟩;rcases Zp k z hk with⟨rfl,rfl⟩|⟨_,hk⟩
    · obtain⟨oj',h1,h2⟩:=fY hap (jS Xz) Zj hu
      rw[hc.op]at h1;cases h1;exact⟨o,ho,GN h2⟩
    · exact hc.far k z hk hkj RL
end
theorem NU{E1 E2:Early}{y:Nat×Nat×Mk}:(XQ (E1++y::E2)).Perm ((y.2.1,y.2.2.1)::XQ (E1++E2)):=by
  unfold XQ;rw[xaJ,xaB,xaJ];exact xaS
def cnt:List Bool->Nat
  | []=>0
  |b::r=>cond b 0 1+cnt r
theorem LK:∀(l:List Bool) (i:Nat),l[i]? =some false->cnt (l.set i true)+1=cnt l
  | [],i,h=>by simp at h
  |b::r,0,h=>by simp only[xcK,xas]at h;subst h;simp only[xcl,cnt,xaq,xah];omega
  |b::r,i+1,h=>by
    simp only[List.getElem?_cons_succ]at h;have:=LK r i h;simp only[xed,cnt];omega
theorem yd(n:Nat):cnt (List.replicate n false)=n:=by
  induction n with
  |zero=>rfl
  |succ n ih=>simp only[xc6,cnt,ih,xah];omega
theorem gj{a:Array Bool}{i:Nat}(h:a.getD i true=false):a[i]? =some false:=by
  rw[xat]at h;cases hg:a[i]? with
  |none=>rw[hg]at h;simp at h
  |some b=>rw[hg]at h;simpa using h
theorem oa{a:Array Bool}{i fuel:Nat}(h:a.getD i true=false)(hf:cnt a.toList<=fuel):∃f,fuel=f+1/\cnt (a.setIfInBounds i true).toList<=f:=by
  have h1:=gj h;have h2:a.toList[i]? =some false:=by rw[xbf];exact h1
  have:=LK _ _ h2;refine⟨fuel-1,by omega,?_⟩;have:(a.setIfInBounds i true).toList=a.toList.set i true:=by simp
  rw[this];omega
theorem On{listed:Array Bool}{l:Kw}(h:Tr listed l=true){f:Nat}(hf:f∈l.map Prod.fst):listed.getD f false=true:=by
  induction l with
  |nil=>simp at hf
  |cons x r ih=>
    simp only[Tr,xaD]at h;rw[xaB]at hf;rcases xam.1 hf with rfl|hf
    · exact h.1
    · exact ih h.2 hf
theorem Wj{a:Array Bool}{i:Nat}(h:a.getD i false=true):a.getD i true=true:=by
  rw[xat]at*;cases hg:a[i]? with
  |none=>rfl
  |some b=>rw[hg]at h;simpa using h
theorem eO{n:Nat}{ops:Array Oper}{R:Hp}{Xs:List Hp}{K:Fr->Hp->Prop}{Q:Exit->Act->World->Prop}(hs:Region.noSelect ops=true)(BO:R∈Xs)(Pp:∀X∈Xs,aL R X)(yc:Fr)
   (hk:∀a w fr H,cB ds n a fr->Own g H w->eP ops.toList yc fr->K fr H->Q .normal a w):
    ∀(fuel:Nat) (l:Hn) (cl:Kw) (listed:Array Bool) (fr:Fr) (H:Hp),pA P g n ops R K l cl listed fr H->∀(E:Early) (la:Array Bool) (fa:Fr),cnt la.toList<=fuel->mj P n ops cl listed la E fr fa->fy .any ops la->
      ∀(a:Act) (w:World),cB ds n a fa->Own (g.add (XQ E)) H w->((∃k ok,ops[k]? =some ok/\xZ P ok.op=true/\la.getD k true=false)->Own g R w)->eP ops.toList yc fr->
      de P .any ops (r6 Q) (qH P g Xs ops) fuel la a w
  |fuel,.e,cl,listed,fr,H,h=>by
    intro E la fa hfuel hE jw a w ha hw hR ho;unfold pA at h;cases hr:((Region.ready .any ops listed).isEmpty&&Tr listed cl)<;>simp only[hr,xaq,xah]at h;simp only[xaD]at hr;have hr':Region.ready .any ops listed=[]:=by simpa using hr.1
    have hE0:E=[]:=by
      cases E with
      |nil=>rfl
      |cons x y=>
        have h1:=hE.mem x zI;have h2:=Wj (On hr.2 (jS h1.1));rw[h1.2]at h2;cases h2
    subst hE0;have hfa:fa=fr:=by funext s;exact hE.out s zI
    subst hfa;refine de.done (Q:=r6 Q) ?_ (hk a w fa H ha hw ho h) fuel;rw[xcA]at hr'⊢;intro k hk';refine hr' k ?_;rw[mem_ready]at hk'⊢;obtain⟨h1,o,h2,h3⟩:=hk';have hla:=λk=>hE.la k;simp only[xck,xaP,xa0]at hla;refine⟨?_,o,h2,λe he hb=>?_⟩
    · rw[xat,<-hla,<-xat];exact h1
    · rw[xat,<-hla,<-xat];exact h3 e he hb
  |fuel,.h m L T pa pb,cl,listed,fr,H,h=>by
    intro E la fa hfuel hE jw a w ha hw hR ho;have h0:=h;unfold pA at h;split at h<;>try exact h.elim
    rotate_left
    · cases h4:Nat.beq m 4<;>simp only[h4,xaq,xah]at h
      obtain⟨R',RA,qs,hk'⟩:=h;exact(eO (R:=R') (Xs:=R'::Xs) hs (.head _) (λX hX=>by
        rcases xam.1 hX with rfl|hX
        · exact .refl _
        · exact qs.trans (Pp X hX)) yc hk fuel pa cl listed fr H hk' E la fa hfuel hE jw a w ha hw (λ_=>RA _ _ (Own.fp.2 hw).left) ho).mono λj w w' hK X hX=>hK X (.tail _ hX)
    rename_i i;split at h<;>try exact h.elim
    rename_i o oV;cases h1:Nat.beq m 1<;>simp only[h1,xaq,xah]at h
    case true=>
      cases hc:(eL n o.dst&&o.guard.isNone&& !vY o.op&& !listed.getD i true&&fx ops o i listed cl&& (match fQ cl i with|none=>true|some _=>false))<;>simp only[hc,xaq,xah]at h;simp only[xaD,xbE]at hc;obtain⟨⟨⟨⟨⟨hd,hg⟩,hp⟩,hun⟩,hap⟩,hno⟩:=hc;have Dw:fQ cl i=none:=by
        split at hno
        · assumption
        · cases hno
      obtain⟨x,hm,hk'⟩:=h.makes;exact eO hs BO Pp yc hk fuel pa _ listed fr H hk' E la fa hfuel (hE.adz oV hd hg hp hun hap Dw hm) jw a w ha hw hR ho
    have hmem:o∈ops.toList:=xcX.2 (Array.mem_of_getElem? oV);have hout:∀v,eP ops.toList yc (br fr o.dst v):=λv s hs'=>by
      rw[gm,ho s hs'];have:∀l:List Oper,o∈l->bQ l s=false->bQ [({(default:Oper)with dst:=o.dst})] s=false:=by
        intro l;induction l with
        |nil=>intro h;simp at h
        |cons x y ih=>
          intro hm hi;rw[dI,xax]at hi;rcases xam.1 hm with rfl|hm
          · exact hi.1
          · exact ih hm hi.2
      exact this _ hmem hs'
    cases hc:(eL n o.dst&&fx ops o i listed cl&& (Region.ready .any ops listed).contains i)<;>simp only[hc,xaq,xah]at h;simp only[xaD]at hc;obtain⟨⟨hd,wj⟩,afC⟩:=hc;have EE:i∈Region.ready .any ops listed:=by simpa using afC
    have hun:=(mem_ready.1 EE).1;have hap:i∉E.map Prod.fst->∀x∈E,∃of,ops[x.1]? =some of/\of.apart ops o=true:=λhi x hx=>
      fY wj (jS (hE.mem x hx).1) (λe=>hi (e▸xaT hx)) (hE.mem x hx).2
    have hsel:∀cs b,o.op≠.select cs b:=λcs b=>Region.noSelect_spec hs i o cs b oV;have aa2:∀j,j∈Region.ready .any ops la->j∉E.map Prod.fst/\listed.getD j true=false:=λj hj=>by
      have h1:=gj (mem_ready.1 hj).1;have h2:=hE.la j;by_cases RM:j∈E.map Prod.fst
      · rw[xad RM,h1]at h2;cases h2
      · rw[xac RM,h1]at h2
        exact⟨RM,by rw[xat,<-h2];rfl⟩
    have early:∀f',fuel=f'+1->(∀j,la.getD j true=false->cnt (la.setIfInBounds j true).toList<=f')->∀j x,j∈Region.ready .any ops la->fQ cl j=some x->
        wpOp P ops (r6 Q) j (λa' w'=>qH P g Xs ops j w w'/\de P .any ops (r6 Q) (qH P g Xs ops) f' (la.setIfInBounds j true) a' w') a w:=by
      intro f' TY l7 j x hj hjf;obtain⟨RM,hjl⟩:=aa2 j hj;obtain⟨oj,fP⟩:=hE.cl j x hjf hjl;have ji:=fP.op;have A4:=fP.CQ;have hgj:=fP.gd;have agl:execOp (ev fa) oj=execOp (ev fr) oj:=hE.exec (λy hy=>fP.far y.1 _ (hE.mem y hy).1 (λe=>RM (e▸xaT hy)) (hE.mem y hy).2) (λcs b=>Region.noSelect_spec hs j oj cs b ji);unfold wpOp;simp only[ji,kx hgj,xa7];refine .inl ?_;unfold Oper.wp;rw[ha.eval,agl,fP.makes w];simp only[Oper.upon];have V0:∀{A:Hp},Own g A w->Own g A (w.alloc x.1):=λhA=>(hA.alloc x.1).tail;refine⟨λX _ oj' nw=>⟨λhp=>?_,λ_=>⟨V0 (Own.fp.2 hw).bt,λ_ h1=>V0 h1⟩⟩,?_⟩
      · rw[ji]at nw;cases nw;rw[A4]at hp;cases hp
      · have DE:=hE.early (b:=w.heap.size) hjf RM hjl ji
        refine eO hs BO Pp yc hk f' (.h m [i] T pa pb) cl listed fr H h0 ((j,w.heap.size,x)::E) _ _ (l7 j (mem_ready.1 hj).1) DE (jw.step hj) _ _ (ha.put fP.dst _) ?_ ?_ ho
        · have h1:=hw.alloc x.1
          have h2:Own (g.add (XQ E)) (H++[(w.heap.size,x.1)]) (w.alloc x.1):=h1.perm (by exact(xbe (l₁:=[(w.heap.size,x.1)]) (l₂:=H)));have h3:=Own.fp.1 h2;exact h3
        · rintro⟨k,ok,uh,rJ,pI⟩
          refine V0 (hR ⟨k,ok,uh,rJ,gB (mem_ready.1 hj).1 pI⟩)
    have pG:∀b,Aq ops fr o=some b->i∉E.map Prod.fst->Region.wanted o (yielded ops a.tmps)=b:=by
      intro b hb wg;unfold Aq at hb;unfold Region.wanted;split at hb
      · rename_i hg;simp only[hg];simpa using hb
      · rename_i j want hg
        simp only[hg];split at hb<;>try (cases hb;done)
        rename_i s kG;rw[my ha kG];have qL:fa s=fr s:=hE.out s λy hy e=>by
          obtain⟨of,VL,hap⟩:=hap wg y hy;obtain⟨h1,_,_⟩:=Oper.apart_spec hap;refine h1 s (by simpa[eV,VL]using e) ?_;refine xab _ ?_;rw[hg];unfold eV at kG;cases hj:ops[j]? with
          |none=>rw[hj]at kG;cases kG
          |some oj=>rw[hj]at kG;simp only at kG;simp[hj,kG]
        rw[qL];split at hb
        · rename_i c hc;rw[hc];simp only[xas]at hb;subst hb;cases c<;>cases want<;>rfl
        · rename_i c hc;rw[hc];simp only[xas]at hb;subst hb;cases want<;>rfl
        · cases hb
    split at h<;>try exact h.elim
    · -- not wanted
      rename_i hwd;cases kH:(Region.free .any ops listed i&& (match fQ cl i with|none=>true|some _=>false))<;>simp only[kH,xaq,xah]at h;simp only[xaD]at kH;have Dw:fQ cl i=none:=by
        have:=kH.2;split at this
        · assumption
        · cases this
      have wg:i∉E.map Prod.fst:=λhm=>by
        obtain⟨x,hx,e⟩:=xan.1 hm;have:=(hE.mem x hx).1;rw[e,Dw]at this;cases this
      have mR:=hE.ready wg EE;have sL:=(mem_ready.1 mR).1;obtain⟨f',rfl,l7⟩:=oa sL hfuel;have hfree:=sV (l':=la) kH.1 (λk hk=>hE.more hk);have NF:(Region.ready .any ops la).contains i=true:=by simpa using mR
      refine de.take jw (S0:=Own g []) oV hs hfree NF (λ_ _ _ h=>h) (λw hw X _ oj ji=>⟨λ_=>rfl,λ_=>⟨hw,λ_ h=>h⟩⟩) (λj oj w w' ji hj hno h0 hk=>?_) (.inr ⟨pG false hwd wg,rfl⟩) (Own.fp.2 hw).bt ?_
      · cases A4:vY oj.op
        · exact((hk R BO oj ji).2 A4).1
        · rw[(hk R BO oj ji).1 A4];exact h0
      · refine eO hs BO Pp yc hk f' pa cl _ _ H h E _ _ l7 (hE.step hs oV wg wj _) (jw.step mR) _ w (ha.put hd _) hw ?_ (hout _)
        rintro⟨k,ok,uh,rJ,pI⟩;exact hR ⟨k,ok,uh,rJ,gB sL pI⟩
    rename_i hwd;have hgw:=pG true hwd;have XE:∀v f' FL a' w',(cond (Nat.beq m 0) (pA P g n ops R K pa cl (listed.setIfInBounds i true) (br fr o.dst v) H)
                    (Br v (pA P g n ops R K pa cl (listed.setIfInBounds i true) (br fr o.dst (.bool true)) H) (pA P g n ops R K pb cl (listed.setIfInBounds i true) (br fr o.dst (.bool false)) H)))->
        cnt FL.toList<=f'->mj P n ops cl (listed.setIfInBounds i true) FL E (br fr o.dst v) (br fa o.dst v)->fy .any ops FL->cB ds n a' (br fa o.dst v)->Own (g.add (XQ E)) H w'->
        ((∃k ok,ops[k]? =some ok/\xZ P ok.op=true/\FL.getD k true=false)->Own g R w')->f'<fuel->de P .any ops (r6 Q) (qH P g Xs ops) f' FL a' w':=by
      intro v f' FL a' w' hv h1 h2 R4 h3 h4 h5 hlt;cases hm:Nat.beq m 0<;>simp only[hm,xaq,xah]at hv
      · obtain⟨b,rfl,hb1,sb⟩:=hv
        cases b
        · exact eO hs BO Pp yc hk f' pb cl _ _ H (sb rfl) E FL _ h1 h2 R4 a' w' h3 h4 h5 (hout _)
        · exact eO hs BO Pp yc hk f' pa cl _ _ H (hb1 rfl) E FL _ h1 h2 R4 a' w' h3 h4 h5 (hout _)
      · exact eO hs BO Pp yc hk f' pa cl _ _ H hv E FL _ h1 h2 R4 a' w' h3 h4 h5 (hout _)
    cases h3:Nat.beq m 3<;>simp only[h3,xaq,xah]at h
    case true=>
      cases kH:(Ns o&&Region.free .any ops listed i)<;>simp only[kH,xaq,xah]at h;simp only[xaD]at kH;split at h<;>try exact h.elim
      rename_i b YZ;have A7:vY o.op=true:=Rg kH.1;have wg:i∉E.map Prod.fst:=λhm=>by
        obtain⟨x,hx,e⟩:=xan.1 hm;have h2:=hE.mem x hx;obtain⟨o',fP⟩:=hE.cl _ _ h2.1 h2.2;have h3:=fP.op;rw[e,oV]at h3;cases h3;have:=fP.CQ;rw[A7]at this;cases this
      have mR:=hE.ready wg EE;have sL:=(mem_ready.1 mR).1;obtain⟨f',rfl,l7⟩:=oa sL hfuel;have hfree:=sV (l':=la) kH.2 (λk hk=>hE.more hk);have NF:(Region.ready .any ops la).contains i=true:=by simpa using mR
      have iU:∀w,qH P g Xs ops i w w:=λw X _ oj nw=>⟨λ_=>rfl,λhn=>(by rw[oV]at nw;cases nw;rw[A7]at hn;cases hn)⟩;have NC:=hE.exec (hap wg) hsel;refine de.take jw (S0:=Own g []) oV hs hfree NF (λ_ _ _ h=>h) (λw _=>iU w) (λj oj w w' ji hj hno h0 hk=>?_) (.inl ⟨hgw wg,λw' eU=>by rw[ha.eval,NC];exact Q6 kH.1 YZ w'⟩) (Own.fp.2 hw).bt ?_
      · cases A4:vY oj.op
        · exact((hk R BO oj ji).2 A4).1
        · rw[(hk R BO oj ji).1 A4];exact h0
      · refine eO hs BO Pp yc hk f' pa cl _ _ H h E _ _ l7 (hE.step hs oV wg wj _) (jw.step mR) _ w (ha.put hd _) hw ?_ (hout _)
        rintro⟨k,ok,uh,rJ,pI⟩;exact hR ⟨k,ok,uh,rJ,gB sL pI⟩
    cases A7:vY o.op<;>simp only[A7,xaq,xah]at h
    case true=>
      cases kH:(Region.free .any ops listed i)<;>simp only[kH,xaq,xah]at h;have wg:i∉E.map Prod.fst:=λhm=>by
        obtain⟨x,hx,e⟩:=xan.1 hm;have h2:=hE.mem x hx;obtain⟨o',fP⟩:=hE.cl _ _ h2.1 h2.2;have h3:=fP.op;rw[e,oV]at h3;cases h3;have:=fP.CQ;rw[A7]at this;cases this
      have mR:=hE.ready wg EE;have sL:=(mem_ready.1 mR).1;obtain⟨f',rfl,l7⟩:=oa sL hfuel;have hfree:=sV (l':=la) kH (λk hk=>hE.more hk);have NF:(Region.ready .any ops la).contains i=true:=by simpa using mR
      have iU:∀w,qH P g Xs ops i w w:=λw X _ oj nw=>⟨λ_=>rfl,λhn=>(by rw[oV]at nw;cases nw;rw[A7]at hn;cases hn)⟩;have hst:=λv=>hE.step hs oV wg wj v;have NC:=hE.exec (hap wg) hsel;cases hn:isN P o.op
      case true=>
        rw[CI hn (ev fr) R []]at h;obtain⟨v,hk',hr⟩:=lq h;refine de.take jw (S0:=Own g []) oV hs hfree NF (λ_ _ _ h=>h) (λw _=>iU w) (λj oj w w' ji hj hno h0 hk=>?_) (.inl ⟨hgw wg,λw' eU=>by rw[ha.eval,NC];exact hr w' eU⟩) (Own.fp.2 hw).bt ?_
        · cases A4:vY oj.op
          · exact((hk R BO oj ji).2 A4).1
          · rw[(hk R BO oj ji).1 A4];exact h0
        · refine XE v f' _ _ w hk' l7 (hst v) (jw.step mR) (ha.put hd v) hw ?_ zO
          rintro⟨k,ok,uh,rJ,pI⟩;exact hR ⟨k,ok,uh,rJ,gB sL pI⟩
      case false=>
        obtain⟨v,hk',hr⟩:=lq h;have hrd:xZ P o.op=true:=by simp[xZ,A7,hn]
        have ZC:Own g R w:=hR ⟨i,o,oV,hrd,sL⟩;refine de.take jw (S0:=Own g R) oV hs hfree NF (λ_ _ _ h=>h) (λw _=>iU w) (λj oj w w' ji hj hno h0 hk=>?_) (.inl ⟨hgw wg,λw' eU=>by rw[ha.eval,NC];exact hr w' eU⟩) ZC ?_
        · cases A4:vY oj.op
          · exact((hk R BO oj ji).2 A4).2 (mL oV hrd hj hno) h0
          · rw[(hk R BO oj ji).1 A4];exact h0
        · exact XE v f' _ _ w hk' l7 (hst v) (jw.step mR) (ha.put hd v) hw (λ_=>ZC) zO
    case false=>
      cases kH:(Region.ready .any ops (marks cl i listed)==[i])<;>simp only[kH,xaq,xah]at h;have hrd:=xcM.1 kH;by_cases wg:i∈E.map Prod.fst
      · obtain⟨⟨i',b,x⟩,hx,e⟩:=xan.1 wg
        simp only at e;subst e;have hex:fQ cl i'=some x:=(hE.mem _ hx).1;simp only[hex]at h;obtain⟨E1,E2,rfl⟩:=xdc hx;have ju:Own (g.add (XQ (E1++E2))) ((b,x.1)::H) w:=by
          have h1:=(Own.fp.2 hw).perm ((xbZ H (NU (E1:=E1) (E2:=E2) (y:=(i',b,x)))).trans xaS);exact(Own.fp (A:=(b,x.1)::H)).1 h1
        have hb:b∉H.map Prod.fst:=by
          have:=ju.nd;rw[xaR,xaB,xaX,xaJ,xao]at this;exact λh=>this.1 (.inl h)
        exact eO hs BO Pp yc hk fuel pa cl _ _ _ (h b hb) (E1++E2) la fa hfuel (hE.Au hs oV wj) jw a w ha ju hR (hout _)
      · have mR:=hE.ready wg EE
        have sL:=(mem_ready.1 mR).1;obtain⟨f',rfl,l7⟩:=oa sL hfuel;have acA:∀j,la.getD j true=false->cnt (la.setIfInBounds j true).toList<=f':=λj hj=>by
          obtain⟨f2,h1,h2⟩:=oa hj hfuel;have:f2=f':=by omega
          subst this;exact h2
        have hst:=λv=>hE.step hs oV wg wj v;have NC:=hE.exec (hap wg) hsel;refine de.all rfl (λe=>by rw[e]at mR;simp at mR) λj hj=>?_;by_cases Zj:j=i
        · subst Zj
          have CQ:∀oj,ops[j]? =some oj->vY oj.op=true->False:=λoj ji hp=>by rw[oV]at ji;cases ji;rw[A7]at hp;cases hp
          unfold wpOp;simp only[oV,hgw wg,xa7];refine .inl ?_;unfold Oper.wp;rw[ha.eval,NC];cases hex:fQ cl j with
          |none=>
            simp only[hex]at h;have h:=h (XQ E);refine(vE (oZ fr) h w hw).upon (λv H' w' cA hb=>?_) (λch H' w' _ h0=>h0.elim);obtain⟨he,hk'⟩:=hb.of;have acR:tw P ops j=true->Own g R w':=λhn=>(Own.fp.2 (he (QR hn) _ _ cA)).left;refine⟨λX hX oj nw=>⟨λhp=>(CQ oj nw hp).elim,λ_=>⟨(Own.fp.2 cA).bt,λhn _=>Pp X hX _ _ (acR hn)⟩⟩,eO hs BO Pp yc hk f' pa cl _ _ H' hk' E _ _ l7 (hst v) (jw.step mR) _ w' (ha.put hd v) cA ?_ (hout v)⟩;rintro⟨k,ok,uh,rJ,pI⟩;refine acR ?_;have Zh:j≠k:=λe=>by
              subst e;have h1:=gj sL;have hlt:=(xaU.1 h1).1;rw[xat,xbM hlt]at pI;cases pI
            rw[getD_set_ne true Zh]at pI;refine mL uh rJ Zh λhw=>?_;rw[jw.ready mR hw]at pI;cases pI
          |some x=>
            simp only[hex]at h;obtain⟨oj,fP⟩:=hE.cl j x hex hun;have ji:=fP.op;rw[oV]at ji;cases ji;rw[fP.makes w];simp only[Oper.upon];have V0:∀{A:Hp},Own g A w->Own g A (w.alloc x.1):=λhA=>(hA.alloc x.1).tail;refine⟨λX _ oj nw=>⟨λhp=>(CQ oj nw hp).elim,λ_=>⟨V0 (Own.fp.2 hw).bt,λ_ h1=>V0 h1⟩⟩,?_⟩;refine eO hs BO Pp yc hk f' pa cl _ _ _ (h _ hw.fresh) E _ _ l7 (hst _) (jw.step mR) _ _ (ha.put hd _) (hw.alloc x.1) ?_ (hout _);rintro⟨k,ok,uh,rJ,pI⟩;exact V0 (hR ⟨k,ok,uh,rJ,gB sL pI⟩)
        · obtain⟨RM,hjl⟩:=aa2 j hj
          cases acg:fQ cl j with
          |some x=>exact early f' rfl acA j x hj acg
          |none=>
          refine absurd ?_ Zj;have hjf:j∉cl.map Prod.fst:=λhm=>by
            obtain⟨x,hx⟩:=NS hm;rw[acg]at hx;cases hx
          have hjm:j∈Region.ready .any ops (marks cl i listed):=by
            obtain⟨_,oj,ji,aI⟩:=mem_ready.1 hj;rw[mem_ready];refine⟨?_,oj,ji,λe he hb=>?_⟩
            · rw[xat,yS,xac (λh=>hjf h.1),<-xat];exact hjl
            · have h1:=aI e he hb
              have h2:=hE.la e.on;rw[xat]at h1⊢;rw[yS];by_cases hm:e.on∈E.map Prod.fst
              · obtain⟨x,hx,e2⟩:=xan.1 hm
                have wc:=gj (hE.mem x hx).2;rw[e2]at wc;have hlt:=(xaU.1 wc).1;rw[xad ⟨e2▸jS (hE.mem x hx).1,λe3=>wg (e3▸hm),hlt⟩];rfl
              · rw[xac hm]at h2
                split
                · rfl
                · rw[<-h2];exact h1
          rw[hrd]at hjm;simpa using hjm
  termination_by fuel l=>(fuel,SizeOf.sizeOf l)
def ud:Code->Nat->Bool
  | .region _ ops _,s=>bQ ops.toList s
  | .seq a b,s=>ud a s||ud b s
  | .cond _ a b,s=>ud a s||ud b s
  | .block _ c,s=>ud c s
  | .loop c,s=>ud c s
  | .skip,_=>false
  | .ret,_=>false
  | .exit _,_=>false
  |_,_=>true
def U4(c:Code):zL->Bool
  | []=>true
  |s::r=> !ud c s&&U4 c r
def wA(s:Nat):zL->Bool
  | []=>false
  |x::r=>Nat.beq s x||wA s r
def U9:zL->List zV->Fr->Fr
  |l::L,v::vs,base=>λs=>cond (Nat.beq s l) v (U9 L vs base s)
  |_,_,base=>base
def mix(L:zL)(vs:List zV)(I:zL)(fr gs:Fr):Fr:=U9 L vs λs=>cond (wA s I) (fr s) (gs s)
def EK(fr:Fr):zL->List zV
  | []=>[]
  |s::r=>fr s::EK fr r
def xI:Nat->(List zV->Prop)->Prop
  |0,p=>p []
  |n+1,p=>∀v,xI n λvs=>p (v::vs)
theorem xI.intro{p:List zV->Prop}(h:∀vs,p vs):∀n,xI n p
  |0=>h _
  |n+1=>λv=>xI.intro (λvs=>h (v::vs)) n
theorem xI.elim{p:List zV->Prop}:∀{n:Nat},xI n p->∀vs:List zV,vs.length=n->p vs
  |0,h,vs,e=>by cases vs with|nil=>exact h|cons x y=>simp at e
  |n+1,h,vs,e=>by
    cases vs with
    |nil=>simp at e
    |cons x y=>exact xI.elim (h x) y (by simpa using e)
theorem Gq(fr:Fr)(L:zL):(EK fr L).length=L.length:=by induction L<;>simp[EK, *]
theorem vL{L I:zL}{fr fr':Fr}(h:∀s,wA s I=true->fr' s=fr s):mix L (EK fr' L) I fr fr'=fr':=by
  funext s
  unfold mix;induction L with
  |nil=>
    simp only[EK,U9];cases he:wA s I
    · rfl
    · exact(h s he).symm
  |cons l L ih=>
    simp only[EK,U9];cases hb:Nat.beq s l
    · exact ih
    · have:=xaG hb;subst this;rfl
theorem vJ{c:Code}{I:zL}(h:U4 c I=true):∀s,wA s I=true->ud c s=false:=by
  induction I with
  |nil=>intro s hs;simp[wA]at hs
  |cons x r ih=>
    intro s hs;simp only[U4,xaD,xbE]at h;simp only[wA,xa1]at hs;rcases hs with hs|hs
    · rw[xaG hs];exact h.1
    · exact ih h.2 s hs
def B4(next:Fr->Hp->Prop)(Q:Exit->Fr->Hp->Prop):Exit->Fr->Hp->Prop
  | .normal,fr,H=>next fr H
  |e,fr,H=>Q e fr H
def Tc(id:Nat)(Q:Exit->Fr->Hp->Prop):Exit->Fr->Hp->Prop
  | .exit id',fr,H=>cond (Nat.beq id' id) (Q .normal fr H) (Q (.exit id') fr H)
  |e,fr,H=>Q e fr H
def JE(J:List zV->Hp->Prop)(vs:List zV)(H:Hp):Prop:=∃H',aL H H'/\J vs H'
def aC(I:List zV->Hp->Prop)(m:List zV->Hp->Nat)(vs':List zV)(H':Hp)(vs:List zV)(H:Hp):Prop:=∃nB,aL H' nB/\I vs' nB/\m vs' nB<m vs H
def Loop(L:zL)(vs:List zV)(H:Hp)(body:(List zV->Hp->Prop)->List zV->Hp->Prop):Prop:=
  ∃(I:List zV->Hp->Prop) (m:List zV->Hp->Nat),JE I vs H/\xI L.length λvs=>∀H',I vs H'->body (λvs' nB=>aC I m vs' nB vs H') vs H'
def adM(k:Nat)(rest:List zV->Hp->Prop)(body:(List zV->Hp->Prop)->Prop):Prop:=
  ∀J:List zV->Hp->Prop,(xI k λvs=>∀H,rest vs H->J vs H)->body J
def DR(H:Hp)(body:Hp->Prop):Prop:=∃R,aL H R/\body R
def DR2(H R:Hp)(body:Hp->Prop):Prop:=∃R',aL H R'/\aL R' R/\body R'
def qd:Code->Nat->Option (Array Oper)
  | .region id ops _,k=>cond (Nat.beq id k) (some ops) none
  | .seq a b,k=>match qd a k with|some x=>some x|none=>qd b k
  | .cond _ a b,k=>match qd a k with|some x=>some x|none=>qd b k
  | .block _ c,k=>qd c k
  | .loop c,k=>qd c k
  |_,_=>none
def Z6(P:Program)(g:Gh)(id:Nat)(ops:Array Oper)(L:zL)(vs:List zV)(H:Hp)(K:Hp->Prop):Prop:=
  ∀a w,ja a.tmps.size ops.toList=true->(L.map λs=>a.tmps.getD s undef)=vs->Own g H w->
    (Code.region id ops true).wp P (λe a' w'=>e=.normal/\a'.defers=a.defers/\a'.tmps.size=a.tmps.size/\(∀s,bQ ops.toList s=false->a'.tmps.getD s undef=a.tmps.getD s undef)/\∃H',Own g H' w'/\K H') a w
def pc(f:Func)(r:Nat):Array Oper:=match f.body with|some c=>(match qd c r with|some ops=>ops|none=>#[])|none=>#[]
theorem Wm(fr:Fr)(L:zL):EK fr L=L.map fr:=by induction L<;>simp[EK, *]
def den(P:Program)(g:Gh)(n:Nat):Code->Hn->(Exit->Fr->Hp->Prop)->Fr->Hp->Prop
  | .skip,_,Q,fr,H=>Q .normal fr H
  | .ret,_,Q,fr,H=>Q .ret fr H
  | .exit id,_,Q,fr,H=>Q (.exit id) fr H
  | .seq x y,hn,Q,fr,H=>
    match hn.m with
    |0=>den P g n x hn.a (B4 (den P g n y hn.b Q) Q) fr H
    |_=>cond (U4 x hn.I)
        (adM hn.L.length (λvs H'=>∀gs,den P g n y hn.b Q (mix hn.L vs hn.I fr gs) H') λJ=>den P g n x hn.a (B4 (λfr' H'=>JE J (EK fr' hn.L) H') Q) fr H) False
  | .cond c x y,hn,Q,fr,H=>Br (ev fr c) (den P g n x hn.a Q fr H) (den P g n y hn.b Q fr H)
  | .block id c,hn,Q,fr,H=>den P g n c hn.a (Tc id Q) fr H
  | .loop c,hn,Q,fr,H=>
    cond (U4 c hn.I)
      (Loop hn.L (EK fr hn.L) H λJ vs H'=>∀gs,den P g n c hn.a (B4 (λfr' nB=>J (EK fr' hn.L) nB) Q) (mix hn.L vs hn.I fr gs) H') False
  | .region id ops draw,hn,Q,fr,H=>
    cond draw
      (match hn.m with
      |0=>match hn.L with
       | []=>cond (P.follows .mixedOrders&&Region.lexB .any ops) (eY P g n ops true (ops.toList.length+1) true none [] ops.toList fr H (λ_ fr' H'=>Q .normal fr' H') (λ_ _=>False)) False
       |l=>cond (P.follows .mixedOrders&&Region.noSelect ops&&Nat.ble l.length ops.size)
          (DR H λR=>N6 P g n ops R (λfr' H'=>Q .normal fr' H') l (Array.replicate ops.size false) fr H) False
      |9=>cond (ja n ops.toList) (Z6 P g id ops hn.L (EK fr hn.L) H λH'=>∀gs,Q .normal (Bf ops.toList gs fr) H') False
      |_=>cond (P.follows .mixedOrders&&Region.noSelect ops)
          (DR H λR=>pA P g n ops R (λfr' H'=>Q .normal fr' H') hn.a [] (Array.replicate ops.size false) fr H) False)
      (eY P g n ops (match hn.I with| []=>false|_=>true) (ops.toList.length+1) false none [] ops.toList fr H (λ_ fr' H'=>Q .normal fr' H') (λch H'=>∀fr',Q (.panic ch) fr' H'))
  |_,_,_,_,_=>False
theorem BT{c:Code}{Q:Exit->Act->World->Prop}{a:Act}{w:World}(R:Act->World->Nat->Prop)(h₀:∃m,R a w m)
   (round:∀a w m,R a w m->c.wp P (Exit.then (λa' w'=>∃m',m'<m/\R a' w' m') Q) a w):(Code.loop c).wp P Q a w:=by
  intro b k cs;have key:∀n a w,R a w n->
      ∃e a' w',Q e a' w'/\Arrives P (lone (b.at a (.code c:: .inLoop c::k)) cs w) b k cs e a' w':=by
    intro n;induction n using Nat.strongRecOn with
    |_ n ih=>
      intro a w hI;obtain⟨e,a₁,w₁,hq,DA⟩:=round a w n hI b (.inLoop c::k) cs;cases e with
      |normal=>
        obtain⟨m',hlt,ac9⟩:=hq;obtain⟨e₂,a₂,w₂,abR,VY⟩:=ih m' hlt a₁ w₁ ac9;exact⟨e₂,a₂,w₂,abR,.of_steps (Steps.trans DA (.one step_inLoop)) VY⟩
      |exit id=>exact⟨_,a₁,w₁,hq,.pass (x:=.inLoop c) rfl (λ_ _=>.inl zI) DA⟩
      |goto l=>exact⟨_,a₁,w₁,hq,.pass (x:=.inLoop c) rfl (λ_ _=>.inl zI) DA⟩
      |ret=>exact⟨_,a₁,w₁,hq,.pass (x:=.inLoop c) rfl (λ_ _=>.inl zI) DA⟩
      |panic ch=>exact⟨_,a₁,w₁,hq,.pass (x:=.inLoop c) rfl (λ_ _=>.inl zI) DA⟩
      |outgrown=>exact⟨_,a₁,w₁,hq,.pass (x:=.inLoop c) rfl (λ_ _=>.inl zI) DA⟩
  obtain⟨m,h₀⟩:=h₀;obtain⟨e,a',w',hq,DA⟩:=key m a w h₀;exact⟨e,a',w',hq,.of_steps (.one step_loop) DA⟩
def vX:Exit->Bool
  | .panic _=>true
  |_=>false
theorem l9{n:Nat}:∀(c:Code) (hn:Hn) (Q:Exit->Fr->Hp->Prop) (fr:Fr) (H:Hp),den P g n c hn Q fr H->∀(a:Act) (w:World),cB ds n a fr->Own g H w->c.wp P (λe a' w'=>∃fr' H',cB ds n a' fr'/\Own g H' w'/\(vX e=false->∀s,ud c s=false->fr' s=fr s)/\Q e fr' H') a w:=by
  intro c;induction c with
  |skip=>intro hn Q fr H h a w ha hw;exact wp_skip ⟨fr,H,ha,hw,λ_ _ _=>rfl,h⟩
  |ret=>intro hn Q fr H h a w ha hw;exact wp_ret ⟨fr,H,ha,hw,λ_ _ _=>rfl,h⟩
  |exit id=>intro hn Q fr H h a w ha hw;exact wp_exit ⟨fr,H,ha,hw,λ_ _ _=>rfl,h⟩
  |seq x y ihx ihy=>
    intro hn Q fr H h a w ha hw;unfold den at h;have abh:∀{Wn tJ:Fr},(∀s,ud x s=false->Wn s=fr s)->(∀s,ud y s=false->tJ s=Wn s)->∀s,ud (.seq x y) s=false->tJ s=fr s:=λh1 h2 s hs=>by
      simp only[ud,xax]at hs;rw[h2 s hs.2,h1 s hs.1]
    have xS:∀{Wn:Fr},(∀s,ud x s=false->Wn s=fr s)->∀s,ud (.seq x y) s=false->Wn s=fr s:=λh1 s hs=>by
      simp only[ud,xax]at hs;exact h1 s hs.1
    split at h
    · refine wp_seq (wp_mono (ihx _ _ fr H h a w ha hw) ?_)
      rintro e a' w' ⟨fr',H',ej,eU,ho,hq⟩;cases e with
      |normal=>exact wp_mono (ihy _ _ fr' H' hq a' w' ej eU) λe2 a2 w2 ⟨tJ,H2,g1,g2,g3,g4⟩=>⟨tJ,H2,g1,g2,λhp=>abh (ho rfl) (g3 hp),g4⟩
      |exit id=>exact⟨fr',H',ej,eU,λhp=>xS (ho hp),hq⟩
      |goto l=>exact⟨fr',H',ej,eU,λhp=>xS (ho hp),hq⟩
      |ret=>exact⟨fr',H',ej,eU,λhp=>xS (ho hp),hq⟩
      |panic ch=>exact⟨fr',H',ej,eU,λhp=>xS (ho hp),hq⟩
      |outgrown=>exact⟨fr',H',ej,eU,λhp=>xS (ho hp),hq⟩
    · cases hno:U4 x hn.I<;>simp only[hno,xaq,xah]at h
      have h':=h (λvs H'=>∀gs,den P g n y hn.b Q (mix hn.L vs hn.I fr gs) H') (xI.intro (λvs H' hh=>hh) _);refine wp_seq (wp_mono (ihx _ _ fr H h' a w ha hw) ?_);rintro e a' w' ⟨fr',H',ej,eU,ho,hq⟩;cases e with
      |normal=>
        obtain⟨Hj,wh,hq⟩:=hq;have hq':den P g n y hn.b Q fr' Hj:=by
          have:=hq fr';rwa [vL λs hs=>ho rfl s (vJ hno s hs)]at this
        exact wp_mono (ihy _ _ fr' Hj hq' a' w' ej (wh _ _ eU)) λe2 a2 w2 ⟨tJ,H2,g1,g2,g3,g4⟩=>⟨tJ,H2,g1,g2,λhp=>abh (ho rfl) (g3 hp),g4⟩
      |exit id=>exact⟨fr',H',ej,eU,λhp=>xS (ho hp),hq⟩
      |goto l=>exact⟨fr',H',ej,eU,λhp=>xS (ho hp),hq⟩
      |ret=>exact⟨fr',H',ej,eU,λhp=>xS (ho hp),hq⟩
      |panic ch=>exact⟨fr',H',ej,eU,λhp=>xS (ho hp),hq⟩
      |outgrown=>exact⟨fr',H',ej,eU,λhp=>xS (ho hp),hq⟩
  |cond c x y ihx ihy=>
    intro hn Q fr H h a w ha hw;obtain⟨b,hb,ht,hf⟩:=h;refine wp_cond_split (t:=b) (by rw[ha.eval];exact hb) (λe=>?_) (λe=>?_)
    · exact wp_mono (ihx _ _ fr H (ht e) a w ha hw) λe2 a2 w2 ⟨tJ,H2,g1,g2,g3,g4⟩=>⟨tJ,H2,g1,g2,λhp s hs=>g3 hp s (by simp only[ud,xax]at hs;exact hs.1),g4⟩
    · exact wp_mono (ihy _ _ fr H (hf e) a w ha hw) λe2 a2 w2 ⟨tJ,H2,g1,g2,g3,g4⟩=>⟨tJ,H2,g1,g2,λhp s hs=>g3 hp s (by simp only[ud,xax]at hs;exact hs.2),g4⟩
  |block id c ih=>
    intro hn Q fr H h a w ha hw;refine wp_block (wp_mono (ih _ _ fr H h a w ha hw) ?_);rintro e a' w' ⟨fr',H',ej,eU,ho,hq⟩;cases e with
    |exit id'=>
      simp only[Tc]at hq;cases hb:Nat.beq id' id<;>simp only[hb,xaq,xah]at hq
      · have:id'≠id:=λe=>by subst e;simp at hb
        simp only[Exit.inBlock,this,xa0];exact⟨fr',H',ej,eU,ho,hq⟩
      · have:=xaG hb
        simp only[Exit.inBlock,this,xa7];exact⟨fr',H',ej,eU,ho,hq⟩
    |normal=>exact⟨fr',H',ej,eU,ho,hq⟩
    |goto l=>exact⟨fr',H',ej,eU,ho,hq⟩
    |ret=>exact⟨fr',H',ej,eU,ho,hq⟩
    |panic ch=>exact⟨fr',H',ej,eU,ho,hq⟩
    |outgrown=>exact⟨fr',H',ej,eU,ho,hq⟩
  |loop c ih=>
    intro hn Q fr H h a w ha hw;unfold den at h;cases hno:U4 c hn.I<;>simp only[hno,xaq,xah]at h;obtain⟨I,m,⟨H0,acu,h0⟩,hr⟩:=h;refine BT (λa w k=>∃fr' H',cB ds n a fr'/\Own g H' w/\(∀s,ud c s=false->fr' s=fr s)/\I (EK fr' hn.L) H'/\m (EK fr' hn.L) H'=k) ⟨_,fr,H0,ha,acu _ _ hw,λ_ _=>rfl,h0,rfl⟩ ?_;rintro a w k ⟨Wn,H1,uj,ju,x5,hI,rfl⟩;have hb:=hr.elim (EK Wn hn.L) (Gq _ _) H1 hI Wn;rw[vL λs hs=>x5 s (vJ hno s hs)]at hb;refine wp_mono (ih _ _ Wn H1 hb a w uj ju) ?_;rintro e a' w' ⟨fr',H',ej,eU,ho,hq⟩;have cA:vX e=false->∀s,ud c s=false->fr' s=fr s:=λhp s hs=>(ho hp s hs).trans (x5 s hs);cases e with
    |normal=>obtain⟨Hj,wh,VJ,hq2⟩:=hq;exact⟨_,hq2,fr',Hj,ej,wh _ _ eU,cA rfl,VJ,rfl⟩
    |exit id=>exact⟨fr',H',ej,eU,cA,hq⟩
    |goto l=>exact⟨fr',H',ej,eU,cA,hq⟩
    |ret=>exact⟨fr',H',ej,eU,cA,hq⟩
    |panic ch=>exact⟨fr',H',ej,eU,cA,hq⟩
    |outgrown=>exact⟨fr',H',ej,eU,cA,hq⟩
  |region id ops draw=>
    intro hn Q fr H h a w ha hw;unfold den at h;cases draw<;>simp only[xaq,xah]at h
    case false=>
      refine wp_region_list ?_;have:=cK _ _ _ _ _ fr H _ _ h trivial (je.nil fr) a w ha hw [] (λe a' w'=>∃fr' H',cB ds n a' fr'/\Own g H' w'/\(vX e=false->∀s,ud (.region id ops false) s=false->fr' s=fr s)/\Q e fr' H') ?_ ?_
      · simpa using this
      · intro a' w' qJ fr' H' h1 h2 h3 _ h4
        exact⟨fr',H',h1,h2,λ_=>h3,h4⟩
      · intro ch a' w' fr' H' h1 h2 h3
        exact⟨fr',H',h1,h2,λhp=>by simp[vX]at hp,h3 fr'⟩
    case true=>
      split at h
      · split at h
        · cases hc:(P.follows .mixedOrders&&Region.lexB .any ops)<;>simp only[hc,xaq,xah]at h
          simp only[xaD]at hc;refine wp_region_quiet (C:=Own g H) hc.1 hc.2 hw.zx ?_;have:=dM _ none _ ops.toList fr H _ _ h trivial (je.nil fr) a ha [] (λa'=>∀w',Own g H w'->∃fr' H',cB ds n a' fr'/\Own g H' w'/\(vX .normal=false->∀s,ud (.region id ops true) s=false->fr' s=fr s)/\Q .normal fr' H') ?_
          · simpa using this
          · intro a' qJ fr' h1 h3 _ h4
            exact λw' eU=>⟨fr',H,h1,eU,λ_=>h3,h4⟩
        · cases hc:(P.follows .mixedOrders&&Region.noSelect ops&&Nat.ble hn.L.length ops.size)<;>simp only[hc,xaq,xah]at h
          simp only[xaD]at hc;obtain⟨R,hR,h⟩:=h;refine wp_mono (Q:=r6 λe a' w'=>∃fr' H',cB ds n a' fr'/\Own g H' w'/\(vX e=false->∀s,ud (.region id ops true) s=false->fr' s=fr s)/\Q e fr' H') ?_ ?_
          · refine wp_region_any hc.1.1 (de.any (S:=L6 P g R ops) ?_)
            exact rR hc.1.2 fr (λa w fr' H' h1 h2 h3 h4=>⟨fr',H',h1,h2,λ_=>h3,h4⟩) _ _ fr H h _ (xcP hc.2) (fy.none _ rfl) _ _ ha hw.zx (λ_=>(hR _ _ hw).zx) (eP.refl _ _)
          · intro e a w h
            cases e<;>first|exact h|exact h.elim
      · cases hc:ja n ops.toList<;>simp only[hc,xaq,xah]at h
        refine wp_mono (h a w (by rw[ha.size];exact hc) (by rw[Wm];exact xbq λs _=>ha.get s) hw) ?_;rintro e a' w' ⟨rfl,hd,hs,ho,H',eU,hk⟩;refine⟨Bf ops.toList (λs=>a'.tmps.getD s undef) fr,H',⟨hd.trans ha.defers,hs.trans ha.size,λs=>?_⟩,eU,λ_ s hs=>?_,hk _⟩
        · unfold Bf
          cases hb:bQ ops.toList s
          · rw[xah,ho s hb,ha.get]
          · rfl
        · unfold Bf;simp only[ud]at hs;rw[hs,xah]
      · cases hc:(P.follows .mixedOrders&&Region.noSelect ops)<;>simp only[hc,xaq,xah]at h
        simp only[xaD]at hc;obtain⟨R,hR,h⟩:=h;refine wp_mono (Q:=r6 λe a' w'=>∃fr' H',cB ds n a' fr'/\Own g H' w'/\(vX e=false->∀s,ud (.region id ops true) s=false->fr' s=fr s)/\Q e fr' H') ?_ ?_
        · refine wp_region_any hc.1 (de.any (S:=qH P g [R] ops) ?_)
          refine eO (Xs:=[_]) hc.2 (.head _) (λX hX=>by rw[xaI.1 hX];exact .refl _) fr (λa w fr' H' h1 h2 h3 h4=>⟨fr',H',h1,h2,λ_=>h3,h4⟩) _ _ [] _ fr H h [] _ fr (by rw[Array.toList_replicate,yd];exact xag _) ⟨by simp,by simp,by simp,λ_ _=>rfl,by simp,λj x hx=>by simp[fQ]at hx⟩ (fy.none _ rfl) _ _ ha hw.zx (λ_=>(hR _ _ hw).zx) (eP.refl _ _)
        · intro e a w h
          cases e<;>first|exact h|exact h.elim
  |label l=>intro hn Q fr H h;exact h.elim
  |goto l=>intro hn Q fr H h;exact h.elim
  |scope c _=>intro hn Q fr H h;exact h.elim
  |refuse s=>intro hn Q fr H h;exact h.elim
  |rangeFunc f ps as b _ _=>intro hn Q fr H h;exact h.elim
def dy(R:Ending->Hp->Prop):List PanicEntry->Hp->Prop:=λch H=>∀_:Fr,R (.panicked ch) H
def fK:List PanicEntry->Hp->Prop:=λ_ _=>False
def vp:Code->Nat->Option (Array Oper)
  | .region id ops _,k=>cond (Nat.beq id k) (some ops) none
  | .seq a b,k=>match vp a k with|some x=>some x|none=>vp b k
  | .cond _ a b,k=>match vp a k with|some x=>some x|none=>vp b k
  | .block _ c,k=>vp c k
  | .loop c,k=>vp c k
  |_,_=>none
def fE(f:Func)(r i:Nat):Oper:=match f.body with|some c=>(match vp c r with|some ops=>(match ops[i]? with|some o=>o|none=>default)|none=>default)|none=>default
def gQ:List zV->Nat->Fr
  | [],_=>λ_=>undef
  |v::r,i=>λs=>cond (Nat.beq s i) v (gQ r (i+1) s)
def vi(P:Program)(fr:Fr)(H:Hp):List ResultVar->(List zV->Prop)->Prop
  | [],k=>k []
  | .tmp t::r,k=>vi P fr H r λvs=>k (fr t::vs)
  | .cell a t::r,k=>match P.underlying t,dO P t with
    |some d,some n=>cond (cR d) (ax n H (fr a) λv=>vi P fr H r λvs=>k (v::vs)) (Ld H (fr a) λv=>vi P fr H r λvs=>k (v::vs))
    |_,_=>False
def E0:List zV->zV
  | [v]=>v
  |vs=>.tuple vs.toArray
def ahh(P:Program)(fn:Func)(R:Ending->Hp->Prop):Exit->Fr->Hp->Prop
  | .normal,fr,H=>vi P fr H fn.results.toList λvs=>R (.returned (E0 vs)) H
  | .ret,fr,H=>vi P fr H fn.results.toList λvs=>R (.returned (E0 vs)) H
  | .panic ch,_,H=>R (.panicked ch) H
  |_,_,_=>False
def Gv(P:Program)(g:Gh)(fn:Func)(hn:Hn)(args:List zV)(H:Hp)(R:Ending->Hp->Prop):Prop:=
  match fn.body with
  |some c=>cond (Nat.ble args.length fn.ntmps) (den P g fn.ntmps c hn (ahh P fn R) (gQ args 0) H) False
  |none=>False
theorem mQ:∀(l:List zV) (i s:Nat),gQ l i s=if s<i then undef else l.getD (s-i) undef
  | [],i,s=>by simp[gQ]
  |v::r,i,s=>by
    simp only[gQ,mQ r (i+1) s];cases hb:Nat.beq s i
    · have hne:s≠i:=λe=>by subst e;simp at hb
      simp only[xah];by_cases h:s<i
      · rw[xad zO,xad h]
      · rw[xac zO,xac h,show s-i=(s-(i+1))+1 by omega]
        simp[List.getD]
    · have:=xaG hb;subst this
      simp[List.getD]
def MS(fr:Fr):ResultVar->Sem zV
  | .tmp t=>pure (fr t)
  | .cell b t=>do loadVar t (<-asAddr (fr b))
theorem tA{fr:Fr}{H:Hp}{w:World}(hw:Own g H w){b:Tmp}{t:TypeId}{v:zV}{p:Addr}(hp:fr b=.pointer (some p))(h:(Instr.loadAt t (fr b)).run P w=.ok v w):(MS fr (.cell b t)).run P w=.ok v w:=by
  rw[hp]at h;simp only[MS,hp,asAddr];simpa[Instr.loadAt,Instr.sureAddr]using h
theorem qY{fr:Fr}{H:Hp}{w:World}(hw:Own g H w):∀(l:List ResultVar) (k:List zV->Prop),vi P fr H l k->
    ∃vs,(l.mapM (MS fr)).run P w=.ok vs w/\k vs
  | [],k,h=>⟨[],by simp,h⟩
  | .tmp t::r,k,h=>by
    obtain⟨vs,hr,hk⟩:=qY hw r _ h;refine⟨fr t::vs,?_,hk⟩;simp only[xd7,Sem.run_bind,Sem.run_pure,Result.andThen_ok,hr,MS]
  | .cell b t::r,k,h=>by
    unfold vi at h;split at h<;>try exact h.elim
    rename_i d m hd hm;obtain⟨i,hi,him⟩:=bF hm;cases hag:cR d<;>simp only[hag,xaq,xah]at h
    · obtain⟨v,hk',hf⟩:=h.fix
      obtain⟨v2,qs,e⟩:=hf.run (P:=P) hw hd hag;subst e;obtain⟨bb,off,c,T,fz,u,hp,_⟩:=hf;obtain⟨vs,hr,hk⟩:=qY hw r _ hk';refine⟨v2::vs,?_,hk⟩;have:=tA hw hp qs;simp only[xd7,Sem.run_bind,Result.andThen_ok,hr,Sem.run_pure,this]
    · obtain⟨v,hk',hf⟩:=h.fix
      obtain⟨v2,qs,e⟩:=hf.run (P:=P) hw hd hag hi him;subst e;obtain⟨bb,off,c,T,fz,hp,_⟩:=hf;obtain⟨vs,hr,hk⟩:=qY hw r _ hk';refine⟨v2::vs,?_,hk⟩;have:=tA hw hp qs;simp only[xd7,Sem.run_bind,Result.andThen_ok,hr,Sem.run_pure,this]
theorem iO{fn:Func}{fr:Fr}{H:Hp}{n:Nat}{a:Act}{w:World}(ha:cB ds n a fr)(hw:Own g H w){k:List zV->Prop}(h:vi P fr H fn.results.toList k):
    ∃vs,(results fn a.tmps).run P w=.ok (E0 vs) w/\k vs:=by
  obtain⟨vs,hr,hk⟩:=qY (P:=P) hw _ _ h;refine⟨vs,?_,hk⟩;have e:results fn a.tmps=(do let vs <-fn.results.mapM (MS fr);pure (if h:vs.size=1 then vs[0]else .tuple vs)):=by
    unfold results;congr 1;congr 1
    funext x
    cases x<;>simp only[MS,ha.get]
  rw[e,Array.mapM_eq_mapM_toList];simp only[Sem.run_bind,Sem.run_map,hr,Result.andThen_ok,Sem.run_pure];congr 1
  match vs with
  | []=>rfl
  | [v]=>rfl
  |a::b::r=>simp[E0]
theorem Gu{f:FuncId}{fn:Func}{hn:Hn}{args:List zV}{H:Hp}{R:Ending->Hp->Prop}(hf:P.funcs[f]? =some fn)(h:Gv P g fn hn args H R):bD P g f args.toArray H R:=by
  intro w hw;unfold Gv at h;split at h<;>try exact h.elim
  rename_i c hc;cases hl:Nat.ble args.length fn.ntmps<;>simp only[hl,xaq,xah]at h;have hle:=xcP hl;refine calls_of_wp hf hc (wp_mono (l9 c hn _ _ H h _ w ⟨rfl,?_,?_⟩ hw) ?_)
  · simp;omega
  · intro s
    rw[mQ,xat,xdV];simp only[xcV,xcQ,xa0,xc2];by_cases hs:s<args.length
    · simp[hs,List.getD]
    · rw[xac hs]
      rw[xc0];have:args.getD s undef=undef:=by simp[List.getD,xaE (xc3 hs)]
      rw[this];split<;>rfl
  · rintro e a' w' ⟨fr',H',ej,eU,_,hq⟩
    cases e with
    |normal=>obtain⟨vs,hr,hk⟩:=iO ej eU hq;exact⟨ej.defers,_,hr,H',eU,hk⟩
    |ret=>obtain⟨vs,hr,hk⟩:=iO ej eU hq;exact⟨ej.defers,_,hr,H',eU,hk⟩
    |panic ch=>exact⟨ej.defers,H',eU,hq⟩
    |exit id=>exact hq.elim
    |goto l=>exact hq.elim
    |outgrown=>exact hq.elim
end
end Go.Sx
namespace Go.Sx
open Go
section
variable {P:Program} {g:Gh} {H:Hp}
theorem Nil.ptr{a:Addr}{k:zV->Prop}(h:k (.pointer (some a))):Nil (.pointer (some a)) k:=⟨_,rfl,h⟩
theorem ai.mk{b o off:Nat}{k:zV->Prop}(h:k (.pointer (some ⟨b,o+off,none⟩))):ai off (.pointer (some ⟨b,o,none⟩)) k:=⟨b,o,rfl,h⟩
theorem Ld.mk{b off:Nat}{c:Array zV}{T:TypeId}{fz:Nat×Nat}{v:zV}{k:zV->Prop}(hm:(b,Obj.cells c T fz)∈H)(hc:c[off]? =some v)(h:k v):Ld H (.pointer (some ⟨b,off,none⟩)) k:=
 ⟨b,off,c,T,fz,v,rfl,hm,hc,h⟩
theorem ax.mk{b off n:Nat}{c:Array zV}{T:TypeId}{fz:Nat×Nat}{vs:Array zV}{k:zV->Prop}(hm:(b,Obj.cells c T fz)∈H)(hs:off+n<=c.size)(hc:c.extract off (off+n)=vs)(h:k (.agg vs)):ax n H (.pointer (some ⟨b,off,none⟩)) k:=
 ⟨b,off,c,T,fz,rfl,hm,hs,by rw[hc];exact h⟩
theorem St.mk{b off n:Nat}{c:Array zV}{T:TypeId}{x:zV}{c':Array zV}{H':Hp}{k:Hp->Prop}(hu:c8 b (.cells c T zZ) (.cells c' T zZ) H H')(hx:x.cells.size=n)(hs:off+n<=c.size)
 (h1:∀v∈x.cells.toList,v.oneCell'=true)(hc:jQ c off x.cells.toList=c')(h:k H'):St n H (.pointer (some ⟨b,off,none⟩)) x k:=
 ⟨b,off,c,T,H',rfl,hx,hs,h1,by rw[hc];exact hu,h⟩
theorem JE.mk{J:List zV->Hp->Prop}{vs:List zV}(h:J vs H):JE J vs H:=⟨H,.refl _,h⟩
theorem JE.of{J:List zV->Hp->Prop}{vs:List zV}{H':Hp}(e:aL H H')(h:J vs H'):JE J vs H:=⟨H',e,h⟩
theorem aC.mk{I:List zV->Hp->Prop}{m:List zV->Hp->Nat}{vs' vs:List zV}{H0:Hp}(h:I vs' H)(hm:m vs' H<m vs H0):aC I m vs' H vs H0:=⟨H,.refl _,h,hm⟩
theorem aC.of{I:List zV->Hp->Prop}{m:List zV->Hp->Nat}{vs' vs:List zV}{H' H0:Hp}(e:aL H H')(h:I vs' H')(hm:m vs' H'<m vs H0):aC I m vs' H vs H0:=⟨H',e,h,hm⟩
theorem Br.mk{b:Bool}{t f:Prop}(h1:b=true->t)(h2:b=false->f):Br (.bool b) t f:=⟨b,rfl,h1,h2⟩
theorem Br.yes{t f:Prop}(h1:t):Br (.bool true) t f:=⟨true,rfl,λ_=>h1,λh=>by simp at h⟩
theorem Br.no{t f:Prop}(h1:f):Br (.bool false) t f:=⟨false,rfl,λh=>by simp at h,λ_=>h1⟩
theorem Br.T9{b:Bool}{t f:Prop}(hb:b=true)(h1:t):Br (.bool b) t f:=by subst hb;exact Br.yes h1
theorem Br.TQ{b:Bool}{t f:Prop}(hb:b=false)(h1:f):Br (.bool b) t f:=by subst hb;exact Br.no h1
theorem cm.mk{a:Bool}{want:Bool}{inner els k:Bool->Prop}(t:Bool)(h1:a=want->inner t)(h2:a= !want->els t)(h3:k t):cm (.bool a) want inner els k:=⟨a,t,rfl,h1,h2,h3⟩
theorem cm.and{a:Bool}{inner els k:Bool->Prop}(b:Bool)(h1:a=true->inner b)(h2:els false)(h3:k (a&&b)):cm (.bool a) true inner els k:=
 ⟨a,a&&b,rfl,λe=>by subst e;exact h1 rfl,λe=>by subst e;exact h2,h3⟩
theorem cm.or{a:Bool}{inner els k:Bool->Prop}(b:Bool)(h1:a=false->inner b)(h2:els true)(h3:k (a||b)):cm (.bool a) false inner els k:=
 ⟨a,a||b,rfl,λe=>by subst e;exact h1 rfl,λe=>by subst e;exact h2,h3⟩
theorem Split.mk{a:Bool}{want:Bool}{k1 k2:Prop}(h1:a=want->k1)(h2:a= !want->k2):Split (.bool a) want k1 k2:=⟨a,rfl,h1,h2⟩
theorem Split.go{a:Bool}{want:Bool}{k1 k2:Prop}(e:a=want)(h1:k1):Split (.bool a) want k1 k2:=⟨a,rfl,λ_=>h1,λe'=>by subst e;cases a<;>simp at e'⟩
theorem Split.AQ{a:Bool}{want:Bool}{k1 k2:Prop}(e:a= !want)(h1:k2):Split (.bool a) want k1 k2:=⟨a,rfl,λe'=>by subst e';cases a<;>simp at e,λ_=>h1⟩
theorem aD.mk{t:Bool}{a b:zV}{k:zV->Prop}(h:k (cond t a b)):aD (.bool t) a b k:=⟨t,rfl,h⟩
theorem Un.not{b:Bool}{k:zV->Prop}(h:k (.bool !b)):Un .not (.bool b) k:=⟨_,rfl,h⟩
theorem Ext.mk{i:Nat}{vs:Array zV}{v:zV}{k:zV->Prop}(hv:vs[i]? =some v)(h:k v):Ext i (.tuple vs) k:=⟨vs,v,rfl,hv,h⟩
theorem aR.mk{a:Option Addr}{n c:Nat}{k:zV->Prop}(h:k (.int .i64 n)):aR (.slice a n c) k:=⟨a,n,c,rfl,h⟩
theorem aV.of{kd j:IntKind}{n m:Int}{k:zV->Prop}(e:kd.wrap n=m)(h:k (.int kd m)):aV kd (.int j n) k:=⟨j,n,rfl,by rw[e];exact h⟩
theorem An.mk{off:Nat}{cs:Array zV}{v:zV}{k:zV->Prop}(hc:cs[off]? =some v)(h:k v):An off (.agg cs) k:=⟨cs,v,rfl,hc,h⟩
theorem au.mk{size b o n c:Nat}{kd:IntKind}{i:Int}{k:zV->Prop}(h0:0<=i)(h1:i<(n:Int))(h:k (.pointer (some ⟨b,o+i.toNat*size,none⟩))):au size (.slice (some ⟨b,o,none⟩) n c) (.int kd i) k:=
 ⟨b,o,n,c,kd,i,rfl,rfl,h0,h1,h⟩
theorem au.nat{size b o n c:Nat}{kd:IntKind}{j:Nat}{k:zV->Prop}(h1:j<n)(h:k (.pointer (some ⟨b,o+j*size,none⟩))):au size (.slice (some ⟨b,o,none⟩) n c) (.int kd (j:Int)) k:=
 au.mk (xdd j) zO (by simpa using h)
theorem au.of{size b o n c:Nat}{kd:IntKind}{i:Int}{k:zV->Prop}(j:Nat)(e:i=(j:Int))(h1:j<n)(h:k (.pointer (some ⟨b,o+j*size,none⟩))):au size (.slice (some ⟨b,o,none⟩) n c) (.int kd i) k:=by
 subst e;exact au.nat h1 h
theorem ae.eql{kd:IntKind}{a b:Int}{k:zV->Prop}(h:k (.bool (a==b))):ae .num .eql (.int kd a) (.int kd b) k:=⟨_,by simp[gw,lT],h⟩
theorem ae.neq{kd:IntKind}{a b:Int}{k:zV->Prop}(h:k (.bool (a !=b))):ae .num .neq (.int kd a) (.int kd b) k:=⟨_,by simp[gw,lT],h⟩
theorem ae.lss{kd:IntKind}{a b:Int}{k:zV->Prop}(h:k (.bool (decide (a<b)))):ae .num .lss (.int kd a) (.int kd b) k:=⟨_,by simp[gw,lT],h⟩
theorem ae.leq{kd:IntKind}{a b:Int}{k:zV->Prop}(h:k (.bool (decide (a<=b)))):ae .num .leq (.int kd a) (.int kd b) k:=⟨_,by simp[gw,lT],h⟩
theorem ae.gtr{kd:IntKind}{a b:Int}{k:zV->Prop}(h:k (.bool (decide (b<a)))):ae .num .gtr (.int kd a) (.int kd b) k:=⟨_,by simp[gw,lT],h⟩
theorem ae.geq{kd:IntKind}{a b:Int}{k:zV->Prop}(h:k (.bool (decide (b<=a)))):ae .num .geq (.int kd a) (.int kd b) k:=⟨_,by simp[gw,lT],h⟩
theorem ae.add{kd:IntKind}{a b:Int}{k:zV->Prop}(h:k (.int kd (kd.wrap (a+b)))):ae .num .add (.int kd a) (.int kd b) k:=⟨_,by simp[gw,lT],h⟩
theorem ae.sub{kd:IntKind}{a b:Int}{k:zV->Prop}(h:k (.int kd (kd.wrap (a-b)))):ae .num .sub (.int kd a) (.int kd b) k:=⟨_,by simp[gw,lT],h⟩
theorem ae.mul{kd:IntKind}{a b:Int}{k:zV->Prop}(h:k (.int kd (kd.wrap (a*b)))):ae .num .mul (.int kd a) (.int kd b) k:=⟨_,by simp[gw,lT],h⟩
theorem wrap_i64{a:Int}(h: -9223372036854775808<=a/\a<=9223372036854775807):IntKind.i64.wrap a=a:=IntWalk.i64_in _ h
theorem ae.En{a b:Int}{c:Int}{k:zV->Prop}(e:a+b=c)(hb: -9223372036854775808<=c/\c<=9223372036854775807)(h:k (.int .i64 c)):ae .num .add (.int .i64 a) (.int .i64 b) k:=
 ae.add (by rw[e,wrap_i64 hb];exact h)
theorem ae.lg{a b:Int}{c:Int}{k:zV->Prop}(e:a-b=c)(hb: -9223372036854775808<=c/\c<=9223372036854775807)(h:k (.int .i64 c)):ae .num .sub (.int .i64 a) (.int .i64 b) k:=
 ae.sub (by rw[e,wrap_i64 hb];exact h)
theorem ae.abn{a b:Int}{c:Int}{k:zV->Prop}(e:a*b=c)(hb: -9223372036854775808<=c/\c<=9223372036854775807)(h:k (.int .i64 c)):ae .num .mul (.int .i64 a) (.int .i64 b) k:=
 ae.mul (by rw[e,wrap_i64 hb];exact h)
theorem ae.Qx{a b:Int}{c:Int}{k:zV->Prop}(hb0:b≠0)(e:a.tdiv b=c)(hb: -9223372036854775808<=c/\c<=9223372036854775807)(h:k (.int .i64 c)):ae .num .quo (.int .i64 a) (.int .i64 b) k:=
 ⟨.int .i64 c,by simp[gw,lT,hb0,e,wrap_i64 hb],h⟩
theorem ae.aH{a:Addr}{k:zV->Prop}(h:k (.bool false)):ae .ptr .eql (.pointer (some a)) (.pointer none) k:=⟨.bool false,by simp[gw],h⟩
theorem ae.kR{k:zV->Prop}(h:k (.bool true)):ae .ptr .eql (.pointer none) (.pointer none) k:=⟨.bool true,by simp[gw],h⟩
theorem ae.AN{a:Addr}{k:zV->Prop}(h:k (.bool true)):ae .ptr .neq (.pointer (some a)) (.pointer none) k:=⟨.bool true,by simp[gw],h⟩
theorem ae.kS{a:Option Nat}{k:zV->Prop}(h:k (.bool a.isNone)):ae .map .eql (.map a) (.map none) k:=⟨.bool a.isNone,by simp[gw],h⟩
theorem ae.abm{a b:Bool}{k:zV->Prop}(h:k (.bool (!(a==b)))):ae .bool .neq (.bool a) (.bool b) k:=⟨_,by simp[gw],h⟩
theorem aL.B8(A B C:Hp):aL (A++(B++C)) (B++(A++C)):=.perm (by rw[<-xaj,<-xaj];exact xbe.append_right C)
def flat:List Hp->Hp
 | []=>[]
 | [a]=>a
 |a::b::r=>a++flat (b::r)
theorem sW:∀(l:List Hp),(flat l).Perm l.flatten
 | []=>.refl _
 | [a]=>by simp[flat]
 |a::b::r=>by
  simp only[flat,xcW];exact xbZ _ (by simpa using sW (b::r))
theorem aL.aa9(S T:List Hp)(h:S.Perm T):aL (flat S) (flat T):=
 .perm ((sW S).trans (h.flatten.trans (sW T).symm))
def rows(l:List (List zV)):Array zV:=l.flatten.toArray
theorem tK{k:Nat}:∀(l:List (List zV)) (i j:Nat),(∀r∈l,r.length=k)->j<k->l.flatten[i*k+j]? =(l[i]?).bind (·[j]?)
 | [],i,j,_,_=>by simp
 |r::l,0,j,h,hj=>by
  have:=h r zI;simp[xd0,this,hj]
 |r::l,i+1,j,h,hj=>by
  have hr:=h r zI;have ih:=tK l i j (λx hx=>h x (by simp[hx])) hj;rw[xcW,xbu (by rw[hr,xbC];omega),hr,show(i+1)*k+j-k=i*k+j by rw[xbC];omega,ih];simp
theorem dr{k:Nat}:∀(l:List (List zV)),(∀r∈l,r.length=k)->l.flatten.length=l.length*k
 | [],_=>by simp
 |r::l,h=>by
  have hr:=h r zI;rw[xcW,xaf,hr,dr l (λx hx=>h x (by simp[hx]))];simp[xbC];omega
theorem bR{k:Nat}{l:List (List zV)}(h:∀r∈l,r.length=k):(rows l).size=l.length*k:=by simp[rows,dr l h]
theorem iN{k:Nat}{l:List (List zV)}(h:∀r∈l,r.length=k){i j:Nat}(hj:j<k):(rows l)[i*k+j]? =(l[i]?).bind (·[j]?):=by
 simp only[rows,xdp];exact tK l i j h hj
theorem AK{k:Nat}{l:List (List zV)}(h:∀r∈l,r.length=k){i:Nat}{r:List zV}(hi:l[i]? =some r):(rows l).extract (i*k) (i*k+k)=r.toArray:=by
 have hr:=h r (xav hi);have hlt:=(xak.1 hi).1;apply xde;apply xbg;intro j;by_cases hj:j<k
 ·have:=iN h (i:=i) hj;rw[xbf,xdh];rw[xad (by rw[bR h];have:=xaV k (xcH hlt);rw[xbC]at this;omega),this,hi];simp
 rw[xaE zP,xaE zP]
theorem q7:∀(vs:List zV) (c:List zV) (off:Nat),off+vs.length<=c.length->jQ c.toArray off vs=(c.take off++vs++c.drop (off+vs.length)).toArray
 | [],c,off,_=>by simp[jQ]
 |v::r,c,off,h=>by
  simp only[xaH]at h;have hl:off<c.length:=by omega
  have:c.toArray.setIfInBounds off v=(c.set off v).toArray:=by simp
  rw[jQ,this,q7 r (c.set off v) (off+1) (by simp only[xbT];omega)];congr 1;have e1:(c.set off v).take (off+1)=c.take off++[v]:=by
   rw[xcZ,xad hl,List.take_append];simp[List.take_take,hl,xcB (xb9 hl)]
  have e2:(c.set off v).drop (off+1+r.length)=c.drop (off+(v::r).length):=by
   rw[List.drop_set_of_lt zO];simp only[xaH];rw[show off+1+r.length=off+(r.length+1)by omega]
  rw[e1,e2];simp
theorem Cu{k:Nat}{l:List (List zV)}(h:∀r∈l,r.length=k){i:Nat}(hi:i<l.length){r:List zV}(hr:r.length=k):jQ (rows l) (i*k) r=rows (l.set i r):=by
 unfold rows;have hlen:=dr l h;have hle:i*k+k<=l.length*k:=by have:=xaV k (xcH hi);rwa [xbC]at this
 rw[q7 r l.flatten (i*k) (by rw[hlen,hr];exact hle)];congr 1;have e:l=l.take i++[l[i]]++l.drop (i+1):=by simp
 have hp:(l.take i).flatten.length=i*k:=by
  rw[dr _ (λx hx=>h x (xcC hx))];simp[xcB (xb9 hi)]
 have hm:l[i].length=k:=h _ (xaF hi);have e3:l.flatten=(l.take i).flatten++(l[i]++(l.drop (i+1)).flatten):=by
  rw[<-xcW,<-xcr,<-xbc hi,xbk]
 have e4:(l.set i r).flatten=(l.take i).flatten++(r++(l.drop (i+1)).flatten):=by
  rw[xcZ,xad hi];simp[xcr]
 rw[e4,e3,<-hp,xd8,<-List.drop_drop,List.drop_left,hr,<-hm,List.drop_left];simp
end
end Go.Sx
namespace Go.Sx
open Go
section
variable {P:Program} {g:Gh}
theorem c8.cc{b:Nat}{o o':Obj}{C C':Hp}(h:c8 b o o' C C')(A:Hp):c8 b o o' (A++C) (A++C'):=by
 induction A with
 |nil=>exact h
 |cons x A ih=>exact .tail ih
def bg(T:TypeId)(k:Nat)(v:zV)(rs:List (List zV))(C:Hp):Prop:=
 (v=.slice none 0 0/\rs=[]/\C=[])\/
 ∃b aP,v=.slice (some ⟨b,0,none⟩) rs.length (rs.length+aP.length)/\C=[(b,.cells (rows (rs++aP)) T zZ)]/\(∀r∈rs++aP,r.length=k)
theorem bg.nil(T:TypeId)(k:Nat):bg T k (.slice none 0 0) [] []:=.inl ⟨rfl,rfl,rfl⟩
theorem bg.len{T:TypeId}{k:Nat}{v:zV}{rs:List (List zV)}{C:Hp}(h:bg T k v rs C):∃a c,v=.slice a rs.length c:=by
 rcases h with⟨rfl,rfl,rfl⟩|⟨b,aP,rfl,_⟩
 ·exact⟨_,_,rfl⟩
 exact⟨_,_,rfl⟩
theorem bg.bP{T:TypeId}{k:Nat}{v:zV}{rs:List (List zV)}{C:Hp}(h:bg T k v rs C){K:zV->Prop}(hk:K (.int .i64 rs.length)):aR v K:=by
 obtain⟨a,c,rfl⟩:=h.len;exact aR.mk hk
theorem qO{k:Nat}(z:List zV)(hz:z.length=k)(m:Nat):Builtin.zeroCells z.toArray m=rows (List.replicate m z):=by
 apply xde;apply xbg;intro j;have aI:∀r∈List.replicate m z,r.length=k:=λr hr=>by rw[xb0 hr,hz]
 by_cases hj:j<m*k
 ·have hk:0<k:=xee λe=>by simp[e]at hj
  have hd:j/k<m:=xd1 (by rw[xcm];exact hj);have hm:j%k<k:=xbv _ hk;have he:j/k*k+j%k=j:=by rw[xcm];exact xet j k
  have:=iN aI (i:=j/k) hm;rw[he]at this;rw[xbf,xbf,this];simp only[Builtin.zeroCells,xcV,hz,xdM,hd,xa7,xen];rw[Array.getElem?_map,Array.getElem?_range];simp[hj,hz,hm]
 rw[xaE,xaE]
 ·simp only[xce,bR aI,xdW];omega
 simp[Builtin.zeroCells,hz];omega
theorem eo(a b:List (List zV)):rows a++rows b=rows (a++b):=by simp[rows,xcr]
theorem bg.GL{elem k bytes:Nat}{zero:zV}{v:zV}{rs:List (List zV)}{C A B:Hp}(h:bg elem k v rs C){xb:Nat}{r:List zV}{xT:TypeId}{fz:Nat×Nat}{xc:Nat}
 (hx:(xb,Obj.cells r.toArray xT fz)∈A++(C++B))(hr:r.length=k)(h1:∀u∈r,u.oneCell'=true)(hz:∃z:List zV,zero.cells=z.toArray/\z.length=k)
 (hb:(rs.length+1)*bytes<=140737488355328)(cJ:rs.length+1<=9223372036854775807){K:zV->Hp->Prop}
 (hk:∀v' C',bg elem k v' (rs++[r]) C'->K v' (A++(C'++B))):App P elem k bytes zero (A++(C++B)) v (.slice (some ⟨xb,0,none⟩) 1 xc) K:=by
 have Lr:∀x∈[r],x.length=k:=λx hx=>by simp at hx;rw[hx];exact hr
 obtain⟨z,hz1,Vy⟩:=hz;have hnews:Cells (A++(C++B)) (some ⟨xb,0,none⟩) (1*k) (rows [r]):=.inr ⟨rfl,_,_,_,hx,by simp[hr],by simp[rows];rw[<-hr,xbl]⟩;have hnone:∀u∈(rows [r]).toList,u.oneCell'=true:=by simpa[rows]using h1
 rcases h with⟨rfl,rfl,rfl⟩|⟨b,aP,rfl,rfl,aI⟩
 ·refine⟨none,0,0,some ⟨xb,0,none⟩,1,xc,#[],rows [r],rfl,rfl,rfl,hnews,by rw[bR Lr];simp,by simp,hnone,λh=>by omega,λ_=>⟨hb,by omega,λgu hn b hbf=>?_⟩⟩;rw[show(#[]:Array zV)++rows [r]++Builtin.zeroCells zero.cells (gu-(0+1))=rows ([]++[r]++List.replicate (gu-1) z)by rw[hz1,qO z Vy];simp only[xa3,xdb,xb5];rw[eo]];refine⟨_,aL.B8 [(b,_)] A B,hk _ [(b,_)] (.inr ⟨b,List.replicate (gu-1) z,?_,rfl,?_⟩)⟩
  ·simp;omega
  intro x hx;rcases xao.1 hx with hx|hx
  ·exact Lr x hx
  rw[xb0 hx,Vy]
 have hsz:=bR aI;have pL:∀x∈rs,x.length=k:=λx hx=>aI x (by simp[hx]);have hold:rows rs=(rows (rs++aP)).extract 0 (0+rs.length*k):=by
  rw[<-eo];apply xde;have:=bR pL;have h2:(rows rs).toList.length=rs.length*k:=by rw[xce];exact this
  rw[Array.toList_extract,Array.toList_append,List.extract_eq_take_drop,List.drop_zero,xa3,xc2,<-h2,xd8]
 refine⟨some ⟨b,0,none⟩,rs.length,rs.length+aP.length,some ⟨xb,0,none⟩,1,xc,rows rs,rows [r],rfl,rfl,.inr ⟨rfl,_,elem,(0,0),by simp,?_,hold⟩,hnews,by rw[bR Lr];simp,bR pL,hnone,λhfit=>?_,λhgrow=>⟨hb,by omega,λgu hn b' hbf=>?_⟩⟩
 ·rw[hsz];simp only[xaf,xa3];exact xaV _ zO
 ·obtain⟨j0,Q9,rfl⟩:∃j0 Q9,aP=j0::Q9:=by cases aP with|nil=>exact absurd hfit (by simp only[xcf];omega)|cons a b=>exact⟨a,b,rfl⟩
  refine⟨_,elem,_,rfl,?_,((c8.head _).append B).cc A,hk _ [(b,_)] (.inr ⟨b,Q9,?_,?_,?_⟩)⟩
  ·rw[hsz];simp[xbC,xdQ]
  ·simp;omega
  ·have e:(rows [r]).toList=r:=by simp[rows]
   rw[e,show(⟨b,0,none⟩:Addr).off+rs.length*k=rs.length*k by simp,Cu aI zI hr];simp
  intro x hx;simp only[xaj,xaR,xb5,xao,xam]at hx;rcases hx with hx|hx|hx
  ·exact pL x hx
  ·rw[hx];exact hr
  exact aI x (by simp[hx])
 refine⟨A++([(b',_)]++B),?_,hk _ [(b',_)] (.inr ⟨b',List.replicate (gu-(rs.length+1)) z,?_,rfl,?_⟩)⟩
 ·rw[hz1,qO z Vy,eo,eo];exact λg w h=>(aL.aa9 [[_],A,[_],B] [[_],A,[_],B] ((xbe (l₁:=[_,A]) (l₂:=[_])).append_right [B]|>.trans (.cons _ (.swap _ _ _))) g w h).tail
 ·simp;omega
 intro x hx;rcases xao.1 hx with hx|hx
 ·rcases xao.1 hx with hx|hx
  ·exact pL x hx
  exact Lr x hx
 rw[xb0 hx,Vy]
end
end Go.Sx
namespace Go.Sx
open Go
section
variable {P:Program} {g:Gh} {H:Hp}
theorem bg.pos{T:TypeId}{k:Nat}{v:zV}{rs:List (List zV)}{C:Hp}(h:bg T k v rs C)(hp:0<rs.length):
  ∃b aP,v=.slice (some ⟨b,0,none⟩) rs.length (rs.length+aP.length)/\C=[(b,.cells (rows (rs++aP)) T zZ)]/\(∀r∈rs++aP,r.length=k):=by
 rcases h with⟨_,rfl,_⟩|h
 ·simp at hp
 exact h
theorem bg.mk{T:TypeId}{k b:Nat}{rs aP:List (List zV)}(aI:∀r∈rs++aP,r.length=k):bg T k (.slice (some ⟨b,0,none⟩) rs.length (rs.length+aP.length)) rs [(b,.cells (rows (rs++aP)) T zZ)]:=
 .inr ⟨b,aP,rfl,rfl,aI⟩
theorem bg.mk'{T:TypeId}{k b n c:Nat}{rs aP:List (List zV)}(aI:∀r∈rs++aP,r.length=k)(hn:n=rs.length)(hc:c=rs.length+aP.length):bg T k (.slice (some ⟨b,0,none⟩) n c) rs [(b,.cells (rows (rs++aP)) T zZ)]:=by
 subst hn;subst hc;exact bg.mk aI
theorem ax.row{b i k:Nat}{l:List (List zV)}{T:TypeId}{fz:Nat×Nat}{r:List zV}{K:zV->Prop}(hm:(b,Obj.cells (rows l) T fz)∈H)(aI:∀r∈l,r.length=k)(hi:l[i]? =some r)(h:K (.agg r.toArray)):
  ax k H (.pointer (some ⟨b,0+i*k,none⟩)) K:=by
 have hlt:=(xak.1 hi).1;refine ax.mk hm ?_ ?_ h
 ·rw[bR aI,xa3];have:=xaV k (xcH hlt);rwa [xbC]at this
 rw[xa3];exact AK aI hi
theorem Ld.row{b i j k:Nat}{l:List (List zV)}{T:TypeId}{fz:Nat×Nat}{r:List zV}{v:zV}{K:zV->Prop}(hm:(b,Obj.cells (rows l) T fz)∈H)(aI:∀r∈l,r.length=k)(hi:l[i]? =some r)(hv:r[j]? =some v)(h:K v):
  Ld H (.pointer (some ⟨b,0+i*k+j,none⟩)) K:=by
 have hr:=aI r (xav hi);have hj:j<k:=by rw[<-hr];exact(xak.1 hv).1
 refine Ld.mk hm ?_ h;rw[xa3,iN aI hj,hi];exact hv
theorem Ld.aba{b i:Nat}{l:List (List zV)}{T:TypeId}{fz:Nat×Nat}{v:zV}{K:zV->Prop}(hm:(b,Obj.cells (rows l) T fz)∈H)(aI:∀r∈l,r.length=1)(hi:l[i]? =some [v])(h:K v):
  Ld H (.pointer (some ⟨b,0+i*1,none⟩)) K:=by
 have:=Ld.row (j:=0) hm aI hi rfl h;simpa using this
theorem St.row{b i k:Nat}{l:List (List zV)}{T:TypeId}{r:List zV}{H':Hp}{K:Hp->Prop}(hu:c8 b (.cells (rows l) T zZ) (.cells (rows (l.set i r)) T zZ) H H')(aI:∀r∈l,r.length=k)(hi:i<l.length)
 (hr:r.length=k)(h1:∀v∈r,v.oneCell'=true)(h:K H'):St k H (.pointer (some ⟨b,0+i*k,none⟩)) (.agg r.toArray) K:=by
 refine St.mk hu (by simp[Value.cells,hr]) ?_ (by simpa[Value.cells]using h1) ?_ h
 ·rw[bR aI,xa3];have:=xaV k (xcH hi);rwa [xbC]at this
 simp only[Value.cells,xa3];exact Cu aI hi hr
theorem pF{k:Nat}{l:List (List zV)}(h:∀r∈l,r.length=k){i j:Nat}{r:List zV}(hi:l[i]? =some r)(hj:j<k)(v:zV):(rows l).setIfInBounds (i*k+j) v=rows (l.set i (r.set j v)):=by
 have hr:=h r (xav hi);have hlt:=(xak.1 hi).1;have Sc:∀x∈l.set i (r.set j v),x.length=k:=λx hx=>by
  rcases xcg hx with hx|hx
  ·exact h x hx
  rw[hx,xbT];exact hr
 have hk:0<k:=by omega
 apply xde;apply xbg;intro m;rw[xbf,xbf,xcp];have hm:m%k<k:=xbv _ hk;have he:m/k*k+m%k=m:=by rw[xcm];exact xet m k
 have g1:=iN h (i:=m/k) hm;have g2:=iN Sc (i:=m/k) hm;rw[he]at g1 g2;rw[g1,g2];by_cases e:i*k+j=m
 ·have e1:m/k=i:=by rw[<-e,xcm,Nat.mul_add_div hk,xdr hj,xcv]
  have e2:m%k=j:=by rw[<-e,xcm,Nat.mul_add_mod,xbm hj]
  rw[xad e,xad (by rw[bR h];have:=xaV k (xcH hlt);rw[xbC]at this;omega),e1,e2];simp[hlt,hr,hj]
 rw[xac e];by_cases e1:m/k=i
 ·have e2:j≠m%k:=λe2=>e (by rw[e2,<-e1];exact he);rw[e1,hi];simp[hlt,e2]
 rw[xbI (λx=>e1 x.symm)]
theorem St.cell{b i j k:Nat}{l:List (List zV)}{T:TypeId}{r:List zV}{v:zV}{H':Hp}{K:Hp->Prop}(hu:c8 b (.cells (rows l) T zZ) (.cells (rows (l.set i (r.set j v))) T zZ) H H')(aI:∀r∈l,r.length=k)
 (hi:l[i]? =some r)(hj:j<k)(h1:v.oneCell'=true)(h:K H'):St 1 H (.pointer (some ⟨b,0+i*k+j,none⟩)) v K:=by
 have hlt:=(xak.1 hi).1;have hc:v.cells=#[v]:=by cases v<;>first|rfl|(simp[Value.oneCell']at h1)
 refine St.mk hu (by simp[hc]) ?_ (by simp[hc,h1]) ?_ h
 ·rw[bR aI,xa3];have:=xaV k (xcH hlt);rw[xbC]at this;omega
 simp only[hc,xa3,jQ];exact pF aI hi hj v
theorem St.one{b off:Nat}{c c':Array zV}{T:TypeId}{v:zV}{H':Hp}{K:Hp->Prop}(hu:c8 b (.cells c T zZ) (.cells c' T zZ) H H')(h1:v.oneCell'=true)(hs:off<c.size)(hc:c.setIfInBounds off v=c')(h:K H'):
  St 1 H (.pointer (some ⟨b,off,none⟩)) v K:=by
 have hv:v.cells=#[v]:=by cases v<;>first|rfl|(simp[Value.oneCell']at h1)
 exact St.mk hu (by simp[hv]) zO (by simp[hv,h1]) (by simpa[hv,jQ]using hc) h
theorem St.whole{b n:Nat}{c:Array zV}{T:TypeId}{r:List zV}{H':Hp}{K:Hp->Prop}(hu:c8 b (.cells c T zZ) (.cells r.toArray T zZ) H H')(hs:c.size=n)(hr:r.length=n)(h1:∀v∈r,v.oneCell'=true)(h:K H'):
  St n H (.pointer (some ⟨b,0,none⟩)) (.agg r.toArray) K:=by
 refine St.mk hu (by simp[Value.cells,hr]) zO (by simpa[Value.cells]using h1) ?_ h;have:=q7 r c.toList 0 zP;rw[xdZ]at this;simp only[Value.cells];rw[this];simp[xdi,hr,hs]
theorem ax.whole{b n:Nat}{r:List zV}{T:TypeId}{fz:Nat×Nat}{K:zV->Prop}(hm:(b,Obj.cells r.toArray T fz)∈H)(hr:r.length=n)(h:K (.agg r.toArray)):ax n H (.pointer (some ⟨b,0,none⟩)) K:=
 ax.mk hm (by simp[hr]) (by simp;rw[<-hr,xbl]) h
theorem gW{α β:Type}(f:α->β):∀(l:List α) (i:Nat),(l.map f).eraseIdx i=(l.eraseIdx i).map f
 | [],_=>rfl
 |x::l,0=>rfl
 |x::l,i+1=>by simp[gW f l i]
def gg{β:Type}(kd:IntKind)(enc:β->zV)(m:List (Int×β×Nat)):Array MapEntry:=(m.map λx=>({key:=.int kd x.1,val:=enc x.2.1,born:=x.2.2}:MapEntry)).toArray
def gN{β:Type}(m:List (Int×β×Nat))(x:Int):Option β:=(m.find? (λy=>x==y.1)).map (·.2.1)
def kX{β:Type}(kd:IntKind)(enc:β->zV)(v:zV)(f:Int->Option β)(C:Hp):Prop:=
 (v=.map none/\C=[]/\f=λ_=>none)\/
 ∃b m ck,v=.map (some b)/\C=[(b,.map (gg kd enc m) ck)]/\(m.map Prod.fst).Nodup/\f=gN m
theorem jy{β:Type}(kd:IntKind)(enc:β->zV)(x:Int):∀(m:List (Int×β×Nat)) (i:Nat),
  ∃r,Instr.findNow (.int kd) (.int kd x) (gg kd enc m).toList i=some r/\
   (match r with
    |none=>gN m x=none/\x∉m.map Prod.fst
    |some (j,v)=>i<=j/\∃p n,m[j-i]? =some (x,p,n)/\v=enc p/\gN m x=some p)
 | [],i=>⟨none,by simp[gg,Instr.findNow],by simp[gN]⟩
 |(y,p,n)::m,i=>by
  simp only[gg,xaB,Instr.findNow,Instr.sameNow,xa7];by_cases e:x=y
  ·subst e;refine⟨some (i,enc p),by simp[Instr.findNow,Instr.sameNow],xag _,p,n,by simp,rfl,by simp[gN]⟩
  obtain⟨r,hr,hp⟩:=jy kd enc x m (i+1);have hb:(x==y)=false:=by simpa using e
  refine⟨r,?_,?_⟩
  ·simp only[gg]at hr;simp[Instr.findNow,Instr.sameNow,hb,hr]
  cases r with
  |none=>
   simp only[gN,xby,hb]at hp⊢;exact⟨hp.1,by simpa[e]using hp.2⟩
  |some jv=>
   obtain⟨j,v⟩:=jv;simp only[gN,xby,hb]at hp⊢;obtain⟨hij,p',n',h1,h2,h3⟩:=hp;refine⟨by omega,p',n',?_,h2,h3⟩;rw[show j-i=(j-(i+1))+1 by omega];simpa using h1
theorem kX.look{β:Type}{kd:IntKind}{enc:β->zV}{v zero:zV}{f:Int->Option β}{C:Hp}{ok:Bool}{x:Int}{K:zV->Prop}(h:kX kd enc v f C)(hC:∀y∈C,y∈H)
 (hk:K (match f x with|some p=>cond ok (.tuple #[enc p,.bool true]) (enc p)|none=>cond ok (.tuple #[zero,.bool false]) zero)):c6 (.int kd) zero ok H v (.int kd x) K:=by
 rcases h with⟨rfl,rfl,rfl⟩|⟨b,m,ck,rfl,rfl,_,rfl⟩
 ·exact⟨#[],none,.inl ⟨rfl,rfl⟩,rfl,hk⟩
 obtain⟨r,hr,hp⟩:=jy kd enc x m 0;refine⟨_,r,.inr ⟨b,ck,rfl,hC _ zI⟩,hr,?_⟩;cases r with
 |none=>simp only[hp.1]at hk;exact hk
 |some jv=>
  obtain⟨j,u⟩:=jv;obtain⟨_,p,n,_,rfl,h3⟩:=hp;simp only[h3]at hk;exact hk
def Pd{β:Type}(f:Int->Option β)(x:Int)(p:Option β):Int->Option β:=λy=>if y=x then p else f y
theorem kX.made{β:Type}{kd:IntKind}{enc:β->zV}(b:Nat):kX kd enc (.map (some b)) (λ_=>none) [(b,.map #[] 0)]:=
 .inr ⟨b,[],0,rfl,rfl,by simp,by funext x;simp[gN]⟩
theorem FD{β:Type}(m:List (Int×β×Nat))(x:Int)(p:β)(n:Nat)(hx:x∉m.map Prod.fst):gN (m++[(x,p,n)])=Pd (gN m) x (some p):=by
 funext y
 simp only[gN,Pd,List.find?_append];by_cases e:y=x
 ·subst e;have:m.find? (λz=>y==z.1)=none:=by
   rw[xcy];intro z hz;simp only[xcM];intro e;exact hx (e▸xaT hz)
  simp[this]
 have e':(y==x)=false:=by simpa using e
 rw[xac e];cases h:m.find? (λz=>y==z.1)<;>simp[e']
theorem yT{β:Type}:∀(m:List (Int×β×Nat)) (j:Nat) (x:Int) (p q:β) (n:Nat),(m.map Prod.fst).Nodup->m[j]? =some (x,q,n)->gN (m.set j (x,p,n))=Pd (gN m) x (some p)
 | [],j,_,_,_,_,_,h=>by simp at h
 |y::m,0,x,p,q,n,nd,h=>by
  simp at h;subst h
  funext z
  simp only[xcl,gN,Pd,xby];by_cases e:z=x
  ·subst e;simp
  have e':(z==x)=false:=by simpa using e
  rw[xac e];simp[e']
 |y::m,j+1,x,p,q,n,nd,h=>by
  simp at h;simp only[xaB,xaX]at nd;have ih:=yT m j x p q n nd.2 h;have hne:x≠y.1:=λe=>nd.1 (e▸xaT (f:=Prod.fst) (xav h))
  funext z
  have ihz:=congrFun ih z;simp only[xed,gN,Pd,xby]at ihz⊢;by_cases e:z=y.1
  ·have:z≠x:=λe2=>hne (e2▸e);simp[e,xba hne]
  have e':(z==y.1)=false:=by simpa using e
  simp only[e'];exact ihz
theorem tx{β:Type}:∀(m:List (Int×β×Nat)) (j:Nat) (x:Int) (q:β) (n:Nat),(m.map Prod.fst).Nodup->m[j]? =some (x,q,n)->gN (m.eraseIdx j)=Pd (gN m) x none
 | [],j,_,_,_,_,h=>by simp at h
 |y::m,0,x,q,n,nd,h=>by
  simp at h;subst h;simp only[xaB,xaX]at nd
  funext z
  simp only[List.eraseIdx_cons_zero,gN,Pd,xby];by_cases e:z=x
  ·subst e;have:m.find? (λw=>z==w.1)=none:=by
    rw[xcy];intro w hw;simp only[xcM];intro e;exact nd.1 (e▸xaT hw)
   simp[this]
  have e':(z==x)=false:=by simpa using e
  rw[xac e];simp[e']
 |y::m,j+1,x,q,n,nd,h=>by
  simp at h;simp only[xaB,xaX]at nd;have ih:=tx m j x q n nd.2 h;have hne:x≠y.1:=λe=>nd.1 (e▸xaT (f:=Prod.fst) (xav h))
  funext z
  have ihz:=congrFun ih z;simp only[List.eraseIdx_cons_succ,gN,Pd,xby]at ihz⊢;by_cases e:z=y.1
  ·simp[e,xba hne]
  have e':(z==y.1)=false:=by simpa using e
  simp only[e'];exact ihz
theorem kX.br{β:Type}{kd:IntKind}{enc:β->zV}{b:Nat}{f:Int->Option β}{C:Hp}{x:Int}{p:β}{A B:Hp}{K:Hp->Prop}(h:kX kd enc (.map (some b)) f C)
 (hk:∀C',kX kd enc (.map (some b)) (Pd f x (some p)) C'->K (A++(C'++B))):aW (.int kd) (A++(C++B)) (.map (some b)) (.int kd x) (enc p) K:=by
 rcases h with⟨h,_,_⟩|⟨b',m,ck,hb,rfl,nd,rfl⟩
 ·simp at h
 simp only[Value.map.injEq,xas]at hb;subst hb;obtain⟨r,hr,hp⟩:=jy kd enc x m 0;refine⟨b,gg kd enc m,ck,r,rfl,hr,?_⟩;cases r with
 |none=>
  refine⟨_,((c8.head _).append B).cc A,hk [(b,_)] (.inr ⟨b,m++[(x,p,ck)],ck+1,rfl,?_,?_,?_⟩)⟩
  ·simp[gg]
  ·rw[xaJ,xa5];exact⟨nd,by simp,λa ha c hc=>by simp at hc;subst hc;intro e;subst e;exact hp.2 ha⟩
  exact(FD m x p ck hp.2).symm
 |some jv=>
  obtain⟨j,u⟩:=jv;obtain⟨_,q,n,h1,rfl,h3⟩:=hp;rw[xc2]at h1;have hlt:=(xak.1 h1).1;refine⟨λe he=>?_,by simpa[gg]using hlt,_,((c8.head _).append B).cc A,hk [(b,_)] (.inr ⟨b,m.set j (x,p,n),ck,rfl,?_,?_,?_⟩)⟩
  ·have:e={key:=.int kd x,val:=enc q,born:=n}:=by
    simp only[gg,xdp,xau,h1]at he;simpa using he.symm
   subst this;simp[Instr.sameBits]
  ·congr 3;apply xde;apply xbg;intro i;simp only[gg,xbf,xbY,xdp,xau,xbr];by_cases e:j=i
   ·subst e;have hj:m[j]=(x,q,n):=by have:=xaa hlt;rw[h1]at this;simpa using this.symm
    simp[hlt,hj]
   simp[e]
  ·rw[xcN];have hx:(m.map Prod.fst)[j]? =some x:=by rw[xau,h1];rfl
   rw[show(m.map Prod.fst).set j x=m.map Prod.fst by
    apply xbg;intro i;rw[xbr];by_cases e:j=i
    ·subst e;rw[hx];simp[hlt]
    simp[e]]
   exact nd
  exact(yT m j x p q n nd h1).symm
theorem kX.del{β:Type}{kd:IntKind}{enc:β->zV}{v:zV}{f:Int->Option β}{C:Hp}{x:Int}{A B:Hp}{K:Hp->Prop}(h:kX kd enc v f C)
 (hk:∀C',kX kd enc v (Pd f x none) C'->K (A++(C'++B))):ot (.int kd) (A++(C++B)) v (.int kd x) K:=by
 rcases h with⟨rfl,rfl,rfl⟩|⟨b,m,ck,rfl,rfl,nd,rfl⟩
 ·refine .inl ⟨rfl,hk [] (.inl ⟨rfl,rfl,?_⟩)⟩
  funext y;simp[Pd]
 obtain⟨r,hr,hp⟩:=jy kd enc x m 0;refine .inr ⟨b,gg kd enc m,ck,r,rfl,hr,?_⟩;cases r with
 |none=>
  refine⟨by simp,hk [(b,_)] (.inr ⟨b,m,ck,rfl,rfl,nd,?_⟩)⟩
  funext y;simp only[Pd];split
  ·rename_i e;subst e;exact hp.1.symm
  rfl
 |some jv=>
  obtain⟨j,u⟩:=jv;obtain⟨_,q,n,h1,rfl,h3⟩:=hp;rw[xc2]at h1;have hlt:=(xak.1 h1).1;refine⟨_,((c8.head _).append B).cc A,hk [(b,_)] (.inr ⟨b,m.eraseIdx j,ck,rfl,?_,?_,?_⟩)⟩
  ·congr 3;apply xde;simp[gg,Array.eraseIdxIfInBounds,hlt,gW]
  ·rw[<-gW];exact nd.sublist (xdX _ _)
  exact(tx m j x q n nd h1).symm
end
end Go.Sx
namespace Go.Sx
open Go
section
variable {P:Program} {g:Gh} {H:Hp}
theorem wy(off:Nat):∀(r:List zV) (i:Nat) (c:Array zV),(r.zipIdx i).foldl (λcs (x:zV×Nat)=>cs.setIfInBounds (off+x.2) x.1) c=jQ c (off+i) r
 | [],i,c=>rfl
 |v::r,i,c=>by
  rw[List.zipIdx_cons,xcD,wy off r (i+1)];rfl
theorem NP(off:Nat)(a c:Array zV):a.zipIdx.foldl (λcs (x:zV×Nat)=>cs.setIfInBounds (off+x.2) x.1) c=jQ c off a.toList:=by
 rw[<-Array.foldl_toList];have:a.zipIdx.toList=a.toList.zipIdx 0:=by simp
 rw[this,wy off a.toList 0 c];rfl
def CD:List zV->Nat->List zV->List zV
 |c,_,[]=>c
 |c,off,v::r=>CD (c.set off v) (off+1) r
theorem qm:∀(r c:List zV) (off:Nat),jQ c.toArray off r=(CD c off r).toArray
 | [],c,off=>rfl
 |v::r,c,off=>by
  have:c.toArray.setIfInBounds off v=(c.set off v).toArray:=by simp
  rw[jQ,CD,this,qm r]
def zn(place:Nat->Option (Nat×Nat)):List zV->List (Nat×zV)->Option (List zV)
 |c,[]=>some c
 |c,(i,v)::r=>
  match place i with
  |none=>none
  |some (off,size)=>cond (Nat.beq v.cells.toList.length size&&Nat.ble (off+v.cells.toList.length) c.length) (zn place (CD c off v.cells.toList) r) none
theorem qv{place:Nat->Option (Nat×Nat)}:∀(r:List (Nat×zV)) (c cs:List zV),zn place c r=some cs->Instr.fill place c.toArray r=some cs.toArray
 | [],c,cs,h=>by simp only[zn,xas]at h;subst h;rfl
 |(i,v)::r,c,cs,h=>by
  simp only[zn]at h;simp only[Instr.fill];split at h
  ·simp at h
  rename_i off size hp;cases hc:(Nat.beq v.cells.toList.length size&&Nat.ble (off+v.cells.toList.length) c.length)<;>simp only[hc,xaq,xah,reduceCtorEq]at h;simp only[xaD]at hc;have h1:=xaG hc.1;have h2:=xcP hc.2;have h3:v.cells.toList.length=v.cells.size:=xce;have hsz:v.cells.size=size:=by rw[<-h3];exact h1
  have hle:off+v.cells.size<=c.length:=by rw[<-h3];exact h2
  simp only[hp];have R3:(decide (v.cells.size≠size)||decide (off+v.cells.size>c.toArray.size))=false:=by
   rw[xax];exact⟨by simp[hsz],by simp only[xcV,xa4];omega⟩
  rw[R3];simp only[xaQ,xa0];rw[NP,qm];exact qv r _ cs h
def qZ(P:Program):List Field->Option (List (Nat×Nat))
 | []=>some []
 |f::r=>match dO P f.type,qZ P r with
  |some n,some l=>some ((f.offset,n)::l)
  |_,_=>none
def S9(P:Program)(t:TypeId)(parts:List (Nat×zV)):Option (List zV):=
 match P.underlying t,fS P t with
 |some (.struct fs),some z=>match qZ P fs.toList with
  |some pl=>zn (λi=>pl[i]?) z.cells.toList parts
  |none=>none
 |_,_=>none
theorem tu:∀(fs:List Field) (pl:List (Nat×Nat)),qZ P fs=some pl->∀w,(fs.mapM λf=>(do pure (f.offset,<-sizeOf f.type):Sem (Nat×Nat))).run P w=.ok pl w
 | [],pl,h,w=>by simp only[qZ,xas]at h;subst h;rfl
 |f::r,pl,h,w=>by
  simp only[qZ]at h;split at h
  ·rename_i n l hn hl;simp only[xas]at h;subst h;obtain⟨i,hi,hin⟩:=bF hn;have ih:=tu r l hl w;simp only[xd7,Sem.run_bind,run_sizeOf hi,Result.andThen_ok,Sem.run_pure,hin,ih]
  simp at h
theorem Build.mk{t:TypeId}{parts:List (Nat×zV)}{cs:List zV}{k:zV->Prop}(hb:S9 P t parts=some cs)(h:k (.agg cs.toArray)):Build P t parts k:=by
 refine⟨_,λw=>?_,h⟩;unfold S9 at hb;split at hb
 ·rename_i fs z hu hz;split at hb
  ·rename_i pl zc;obtain⟨i,hi,x7⟩:=cH hz;have hf:=qv _ _ _ hb;have hp:=tu fs.toList pl zc w;simp only[Instr.build,Sem.run_bind,dU hi x7,Result.andThen_ok,run_underlying hu];have e2:((fs.mapM λf=>(do pure (f.offset,<-sizeOf f.type):Sem (Nat×Nat))).run P w)=.ok pl.toArray w:=by
    rw[Array.mapM_eq_mapM_toList];simp only[Sem.run_map,hp,Result.andThen_ok]
   rw[e2];show Sem.run P _ w=_;have e3:Instr.fill (λx=>pl.toArray[x]?) z.cells parts=some cs.toArray:=by
    simpa using hf
   simp only[e3];rfl
  simp at hb
 simp at hb
theorem az.one{t e k:Nat}{z:zV}{r:List zV}{K:zV->Hp->Prop}(h1:P.underlying t=some (.slice e))(h2:dO P e=some k)(h3:fS P e=some z)(hk:0<k/\k<=16777216)(hr:r.length=k)
 (h:∀b,K (.slice (some ⟨b,0,none⟩) 1 1) ((b,.cells r.toArray e zZ)::H)):az P t 1 [(0,.agg r.toArray)] H K:=by
 refine⟨r.toArray,e,k,z,h1,h2,h3,by omega,?_,λb _=>h b⟩;have:((Array.range (1*k)).map (z.cells[· %z.cells.size]!))=(((Array.range (1*k)).map (z.cells[· %z.cells.size]!)).toList).toArray:=by rw[xdZ]
 rw[this];generalize hc:((Array.range (1*k)).map (z.cells[· %z.cells.size]!)).toList=c;have hlen:c.length=k:=by rw[<-hc];simp
 refine qv _ _ _ ?_;simp only[zn,Value.cells];have hb:(Nat.beq r.toArray.toList.length k&&Nat.ble (0*k+r.toArray.toList.length) c.length)=true:=by simp[hr,hlen]
 rw[hb];simp only[xaq,xas];have:=q7 r c 0 zO;rw[qm]at this;have h5:CD c 0 r=List.take 0 c++r++List.drop (0+r.length) c:=by simpa using xcj Array.toList this
 simp only[xd2];rw[h5];simp[xdi,hr,hlen]
end
end Go.Sx
namespace Go.Sx
open Go
section
variable {P:Program} {g:Gh} {H:Hp}
theorem kX.Ng{β:Type}{kd:IntKind}{enc:β->zV}{v zero:zV}{f:Int->Option β}{C:Hp}{ok:Bool}{x:Int}{K:zV->Prop}{p:β}(h:kX kd enc v f C)(hC:∀y∈C,y∈H)(hf:f x=some p)
 (hk:K (cond ok (.tuple #[enc p,.bool true]) (enc p))):c6 (.int kd) zero ok H v (.int kd x) K:=h.look hC (by rw[hf];exact hk)
theorem kX.Nh{β:Type}{kd:IntKind}{enc:β->zV}{v zero:zV}{f:Int->Option β}{C:Hp}{ok:Bool}{x:Int}{K:zV->Prop}(h:kX kd enc v f C)(hC:∀y∈C,y∈H)(hf:f x=none)
 (hk:K (cond ok (.tuple #[zero,.bool false]) zero)):c6 (.int kd) zero ok H v (.int kd x) K:=h.look hC (by rw[hf];exact hk)
theorem gy.upto{size n c h:Nat}{a:Option Addr}{kd:IntKind}{k:zV->Prop}(hh:h<=c)(hk:k (.slice a h c)):gy size (.slice a n c) none (some (.int kd (h:Int))) k:=by
 refine⟨a,n,c,0,h,rfl,rfl,rfl,by omega,by omega,by omega,?_⟩;have:(if c=(0:Int).toNat then a else a.map (·.add ((0:Int).toNat*size)))=a:=by
  split
  ·rfl
  simp only[Int.toNat_zero,xd2];cases a with
  |none=>rfl
  |some x=>simp[Addr.add_zero']
 rw[this];simpa using hk
end
end Go.Sx
namespace Go.Sx
open Go
section
variable {P:Program} {g:Gh} {H:Hp}
inductive bI(C:Hp):Hp->(Hp->Hp)->Prop
 |here:bI C C (λX=>X)
 |left {A:Hp}:bI C (C++A) (λX=>X++A)
 |cons {x:Nat×Obj} {H:Hp} {c:Hp->Hp} (h:bI C H c):bI C (x::H) (λX=>x::c X)
 |app {A H:Hp} {c:Hp->Hp} (h:bI C H c):bI C (A++H) (λX=>A++c X)
theorem bI.spec{C H:Hp}{c:Hp->Hp}(h:bI C H c):H=c C/\∃F,∀X,(c X).Perm (X++F):=by
 induction h with
 |here=>exact⟨rfl,[],λX=>by simp⟩
 | @left A=>exact⟨rfl,A,λX=>.refl _⟩
 | @cons x H c h ih=>
  obtain⟨h1,F,h2⟩:=ih;exact⟨by rw[h1],x::F,λX=>(List.Perm.cons x (h2 X)).trans xaS.symm⟩
 | @app A H c h ih=>
  obtain⟨h1,F,h2⟩:=ih;refine⟨by rw[h1],A++F,λX=>(xbZ A (h2 X)).trans ?_⟩;rw[<-xaj,<-xaj];exact xbe.append_right F
theorem bI.dL{C H:Hp}{c:Hp->Hp}(h:bI C H c){X Y:Hp}(e:aL X Y):aL (c X) (c Y):=by
 obtain⟨_,F,hp⟩:=h.spec;exact(aL.perm (hp X)).trans ((e.frame F).trans (.perm (hp Y).symm))
theorem aL.cons{x:Nat×Obj}{A B:Hp}(h:aL A B):aL (x::A) (x::B):=aL.cU h [x]
theorem aL.skip{x:Nat×Obj}{A B:Hp}(h:aL A B):aL (x::A) B:=aL.tail.trans h
theorem aL.fT{X A B:Hp}(h:aL A B):aL (X++A) B:=aL.right.trans h
theorem aL.assoc{A B C:Hp}:aL ((A++B)++C) (A++(B++C)):=λ_ _ h=>by rw[<-xaj];exact h
theorem bD.frame{f:FuncId}{args:Array zV}{C F:Hp}{R:Ending->Hp->Prop}(h:∀g,bD P g f args C R):bD P g f args (C++F) (λe H'=>∃C',H'=C'++F/\R e C'):=by
 intro w hw;exact((h (g.add F)) w (Own.fp.1 hw)).mono λe w' ⟨H',ho,hr⟩=>⟨_,Own.fp.2 ho,H',rfl,hr⟩
theorem bD.hole{f:FuncId}{args:Array zV}{C H:Hp}{c:Hp->Hp}{R:Ending->Hp->Prop}(hh:bI C H c)(h:∀g,bD P g f args C R):bD P g f args H (λe H'=>∃C',H'=c C'/\R e C'):=by
 obtain⟨rfl,F,hp⟩:=hh.spec;exact((bD.frame (F:=F) h).pre (.perm (hp C))).post λe H' ⟨C',h1,h2⟩=>⟨c C',by rw[h1];exact .perm (hp C').symm,C',rfl,h2⟩
def Fc(P:Program)(f:FuncId)(args:Array zV)(C:Hp)(Q:zV->Hp->Prop):Prop:=
 ∀g,bD P g f args C (λe H'=>∃v nB,e=.returned v/\aL H' nB/\Q v nB)
def aM(Q:zV->Hp->Prop):Ending->Hp->Prop:=λe H'=>∃v nB,e=.returned v/\aL H' nB/\Q v nB
theorem aM.mk{Q:zV->Hp->Prop}{v:zV}{H nB:Hp}(he:aL H nB)(h:Q v nB):aM Q (.returned v) H:=⟨v,nB,rfl,he,h⟩
theorem aM.here{Q:zV->Hp->Prop}{v:zV}{H:Hp}(h:Q v H):aM Q (.returned v) H:=⟨v,H,rfl,.refl _,h⟩
theorem Fc.mono{f:FuncId}{args:Array zV}{C:Hp}{Q Q':zV->Hp->Prop}(h:Fc P f args C Q)(hq:∀v H,Q v H->Q' v H):Fc P f args C Q':=
 λg=>(h g).mono λe H' ⟨v,nB,h1,h2,h3⟩=>⟨v,nB,h1,h2,hq _ _ h3⟩
def Rd(P:Program)(f:FuncId)(args:Array zV)(B:Hp)(Q:zV->Prop):Prop:=Fc P f args B (λv H=>H=B/\Q v)
theorem aa.fn{f:FuncId}{args:Array zV}{C H:Hp}{c:Hp->Hp}{Q:zV->Hp->Prop}{K:zV->Hp->Prop}{KP:List PanicEntry->Hp->Prop}(hh:bI C H c)(hc:Fc P f args C Q)
 (hk:∀v C',Q v C'->K v (c C')):aa P g f args H K KP:=
 (bD.hole hh hc).post λe H' ⟨C',h1,v,C'',h2,h3,h4⟩=>⟨c C'',by rw[h1];exact hh.dL h3,by subst h2;exact hk _ _ h4⟩
theorem aa.rd{f:FuncId}{args:Array zV}{B H:Hp}{c:Hp->Hp}{Q:zV->Prop}{K:zV->Hp->Prop}{KP:List PanicEntry->Hp->Prop}(hh:bI B H c)(hc:Rd P f args B Q)
 (hk:∀v,Q v->K v H):aa P g f args H K KP:=
 aa.fn hh hc λv C' ⟨h1,h2⟩=>by subst h1;rw[<-hh.spec.1];exact hk v h2
theorem aK.of{fv:zV}{args:Array zV}{K:zV->Hp->Prop}{KP:List PanicEntry->Hp->Prop}{f:FuncId}{first captured:Array zV}(hf:fv=.func (.func f) first captured)(hc:aU P f=true)
 (h:aa P g f (first++args++captured) H K KP):aK P g fv args H K KP:=⟨f,first,captured,hf,hc,h⟩
theorem DR.self{body:Hp->Prop}(h:body H):DR H body:=⟨H,.refl _,h⟩
theorem DR.of{R:Hp}{body:Hp->Prop}(e:aL H R)(h:body R):DR H body:=⟨R,e,h⟩
def At(B:Hp)(p:zV)(r:List zV):Prop:=∃b o c T fz,p=.pointer (some ⟨b,o,none⟩)/\(b,Obj.cells c T fz)∈B/\∀j v,r[j]? =some v->c[o+j]? =some v
theorem At.block{b:Nat}{l:List zV}{T:TypeId}{fz:Nat×Nat}{B:Hp}(h:(b,Obj.cells l.toArray T fz)∈B):At B (.pointer (some ⟨b,0,none⟩)) l:=
 ⟨b,0,_,T,fz,rfl,h,λj v hj=>by simpa using hj⟩
theorem Ld.at{p v:zV}{r:List zV}{B:Hp}{k:zV->Prop}(h:At B p (v::r))(hs:∀x∈B,x∈H)(hk:k v):Ld H p k:=by
 obtain⟨b,o,c,T,fz,h1,h2,h3⟩:=h;exact⟨b,o,c,T,fz,v,h1,hs _ h2,by simpa using h3 0 v rfl,hk⟩
theorem ai.at{p:zV}{r:List zV}{B:Hp}{j:Nat}{k:zV->Prop}(h:At B p r)(hk:∀q,At B q (r.drop j)->k q):ai j p k:=by
 obtain⟨b,o,c,T,fz,h1,h2,h3⟩:=h;refine⟨b,o,h1,hk _ ⟨b,o+j,c,T,fz,rfl,h2,λi v hi=>?_⟩⟩;rw[List.getElem?_drop]at hi;rw[xcS];exact h3 _ _ hi
theorem ax.at{p:zV}{r:List zV}{B:Hp}{n:Nat}{k:zV->Prop}(h:At B p r)(hn:r.length=n)(hp:0<n)(hs:∀x∈B,x∈H)(hk:k (.agg r.toArray)):ax n H p k:=by
 obtain⟨b,o,c,T,fz,h1,h2,h3⟩:=h;have hsz:o+n<=c.size:=by
  have:=h3 (n-1) (r[n-1]' zO) (xaa _);have:=(xaU.1 this).1;omega
 refine⟨b,o,c,T,fz,h1,hs _ h2,hsz,?_⟩;have:c.extract o (o+n)=r.toArray:=by
  apply Array.ext
  ·simp;omega
  intro i hi1 F8;simp only[xcV]at F8;have:=h3 i r[i] (xaa _);rw[Array.getElem_extract];have:=(xaU.1 this).2;simpa using this
 rw[this];exact hk
def Sl(k:Nat)(B:Hp)(v:zV)(rs:List (List zV)):Prop:=
 (∀r∈rs,r.length=k)/\
 ((∃a cap,v=.slice a 0 cap/\rs=[])\/∃b o cap c T fz,v=.slice (some ⟨b,o,none⟩) rs.length cap/\rs.length<=cap/\(b,Obj.cells c T fz)∈B/\o+rs.length*k<=c.size/\∀i r,rs[i]? =some r->∀j v,r[j]? =some v->c[o+i*k+j]? =some v)
theorem Sl.mono{k:Nat}{B B':Hp}{v:zV}{rs:List (List zV)}(h:Sl k B v rs)(hs:∀x∈B,x∈B'):Sl k B' v rs:=by
 obtain⟨h0,h⟩:=h;refine⟨h0,?_⟩;rcases h with h|⟨b,o,cap,c,T,fz,h1,h2,h3,h4⟩
 ·exact .inl h
 exact .inr ⟨b,o,cap,c,T,fz,h1,h2,hs _ h3,h4⟩
theorem Sl.nil(k:Nat)(B:Hp):Sl k B (.slice none 0 0) []:=⟨by simp,.inl ⟨_,_,rfl,rfl⟩⟩
theorem Sl.shape{k:Nat}{B:Hp}{v:zV}{rs:List (List zV)}(h:Sl k B v rs):∃a cap,v=.slice a rs.length cap/\rs.length<=cap:=by
 rcases h.2 with⟨a,cap,rfl,rfl⟩|⟨b,o,cap,c,T,fz,h1,h2,_⟩
 ·exact⟨_,_,rfl,xaN _⟩
 exact⟨_,_,h1,h2⟩
theorem Sl.bP{k:Nat}{B:Hp}{v:zV}{rs:List (List zV)}(h:Sl k B v rs){K:zV->Prop}(hk:K (.int .i64 rs.length)):aR v K:=by
 obtain⟨a,c,rfl,_⟩:=h.shape;exact aR.mk hk
theorem au.sl{k:Nat}{B:Hp}{v:zV}{rs:List (List zV)}{kd:IntKind}{i:Nat}{r:List zV}{K:zV->Prop}(h:Sl k B v rs)(hi:rs[i]? =some r)(hk:∀p,At B p r->K p):au k v (.int kd (i:Int)) K:=by
 have hlt:=(xak.1 hi).1;rcases h.2 with⟨a,cap,rfl,rfl⟩|⟨b,o,cap,c,T,fz,h1,h2,h3,h4,h5⟩
 ·simp at hlt
 subst h1;refine au.nat zO (hk _ ⟨b,_,c,T,fz,rfl,h3,λj v hj=>h5 i r hi j v hj⟩)
theorem Sl.cells{k:Nat}{B:Hp}{v:zV}{rs:List (List zV)}(h:Sl k B v rs):∃a cap,v=.slice a rs.length cap/\Cells B a (rs.length*k) (rows rs):=by
 rcases h.2 with⟨a,cap,rfl,rfl⟩|⟨b,o,cap,c,T,fz,h1,h2,h3,h4,h5⟩
 ·refine⟨a,cap,rfl,?_⟩;cases a with
  |none=>simp[Cells,rows]
  |some a=>exact .inl ⟨by simp,rfl⟩
 ·refine⟨_,cap,h1,.inr ⟨rfl,c,T,fz,h3,h4,?_⟩⟩;apply Array.ext
  ·rw[bR h.1];simp;omega
  intro i hi1 F8;rw[bR h.1]at hi1;have hk:0<k:=xee λe=>by simp[e]at hi1
  have hd:i/k<rs.length:=xd1 (by rw[xcm];exact hi1);have hm:i%k<k:=xbv _ hk;have he:i/k*k+i%k=i:=by rw[xcm];exact xet i k
  have hr:=h.1 rs[i/k] (xaF hd);have g1:=iN h.1 (i:=i/k) hm;rw[he,xaa hd,xen,xaa zO]at g1;have g2:=h5 (i/k) _ (xaa hd) (i%k) _ (xaa zO);rw[xcS,he]at g2;have e1:=(xaU.1 g1).2;have e2:=(xaU.1 g2).2;rw[Array.getElem_extract];exact e1.trans e2.symm
theorem Sl.vG{T:TypeId}{k:Nat}{v:zV}{rs:List (List zV)}{C:Hp}(h:bg T k v rs C)(hk:0<k):Sl k C v rs:=by
 rcases h with⟨rfl,rfl,rfl⟩|⟨b,aP,rfl,rfl,aI⟩
 ·exact Sl.nil _ _
 refine⟨λr hr=>aI r (by simp[hr]),.inr ⟨b,0,_,rows (rs++aP),T,(0,0),rfl,by omega,by simp,?_,λi r hi j v hj=>?_⟩⟩
 ·rw[bR aI,xaf,xa3];exact xaV _ zO
 have hlt:=(xak.1 hi).1;have hr:=aI r (xae _ (xav hi));have VS:j<k:=by rw[<-hr];exact(xak.1 hj).1
 rw[xa3,iN aI VS,xaY hlt,hi];exact hj
end
end Go.Sx
namespace Go.Sx
open Go
def bG:IntKind->Nat
 | .i8=>128| .i16=>32768| .i32=>2147483648| .i64=>9223372036854775808
 | .u8=>256| .u16=>65536| .u32=>4294967296| .u64=>18446744073709551616
theorem fh{kd:IntKind}{n:Nat}(h:n<bG kd):kd.wrap (n:Int)=n:=by
 cases kd<;>simp only[bG]at h<;>simp only[IntKind.wrap,IntKind.bits,IntKind.signed,xd9,xbR,xaQ,xa0,xar];all_goals first
  |omega
  |(rw[xac zP];omega)
theorem wrap_u64(n:Int):IntKind.u64.wrap n=n%18446744073709551616:=by simp[IntKind.wrap,IntKind.bits,IntKind.signed]
theorem QX(kd:IntKind):bG kd<=2^kd.bits:=by cases kd<;>decide
def m5(a b:Nat):Nat:=a^^^(a&&&b)
theorem dG(a b j:Nat):(m5 a b).testBit j=(a.testBit j&& !b.testBit j):=by
 unfold m5;rw[Nat.testBit_xor,xbj];cases a.testBit j<;>cases b.testBit j<;>rfl
theorem m4(a b:Nat):m5 a b<=a:=by
 have:m5 a b=a&&&m5 a b:=by
  apply xaW;intro j;rw[xbj,dG];cases a.testBit j<;>simp
 rw[this];exact xch
theorem bits_nat{kd:IntKind}{a b:Nat}(ha:a<bG kd)(hb:b<bG kd):
  bits .and kd a b=((a&&&b:Nat):Int)/\bits .or kd a b=((a|||b:Nat):Int)/\bits .xor kd a b=((a^^^b:Nat):Int)/\bits .andNot kd a b=((m5 a b:Nat):Int):=by
 have hl:=QX kd;have h1:(BitVec.ofInt kd.bits (a:Int)).toNat=a:=by rw[xcE,BitVec.toNat_ofNat,xbm zO]
 have h2:(BitVec.ofInt kd.bits (b:Int)).toNat=b:=by rw[xcE,BitVec.toNat_ofNat,xbm zO]
 obtain⟨n,hn⟩:∃n,bG kd=2^n:=by cases kd<;>first|exact⟨7,rfl⟩|exact⟨15,rfl⟩|exact⟨31,rfl⟩|exact⟨63,rfl⟩|exact⟨8,rfl⟩|exact⟨16,rfl⟩|exact⟨32,rfl⟩|exact⟨64,rfl⟩
 rw[hn]at ha hb;refine⟨?_,?_,?_,?_⟩
 ·simp only[bits,BitVec.toNat_and,h1,h2];exact fh (by rw[hn];exact xaA xch ha)
 ·simp only[bits,BitVec.toNat_or,h1,h2];exact fh (by rw[hn];exact xbF ha hb)
 ·simp only[bits,BitVec.toNat_xor,h1,h2];exact fh (by rw[hn];exact Nat.xor_lt_two_pow ha hb)
 simp only[bits];have:(BitVec.ofInt kd.bits (a:Int) &&& ~~~BitVec.ofInt kd.bits (b:Int)).toNat=m5 a b:=by
  apply xaW;intro j;rw[dG,<-BitVec.getLsbD,BitVec.getLsbD_and,BitVec.getLsbD_not,BitVec.getLsbD,BitVec.getLsbD,h1,h2];by_cases hj:j<kd.bits
  ·simp[hj]
  have:a.testBit j=false:=xca (xaO ha (by rw[<-hn];exact xbG hl (xay zD zO)));simp[this]
 rw[this];exact fh (by rw[hn];exact xaA (m4 a b) ha)
section
variable {kd xY:IntKind} {a b:Nat} {k:zV->Prop}
theorem ae.jz(ha:a<bG kd)(hb:b<bG kd)(h:k (.int kd ((a&&&b:Nat):Int))):ae .num .and (.int kd a) (.int kd b) k:=⟨_,by simp[gw,lT,(bits_nat ha hb).1],h⟩
theorem ae.K7(ha:a<bG kd)(hb:b<bG kd)(h:k (.int kd ((a|||b:Nat):Int))):ae .num .or (.int kd a) (.int kd b) k:=⟨_,by simp[gw,lT,(bits_nat ha hb).2.1],h⟩
theorem ae.X3(ha:a<bG kd)(hb:b<bG kd)(h:k (.int kd ((a^^^b:Nat):Int))):ae .num .xor (.int kd a) (.int kd b) k:=⟨_,by simp[gw,lT,(bits_nat ha hb).2.2.1],h⟩
theorem ae.Ei(ha:a<bG kd)(hb:b<bG kd)(h:k (.int kd ((m5 a b:Nat):Int))):ae .num .andNot (.int kd a) (.int kd b) k:=⟨_,by simp[gw,lT,(bits_nat ha hb).2.2.2],h⟩
theorem ae.iM(ha:a<bG kd)(h:k (.int kd ((a>>>b:Nat):Int))):ae .num .shr (.int kd a) (.int xY b) k:=by
 refine⟨_,?_,h⟩;have h0:¬((b:Int)<0):=by omega
 simp only[gw,h0,xa0,xas,Value.int.injEq,xcT,xbh];rw[Int.fdiv_eq_ediv_of_nonneg _ (Int.le_of_lt (Int.pow_pos zD)),xaZ];have hl:=QX kd;by_cases hb:b<=kd.bits
 ·rw[xcB hb];push_cast;rfl
 rw[xds zO];have h1:a/2^kd.bits=0:=xdr zO;have h2:a/2^b=0:=xdr (xaO zO (xay zD (by omega:kd.bits<=b)));have:(a:Int) / (2^kd.bits:Int)=((a/2^kd.bits:Nat):Int):=by push_cast;rfl
 rw[this,h1,h2]
theorem ae.Ch(hb:b<=kd.bits)(hr:a<<<b<bG kd)(h:k (.int kd ((a<<<b:Nat):Int))):ae .num .shl (.int kd a) (.int xY b) k:=by
 refine⟨_,?_,h⟩;have h0:¬((b:Int)<0):=by omega
 simp only[gw,h0,xa0,xas,Value.int.injEq,xcT,xbh,xcB hb];rw[<-fh hr,xcn];push_cast;rfl
theorem ae.nr(h:k (.int .u64 (((a<<<b)%18446744073709551616:Nat):Int))):ae .num .shl (.int .u64 a) (.int xY b) k:=by
 refine⟨_,?_,h⟩;have h0:¬((b:Int)<0):=by omega
 simp only[gw,h0,xa0,xas,Value.int.injEq,xcT,xbh,IntKind.bits,wrap_u64];rw[xcn];by_cases hb:b<=64
 ·rw[xcB hb,Int.natCast_emod,Int.natCast_mul,Int.natCast_pow];rfl
 rw[xds zO];have h1:(a*2^b)%18446744073709551616=0:=by
  have:2^b=18446744073709551616*2^(b-64):=by rw[show(18446744073709551616:Nat)=2^64 by rfl,<-xdw];congr 1;omega
  rw[this,Nat.mul_left_comm];exact Nat.mul_mod_right _ _
 rw[h1];exact Int.mul_emod_left _ _
theorem ae.WL(hr:a+b<bG kd)(h:k (.int kd ((a+b:Nat):Int))):ae .num .add (.int kd a) (.int kd b) k:=by
 refine ae.add ?_;have:((a:Int)+(b:Int))=((a+b:Nat):Int):=by push_cast;rfl
 rw[this,fh hr];exact h
theorem ae.xO(ha:a<bG kd)(hb:b<=a)(h:k (.int kd ((a-b:Nat):Int))):ae .num .sub (.int kd a) (.int kd b) k:=by
 refine ae.sub ?_;have:((a:Int) -(b:Int))=((a-b:Nat):Int):=by omega
 rw[this,fh zO];exact h
theorem ae.afb(hr:a*b<bG kd)(h:k (.int kd ((a*b:Nat):Int))):ae .num .mul (.int kd a) (.int kd b) k:=by
 refine ae.mul ?_;have:((a:Int)*(b:Int))=((a*b:Nat):Int):=by push_cast;rfl
 rw[this,fh hr];exact h
theorem ae.Gr(ha:a<bG kd)(hb:b≠0)(h:k (.int kd ((a/b:Nat):Int))):ae .num .quo (.int kd a) (.int kd b) k:=by
 refine⟨_,?_,h⟩;have h0:¬((b:Int)=0):=by omega
 simp only[gw,lT,xa7,h0,xa0];have:(a:Int).tdiv b=((a/b:Nat):Int):=by rw[Int.tdiv_eq_ediv_of_nonneg zO];push_cast;rfl
 rw[this,fh (xaA (Nat.div_le_self _ _) ha)]
theorem ae.U7(hb:b≠0)(h:k (.int kd ((a%b:Nat):Int))):ae .num .rem (.int kd a) (.int kd b) k:=by
 refine⟨_,?_,h⟩;have h0:¬((b:Int)=0):=by omega
 simp only[gw,lT,xa7,h0,xa0];have:(a:Int).tmod b=((a%b:Nat):Int):=by rw[Int.tmod_eq_emod_of_nonneg zO];push_cast;rfl
 rw[this]
theorem ae.gI{x y:Int}(h:k (.bool (decide (x=y)))):ae .num .eql (.int kd x) (.int kd y) k:=ae.eql (by rw[show(x==y)=decide (x=y)from by cases hb:decide (x=y)<;>simp_all];exact h)
theorem ae.cD{x y:Int}(h:k (.bool (decide (x≠y)))):ae .num .neq (.int kd x) (.int kd y) k:=ae.neq (by rw[show(x !=y)=decide (x≠y)from by cases hb:decide (x=y)<;>simp_all];exact h)
theorem ae.dQ(h:k (.bool (decide (a=b)))):ae .num .eql (.int kd a) (.int kd b) k:=ae.gI (by simpa[xeu]using h)
theorem ae.yL(h:k (.bool (decide (a≠b)))):ae .num .neq (.int kd a) (.int kd b) k:=ae.cD (by simpa[xeu]using h)
theorem ae.fk(h:k (.bool (decide (a<b)))):ae .num .lss (.int kd a) (.int kd b) k:=ae.lss (by simpa[Int.ofNat_lt]using h)
theorem ae.xX(h:k (.bool (decide (a<=b)))):ae .num .leq (.int kd a) (.int kd b) k:=ae.leq (by simpa[Int.ofNat_le]using h)
theorem ae.nh(h:k (.bool (decide (b<a)))):ae .num .gtr (.int kd a) (.int kd b) k:=ae.gtr (by simpa[Int.ofNat_lt]using h)
theorem ae.qM(h:k (.bool (decide (b<=a)))):ae .num .geq (.int kd a) (.int kd b) k:=ae.geq (by simpa[Int.ofNat_le]using h)
theorem aV.nat(ha:a<bG kd)(h:k (.int kd (a:Int))):aV kd (.int xY a) k:=aV.of (fh ha) h
theorem aV.aho(h:k (.int .u8 ((a%256:Nat):Int))):aV .u8 (.int xY a) k:=aV.of (by simp[IntKind.wrap,IntKind.bits,IntKind.signed]) h
theorem Un.afa(ha:a<18446744073709551616)(h:k (.int .u64 (((18446744073709551616-a)%18446744073709551616:Nat):Int))):Un .neg (.int .u64 a) k:=by
 refine⟨_,?_,h⟩;simp only[unV,wrap_u64,xas,Value.int.injEq,xcT];omega
theorem Un.aeP(ha:a<18446744073709551616)(h:k (.int .u64 ((18446744073709551615-a:Nat):Int))):Un .xor (.int .u64 a) k:=by
 refine⟨_,?_,h⟩;have e:(if IntKind.u64.signed=true then(-1:Int)else IntKind.u64.max)=((18446744073709551615:Nat):Int):=by decide
 simp only[unV,e,(bits_nat (kd:=.u64) (a:=18446744073709551615) (b:=a) zD ha).2.2.1,xas,Value.int.injEq,xcT];congr 1;have:18446744073709551615^^^a=18446744073709551615-a:=by
  have EJ:a<2^64:=ha;rw[show(18446744073709551615:Nat)=2^64-1 by rfl];apply xaW;intro j;rw[Nat.testBit_xor,show 2^64-1-a=2^64-(a+1)by omega,xea EJ,xcO];by_cases hj:j<64
  ·simp[hj]
  simp[hj];exact xca (xaO EJ (xay zD zO))
 exact this
end
theorem Br.dec{p:Prop}[Decidable p]{t f:Prop}(h1:p->t)(h2:¬p->f):Br (.bool (decide p)) t f:=⟨_,rfl,λh=>h1 (by simpa using h),λh=>h2 (by simpa using h)⟩
theorem Br.adw{p:Prop}[Decidable p]{t f:Prop}(hp:p)(h1:t):Br (.bool (decide p)) t f:=Br.dec (λ_=>h1) λh=>absurd hp h
theorem Br.SM{p:Prop}[Decidable p]{t f:Prop}(hp:¬p)(h1:f):Br (.bool (decide p)) t f:=Br.dec (λh=>absurd h hp) λ_=>h1
end Go.Sx
namespace an
open Go.Sx
def wN(n:Nat):Nat:=max 1 (2^n/64)
def dK(n:Nat):Nat:=if 6<=n then 18446744073709551615 else 2^2^n-1
structure fg(n:Nat)(ws:zL):Prop where
 xU:n<=16
 len:ws.length=wN n
 full:∀w∈ws,w<=dK n
instance (n:Nat)(ws:zL):Decidable (fg n ws):=decidable_of_iff (n<=16/\ws.length=wN n/\∀w∈ws,w<=dK n) ⟨λ⟨a,b,c⟩=>⟨a,b,c⟩,λ⟨a,b,c⟩=>⟨a,b,c⟩⟩
def bit(ws:zL)(x:Nat):Bool:=(ws.getD (x/64) 0).testBit (x%64)
def aB(x v:Nat)(b:Bool):Nat:=if b then x|||2^v else m5 x (2^v)
theorem X6(n:Nat):0<wN n:=Nat.le_max_left _ _
theorem KC{n:Nat}(h:6<=n):wN n=2^(n-6):=by
 unfold wN;have:2^n/64=2^(n-6):=by
  rw[show(64:Nat)=2^6 by rfl,Nat.pow_div h zD]
 rw[this];exact Nat.max_eq_right (xbs _)
theorem KB{n:Nat}(h:n<7):wN n=1:=by
 have:n=0\/n=1\/n=2\/n=3\/n=4\/n=5\/n=6:=by omega
 rcases this with rfl|rfl|rfl|rfl|rfl|rfl|rfl<;>rfl
theorem yp{n:Nat}(h:n<=16):wN n<=1024:=by
 by_cases h6:6<=n
 ·rw[KC h6];exact xay zD (by omega:n-6<=10)
 rw[KB zO];decide
theorem rN(n:Nat):dK n<18446744073709551616:=by
 unfold dK;split
 ·decide
 have h1:2^n<=32:=xay (n:=2) zD (by omega:n<=5);have h2:2^2^n<=2^32:=xay zD h1;omega
theorem fg.lt{n:Nat}{ws:zL}(h:fg n ws){w:Nat}(hw:w∈ws):w<18446744073709551616:=xaA (h.full w hw) (rN n)
theorem wT{n w:Nat}(h:w<=dK n):w&&&dK n=w:=by
 unfold dK at*;split at h
 ·rename_i h6;rw[xad h6,show(18446744073709551615:Nat)=2^64-1 by rfl,xd3,xbm zO]
 rename_i h6;rw[xac h6,xd3,xbm];have:=xbs (2^n);omega
theorem mC(n j:Nat):(dK n).testBit j=decide (j<if 6<=n then 64 else 2^n):=by
 unfold dK;split
 ·rw[show(18446744073709551615:Nat)=2^64-1 by rfl,xcO]
 rw[xcO]
theorem Dh{n x:Nat}(h:x<2^n):x/64<wN n:=by
 by_cases h6:6<=n
 ·rw[KC h6];refine xd1 ?_;rw[show(64:Nat)=2^6 by rfl,<-xdw];rwa [show 6+(n-6)=n by omega]
 have h1:2^n<=32:=xay (n:=2) zD (by omega:n<=5);rw[KB zO];omega
theorem fg.ext{n:Nat}{a b:zL}(ha:fg n a)(hb:fg n b)(h:∀x,x<2^n->bit a x=bit b x):a=b:=by
 apply List.ext_getElem (by rw[ha.len,hb.len]);intro i h1 h2;apply xaW;intro j;have hfa:=wT (ha.full _ (xaF h1));have hfb:=wT (hb.full _ (xaF h2));by_cases hj:j<(if 6<=n then 64 else 2^n)
 ·have akS:j<64:=by
   split at hj
   ·exact hj
   have h1:2^n<=32:=xay (n:=2) zD (by omega:n<=5);omega
  have hx:64*i+j<2^n:=by
   by_cases h6:6<=n
   ·have hi:i<2^(n-6):=by rw[<-KC h6,<-ha.len];exact h1
    have:2^n=64*2^(n-6):=by rw[show(64:Nat)=2^6 by rfl,<-xdw];congr 1;omega
    omega
   have hi:i<1:=by rw[<-KB (show n<7 by omega),<-ha.len];exact h1
   rw[xac h6]at hj;omega
  have:=h _ hx;unfold bit at this;rw[show(64*i+j) /64=i by omega,show(64*i+j)%64=j by omega]at this;simpa[h1,h2]using this
 have hd:(dK n).testBit j=false:=by rw[mC];simpa using hj
 rw[<-hfa,<-hfb,xbj,xbj,hd];simp
def Bm(v:Nat):Nat->Nat
 |0=>0
 |j+1=>Bm v j|||(((j>>>v) &&&1)<<<j)
def mask(v:Nat):Nat:=Bm v 64
theorem gx(m:Nat):m&&&1=if m.testBit 0 then 1 else 0:=by
 rw[xbU,Nat.testBit_zero];rcases Nat.mod_two_eq_zero_or_one m with h|h<;>simp[h]
theorem qS(v:Nat):∀J k,(Bm v J).testBit k=(decide (k<J) &&k.testBit v)
 |0,k=>by simp[Bm]
 |J+1,k=>by
  rw[Bm,xb1,qS v J k,gx,xbB,xcv];by_cases e:k=J
  ·subst e;cases hb:k.testBit v<;>simp[xdY]
  have:((if(J.testBit v)=true then 1 else 0)<<<J).testBit k=false:=by
   rw[xdY];split
   ·by_cases hk:J<=k
    ·have h1:Nat.testBit 1 (k-J)=false:=xca (Nat.one_lt_two_pow zO);simp[hk,h1]
    simp[hk]
   simp
  rw[this];have:(decide (k<J+1))=decide (k<J):=by simp;omega
  rw[this];simp
theorem Bl(v:Nat):∀J,Bm v J<2^J
 |0=>by simp[Bm]
 |J+1=>by
  have h1:=Bl v J;have h2:((J>>>v) &&&1)<<<J<2^(J+1):=by
   rw[gx,xcn];split
   ·rw[xdj];exact xbt zD zO
   rw[xd2];exact xbs _
  exact xbF (xaO h1 (xay zD zO)) h2
theorem gJ(v k:Nat):(mask v).testBit k=(decide (k<64) &&k.testBit v):=qS v 64 k
theorem rj(v:Nat):mask v<18446744073709551616:=Bl v 64
def rK(ws:zL)(v:Nat)(b:Bool)(i:Nat):Nat:=
 if 6<=v then ws.getD (aB i (v-6) b) 0
 else if b then(ws.getD i 0&&&mask v)|||(ws.getD i 0&&&mask v)>>>2^v
 else m5 (ws.getD i 0) (mask v)|||(m5 (ws.getD i 0) (mask v)<<<2^v)%18446744073709551616
def iK(n:Nat)(ws:zL)(v:Nat)(b:Bool):zL:=(List.range (wN n)).map λi=>rK ws v b i&&&dK n
theorem eB{n v:Nat}{ws:zL}{b:Bool}(h:n<=16):fg n (iK n ws v b):=by
 refine⟨h,by simp[iK],λw hw=>?_⟩;obtain⟨i,_,rfl⟩:=xan.1 hw;exact xc4
theorem aj(x v:Nat)(b:Bool)(k:Nat):(aB x v b).testBit k=if k=v then b else x.testBit k:=by
 unfold aB;cases b<;>simp only[xa7,xaQ,xa0]
 ·rw[dG,xbX];by_cases e:k=v
  ·simp[e]
  simp[e,xba e]
 rw[xb1,xbX];by_cases e:k=v
 ·simp[e]
 simp[e,xba e]
theorem gf{x v n:Nat}{b:Bool}(hx:x<2^n)(hv:v<n):aB x v b<2^n:=by
 unfold aB;split
 ·exact xbF hx (xbt zD hv)
 exact xaA (m4 _ _) hx
theorem Yh:∀v:Fin 6,∀j:Fin 64,(j.1.testBit v.1=true->aB j v true=j/\aB j v false=j-2^v.1/\2^v.1<=j.1/\(j.1+2^v.1).testBit v.1=false/\(j.1-2^v.1).testBit v.1=false)/\
  (j.1.testBit v.1=false->aB j v true=j.1+2^v.1/\j.1+2^v.1<64/\aB j v false=j/\(j.1+2^v.1).testBit v.1=true/\(2^v.1<=j.1->(j.1-2^v.1).testBit v.1=true)):=by decide+kernel
theorem p7{x v:Nat}{b:Bool}:(6<=v->aB x v b/64=aB (x/64) (v-6) b/\aB x v b%64=x%64)/\(v<6->aB x v b/64=x/64/\aB x v b%64=aB (x%64) v b):=by
 have EJ:∀y:Nat,y/64=y>>>6:=λy=>by rw[xaZ]
 have m64:∀y:Nat,y%64=y%2^6:=λy=>rfl;refine⟨λh=>⟨?_,?_⟩,λh=>⟨?_,?_⟩⟩<;>apply xaW<;>intro k
 ·rw[EJ,EJ,xbB,aj,aj,xbB];by_cases e:k=v-6
  ·rw[xad e,xad zO]
  rw[xac e,xac zO]
 ·rw[m64 (aB x v b),m64 x,xbw,xbw,aj];by_cases hk:k<6
  ·rw[xac zO]
  simp[hk]
 ·rw[EJ,EJ,xbB,aj,xbB,xac zO]
 rw[m64 (aB x v b),m64 x,xbw,aj,aj,xbw];by_cases e:k=v
 ·subst e;simp[h]
 simp[e]
theorem fe{n v x:Nat}{ws:zL}{b:Bool}(hf:fg n ws)(hv:v<n)(hx:x<2^n):bit (iK n ws v b) x=bit ws (aB x v b):=by
 have hi:=Dh hx;unfold bit;have gT:(iK n ws v b).getD (x/64) 0=rK ws v b (x/64) &&&dK n:=by
  simp[iK,hi]
 rw[gT,xbj,mC];have hfb:decide (x%64<if 6<=n then 64 else 2^n)=true:=by
  rw[xar];split
  ·exact xbv _ zD
  have h1:2^n<=32:=xay (n:=2) zD (by omega:n<=5);omega
 rw[hfb,xdS];unfold rK;by_cases h6:6<=v
 ·rw[xad h6,(p7.1 h6).1,(p7.1 h6).2]
 rw[xac h6];obtain⟨e1,e2⟩:=(p7 (x:=x) (v:=v) (b:=b)).2 zO;rw[e1,e2];generalize hw:ws.getD (x/64) 0=w;have hwl:w<2^64:=by
  rw[<-hw];rw[xap,xaa (by rw[hf.len];exact hi)];exact hf.lt (xaF _)
 have hj:x%64<64:=xbv _ zD;generalize x%64=j at hj;obtain⟨s1,s2⟩:=Yh ⟨v,by omega⟩ ⟨j,hj⟩;simp only at s1 s2;cases b
 ·simp only[xaQ,xa0];rw[show(18446744073709551616:Nat)=2^64 by rfl,xb1,xbw,xdY,dG,dG,gJ,gJ];cases hb:j.testBit v
  ·obtain⟨t1,t2,t3,t4,t5⟩:=s2 hb;rw[t3];by_cases hle:2^v<=j
   ·have:=t5 hle;have EJ:j-2^v<64:=xaA (xdt _ _) hj;simp[hj,this,EJ]
   simp[hj,hle]
  obtain⟨t1,t2,t3,t4,t5⟩:=s1 hb;rw[t2];simp[hj,t3,t5]
 simp only[xa7];rw[xb1,xbj,xbB,xbj,gJ,gJ];cases hb:j.testBit v
 ·obtain⟨t1,t2,t3,t4,t5⟩:=s2 hb;rw[t1,Nat.add_comm (2^v) j];simp[hj,t2,t4]
 obtain⟨t1,t2,t3,t4,t5⟩:=s1 hb;rw[t1,Nat.add_comm (2^v) j];simp[hj,t4]
def dep(n:Nat)(ws:zL)(v:Nat):Bool:=decide (iK n ws v false≠iK n ws v true)
theorem ir(x v:Nat):aB x v (x.testBit v)=x:=by
 apply xaW;intro k;rw[aj];by_cases e:k=v
 ·rw[xad e,e]
 rw[xac e]
theorem n9{n v:Nat}{ws:zL}{b:Bool}(hf:fg n ws)(hv:v<n)(h:dep n ws v=false):iK n ws v b=ws:=by
 have he:iK n ws v false=iK n ws v true:=by simpa[dep]using h
 have aI:∀c d,iK n ws v c=iK n ws v d:=by intro c d;cases c<;>cases d<;>first|rfl|exact he|exact he.symm
 refine(eB hf.xU).ext hf λx hx=>?_;rw[aI b (x.testBit v),fe hf hv hx,ir]
theorem uH{n v:Nat}{ws:zL}(hf:fg n ws)(hv:v<n):dep n ws v=true↔∃x,x<2^n/\bit ws (aB x v false)≠bit ws (aB x v true):=by
 constructor
 ·intro h;refine xaK λhno=>?_;have:iK n ws v false=iK n ws v true:=(eB hf.xU).ext (eB hf.xU) λx hx=>by
   rw[fe hf hv hx,fe hf hv hx];exact xaK λhne=>hno ⟨x,hx,hne⟩
  simp[dep,this]at h
 rintro⟨x,hx,hne⟩;simp only[dep,ne_eq,xar];intro he;apply hne;rw[<-fe hf hv hx,<-fe hf hv hx,he]
end an
namespace Go.Sx
open Go
inductive bV:Hp->Hp->Prop
 |refl (B:Hp):bV B B
 |cons {x:Nat×Obj} {B H:Hp} (h:bV B H):bV B (x::H)
 |app {N B H:Hp} (h:bV B H):bV B (N++H)
theorem bV.spec{B H:Hp}(h:bV B H):∃N,H=N++B:=by
 induction h with
 |refl=>exact⟨[],rfl⟩
 | @cons x B H h ih=>obtain⟨N,rfl⟩:=ih;exact⟨x::N,rfl⟩
 | @app M B H h ih=>obtain⟨N,rfl⟩:=ih;exact⟨M++N,by rw[xaj]⟩
theorem bV.sub{B H:Hp}(h:bV B H):∀x∈B,x∈H:=by
 obtain⟨N,rfl⟩:=h.spec;exact λx hx=>xab _ hx
theorem bV.dL{B H:Hp}(h:bV B H):aL H B:=by
 obtain⟨N,rfl⟩:=h.spec;exact aL.right
section
variable {P:Program} {g:Gh} {H:Hp}
def Px(P:Program)(f:FuncId)(args:Array zV)(B:Hp)(Q:zV->Hp->Prop):Prop:=Fc P f args B (λv H=>bV B H/\Q v H)
theorem aa.px{f:FuncId}{args:Array zV}{B H:Hp}{c:Hp->Hp}{Q:zV->Hp->Prop}{K:zV->Hp->Prop}{KP:List PanicEntry->Hp->Prop}(hh:bI B H c)(hc:Px P f args B Q)
 (hk:∀v N,Q v (N++B)->K v (c (N++B))):aa P g f args H K KP:=
 aa.fn hh hc λv C' ⟨h1,h2⟩=>by obtain⟨N,rfl⟩:=h1.spec;exact hk v N h2
theorem aa.pre{f:FuncId}{args:Array zV}{H':Hp}{K:zV->Hp->Prop}{KP:List PanicEntry->Hp->Prop}(he:aL H H')(h:aa P g f args H' K KP):aa P g f args H K KP:=bD.pre h he
theorem aL.swap{x y:Nat×Obj}{A:Hp}:aL (x::y::A) (y::x::A):=.perm (.swap _ _ _)
theorem GR.mk{Q:zV->Hp->Prop}{v:zV}{B H:Hp}(he:bV B H)(h:Q v H):aM (λv H=>bV B H/\Q v H) (.returned v) H:=⟨v,H,rfl,.refl _,he,h⟩
theorem aZ.mk{Q:zV->Prop}{v:zV}{B H:Hp}(he:aL H B)(h:Q v):aM (λv H=>H=B/\Q v) (.returned v) H:=⟨v,B,rfl,he,rfl,h⟩
def av(kd:IntKind)(l:List Int):Array zV:=(l.map λn=>Value.int kd n).toArray
theorem FW(kd:IntKind)(l:List Int)(i:Nat)(n:Int):(av kd l).setIfInBounds i (.int kd n)=av kd (l.set i n):=by
 simp[av,xcN]
@[simp] theorem Xk(kd:IntKind)(l:List Int):(av kd l).size=l.length:=by simp[av]
theorem Nf(kd:IntKind)(n:Nat):madeCells (Value.cells (.int kd 0)) (n*1)=av kd (List.replicate n 0):=by
 apply Array.ext
 ·simp[madeCells,av]
 intro i h1 h2;simp[madeCells,av,Value.cells,Nat.mod_one]
def dz(kd:IntKind)(B:Hp)(v:zV)(l:List Int):Prop:=Sl 1 B v (l.map λn=>[Value.int kd n])
theorem dz.mono{kd:IntKind}{B B':Hp}{v:zV}{l:List Int}(h:dz kd B v l)(hs:∀x∈B,x∈B'):dz kd B' v l:=Sl.mono h hs
theorem dz.bP{kd:IntKind}{B:Hp}{v:zV}{l:List Int}(h:dz kd B v l){K:zV->Prop}(hk:K (.int .i64 l.length)):aR v K:=Sl.bP h (by simpa using hk)
theorem dz.block{kd:IntKind}{B:Hp}{b cap:Nat}{l:List Int}{T:TypeId}{fz:Nat×Nat}(hm:(b,Obj.cells (av kd l) T fz)∈B)(hc:l.length<=cap):dz kd B (.slice (some ⟨b,0,none⟩) l.length cap) l:=by
 refine⟨by simp,.inr ⟨b,0,cap,_,T,fz,by simp,by simpa using hc,hm,by simp[av],λi r hi j v hj=>?_⟩⟩;rw[xau]at hi;cases hl:l[i]? with
 |none=>rw[hl]at hi;simp at hi
 |some n=>
  rw[hl]at hi;simp only[xci,xas]at hi;subst hi;cases j with
  |zero=>
   simp only[xcK,xas]at hj;subst hj;simp[av,hl]
  |succ j=>simp at hj
theorem dz.at{kd xY:IntKind}{B:Hp}{v:zV}{l:List Int}(h:dz kd B v l){i:Nat}{n:Int}(hi:l[i]? =some n){K:zV->Prop}(hk:∀p,At B p [.int kd n]->K p):au 1 v (.int xY (i:Int)) K:=
 au.sl h (by rw[xau,hi];rfl) hk
theorem dz.ld{kd xY:IntKind}{B:Hp}{v:zV}{l:List Int}(h:dz kd B v l){i:Nat}{n:Int}(hi:l[i]? =some n)(hs:∀x∈B,x∈H){K:zV->Prop}(hk:K (.int kd n)):au 1 v (.int xY (i:Int)) (λp=>Ld H p K):=
 h.at hi λp hp=>Ld.at hp hs hk
theorem cW.ints{T:TypeId}{kd kl:IntKind}{bytes n:Nat}{K:zV->Hp->Prop}(cJ:n<=9223372036854775807)(hb:n*bytes<=281474976710656)
 (h:∀b,K (.slice (some ⟨b,0,none⟩) n n) ((b,.cells (av kd (List.replicate n 0)) T zZ)::H)):cW T 1 bytes (.int kd 0) H (.int kl n) (.int kl n) K:=
 ⟨kl,kl,n,n,rfl,rfl,xag _,by omega,hb,λb _=>by rw[Nf];exact h b⟩
theorem St.ints{b i:Nat}{kd:IntKind}{l:List Int}{x:Int}{T:TypeId}{H':Hp}{K:Hp->Prop}(hu:c8 b (.cells (av kd l) T zZ) (.cells (av kd (l.set i x)) T zZ) H H')(hi:i<l.length)(h:K H'):
  St 1 H (.pointer (some ⟨b,0+i*1,none⟩)) (.int kd x) K:=
 St.one (c:=av kd l) (c':=av kd (l.set i x)) hu rfl (by simpa using hi) (by rw[xa3,xb4];exact FW kd l i x) h
end
def bL:List zV->Nat->Nat
 | .int _ q::_,0=>q.toNat
 |_::r,i+1=>bL r i
 |_,_=>0
structure Tb where
 n:Int
 ws:zL
 deriving DecidableEq
def iw(ws:zL):List Int:=ws.map (Nat.cast:Nat->Int)
@[simp] theorem ak(ws:zL):(iw ws).length=ws.length:=by simp[iw]
theorem cQ{ws:zL}{i w:Nat}(h:ws[i]? =some w):(iw ws)[i]? =some (w:Int):=by simp[iw,h]
def Words(B:Hp)(s:zV)(ws:zL):Prop:=dz .u64 B s (iw ws)/\∀w∈ws,w<18446744073709551616
theorem Words.mono{B B':Hp}{v:zV}{ws:zL}(h:Words B v ws)(hs:∀x∈B,x∈B'):Words B' v ws:=⟨h.1.mono hs,h.2⟩
theorem Words.block{B:Hp}{b cap:Nat}{ws:zL}{T:TypeId}{fz:Nat×Nat}(hm:(b,Obj.cells (av .u64 (iw ws)) T fz)∈B)(hc:ws.length<=cap)(hw:∀w∈ws,w<18446744073709551616):Words B (.slice (some ⟨b,0,none⟩) ws.length cap) ws:=by
 have:=dz.block (cap:=cap) hm (by simpa using hc);rw[ak]at this;exact⟨this,hw⟩
def EO(B:Hp)(v:zV)(t:Tb):Prop:=∃s,v=.agg #[.int .i64 t.n,s]/\Words B s t.ws
theorem EO.mono{B B':Hp}{v:zV}{t:Tb}(h:EO B v t)(hs:∀x∈B,x∈B'):EO B' v t:=let ⟨s,h1,h2⟩:=h;⟨s,h1,h2.mono hs⟩
def Tz(B:Hp)(r:List zV)(t:Tb):Prop:=∃s,r=[.int .i64 t.n,s]/\Words B s t.ws
theorem Tz.mono{B B':Hp}{r:List zV}{t:Tb}(h:Tz B r t)(hs:∀x∈B,x∈B'):Tz B' r t:=let ⟨s,h1,h2⟩:=h;⟨s,h1,h2.mono hs⟩
def tf{α:Type}(p:List zV->α->Prop)(rs:List (List zV))(l:List α):Prop:=rs.length=l.length/\∀(i:Nat) (r:List zV) (x:α),rs[i]? =some r->l[i]? =some x->p r x
theorem tf.nil{α:Type}{p:List zV->α->Prop}:tf p [] []:=⟨rfl,by simp⟩
theorem tf.get{α:Type}{p:List zV->α->Prop}{rs:List (List zV)}{l:List α}(h:tf p rs l){i:Nat}{x:α}(hx:l[i]? =some x):∃r,rs[i]? =some r/\p r x:=by
 have hlt:=(xak.1 hx).1;have:i<rs.length:=by rw[h.1];exact hlt
 exact⟨rs[i],xaa this,h.2 i _ _ (xaa this) hx⟩
theorem tf.mono{α:Type}{p q:List zV->α->Prop}{rs:List (List zV)}{l:List α}(h:tf p rs l)(hpq:∀r x,p r x->q r x):tf q rs l:=⟨h.1,λi r x h1 h2=>hpq _ _ (h.2 i r x h1 h2)⟩
theorem tf.snoc{α:Type}{p:List zV->α->Prop}{rs:List (List zV)}{l:List α}(h:tf p rs l){r:List zV}{x:α}(hx:p r x):tf p (rs++[r]) (l++[x]):=by
 refine⟨by simp[h.1],λi r' x' h1 h2=>?_⟩;by_cases e:i<l.length
 ·rw[xaY e]at h2;rw[xaY (by rw[h.1];exact e)]at h1;exact h.2 i _ _ h1 h2
 rw[xbu zO]at h2;rw[xbu (by rw[h.1];omega),h.1]at h1;cases hi:i-l.length with
 |zero=>rw[hi]at h1 h2;simp at h1 h2;subst h1;subst h2;exact hx
 |succ k=>rw[hi]at h2;simp at h2
def jE(B:Hp)(v:zV)(ts:List Tb):Prop:=∃rs,Sl 2 B v rs/\tf (Tz B) rs ts
theorem jE.mono{B B':Hp}{v:zV}{ts:List Tb}(h:jE B v ts)(hs:∀x∈B,x∈B'):jE B' v ts:=let ⟨rs,h1,h2⟩:=h;⟨rs,h1.mono hs,h2.mono λ_ _ h=>h.mono hs⟩
theorem jE.bP{B:Hp}{v:zV}{ts:List Tb}(h:jE B v ts){K:zV->Prop}(hk:K (.int .i64 ts.length)):aR v K:=by
 obtain⟨rs,h1,h2⟩:=h;refine h1.bP ?_;have:=h2.1;rw[this];exact hk
theorem jE.ld{B H:Hp}{v:zV}{ts:List Tb}{kd:IntKind}(h:jE B v ts){i:Nat}{t:Tb}(hi:ts[i]? =some t)(hs:∀x∈B,x∈H){K:zV->Prop}(hk:∀s,Words B s t.ws->K (.agg #[.int .i64 t.n,s])):au 2 v (.int kd (i:Int)) (λp=>ax 2 H p K):=by
 obtain⟨rs,h1,h2⟩:=h;obtain⟨r,hr,s,rfl,hw⟩:=h2.get hi;exact au.sl h1 hr λp hp=>ax.at hp rfl zD hs (hk s hw)
theorem jE.ldN{B H:Hp}{v:zV}{ts:List Tb}{kd:IntKind}(h:jE B v ts){i:Nat}{t:Tb}(hi:ts[i]? =some t)(hs:∀x∈B,x∈H){K:zV->Prop}(hk:K (.int .i64 t.n)):au 2 v (.int kd (i:Int)) (λp=>ai 0 p (λq=>Ld H q K)):=by
 obtain⟨rs,h1,h2⟩:=h;obtain⟨r,hr,s,rfl,hw⟩:=h2.get hi;exact au.sl h1 hr λp hp=>ai.at hp λq hq=>Ld.at hq hs hk
theorem jE.one{B:Hp}{b cap:Nat}{t:Tb}{s:zV}{T:TypeId}{fz:Nat×Nat}(hm:(b,Obj.cells #[.int .i64 t.n,s] T fz)∈B)(hw:Words B s t.ws):jE B (.slice (some ⟨b,0,none⟩) 1 (cap+1)) [t]:=by
 refine⟨[[.int .i64 t.n,s]],⟨by simp,.inr ⟨b,0,cap+1,_,T,fz,rfl,by simp,hm,by simp,λi r hi j v hj=>?_⟩⟩,rfl,λi r x h1 h2=>?_⟩
 ·cases i with
  |zero=>simp at hi;subst hi;simpa using hj
  |succ i=>simp at hi
 ·cases i with
  |zero=>simp at h1 h2;subst h1;subst h2;exact⟨s,rfl,hw⟩
  |succ i=>simp at h1
def TF(t:Tb):Prop:=0<=t.n/\an.fg t.n.toNat t.ws
instance (t:Tb):Decidable (TF t):=by unfold TF;infer_instance
end Go.Sx
namespace Go.Sx
open Go Go.RowKit
section
variable {P:Program}
def whole(W:World):Hp:=(List.range W.heap.size).map λi=>(i,W.heap.getD i default)
theorem MY(W:World):Own ⟨W,[]⟩ (whole W) W:=by
 refine⟨rfl,rfl,rfl,?_,?_⟩
 ·have:(whole W).map Prod.fst=List.range W.heap.size:=by
   unfold whole;rw[xb2];have:(Prod.fst∘λi=>(i,W.heap.getD i default))=id:=by funext i;rfl
   rw[this,xey]
  rw[xaL,this];exact xbn
 intro x hx;rw[xaL]at hx;obtain⟨i,hi,rfl⟩:=xan.1 hx;have:=xaM.1 hi;simp[xat,this]
theorem yP{W:World}{b:Nat}{o:Obj}(h:W.heap[b]? =some o):(b,o)∈whole W:=by
 have hlt:=(xaU.1 h).1;exact xan.2 ⟨b,xaM.2 hlt,by simp[xat,h]⟩
theorem Own.below{W W':World}(h:Own ⟨W,[]⟩ (whole W) W'):Below W.heap.size W W':=by
 have hb:∀k,k<W.heap.size->W'.heap[k]? =W.heap[k]? :=λk hk=>by
  have:=h.has (k,W.heap.getD k default) (xan.2 ⟨k,xaM.2 hk,rfl⟩);simp only at this;rw[this];simp[xat,hk]
 refine⟨h.os,h.tape,h.out,?_,hb⟩;rcases Nat.eq_zero_or_pos W.heap.size with h0|h0
 ·omega
 have:=hb (W.heap.size-1) zO;rw[show W.heap[W.heap.size-1]? =some (W.heap[W.heap.size-1]' zO)from xbx zO]at this;have:=(xaU.1 this).1;omega
theorem Nl{f:FuncId}{args:Array zV}{W:World}(h:bD P ⟨W,[]⟩ f args (whole W) (λe H'=>e=.returned (.bool true)/\aL H' (whole W))):
  Calls P f args W λe W'=>e=.returned (.bool true)/\Below W.heap.size W W':=
 (h W (MY W)).mono λe W' ⟨H',ho,he,wh⟩=>⟨he,(wh _ _ ho).below⟩
theorem YE{f:FuncId}{args:Array zV}{W:World}(h:Px P f args (whole W) (λv _=>v=.bool true)):
  Calls P f args W λe W'=>e=.returned (.bool true)/\Below W.heap.size W W':=
 Nl ((h ⟨W,[]⟩).post λe H' ⟨v,C,he,wh,hg,hv⟩=>⟨H',.refl _,by rw[he,hv],wh.trans hg.dL⟩)
section
variable {H:Type} {enc:TypeId×zV->H}
open Go.ChangeShapes Go.WideShapes Go.ChangeAt Go.RowKit
theorem pD(hl:laidOutB P=true){W W':World}{sp:Nat->Bool}(hb:Below W.heap.size W W'):∀(ts:List TypeId) (vs:List zV) (ds:List (DataW H)) (ps:List MemPlace),
  (∀t∈ts,P.readableRec t=true/\t<P.types.size)->DataW.TrodAll enc P W 0 (λ_=>true) true ts vs ds ps->(∀x∈ps,x.block<W.heap.size)->(∀x∈ps,sp x.block=true)->DataW.TrodAll enc P W' 0 sp true ts vs ds ps
 | [],vs,ds,ps,_,h,_,_=>by
  obtain⟨rfl,rfl,rfl⟩:=trodAll_nil h;exact trodAll_mk0
 |t::ts,vs,ds,ps,hr,h,hlt,hsp=>by
  obtain⟨v,vs',d,ds',p,q,rfl,rfl,rfl,h0,h1⟩:=trodAll_cons h;have ht:=hr t zI;exact trodAll_cons_mk (WideElems.Trod_stays hl ht.1 ht.2 h0 (λx hx=>hb.same (hlt x (by simp[hx]))) (λx hx=>hsp x (by simp[hx])))
   (pD hl hb ts vs' ds' q (λt' h'=>hr t' (by simp[h'])) h1 (λx hx=>hlt x (by simp[hx])) (λx hx=>hsp x (by simp[hx])))
theorem Q4{f:Func}{s:ChangeSpec}{W W':World}{args:Array zV}{ds gs:List (DataW H)}{before:List MemPlace}{tb:TypeId}(hvars:s.vars=[])
 (hW:DataW.Whole enc P f.params.toList s.vars false W args.toList ds gs before)(hs:s.fn H (ds++gs)={results:=[.lit (.bool true)],args:=ds})(hb:Below W.heap.size W W')
 (hl:laidOutB P=true)(hr:∀t∈f.params.toList,P.readableRec t=true/\t<P.types.size)(hrt:f.resultTypes=#[tb])(acD:P.underlying tb=some .bool):
  s.post enc P f false true false false W args (.bool true) W':=by
 have hW':=hW;have hlt:=hW.lt;obtain⟨p,q,hA,hV,rfl,hfz,fO⟩:=hW;rw[hvars]at hV;obtain⟨rfl,rfl⟩:=trodVars_none hV;refine⟨ds,_,_,[],p,[],hW',?_,?_,?_,World.keptBut_mono (λp hp=>⟨hp,?_⟩) (hb.frame (· ∈p++[])),λh=>by cases h⟩
 ·rw[hs,hrt];exact trodAll_cons_mk (shut_bool acD _) trodAll_mk0
 ·rw[hs];exact pD hl hb _ _ _ _ hr hA (λx hx=>hlt x (by simp[hx])) (λx hx=>by simpa using hlt x (by simp[hx]))
 ·rw[hvars,hs];rfl
 right;simpa using hp
end
end
end Go.Sx
namespace Go.Sx
open Go
section
variable {P:Program} {g:Gh} {H:Hp}
theorem bg.ai1{T:TypeId}{v x:zV}{rs:List (List zV)}{C:Hp}(hs:bg T 1 v rs C){i:Nat}(hi:i<rs.length)(hr:rs[i]? =some [x])(hC:∀y∈C,y∈H){K:zV->Prop}(hk:K x):
  au 1 v (.int .i64 (i:Int)) λp=>Ld H p K:=by
 obtain⟨b',aP,rfl,rfl,aI⟩:=hs.pos zO;refine au.nat hi ?_;exact Ld.aba (l:=rs++aP) (hC _ (List.Mem.head _)) aI (by rw[xaY hi];exact hr) hk
theorem bg.ae2{T:TypeId}{v x y:zV}{rs:List (List zV)}{C A B:Hp}(hs:bg T 1 v rs C){i:Nat}(hi:i<rs.length)(hr:rs[i]? =some [y])(h1:x.oneCell'=true){K:Hp->Prop}
 (hk:∀C',bg T 1 v (rs.set i [x]) C'->K (A++(C'++B))):au 1 v (.int .i64 (i:Int)) λp=>St 1 (A++(C++B)) p x K:=by
 obtain⟨b',aP,rfl,rfl,aI⟩:=hs.pos zO;refine au.nat hi ?_;refine St.cell (l:=rs++aP) (i:=i) (k:=1) (j:=0) (r:=[y]) (((c8.head _).append B).cc A) aI (by rw[xaY hi];exact hr) zO h1 ?_;have e:(rs++aP).set i ([y].set 0 x)=rs.set i [x]++aP:=by rw[xcY _ _ hi];rfl
 rw[e];refine hk [(b',_)] (bg.mk' (aP:=aP) (λr hr'=>?_) zI zI);rcases xao.1 hr' with hr'|hr'
 ·rcases xcg hr' with hr'|rfl
  ·exact aI r (by simp[hr'])
  rfl
 exact aI r (by simp[hr'])
end
end Go.Sx
namespace Go.Sx
open Go
section
variable {κ β:Type} [DecidableEq κ]
structure aE(ke:κ->zV)(vr:zV->β->Prop)(es:Array MapEntry)(ck:Nat)(m:List (κ×β)):Prop where
 len:es.size=m.length
 key:∀(i:Nat) (e:MapEntry) (x:κ×β),es[i]? =some e->m[i]? =some x->e.key=ke x.1/\vr e.val x.2
 nd:(m.map Prod.fst).Nodup
 born:(es.toList.map MapEntry.born).Nodup
 lt:∀e∈es.toList,e.born<ck
variable {ke:κ->zV} {vr:zV->β->Prop} {es:Array MapEntry} {ck:Nat} {m:List (κ×β)}
theorem aE.empty:aE ke vr #[] 0 []:=⟨rfl,by simp,by simp,by simp,by simp⟩
theorem aE.mono{vr':zV->β->Prop}(h:aE ke vr es ck m)(hv:∀v x,vr v x->vr' v x):aE ke vr' es ck m:=⟨h.len,λi e x h1 h2=>⟨(h.key i e x h1 h2).1,hv _ _ (h.key i e x h1 h2).2⟩,h.nd,h.born,h.lt⟩
def ef(m:List (κ×β))(k:κ)(x:β):List (κ×β):=if k∈m.map Prod.fst then m.map (λy=>if y.1=k then(k,x)else y)else m++[(k,x)]
def aJ(m:List (κ×β))(k:κ):Option β:=(m.find? (λy=>y.1=k)).map Prod.snd
theorem dW{m:List (κ×β)}{k:κ}{x:β}(nd:(m.map Prod.fst).Nodup):aJ m k=some x↔(k,x)∈m:=by
 induction m with
 |nil=>simp[aJ]
 |cons y r ih=>
  rw[xaB,xaX]at nd;obtain⟨a,b⟩:=y;simp only[aJ,xby]at ih⊢;by_cases e:a=k
  ·subst e;simp only[decide_true,xci,xas,xam,xdT,xcT];constructor
   ·intro h;exact .inl h.symm
   rintro(h|h)
   ·exact h.symm
   exact absurd (xan.2 ⟨_,h,rfl⟩) nd.1
  simp only[e,xdo,xam,xdT,xba e,false_and,false_or];exact ih nd.2
theorem iy{m:List (κ×β)}{k:κ}:aJ m k=none↔k∉m.map Prod.fst:=by
 simp only[aJ,Option.map_eq_none_iff,xcy,xar,xan,not_exists,not_and]
theorem aE.findNow{kd:TypeDesc}(hk:∀a b,Instr.sameNow kd (ke a) (ke b)=some (decide (a=b)))(h:aE ke vr es ck m)(k:κ):
  (∃(i:Nat) (x:β) (e:MapEntry),es[i]? =some e/\m[i]? =some (k,x)/\vr e.val x/\Instr.findNow kd (ke k) es.toList 0=some (some (i,e.val)))\/(k∉m.map Prod.fst/\Instr.findNow kd (ke k) es.toList 0=some none):=by
 have key:∀(l:List MapEntry) (q:List (κ×β)) (j:Nat),l.length=q.length->(∀(i:Nat) (e:MapEntry) (x:κ×β),l[i]? =some e->q[i]? =some x->e.key=ke x.1/\vr e.val x.2)->
   (∃(i:Nat) (x:β) (e:MapEntry),l[i]? =some e/\q[i]? =some (k,x)/\vr e.val x/\Instr.findNow kd (ke k) l j=some (some (j+i,e.val)))\/(k∉q.map Prod.fst/\Instr.findNow kd (ke k) l j=some none):=by
  intro l;induction l with
  |nil=>intro q j hl _;cases q with|nil=>exact .inr ⟨by simp,rfl⟩|cons a b=>simp at hl
  |cons e r ih=>
   intro q j hl hkey;cases q with
   |nil=>simp at hl
   |cons y q=>
    obtain⟨h1,h2⟩:=hkey 0 e y rfl rfl;simp only[Instr.findNow,h1,hk];by_cases e0:k=y.1
    ·subst e0;exact .inl ⟨0,y.2,e,rfl,rfl,h2,by simp⟩
    rw[xai e0];rcases ih q (j+1) (by simpa using hl) (λi e x h1 h2=>hkey (i+1) e x (by simpa using h1) (by simpa using h2))with⟨i,x,e',g1,g2,g3,g4⟩|⟨g1,g2⟩
    ·exact .inl ⟨i+1,x,e',by simpa using g1,by simpa using g2,g3,by simp only[g4];rw[show j+1+i=j+(i+1)by omega]⟩
    exact .inr ⟨by rw[xaB,xam];rintro(h|h);exact e0 h;exact g1 h,by simpa using g2⟩
 have:=key es.toList m 0 (by simpa using h.len) (λi e x h1 h2=>h.key i e x (by simpa using h1) h2);rcases this with⟨i,x,e,g1,g2,g3,g4⟩|h2
 ·exact .inl ⟨i,x,e,by simpa using g1,g2,g3,by simpa using g4⟩
 exact .inr h2
theorem aE.DQ{P:Program}{kt:TypeId}(hk:∀a b,BA P kt (ke a) (ke b) (decide (a=b)))(h:aE ke vr es ck m)(k:κ):
  (∃(i:Nat) (x:β) (e:MapEntry),es[i]? =some e/\m[i]? =some (k,x)/\vr e.val x/\nk P kt (ke k) es.toList 0 (some (i,e.val)))\/(k∉m.map Prod.fst/\nk P kt (ke k) es.toList 0 none):=by
 have key:∀(l:List MapEntry) (q:List (κ×β)) (j:Nat),l.length=q.length->(∀(i:Nat) (e:MapEntry) (x:κ×β),l[i]? =some e->q[i]? =some x->e.key=ke x.1/\vr e.val x.2)->
   (∃(i:Nat) (x:β) (e:MapEntry),l[i]? =some e/\q[i]? =some (k,x)/\vr e.val x/\nk P kt (ke k) l j (some (j+i,e.val)))\/(k∉q.map Prod.fst/\nk P kt (ke k) l j none):=by
  intro l;induction l with
  |nil=>intro q j hl _;cases q with|nil=>exact .inr ⟨by simp,rfl⟩|cons a b=>simp at hl
  |cons e r ih=>
   intro q j hl hkey;cases q with
   |nil=>simp at hl
   |cons y q=>
    obtain⟨h1,h2⟩:=hkey 0 e y rfl rfl;have hb:=hk k y.1;rw[<-h1]at hb;by_cases e0:k=y.1
    ·refine .inl ⟨0,y.2,e,rfl,by rw[e0];rfl,h2,?_⟩;exact⟨_,hb,λ_=>by simp,λh=>by simp[e0]at h⟩
    rcases ih q (j+1) (by simpa using hl) (λi e x h1 h2=>hkey (i+1) e x (by simpa using h1) (by simpa using h2))with⟨i,x,e',g1,g2,g3,g4⟩|⟨g1,g2⟩
    ·refine .inl ⟨i+1,x,e',by simpa using g1,by simpa using g2,g3,_,hb,λh=>by simp[e0]at h,λ_=>?_⟩;rw[show j+(i+1)=j+1+i by omega];exact g4
    exact .inr ⟨by rw[xaB,xam];rintro(h|h);exact e0 h;exact g1 h,_,hb,λh=>by simp[e0]at h,λ_=>g2⟩
 have:=key es.toList m 0 (by simpa using h.len) (λi e x h1 h2=>h.key i e x (by simpa using h1) h2);rcases this with⟨i,x,e,g1,g2,g3,g4⟩|h2
 ·exact .inl ⟨i,x,e,by simpa using g1,g2,g3,by simpa using g4⟩
 exact .inr h2
theorem aE.put(h:aE ke vr es ck m){i:Nat}{k:κ}{y x:β}{val:zV}(hi:m[i]? =some (k,y))(hv:vr val x):aE ke vr (es.modify i λe=>{e with key:=ke k,val}) ck (ef m k x):=by
 have hmem:k∈m.map Prod.fst:=xan.2 ⟨_,xav hi,rfl⟩;have hlt:=(xak.1 hi).1;have abG:∀j z,m[j]? =some z->z.1=k->j=i:=λj z hj hz=>by
  have hj':=(xak.1 hj).1;have e1:(m.map Prod.fst)[j]? =some k:=by rw[xau,hj];simp[hz]
  have e2:(m.map Prod.fst)[i]? =some k:=by rw[xau,hi];rfl
  exact(List.getElem?_inj (by simpa using hj') h.nd).1 (e1.trans e2.symm)
 have hb:((es.modify i λe=>{e with key:=ke k,val}).toList.map MapEntry.born)=es.toList.map MapEntry.born:=by
  apply xbg;intro j;simp only[xau,xbf,xbY];split
  ·cases es[j]? <;>rfl
  rfl
 refine⟨by simp[ef,hmem,h.len],λj e z he hz=>?_,?_,by rw[hb];exact h.born,λe he=>?_⟩
 ·simp only[ef,hmem,xa7,xau]at hz;rw[xbY]at he;cases hm:m[j]? with
  |none=>rw[hm]at hz;simp at hz
  |some z0=>
   rw[hm]at hz;simp only[xci,xas]at hz;cases hes:es[j]? with
   |none=>rw[hes]at he;split at he<;>simp at he
   |some e0=>
    rw[hes]at he;by_cases ek:z0.1=k
    ·have:=abG j z0 hm ek;subst this;rw[xad ek]at hz;subst hz;simp only[xa7,xci,xas]at he;subst he;exact⟨rfl,hv⟩
    rw[xac ek]at hz;subst hz;rw[xac (λe=>by subst e;rw[hi]at hm;cases hm;exact ek rfl)]at he;simp only[xas]at he;subst he;exact h.key j _ _ hes hm
 ·have:(ef m k x).map Prod.fst=m.map Prod.fst:=by
   simp only[ef,hmem,xa7,xb2];apply xbq;intro z _;simp only[Function.comp];split
   ·rename_i hz;exact hz.symm
   rfl
  rw[this];exact h.nd
 have:e.born∈(es.modify i λe=>{e with key:=ke k,val}).toList.map MapEntry.born:=xaT he;rw[hb]at this;obtain⟨e0,h1,h2⟩:=xan.1 this;rw[<-h2];exact h.lt e0 h1
theorem aE.more(h:aE ke vr es ck m){k:κ}{x:β}{val:zV}(hk:k∉m.map Prod.fst)(hv:vr val x):aE ke vr (es.push {key:=ke k,val,born:=ck}) (ck+1) (ef m k x):=by
 have hs:ef m k x=m++[(k,x)]:=by unfold ef;rw[xac hk]
 rw[hs];refine⟨by simp[h.len],λj e z he hz=>?_,?_,?_,λe he=>?_⟩
 ·by_cases hj:j<m.length
  ·rw[xaY hj]at hz;rw[xdy,xac (by rw[h.len];omega)]at he;exact h.key j _ _ he hz
  have Xz:=(xak.1 hz).1;simp only[xaf,xaH,xcf]at Xz;have:j=m.length:=by omega
  subst this;rw[xbu (xag _)]at hz;simp at hz;subst hz;rw[xdy,xad h.len.symm]at he;simp at he;subst he;exact⟨rfl,hv⟩
 ·rw[xaJ,xa5];refine⟨h.nd,by simp,λa ha b hb=>?_⟩;simp at hb;subst hb;rintro rfl;exact hk ha
 ·rw[xeh,xaJ,xa5];refine⟨h.born,by simp,λa ha b hb=>?_⟩;simp at hb;subst hb;obtain⟨e,he,rfl⟩:=xan.1 ha;have:=h.lt e he;omega
 rw[xeh,xao]at he;rcases he with he|he
 ·have:=h.lt e he;omega
 simp at he;subst he;simp
variable {H:Hp} {b:Nat}
theorem aE.hit{kd:TypeDesc}{zero:zV}{ok:Bool}{k:κ}{x:β}{K:zV->Prop}(hk:∀a b,Instr.sameNow kd (ke a) (ke b)=some (decide (a=b)))(h:aE ke vr es ck m)(hm:(b,Obj.map es ck)∈H)(hx:aJ m k=some x)
 (h1:∀v,vr v x->K (cond ok (.tuple #[v,.bool true]) v)):c6 kd zero ok H (.map (some b)) (ke k) K:=by
 rcases h.findNow hk k with⟨i,y,e,g1,g2,g3,g4⟩|⟨g1,g2⟩
 ·have:aJ m k=some y:=(dW h.nd).2 (xav g2);rw[hx]at this;cases this;exact⟨es,_,.inr ⟨b,ck,rfl,hm⟩,g4,h1 _ g3⟩
 rw[iy.2 g1]at hx;cases hx
theorem aE.bM{kd:TypeDesc}{zero:zV}{ok:Bool}{k:κ}{K:zV->Prop}(hk:∀a b,Instr.sameNow kd (ke a) (ke b)=some (decide (a=b)))(h:aE ke vr es ck m)(hm:(b,Obj.map es ck)∈H)(hx:aJ m k=none)
 (h1:K (cond ok (.tuple #[zero,.bool false]) zero)):c6 kd zero ok H (.map (some b)) (ke k) K:=by
 rcases h.findNow hk k with⟨i,y,e,g1,g2,g3,g4⟩|⟨g1,g2⟩
 ·exact absurd (xan.2 ⟨_,xav g2,rfl⟩) (iy.1 hx)
 exact⟨es,_,.inr ⟨b,ck,rfl,hm⟩,g2,h1⟩
theorem aE.br{kd:TypeDesc}{k:κ}{x:β}{val:zV}{K:Hp->Prop}(hk:∀a b,Instr.sameNow kd (ke a) (ke b)=some (decide (a=b)))(hb:∀a,Instr.sameBits 10000 (ke a) (ke a)=true)(h:aE ke vr es ck m)(hv:vr val x)
 (h1:∀es' bB,aE ke vr es' bB (ef m k x)->∃H',c8 b (.map es ck) (.map es' bB) H H'/\K H'):aW kd H (.map (some b)) (ke k) val K:=by
 rcases h.findNow hk k with⟨i,y,e,g1,g2,g3,g4⟩|⟨g1,g2⟩
 ·refine⟨b,es,ck,_,rfl,g4,λe' he'=>?_,by rw[h.len];exact(xak.1 g2).1,h1 _ _ (h.put g2 hv)⟩;rw[(h.key i e' _ he' g2).1];exact hb k
 exact⟨b,es,ck,_,rfl,g2,h1 _ _ (h.more g1 hv)⟩
theorem aE.F5{P:Program}{kt:TypeId}{zero:zV}{ok:Bool}{k:κ}{x:β}{K:zV->Prop}(hk:∀a b,BA P kt (ke a) (ke b) (decide (a=b)))(hc:∀a,mu P kt (ke a))(h:aE ke vr es ck m)(hm:(b,Obj.map es ck)∈H)(hx:aJ m k=some x)
 (h1:∀v,vr v x->K (cond ok (.tuple #[v,.bool true]) v)):jW P kt zero ok H (.map (some b)) (ke k) K:=by
 rcases h.DQ hk k with⟨i,y,e,g1,g2,g3,g4⟩|⟨g1,g2⟩
 ·have:aJ m k=some y:=(dW h.nd).2 (xav g2);rw[hx]at this;cases this;exact⟨es,_,.inr ⟨b,ck,rfl,hm⟩,hc k,g4,h1 _ g3⟩
 rw[iy.2 g1]at hx;cases hx
theorem aE.vM{P:Program}{kt:TypeId}{zero:zV}{ok:Bool}{k:κ}{K:zV->Prop}(hk:∀a b,BA P kt (ke a) (ke b) (decide (a=b)))(hc:∀a,mu P kt (ke a))(h:aE ke vr es ck m)(hm:(b,Obj.map es ck)∈H)(hx:aJ m k=none)
 (h1:K (cond ok (.tuple #[zero,.bool false]) zero)):jW P kt zero ok H (.map (some b)) (ke k) K:=by
 rcases h.DQ hk k with⟨i,y,e,g1,g2,g3,g4⟩|⟨g1,g2⟩
 ·exact absurd (xan.2 ⟨_,xav g2,rfl⟩) (iy.1 hx)
 exact⟨es,_,.inr ⟨b,ck,rfl,hm⟩,hc k,g2,h1⟩
theorem aE.Mr{P:Program}{kt:TypeId}{k:κ}{x:β}{val:zV}{K:Hp->Prop}(hk:∀a b,BA P kt (ke a) (ke b) (decide (a=b)))(hc:∀a,mu P kt (ke a))(hb:∀a,Instr.sameBits 10000 (ke a) (ke a)=true)(h:aE ke vr es ck m)(hv:vr val x)
 (h1:∀es' bB,aE ke vr es' bB (ef m k x)->∃H',c8 b (.map es ck) (.map es' bB) H H'/\K H'):iL P kt H (.map (some b)) (ke k) val K:=by
 rcases h.DQ hk k with⟨i,y,e,g1,g2,g3,g4⟩|⟨g1,g2⟩
 ·refine⟨b,es,ck,_,rfl,hc k,g4,λe' he'=>?_,by rw[h.len];exact(xak.1 g2).1,h1 _ _ (h.put g2 hv)⟩;rw[(h.key i e' _ he' g2).1];exact hb k
 exact⟨b,es,ck,_,rfl,hc k,g2,h1 _ _ (h.more g1 hv)⟩
theorem aE.Q0(h:aE ke vr es ck m)(hm:(b,Obj.map es ck)∈H){K:zV->Prop}(hk:K (.int .i64 m.length)):By H (.map (some b)) K:=⟨_,rfl,.inr ⟨b,es,ck,rfl,hm,by rw[h.len];exact hk⟩⟩
def bS(es:Array MapEntry)(m:List (κ×β))(seen:Array Nat):List (κ×β):=((es.toList.zip m).filter λp=> !seen.contains p.1.born).map Prod.snd
omit [DecidableEq κ] in
theorem mz(h:aE ke vr es ck m):bS es m #[]=m:=by
 unfold bS;rw[xcs.2 zI,<-List.unzip_snd,List.unzip_zip];simpa using h.len
omit [DecidableEq κ] in
theorem B1(h:aE ke vr es ck m){seen:Array Nat}{i:Nat}{e:MapEntry}{x:κ×β}(he:es[i]? =some e)(hx:m[i]? =some x)(hs:e.born∉seen):(bS es m seen).Perm (x::bS es m (seen.push e.born)):=by
 unfold bS;have hz:(es.toList.zip m)[i]? =some (e,x):=by rw[List.getElem?_zip_eq_some];exact⟨by simpa using he,hx⟩
 obtain⟨A,C,hAC,hlen⟩:∃A C,es.toList.zip m=A++(e,x)::C/\A.length=i:=by
  obtain⟨hlt,hg⟩:=xak.1 hz;exact⟨(es.toList.zip m).take i,(es.toList.zip m).drop (i+1),by rw[<-hg,List.getElem_cons_drop,xbk],by simp only[xbz];omega⟩
 have agc:(es.toList.zip m).map (λp=>p.1.born)=es.toList.map MapEntry.born:=by
  have:(es.toList.zip m).map Prod.fst=es.toList:=by rw[<-List.unzip_fst,List.unzip_zip];simpa using h.len
  rw[show(λp:MapEntry×(κ×β)=>p.1.born)=MapEntry.born∘Prod.fst from rfl,<-xb2,this]
 have fO:=h.born;rw[<-agc,hAC,xaJ,xaB]at fO;have ab2:=xaS.nodup_iff.1 fO;rw[xaX,<-xaJ]at ab2;have hne:∀p∈A++C,p.1.born≠e.born:=λp hp e0=>ab2.1 (xan.2 ⟨p,hp,e0⟩);have XF:∀L:List (MapEntry×(κ×β)),(∀p∈L,p.1.born≠e.born)->(L.filter λp=> !(seen.push e.born).contains p.1.born)=L.filter λp=> !seen.contains p.1.born:=λL hL=>by
  apply xdm;intro p hp;have:=hL p hp;simp[Array.mem_push,this]
 rw[hAC,xbJ,xbJ,xbb,xbb];rw[xad (by simpa using hs),xac zI,XF A λp hp=>hne p (xae _ hp),XF C λp hp=>hne p (xab _ hp)];rw[xaJ,xaJ,xaB];exact xaS
omit [DecidableEq κ] in
theorem aE.next{bi bm:Nat}{seen:Array Nat}{K:zV->Hp->Prop}(h:aE ke vr es ck m)(hm:(bm,Obj.map es ck)∈H)(hi:(bi,Obj.mapIter (some bm) ck seen ck)∈H)
 (h1:∀e x seen',e∈es.toList->e.key=ke x.1->vr e.val x.2->(bS es m seen).Perm (x::bS es m seen')->seen'.back?=some e.born->es.find? (·.born==e.born)=some e->
   ∃H',c8 bi (.mapIter (some bm) ck seen ck) (.mapIter (some bm) ck seen' ck) H H'/\K (.tuple #[.bool true,e.key,e.val]) H')
 (h2:bS es m seen=[]->K (.tuple #[.bool false]) H):XW H (.pointer (some ⟨bi,0,none⟩)) K:=by
 refine⟨bi,some bm,ck,seen,ck,rfl,hi,es,ck,hm,λe he=>⟨h.lt e he,h.lt e he⟩,λe he hs=>?_,λaI=>h2 ?_⟩
 ·obtain⟨i,hi',rfl⟩:=xbd.1 he;have F8:i<m.length:=by rw[<-h.len];simpa using hi'
  have g1:es[i]? =some es.toList[i]:=by rw[<-xbf];exact xaa hi'
  have g2:m[i]? =some m[i]:=xaa F8;obtain⟨k1,k2⟩:=h.key i _ _ g1 g2;refine h1 _ m[i] _ he k1 k2 (B1 h g1 g2 hs) zI ?_;rw[<-Array.find?_toList];have fO:=h.born;rw[xd6];refine⟨by simp,es.toList.take i,es.toList.drop (i+1),by rw[List.getElem_cons_drop,xbk],λa ha=>?_⟩;simp only[xbE,beq_eq_false_iff_ne,ne_eq];intro e0;obtain⟨j,hj,rfl⟩:=xbd.1 ha;simp only[xbz]at hj;rw[List.getElem_take]at e0;have:=(List.getElem_inj (by simpa using h.born) (xs:=es.toList.map MapEntry.born) (i:=j) (j:=i) (h₀:=by rw[xaC];omega) (h₁:=by rw[xaC];exact hi')).1 (by simpa using e0);omega
 unfold bS;rw[xdk.2,xck];intro p hp;have:=aI p.1 (xdA hp).1;simpa using this
end
end Go.Sx
namespace an
def kV(w:Nat):List UInt8:=(List.range 8).map λi=>UInt8.ofNat (w>>>(8*i))
def ia(ws:zL):List UInt8:=ws.flatMap kV
theorem fX(w:Nat):(kV w).length=8:=by simp[kV]
theorem tB:∀l:zL,(ia l).length=8*l.length
 | []=>rfl
 |x::l=>by rw[ia,xei,xaf,fX];have:=tB l;unfold ia at this;rw[this,xaH];omega
theorem GB{a b:Nat}(ha:a<18446744073709551616)(hb:b<18446744073709551616)(h:kV a=kV b):a=b:=by
 apply xaW;intro j;by_cases hj:j<64
 ·have hi:j/8<8:=by omega
  have h1:=xcj (λl=>l[j/8]?) h;simp only[kV,xau,xc7 hi,xci,xas]at h1;have h2:=xcj UInt8.toNat h1;simp only[UInt8.toNat_ofNat']at h2;have h3:=xcj (λx=>x.testBit (j%8)) h2;simp only[xbw,xbB]at h3;rw[show 8*(j/8)+j%8=j by omega]at h3;have:decide (j%8<8)=true:=by simp;omega
  simpa[this]using h3
 rw[xca (xaO ha (xay (n:=2) zD (by omega:64<=j))),xca (xaO hb (xay (n:=2) zD (by omega:64<=j)))]
theorem Dm:∀{a b:zL},(∀w∈a,w<18446744073709551616)->(∀w∈b,w<18446744073709551616)->ia a=ia b->a=b
 | [],[],_,_,_=>rfl
 | [],y::b,_,_,h=>by have:=xcj List.length h;simp[ia,fX]at this;omega
 |x::a,[],_,_,h=>by have:=xcj List.length h;simp[ia,fX]at this
 |x::a,y::b,ha,hb,h=>by
  simp only[ia,xei]at h;obtain⟨h1,h2⟩:=List.append_inj h (by rw[fX,fX]);rw[GB (ha x zI) (hb y zI) h1,Dm (λw hw=>ha w (by simp[hw])) (λw hw=>hb w (by simp[hw])) h2]
theorem fg.key_inj{n:Nat}{a b:zL}(ha:fg n a)(hb:fg n b)(h:ia a=ia b):a=b:=Dm (λw hw=>ha.lt hw) (λw hw=>hb.lt hw) h
abbrev Fs:=List (zL)
def add(l:Fs)(t:zL):Fs:=if t∈l then l else l++[t]
def mB(L:Fs):Fs:=L.foldl add []
def given(n:Nat)(l:Fs)(v:Nat):Fs:=l.foldl (λacc t=>add (add acc (iK n t v false)) (iK n t v true)) []
def nodes(n:Nat)(l:Fs)(v:Nat):Fs:=l.filter λt=>dep n t v
def st(n:Nat)(L:Fs)(A:Nat):Nat->Fs
 |0=>mB L
 |k+1=>if A.testBit k then given n (st n L A k) k else st n L A k
def lvl(n:Nat)(L:Fs)(A v:Nat):Nat:=(nodes n (st n L A n) v).length
theorem AU{l:Fs}{t x:zL}:x∈add l t↔x∈l\/x=t:=by
 unfold add;split
 ·constructor
  ·exact .inl
  rintro(h|rfl)<;>assumption
 simp
theorem tc{l:Fs}{t:zL}(h:l.Nodup):(add l t).Nodup:=by
 unfold add;split
 ·exact h
 rename_i hn;rw[xa5];exact⟨h,by simp,λa ha b hb=>by simp at hb;subst hb;rintro rfl;exact hn ha⟩
theorem kU{α:Type}(f:α->Fs->Fs)(g:α->zL->Prop)(hf:∀a l x,x∈f a l↔x∈l\/g a x):∀(L:List α) (acc:Fs) (x:zL),x∈L.foldl (λacc a=>f a acc) acc↔x∈acc\/∃a∈L,g a x
 | [],acc,x=>by simp
 |a::L,acc,x=>by
  rw[xcD,kU f g hf L,hf];simp only[xam,exists_eq_or_imp,or_assoc]
theorem jd{α:Type}(f:α->Fs->Fs)(hf:∀a l,l.Nodup->(f a l).Nodup):∀(L:List α) (acc:Fs),acc.Nodup->(L.foldl (λacc a=>f a acc) acc).Nodup
 | [],acc,h=>h
 |a::L,acc,h=>jd f hf L _ (hf a acc h)
theorem gv{L:Fs}{x:zL}:x∈mB L↔x∈L:=by
 unfold mB;have:=kU (λa l=>add l a) (λa x=>x=a) (λa l x=>AU) L [] x;rw[this];simp
theorem mA(L:Fs):(mB L).Nodup:=jd (λa l=>add l a) (λa l h=>tc h) L [] zI
theorem cg{n v:Nat}{l:Fs}{x:zL}:x∈given n l v↔∃t∈l,∃b,x=iK n t v b:=by
 unfold given;have:=kU (λt acc=>add (add acc (iK n t v false)) (iK n t v true)) (λt x=>∃b,x=iK n t v b) (λt l x=>by
  rw[AU,AU];constructor
  ·rintro((h|h)|h)
   ·exact .inl h
   ·exact .inr ⟨false,h⟩
   exact .inr ⟨true,h⟩
  rintro(h|⟨b,h⟩)
  ·exact .inl (.inl h)
  cases b
  ·exact .inl (.inr h)
  exact .inr h) l [] x
 rw[this];simp
theorem nZ(n:Nat)(l:Fs)(v:Nat):(given n l v).Nodup:=jd (λt acc=>add (add acc (iK n t v false)) (iK n t v true)) (λa l h=>tc (tc h)) l [] zI
theorem nF(n:Nat)(L:Fs)(A:Nat):∀k,(st n L A k).Nodup
 |0=>mA L
 |k+1=>by
  rw[st];split
  ·exact nZ _ _ _
  exact nF n L A k
theorem jo{a b:Fs}(ha:a.Nodup)(hb:b.Nodup)(h:∀x,x∈a↔x∈b):a.Perm b:=(xcU ha hb).2 h
theorem mK{n v:Nat}{a b:Fs}(h:a.Perm b):(nodes n a v).length=(nodes n b v).length:=(h.filter _).length_eq
theorem E9{n:Nat}{L:Fs}{A:Nat}(hL:∀t∈L,fg n t)(hn:n<=16):∀k,∀t∈st n L A k,fg n t
 |0,t,h=>hL t (gv.1 h)
 |k+1,t,h=>by
  rw[st]at h;split at h
  ·obtain⟨u,_,b,rfl⟩:=cg.1 h;exact eB hn
  exact E9 hL hn k t h
theorem qx(l:Fs)(t:zL):(add l t).length<=l.length+1:=by unfold add;split<;>simp
theorem iC{α:Type}(f:α->Fs->Fs)(c:Nat)(hf:∀a l,(f a l).length<=l.length+c):∀(L:List α) (acc:Fs),(L.foldl (λacc a=>f a acc) acc).length<=acc.length+c*L.length
 | [],acc=>by simp
 |a::L,acc=>by
  have h1:=iC f c hf L (f a acc);have h2:=hf a acc;rw[xcD,xaH,Nat.mul_succ];omega
theorem sr(n:Nat)(L:Fs)(A:Nat):∀k,(st n L A k).length<=2^k*L.length
 |0=>by have:=iC (λa l=>add l a) 1 (λa l=>qx l a) L [];simpa[st,mB]using this
 |k+1=>by
  have ih:=sr n L A k;rw[st,xd4];split
  ·have h:=iC (λt acc=>add (add acc (iK n t k false)) (iK n t k true)) 2 (λa l=>by have h1:=qx (add l (iK n a k false)) (iK n a k true);have h2:=qx l (iK n a k false);omega) (st n L A k) [];have h':(given n (st n L A k) k).length<=2*(st n L A k).length:=by simpa[given]using h
   have:2*(st n L A k).length<=2*(2^k*L.length):=xc8 _ ih;rw[xcm (2^k) 2,xcJ];omega
  have:2^k*L.length<=2^k*2*L.length:=xaV _ zO;omega
def lf(n:Nat)(ws:zL):Nat->Nat
 |0=>0
 |v+1=>if dep n ws v then lf n ws v|||2^v else lf n ws v
def pW(n:Nat)(ws:zL):Nat:=lf n ws n
theorem iJ(n:Nat)(ws:zL)(u:Nat):∀k,(lf n ws k).testBit u=(decide (u<k) &&dep n ws u)
 |0=>by simp[lf]
 |v+1=>by
  rw[lf];by_cases e:u=v
  ·subst e;split
   ·rename_i h;rw[xb1,Nat.testBit_two_pow_self];simp[h]
   rename_i h;rw[iJ n ws u u];simp[h]
  have h1:decide (u<v+1)=decide (u<v):=by simp;omega
  rw[h1];split
  ·rw[xb1,xbX,iJ n ws u v];simp[xba e]
  exact iJ n ws u v
theorem nE(n:Nat)(ws:zL):∀k,lf n ws k<2^k
 |0=>by simp[lf]
 |v+1=>by
  have h1:=nE n ws v;have h2:2^v<2^(v+1):=xbt zD zO;rw[lf];split
  ·exact xbF zO h2
  omega
theorem uJ(A u:Nat):(A>>>u&&&1=1)↔A.testBit u=true:=by
 rw[gx,xbB,xcv];cases A.testBit u<;>simp
theorem LP(A u:Nat):((A>>>u)%2=1)↔A.testBit u=true:=by
 rw[<-uJ,xbU]
end an
namespace Go.Sx
open Go
section
variable {P:Program} {H:Hp}
theorem az.int{t e:Nat}{kd:IntKind}{x:Int}{K:zV->Hp->Prop}(h1:P.underlying t=some (.slice e))(h2:dO P e=some 1)(h3:fS P e=some (.int kd 0))
 (h:∀b,K (.slice (some ⟨b,0,none⟩) 1 1) ((b,.cells (av kd [x]) e zZ)::H)):az P t 1 [(0,.int kd x)] H K:=by
 refine⟨av kd [x],e,1,_,h1,h2,h3,by decide,?_,λb _=>h b⟩;have e1:Array.range 1=#[0]:=rfl;simp[Instr.fill,Value.cells,av,e1]
theorem az.none{t e k:Nat}{z:zV}{K:zV->Hp->Prop}(h1:P.underlying t=some (.slice e))(h2:dO P e=some k)(h3:fS P e=some z)
 (h:∀b,K (.slice (some ⟨b,0,none⟩) 0 0) ((b,.cells #[] e zZ)::H)):az P t 0 [] H K:=by
 refine⟨_,e,k,z,h1,h2,h3,by simp,rfl,λb _=>?_⟩;have:((Array.range (0*k)).map λi=>z.cells[i%z.cells.size]!)=#[]:=by simp
 rw[this];exact h b
def rY(T:TypeId)(v:zV)(ts:List Tb)(C B:Hp):Prop:=∃rs,bg T 2 v rs C/\tf (Tz B) rs ts
theorem rY.nil{T:TypeId}{B:Hp}:rY T (.slice none 0 0) [] [] B:=⟨[],bg.nil _ _,tf.nil⟩
theorem rY.mono{T:TypeId}{v:zV}{ts:List Tb}{C B B':Hp}(h:rY T v ts C B)(hs:∀x∈B,x∈B'):rY T v ts C B':=let ⟨rs,h1,h2⟩:=h;⟨rs,h1,h2.mono λ_ _ h=>h.mono hs⟩
theorem rY.aeZ{T:TypeId}{v:zV}{ts:List Tb}{C B B':Hp}(h:rY T v ts C B)(hc:∀x∈C,x∈B')(hb:∀x∈B,x∈B'):jE B' v ts:=by
 obtain⟨rs,h1,h2⟩:=h;exact⟨rs,(Sl.vG h1 zD).mono hc,h2.mono λ_ _ h=>h.mono hb⟩
theorem rY.app{T:TypeId}{v:zV}{ts:List Tb}{C B0 A B:Hp}(h:rY T v ts C B0){xb xc:Nat}{t:Tb}{s:zV}{xT:TypeId}{fz:Nat×Nat}(hx:(xb,Obj.cells #[.int .i64 t.n,s] xT fz)∈A++(C++B))(hw:Words B0 s t.ws)
 (hl:ts.length<4398046511103){K:zV->Hp->Prop}(hk:∀v' C',rY T v' (ts++[t]) C' B0->K v' (A++(C'++B))):App P T 2 32 (.agg #[.int .i64 0,.slice none 0 0]) (A++(C++B)) v (.slice (some ⟨xb,0,none⟩) 1 xc) K:=by
 obtain⟨rs,h1,h2⟩:=h;have hs:s.oneCell'=true:=by obtain⟨a,c,rfl,_⟩:=hw.1.shape;rfl
 have Du:=h2.1;refine h1.GL (r:=[.int .i64 t.n,s]) hx rfl (λu hu=>by simp only[xam,xaP,xbD]at hu;rcases hu with rfl|rfl;rfl;exact hs) ⟨[.int .i64 0,.slice none 0 0],rfl,rfl⟩ zO zO λv' C' ho=>hk v' C' ⟨_,ho,h2.snoc ⟨s,rfl,hw⟩⟩
def s6(l:List UInt8):List (List zV):=l.map λb=>[Value.int .u8 b.toNat]
theorem MQ(l:List UInt8):rows (s6 l)=(l.map λb=>Value.int .u8 b.toNat).toArray:=by
 unfold rows s6;congr 1;induction l with
 |nil=>rfl
 |cons b r ih=>simp[ih]
theorem kY.own{T:TypeId}{v:zV}{l:List UInt8}{C:Hp}(h:bg T 1 v (s6 l) C)(hs:∀x∈C,x∈H){K:zV->Prop}(hk:K (.string ⟨l.toArray⟩)):kY H v K:=by
 obtain⟨a,cap,h1,h2⟩:=((Sl.vG h zD).mono hs).cells;refine⟨a,_,cap,l,h1,?_,by simp[s6],hk⟩;rw[MQ,xb4]at h2;exact h2
def Ax(l:List UInt8):zV:=.string ⟨l.toArray⟩
theorem uX(a b:List UInt8):((⟨a.toArray⟩:ByteArray)==⟨b.toArray⟩)=decide (a=b):=by
 rw[beq_toListBytes,ByteArray.toList_eq,ByteArray.toList_eq];simp only[xdz];rw[xbN];simp
theorem P4(a b:List UInt8):Instr.sameNow .string (Ax a) (Ax b)=some (decide (a=b)):=by
 show some _=some _;rw[uX]
theorem Mz(a:List UInt8):Instr.sameBits 10000 (Ax a) (Ax a)=true:=by
 show((⟨a.toArray⟩:ByteArray)==⟨a.toArray⟩)=true;rw[uX];simp
theorem ae.aa6{a b:List UInt8}{k:zV->Prop}(h:k (.bool (decide (a≠b)))):ae .str .neq (Ax a) (Ax b) k:=by
 refine⟨_,rfl,?_⟩;have:(!((⟨a.toArray⟩:ByteArray).toList==(⟨b.toArray⟩:ByteArray).toList))=decide (a≠b):=by
  rw[<-beq_toListBytes,uX];simp
 rw[this];exact h
def gG(n:Nat)(B:Hp)(es:Array MapEntry)(ck:Nat)(m:List (List UInt8×zL)):Prop:=
 aE Ax (λv ws=>EO B v ⟨n,ws⟩) es ck m/\∀x∈m,x.1=an.ia x.2/\an.fg n x.2
theorem gG.mono{n:Nat}{B B':Hp}{es:Array MapEntry}{ck:Nat}{m:List (List UInt8×zL)}(h:gG n B es ck m)(hs:∀x∈B,x∈B'):gG n B' es ck m:=⟨h.1.mono λ_ _ h=>h.mono hs,h.2⟩
theorem gG.empty(n:Nat)(B:Hp):gG n B #[] 0 []:=⟨aE.empty,by simp⟩
def Av(m:List (List UInt8×zL))(ws:zL):List (List UInt8×zL):=ef m (an.ia ws) ws
theorem gG.nodup{n:Nat}{B:Hp}{es:Array MapEntry}{ck:Nat}{m:List (List UInt8×zL)}(h:gG n B es ck m):(m.map Prod.snd).Nodup:=by
 have h1:=h.1.nd;have e:m.map Prod.fst=(m.map Prod.snd).map an.ia:=by
  rw[xb2];apply xbq;intro x hx;exact(h.2 x hx).1
 rw[e]at h1;exact List.Pairwise.of_map an.ia (λa b hne e=>hne (by rw[e])) h1
theorem sn{n:Nat}{m:List (List UInt8×zL)}{ws:zL}(hm:∀x∈m,x.1=an.ia x.2/\an.fg n x.2)(hf:an.fg n ws):∀x,x∈(Av m ws).map Prod.snd↔x∈m.map Prod.snd\/x=ws:=by
 intro x;unfold Av ef;split
 ·rename_i hk;obtain⟨y,hy,hky⟩:=xan.1 hk;have hyw:y.2=ws:=(hm y hy).2.key_inj hf (by rw[<-(hm y hy).1,hky]);have:(m.map λy=>if y.1=an.ia ws then(an.ia ws,ws)else y)=m:=by
   conv=>rhs;rw[<-xey m]
   apply xbq;intro z hz;split
   ·rename_i hzk;have:z.2=ws:=(hm z hz).2.key_inj hf (by rw[<-(hm z hz).1,hzk]);simp only[id];rw[<-hzk,<-this]
   rfl
  rw[this];constructor
  ·exact .inl
  rintro(h|rfl)
  ·exact h
  exact xan.2 ⟨y,hy,hyw⟩
 simp
theorem Uo{n:Nat}{m:List (List UInt8×zL)}{ws:zL}(hm:∀x∈m,x.1=an.ia x.2/\an.fg n x.2)(hf:an.fg n ws):∀x∈Av m ws,x.1=an.ia x.2/\an.fg n x.2:=by
 intro x hx;unfold Av ef at hx;split at hx
 ·obtain⟨y,hy,rfl⟩:=xan.1 hx;split
  ·exact⟨rfl,hf⟩
  exact hm y hy
 rcases xao.1 hx with hx|hx
 ·exact hm x hx
 simp at hx;subst hx;exact⟨rfl,hf⟩
theorem gG.br{n:Nat}{B:Hp}{es:Array MapEntry}{ck b:Nat}{m:List (List UInt8×zL)}{ws:zL}{val:zV}{K:Hp->Prop}(h:gG n B es ck m)(hv:EO B val ⟨n,ws⟩)(hf:an.fg n ws)
 (h1:∀es' bB,gG n B es' bB (Av m ws)->∃H',c8 b (.map es ck) (.map es' bB) H H'/\K H'):aW .string H (.map (some b)) (Ax (an.ia ws)) val K:=
 aE.br P4 Mz h.1 hv λes' bB he=>h1 es' bB ⟨he,Uo h.2 hf⟩
end
end Go.Sx
namespace Go.Sx
open Go
section
variable {P:Program} {g:Gh} {H:Hp}
theorem bg.apps{elem k bytes:Nat}{zero:zV}{v:zV}{rs:List (List zV)}{C A B:Hp}(h:bg elem k v rs C){xa:Option Addr}{xc:Nat}{r2:List (List zV)}
 (hx:Cells (A++(C++B)) xa (r2.length*k) (rows r2))(hr:∀r∈r2,r.length=k)(h1:∀r∈r2,∀u∈r,u.oneCell'=true)(hz:∃z:List zV,zero.cells=z.toArray/\z.length=k)
 (hb:(rs.length+r2.length)*bytes<=140737488355328)(cJ:rs.length+r2.length<=9223372036854775807){K:zV->Hp->Prop}
 (hk:∀v' C',bg elem k v' (rs++r2) C'->K v' (A++(C'++B))):App P elem k bytes zero (A++(C++B)) v (.slice xa r2.length xc) K:=by
 obtain⟨z,hz1,Vy⟩:=hz;have hnone:∀u∈(rows r2).toList,u.oneCell'=true:=by
  intro u hu;simp only[rows,List.mem_flatten]at hu;obtain⟨r,h2,h3⟩:=hu;exact h1 r h2 u h3
 rcases h with⟨rfl,rfl,rfl⟩|⟨b,aP,rfl,rfl,aI⟩
 ·refine⟨none,0,0,xa,r2.length,xc,#[],rows r2,rfl,rfl,rfl,hx,bR hr,by simp,hnone,λh=>?_,λ_=>⟨by simpa using hb,by simpa using cJ,λgu hn b hbf=>?_⟩⟩
  ·have:r2=[]:=xbW zO;subst this;exact hk _ [] (.inl ⟨rfl,rfl,rfl⟩)
  rw[show(#[]:Array zV)++rows r2++Builtin.zeroCells zero.cells (gu-(0+r2.length))=rows ([]++r2++List.replicate (gu-r2.length) z)by rw[hz1,qO z Vy];simp only[xa3,xdb,xb5];rw[eo]];refine⟨_,aL.B8 [(b,_)] A B,hk _ [(b,_)] (.inr ⟨b,List.replicate (gu-r2.length) z,?_,rfl,?_⟩)⟩
  ·simp;omega
  intro x hx;rcases xao.1 hx with hx|hx
  ·exact hr x hx
  rw[xb0 hx,Vy]
 have hsz:=bR aI;have pL:∀x∈rs,x.length=k:=λx hx=>aI x (by simp[hx]);have hold:rows rs=(rows (rs++aP)).extract 0 (0+rs.length*k):=by
  rw[<-eo];apply xde;have:=bR pL;have h2:(rows rs).toList.length=rs.length*k:=by rw[xce];exact this
  rw[Array.toList_extract,Array.toList_append,List.extract_eq_take_drop,List.drop_zero,xa3,xc2,<-h2,xd8]
 refine⟨some ⟨b,0,none⟩,rs.length,rs.length+aP.length,xa,r2.length,xc,rows rs,rows r2,rfl,rfl,.inr ⟨rfl,_,elem,(0,0),by simp,?_,hold⟩,hx,bR hr,bR pL,hnone,λhfit=>?_,λhgrow=>⟨hb,by omega,λgu hn b' hbf=>?_⟩⟩
 ·rw[hsz];simp only[xaf,xa3];exact xaV _ zO
 ·obtain⟨j1,j2,rfl,hj⟩:∃j1 j2,aP=j1++j2/\j1.length=r2.length:=⟨aP.take r2.length,aP.drop r2.length,(xbk _ _).symm,by rw[xbz];omega⟩;have acI:∀x∈j1,x.length=k:=λx hx=>aI x (by simp[hx]);refine⟨_,elem,_,rfl,?_,((c8.head _).append B).cc A,hk _ [(b,_)] (.inr ⟨b,j2,?_,?_,?_⟩)⟩
  ·rw[hsz,xaf,xaf,hj,xdQ,xdQ];show 0+rs.length*k+r2.length*k<=_;omega
  ·simp;omega
  ·have e:(⟨b,0,none⟩:Addr).off+rs.length*k=rs.length*k:=by simp
   have l1:=dr rs pL;have l2:=dr j1 acI;have l3:=dr r2 hr;have e2:jQ (rows (rs++(j1++j2))) (rs.length*k) (rows r2).toList=rows (rs++r2++j2):=by
    unfold rows;rw[xcr,xcr,xdz,q7 _ _ _ (by rw[xaf,xaf,l1,l2,l3,hj];omega)];congr 1;rw[xcr,xcr,<-l1,xd8,l3,<-hj,<-l2,List.drop_append,<-xaj];simp[List.drop_append]
   rw[e,e2]
  intro x hx;simp only[xaj,xao]at hx;rcases hx with hx|hx|hx
  ·exact pL x hx
  ·exact hr x hx
  exact aI x (by simp[hx])
 refine⟨A++([(b',_)]++B),?_,hk _ [(b',_)] (.inr ⟨b',List.replicate (gu-(rs.length+r2.length)) z,?_,rfl,?_⟩)⟩
 ·rw[hz1,qO z Vy,eo,eo];exact λg w h=>(aL.aa9 [[_],A,[_],B] [[_],A,[_],B] ((xbe (l₁:=[_,A]) (l₂:=[_])).append_right [B]|>.trans (.cons _ (.swap _ _ _))) g w h).tail
 ·simp;omega
 intro x hx;rcases xao.1 hx with hx|hx
 ·rcases xao.1 hx with hx|hx
  ·exact pL x hx
  exact hr x hx
 rw[xb0 hx,Vy]
def aN(T:TypeId)(kd:IntKind)(v:zV)(l:List Int)(C:Hp):Prop:=bg T 1 v (l.map λn=>[Value.int kd n]) C
theorem aN.nil{T:TypeId}{kd:IntKind}:aN T kd (.slice none 0 0) [] []:=bg.nil _ _
theorem aN.bP{T:TypeId}{kd:IntKind}{v:zV}{l:List Int}{C:Hp}(h:aN T kd v l C){K:zV->Prop}(hk:K (.int .i64 l.length)):aR v K:=bg.bP h (by simpa using hk)
theorem aN.ints{T:TypeId}{kd:IntKind}{v:zV}{l:List Int}{C:Hp}(h:aN T kd v l C):dz kd C v l:=Sl.vG h zD
theorem aN.app{T:TypeId}{kd:IntKind}{v:zV}{l:List Int}{C A B:Hp}{bytes:Nat}(h:aN T kd v l C){xb xc:Nat}{x:Int}{xT:TypeId}{fz:Nat×Nat}(hx:(xb,Obj.cells (av kd [x]) xT fz)∈A++(C++B))
 (hb:(l.length+1)*bytes<=140737488355328)(hm:l.length+1<=9223372036854775807){K:zV->Hp->Prop}(hk:∀v' C',aN T kd v' (l++[x]) C'->K v' (A++(C'++B))):App P T 1 bytes (.int kd 0) (A++(C++B)) v (.slice (some ⟨xb,0,none⟩) 1 xc) K:=
 bg.GL (r:=[.int kd x]) h hx rfl (by simp[Value.oneCell']) ⟨[.int kd 0],rfl,rfl⟩ (by simpa using hb) (by simpa using hm) λv' C' ho=>hk v' C' (by unfold aN;simpa using ho)
theorem aN.apps{T:TypeId}{kd:IntKind}{v x:zV}{l l2:List Int}{C A B:Hp}{bytes:Nat}(h:aN T kd v l C)(hx:dz kd (A++(C++B)) x l2)
 (hb:(l.length+l2.length)*bytes<=140737488355328)(hm:l.length+l2.length<=9223372036854775807){K:zV->Hp->Prop}(hk:∀v' C',aN T kd v' (l++l2) C'->K v' (A++(C'++B))):App P T 1 bytes (.int kd 0) (A++(C++B)) v x K:=by
 obtain⟨a,cap,rfl,hc⟩:=Sl.cells hx;exact bg.apps h hc zI (by simp[Value.oneCell']) ⟨[.int kd 0],rfl,rfl⟩ (by simpa using hb) (by simpa using hm) λv' C' ho=>hk v' C' (by unfold aN;rw[xaJ];exact ho)
theorem az.aby{t e:Nat}{kd:IntKind}{x y z:Int}{K:zV->Hp->Prop}(h1:P.underlying t=some (.slice e))(h2:dO P e=some 1)(h3:fS P e=some (.int kd 0))
 (h:∀b,K (.slice (some ⟨b,0,Option.none⟩) 3 3) ((b,.cells (av kd [x,y,z]) e zZ)::H)):az P t 3 [(0,.int kd x),(1,.int kd y),(2,.int kd z)] H K:=by
 refine⟨av kd [x,y,z],e,1,_,h1,h2,h3,by decide,?_,λb _=>h b⟩;have e1:Array.range (3*1)=#[0,1,2]:=rfl;simp[Instr.fill,Value.cells,av,e1]
end
end Go.Sx
namespace Go.Sx
open Go
section
variable {P:Program}
theorem D6{e:TypeId}{i:TypeInfo}(hi:P.info? e=some i)(hs:i.size=1):P.cellsOf e=1:=by simp[Program.cellsOf,hi,hs]
theorem q6{e:TypeId}{q:IntKind}(hu:P.underlying e=some (.int q)){l:List Int}{j:Nat}{x:Int}(h:l[j]? =some x)(w:World):(part e (av q l) j).run P w=.ok (.int q x) w:=by
 simp[part,isAgg,run_underlying hu,av,h]
theorem rQ{e:TypeId}{q:IntKind}(hu:P.underlying e=some (.int q))(hc:P.cellsOf e=1)(d:Nat)(l l':List Int)(w:World):∀is:zL,(∀i∈is,i<l.length/\i<l'.length)->
  (Op.eqItems (d+1) e (P.cellsOf e) (av q l) (av q l') is).run P w=.ok (is.all λi=>l[i]? ==l'[i]?) w
 | [],_=>by simp[Op.eqItems]
 |i::is,h=>by
  obtain⟨h1,h2⟩:=h i zI;have g1:l[i]? =some l[i]:=xaa h1;have g2:l'[i]? =some l'[i]:=xaa h2;have p1:=q6 (P:=P) hu g1 w;have p2:=q6 (P:=P) hu g2 w;have p3:(Op.equalIn (d+1) e (.int q l[i]) (.int q l'[i])).run P w=.ok (l[i]==l'[i]) w:=by
   simp only[Op.equalIn,Sem.run_bind,run_underlying hu,Result.andThen_ok,xa7,Sem.run_pure]
  have ih:=rQ hu hc d l l' w is λj hj=>h j (by simp[hj]);simp only[Op.eqItems,hc,xb4,Sem.run_bind,p1,p2,p3,Result.andThen_ok]at ih⊢;rw[List.all_cons,g1,g2];cases hb:(l[i]==l'[i])
  ·simp[hb]
  simp[hb,ih]
theorem BA.array{t e:TypeId}{q:IntKind}{n:Nat}(ht:P.underlying t=some (.array n e))(hu:P.underlying e=some (.int q))(hz:dO P e=some 1)(l l':List Int)(h1:l.length=n)(h2:l'.length=n):
  BA P t (.agg (av q l)) (.agg (av q l')) (decide (l=l')):=by
 obtain⟨i,hi,hs⟩:=bF hz;have hc:=D6 hi hs;intro w;show(Op.equalIn (9998+1+1) t _ _).run P w=_;rw[run_equalIn_array w (9998+1) _ _ ht hi,rQ hu hc 9998 l l' w _ (λj hj=>by have:=xaM.1 hj;omega)];congr 1;rw[xbN];simp only[xc1,xaM,xar,xcM];constructor
 ·intro h;apply xbg;intro j;by_cases hj:j<n
  ·exact h j hj
  rw[xaE zO,xaE zO]
 rintro rfl j _;rfl
theorem mu.array{t e:TypeId}{q:IntKind}{n:Nat}(ht:P.underlying t=some (.array n e))(hu:P.underlying e=some (.int q))(hz:dO P e=some 1)(l:List Int)(h1:l.length=n):mu P t (.agg (av q l)):=by
 obtain⟨i,hi,hs⟩:=bF hz;intro b w;have gen:∀d,(Instr.checkKey b (d+1+1) t (.agg (av q l))).run P w=.ok () w:=by
  intro d;have p2:∀x:Int,(Instr.checkKey b (d+1) e (.int q x)).run P w=.ok () w:=λx=>by
   simp only[Instr.checkKey,Sem.run_bind,run_underlying hu,Result.andThen_ok,Sem.run_pure]
  unfold Instr.checkKey;simp only[Sem.run_bind,run_underlying ht,Result.andThen_ok];simp only[Std.Legacy.Range.forIn_eq_forIn_range',Std.Legacy.Range.size,xc2,Nat.add_one_sub_one,Nat.div_one];have key:∀is:zL,(∀j∈is,j<l.length)->(forIn is PUnit.unit λj (_:PUnit)=>(do
     Instr.checkKey b (d+1) e (<-part e (av q l) (j*(<-sizeOf e)))
     pure (ForInStep.yield PUnit.unit):Sem (ForInStep PUnit))).run P w=.ok PUnit.unit w:=by
   intro is;induction is with
   |nil=>intro _;simp
   |cons j is ih=>
    intro h;have p1:=q6 (P:=P) hu (xaa (h j zI)) w;simp only[xes,Sem.run_bind,run_sizeOf hi,Result.andThen_ok,hs,xb4,p1,p2,Sem.run_pure];exact ih λk hk=>h k (by simp[hk])
  have:=key (List.range' 0 n) (λj hj=>by have:=xej.1 hj;omega);rw[this];rfl
 exact gen 9998
theorem Build.two{t e:TypeId}{q:IntKind}{x y:Int}{K:zV->Prop}(ht:P.underlying t=some (.array 2 e))(hz:dO P e=some 1)(h0:fS P t=some (.agg (av q [0,0])))(h:K (.agg (av q [x,y]))):
  Build P t [(0,.int q x),(1,.int q y)] K:=by
 refine⟨_,λw=>?_,h⟩;obtain⟨i,hi,hs⟩:=bF hz;obtain⟨i0,F9,Xl⟩:=cH h0;simp only[Instr.build,Sem.run_bind,dU F9 Xl,Result.andThen_ok,run_underlying ht,run_sizeOf hi,hs];simp[Instr.fill,Value.cells,av]
end
end Go.Sx
