import Derived.WalkKit
import Derived.Still
import Derived.KernelRfl
import Derived.Deep.Quiet
import Derived.OrdersHeld
import Derived.ProofKit
import Derived.OpenShut
import Derived.Below
import Derived.ChangeKeysEq
import Derived.Laws.StructEq
set_option linter.defProp false
set_option linter.unusedVariables false
set_option linter.unusedSimpArgs false
set_option linter.unusedSectionVars false
def zM{α:Type _}{x:α}{l:List α}(h:x∈l:=by repeat (first|assumption|exact List.Mem.head _|apply List.Mem.tail|apply List.mem_append_right)):x∈l:=h
def zS{α:Type _}{A B:List α}(h:∀x∈A,x∈B:=by intro _ h;repeat (first|exact h|apply List.mem_cons_of_mem|apply List.mem_append_right)):∀x∈A,x∈B:=h
variable{p:Prop}
def zO(h:p:=by omega):p:=h
def zI(h:p:=by simp):p:=h
def zD(h:p:=by decide):p:=h
def zK(h:p:=by kernel_rfl):p:=h
def zP(h:p:=by simp;omega):p:=h
def zC(h:p:=by intro c h;cases h):p:=h
abbrev zL:=List Nat
abbrev zV:=Go.Value
abbrev zZ:Nat×Nat:=(0,0)
def xaa:=@List.mem_append_right
def xab:=@List.getElem?_eq_getElem
def xac:=@if_neg
def xad:=@List.mem_append_left
def xae:=@if_pos
def xaf:=@List.length_append
def xag:=@List.append_assoc
def xah:=@List.getElem?_eq_some_iff
def xai:=@Nat.le_refl
def xaj:=@cond_false
def xak:=@List.mem_cons
def xal:=@List.mem_map
def xam:=@decide_eq_true
def xan:=@decide_eq_false
def xao:=@List.mem_append
def xap:=@cond_true
def xaq:=@List.getElem?_map
def xar:=@List.length_map
def xas:=@List.getD_eq_getElem?_getD
def xat:=@Option.some.injEq
def xau:=@Array.getD_eq_getD_getElem?
def xav:=@List.mem_of_getElem?
def xaw:=@List.cons.injEq
def xax:=@List.length_cons
def xay:=@List.map_cons
def xaz:=@List.map_append
def xaA:=@Nat.pow_le_pow_right
def xaB:=@List.getElem?_eq_none
def xaC:=@Nat.lt_of_le_of_lt
def xaD:=@Classical.byContradiction
def xaE:=@List.mem_singleton
def xaF:=@List.length_range
def xaG:=@Bool.or_eq_false_iff
def xaH:=@Nat.eq_of_beq_eq_true
def xaI:=@List.append_nil
def xaJ:=@Bool.and_eq_true
def xaK:=@List.getElem_mem
def xaL:=@Nat.zero_le
def xaM:=@decide_eq_true_eq
def xaN:=@List.mem_range
def xaO:=@List.perm_middle
def xaP:=@Nat.lt_of_lt_of_le
def xaQ:=@List.not_mem_nil
def xaR:=@Bool.false_eq_true
def xaS:=@List.cons_append
def xaT:=@List.mem_map_of_mem
def xaU:=@Array.getElem?_eq_some_iff
def xaV:=@Nat.eq_of_testBit_eq
def xaW:=@and_true
def xaX:=@List.nodup_cons
def xaY:=@Nat.mul_le_mul_right
def xaZ:=@List.getElem?_append_left
def xa0:=@Nat.shiftRight_eq_div_pow
def xa1:=@Nat.zero_add
def xa2:=@if_false
def xa3:=@List.nodup_append
def xa4:=@Nat.one_shiftLeft
def xa5:=@if_true
def xa6:=@Bool.decide_or
def xa7:=@List.take_length
def xa8:=@List.take_succ_eq_append_getElem
def xa9:=@Ne.symm
def xba:=@List.ext_getElem?
def xbb:=@Option.some.inj
def xbc:=@List.mem_iff_getElem
def xbd:=@Array.getElem?_toList
def xbe:=@Int.toNat_natCast
def xbf:=@List.count_append
def xbg:=@List.take_add_one
def xbh:=@List.nodup_range
def xbi:=@or_false
def xbj:=@Nat.testBit_and
def xbk:=@List.perm_append_comm
def xbl:=@Nat.mod_eq_of_lt
def xbm:=@Nat.shiftRight_le
def xbn:=@List.map_congr_left
def xbo:=@List.getElem?_set_self
def xbp:=@List.getElem?_set
def xbq:=@decide_eq_false_iff_not
def xbr:=@Nat.succ_mul
def xbs:=@List.take_append_drop
def xbt:=@List.drop_eq_getElem_cons
def xbu:=@Bool.or_eq_true
def xbv:=@List.mem_cons_of_mem
def xbw:=@List.getElem?_set_ne
def xbx:=@Nat.two_pow_pos
def xby:=@Nat.pow_lt_pow_right
def xbz:=@List.filter_cons
def xbA:=@List.mem_cons_self
def xbB:=@List.Perm.append_left
def xbC:=@Nat.testBit_mod_two_pow
def xbD:=@Array.getElem?_eq_getElem
def xbE:=@List.length_set
def xbF:=@List.length_nil
def xbG:=@List.find?_cons
def xbH:=@Bool.eq_iff_iff
def xbI:=@List.length_take
def xbJ:=@Nat.mod_lt
def xbK:=@Nat.testBit_shiftRight
def xbL:=@Bool.not_eq_true'
def xbM:=@Nat.or_lt_two_pow
def xbN:=@List.pairwise_map
def xbO:=@List.eq_nil_of_length_eq_zero
def xbP:=@List.count_pos_iff
def xbQ:=@Array.getElem?_setIfInBounds_self_of_lt
def xbR:=@List.nil_append
def xbS:=@List.eq_of_mem_replicate
def xbT:=@Nat.le_trans
def xbU:=@List.length_filter_le
def xbV:=@Array.getElem?_setIfInBounds_ne
def xbW:=@List.getElem?_append_right
def xbX:=@Nat.and_one_is_mod
def xbY:=@List.map_map
def xbZ:=@List.range_succ
def xb0:=@List.mem_filter
def xb1:=@decide_eq_decide
def xb2:=@List.mem_or_eq_of_mem_set
def xb3:=@Array.length_toList
def xb4:=@Nat.testBit_two_pow
def xb5:=@of_decide_eq_true
def xb6:=@Array.getElem?_modify
def xb7:=@Nat.testBit_or
def xb8:=@Nat.mul_one
def xb9:=@Nat.not_lt_zero
def xca:=@List.count_cons
def xcb:=@List.filter_append
def xcc:=@Nat.add_sub_cancel
def xcd:=@List.map_nil
def xce:=@Nat.le_of_lt
def xcf:=@Nat.testBit_lt_two_pow
def xcg:=@Nat.mul_le_mul
def xch:=@congrArg
def xci:=@Nat.and_le_left
def xcj:=@Option.map_some
def xck:=@Classical.choose_spec
def xcl:=@List.set_append_right
def xcm:=@List.length_singleton
def xcn:=@Nat.mul_comm
def xco:=@true_and
def xcp:=@Nat.shiftLeft_eq
def xcq:=@Nat.add_assoc
def xcr:=@Bool.true_and
def xcs:=@Array.getElem?_setIfInBounds
def xct:=@Bool.not_false
def xcu:=@Nat.lt_trichotomy
def xcv:=@not_true_eq_false
def xcw:=@List.flatten_append
def xcx:=@List.filter_eq_self
def xcy:=@Nat.mul_le_mul_left
def xcz:=@List.perm_iff_count
def xcA:=@Array.getElem?_eq_none
def xcB:=@Nat.add_zero
def xcC:=@List.map_set
def xcD:=@List.take_of_length_le
def xcE:=@Bool.not_true
def xcF:=@List.any_eq_true
def xcG:=@Nat.zero_testBit
def xcH:=@List.set_cons_zero
def xcI:=@List.eq_nil_iff_forall_not_mem
def xcJ:=@Nat.min_eq_left
def xcK:=@List.mem_of_mem_take
def xcL:=@List.foldl_cons
def xcM:=@BitVec.ofInt_natCast
def xcN:=@List.count_singleton
def xcO:=@Nat.succ_le_of_lt
def xcP:=@not_false_eq_true
def xcQ:=@Nat.mul_assoc
def xcR:=@List.getElem?_cons_zero
def xcS:=@List.length_eq_zero_iff
def xcT:=@beq_iff_eq
def xcU:=@Nat.sub_zero
def xcV:=@List.find?_eq_none
def xcW:=@Nat.testBit_two_pow_sub_one
def xcX:=@Nat.sub_self
def xcY:=@Nat.le_of_ble_eq_true
def xcZ:=@Iff.rfl
def xc0:=@List.perm_ext_iff_of_nodup
def xc1:=@List.size_toArray
def xc2:=@List.flatten_cons
def xc3:=@Array.mem_toList_iff
def xc4:=@Array.ext'
def xc5:=@List.set_append_left
def xc6:=@List.set_eq_take_append_cons_drop
def xc7:=@Array.getElem?_replicate
def xc8:=@List.all_eq_true
def xc9:=@Nat.le_of_not_lt
def xda:=@Nat.and_le_right
def xdb:=@Nat.testBit_eq_decide_div_mod_eq
def xdc:=@List.replicate_succ
def xdd:=@List.toList_toArray
def xde:=@List.length_pos_iff
def xdf:=@Prod.mk.injEq
def xdg:=@Array.empty_append
def xdh:=@List.append_of_mem
def xdi:=@Int.natCast_nonneg
def xdj:=@of_decide_eq_false
def xdk:=@List.filter_filter
def xdl:=@Array.getElem?_extract
def xdm:=@List.drop_eq_nil_of_le
def xdn:=@Nat.one_mul
def xdo:=@List.filter_eq_nil_iff
def xdp:=@Option.map_eq_some_iff
def xdq:=@List.filter_congr
def xdr:=@Classical.not_not
def xds:=@List.foldl_append
def xdt:=@decide_false
def xdu:=@List.getElem?_toArray
def xdv:=@Nat.ne_of_gt
def xdw:=@and_false
def xdx:=@Array.toArray_toList
def xdy:=@Nat.div_eq_of_lt
def xdz:=@Nat.min_eq_right
def xdA:=@Nat.sub_le
def xdB:=@Bool.or_false
def xdC:=@List.perm_append_singleton
def xdD:=@Bool.false_or
def xdE:=@Nat.pow_add
def xdF:=@Nat.mul_add
def xdG:=@Array.getElem?_push
def xdH:=@List.getElem?_range
def xdI:=@List.extract_eq_take_drop
def xdJ:=@List.of_mem_zip
def xdK:=@Decidable.byContradiction
def xdL:=@Array.append_empty
def xdM:=@List.set_cons_succ
def xdN:=@false_and
def xdO:=@false_or
def xdP:=@Option.isSome_iff_exists
def xdQ:=@Nat.lt_succ_iff_lt_or_eq
def xdR:=@Nat.shiftRight_add
def xdS:=@List.count_eq_zero
def xdT:=@Bool.or_true
def xdU:=@List.take_left
def xdV:=@List.count_nil
def xdW:=@List.count_set
def xdX:=@Bool.and_false
def xdY:=@List.getElem?_replicate
def xdZ:=@List.take_sublist
def xd0:=@Array.getElem?_setIfInBounds_self
def xd1:=@Nat.add_mul
def xd2:=@Bool.and_true
def xd3:=@Array.toList_map
def xd4:=@Array.getElem?_append
def xd5:=@List.length_replicate
def xd6:=@List.eraseIdx_sublist
def xd7:=@Nat.testBit_shiftLeft
def xd8:=@dif_pos
def xd9:=@List.getElem?_append
def xea:=@Nat.div_lt_of_lt_mul
def xeb:=@Array.toList_extract
def xec:=@Nat.zero_mul
def xed:=@Nat.and_two_pow_sub_one_eq_mod
def xee:=@Nat.pow_succ
def xef:=@Nat.le_antisymm
def xeg:=@Bool.decide_and
def xeh:=@List.find?_eq_some_iff_append
def xei:=@Array.toList_append
def xej:=@List.take_succ_cons
def xek:=@List.mapM_cons
def xel:=@Bool.false_and
def xem:=@Nat.testBit_two_pow_sub_succ
def xen:=@true_or
def xeo:=@List.dropLast_concat_getLast
def xep:=@List.take_zero
def xeq:=@Nat.pos_of_ne_zero
def xer:=@Nat.one_le_two_pow
def xes:=@List.idxOf_lt_length_of_mem
def xet:=@List.pairwise_cons
def xeu:=@Array.toList_push
def xev:=@List.flatMap_cons
def xew:=@List.mem_range'_1
def xex:=@Bool.not_eq_true
def xey:=@Array.mem_filter
def xez:=@Option.bind_some
def xeA:=@beq_self_eq_true
def xeB:=@Nat.lt_or_ge
def xeC:=@List.take_append
def xeD:=@List.getElem_inj
def xeE:=@List.drop_append
def xeF:=@List.drop_length
def xeG:=@Array.map_empty
def xeH:=@List.forIn_cons
def xeI:=@Nat.div_add_mod
def xeJ:=@Int.natCast_inj
def xeK:=@List.take_left'
def xeL:=@not_congr
def xeM:=@List.countP_map
def xeN:=@List.map_id
abbrev zX:ByteArray:=ByteArray.mk #[0,1,2,2,3,3,3,3,4,4,4,4,4,4,4,4,5,5,5,5,5,5,5,5,5,5,5,5,5,5,5,5,6,6,6,6,6,6,6,6,6,6,6,6,6,6,6,6,6,6,6,6,6,6,6,6,6,6,6,6,6,6,6,6,7,7,7,7,7,7,7,7,7,7,7,7,7,7,7,7,7,7,7,7,7,7,7,7,7,7,7,7,7,7,7,7,7,7,7,7,7,7,7,7,7,7,7,7,7,7,7,7,7,7,7,7,7,7,7,7,7,7,7,7,7,7,7,7,8,8,8,8,8,8,8,8,8,8,8,8,8,8,8,8,8,8,8,8,8,8,8,8,8,8,8,8,8,8,8,8,8,8,8,8,8,8,8,8,8,8,8,8,8,8,8,8,8,8,8,8,8,8,8,8,8,8,8,8,8,8,8,8,8,8,8,8,8,8,8,8,8,8,8,8,8,8,8,8,8,8,8,8,8,8,8,8,8,8,8,8,8,8,8,8,8,8,8,8,8,8,8,8,8,8,8,8,8,8,8,8,8,8,8,8,8,8,8,8,8,8,8,8,8,8,8,8]
namespace Go.Sx
open Go
abbrev Hp:=List (Nat×Obj)
structure Gh where
 w:World
 fr:Hp
def Gh.add(g:Gh)(F:Hp):Gh:=⟨g.w,F++g.fr⟩
structure Own(g:Gh)(H:Hp)(w:World):Prop where
 os:w.os=g.w.os
 out:w.output=g.w.output
 tape:w.tape=g.w.tape
 nd:((H++g.fr).map Prod.fst).Nodup
 BN:∀x,x∈H++g.fr->w.heap[x.1]? =some x.2
variable{g:Gh}{H:Hp}{w:World}
def Own.has(h:Own g H w)(x:Nat×Obj)(hx:x∈H):w.heap[x.1]? =some x.2:=h.BN x (xad _ hx)
variable{H':Hp}
def Own.perm(h:Own g H w)(p:H.Perm H'):Own g H' w:=
 ⟨h.os,h.out,h.tape,((p.append_right _).map _).nodup_iff.1 h.nd,λx hx=>h.BN x ((p.append_right _).mem_iff.2 hx)⟩
variable{A B:Hp}
def Own.right(h:Own g (A++B) w):Own g B w:=
 ⟨h.os,h.out,h.tape,by have:=h.nd;rw[xag,xaz]at this;exact(xa3.1 this).2.1,λx hx=>h.BN x (by rw[xag];exact xaa _ hx)⟩
def Own.left{g:Gh}{A B:Hp}{w:World}(h:Own g (A++B) w):Own g A w:=Own.right (A:=B) (h.perm xbk)
def Own.tail{g:Gh}{x:Nat×Obj}{B:Hp}{w:World}(h:Own g (x::B) w):Own g B w:=Own.right (A:=[x]) h
def Own.fD{F:Hp}:Own g (A++F) w↔Own (g.add F) A w:=by
 constructor
 ·intro h;exact⟨h.os,h.out,h.tape,by have:=h.nd;rw[xag]at this;exact this,λx hx=>h.BN x (by rw[xag];exact hx)⟩
 intro h;exact⟨h.os,h.out,h.tape,by have:=h.nd;rw[xag];exact this,λx hx=>h.BN x (by rw[xag]at hx;exact hx)⟩
def aO(H H':Hp):Prop:=∀g w,Own g H w->Own g H' w
def aO.refl(H:Hp):aO H H:=λ_ _ h=>h
variable{C:Hp}
def aO.trans(h:aO A B)(h':aO B C):aO A C:=λg w x=>h' g w (h g w x)
def aO.perm(p:A.Perm B):aO A B:=λ_ _ h=>h.perm p
def aO.right:aO (A++B) B:=λ_ _ h=>h.right
def aO.left{A B:Hp}:aO (A++B) A:=λ_ _ h=>h.left
def aO.tail{x:Nat×Obj}{B:Hp}:aO (x::B) B:=λ_ _ h=>h.tail
def aO.frame(h:aO A B)(F:Hp):aO (A++F) (B++F):=λ_ _ o=>Own.fD.2 (h _ _ (Own.fD.1 o))
def aO.cv(h:aO A B)(F:Hp):aO (F++A) (F++B):=(aO.perm xbk).trans ((h.frame F).trans (.perm xbk))
inductive df(b:Nat)(o o':Obj):Hp->Hp->Prop
 |head (R:Hp):df b o o' ((b,o)::R) ((b,o')::R)
 |tail {x:Nat×Obj} {R R':Hp} (h:df b o o' R R'):df b o o' (x::R) (x::R')
variable{o o':Obj}
def df.mem{b:Nat}(h:df b o o' H H'):(b,o)∈H:=by
 induction h with
 |head R=>simp
 |tail _ ih=>simp[ih]
def df.keys{b:Nat}(h:df b o o' H H'):H'.map Prod.fst=H.map Prod.fst:=by
 induction h with
 |head R=>simp
 |tail _ ih=>simp[ih]
def df.NO{b:Nat}(h:df b o o' H H')(nd:(H.map Prod.fst).Nodup):∀x∈H',x=(b,o')\/(x∈H/\x.1≠b):=by
 induction h with
 |head R=>
  intro x hx;rcases xak.1 hx with rfl|hx
  ·exact .inl rfl
  refine .inr ⟨by simp[hx],λe=>?_⟩;simp only[xay,xaX]at nd;exact nd.1 (e▸xaT hx)
 | @tail y R R' h ih=>
  intro x hx;simp only[xay,xaX]at nd;rcases xak.1 hx with rfl|hx
  ·refine .inr ⟨by simp,λe=>?_⟩;exact nd.1 (e▸xaT (f:=Prod.fst) h.mem)
  rcases ih nd.2 x hx with h1|h1
  ·exact .inl h1
  exact .inr ⟨by simp[h1.1],h1.2⟩
def df.append{b:Nat}{C':Hp}(h:df b o o' C C')(B:Hp):df b o o' (C++B) (C'++B):=by
 induction h with
 |head R=>exact .head _
 |tail _ ih=>exact .tail ih
def Own.bt{w':World}{b:Nat}(h:Own g H w)(u:df b o o' H H')
 (hos:w'.os=w.os)(hout:w'.output=w.output)(SW:w'.tape=w.tape)
 (hb:w'.heap[b]? =some o')(hr:∀c,c≠b->w'.heap[c]? =w.heap[c]?):Own g H' w':=
 ⟨hos.trans h.os,hout.trans h.out,SW.trans h.tape,by rw[(u.append g.fr).keys];exact h.nd,λx hx=>by
  rcases(u.append g.fr).NO h.nd x hx with rfl|⟨h1,h2⟩
  ·exact hb
  rw[hr _ h2];exact h.BN x h1⟩
def Own.same{w':World}(h:Own g H w)(hos:w'.os=w.os)(hout:w'.output=w.output)(SW:w'.tape=w.tape)
 (hr:∀(c:Nat) (o:Obj),w.heap[c]? =some o->w'.heap[c]? =some o):Own g H w':=
 ⟨hos.trans h.os,hout.trans h.out,SW.trans h.tape,h.nd,λx hx=>hr _ _ (h.BN x hx)⟩
def Own.drew(h:Own g H w):Own g H w.drew:=h.same rfl rfl rfl λ_ _ h=>h
def Own.Ap(h:Own g H w):Own g H {w with drawn:=w.drawn+1}:=h.drew
variable{x:Nat×Obj}
def Own.lt0(h:Own g H w)(hx:x∈H++g.fr):x.1<w.heap.size:=by have:=h.BN x hx;exact(xaU.1 this).1
def Own.lt(h:Own g H w)(hx:x∈H):x.1<w.heap.size:=h.lt0 (xad _ hx)
def Own.Ua(h:Own g H w):w.heap.size∉(H++g.fr).map Prod.fst:=by intro hm;obtain⟨x,hx,e⟩:=xal.1 hm;have:=h.lt0 hx;omega
def Own.fresh(h:Own g H w):w.heap.size∉H.map Prod.fst:=λhm=>h.Ua (by rw[xaz];exact xad _ hm)
def Own.alloc(h:Own g H w)(o:Obj):Own g ((w.heap.size,o)::H) (w.alloc o):=by
 refine⟨h.os,h.out,h.tape,?_,?_⟩
 ·rw[xaS,xay,xaX];exact⟨h.Ua,h.nd⟩
 intro x hx;rw[xaS]at hx;rcases xak.1 hx with rfl|hx
 ·show(w.heap.push o)[w.heap.size]? =some o;rw[xdG,xae rfl]
 have:=h.BN x hx;have hl:=h.lt0 hx;show(w.heap.push o)[x.1]? =some x.2;rw[xdG,xac zO];exact this
variable{c:Array zV}{T:TypeId}{fz:Nat×Nat}
def Own.cell(h:Own g H w){b:Nat}(hm:(b,Obj.cells c T fz)∈H)(ο:Nat):
  w.cell? ⟨b,ο,none⟩=c[ο]? :=by have:=h.has _ hm;simp only[World.cell?];simp only at this;rw[this];rfl
def Own.frozen(h:Own g H w){b:Nat}(hm:(b,Obj.cells c T zZ)∈H)(ο:Nat)(sp:Option Nat):
  w.frozen? ⟨b,ο,sp⟩=false:=by have:=h.has _ hm;simp only at this;simp[World.frozen?,this]
def jo(c:Array zV)(ο:Nat):List zV->Array zV
 | []=>c
 |v::r=>jo (c.setIfInBounds ο v) (ο+1) r
def Own.setCell(h:Own g H w){b:Nat}(ο:Nat)(v:zV)
 (u:df b (.cells c T fz) (.cells (c.setIfInBounds ο v) T fz) H H'):Own g H' (w.setCell ⟨b,ο,none⟩ v):=by
 refine h.bt u rfl rfl rfl ?_ ?_
 ·have:=h.has _ u.mem;simp only at this;simp[World.setCell,xb6,this]
 intro d hd;simp only[World.setCell];rw[xb6,xac (λe=>hd (Eq.symm e))]
def df.re{b:Nat}(u:df b o o' H H')(o₁:Obj):∃H₁,df b o o₁ H H₁/\df b o₁ o' H₁ H':=by
 induction u with
 |head R=>exact⟨_,.head R,.head R⟩
 |tail _ ih=>obtain⟨H₁,u1,u2⟩:=ih;exact⟨_,.tail u1,.tail u2⟩
def eC{P:Program}{g:Gh}{b:Nat}{T:TypeId}(ο:Nat):∀(l:List zV) (i:Nat) (c:Array zV) (H H':Hp) (w:World),Own g H w->
  df b (.cells c T zZ) (.cells (jo c (ο+i) l) T zZ) H H'->(∀v∈l,v.oneCell'=true)->ο+i+l.length<=c.size->
  ∃w',(storeCells ⟨b,ο,none⟩ l i).run P w=.ok () w'/\Own g H' w'
 | [],i,c,H,H',w,h,u,_,_=>by
  refine⟨w,rfl,?_⟩;exact h.bt u rfl rfl rfl (h.has _ u.mem) λ_ _=>rfl
 |v::r,i,c,H,H',w,h,u,h1,hs=>by
  obtain⟨H₁,u1,u2⟩:=u.re (.cells (c.setIfInBounds (ο+i) v) T zZ);have jQ:=h.setCell (ο+i) v u1;simp only[xax]at hs;obtain⟨w',hr,ho⟩:=eC (P:=P) ο r (i+1) (c.setIfInBounds (ο+i) v) H₁ H' _ jQ (by simpa[jo,xcq]using u2) (λx hx=>h1 x (by simp[hx])) zP;refine⟨w',?_,ho⟩;have hc:w.cell? ⟨b,ο+i,none⟩=some c[ο+i]:=by
   rw[h.cell u.mem,xbD]
  have hf:=h.frozen u.mem (ο+i) none;have ha:Addr.add ⟨b,ο,none⟩ i=⟨b,ο+i,none⟩:=Addr.add_lit _ _ _;simp only[storeCells,Sem.run_bind,ha,run_store P w _ v .plain (h1 v zI),hc,hf,xaR,xa2,Result.andThen_ok,hr]
variable{P:Program}
def kV(h:Own g H w){b:Nat}(hm:(b,Obj.cells c T fz)∈H)
 (ο n:Nat)(hs:ο+n<=c.size):(loadCells ⟨b,ο,none⟩ n).run P w=.ok (c.extract ο (ο+n)) w:=by
 have hl:((c.extract ο (ο+n)).toList).length=n:=by simp;omega
 have:=run_loadCells_list (P:=P) w ⟨b,ο,none⟩ (c.extract ο (ο+n)).toList (λj v hj=>by
  rw[Addr.add_lit,h.cell hm];have VC:j<n:=by
   have:=(xah.1 hj).1;omega
  rw[xbd,xdl]at hj;rw[xae zO]at hj;exact hj)
 rw[hl]at this;exact this
abbrev Fr:=Nat->zV
def bt(fr:Fr)(d:Option Nat)(v:zV):Fr:=
 match d with
 |none=>fr
 |some d=>λs=>cond (Nat.beq s d) v (fr s)
def ev(fr:Fr):Operand->zV
 | .tmp t=>fr t
 | .const v=>v
 | .global g=>.pointer (some ⟨g,0,none⟩)
 | .func f=>.func (.func f) #[] #[]
def eO(n:Nat):Option Nat->Bool
 |none=>true
 |some d=>Nat.blt d n
structure cF(ds:List Deferred)(n:Nat)(a:Act)(fr:Fr):Prop where
 defers:a.defers=ds
 size:a.tmps.size=n
 get:∀s,a.tmps.getD s undef=fr s
variable{n:Nat}{fr:Fr}
def cF.eval{ds:List Deferred}{a:Act}(h:cF ds n a fr):a.eval=ev fr:=by
 funext x
 cases x<;>simp only[Act.eval,ev];exact h.get _
def cF.put{ds:List Deferred}{a:Act}(h:cF ds n a fr){d:Option Nat}(hd:eO n d=true)(v:zV):cF ds n (a.put d v) (bt fr d v):=by
 cases d with
 |none=>exact h
 |some d=>
  have η:d<n:=by simpa[eO,Nat.blt_eq]using hd
  refine⟨h.defers,by simp[Act.put,h.size],λs=>?_⟩;simp only[Act.put,bt];have hs:=h.size;by_cases e:s=d
  ·subst e;simp[hs,η]
  have e':d≠s:=λx=>e x.symm;have hb:Nat.beq s d=false:=by
   cases hh:Nat.beq s d
   ·rfl
   exact absurd (xaH hh) e
  rw[hb];simp only[xaj];have:=h.get s;simpa[xau,xbV e']using this
def bG(P:Program)(g:Gh)(f:FuncId)(args:Array zV)(H:Hp)(R:Ending->Hp->Prop):Prop:=
 ∀w,Own g H w->Calls P f args w λe w'=>∃H',Own g H' w'/\R e H'
variable{f:FuncId}{args:Array zV}{R:Ending->Hp->Prop}
def bG.mono{R':Ending->Hp->Prop}(h:bG P g f args H R)(hr:∀e H',R e H'->R' e H'):
  bG P g f args H R':=λw hw=>(h w hw).mono λe w' ⟨H',o,r⟩=>⟨H',o,hr _ _ r⟩
def bG.pre(h:bG P g f args H' R)(he:aO H H'):
  bG P g f args H R:=λw hw=>h w (he _ _ hw)
def bG.post{R':Ending->Hp->Prop}(h:bG P g f args H R)
 (hr:∀e H',R e H'->∃mS,aO H' mS/\R' e mS):bG P g f args H R':=λw hw=>(h w hw).mono λe w' ⟨H',o,r⟩=>
 let ⟨mS,en,r'⟩:=hr _ _ r;⟨mS,en _ _ o,r'⟩
def afu(K:zV->Hp->Prop)(KP:List PanicEntry->Hp->Prop):Ending->Hp->Prop
 | .returned v,H=>K v H
 | .panicked ch,H=>KP ch H
 | .outgrown,_=>False
def pw(P:Program)(g:Gh)(K:zV->Hp->Prop)(KP:List PanicEntry->Hp->Prop):Result Next->Prop
 | .ok (.value v) w=>∃H,Own g H w/\K v H
 | .ok .skip w=>∃H,Own g H w/\K undef H
 | .ok (.enter f args) w=>Calls P f args w λe w'=>∃H,Own g H w'/\afu K KP e H
 | .halt (.panic v) w=>∃H,Own g H w/\KP [{v,recovered:=false}] H
 |_=>False
def mR(P:Program)(g:Gh)(o:Oper)(ρ:Operand->zV)(H:Hp)(K:zV->Hp->Prop)(KP:List PanicEntry->Hp->Prop):Prop:=
 ∀w,Own g H w->pw P g K KP ((execOp ρ o).run P w)
def O7(H:Hp)(o:Obj)(k:Nat->Hp->Prop):Prop:=∀b,b∉H.map Prod.fst->k b ((b,o)::H)
def aG(c a b:zV)(k:zV->Prop):Prop:=∃t,c=.bool t/\k (cond t a b)
def Ld(H:Hp)(p:zV)(k:zV->Prop):Prop:=
 ∃b ο c T fz v,p=.pointer (some ⟨b,ο,none⟩)/\(b,Obj.cells c T fz)∈H/\c[ο]? =some v/\k v
def aB(n:Nat)(H:Hp)(p:zV)(k:zV->Prop):Prop:=
 ∃b ο c T fz,p=.pointer (some ⟨b,ο,none⟩)/\(b,Obj.cells c T fz)∈H/\ο+n<=c.size/\k (.agg (c.extract ο (ο+n)))
def St(n:Nat)(H:Hp)(p x:zV)(k:Hp->Prop):Prop:=
 ∃b ο c T H',p=.pointer (some ⟨b,ο,none⟩)/\x.cells.size=n/\ο+n<=c.size/\(∀v∈x.cells.toList,v.oneCell'=true)/\
  df b (.cells c T zZ) (.cells (jo c ο x.cells.toList) T zZ) H H'/\k H'
inductive BK|num|bool|γ|slice|map|func|str|other
def B7:TypeDesc->BK
 | .bool=>.bool
 | .int _=>.num
 | .pointer _=>.γ
 | .slice _=>.slice
 | .map _ _=>.map
 | .func _ _ _=>.func
 | .string=>.str
 |_=>.other
def ni(op:BinOp)(k:IntKind)(a b:Int):Option zV:=
 match op with
 | .add=>some (.int k (k.wrap (a+b)))
 | .sub=>some (.int k (k.wrap (a-b)))
 | .mul=>some (.int k (k.wrap (a*b)))
 | .quo=>if b=0 then none else some (.int k (k.wrap (a.tdiv b)))
 | .rem=>if b=0 then none else some (.int k (a.tmod b))
 | .and=>some (.int k (bits .and k a b))
 | .or=>some (.int k (bits .or k a b))
 | .xor=>some (.int k (bits .xor k a b))
 | .andNot=>some (.int k (bits .andNot k a b))
 | .eql=>some (.bool (a==b))
 | .neq=>some (.bool (a !=b))
 | .lss=>some (.bool (decide (a<b)))
 | .leq=>some (.bool (decide (a<=b)))
 | .gtr=>some (.bool (decide (b<a)))
 | .geq=>some (.bool (decide (b<=a)))
 |_=>none
def iq(kd:BK)(op:BinOp)(x y:zV):Option zV:=
 match x with
 | .int k a=>
  match y with
  | .int k' b=>
   match op with
   | .shl=>if b<0 then none else some (.int k (k.wrap (a*2^(min b.toNat k.bits))))
   | .shr=>if b<0 then none else some (.int k (a.fdiv (2^(min b.toNat k.bits))))
   |op=>if k=k' then ni op k a b else none
  |_=>none
 | .bool a=>
  match kd,op,y with
  | .bool,.eql,.bool b=>some (.bool (a==b))
  | .bool,.neq,.bool b=>some (.bool (!(a==b)))
  |_,_,_=>none
 | .string a=>
  match op,y with
  | .eql,.string b=>some (.bool (a.toList==b.toList))
  | .neq,.string b=>some (.bool (!(a.toList==b.toList)))
  |_,_=>none
 | .pointer a=>
  match kd,op,y with
  | .γ,.eql,.pointer b=>if a.isNone\/b.isNone then some (.bool (a.isNone&&b.isNone))else none
  | .γ,.neq,.pointer b=>if a.isNone\/b.isNone then some (.bool (!(a.isNone&&b.isNone)))else none
  |_,_,_=>none
 | .slice a n c=>
  match kd,op,y with
  | .slice,.eql,.slice b _ _=>if a.isNone\/b.isNone then some (.bool (a.isNone&&b.isNone))else none
  | .slice,.neq,.slice b _ _=>if a.isNone\/b.isNone then some (.bool (!(a.isNone&&b.isNone)))else none
  |_,_,_=>none
 | .map a=>
  match kd,op,y with
  | .map,.eql,.map b=>if a.isNone\/b.isNone then some (.bool (a.isNone&&b.isNone))else none
  | .map,.neq,.map b=>if a.isNone\/b.isNone then some (.bool (!(a.isNone&&b.isNone)))else none
  |_,_,_=>none
 |_=>none
def ah(kd:BK)(op:BinOp)(x y:zV)(k:zV->Prop):Prop:=∃v,iq kd op x y=some v/\k v
def unV(op:UnOp)(x:zV):Option zV:=
 match op,x with
 | .neg,.int k n=>some (.int k (k.wrap (0-n)))
 | .not,.bool b=>some (.bool !b)
 | .xor,.int k n=>some (.int k (bits .xor k (if k.signed then-1 else k.max) n))
 |_,_=>none
def Un(op:UnOp)(x:zV)(k:zV->Prop):Prop:=∃v,unV op x=some v/\k v
def bu(kd:IntKind)(x:zV)(k:zV->Prop):Prop:=∃j n,x=.int j n/\k (.int kd (kd.wrap n))
def aj(ο:Nat)(x:zV)(k:zV->Prop):Prop:=∃b o,x=.pointer (some ⟨b,o,none⟩)/\k (.pointer (some ⟨b,o+ο,none⟩))
def CY(ο:Nat)(x:zV)(k:zV->Prop):Prop:=∃cs v,x=.agg cs/\cs[ο]? =some v/\k v
def Yy(ο n:Nat)(x:zV)(k:zV->Prop):Prop:=∃cs,x=.agg cs/\k (.agg (cs.extract ο (ο+n)))
def ay(size:Nat)(x ix:zV)(k:zV->Prop):Prop:=
 ∃b o n c kd i,x=.slice (some ⟨b,o,none⟩) n c/\ix=.int kd i/\0<=i/\i<(n:Int)/\k (.pointer (some ⟨b,o+i.toNat*size,none⟩))
def jl(len size:Nat)(x ix:zV)(k:zV->Prop):Prop:=
 ∃b o kd i,x=.pointer (some ⟨b,o,none⟩)/\ix=.int kd i/\0<=i/\i<(len:Int)/\k (.pointer (some ⟨b,o+i.toNat*size,none⟩))
def W5:Option zV->Option Int
 |none=>some 0
 |some (.int _ n)=>some n
 |_=>none
def Oi(len:Nat):Option zV->Option Int
 |none=>some len
 |some (.int _ n)=>some n
 |_=>none
def gD(size:Nat)(x:zV)(lo hi:Option zV)(k:zV->Prop):Prop:=
 ∃a n c l h,x=.slice a n c/\W5 lo=some l/\Oi n hi=some h/\0<=l/\l<=h/\h<=(c:Int)/\
  k (.slice (if c=l.toNat then a else a.map (·.add (l.toNat*size))) (h.toNat-l.toNat) (c-l.toNat))
def Ext(i:Nat)(x:zV)(k:zV->Prop):Prop:=∃vs v,x=.tuple vs/\vs[i]? =some v/\k v
def aP(x:zV)(k:zV->Prop):Prop:=∃a n c,x=.slice a n c/\k (.int .i64 n)
def Cj(H:Hp)(x:zV)(k:zV->Prop):Prop:=
 ∃m,x=.map m/\((m=none/\k (.int .i64 0))\/∃b es clock,m=some b/\(b,Obj.map es clock)∈H/\k (.int .i64 es.size))
def Cells(H:Hp)(base:Option Addr)(n:Nat)(cs:Array zV):Prop:=
 match base with
 |none=>cs=#[]
 |some a=>(n=0/\cs=#[])\/(a.spot=none/\∃c T fz,(a.block,Obj.cells c T fz)∈H/\a.off+n<=c.size/\cs=c.extract a.off (a.off+n))
def App(P:Program)(elem size bytes:Nat)(zero:zV)(H:Hp)(s x:zV)(k:zV->Hp->Prop):Prop:=
 ∃base n cap xb m xc olds news,s=.slice base n cap/\x=.slice xb m xc/\Cells H base (n*size) olds/\Cells H xb (m*size) news/\
  news.size=m*size/\olds.size=n*size/\(∀v∈news.toList,v.oneCell'=true)/\
  (n+m<=cap->match base with
   |none=>k (.slice none (n+m) cap) H
   |some a=>∃c T H',a.spot=none/\a.off+n*size+m*size<=c.size/\df a.block (.cells c T zZ) (.cells (jo c (a.off+n*size) news.toList) T zZ) H H'/\k (.slice (some a) (n+m) cap) H')/\
  (cap<n+m->(n+m)*bytes<=140737488355328/\(n+m:Nat)<=9223372036854775807/\∀eE,n+m<=eE->
   O7 H (.cells (olds++news++Builtin.zeroCells zero.cells (eE-(n+m))) elem zZ) λb H'=>∃mS,aO H' mS/\k (.slice (some ⟨b,0,none⟩) (n+m) eE) mS)
def cJ(elem size bytes:Nat)(zero:zV)(H:Hp)(l c:zV)(k:zV->Hp->Prop):Prop:=
 ∃kl kc ln cn,l=.int kl (ln:Nat)/\c=.int kc (cn:Nat)/\ln<=cn/\(cn:Int)<=9223372036854775807/\cn*bytes<=281474976710656/\
  O7 H (.cells (madeCells zero.cells (cn*size)) elem zZ) λb H'=>k (.slice (some ⟨b,0,none⟩) ln cn) H'
def gO(H:Hp)(k:zV->Hp->Prop):Prop:=O7 H (.map #[] 0) λb H'=>k (.map (some b)) H'
def Mw(H:Hp)(m:zV)(es:Array MapEntry):Prop:=(m=.map none/\es=#[])\/∃b clock,m=.map (some b)/\(b,Obj.map es clock)∈H
def dg(kd:TypeDesc)(zero:zV)(ok:Bool)(H:Hp)(m key:zV)(k:zV->Prop):Prop:=
 ∃es r,Mw H m es/\Instr.findNow kd key es.toList 0=some r/\
  k (match r with
   |some (_,v)=>cond ok (.tuple #[v,.bool true]) v
   |none=>cond ok (.tuple #[zero,.bool false]) zero)
def aY(kd:TypeDesc)(H:Hp)(m key val:zV)(k:Hp->Prop):Prop:=
 ∃b es clock r,m=.map (some b)/\Instr.findNow kd key es.toList 0=some r/\
  match r with
  |some (i,_)=>(∀e,es[i]? =some e->Instr.sameBits 10000 e.key key=true)/\i<es.size/\∃H',df b (.map es clock) (.map (es.modify i λe=>{e with key,val}) clock) H H'/\k H'
  |none=>∃H',df b (.map es clock) (.map (es.push {key,val,born:=clock}) (clock+1)) H H'/\k H'
def po(kd:TypeDesc)(H:Hp)(m key:zV)(k:Hp->Prop):Prop:=
 (m=.map none/\k H)\/∃b es clock r,m=.map (some b)/\Instr.findNow kd key es.toList 0=some r/\
  match r with
  |some (i,_)=>∃H',df b (.map es clock) (.map (es.eraseIdxIfInBounds i) clock) H H'/\k H'
  |none=>(b,Obj.map es clock)∈H/\k H
def aW(P:Program)(f:FuncId):Bool:=
 match P.funcs[f]? with
 |none=>false
 |some fn=> !(fn.name== "runtime.NumGoroutine") &&fn.body.isSome
def ae(P:Program)(g:Gh)(f:FuncId)(args:Array zV)(H:Hp)(K:zV->Hp->Prop)(KP:List PanicEntry->Hp->Prop):Prop:=
 bG P g f args H (afu K KP)
def aM(P:Program)(g:Gh)(fv:zV)(args:Array zV)(H:Hp)(K:zV->Hp->Prop)(KP:List PanicEntry->Hp->Prop):Prop:=
 ∃f first captured,fv=.func (.func f) first captured/\aW P f=true/\ae P g f (first++args++captured) H K KP
def Cn(P:Program)(kt:TypeId)(x y:zV)(b:Bool):Prop:=∀w,(Op.equal kt x y).run P w=.ok b w
def mO(P:Program)(kt:TypeId)(x:zV):Prop:=∀e w,(Instr.checkKey e 10000 kt x).run P w=.ok () w
def nO(P:Program)(kt:TypeId)(key:zV):List MapEntry->Nat->Option (Nat×zV)->Prop
 | [],_,r=>r=none
 |e::es,i,r=>∃b,Cn P kt key e.key b/\(b=true->r=some (i,e.val))/\(b=false->nO P kt key es (i+1) r)
def kG(P:Program)(kt:TypeId)(zero:zV)(ok:Bool)(H:Hp)(m key:zV)(k:zV->Prop):Prop:=
 ∃es r,Mw H m es/\mO P kt key/\nO P kt key es.toList 0 r/\
  k (match r with
   |some (_,v)=>cond ok (.tuple #[v,.bool true]) v
   |none=>cond ok (.tuple #[zero,.bool false]) zero)
def iV(P:Program)(kt:TypeId)(H:Hp)(m key val:zV)(k:Hp->Prop):Prop:=
 ∃b es clock r,m=.map (some b)/\mO P kt key/\nO P kt key es.toList 0 r/\
  match r with
  |some (i,_)=>(∀e,es[i]? =some e->Instr.sameBits 10000 e.key key=true)/\i<es.size/\∃H',df b (.map es clock) (.map (es.modify i λe=>{e with key,val}) clock) H H'/\k H'
  |none=>∃H',df b (.map es clock) (.map (es.push {key,val,born:=clock}) (clock+1)) H H'/\k H'
def sL(P:Program)(kt:TypeId)(H:Hp)(m key:zV)(k:Hp->Prop):Prop:=
 mO P kt key/\((m=.map none/\k H)\/∃b es clock r,m=.map (some b)/\nO P kt key es.toList 0 r/\
  match r with
  |some (i,_)=>∃H',df b (.map es clock) (.map (es.eraseIdxIfInBounds i) clock) H H'/\k H'
  |none=>(b,Obj.map es clock)∈H/\k H)
def Rng(H:Hp)(x:zV)(k:zV->Hp->Prop):Prop:=
 (x=.map none/\O7 H (.mapIter none 0 #[] 0) λb H'=>k (.pointer (some ⟨b,0,none⟩)) H')\/
 ∃m es clock,x=.map (some m)/\(m,Obj.map es clock)∈H/\O7 H (.mapIter (some m) clock #[] clock) λb H'=>k (.pointer (some ⟨b,0,none⟩)) H'
def ZD(H:Hp)(it:zV)(k:zV->Hp->Prop):Prop:=
 ∃b mo since seen last,it=.pointer (some ⟨b,0,none⟩)/\(b,Obj.mapIter mo since seen last)∈H/\
  match mo with
  |none=>k (.tuple #[.bool false]) H
  |some m=>∃es clock,(m,Obj.map es clock)∈H/\(∀e∈es.toList,e.born<since/\e.born<last)/\
   (∀e∈es.toList,e.born∉seen->∃H',df b (.mapIter (some m) since seen last) (.mapIter (some m) since (seen.push e.born) clock) H H'/\k (.tuple #[.bool true,e.key,e.val]) H')/\
   ((∀e∈es.toList,e.born∈seen)->k (.tuple #[.bool false]) H)
def KJ(H:Hp)(it:zV)(k:zV->Prop):Prop:=
 ∃b m since seen stamp clock es e,it=.pointer (some ⟨b,0,none⟩)/\(b,Obj.mapIter (some m) since seen clock)∈H/\seen.back?=some stamp/\(m,Obj.map es clock)∈H/\es.find? (·.born==stamp)=some e/\k (.tuple #[e.key,e.val])
def Yw(x y:zV)(k:zV->Prop):Prop:=∃kd a b,x=.int kd a/\y=.int kd b/\k (.int kd (if b>a then b else a))
def abN(x y:zV)(k:zV->Prop):Prop:=∃kd a b,x=.int kd a/\y=.int kd b/\k (.int kd (if b<a then b else a))
def lT(H:Hp)(x:zV)(k:zV->Prop):Prop:=
 ∃base n c,∃bs:List UInt8,x=.slice base n c/\Cells H base n ((bs.map λb=>Value.int .u8 b.toNat).toArray)/\bs.length=n/\k (.string ⟨bs.toArray⟩)
def ZC(x i:zV)(k:zV->Prop):Prop:=∃s kd j b,x=.string s/\i=.int kd j/\0<=j/\s[j.toNat]? =some b/\k (.int .u8 b.toNat)
def abO(x:zV)(k:zV->Prop):Prop:=∃s,x=.string s/\k (.int .i64 s.size)
def plainKey:TypeDesc->Bool
 | .int _| .string| .bool=>true
 |_=>false
def cV:TypeDesc->Bool
 | .struct _| .array _ _=>true
 |_=>false
variable{P:Program}{g:Gh}{H:Hp}{K:zV->Hp->Prop}{KP:List PanicEntry->Hp->Prop}
section
variable{t:TypeId}{i:TypeInfo}
def dY{z:zV}(hi:P.info? t=some i)(hz:i.zero=some z)(w:World):(zeroValue t).run P w=.ok z w:=by simp[zeroValue,typeInfo,hi,hz]
variable{d:TypeDesc}
def pE(hd:P.underlying t=some d)(w:World):(isAgg t).run P w=.ok (cV d) w:=by simp only[isAgg,Sem.run_bind,run_underlying hd,Result.andThen_ok];cases d<;>rfl
def run_sizeOf(hi:P.info? t=some i)(w:World):(sizeOf t).run P w=.ok i.size w:=by simp[sizeOf,typeInfo,hi]
variable{k:zV->Prop}
def Ld.run{p:zV}(h:Ld H p k)(hw:Own g H w)(hd:P.underlying t=some d)(ha:cV d=false):
  ∃v,(Instr.loadAt t p).run P w=.ok v w/\k v:=by obtain⟨b,ο,c,T,fz,v,rfl,hm,hc,hk⟩:=h;refine⟨v,?_,hk⟩;have:=hw.cell hm ο;rw[hc]at this;simp only[Instr.loadAt,Instr.sureAddr,loadVar,Sem.run_bind,Sem.run_pure,Result.andThen_ok,pE hd,ha,Sem.run_ite,xaR,xa2,run_load,this]
def aB.run{p:zV}(h:aB n H p k)(hw:Own g H w)(hd:P.underlying t=some d)(ha:cV d=true)
 (hi:P.info? t=some i)(hn:i.size=n):
  ∃v,(Instr.loadAt t p).run P w=.ok v w/\k v:=by obtain⟨b,ο,c,T,fz,rfl,hm,hs,hk⟩:=h;refine⟨_,?_,hk⟩;simp only[Instr.loadAt,Instr.sureAddr,loadVar,Sem.run_bind,Sem.run_pure,Result.andThen_ok,pE hd,ha,Sem.run_ite,xa5,run_sizeOf hi,hn,kV hw hm ο n hs]
def St.run{p x:zV}{k:Hp->Prop}(h:St n H p x k)(hw:Own g H w)(hi:P.info? t=some i)(hn:i.size=n):
  ∃w' H',(Instr.storeAt t p x).run P w=.ok () w'/\Own g H' w'/\k H':=by obtain⟨b,ο,c,T,H',rfl,hx,hs,hv,hu,hk⟩:=h;obtain⟨w',hr,ho⟩:=eC (P:=P) ο x.cells.toList 0 c H H' w hw (by simpa using hu) hv zP;refine⟨w',H',?_,ho,hk⟩;simp only[Instr.storeAt,Instr.sureAddr,storeVar,Sem.run_bind,Sem.run_pure,Result.andThen_ok,run_sizeOf hi,hn,hx,ne_eq,not_true,xa2,hr]
def SI{op:BinOp}{k:IntKind}{a b:Int}{v:zV}{t:TypeId}(h:ni op k a b=some v)(w:World)(hs:op≠.shl/\op≠.shr):
  (binOp op t (.int k a) (.int k b)).run P w=.ok v w:=by
 cases op<;>simp[ni]at h hs<;>try subst h
 case quo=> 
  obtain⟨h0,rfl⟩:=h;simp[binOp,Op.intDiv,h0]
 case rem=>
  obtain⟨h0,rfl⟩:=h;simp[binOp,Op.intDiv,h0]
 all_goals first
  |simp[binOp,Op.intArith];done
  |simp[binOp,Op.intCmp];done
  |(simp only[binOp_and,binOp_or,binOp_xor,binOp_andNot,intBits_and,intBits_or,intBits_xor,intBits_andNot];rfl)
variable{y:zV}
def jN{x:zV}{r:Result Bool}(h:∀d,(Op.equalIn (d+1) t x y).run P w=r):(Op.equal t x y).run P w=r:=h 9999
def run_eql_bool(hd:P.underlying t=some .bool)(a b:Bool)(w:World):(Op.equal t (.bool a) (.bool b)).run P w=.ok (a==b) w:=
 jN λd=>by simp[Op.equalIn,run_underlying hd]
variable{e:TypeId}
def Dz(hd:P.underlying t=some (.pointer e))(a b:Option Addr)(hab:a.isNone\/b.isNone)(w:World):(Op.equal t (.pointer a) (.pointer b)).run P w=.ok (a.isNone&&b.isNone) w:=
 jN λd=>by cases a<;>cases b<;>simp at hab<;>simp[Op.equalIn,run_underlying hd]
def yu(hd:P.underlying t=some (.slice e))(a b:Option Addr)(n c n' c':Nat)(hab:a.isNone\/b.isNone)(w:World):(Op.equal t (.slice a n c) (.slice b n' c')).run P w=.ok (a.isNone&&b.isNone) w:=
 jN λd=>by cases a<;>cases b<;>simp at hab<;>simp[Op.equalIn,run_underlying hd]
def DA{f:TypeId}(hd:P.underlying t=some (.map e f))(a b:Option Nat)(hab:a.isNone\/b.isNone)(w:World):(Op.equal t (.map a) (.map b)).run P w=.ok (a.isNone&&b.isNone) w:=
 jN λd=>by cases a<;>cases b<;>simp at hab<;>simp[Op.equalIn,run_underlying hd]
def UL{kd:BK}{op:BinOp}{x v:zV}(hd:P.underlying t=some d)(hk:B7 d=kd)(h:iq kd op x y=some v)(w:World):
  (binOp op t x y).run P w=.ok v w:=by
 cases x<;>simp only[iq]at h<;>try (simp at h;done)
 case int k a=>
  cases y<;>simp only at h<;>try (simp at h;done)
  rename_i k' b;by_cases hs:op=.shl
  ·subst hs;simp only at h;split at h
   ·simp at h
   simp only[xat]at h;subst h;rename_i hb;simp[binOp,Op.shift,hb]
  by_cases μ:op=.shr
  ·subst μ;simp only at h;split at h
   ·simp at h
   simp only[xat]at h;subst h;rename_i hb;simp[binOp,Op.shift,hb]
  have h2:(if k=k' then ni op k a b else none)=some v:=by
   cases op<;>first|exact h|exact absurd rfl hs|exact absurd rfl μ
  split at h2
  ·rename_i e;subst e;exact SI h2 w ⟨hs,μ⟩
  simp at h2
 case bool a=>
  split at h<;>simp only[xat,reduceCtorEq]at h;all_goals
   subst h;have:d=.bool:=by cases d<;>simp_all[B7]
   subst this;simp[binOp,run_eql_bool hd]
 case string a=>
  split at h<;>simp only[xat,reduceCtorEq]at h;all_goals
   subst h;first|rfl|(simp only[binOp,Op.stringOp];rfl)
 case pointer a=>
  split at h<;>try (simp at h;done)
  all_goals
   have:∃e,d=.pointer e:=by cases d<;>simp_all[B7]
   obtain⟨e,rfl⟩:=this;split at h<;>simp only[xat,reduceCtorEq]at h;subst h;rename_i bb hab;simp[binOp,Dz hd _ _ hab]
 case slice a n c=>
  split at h<;>try (simp at h;done)
  all_goals
   have:∃e,d=.slice e:=by cases d<;>simp_all[B7]
   obtain⟨e,rfl⟩:=this;split at h<;>simp only[xat,reduceCtorEq]at h;subst h;rename_i bb _ _ hab;simp[binOp,yu hd _ _ _ _ _ _ hab]
 case map a=>
  split at h<;>try (simp at h;done)
  all_goals
   have:∃e f,d=.map e f:=by cases d<;>simp_all[B7]
   obtain⟨e,f,rfl⟩:=this;split at h<;>simp only[xat,reduceCtorEq]at h;subst h;rename_i bb hab;simp[binOp,DA hd _ _ hab]
def HA{kd:BK}{op:BinOp}{x v:zV}{ox oy:Operand}(h:iq kd op x y=some v):eqGuard op t ox oy x y=pure ():=by cases x<;>simp[iq]at h<;>cases op<;>rfl
def ah.run{kd:BK}{op:BinOp}{x:zV}(h:ah kd op x y k)(w:World){ox oy:Operand}(hd:P.underlying t=some d)(hk:B7 d=kd):
  ∃v,(do eqGuard op t ox oy x y;binOp op t x y:Sem zV).run P w=.ok v w/\k v:=by obtain⟨v,hv,hkv⟩:=h;refine⟨v,?_,hkv⟩;rw[Sem.run_bind,HA hv];simp only[Sem.run_pure,Result.andThen_ok];exact UL hd hk hv w
def Un.run{op:UnOp}{x:zV}(h:Un op x k)(w:World):∃v,(Op.unary op x).run P w=.ok v w/\k v:=by obtain⟨v,hv,hk⟩:=h;refine⟨v,?_,hk⟩;cases op<;>cases x<;>simp[unV]at hv<;>subst hv;all_goals first|(simp[Op.unary,Op.intArith];done)|rfl
def bu.run{kd:IntKind}{x:zV}(h:bu kd x k)(w:World){src dst:TypeId}{ds dd:TypeDesc}(hs:P.underlying src=some ds)(hd:P.underlying dst=some dd)(hk:dd=.int kd):
  ∃v,(convert src dst x).run P w=.ok v w/\k v:=by obtain⟨j,n,rfl,hkv⟩:=h;subst hk;refine⟨_,?_,hkv⟩;simp only[convert,Sem.run_bind,run_underlying hs,run_underlying hd,Result.andThen_ok];cases ds<;>rfl
variable{fs:Array Field}
def aj.run{ο:Nat}{x:zV}(h:aj ο x k)(w:World){s:TypeId}{f:Nat}{fl:Field}(hs:P.underlying s=some (.struct fs))(hf:fs[f]? =some fl)
 (hi:P.info? fl.type=some i)(h0:i.size≠0)(ho:fl.offset=ο):∃v,(Instr.fieldAt s x f).run P w=.ok v w/\k v:=by obtain⟨b,o,rfl,hk⟩:=h;refine⟨_,?_,hk⟩;subst ho;simp[Instr.fieldAt,run_underlying hs,hf,Instr.sureAddr,fieldPlace,run_sizeOf hi,h0,Addr.add_lit]
def CY.run{ο:Nat}{x:zV}(h:CY ο x k)(w:World){s:TypeId}{f:Nat}{fl:Field}(hs:P.underlying s=some (.struct fs))(hf:fs[f]? =some fl)
 (hd:P.underlying fl.type=some d)(ha:cV d=false)(ho:fl.offset=ο):∃v,(Instr.field s x f).run P w=.ok v w/\k v:=by obtain⟨cs,v,rfl,hc,hk⟩:=h;refine⟨v,?_,hk⟩;subst ho;simp[Instr.field,run_underlying hs,hf,asAgg,part,pE hd,ha,hc]
def Yy.run{ο:Nat}{x:zV}(h:Yy ο n x k)(w:World){s:TypeId}{f:Nat}{fl:Field}(hs:P.underlying s=some (.struct fs))(hf:fs[f]? =some fl)
 (hd:P.underlying fl.type=some d)(ha:cV d=true)(hi:P.info? fl.type=some i)(hn:i.size=n)(ho:fl.offset=ο):∃v,(Instr.field s x f).run P w=.ok v w/\k v:=by obtain⟨cs,rfl,hk⟩:=h;refine⟨_,?_,hk⟩;subst ho;subst hn;simp[Instr.field,run_underlying hs,hf,asAgg,part,pE hd,ha,run_sizeOf hi]
def ay.run{size:Nat}{x ix:zV}(h:ay size x ix k)(w:World)(ht:P.underlying t=some (.slice e))(hi:P.info? e=some i)(hn:i.size=size):
  ∃v,(Instr.indexAt t x ix).run P w=.ok v w/\k v:=by obtain⟨b,o,n,c,kd,j,rfl,rfl,h0,h1,hk⟩:=h;refine⟨_,?_,hk⟩;subst hn;simp[Instr.indexAt,run_underlying ht,asIntOf,h0,h1,run_sizeOf hi,Addr.add_lit]
def jl.run{len size:Nat}{x ix:zV}(h:jl len size x ix k)(w:World)(ht:P.underlying t=some (.array len e))(hi:P.info? e=some i)(hn:i.size=size):
  ∃v,(Instr.indexAt t x ix).run P w=.ok v w/\k v:=by obtain⟨b,o,kd,j,rfl,rfl,h0,h1,hk⟩:=h;refine⟨_,?_,hk⟩;subst hn;simp[Instr.indexAt,run_underlying ht,asIntOf,h0,h1,run_sizeOf hi,Addr.add_lit,Instr.sureAddr]
def gD.run{size:Nat}{x:zV}{lo hi:Option zV}{k:zV->Prop}(h:gD size x lo hi k)(w:World){t e:TypeId}{i:TypeInfo}(ht:P.underlying t=some (.slice e))(hi':P.info? e=some i)(hn:i.size=size):
  ∃v,(Instr.sliceAt t x lo hi none).run P w=.ok v w/\k v:=by
 obtain⟨a,n,c,l,hh,rfl,hl,p6,h0,h1,h2,hk⟩:=h;refine⟨_,?_,hk⟩;subst hn;have bl:∀(kk:IntKind) (z:Int) (y:Nat) (cd:BoundsCode),0<=z->z<=y->(Instr.sliceBound (.int kk z) y cd).run P w=.ok z.toNat w:=by
  intro kk z y cd a1 a2;simp[Instr.sliceBound,asIntOf,a1,a2]
 have fX:∀(m l:Nat),(if m=l then a else a.map (·.add (l*i.size)))=(if m=l then a else a.map λx=>x.add (l*i.size)):=λ_ _=>rfl;have e1:l<=((hh.toNat:Nat):Int):=by omega
 cases lo with
 |none=>
  simp only[W5,xat]at hl;subst hl;cases hi with
  |none=>
   simp only[Oi,xat]at p6;subst p6;simp[Instr.sliceAt,run_underlying ht,Instr.slice,Instr.sliceBounds,run_sizeOf hi']
  |some v=>
   cases v<;>simp only[Oi,reduceCtorEq,xat]at p6;subst p6;simp[Instr.sliceAt,run_underlying ht,Instr.slice,Instr.sliceBounds,run_sizeOf hi',bl _ _ c .sliceAcap zO h2]
 |some vl=>
  cases vl<;>simp only[W5,reduceCtorEq,xat]at hl;subst hl;cases hi with
  |none=>
   simp only[Oi,xat]at p6;subst p6;have:=bl ‹_› _ n .sliceB h0 h1;simp[Instr.sliceAt,run_underlying ht,Instr.slice,Instr.sliceBounds,run_sizeOf hi',this]
  |some v=>
   cases v<;>simp only[Oi,reduceCtorEq,xat]at p6;subst p6;rename_i k1 n1 k2 n2;have b1:=bl k2 n2 c .sliceAcap zO h2;have b2:=bl k1 n1 n2.toNat .sliceB h0 zO;simp[Instr.sliceAt,run_underlying ht,Instr.slice,Instr.sliceBounds,run_sizeOf hi',b1,b2]
def Ext.run{i:Nat}{x:zV}(h:Ext i x k)(w:World):∃v,(Instr.extract x i).run P w=.ok v w/\k v:=by obtain⟨vs,v,rfl,hv,hk⟩:=h;exact⟨v,by simp[Instr.extract,hv],hk⟩
def aP.run{x:zV}(h:aP x k)(w:World){ty:TypeId}(ht:P.underlying t=some (.slice e)):∃v,(Builtin.len_ #[t] ty #[x]).run P w=.ok v w/\k v:=by obtain⟨a,n,c,rfl,hk⟩:=h;exact⟨_,by simp[Builtin.len_,run_underlying ht,goInt],hk⟩
def bc(hw:Own g H w){b:Nat}{es:Array MapEntry}{clock:Nat}(hm:(b,Obj.map es clock)∈H):(getObj b).run P w=.ok (.map es clock) w:=by have:=hw.has _ hm;simp only at this;simp[getObj,Sem.run,this]
def Cj.run{x:zV}(h:Cj H x k)(hw:Own g H w){e' ty:TypeId}(ht:P.underlying t=some (.map e e')):∃v,(Builtin.len_ #[t] ty #[x]).run P w=.ok v w/\k v:=by
 obtain⟨m,rfl,⟨rfl,hk⟩|⟨b,es,clock,rfl,hm,hk⟩⟩:=h
 ·exact⟨_,by simp[Builtin.len_,run_underlying ht,goInt],hk⟩
 exact⟨_,by simp[Builtin.len_,run_underlying ht,goInt,bc hw hm],hk⟩
end
section
def Cells.run(hw:Own g H w){base:Option Addr}{size cap:Nat}{cs:Array zV}(h:Cells H base (n*size) cs):
  (Builtin.firstCells size n (.slice base n cap)).run P w=.ok cs w:=by
 cases base with
 |none=>simp only[Cells]at h;subst h;simp[Builtin.firstCells]
 |some a=>
  rcases h with⟨hn,rfl⟩|⟨h0,c,T,fz,hm,hs,rfl⟩
  ·simp only[Builtin.firstCells,hn];rfl
  obtain⟨b,o,sp⟩:=a;simp only at h0 hm hs;subst h0;simp only[Builtin.firstCells,kV hw hm _ _ hs]
def App.run{elem size bytes:Nat}{zero:zV}{s x:zV}{k:zV->Hp->Prop}(h:App P elem size bytes zero H s x k){w:World}(hw:Own g H w){t t' ty:TypeId}{i:TypeInfo}
 (ht:P.underlying t=some (.slice elem))(ht':∃e,P.underlying t'=some (.slice e))(hi:P.info? elem=some i)(hz:i.zero=some zero)(hn:i.size=size)(hb:i.bytes=bytes):
  ∃v w' H',(Builtin.append_ #[t,t'] ty #[s,x]).run P w=.ok v w'/\Own g H' w'/\k v H':=by
 obtain⟨base,n,cap,xb,m,xc,olds,news,rfl,rfl,hco,hcn,Xr,hso,hone,hfit,hgrow⟩:=h;obtain⟨e',ht'⟩:=ht';subst hn;subst hb;by_cases hc:n+m<=cap
 ·have hk:=hfit hc;have hnew:=Cells.run (P:=P) (cap:=xc) hw hcn;cases base with
  |none=>
   refine⟨_,w,H,?_,hw,hk⟩;simp[Builtin.append_,run_underlying ht,run_underlying ht',run_sizeOf hi,Builtin.lenOf,hc,hnew]
  |some a=>
   obtain⟨c,T,H',h0,hs,hu,hk⟩:=hk;obtain⟨b,o,sp⟩:=a;simp only at h0 hu hs;subst h0;obtain⟨w',hr,ho⟩:=eC (P:=P) (o+n*i.size) news.toList 0 c H H' w hw (by simpa using hu) hone zP;refine⟨_,w',H',?_,ho,hk⟩;simp[Builtin.append_,run_underlying ht,run_underlying ht',run_sizeOf hi,Builtin.lenOf,hc,hnew,Addr.add_lit,hr]
 obtain⟨aik,h63,hk⟩:=hgrow zO;have jQ:=hw.drew;have hnew:=Cells.run (P:=P) (cap:=xc) jQ hcn;have hold:=Cells.run (P:=P) (cap:=cap) jQ hco;have Ed:Builtin.nextslicecap (n+m) cap*i.bytes<=281474976710656:=growslice_fits zO aik;have XV:¬(281474976710656<Builtin.nextslicecap (n+m) cap*i.bytes):=by omega
 have aiW:¬(9223372036854775807<((n:Int)+(m:Int))):=by omega
 obtain⟨mS,wV,hkk⟩:=hk (grownCap w (n+m) cap elem) (by simp only[grownCap,Question.cut];omega) _ jQ.fresh;refine⟨_,_,_,?_,wV _ _ (jQ.alloc _),hkk⟩;simp[Builtin.append_,run_underlying ht,run_underlying ht',sizeOf,typeInfo,zeroValue,hi,hz,Builtin.lenOf,hc,aiW,XV,Question.forced,hnew,hold,newRow,grownCap]
variable{k:zV->Hp->Prop}{t:TypeId}
def cJ.run{elem size bytes:Nat}{zero:zV}{l c:zV}(h:cJ elem size bytes zero H l c k)(hw:Own g H w){i:TypeInfo}
 (ht:P.underlying t=some (.slice elem))(hi:P.info? elem=some i)(hz:i.zero=some zero)(hn:i.size=size)(hb:i.bytes=bytes):
  ∃v w' H',(Instr.makeSlice t l c).run P w=.ok v w'/\Own g H' w'/\k v H':=by
 obtain⟨kl,kc,ln,cn,rfl,rfl,hlc,cB,hby,hk⟩:=h;subst hn;subst hb;refine⟨_,_,_,?_,hw.alloc _,hk _ hw.fresh⟩;have e1:IntKind.i64.wrap (ln:Int)=ln:=IntWalk.i64_in _ zO;have e2:IntKind.i64.wrap (cn:Int)=cn:=IntWalk.i64_in _ zO;have e3:¬((i.bytes:Int)*(cn:Int)>281474976710656):=by
  have:((cn*i.bytes:Nat):Int)<=281474976710656:=by omega
  rw[Int.mul_comm];push_cast at this;omega
 have e4:¬((cn:Int)<ln):=by omega
 by_cases h0:cn*i.size=0
 ·simp[Instr.makeSlice,run_underlying ht,asInt,asIntOf,typeInfo,hi,e1,e2,e3,e4,sizeOf,zeroValue,hz,newRow,madeCells,h0,show¬((cn:Int)<0)from by omega,show¬((ln:Int)<0)from by omega];have:Array.range 0=#[]:=rfl;simp[this]
 simp[Instr.makeSlice,run_underlying ht,asInt,asIntOf,typeInfo,hi,e1,e2,e3,e4,sizeOf,zeroValue,hz,newRow,madeCells,h0,show¬((cn:Int)<0)from by omega,show¬((ln:Int)<0)from by omega]
def Mw.run{m:zV}{es:Array MapEntry}(h:Mw H m es)(hw:Own g H w):
  (m=.map none/\es=#[])\/∃b clock,m=.map (some b)/\(getObj b).run P w=.ok (.map es clock) w:=by
 rcases h with h|⟨b,clock,hm,hb⟩
 ·exact .inl h
 exact .inr ⟨b,clock,hm,bc hw hb⟩
variable{d:TypeDesc}
def run_checkKey(e:Bool)(hd:P.underlying t=some d)(hp:plainKey d=true)(v:zV)(w:World):(Instr.checkKey e 10000 t v).run P w=.ok () w:=by
 have:∀n,(Instr.checkKey e (n+1) t v).run P w=.ok () w:=λn=>by
  simp only[Instr.checkKey,Sem.run_bind,run_underlying hd,Result.andThen_ok];cases d<;>first|(simp[plainKey]at hp;done)|rfl
 exact this 9999
def run_findKey(hd:P.underlying t=some d){key:zV}{es:List MapEntry}{r:Option (Nat×zV)}(h:Instr.findNow d key es 0=some r)(w:World):
  (Instr.findKey t key es).run P w=.ok r w:=by simp[Instr.findKey,run_underlying hd,h]
def dg.run{kd:TypeDesc}{zero:zV}{ok:Bool}{m key:zV}{k:zV->Prop}(h:dg kd zero ok H m key k){w:World}(hw:Own g H w){t kt e:TypeId}{i:TypeInfo}
 (ht:P.underlying t=some (.map kt e))(hk:P.underlying kt=some kd)(hp:plainKey kd=true)(hi:P.info? e=some i)(hz:i.zero=some zero):
  ∃v,(Instr.lookup t m key ok).run P w=.ok v w/\k v:=by
 obtain⟨es,r,hm,hf,hkv⟩:=h;have fR:=λb=>run_checkKey (P:=P) b hk hp key w;have p7:=run_findKey (P:=P) hk hf w;refine⟨_,?_,hkv⟩;rcases hm.run (P:=P) hw with⟨rfl,rfl⟩|⟨b,clock,rfl,hg⟩
 ·cases r with
  |none=>cases ok<;>simp[Instr.lookup,run_underlying ht,fR,p7,dY hi hz]
  |some x=>obtain⟨j,v⟩:=x;cases ok<;>simp[Instr.lookup,run_underlying ht,fR,p7]
 ·cases r with
  |none=>cases ok<;>simp[Instr.lookup,run_underlying ht,fR,p7,dY hi hz,hg]
  |some x=>obtain⟨j,v⟩:=x;cases ok<;>simp[Instr.lookup,run_underlying ht,fR,p7,hg]
def bZ(hw:Own g H w){b:Nat}{es:Array MapEntry}{clock:Nat}(τ:Array MapEntry)(clock':Nat)(hu:df b (.map es clock) (.map τ clock') H H'):
  ∃w',(setObj b (.map τ clock')).run P w=.ok () w'/\Own g H' w':=by
 have hm:=hw.has _ hu.mem;simp only at hm;refine⟨{w with heap:=w.heap.setIfInBounds b (.map τ clock')},by simp[setObj,Sem.run,hm],?_⟩;have η:=hw.lt hu.mem;refine hw.bt hu rfl rfl rfl ?_ ?_
 ·simp only at η;simp[η]
 intro c hc;rw[xcs,xac (λe=>hc (Eq.symm e))]
variable{kd:TypeDesc}{kt e:TypeId}
def aY.run{m key val:zV}{k:Hp->Prop}(h:aY kd H m key val k)(hw:Own g H w)
 (ht:P.underlying t=some (.map kt e))(hk:P.underlying kt=some kd)(hp:plainKey kd=true):
  ∃w' H',(Instr.mapUpdate t m key val).run P w=.ok () w'/\Own g H' w'/\k H':=by
 obtain⟨b,es,clock,r,rfl,hf,hr⟩:=h;have fR:=λb=>run_checkKey (P:=P) b hk hp key w;have p7:=run_findKey (P:=P) hk hf w;cases r with
 |none=>
  obtain⟨H',hu,hkk⟩:=hr;obtain⟨w',hs,ho⟩:=bZ (P:=P) hw _ _ hu;refine⟨w',H',?_,ho,hkk⟩;simp[Instr.mapUpdate,run_underlying ht,bc hw hu.mem,fR,p7,hs]
 |some x=>
  obtain⟨j,v⟩:=x;obtain⟨hsame,hj,H',hu,hkk⟩:=hr;obtain⟨w',hs,ho⟩:=bZ (P:=P) hw _ _ hu;refine⟨w',H',?_,ho,hkk⟩;have hsb:=hsame es[j] (xbD hj);simp[Instr.mapUpdate,run_underlying ht,bc hw hu.mem,fR,p7,hj,Instr.keyThatStays,hsb,hs]
def po.run{m key:zV}{k:Hp->Prop}(h:po kd H m key k)(hw:Own g H w){ty:TypeId}{as:Array TypeId}(has:as[0]? =some t)
 (ht:P.underlying t=some (.map kt e))(hk:P.underlying kt=some kd)(hp:plainKey kd=true):
  ∃w' H',(Builtin.delete_ as ty #[m,key]).run P w=.ok (.tuple #[]) w'/\Own g H' w'/\k H':=by
 have fR:=λb=>run_checkKey (P:=P) b hk hp key w;rcases h with⟨rfl,hkk⟩|⟨b,es,clock,r,rfl,hf,hr⟩
 ·exact⟨w,H,by simp[Builtin.delete_,has,run_underlying ht,fR],hw,hkk⟩
 have p7:=run_findKey (P:=P) hk hf w;cases r with
 |none=>
  obtain⟨hm,hkk⟩:=hr;have hu:∃H',df b (.map es clock) (.map es clock) H H'/\H'=H:=by
   clear hkk hf p7 hw;induction H with
   |nil=>simp at hm
   |cons x R ih=>
    rcases xak.1 hm with e|Ω
    ·subst e;exact⟨_,.head _,rfl⟩
    obtain⟨H',u,rfl⟩:=ih Ω;exact⟨_,.tail u,rfl⟩
  obtain⟨H',hu,rfl⟩:=hu;obtain⟨w',hs,ho⟩:=bZ (P:=P) hw _ _ hu;exact⟨w',_,by simp[Builtin.delete_,has,run_underlying ht,bc hw hm,fR,p7,hs],ho,hkk⟩
 |some x=>
  obtain⟨j,v⟩:=x;obtain⟨H',hu,hkk⟩:=hr;obtain⟨w',hs,ho⟩:=bZ (P:=P) hw _ _ hu;exact⟨w',_,by simp[Builtin.delete_,has,run_underlying ht,bc hw hu.mem,fR,p7,hs],ho,hkk⟩
def EA(h:cV kd=true)(key:zV)(es:List MapEntry)(i:Nat):Instr.findNow kd key es i=if es=[]then some none else none:=by
 cases es with
 |nil=>rfl
 |cons e r=>
  simp only[Instr.findNow,reduceCtorEq,xa2];cases kd<;>simp[cV]at h<;>rfl
def og{kt:TypeId}{key:zV}:∀{es:List MapEntry} {i:Nat} {r:Option (Nat×zV)},nO P kt key es i r->∀w,(Instr.findAsking kt key es i).run P w=.ok r w
 | [],i,r,h,w=>by simp only[nO]at h;subst h;rfl
 |e::es,i,r,h,w=>by
  obtain⟨b,he,h1,h2⟩:=h;simp only[Instr.findAsking,Sem.run_bind,he w,Result.andThen_ok];cases b
  ·simp only[xaR,xa2];exact og (h2 rfl) w
  simp only[xa5,h1 rfl,Sem.run_pure]
def gT(hd:P.underlying t=some d)(ha:cV d=true){key:zV}{es:List MapEntry}{r:Option (Nat×zV)}(h:nO P t key es 0 r)(w:World):
  (Instr.findKey t key es).run P w=.ok r w:=by
 simp only[Instr.findKey,Sem.run_bind,run_underlying hd,Result.andThen_ok,EA ha];cases es with
 |nil=>simp only[nO]at h;subst h;simp
 |cons e es=>simp only[reduceCtorEq,xa2];exact og h w
def kG.run{zero:zV}{ok:Bool}{m key:zV}{k:zV->Prop}{t kt e:TypeId}{kd:TypeDesc}(h:kG P kt zero ok H m key k){w:World}(hw:Own g H w){i:TypeInfo}
 (ht:P.underlying t=some (.map kt e))(hk:P.underlying kt=some kd)(hp:cV kd=true)(hi:P.info? e=some i)(hz:i.zero=some zero):
  ∃v,(Instr.lookup t m key ok).run P w=.ok v w/\k v:=by
 obtain⟨es,r,hm,hc,hf,hkv⟩:=h;have fR:=λb=>hc b w;have p7:=gT (P:=P) hk hp hf w;refine⟨_,?_,hkv⟩;rcases hm.run (P:=P) hw with⟨rfl,rfl⟩|⟨b,clock,rfl,hg⟩
 ·cases r with
  |none=>cases ok<;>simp[Instr.lookup,run_underlying ht,fR,p7,dY hi hz]
  |some x=>obtain⟨j,v⟩:=x;cases ok<;>simp[Instr.lookup,run_underlying ht,fR,p7]
 ·cases r with
  |none=>cases ok<;>simp[Instr.lookup,run_underlying ht,fR,p7,dY hi hz,hg]
  |some x=>obtain⟨j,v⟩:=x;cases ok<;>simp[Instr.lookup,run_underlying ht,fR,p7,hg]
def iV.run{m key val:zV}{k:Hp->Prop}(h:iV P kt H m key val k)(hw:Own g H w)
 (ht:P.underlying t=some (.map kt e))(hk:P.underlying kt=some kd)(hp:cV kd=true):
  ∃w' H',(Instr.mapUpdate t m key val).run P w=.ok () w'/\Own g H' w'/\k H':=by
 obtain⟨b,es,clock,r,rfl,hc,hf,hr⟩:=h;have fR:=λb=>hc b w;have p7:=gT (P:=P) hk hp hf w;cases r with
 |none=>
  obtain⟨H',hu,hkk⟩:=hr;obtain⟨w',hs,ho⟩:=bZ (P:=P) hw _ _ hu;refine⟨w',H',?_,ho,hkk⟩;simp[Instr.mapUpdate,run_underlying ht,bc hw hu.mem,fR,p7,hs]
 |some x=>
  obtain⟨j,v⟩:=x;obtain⟨hsame,hj,H',hu,hkk⟩:=hr;obtain⟨w',hs,ho⟩:=bZ (P:=P) hw _ _ hu;refine⟨w',H',?_,ho,hkk⟩;have hsb:=hsame es[j] (xbD hj);simp[Instr.mapUpdate,run_underlying ht,bc hw hu.mem,fR,p7,hj,Instr.keyThatStays,hsb,hs]
def df.same{b:Nat}(hm:(b,o)∈H):df b o o H H:=by
 induction H with
 |nil=>simp at hm
 |cons x R ih=>
  rcases xak.1 hm with e|Ω
  ·subst e;exact .head _
  exact .tail (ih Ω)
def sL.run{m key:zV}{k:Hp->Prop}{ty:TypeId}{as:Array TypeId}(h:sL P kt H m key k)(hw:Own g H w)(has:as[0]? =some t)
 (ht:P.underlying t=some (.map kt e))(hk:P.underlying kt=some kd)(hp:cV kd=true):
  ∃w' H',(Builtin.delete_ as ty #[m,key]).run P w=.ok (.tuple #[]) w'/\Own g H' w'/\k H':=by
 obtain⟨hc,h⟩:=h;have fR:=λb=>hc b w;rcases h with⟨rfl,hkk⟩|⟨b,es,clock,r,rfl,hf,hr⟩
 ·exact⟨w,H,by simp[Builtin.delete_,has,run_underlying ht,fR],hw,hkk⟩
 have p7:=gT (P:=P) hk hp hf w;cases r with
 |none=>
  obtain⟨hm,hkk⟩:=hr;obtain⟨w',hs,ho⟩:=bZ (P:=P) hw _ _ (df.same hm);exact⟨w',_,by simp[Builtin.delete_,has,run_underlying ht,bc hw hm,fR,p7,hs],ho,hkk⟩
 |some x=>
  obtain⟨j,v⟩:=x;obtain⟨H',hu,hkk⟩:=hr;obtain⟨w',hs,ho⟩:=bZ (P:=P) hw _ _ hu;exact⟨w',_,by simp[Builtin.delete_,has,run_underlying ht,bc hw hu.mem,fR,p7,hs],ho,hkk⟩
def Rng.run{x:zV}(h:Rng H x k)(hw:Own g H w)(ht:P.underlying t=some (.map kt e)):
  ∃v w' H',(Instr.range t x).run P w=.ok v w'/\Own g H' w'/\k v H':=by
 rcases h with⟨rfl,hk⟩|⟨m,es,clock,rfl,hm,hk⟩
 ·refine⟨_,_,_,?_,hw.alloc _,hk _ hw.fresh⟩;simp[Instr.range,run_underlying ht]
 refine⟨_,_,_,?_,hw.alloc _,hk _ hw.fresh⟩;simp[Instr.range,run_underlying ht,bc hw hm]
def nG(hw:Own g H w){b:Nat}{mo:Option Nat}{since last:Nat}{seen:Array Nat}(hm:(b,Obj.mapIter mo since seen last)∈H):(getObj b).run P w=.ok (.mapIter mo since seen last) w:=by have:=hw.has _ hm;simp only at this;simp[getObj,Sem.run,this]
def uI(hw:Own g H w){b:Nat}{mo mo':Option Nat}{since last since' last':Nat}{seen Ψ:Array Nat}(hu:df b (.mapIter mo since seen last) (.mapIter mo' since' Ψ last') H H'):
  ∃w',(setObj b (.mapIter mo' since' Ψ last')).run P w=.ok () w'/\Own g H' w':=by
 have hm:=hw.has _ hu.mem;simp only at hm;refine⟨{w with heap:=w.heap.setIfInBounds b (.mapIter mo' since' Ψ last')},by simp[setObj,Sem.run,hm],?_⟩;have η:=hw.lt hu.mem;refine hw.bt hu rfl rfl rfl ?_ ?_
 ·simp only at η;simp[η]
 intro c hc;rw[xcs,xac (λe=>hc (Eq.symm e))]
def KJ.run{it:zV}{k:zV->Prop}(h:KJ H it k)(hw:Own g H w):∃v,(Instr.entry it).run P w=.ok v w/\k v:=by obtain⟨b,m,since,seen,stamp,clock,es,e,rfl,hb,hs,hm,hf,hk⟩:=h;refine⟨_,?_,hk⟩;simp[Instr.entry,nG (P:=P) hw hb,hs,bc (P:=P) hw hm,hf]
def uJ(n:Nat)(hn:0<n):∃i w',(choose (.mapNext n)).run P w=.ok i w'/\i<n/\(w'=w\/w'=w.drew):=by
 by_cases h:n<=1
 ·exact⟨0,w,by simp[choose,Sem.run,Question.forced,h],hn,.inl rfl⟩
 exact⟨_,_,by simp only[choose,Sem.run,Question.forced,h,xdt,xaR,xa2];rfl,xbJ _ hn,.inr rfl⟩
def ZD.run{it:zV}(h:ZD H it k)(hw:Own g H w){ty:TypeId}:
  ∃v w' H',(Instr.next it false ty).run P w=.ok v w'/\Own g H' w'/\k v H':=by
 obtain⟨b,mo,since,seen,last,rfl,hb,h⟩:=h;have hgi:=nG (P:=P) hw hb;cases mo with
 |none=>exact⟨_,w,H,by simp[Instr.next,hgi],hw,h⟩
 |some m=>
  obtain⟨es,clock,hm,TD,Ef,adI⟩:=h;have hgm:=bc (P:=P) hw hm;have adT:(!seen.isEmpty&& !es.isEmpty&&es.all (λe=>decide (e.born≥last)))=false:=by
   cases he:es.isEmpty
   ·have ξ:es≠#[]:=by intro e;rw[e]at he;simp at he
    have:es.all (λe=>decide (e.born≥last))=false:=by
     rw[<-xex,Array.all_eq_true];intro aH;have h0:0<es.size:=Array.size_pos_iff.2 ξ;have:=aH 0 h0;have h2:=(TD es[0] zI).2;simp only[ge_iff_le,xaM]at this;omega
    rw[this];simp
   simp
  have hold:((es.filter λe=> !seen.contains e.born).filter λe=>decide (e.born<since))=es.filter λe=> !seen.contains e.born:=by
   rw[Array.filter_eq_self];intro e he;have:=(xey.1 he).1;exact xam (TD e (by simpa using this)).1
  have hnew:((es.filter λe=> !seen.contains e.born).filter λe=>decide (e.born≥since))=#[]:=by
   rw[Array.filter_eq_empty_iff];intro e he;have:=(xey.1 he).1;have:=(TD e (by simpa using this)).1;simp only[ge_iff_le,xaM];omega
  generalize hleft:(es.filter λe=> !seen.contains e.born)=left at hold hnew;have hrun:∀(rest:Sem zV),(Instr.next (.pointer (some ⟨b,0,none⟩)) false ty).run P w=((choose (.mapNext (((if left.isEmpty then#[none]else#[])++left.map some).size))).run P w).andThen λi w=>(Sem.run P (match((if left.isEmpty then#[none]else#[])++left.map some)[i]? with
    |some (some e)=>do setObj b (.mapIter (some m) since (seen.push e.born) clock);pure (.tuple #[.bool true,e.key,e.val])
    |some none=>pure (.tuple #[.bool false])
    |none=>stuck "Next: no such candidate" :Sem zV) w):=by
   intro _;simp only[Instr.next,Sem.run_bind,hgi,Result.andThen_ok,hgm,adT,xaR,xa2,hleft,hold,hnew,xdL,Sem.run_pure];rfl
  rw[hrun (pure undef)];by_cases aa5:left=#[]
  ·subst aa5;simp only[Array.isEmpty_empty,xa5,xeG,xdL];refine⟨_,w,H,?_,hw,adI λe he=>?_⟩
   ·simp[choose,Sem.run,Question.forced]
   have:=Array.filter_eq_empty_iff.1 hleft e (by simpa using he);simpa using this
  have ξ:left.isEmpty=false:=by simpa using aa5
  have hpos:0<left.size:=Array.size_pos_iff.2 aa5;simp only[ξ,xaR,xa2,xdg,Array.size_map];obtain⟨i,w1,hc,hi,jQ⟩:=uJ (P:=P) (w:=w) left.size hpos;rw[hc];simp only[Result.andThen_ok];have g9:(left.map some)[i]? =some (some left[i]):=by simp[hi]
  simp only[g9];have hmem:left[i]∈es.filter λe=> !seen.contains e.born:=by rw[hleft];exact Array.getElem_mem hi
  obtain⟨GZ,VG⟩:=xey.1 hmem;obtain⟨H',hu,hk⟩:=Ef left[i] (by simpa using GZ) (by simpa using VG);have yG:Own g H w1:=by rcases jQ with rfl|rfl;exact hw;exact hw.drew
  obtain⟨w2,hs,uh⟩:=uI (P:=P) yG hu;exact⟨_,w2,H',by simp[hs],uh,hk⟩
end
section
def afp(x:zV):Option zV:=
 match x with
 | .pointer (some a)=>some (.pointer (some a))
 | .func (.func f) a b=>some (.func (.func f) a b)
 | .iface t v=>some (.iface t v)
 |_=>none
def Nil(x:zV)(k:zV->Prop):Prop:=∃v,afp x=some v/\k v
def PMk(fn:Fn)(a b:List zV)(k:zV->Prop):Prop:=k (.func fn a.toArray b.toArray)
def Build(P:Program)(t:TypeId)(parts:List (Nat×zV))(k:zV->Prop):Prop:=∃v,(∀w,(Instr.build t parts.toArray).run P w=.ok v w)/\k v
def iQ(P:Program)(g:Gh)(o:Oper)(ρ:Operand->zV)(H:Hp)(k:zV->Prop):Prop:=
 ∃v,(∀w,Own g H w->(execOp ρ o).run P w=.ok (.value v) w)/\k v
def dm(P:Program)(t:TypeId):Option Nat:=match P.info? t with|some i=>some i.size|none=>none
def fh(P:Program)(t:TypeId):Option zV:=match P.info? t with|some i=>i.zero|none=>none
def xD(P:Program)(t:TypeId):Option Nat:=match P.info? t with|some i=>some i.bytes|none=>none
def Bp(P:Program)(g:Gh)(o:Oper)(ρ:Operand->zV)(H:Hp)(k:zV->Prop):Prop:=
 match o.op with
 | .move x=>k (ρ x)
 | .assign x=>k (ρ x)
 | .pick c a b=>aG (ρ c) (ρ a) (ρ b) k
 | .load t a=>
  match P.underlying t,dm P t with
  |some d,some n=>cond (cV d) (aB n H (ρ a) k) (Ld H (ρ a) k)
  |_,_=>False
 | .nilCheck x=>Nil (ρ x) k
 | .binOp op t x y _=>
  match P.underlying t with
  |some d=>match B7 d with
   | .other=>iQ P g o ρ H k
   |bk=>ah bk op (ρ x) (ρ y) k
  |none=>False
 | .unOp op _ x=>Un op (ρ x) k
 | .convert s d x=>
  match P.underlying s,P.underlying d with
  |some _,some (.int kd)=>bu kd (ρ x) k
  |some (.slice e),some .string=>match P.underlying e with
   |some (.int .u8)=>lT H (ρ x) k
   |_=>iQ P g o ρ H k
  |_,_=>iQ P g o ρ H k
 | .index t x i=>
  match P.underlying t with
  |some .string=>ZC (ρ x) (ρ i) k
  |_=>iQ P g o ρ H k
 | .fieldAddr s x f=>
  match P.underlying s with
  |some (.struct fs)=>match fs[f]? with
   |some fl=>match dm P fl.type with
    |some (_+1)=>aj fl.offset (ρ x) k
    |_=>False
   |none=>False
  |_=>False
 | .field s x f=>
  match P.underlying s with
  |some (.struct fs)=>match fs[f]? with
   |some fl=>match P.underlying fl.type,dm P fl.type with
    |some d,some n=>cond (cV d) (Yy fl.offset n (ρ x) k) (CY fl.offset (ρ x) k)
    |_,_=>False
   |none=>False
  |_=>False
 | .indexAddr t x i=>
  match P.underlying t with
  |some (.slice e)=>match dm P e with
   |some n=>ay n (ρ x) (ρ i) k
   |none=>False
  |some (.array len e)=>match dm P e with
   |some n=>jl len n (ρ x) (ρ i) k
   |none=>False
  |_=>False
 | .slice t x lo hi none=>
  match P.underlying t with
  |some (.slice e)=>match dm P e with
   |some n=>gD n (ρ x) (lo.map ρ) (hi.map ρ) k
   |none=>False
  |_=>iQ P g o ρ H k
 | .extract t i=>Ext i (ρ t) k
 | .lookup t m key ok=>
  match P.underlying t with
  |some (.map kt e)=>match P.underlying kt,fh P e with
   |some kd,some z=>cond (plainKey kd) (dg kd z ok H (ρ m) (ρ key) k) (cond (cV kd) (kG P kt z ok H (ρ m) (ρ key) k) (iQ P g o ρ H k))
   |_,_=>False
  |_=>False
 | .makeFunc fn a b=>PMk fn (a.toList.map ρ) (b.toList.map ρ) k
 | .build t parts=>Build P t (parts.toList.map λp=>(p.1,ρ p.2)) k
 | .makeInterface t x=>
  match P.underlying t with
  |some (.interface _)=>False
  |some _=>k (.iface t (ρ x))
  |none=>False
 | .call c=>
  match c.callee with
  | .builtin .len=>
   match c.args.toList,c.argTypes.toList with
   | [x],[t]=>match P.underlying t with
    |some (.slice _)=>aP (ρ x) k
    |some (.map _ _)=>Cj H (ρ x) k
    |some .string=>abO (ρ x) k
    |_=>iQ P g o ρ H k
   |_,_=>False
  | .builtin .max=>match c.args.toList,c.argTypes.toList with
   | [x,y],[t,_]=>match P.underlying t with
    |some (.int _)=>Yw (ρ x) (ρ y) k
    |_=>iQ P g o ρ H k
   |_,_=>iQ P g o ρ H k
  | .builtin .min=>match c.args.toList,c.argTypes.toList with
   | [x,y],[t,_]=>match P.underlying t with
    |some (.int _)=>abN (ρ x) (ρ y) k
    |_=>iQ P g o ρ H k
   |_,_=>iQ P g o ρ H k
  | .builtin _=>iQ P g o ρ H k
  |_=>False
 |_=>iQ P g o ρ H k
def mapList{α β:Type}(f:α->β)(a:Array α):(a.toList.map f).toArray=a.map f:=by rw[<-xd3,xdx]
def afm{α:Type}{a:Array α}{x:α}(h:a.toList=[x]):a=#[x]:=by cases a;simp_all
def E0{α:Type}{a:Array α}{x y:α}(h:a.toList=[x,y]):a=#[x,y]:=by cases a;simp_all
variable{k:zV->Prop}
def Ld.fix{p:zV}(h:Ld H p k):∃v,k v/\Ld H p (· =v):=by obtain⟨b,ο,c,T,fz,v,h1,h2,h3,hk⟩:=h;exact⟨v,hk,b,ο,c,T,fz,v,h1,h2,h3,rfl⟩
def aB.fix{p:zV}(h:aB n H p k):∃v,k v/\aB n H p (· =v):=by obtain⟨b,ο,c,T,fz,h1,h2,h3,hk⟩:=h;exact⟨_,hk,b,ο,c,T,fz,h1,h2,h3,rfl⟩
def dg.fix{kd:TypeDesc}{zero:zV}{ok:Bool}{m key:zV}(h:dg kd zero ok H m key k):∃v,k v/\dg kd zero ok H m key (· =v):=by obtain⟨es,r,h1,h2,hk⟩:=h;exact⟨_,hk,es,r,h1,h2,rfl⟩
def Cj.fix{x:zV}(h:Cj H x k):∃v,k v/\Cj H x (· =v):=by
 obtain⟨m,h1,⟨h2,hk⟩|⟨b,es,clock,h2,h3,hk⟩⟩:=h
 ·exact⟨_,hk,m,h1,.inl ⟨h2,rfl⟩⟩
 exact⟨_,hk,m,h1,.inr ⟨b,es,clock,h2,h3,rfl⟩⟩
def kG.fix{kt:TypeId}{zero:zV}{ok:Bool}{m key:zV}(h:kG P kt zero ok H m key k):∃v,k v/\kG P kt zero ok H m key (· =v):=by obtain⟨es,r,h1,h2,h3,hk⟩:=h;exact⟨_,hk,es,r,h1,h2,h3,rfl⟩
def Hx{F:zV->ByteArray->Sem (ForInStep ByteArray)}(hF:∀(b:UInt8) s,F (.int .u8 b.toNat) s=pure (.yield (s.push b))){l:List UInt8}(s:ByteArray)(w:World):
  (forIn (l.map λb=>Value.int .u8 b.toNat) s F).run P w=.ok (⟨s.data++l.toArray⟩:ByteArray) w:=by
 induction l generalizing s with
 |nil=>simp
 |cons b r ih=>
  simp only[xay,xeH,hF,Sem.run_bind,Sem.run_pure,Result.andThen_ok];rw[ih];congr 1;simp[ByteArray.push]
def lT.run{x:zV}(h:lT H x k)(hw:Own g H w):∃v,(Conv.bytesToString x).run P w=.ok v w/\k v:=by
 obtain⟨base,n,c,bs,rfl,hc,hn,hk⟩:=h;refine⟨_,?_,hk⟩;cases base with
 |none=>
  simp only[Cells]at hc;have:bs=[]:=by simpa using xch Array.size hc
  subst this;rfl
 |some a=>
  have:=Cells.run (P:=P) (size:=1) (cap:=c) hw (by rw[xb8];exact hc);simp only[Builtin.firstCells,xb8]at this;simp only[Conv.bytesToString,Sem.run_bind,this,Result.andThen_ok];rw[List.forIn_toArray,Hx (P:=P) (l:=bs) (λb s=>by simp)];have e:ByteArray.empty.data=#[]:=rfl;simp[e]
def lT.fix{x:zV}(h:lT H x k):∃v,k v/\lT H x (· =v):=by obtain⟨base,n,c,bs,h1,h2,h3,hk⟩:=h;exact⟨_,hk,base,n,c,bs,h1,h2,h3,rfl⟩
def Reads(P:Program)(g:Gh)(o:Oper)(ρ:Operand->zV)(H:Hp)(k:zV->Prop):Prop:=
 ∃v,k v/\∀w,Own g H w->(execOp ρ o).run P w=.ok (.value v) w
variable{ρ:Operand->zV}
def Reads.mk{o:Oper}{s:Sem zV}(he:execOp ρ o=(do pure (.value (<-s))))(h:∃v,k v/\∀w,Own g H w->s.run P w=.ok v w):Reads P g o ρ H k:=by obtain⟨v,hk,hr⟩:=h;refine⟨v,hk,λw hw=>?_⟩;rw[he];simp only[Sem.run_bind,hr w hw,Result.andThen_ok,Sem.run_pure]
def iQ.reads{o:Oper}(h:iQ P g o ρ H k):Reads P g o ρ H k:=let ⟨v,h1,h2⟩:=h;⟨v,h2,h1⟩
def uni{s:Sem zV}{C:(zV->Prop)->Prop}(ah5:∃v,k v/\C (· =v))(hrun:∀(k:zV->Prop),C k->∀w,Own g H w->∃v,s.run P w=.ok v w/\k v):
  ∃v,k v/\∀w,Own g H w->s.run P w=.ok v w:=by obtain⟨v,hk,hc⟩:=ah5;refine⟨v,hk,λw hw=>?_⟩;obtain⟨u,hr,rfl⟩:=hrun _ hc w hw;exact hr
def bJ{t:TypeId}(h:dm P t=some n):∃i,P.info? t=some i/\i.size=n:=by
 unfold dm at h;split at h
 ·rename_i i hi;exact⟨i,hi,by simpa using h⟩
 simp at h
def cL{t:TypeId}{z:zV}(h:fh P t=some z):∃i,P.info? t=some i/\i.zero=some z:=by
 unfold fh at h;split at h
 ·rename_i i hi;exact⟨i,hi,by simpa using h⟩
 simp at h
def mi{o:Oper}{ρ:Operand->zV}{k:zV->Prop}(h:Bp P g o ρ H k):Reads P g o ρ H k:=by
 obtain⟨dst,op,type,pos,after,guard⟩:=o;cases op<;>simp only[Bp]at h
 case move x=>exact⟨_,h,λw _=>rfl⟩
 case assign x=>exact⟨_,h,λw _=>rfl⟩
 case pick c a b=>
  obtain⟨t,hc,hk⟩:=h;refine⟨_,hk,λw _=>?_⟩;cases t<;>simp[execOp,hc,asBool]
 case load t a=>
  split at h
  ·rename_i d n hd hn;obtain⟨i,hi,hin⟩:=bJ hn;apply Reads.mk (s:=Instr.loadAt t (ρ a)) rfl;cases ha:cV d<;>simp only[ha,xap,xaj]at h
   ·exact uni h.fix λk hk w hw=>hk.run hw hd ha
   exact uni h.fix λk hk w hw=>hk.run hw hd ha hi hin
  exact h.elim
 case nilCheck x=>
  obtain⟨v,hv,hk⟩:=h;refine⟨v,hk,λw _=>?_⟩;unfold afp at hv;simp only[execOp];split at hv<;>simp only[xat,reduceCtorEq]at hv<;>subst hv<;>simp_all
 case binOp op t x y yt=>
  split at h
  ·rename_i d hd;split at h
   ·exact h.reads
   rename_i hbk;refine Reads.mk (s:=do eqGuard op t x y (ρ x) (ρ y);binOp op t (ρ x) (ρ y)) rfl ?_;obtain⟨v,hv,hk⟩:=h;exact⟨v,hk,λw _=>by
    obtain⟨u,hr,rfl⟩:=ah.run (P:=P) (k:=(· =v)) ⟨v,hv,rfl⟩ w (ox:=x) (oy:=y) hd rfl;exact hr⟩
  exact h.elim
 case unOp op t x=>
  obtain⟨v,hv,hk⟩:=h;refine Reads.mk (s:=Op.unary op (ρ x)) rfl ⟨v,hk,λw _=>?_⟩;obtain⟨u,hr,rfl⟩:=Un.run (P:=P) (k:=(· =v)) ⟨v,hv,rfl⟩ w;exact hr
 case convert s d x=>
  split at h
  ·rename_i ds kd hs hd;obtain⟨j,n,hx,hk⟩:=h;refine Reads.mk (s:=Go.convert s d (ρ x)) rfl ⟨_,hk,λw _=>?_⟩;obtain⟨u,hr,rfl⟩:=bu.run (P:=P) (kd:=kd) (k:=(· =_)) ⟨j,n,hx,rfl⟩ w hs hd rfl;exact hr
  ·rename_i e hs hd;split at h
   ·rename_i he;apply Reads.mk (s:=Go.convert s d (ρ x)) rfl;have:∀w,(Go.convert s d (ρ x)).run P w=(Conv.bytesToString (ρ x)).run P w:=λw=>by
     obtain⟨base,n,c,bs,hx,_⟩:=h;simp only[Go.convert,Sem.run_bind,run_underlying hs,run_underlying hd,Result.andThen_ok,hx,run_underlying he]
    simp only[this];exact uni h.fix λk hk w hw=>hk.run hw
   exact h.reads
  exact h.reads
 case index t x i=>
  split at h
  ·rename_i ht;obtain⟨s,kd,j,b,hx,hi,h0,hb,hk⟩:=h;refine Reads.mk (s:=Instr.index t (ρ x) (ρ i)) rfl ⟨_,hk,λw _=>?_⟩;simp[Instr.index,run_underlying ht,hx,hi,asIntOf,h0,hb]
  exact h.reads
 case fieldAddr s x f=>
  split at h<;>try exact h.elim
  rename_i fs hs;split at h<;>try exact h.elim
  rename_i fl hf;split at h<;>try exact h.elim
  rename_i m hm;obtain⟨i,hi,hin⟩:=bJ hm;obtain⟨b,o,hx,hk⟩:=h;refine Reads.mk (s:=Instr.fieldAt s (ρ x) f) rfl ⟨_,hk,λw _=>?_⟩;obtain⟨u,hr,rfl⟩:=aj.run (P:=P) (k:=(· =_)) ⟨b,o,hx,rfl⟩ w hs hf hi zO rfl;exact hr
 case field s x f=>
  split at h<;>try exact h.elim
  rename_i fs hs;split at h<;>try exact h.elim
  rename_i fl hf;split at h<;>try exact h.elim
  rename_i d n hd hn;obtain⟨i,hi,hin⟩:=bJ hn;apply Reads.mk (s:=Instr.field s (ρ x) f) rfl;cases ha:cV d<;>simp only[ha,xap,xaj]at h
  ·obtain⟨cs,v,hx,hv,hk⟩:=h;refine⟨v,hk,λw _=>?_⟩;obtain⟨u,hr,rfl⟩:=CY.run (P:=P) (k:=(· =v)) ⟨cs,v,hx,hv,rfl⟩ w hs hf hd ha rfl;exact hr
  obtain⟨cs,hx,hk⟩:=h;refine⟨_,hk,λw _=>?_⟩;obtain⟨u,hr,rfl⟩:=Yy.run (P:=P) (k:=(· =_)) ⟨cs,hx,rfl⟩ w hs hf hd ha hi hin rfl;exact hr
 case indexAddr t x ix=>
  apply Reads.mk (s:=Instr.indexAt t (ρ x) (ρ ix)) rfl;split at h
  ·rename_i e ht;split at h<;>try exact h.elim
   rename_i n hn;obtain⟨i,hi,hin⟩:=bJ hn;obtain⟨b,o,n',c,kd,j,hx,hix,h0,h1,hk⟩:=h;refine⟨_,hk,λw _=>?_⟩;obtain⟨u,hr,rfl⟩:=ay.run (P:=P) (k:=(· =_)) ⟨b,o,n',c,kd,j,hx,hix,h0,h1,rfl⟩ w ht hi hin;exact hr
  ·rename_i len e ht;split at h<;>try exact h.elim
   rename_i n hn;obtain⟨i,hi,hin⟩:=bJ hn;obtain⟨b,o,kd,j,hx,hix,h0,h1,hk⟩:=h;refine⟨_,hk,λw _=>?_⟩;obtain⟨u,hr,rfl⟩:=jl.run (P:=P) (k:=(· =_)) ⟨b,o,kd,j,hx,hix,h0,h1,rfl⟩ w ht hi hin;exact hr
  exact h.elim
 case slice t x lo hi mx=>
  cases mx with
  |some m=>simp only at h;exact h.reads
  |none=>
   simp only at h;split at h
   ·rename_i e ht;split at h<;>try exact h.elim
    rename_i n hn;obtain⟨i,hi',hin⟩:=bJ hn;obtain⟨a,n',c,l,hh,hx,hl,p6,h0,h1,h2,hk⟩:=h;refine Reads.mk (s:=Instr.sliceAt t (ρ x) (lo.map ρ) (hi.map ρ) none) rfl ⟨_,hk,λw _=>?_⟩;obtain⟨u,hr,rfl⟩:=gD.run (P:=P) (k:=(· =_)) ⟨a,n',c,l,hh,hx,hl,p6,h0,h1,h2,rfl⟩ w ht hi' hin;exact hr
   exact h.reads
 case extract t i=>
  obtain⟨vs,v,hx,hv,hk⟩:=h;refine Reads.mk (s:=Instr.extract (ρ t) i) rfl ⟨v,hk,λw _=>?_⟩;obtain⟨u,hr,rfl⟩:=Ext.run (P:=P) (k:=(· =v)) ⟨vs,v,hx,hv,rfl⟩ w;exact hr
 case lookup t m key ok=>
  split at h<;>try exact h.elim
  rename_i kt e ht;split at h<;>try exact h.elim
  rename_i kd z Eg hz;obtain⟨i,hi,yJ⟩:=cL hz;cases hp:plainKey kd<;>simp only[hp,xap,xaj]at h
  ·cases nq:cV kd<;>simp only[nq,xap,xaj]at h
   ·exact h.reads
   exact Reads.mk (s:=Instr.lookup t (ρ m) (ρ key) ok) rfl (uni h.fix λk hk w hw=>hk.run hw ht Eg nq hi yJ)
  exact Reads.mk (s:=Instr.lookup t (ρ m) (ρ key) ok) rfl (uni h.fix λk hk w hw=>hk.run hw ht Eg hp hi yJ)
 case makeFunc fn a b=>
  refine⟨_,h,λw _=>?_⟩;simp[execOp,Instr.makeFunc,mapList]
 case build t parts=>
  obtain⟨v,hr,hk⟩:=h;refine Reads.mk (s:=Instr.build t (parts.map λ(i,x)=>(i,ρ x))) rfl ⟨v,hk,λw _=>?_⟩;have:=hr w;rw[mapList (λp:Nat×Operand=>(p.1,ρ p.2)) parts]at this;exact this
 case makeInterface t x=>
  split at h
  ·exact h.elim
  ·rename_i d aaR hd;refine Reads.mk (s:=Instr.makeInterface t (ρ x)) rfl ⟨_,h,λw _=>?_⟩;simp only[Instr.makeInterface,Sem.run_bind,run_underlying hd,Result.andThen_ok];cases d<;>first|rfl|exact absurd hd (aaR _)
  exact h.elim
 case call c=>
  obtain⟨callee,args,argTypes⟩:=c;cases callee with
  |value f=>simp only at h
  |invoke r m=>simp only at h
  |builtin b=>
   cases b<;>simp only at h<;>try exact h.reads
   case max=>
    split at h<;>try exact h.reads
    rename_i x y t t' hx ht;split at h<;>try exact h.reads
    have hx:=E0 hx;have ht:=E0 ht;subst hx;subst ht;obtain⟨kd,a,b,h1,h2,hk⟩:=h;refine Reads.mk (s:=Builtin.max_ #[t,t'] type #[ρ x,ρ y]) (by simp[execOp,resolve,invoke,builtin,bind,Sem.bind];rfl) ⟨_,hk,λw _=>?_⟩;simp[Builtin.max_,Builtin.max2,h1,h2]
   case min=>
    split at h<;>try exact h.reads
    rename_i x y t t' hx ht;split at h<;>try exact h.reads
    have hx:=E0 hx;have ht:=E0 ht;subst hx;subst ht;obtain⟨kd,a,b,h1,h2,hk⟩:=h;refine Reads.mk (s:=Builtin.min_ #[t,t'] type #[ρ x,ρ y]) (by simp[execOp,resolve,invoke,builtin,bind,Sem.bind];rfl) ⟨_,hk,λw _=>?_⟩;simp[Builtin.min_,Builtin.min2,h1,h2]
   split at h<;>try exact h.elim
   rename_i x t hx ht;have hx:=afm hx;have ht:=afm ht;subst hx;subst ht;split at h
   ·rename_i e hd;refine Reads.mk (s:=Builtin.len_ #[t] type #[ρ x]) (by simp[execOp,resolve,invoke,builtin,bind,Sem.bind];rfl) ?_;obtain⟨a,n,c,hx,hk⟩:=h;refine⟨_,hk,λw _=>?_⟩;obtain⟨u,hr,rfl⟩:=aP.run (P:=P) (k:=(· =_)) ⟨a,n,c,hx,rfl⟩ w (ty:=type) hd;exact hr
   ·rename_i e e' hd;refine Reads.mk (s:=Builtin.len_ #[t] type #[ρ x]) (by simp[execOp,resolve,invoke,builtin,bind,Sem.bind];rfl) ?_;exact uni h.fix λk hk w hw=>hk.run hw hd
   ·rename_i hd;refine Reads.mk (s:=Builtin.len_ #[t] type #[ρ x]) (by simp[execOp,resolve,invoke,builtin,bind,Sem.bind];rfl) ?_;obtain⟨s,hx,hk⟩:=h;exact⟨_,hk,λw _=>by simp[Builtin.len_,run_underlying hd,hx,goInt]⟩
   exact h.reads
 all_goals exact h.reads
def valOf(o:Oper)(ρ:Operand->zV)(v:zV):Prop:=
 match o.op with
 | .move x=>v=ρ x
 | .assign x=>v=ρ x
 | .pick c a b=>∀t,ρ c=.bool t->v=cond t (ρ a) (ρ b)
 |_=>True
def pH{o:Oper}(h:Bp P g o ρ H k):∃v,k v/\(∀w,Own g H w->(execOp ρ o).run P w=.ok (.value v) w)/\valOf o ρ v:=by
 obtain⟨dst,op,type,pos,after,guard⟩:=o;cases op
 case move x=>exact⟨_,h,λw _=>rfl,rfl⟩
 case assign x=>exact⟨_,h,λw _=>rfl,rfl⟩
 case pick c a b=>
  obtain⟨t,hc,hk⟩:=h;refine⟨_,hk,λw _=>?_,λt' ht'=>?_⟩
  ·cases t<;>simp[execOp,hc,asBool]
  rw[hc]at ht';simp only[Value.bool.injEq]at ht';subst ht';rfl
 all_goals
  obtain⟨v,hk,hr⟩:=mi h;exact⟨v,hk,hr,trivial⟩
end
section
def aq(P:Program)(t len:Nat)(parts:List (Nat×zV))(H:Hp)(k:zV->Hp->Prop):Prop:=
 ∃cs,(∃e n z,P.underlying t=some (.slice e)/\dm P e=some n/\fh P e=some z/\len*n<=2^24/\
   Instr.fill (λi=>some (i*n,n)) ((Array.range (len*n)).map (z.cells[· %z.cells.size]!)) parts=some cs/\
   O7 H (.cells cs e zZ) λb H'=>k (.slice (some ⟨b,0,none⟩) len len) H')
def NK(P:Program)(g:Gh)(o:Oper)(ρ:Operand->zV)(H:Hp)(K:zV->Hp->Prop)(KP:List PanicEntry->Hp->Prop):Prop:=
 match o.op with
 | .alloc t=>match fh P t with
  |some z=>O7 H (.cells z.cells t zZ) λb H'=>K (.pointer (some ⟨b,0,none⟩)) H'
  |none=>False
 | .box t x=>O7 H (.cells (ρ x).cells t zZ) λb H'=>K (.pointer (some ⟨b,0,none⟩)) H'
 | .store t a x=>match dm P t with
  |some n=>St n H (ρ a) (ρ x) λH'=>K undef H'
  |none=>False
 | .buildSlice t len parts=>aq P t len (parts.toList.map λp=>(p.1,ρ p.2)) H K
 | .makeMap _ none=>gO H K
 | .makeSlice t l c=>match P.underlying t with
  |some (.slice e)=>match dm P e,xD P e,fh P e with
   |some n,some b,some z=>cJ e n b z H (ρ l) (ρ c) K
   |_,_,_=>False
  |_=>False
 | .mapUpdate t m key x=>match P.underlying t with
  |some (.map kt _)=>match P.underlying kt with
   |some kd=>cond (plainKey kd) (aY kd H (ρ m) (ρ key) (ρ x) λH'=>K undef H') (cond (cV kd) (iV P kt H (ρ m) (ρ key) (ρ x) λH'=>K undef H') (mR P g o ρ H K KP))
   |none=>False
  |_=>False
 | .insert t m key x=>match P.underlying t with
  |some (.map kt _)=>match P.underlying kt with
   |some kd=>cond (plainKey kd) (aY kd H (ρ m) (ρ key) (ρ x) λH'=>K undef H') (cond (cV kd) (iV P kt H (ρ m) (ρ key) (ρ x) λH'=>K undef H') (mR P g o ρ H K KP))
   |none=>False
  |_=>False
 | .range t x=>match P.underlying t with
  |some (.map _ _)=>Rng H (ρ x) K
  |_=>mR P g o ρ H K KP
 | .next it false=>ZD H (ρ it) K
 | .entry it=>KJ H (ρ it) λv=>K v H
 | .call c=>
  match c.callee with
  | .value (.func f)=>cond (aW P f) (ae P g f (c.args.toList.map ρ).toArray H K KP) (mR P g o ρ H K KP)
  | .value f=>aM P g (ρ f) (c.args.toList.map ρ).toArray H K KP
  | .builtin .append=>
   match c.args.toList,c.argTypes.toList with
   | [s,x],[t,t']=>match P.underlying t,P.underlying t' with
    |some (.slice e),some (.slice _)=>match dm P e,xD P e,fh P e with
     |some n,some b,some z=>App P e n b z H (ρ s) (ρ x) K
     |_,_,_=>False
    |_,_=>mR P g o ρ H K KP
   |_,_=>False
  | .builtin .delete=>
   match c.args.toList,c.argTypes.toList with
   | [m,key],[t,_]=>match P.underlying t with
    |some (.map kt _)=>match P.underlying kt with
     |some kd=>cond (plainKey kd) (po kd H (ρ m) (ρ key) λH'=>K (.tuple #[]) H') (cond (cV kd) (sL P kt H (ρ m) (ρ key) λH'=>K (.tuple #[]) H') (mR P g o ρ H K KP))
     |none=>False
    |_=>False
   |_,_=>mR P g o ρ H K KP
  |_=>mR P g o ρ H K KP
 |_=>mR P g o ρ H K KP
def oY{t:TypeId}(h:xD P t=some n):∃i,P.info? t=some i/\i.bytes=n:=by
 unfold xD at h;split at h
 ·rename_i i hi;exact⟨i,hi,by simpa using h⟩
 simp at h
variable{ρ:Operand->zV}
def mR.ofValue{o:Oper}{s:Sem zV}(he:execOp ρ o=(do pure (.value (<-s))))(h:∀w,Own g H w->∃v w' H',s.run P w=.ok v w'/\Own g H' w'/\K v H'):mR P g o ρ H K KP:=by intro w hw;obtain⟨v,w',H',hr,ho,hk⟩:=h w hw;rw[he];simp only[Sem.run_bind,hr,Result.andThen_ok,Sem.run_pure];exact⟨H',ho,hk⟩
def mR.tc{o:Oper}{s:Sem Unit}(he:execOp ρ o=(do s;pure .skip))(h:∀w,Own g H w->∃w' H',s.run P w=.ok () w'/\Own g H' w'/\K undef H'):mR P g o ρ H K KP:=by intro w hw;obtain⟨w',H',hr,ho,hk⟩:=h w hw;rw[he];simp only[Sem.run_bind,hr,Result.andThen_ok,Sem.run_pure];exact⟨H',ho,hk⟩
def eL(h:aW P f=true)(args:Array zV)(w:World):(callFunc f args).run P w=.ok (.enter f args) w:=by
 unfold aW at h;split at h
 ·simp at h
 rename_i fn hf;simp only[xaJ,xbL]at h;obtain⟨h1,h2⟩:=h;have h3:fn.body.isNone=false:=by cases hb:fn.body<;>simp_all
 simp only[callFunc,Sem.run_bind,run_program,Result.andThen_ok,hf,show(fn.name== "runtime.NumGoroutine")=false from h1,h3,xaR,xa2];rfl
def aM.op{o:Oper}{c:Call}{x:Operand}(ho:o.op=.call c)(hc:c.callee=.value x)(h:aM P g (ρ x) (c.args.toList.map ρ).toArray H K KP):mR P g o ρ H K KP:=by
 obtain⟨f,first,captured,hf,fX,LQ⟩:=h;rw[mapList]at LQ;intro w hw;have hr:(execOp ρ o).run P w=.ok (.enter f (first++c.args.map ρ++captured)) w:=by
  simp only[execOp,ho,resolve,hc,Deferred.ofValue,hf,invoke];show(callFunc f (first++c.args.map ρ++captured)).run P w=_;exact eL fX _ w
 rw[hr];exact LQ w hw
def wu{o:Oper}(hρ:∀f,ρ (.func f)=.func (.func f) #[] #[])(h:NK P g o ρ H K KP):mR P g o ρ H K KP:=by
 unfold NK at h;split at h
 case h_1 t Δ=>
  split at h
  ·rename_i z hz;obtain⟨i,hi,yJ⟩:=cL hz;refine mR.ofValue (s:=Instr.alloc t true (.tuple #[])) (by simp only[execOp,Δ]) λw hw=>⟨_,_,_,?_,hw.alloc _,h _ hw.fresh⟩;simp[Instr.alloc,dY hi yJ,newVar,newRow]
  exact h.elim
 case h_2 t x Δ=>
  refine mR.ofValue (s:=Instr.box t (ρ x)) (by simp only[execOp,Δ]) λw hw=>⟨_,_,_,?_,hw.alloc _,h _ hw.fresh⟩;simp[Instr.box,newVar,newRow]
 case h_3 t a x Δ=>
  split at h
  ·rename_i n hn;obtain⟨i,hi,hin⟩:=bJ hn;exact mR.tc (s:=Instr.storeAt t (ρ a) (ρ x)) (by simp only[execOp,Δ]) λw hw=>h.run hw hi hin
  exact h.elim
 case h_4 t len parts Δ=>
  obtain⟨cs,e,n,z,ht,hn,hz,hl,hf,hk⟩:=h;obtain⟨i,hi,hin⟩:=bJ hn;obtain⟨i',hi',yJ⟩:=cL hz;have:i'=i:=xbb (hi'.symm.trans hi);subst this;subst hin;refine mR.ofValue (s:=Instr.buildSlice t len (parts.map λ(i,x)=>(i,ρ x))) (by simp only[execOp,Δ]) λw hw=>⟨_,_,_,?_,hw.alloc _,hk _ hw.fresh⟩;have hl':¬(len*i'.size>2^24):=by omega
  have Ab:(parts.map λ(x:Nat×Operand)=>(x.1,ρ x.2)).toList=parts.toList.map λp=>(p.1,ρ p.2):=by rw[xd3]
  by_cases h0:len*i'.size=0
  ·simp only[Instr.buildSlice,Sem.run_bind,run_underlying ht,Result.andThen_ok,run_sizeOf hi,hl',xa2,h0,xa5,Sem.run_pure];rw[h0]at hf;have hr0:Array.range 0=#[]:=rfl;simp only[hr0,xeG,List.map_toArray,xcd]at hf⊢;rw[Ab,hf];simp[newRow]
  simp only[Instr.buildSlice,Sem.run_bind,run_underlying ht,Result.andThen_ok,run_sizeOf hi,hl',xa2,h0,dY hi yJ,Sem.run_pure];simp[hf,newRow]
 case h_5 t Δ=>
  refine mR.ofValue (s:=Instr.makeMap t none) (by simp only[execOp,Δ];rfl) λw hw=>⟨_,_,_,?_,hw.alloc _,h _ hw.fresh⟩;simp[Instr.makeMap]
 case h_6 t l c Δ=>
  split at h<;>try exact h.elim
  rename_i e ht;split at h<;>try exact h.elim
  rename_i n b z hn hb hz;obtain⟨i,hi,hin⟩:=bJ hn;obtain⟨i',hi',yJ⟩:=cL hz;obtain⟨i2,LN,Ac⟩:=oY hb;have e1:i'=i:=xbb (hi'.symm.trans hi);have e2:i2=i:=xbb (LN.symm.trans hi);subst e1;subst e2;exact mR.ofValue (s:=Instr.makeSlice t (ρ l) (ρ c)) (by simp only[execOp,Δ]) λw hw=>h.run hw ht hi yJ hin Ac
 case h_7 t m key x Δ=>
  split at h<;>try exact h.elim
  rename_i kt e ht;split at h<;>try exact h.elim
  rename_i kd Eg;cases hp:plainKey kd<;>simp only[hp,xap,xaj]at h
  ·cases nq:cV kd<;>simp only[nq,xap,xaj]at h
   ·exact h
   exact mR.tc (s:=Instr.mapUpdate t (ρ m) (ρ key) (ρ x)) (by simp only[execOp,Δ]) λw hw=>h.run hw ht Eg nq
  exact mR.tc (s:=Instr.mapUpdate t (ρ m) (ρ key) (ρ x)) (by simp only[execOp,Δ]) λw hw=>h.run hw ht Eg hp
 case h_8 t m key x Δ=>
  split at h<;>try exact h.elim
  rename_i kt e ht;split at h<;>try exact h.elim
  rename_i kd Eg;cases hp:plainKey kd<;>simp only[hp,xap,xaj]at h
  ·cases nq:cV kd<;>simp only[nq,xap,xaj]at h
   ·exact h
   exact mR.tc (s:=Instr.mapUpdate t (ρ m) (ρ key) (ρ x)) (by simp only[execOp,Δ]) λw hw=>h.run hw ht Eg nq
  exact mR.tc (s:=Instr.mapUpdate t (ρ m) (ρ key) (ρ x)) (by simp only[execOp,Δ]) λw hw=>h.run hw ht Eg hp
 case h_9 t x Δ=>
  split at h
  ·rename_i kt e ht;exact mR.ofValue (s:=Instr.range t (ρ x)) (by simp only[execOp,Δ]) λw hw=>h.run hw ht
  exact h
 case h_10 it Δ=>
  exact mR.ofValue (s:=Instr.next (ρ it) false o.type) (by simp only[execOp,Δ]) λw hw=>h.run hw
 case h_11 it Δ=>
  exact mR.ofValue (s:=Instr.entry (ρ it)) (by simp only[execOp,Δ]) λw hw=>let ⟨v,hr,hk⟩:=h.run hw;⟨v,w,H,hr,hw,hk⟩
 case h_12 c Δ=>
  split at h
  ·rename_i f hc;cases fX:aW P f<;>simp only[fX,xap,xaj]at h
   ·exact h
   rw[mapList]at h;intro w hw;have hr:(execOp ρ o).run P w=.ok (.enter f (c.args.map ρ)) w:=by
    simp only[execOp,Δ,resolve,hc,Deferred.ofValue,hρ,invoke];show(callFunc f ((#[]++c.args.map ρ)++ #[])).run P w=_;rw[xdg,xdL];exact eL fX _ w
   rw[hr];exact h w hw
  ·rename_i x _ hc;exact aM.op Δ hc h
  ·rename_i hc;split at h<;>try exact h.elim
   rename_i s x t t' hx ht;have hx:=E0 hx;have ht:=E0 ht;split at h
   ·rename_i e e' hd dF;split at h<;>try exact h.elim
    rename_i n b z hn hb hz;obtain⟨i,hi,hin⟩:=bJ hn;obtain⟨i',hi',yJ⟩:=cL hz;obtain⟨i2,LN,Ac⟩:=oY hb;have e1:i'=i:=xbb (hi'.symm.trans hi);have e2:i2=i:=xbb (LN.symm.trans hi);subst e1;subst e2;refine mR.ofValue (s:=Builtin.append_ #[t,t'] o.type #[ρ s,ρ x]) ?_ λw hw=>h.run hw hd ⟨_,dF⟩ hi yJ hin Ac;simp only[execOp,Δ,resolve,hc,hx,ht,invoke,builtin];simp[bind,Sem.bind];rfl
   exact h
  ·rename_i hc;split at h
   ·rename_i m key t t' hx ht;have hx:=E0 hx;have ht:=E0 ht;split at h<;>try exact h.elim
    rename_i kt e hd;split at h<;>try exact h.elim
    rename_i kd Eg;cases hp:plainKey kd<;>simp only[hp,xap,xaj]at h
    ·cases nq:cV kd<;>simp only[nq,xap,xaj]at h
     ·exact h
     refine mR.ofValue (s:=Builtin.delete_ #[t,t'] o.type #[ρ m,ρ key]) ?_ λw hw=>?_
     ·simp only[execOp,Δ,resolve,hc,hx,ht,invoke,builtin];simp[bind,Sem.bind];rfl
     obtain⟨w',H',hr,ho,hk⟩:=h.run (P:=P) hw (as:=#[t,t']) (ty:=o.type) rfl hd Eg nq;exact⟨_,w',H',hr,ho,hk⟩
    refine mR.ofValue (s:=Builtin.delete_ #[t,t'] o.type #[ρ m,ρ key]) ?_ λw hw=>?_
    ·simp only[execOp,Δ,resolve,hc,hx,ht,invoke,builtin];simp[bind,Sem.bind];rfl
    obtain⟨w',H',hr,ho,hk⟩:=h.run (P:=P) hw (as:=#[t,t']) (ty:=o.type) rfl hd Eg hp;exact⟨_,w',H',hr,ho,hk⟩
   exact h
  exact h
 all_goals exact h
end
variable{ds:List Deferred}
section
def wM:Op->Bool
 | .move _| .assign _| .pick .. | .load .. | .nilCheck _| .binOp .. | .unOp .. | .convert .. | .fieldAddr .. | .field .. | .indexAddr .. | .index .. | .slice .. | .extract .. | .lookup .. | .makeFunc .. | .build .. | .makeInterface ..
 | .typeAssert .. =>true
 | .call c=>match c.callee with
  | .builtin .len| .builtin .cap| .builtin .min| .builtin .max=>true
  |_=>false
 |_=>false
def ZH(P:Program)(g:Gh)(f:FuncId)(args:Array zV)(H:Hp)(k:zV->Prop):Prop:=
 ∃v,bG P g f args H (λe H'=>e=.returned v/\H'=H)/\k v
def opQ(P:Program)(g:Gh)(o:Oper)(ρ:Operand->zV)(H:Hp)(k:zV->Prop):Prop:=
 match o.op with
 | .call c=>match c.callee with
  | .value (.func f)=>cond (aW P f) (ZH P g f (c.args.toList.map ρ).toArray H k) False
  | .value x=>∃f first captured,ρ x=.func (.func f) first captured/\aW P f=true/\ZH P g f (first++(c.args.toList.map ρ).toArray++captured) H k
  |_=>False
 |_=>False
def cG:Option (Nat×Bool)->Option (Nat×Bool)->Bool
 |none,none=>true
 |some (i,a),some (j,b)=>Nat.beq i j&& (a==b)
 |_,_=>false
def jM{x y:Option (Nat×Bool)}(h:cG x y=true):x=y:=by
 cases x with
 |none=>cases y<;>simp_all[cG]
 |some a=>
  obtain⟨i,a⟩:=a;cases y with
  |none=>simp[cG]at h
  |some b=>
   obtain⟨j,b⟩:=b;simp only[cG,xaJ,xcT]at h;rw[xaH h.1,h.2]
def iB(cur:Option (Nat×Bool)):List Oper->List Oper
 | []=>[]
 |o::r=>cond (cG o.guard cur) [] (o::iB cur r)
def jG(cur:Option (Nat×Bool)):List Oper->List Oper
 | []=>[]
 |o::r=>cond (cG o.guard cur) (o::r) (jG cur r)
def tS(cur:Option (Nat×Bool))(l:List Oper):iB cur l++jG cur l=l:=by
 induction l with
 |nil=>rfl
 |cons o r ih=>simp only[iB,jG];cases cG o.guard cur<;>simp[ih]
def tT:List Oper->Fr->Fr
 | [],fr=>fr
 |o::r,fr=>tT r (bt fr o.dst undef)
def bV:List Oper->Nat->Bool
 | [],_=>false
 |o::r,s=>(match o.dst with|some d=>Nat.beq s d|none=>false)||bV r s
def jr(n:Nat):List Oper->Bool
 | []=>true
 |o::r=>eO n o.dst&&jr n r
def BS(G:List Oper)(gs fr:Fr):Fr:=λs=>cond (bV G s) (gs s) (fr s)
def qX(p:Oper)(fr:Fr):zV:=
 match p.op with
 | .pick c a b=>match ev fr c with
  | .bool t=>cond t (ev fr a) (ev fr b)
  |_=>undef
 |_=>undef
def tj(p:Oper):Bool:=match p.op with| .pick .. =>true|_=>false
def eY(ζ:Array Oper)(j:Nat):Option Nat:=match ζ[j]? with|some oj=>oj.dst|none=>none
def ob(ζ:Array Oper)(s:Nat)(want:Bool):zL->List Oper->Bool
 |_,[]=>true
 |seen,o::r=>
  (match o.guard with
  |none=>false
  |some (j,w)=>match eY ζ j with
   |none=>false
   |some t=>(Nat.beq t s&& (w==want))||seen.any (Nat.beq t)) &&
  ob ζ s want (match o.dst with|some d=>d::seen|none=>seen) r
def dh(v:zV)(want:Bool)(inner els k:Bool->Prop):Prop:=∃a t:Bool,v=.bool a/\(a=want->inner t)/\(a= !want->els t)/\k t
def Split(v:zV)(want:Bool)(k1 k2:Prop):Prop:=∃a:Bool,v=.bool a/\(a=want->k1)/\(a= !want->k2)
def mz:List (Nat×Bool)->Nat->Option Bool
 | [],_=>none
 |(t,b)::r,s=>cond (Nat.beq t s) (some b) (mz r s)
def nH:List (Nat×Bool)->Option Nat->List (Nat×Bool)
 |kn,none=>kn
 | [],some _=>[]
 |(t,b)::r,some d=>cond (Nat.beq t d) (nH r (some d)) ((t,b)::nH r (some d))
def ng:List (Nat×Bool)->List Oper->List (Nat×Bool)
 |kn,[]=>kn
 |kn,o::r=>ng (nH kn o.dst) r
def r7(kn:List (Nat×Bool)):Operand->Option Bool
 | .const (.bool b)=>some b
 | .tmp t=>mz kn t
 |_=>none
def aat(kn:List (Nat×Bool))(o:Oper):Option Bool:=
 match o.op with
 | .move x=>r7 kn x
 | .assign x=>r7 kn x
 | .pick c a b=>match r7 kn c with
  |some true=>r7 kn a
  |some false=>r7 kn b
  |none=>none
 |_=>none
def aas(kn:List (Nat×Bool))(o:Oper):List (Nat×Bool):=
 match aat kn o,o.dst with
 |some b,some d=>(d,b)::nH kn (some d)
 |_,d=>nH kn d
def jy(kn:List (Nat×Bool))(fr:Fr):Prop:=∀s b,mz kn s=some b->fr s=.bool b
def jy.nil(fr:Fr):jy [] fr:=λs b h=>by simp[mz]at h
variable{kn:List (Nat×Bool)}{s:Nat}
def zW{d:Nat}{b:Bool}(h:mz (nH kn (some d)) s=some b):s≠d/\mz kn s=some b:=by
 induction kn with
 |nil=>simp[nH,mz]at h
 |cons x r ih=>
  obtain⟨t,c⟩:=x;simp only[nH]at h;cases hb:Nat.beq t d<;>simp only[hb,xap,xaj]at h
  ·simp only[mz]at h⊢;cases hs:Nat.beq t s<;>simp only[hs,xap,xaj]at h⊢
   ·exact ih h
   refine⟨λe=>?_,h⟩;have:=xaH hs;subst this;subst e;simp at hb
  have h':=ih h;refine⟨h'.1,?_⟩;simp only[mz];have:=xaH hb;subst this;cases hs:Nat.beq t s
  ·exact h'.2
  exact absurd (xaH hs).symm h'.1
def jy.del(h:jy kn fr)(d:Option Nat)(v:zV):jy (nH kn d) (bt fr d v):=by
 cases d with
 |none=>cases kn<;>exact h
 |some d=>
  intro s b hs;obtain⟨h1,h2⟩:=zW hs;simp only[bt];cases hb:Nat.beq s d
  ·exact h s b h2
  exact absurd (xaH hb) h1
def jy.put(h:jy kn fr){b:Bool}(hs:fr s=.bool b):jy ((s,b)::kn) fr:=by
 intro t c ht;simp only[mz]at ht;cases hb:Nat.beq s t<;>simp only[hb,xap,xaj]at ht
 ·exact h t c ht
 have:=xaH hb;subst this;simp only[xat]at ht;subst ht;exact hs
def my(h:jy kn fr){x:Operand}{b:Bool}(hx:r7 kn x=some b):ev fr x=.bool b:=by
 cases x with
 |tmp t=>exact h t b hx
 |const v=>cases v<;>simp[r7]at hx;subst hx;rfl
 |global g=>simp[r7]at hx
 |func f=>simp[r7]at hx
variable{v:zV}
def Xc(h:jy kn fr){o:Oper}(hv:valOf o (ev fr) v){b:Bool}(hb:aat kn o=some b):v=.bool b:=by
 unfold aat at hb;unfold valOf at hv;split at hb
 ·rename_i x Δ;rw[Δ]at hv;exact hv.trans (my h hb)
 ·rename_i x Δ;rw[Δ]at hv;exact hv.trans (my h hb)
 ·rename_i c a b' Δ;rw[Δ]at hv;split at hb
  ·rename_i hc;rw[hv _ (my h hc)];exact my h hb
  ·rename_i hc;rw[hv _ (my h hc)];exact my h hb
  simp at hb
 simp at hb
def jy.up(h:jy kn fr){o:Oper}(hv:valOf o (ev fr) v):jy (aas kn o) (bt fr o.dst v):=by
 unfold aas;split
 ·rename_i b d hb hd;rw[hd];exact(h.del (some d) v).put (by simp[bt,Xc h hv hb])
 exact h.del _ _
def jy.afd{kn:List (Nat×Bool)}{fr σ:Fr}:∀(l:List Oper),jy kn fr->(∀s,bV l s=false->σ s=fr s)->jy (ng kn l) σ:=by
 intro l;have key:∀(l:List Oper) (kn:List (Nat×Bool)) (s:Nat) (b:Bool),mz (ng kn l) s=some b->bV l s=false/\mz kn s=some b:=by
  intro l;induction l with
  |nil=>intro kn s b h;exact⟨rfl,h⟩
  |cons o r ih=>
   intro kn s b h;simp only[ng]at h;obtain⟨h1,h2⟩:=ih _ s b h;simp only[bV,h1,xdB];cases hd:o.dst with
   |none=>rw[hd]at h2;exact⟨rfl,by cases kn<;>exact h2⟩
   |some d=>
    rw[hd]at h2;obtain⟨h3,h4⟩:=zW h2;refine⟨?_,h4⟩;cases hb:Nat.beq s d
    ·exact hb
    exact absurd (xaH hb) h3
 intro h ho s b hs;obtain⟨h1,h2⟩:=key l kn s b hs;rw[ho s h1];exact h s b h2
def fg(P:Program)(g:Gh)(n:Nat)(ζ:Array Oper)(gq:Bool):Nat->Bool->Option (Nat×Bool)->List (Nat×Bool)->List Oper->Fr->Hp->(List (Nat×Bool)->Fr->Hp->Prop)->(List PanicEntry->Hp->Prop)->Prop
 |0,_,_,_,_,_,_,_,_=>False
 |_+1,_,_,kn,[],fr,H,K,_=>K kn fr H
 |f+1,q,cur,kn,o::r,fr,H,K,KP=>
  cond (cG o.guard cur)
   (cond (eO n o.dst)
    (cond (wM o.op) (Bp P g o (ev fr) H λv=>fg P g n ζ gq f q cur (aas kn o) r (bt fr o.dst v) H K KP)
     (cond q (opQ P g o (ev fr) H λv=>fg P g n ζ gq f q cur (nH kn o.dst) r (bt fr o.dst v) H K KP)
      (NK P g o (ev fr) H (λv H'=>fg P g n ζ gq f q cur (nH kn o.dst) r (bt fr o.dst v) H' K KP) KP))) False)
   (match o.guard with
   |none=>False
   |some (j,want)=>
    match eY ζ j with
    |none=>False
    |some s=>
     cond (eO n (some s) &&jr n (iB cur (o::r)) && !bV (iB cur (o::r)) s&&ob ζ s want [] (iB cur (o::r)))
     (match mz kn s with
     |some b=>cond (b==want)
       (fg P g n ζ gq f q o.guard kn (iB cur (o::r)) fr H (λrB σ H'=>fg P g n ζ gq f q cur rB (jG cur (o::r)) σ H' K KP) KP)
       (fg P g n ζ gq f q cur (ng kn (iB cur (o::r))) (jG cur (o::r)) (tT (iB cur (o::r)) fr) H K KP)
     |none=>
     cond (q||gq)
      (match jG cur (o::r)with
      | []=>False
      |p::r'=>
       cond (tj p&&eO n p.dst)
       (dh (fr s) want
        (λt=>fg P g n ζ gq f true o.guard ((s,want)::kn) (iB cur (o::r)) (bt fr (some s) (.bool want)) H (λ_ σ H'=>H'=H/\qX p σ=.bool t) (λ_ _=>False))
        (λt=>qX p (tT (iB cur (o::r)) (bt fr (some s) (.bool !want)))=.bool t)
        (λt=>∀gs,fg P g n ζ gq f q cur (nH (ng kn (iB cur (o::r))) p.dst) r' (bt (BS (iB cur (o::r)) gs fr) p.dst (.bool t)) H K KP)) False)
      (Split (fr s) want
       (fg P g n ζ gq f q o.guard ((s,want)::kn) (iB cur (o::r)) (bt fr (some s) (.bool want)) H (λrB σ H'=>fg P g n ζ gq f q cur rB (jG cur (o::r)) σ H' K KP) KP)
       (fg P g n ζ gq f q cur ((s, !want)::ng kn (iB cur (o::r))) (jG cur (o::r)) (tT (iB cur (o::r)) (bt fr (some s) (.bool !want))) H K KP))) False)
def l6(h:fr s=v):bt fr (some s) v=fr:=by
 funext x
 simp only[bt];cases hb:Nat.beq x s
 ·rfl
 have:=xaH hb;subst this;simp[h]
def gz{d:Option Nat}(h:bV [({(default:Oper)with dst:=d})] s=false):bt fr d v s=fr s:=by
 cases d with
 |none=>rfl
 |some d=>simp only[bV,xdB]at h;simp only[bt,h,xaj]
def dM{o:Oper}{r:List Oper}:bV (o::r) s=(bV [({(default:Oper)with dst:=o.dst})] s||bV r s):=by simp[bV]
def ct{a b:List Oper}:bV (a++b) s=(bV a s||bV b s):=by
 induction a with
 |nil=>simp[bV]
 |cons o r ih=>simp only[xaS,bV,ih,Bool.or_assoc]
def eS(l:List Oper)(fr σ:Fr):Prop:=∀s,bV l s=false->σ s=fr s
def mN(ζ:Array Oper)(cur:Option (Nat×Bool))(l:List Oper)(fr:Fr):Prop:=
 match cur with
 |none=>True
 |some (j,want)=>∃s,eY ζ j=some s/\fr s=.bool want/\bV l s=false
def mN.tail{ζ:Array Oper}{cur:Option (Nat×Bool)}{o:Oper}{r:List Oper}{fr σ:Fr}(h:mN ζ cur (o::r) fr)(he:∀s,bV [({(default:Oper)with dst:=o.dst})] s=false->σ s=fr s):mN ζ cur r σ:=by
 unfold mN at*;split
 ·trivial
 obtain⟨s,h1,h2,h3⟩:=h;rw[dM,xaG]at h3;exact⟨s,h1,(he s h3.1).trans h2,h3.2⟩
def mT{n:Nat}{ζ:Array Oper}{a:Act}{fr:Fr}(h:cF ds n a fr){j s:Nat}(hs:eY ζ j=some s):yielded ζ a.tmps j=match fr s with| .bool b=>some b|_=>none:=by
 unfold eY at hs;split at hs
 ·rename_i oj hj;have hg:=h.get s;rw[xau]at hg;simp only[yielded,hj,xez,hs];cases ht:a.tmps[s]? with
  |none=>rw[ht]at hg;simp only[Option.getD_none]at hg;rw[<-hg];rfl
  |some v=>rw[ht]at hg;simp only[Option.getD_some]at hg;rw[<-hg];cases v<;>rfl
 ·simp at hs
def mN.wanted{ζ:Array Oper}{cur:Option (Nat×Bool)}{l:List Oper}(h:mN ζ cur l fr){o:Oper}(ho:o.guard=cur){a:Act}(ha:cF ds n a fr):Region.wanted o (yielded ζ a.tmps)=true:=by
 unfold mN at h;unfold Region.wanted;rw[ho];split at h
 ·rfl
 obtain⟨s,h1,h2,_⟩:=h;simp only[mT ha h1,h2,xeA]
def qW{p:Oper}{t:Bool}(hp:tj p=true)(h:qX p fr=.bool t)(w:World):(execOp (ev fr) p).run P w=.ok (.value (.bool t)) w:=by
 unfold tj at hp;split at hp<;>try (simp at hp;done)
 rename_i c a b Δ;simp only[qX,Δ]at h;split at h
 ·rename_i t' hc;simp only[execOp,Δ,hc,asBool];cases t'<;>simp only[xap,xaj]at h<;>simp[h]
 simp[undef]at h
def pA{n:Nat}{ζ:Array Oper}{Q:Exit->Act->World->Prop}{s:Nat}{want:Bool}{w:World}{rest:List Oper}:∀(l:List Oper) (seen:zL) (fr:Fr) (a:Act),jr n l=true->bV l s=false->ob ζ s want seen l=true->
  fr s=.bool (!want)->(∀t∈seen,fr t=undef)->cF ds n a fr->(∀a',cF ds n a' (tT l fr)->wpList P ζ Q rest a' w)->wpList P ζ Q (l++rest) a w
 | [],_,fr,a,_,_,_,_,_,ha,hk=>hk a ha
 |o::r,seen,fr,a,hd,hi,hs,hf,wO,ha,hk=>by
  simp only[jr,xaJ]at hd;rw[dM,xaG]at hi;simp only[ob,xaJ]at hs;obtain⟨u5,tq⟩:=hs;have hnw:Region.wanted o (yielded ζ a.tmps)=false:=by
   unfold Region.wanted;split at u5
   ·simp at u5
   rename_i j w' hg;rw[hg];split at u5
   ·simp at u5
   rename_i t ht;simp only[mT ha ht];simp only[xbu,xaJ,xcT]at u5;rcases u5 with⟨h1,rfl⟩|h1
   ·have:=xaH h1;subst this;rw[hf];cases w'<;>rfl
   obtain⟨u,hu,hb⟩:=xcF.1 h1;have:=xaH hb;subst this;rw[wO _ hu];rfl
  simp only[xaS,wpList,hnw,xaR,xa2];refine pA r _ (bt fr o.dst undef) _ hd.2 hi.2 tq ?_ ?_ (ha.put hd.1 undef) (λa' h'=>hk a' h')
  ·rw[gz hi.1,hf]
  intro t ht;cases Tw:o.dst with
  |none=>rw[Tw]at ht;exact wO t ht
  |some d=>
   rw[Tw]at ht;simp only[bt];cases hb:Nat.beq t d
   ·simp only[xaj];rcases xak.1 ht with rfl|ht
    ·simp at hb
    exact wO t ht
   rfl
def qL{n:Nat}{ζ:Array Oper}{C:World->Prop}{Q:Act->Prop}{s:Nat}{want:Bool}{rest:List Oper}:∀(l:List Oper) (seen:zL) (fr:Fr) (a:Act),jr n l=true->bV l s=false->ob ζ s want seen l=true->
  fr s=.bool (!want)->(∀t∈seen,fr t=undef)->cF ds n a fr->(∀a',cF ds n a' (tT l fr)->wpQuiet P ζ C Q rest a')->wpQuiet P ζ C Q (l++rest) a
 | [],_,fr,a,_,_,_,_,_,ha,hk=>hk a ha
 |o::r,seen,fr,a,hd,hi,hs,hf,wO,ha,hk=>by
  simp only[jr,xaJ]at hd;rw[dM,xaG]at hi;simp only[ob,xaJ]at hs;obtain⟨u5,tq⟩:=hs;have hnw:Region.wanted o (yielded ζ a.tmps)=false:=by
   unfold Region.wanted;split at u5
   ·simp at u5
   rename_i j w' hg;rw[hg];split at u5
   ·simp at u5
   rename_i t ht;simp only[mT ha ht];simp only[xbu,xaJ,xcT]at u5;rcases u5 with⟨h1,rfl⟩|h1
   ·have:=xaH h1;subst this;rw[hf];cases w'<;>rfl
   obtain⟨u,hu,hb⟩:=xcF.1 h1;have:=xaH hb;subst this;rw[wO _ hu];rfl
  simp only[xaS,wpQuiet,hnw,xaR,xa2];refine qL r _ (bt fr o.dst undef) _ hd.2 hi.2 tq ?_ ?_ (ha.put hd.1 undef) (λa' h'=>hk a' h')
  ·rw[gz hi.1,hf]
  intro t ht;cases Tw:o.dst with
  |none=>rw[Tw]at ht;exact wO t ht
  |some d=>
   rw[Tw]at ht;simp only[bt];cases hb:Nat.beq t d
   ·simp only[xaj];rcases xak.1 ht with rfl|ht
    ·simp at hb
    exact wO t ht
   rfl
def dw:∀(l:List Oper) (fr:Fr),eS l fr (tT l fr)
 | [],fr=>λs _=>rfl
 |o::r,fr=>λs hs=>by
  rw[dM,xaG]at hs;rw[tT,dw r _ s hs.2,gz hs.1]
end
section
def pS(fr:Fr):∀f,ev fr (.func f)=.func (.func f) #[] #[]:=λ_=>rfl
def Lu{o:Oper}{k:zV->Prop}(h:opQ P g o (ev fr) H k):
  ∃v f args,(∀w,(execOp (ev fr) o).run P w=.ok (.enter f args) w)/\bG P g f args H (λe H'=>e=.returned v/\H'=H)/\k v:=by
 unfold opQ at h;split at h<;>try exact h.elim
 rename_i c Δ;split at h<;>try exact h.elim
 ·rename_i f hc;cases fX:aW P f<;>simp only[fX,xap,xaj]at h;obtain⟨v,hs,hk⟩:=h;rw[mapList]at hs;refine⟨v,f,_,λw=>?_,hs,hk⟩;simp only[execOp,Δ,resolve,hc,Deferred.ofValue,pS,invoke];show(callFunc f ((#[]++c.args.map (ev fr))++ #[])).run P w=_;rw[xdg,xdL];exact eL fX _ w
 rename_i x _ hc;obtain⟨f,first,captured,hf,fX,v,hs,hk⟩:=h;rw[mapList]at hs;refine⟨v,f,_,λw=>?_,hs,hk⟩;simp only[execOp,Δ,resolve,hc,Deferred.ofValue,hf,invoke];show(callFunc f (first++c.args.map (ev fr)++captured)).run P w=_;exact eL fX _ w
def pw.upon{o:Oper}{a:Act}{next:Act->World->Prop}{Q:Exit->Act->World->Prop}{r:Result Next}
 (h:pw P g K KP r)(hn:∀v H' w',Own g H' w'->K v H'->next (a.put o.dst v) w')(hp:∀ch H' w',Own g H' w'->KP ch H'->Q (.panic ch) a w'):o.upon P a next Q r:=by
 cases r with
 |ok n w'=>
  cases n<;>simp only[pw]at h<;>simp only[Oper.upon]
  case value v=>obtain⟨H',ho,hk⟩:=h;exact hn _ _ _ ho hk
  case skip=>obtain⟨H',ho,hk⟩:=h;exact hn _ _ _ ho hk
  case enter f args=>
   refine h.mono λe w'' ⟨H',ho,hk⟩=>?_;cases e with
   |returned v=>exact hn _ _ _ ho hk
   |panicked ch=>exact hp _ _ _ ho hk
   |outgrown=>exact hk.elim
 |halt x w'=>
  cases x<;>simp only[pw]at h
  case panic v=>obtain⟨H',ho,hk⟩:=h;exact hp _ _ _ ho hk
def eS.refl(l:List Oper)(fr:Fr):eS l fr fr:=λ_ _=>rfl
def eS.cons{o:Oper}{r:List Oper}{fr σ:Fr}{v:zV}(h:eS r (bt fr o.dst v) σ):eS (o::r) fr σ:=λs hs=>by
 rw[dM,xaG]at hs;rw[h s hs.2,gz hs.1]
theorem cN{n:Nat}{ζ:Array Oper}{gq:Bool}:∀(f:Nat) (q:Bool) (cur:Option (Nat×Bool)) (kn:List (Nat×Bool)) (l:List Oper) (fr:Fr) (H:Hp) (K:List (Nat×Bool)->Fr->Hp->Prop) (KP:List PanicEntry->Hp->Prop),
  fg P g n ζ gq f q cur kn l fr H K KP->mN ζ cur l fr->jy kn fr->∀(a:Act) (w:World),cF ds n a fr->Own g H w->∀(rest:List Oper) (Q:Exit->Act->World->Prop),
  (∀a' w' rB σ H',cF ds n a' σ->Own g H' w'->eS l fr σ->jy rB σ->K rB σ H'->wpList P ζ Q rest a' w')->
  (∀ch a' w' σ H',cF ds n a' σ->Own g H' w'->KP ch H'->Q (.panic ch) a' w')->wpList P ζ Q (l++rest) a w
 |0,_,_,_,_,_,_,_,_,h=>h.elim
 |f+1,q,cur,kn,[],fr,H,K,KP,h=>λ_ hkn a w ha hw rest Q hk _=>hk a w kn fr H ha hw (eS.refl _ _) hkn h
 |f+1,q,cur,kn,o::r,fr,H,K,KP,h=>by
  intro ju hkn a w ha hw rest Q hk hp;unfold fg at h;cases hsg:cG o.guard cur<;>simp only[hsg,xap,xaj]at h
  case true=>
   have hg:=jM hsg;have qk:=ju.wanted hg ha;cases hd:eO n o.dst<;>simp only[hd,xap,xaj]at h;simp only[xaS,wpList,qk,xa5];refine .inl ?_;unfold Oper.wp;rw[ha.eval];cases BI:wM o.op<;>simp only[BI,xap,xaj]at h
   case true=>
    obtain⟨v,hk',hr,hv⟩:=pH h;rw[hr w hw];exact cN f q cur _ r _ H K KP hk' (ju.tail λs hs=>gz hs) (hkn.up hv) _ w (ha.put hd v) hw rest Q (λa' w' rB σ H' h1 h2 h3 h5 h4=>hk a' w' rB σ H' h1 h2 h3.cons h5 h4) hp
   case false=>
    cases q<;>simp only[xap,xaj]at h
    case true=>
     obtain⟨v,f',args,hr,hs,hk'⟩:=Lu h;rw[hr w];refine(hs w hw).mono λe w'' ⟨H',ho,he,hH⟩=>?_;subst he;subst hH;exact cN f true cur _ r _ H' K KP hk' (ju.tail λs hs=>gz hs) (hkn.del _ _) _ w'' (ha.put hd v) ho rest Q (λa' w' rB σ H' h1 h2 h3 h5 h4=>hk a' w' rB σ H' h1 h2 h3.cons h5 h4) hp
    case false=>
     refine(wu (pS fr) h w hw).upon (λv H' w' ho hk'=>?_) (λch H' w' ho hk'=>hp ch a w' fr H' ha ho hk');exact cN f false cur _ r _ H' K KP hk' (ju.tail λs hs=>gz hs) (hkn.del _ _) _ w' (ha.put hd v) ho rest Q (λa' w' rB σ H' h1 h2 h3 h5 h4=>hk a' w' rB σ H' h1 h2 h3.cons h5 h4) hp
  case false=>
   split at h<;>try exact h.elim
   rename_i j want hog;split at h<;>try exact h.elim
   rename_i s k6;generalize hG:iB cur (o::r)=G at h;generalize hR:jG cur (o::r)=R at h;have LV:G++R=o::r:=by rw[<-hG,<-hR];exact tS _ _
   cases fR:(eO n (some s) &&jr n G&& !bV G s&&ob ζ s want [] G)<;>simp only[fR,xap,xaj]at h;simp only[xaJ,xbL]at fR;obtain⟨⟨⟨hds,hdG⟩,QE⟩,Za⟩:=fR;rw[<-LV,xag];have akA:∀σ,eS G fr σ->∀s,bV (o::r) s=false->σ s=fr s:=λσ ho s hs=>by
    rw[<-LV,ct,xaG]at hs;exact ho s hs.1
   have oF:∀σ,eS G fr σ->mN ζ cur R σ:=λσ ho=>by
    unfold mN at ju⊢;split
    ·trivial
    obtain⟨t,h1,h2,h3⟩:=ju;have vg:=h3;rw[<-LV,ct,xaG]at vg;exact⟨t,h1,(ho t vg.1).trans h2,vg.2⟩
   have Oh:∀σ,eS G fr σ->jy (ng kn G) σ:=λσ ho=>hkn.afd G ho;split at h
   ·rename_i b hb;have rE:=hkn s b hb;cases XH:(b==want)<;>simp only[XH,xap,xaj]at h
    ·have p8:b= !want:=by cases b<;>cases want<;>simp_all
     subst p8;refine pA G [] fr a hdG QE Za rE (λt ht=>by simp at ht) ha λa' dS=>?_;refine cN f q cur _ R _ H K KP h (oF _ (dw G fr)) (Oh _ (dw G fr)) a' w dS hw rest Q (λa2 w2 GF uv H2 k1 k2 k3 k5 k4=>hk a2 w2 GF uv H2 k1 k2 ?_ k5 k4) hp;intro x hx;have hx':=hx;rw[<-LV,ct,xaG]at hx';rw[k3 x hx'.2,dw G fr x hx'.1]
    have p8:b=want:=by cases b<;>cases want<;>simp_all
    subst p8;refine cN f q o.guard kn G fr H _ KP h ?_ hkn a w ha hw (R++rest) Q ?_ hp
    ·rw[hog];exact⟨s,k6,rE,QE⟩
    intro a' w' rB σ H' g1 g2 g3 g5 g4;refine cN f q cur rB R σ H' K KP g4 (oF σ g3) g5 a' w' g1 g2 rest Q (λa2 w2 GF uv H2 k1 k2 k3 k5 k4=>hk a2 w2 GF uv H2 k1 k2 ?_ k5 k4) hp;intro x hx;have hx':=hx;rw[<-LV,ct,xaG]at hx';rw[k3 x hx'.2,g3 x hx'.1]
   rename_i aaU;cases hqq:(q||gq)<;>simp only[hqq,xap,xaj]at h
   case true=>
    split at h<;>try exact h.elim
    rename_i p r' ;have hpg:cG p.guard cur=true:=by
     have:∀l:List Oper,jG cur l=p::r'->cG p.guard cur=true:=by
      intro l;induction l with
      |nil=>intro e;simp[jG]at e
      |cons x y ih=>
       intro e;simp only[jG]at e;cases hx:cG x.guard cur<;>simp only[hx,xap,xaj]at e
       ·exact ih e
       simp only[xaw]at e;rw[<-e.1];exact hx
     exact this _ hR
    cases hpk:(tj p&&eO n p.dst)<;>simp only[hpk,xap,xaj]at h;simp only[xaJ]at hpk;obtain⟨b,t,rE,h1,h2,h3⟩:=h;have iz:∀(a':Act) (w':World) (σ:Fr),cF ds n a' σ->Own g H w'->eS G fr σ->qX p σ=.bool t->wpList P ζ Q (p::r'++rest) a' w':=by
     intro a' w' σ dS eX ho hpv;have qk:=(oF σ ho).wanted (jM hpg) dS;simp only[xaS,wpList,qk,xa5];refine .inl ?_;unfold Oper.wp;rw[dS.eval,qW hpk.1 hpv w'];have To:BS G σ fr=σ:=by
      funext x
      simp only[BS];cases hx:bV G x
      ·exact(ho x hx).symm
      rfl
     have vg:=h3 σ;rw[To]at vg;refine cN f q cur _ r' _ H K KP vg ((oF σ ho).tail λs hs=>gz hs) ((Oh σ ho).del _ _) _ w' (dS.put hpk.2 _) eX rest Q (λa2 w2 GF uv H2 g1 g2 g3 g5 g4=>hk a2 w2 GF uv H2 g1 g2 ?_ g5 g4) hp;intro x hx;have hx':=hx;rw[<-LV,ct,xaG,dM,xaG]at hx';rw[g3 x hx'.2.2,gz hx'.2.1,ho x hx'.1]
    by_cases XH:b=want
    ·subst XH;have qs:=h1 rfl;rw[l6 rE]at qs;refine cN f true o.guard _ G fr H _ _ qs ?_ (hkn.put rE) a w ha hw (p::r'++rest) Q ?_ ?_
     ·rw[hog];exact⟨s,k6,rE,QE⟩
     ·intro a' w' rB σ H' g1 g2 g3 _ ⟨g4,g5⟩;subst g4;exact iz a' w' σ g1 g2 g3 g5
     intro _ _ _ _ _ _ _ h0;exact h0.elim
    have p8:b= !want:=by cases b<;>cases want<;>simp_all
    have lZ:=h2 p8;subst p8;rw[l6 rE]at lZ;refine pA G [] fr a hdG QE Za rE (λt ht=>by simp at ht) ha λa' dS=>?_;exact iz a' w _ dS hw (dw G fr) lZ
   case false=>
    obtain⟨b,rE,h1,h2⟩:=h;by_cases XH:b=want
    ·subst XH;have qs:=h1 rfl;rw[l6 rE]at qs;refine cN f q o.guard _ G fr H _ KP qs ?_ (hkn.put rE) a w ha hw (R++rest) Q ?_ hp
     ·rw[hog];exact⟨s,k6,rE,QE⟩
     intro a' w' rB σ H' g1 g2 g3 g5 g4;refine cN f q cur rB R σ H' K KP g4 (oF σ g3) g5 a' w' g1 g2 rest Q (λa2 w2 GF uv H2 k1 k2 k3 k5 k4=>hk a2 w2 GF uv H2 k1 k2 ?_ k5 k4) hp;intro x hx;have hx':=hx;rw[<-LV,ct,xaG]at hx';rw[k3 x hx'.2,g3 x hx'.1]
    have p8:b= !want:=by cases b<;>cases want<;>simp_all
    have lZ:=h2 p8;subst p8;rw[l6 rE]at lZ;refine pA G [] fr a hdG QE Za rE (λt ht=>by simp at ht) ha λa' dS=>?_;refine cN f q cur _ R _ H K KP lZ (oF _ (dw G fr)) ((Oh _ (dw G fr)).put (by rw[dw G fr s QE,rE])) a' w dS hw rest Q (λa2 w2 GF uv H2 k1 k2 k3 k5 k4=>hk a2 w2 GF uv H2 k1 k2 ?_ k5 k4) hp;intro x hx;have hx':=hx;rw[<-LV,ct,xaG]at hx';rw[k3 x hx'.2,dw G fr x hx'.1]
def dP{n:Nat}{ζ:Array Oper}{gq:Bool}:∀(f:Nat) (cur:Option (Nat×Bool)) (kn:List (Nat×Bool)) (l:List Oper) (fr:Fr) (H:Hp) (K:List (Nat×Bool)->Fr->Hp->Prop) (KP:List PanicEntry->Hp->Prop),
  fg P g n ζ gq f true cur kn l fr H K KP->mN ζ cur l fr->jy kn fr->∀(a:Act),cF ds n a fr->∀(rest:List Oper) (Q:Act->Prop),
  (∀a' rB σ,cF ds n a' σ->eS l fr σ->jy rB σ->K rB σ H->wpQuiet P ζ (Own g H) Q rest a')->wpQuiet P ζ (Own g H) Q (l++rest) a
 |0,_,_,_,_,_,_,_,h=>h.elim
 |f+1,cur,kn,[],fr,H,K,KP,h=>λ_ hkn a ha rest Q hk=>hk a kn fr ha (eS.refl _ _) hkn h
 |f+1,cur,kn,o::r,fr,H,K,KP,h=>by
  intro ju hkn a ha rest Q hk;unfold fg at h;cases hsg:cG o.guard cur<;>simp only[hsg,xap,xaj]at h
  case true=>
   have hg:=jM hsg;have qk:=ju.wanted hg ha;cases hd:eO n o.dst<;>simp only[hd,xap,xaj]at h;simp only[xaS,wpQuiet,qk,xa5];cases BI:wM o.op<;>simp only[BI,xap,xaj]at h
   case true=>
    obtain⟨v,hk',hr,hv⟩:=pH h;refine⟨v,λw hw=>?_,?_⟩
    ·unfold Oper.quietAt;rw[ha.eval,hr w hw];exact⟨rfl,rfl⟩
    exact dP f cur _ r _ H K KP hk' (ju.tail λs hs=>gz hs) (hkn.up hv) _ (ha.put hd v) rest Q (λa' rB σ h1 h3 h5 h4=>hk a' rB σ h1 h3.cons h5 h4)
   case false=>
    obtain⟨v,f',args,hr,hs,hk'⟩:=Lu h;refine⟨v,λw hw=>?_,?_⟩
    ·unfold Oper.quietAt;rw[ha.eval,hr w];refine⟨rfl,(hs w hw).mono λe w'' ⟨H',ho,he,hH⟩=>?_⟩;subst hH;exact⟨he,ho⟩
    exact dP f cur _ r _ H K KP hk' (ju.tail λs hs=>gz hs) (hkn.del _ _) _ (ha.put hd v) rest Q (λa' rB σ h1 h3 h5 h4=>hk a' rB σ h1 h3.cons h5 h4)
  case false=>
   split at h<;>try exact h.elim
   rename_i j want hog;split at h<;>try exact h.elim
   rename_i s k6;generalize hG:iB cur (o::r)=G at h;generalize hR:jG cur (o::r)=R at h;have LV:G++R=o::r:=by rw[<-hG,<-hR];exact tS _ _
   cases fR:(eO n (some s) &&jr n G&& !bV G s&&ob ζ s want [] G)<;>simp only[fR,xap,xaj]at h;simp only[xaJ,xbL]at fR;obtain⟨⟨⟨hds,hdG⟩,QE⟩,Za⟩:=fR;rw[<-LV,xag];have oF:∀σ,eS G fr σ->mN ζ cur R σ:=λσ ho=>by
    unfold mN at ju⊢;split
    ·trivial
    obtain⟨t,h1,h2,h3⟩:=ju;have vg:=h3;rw[<-LV,ct,xaG]at vg;exact⟨t,h1,(ho t vg.1).trans h2,vg.2⟩
   have Oh:∀σ,eS G fr σ->jy (ng kn G) σ:=λσ ho=>hkn.afd G ho;split at h
   ·rename_i b hb;have rE:=hkn s b hb;cases XH:(b==want)<;>simp only[XH,xap,xaj]at h
    ·have p8:b= !want:=by cases b<;>cases want<;>simp_all
     subst p8;refine qL G [] fr a hdG QE Za rE (λt ht=>by simp at ht) ha λa' dS=>?_;refine dP f cur _ R _ H K KP h (oF _ (dw G fr)) (Oh _ (dw G fr)) a' dS rest Q (λa2 GF uv k1 k3 k5 k4=>hk a2 GF uv k1 ?_ k5 k4);intro x hx;have hx':=hx;rw[<-LV,ct,xaG]at hx';rw[k3 x hx'.2,dw G fr x hx'.1]
    have p8:b=want:=by cases b<;>cases want<;>simp_all
    subst p8;refine dP f o.guard kn G fr H _ KP h ?_ hkn a ha (R++rest) Q ?_
    ·rw[hog];exact⟨s,k6,rE,QE⟩
    intro a' rB σ g1 g3 g5 g4;refine dP f cur rB R σ H K KP g4 (oF σ g3) g5 a' g1 rest Q (λa2 GF uv k1 k3 k5 k4=>hk a2 GF uv k1 ?_ k5 k4);intro x hx;have hx':=hx;rw[<-LV,ct,xaG]at hx';rw[k3 x hx'.2,g3 x hx'.1]
   rename_i aaU;simp only[Bool.true_or,xap]at h;split at h<;>try exact h.elim
   rename_i p r' ;have hpg:cG p.guard cur=true:=by
    have:∀l:List Oper,jG cur l=p::r'->cG p.guard cur=true:=by
     intro l;induction l with
     |nil=>intro e;simp[jG]at e
     |cons x y ih=>
      intro e;simp only[jG]at e;cases hx:cG x.guard cur<;>simp only[hx,xap,xaj]at e
      ·exact ih e
      simp only[xaw]at e;rw[<-e.1];exact hx
    exact this _ hR
   cases hpk:(tj p&&eO n p.dst)<;>simp only[hpk,xap,xaj]at h;simp only[xaJ]at hpk;obtain⟨b,t,rE,h1,h2,h3⟩:=h;have iz:∀(a':Act) (σ:Fr),cF ds n a' σ->eS G fr σ->qX p σ=.bool t->wpQuiet P ζ (Own g H) Q (p::r'++rest) a':=by
    intro a' σ dS ho hpv;have qk:=(oF σ ho).wanted (jM hpg) dS;simp only[xaS,wpQuiet,qk,xa5];refine⟨.bool t,λw hw=>?_,?_⟩
    ·unfold Oper.quietAt;rw[dS.eval,qW hpk.1 hpv w];exact⟨rfl,rfl⟩
    have To:BS G σ fr=σ:=by
     funext x
     simp only[BS];cases hx:bV G x
     ·exact(ho x hx).symm
     rfl
    have vg:=h3 σ;rw[To]at vg;refine dP f cur _ r' _ H K KP vg ((oF σ ho).tail λs hs=>gz hs) ((Oh σ ho).del _ _) _ (dS.put hpk.2 _) rest Q (λa2 GF uv g1 g3 g5 g4=>hk a2 GF uv g1 ?_ g5 g4);intro x hx;have hx':=hx;rw[<-LV,ct,xaG,dM,xaG]at hx';rw[g3 x hx'.2.2,gz hx'.2.1,ho x hx'.1]
   by_cases XH:b=want
   ·subst XH;have qs:=h1 rfl;rw[l6 rE]at qs;refine dP f o.guard _ G fr H _ _ qs ?_ (hkn.put rE) a ha (p::r'++rest) Q ?_
    ·rw[hog];exact⟨s,k6,rE,QE⟩
    intro a' rB σ g1 g3 _ ⟨_,g5⟩;exact iz a' σ g1 g3 g5
   have p8:b= !want:=by cases b<;>cases want<;>simp_all
   have lZ:=h2 p8;subst p8;rw[l6 rE]at lZ;refine qL G [] fr a hdG QE Za rE (λt ht=>by simp at ht) ha λa' dS=>?_;exact iz a' _ dS (dw G fr) lZ
end
variable{ζ:Array Oper}
section
variable{Q:Exit->Act->World->Prop}{md:Region.Mode}{S:Nat->World->World->Prop}{S0:World->Prop}
def dj(P:Program)(md:Region.Mode)(ζ:Array Oper)(Q:Exit->Act->World->Prop)(S:Nat->World->World->Prop):Nat->Array Bool->Act->World->Prop
 |0,υ,a,w=>Region.ready md ζ υ=[]/\Q .normal a w
 |n+1,υ,a,w=>(Region.ready md ζ υ=[]->Q .normal a w)/\
  ∀i∈Region.ready md ζ υ,wpOp P ζ Q i (λa' w'=>S i w w'/\dj P md ζ Q S n (υ.setIfInBounds i true) a' w') a w
def dj.any:∀{n:Nat} {υ:Array Bool} {a:Act} {w:World},dj P md ζ Q S n υ a w->wpAny P md ζ Q n υ a w
 |0,_,_,_,h=>h
 |_+1,_,_,_,h=>⟨h.1,λi hi=>wpOp_mono (λ_ _ h'=>h'.2.any) (h.2 i hi)⟩
def dj.mono{S':Nat->World->World->Prop}(hS:∀j w w',S j w w'->S' j w w'):∀{n:Nat} {υ:Array Bool} {a:Act} {w:World},dj P md ζ Q S n υ a w->dj P md ζ Q S' n υ a w
 |0,_,_,_,h=>h
 |_+1,_,_,_,h=>⟨h.1,λi hi=>wpOp_mono (λ_ _ h'=>⟨hS _ _ _ h'.1,h'.2.mono hS⟩) (h.2 i hi)⟩
def Se(md:Region.Mode)(ζ:Array Oper)(i j:Nat):Prop:=∀oj,ζ[j]? =some oj->∀e∈oj.after,Region.binds md e=true->e.on≠i
def fH(md:Region.Mode)(ζ:Array Oper)(υ:Array Bool):Prop:=∀j oj,ζ[j]? =some oj->υ.getD j true=true->∀e∈oj.after,Region.binds md e=true->υ.getD e.on true=true
inductive o9(md:Region.Mode)(ζ:Array Oper)(i:Nat):Nat->Prop
 |one {j:Nat} {oj:Oper} {e:Edge}:ζ[j]? =some oj->e∈oj.after->Region.binds md e=true->e.on=i->o9 md ζ i j
 |more {j:Nat} {oj:Oper} {e:Edge}:ζ[j]? =some oj->e∈oj.after->Region.binds md e=true->o9 md ζ i e.on->o9 md ζ i j
variable{i:Nat}
def BR{a:Array Bool}(h:a.getD i false=true):a.getD i true=true:=by
 rw[xau]at*;cases hg:a[i]? with
 |none=>rfl
 |some b=>rw[hg]at h;simpa using h
def um{a:Array Bool}{k:Nat}(h:a.getD k true=true):(a.setIfInBounds i true).getD k true=true:=by
 by_cases e:i=k
 ·subst e;rw[xau,xd0];split<;>rfl
 rw[getD_set_ne true e];exact h
variable{υ:Array Bool}{j:Nat}
def fH.waits(hc:fH md ζ υ)(h:o9 md ζ i j):υ.getD j true=true->υ.getD i true=true:=by
 induction h with
 |one h1 h2 h3 h4=>intro h;rw[<-h4];exact hc _ _ h1 h _ h2 h3
 |more h1 h2 h3 _ ih=>intro h;exact ih (hc _ _ h1 h _ h2 h3)
def fH.ready(hc:fH md ζ υ)(hj:j∈Region.ready md ζ υ)(h:o9 md ζ i j):υ.getD i true=true:=by
 obtain⟨_,oj,jF,aH⟩:=mem_ready.1 hj;cases h with
 |one h1 h2 h3 h4=>rw[jF]at h1;cases h1;rw[<-h4];exact BR (aH _ h2 h3)
 |more h1 h2 h3 h4=>rw[jF]at h1;cases h1;exact hc.waits h4 (BR (aH _ h2 h3))
def fH.step(hc:fH md ζ υ)(hj:j∈Region.ready md ζ υ):fH md ζ (υ.setIfInBounds j true):=by
 intro k ok hk hl e he hb;by_cases XD:j=k
 ·subst XD;obtain⟨_,oj,jF,aH⟩:=mem_ready.1 hj;rw[hk]at jF;cases jF;exact um (BR (aH e he hb))
 rw[getD_set_ne true XD]at hl;exact um (hc k ok hk hl e he hb)
def fH.none(n:Nat)(h:ζ.size=n):fH md ζ (Array.replicate n false):=by intro j oj hj hl;exfalso;have η:=(xaU.1 hj).1;rw[xau,xc7,xae zO]at hl;cases hl
def dj.first{i:Nat}{oi:Oper}{v:zV}(hi:ζ[i]? =some oi)(hsel:Region.noSelect ζ=true)(hQ:∀c a w,Q (.panic c) (a.put oi.dst v) w->Q (.panic c) a w)
 (hSi:∀w,S0 w->S i w w)(hS:∀j oj w w',ζ[j]? =some oj->j≠i->¬o9 md ζ i j->S0 w->S j w w'->S0 w'):∀(n:Nat) (υ:Array Bool) (a:Act) (w:World),fH md ζ υ->
   (∀j oj,ζ[j]? =some oj->j≠i->υ.getD j true=false->Se md ζ i j->oi.apart ζ oj=true)->i∈Region.ready md ζ υ->YieldsIf P ζ S0 oi v a->S0 w->
   dj P md ζ Q S n (υ.setIfInBounds i true) (a.put oi.dst v) w->dj P md ζ Q S (n+1) υ a w:=by
 have sel:=Region.noSelect_spec hsel;intro n;induction n with
 |zero=>
  intro υ a w hc hfree hr hy h0 h;refine⟨λe=>absurd hr (by rw[e];simp),λj hj=>?_⟩;by_cases e:j=i
  ·rw[e];exact hy.wpOp hi h0 ⟨hSi _ h0,h⟩
  exact absurd (ready_mono hj e) (by rw[h.1];simp)
 |succ n ih=>
  intro υ a w hc hfree hr hy h0 h;refine⟨λe=>absurd hr (by rw[e];simp),λj hj=>?_⟩;by_cases e:j=i
  ·rw[e];exact hy.wpOp hi h0 ⟨hSi _ h0,h⟩
  obtain⟨hun,oj,jF,aH⟩:=mem_ready.1 hj;have Γ:Se md ζ i j:=λo ho x hx hb he=>by
   rw[jF]at ho;cases ho;have h1:=aH x hx hb;have h2:=(mem_ready.1 hr).1;rw[he]at h1;rw[xau]at h1 h2;cases hg:υ[i]? with
   |none=>rw[hg]at h1;simp at h1
   |some y=>rw[hg]at h1 h2;simp at h1 h2;rw[h2]at h1;cases h1
  have hnw:¬o9 md ζ i j:=λhw=>by
   have h1:=hc.ready hj hw;rw[(mem_ready.1 hr).1]at h1;cases h1
  refine wpOp_mono ?_ (wpOp_putIf jF (hfree j oj jF e hun Γ) (λcs b=>sel i oi cs b hi) (λcs b=>sel j oj cs b jF) hQ hy (h.2 j (ready_mono hj e)));rintro a' w' ⟨hy',μ,jE⟩;refine⟨μ,ih _ _ _ (hc.step hj) (λk ok hk VB Xl Ee=>hfree k ok hk VB ?_ Ee) (ready_mono hr (xa9 e)) hy' (hS j oj w w' jF e hnw h0 μ) (by rw[Array.setIfInBounds_comm _ _ e];exact jE)⟩;by_cases XD:j=k
  ·rw[<-XD];exact hun
  rw[<-Xl,getD_set_ne true XD]
def dj.take{oi:Oper}{v:zV}{a:Act}(hc:fH md ζ υ)(hi:ζ[i]? =some oi)(hsel:Region.noSelect ζ=true)(hf:Region.free md ζ υ i=true)
 (hr:(Region.ready md ζ υ).contains i=true)(hQ:∀c a w,Q (.panic c) (a.put oi.dst v) w->Q (.panic c) a w)(hSi:∀w,S0 w->S i w w)(hS:∀j oj w w',ζ[j]? =some oj->j≠i->¬o9 md ζ i j->S0 w->S j w w'->S0 w')
 (hy:YieldsIf P ζ S0 oi v a)(h0:S0 w)(h:dj P md ζ Q S n (υ.setIfInBounds i true) (a.put oi.dst v) w):dj P md ζ Q S (n+1) υ a w:=
 dj.first hi hsel hQ hSi hS n υ a w hc (λj oj h1 h2 h3 h4=>Region.free_spec hi hf j oj h1 h2 h3 (h4 oj h1)) (by simpa using hr) hy h0 h
def dj.all{rs:zL}{a:Act}(hr:Region.ready md ζ υ=rs)(ξ:rs≠[])
 (h:∀i∈rs,wpOp P ζ Q i (λa' w'=>S i w w'/\dj P md ζ Q S n (υ.setIfInBounds i true) a' w') a w):dj P md ζ Q S (n+1) υ a w:=
 ⟨λh0=>absurd (hr▸h0) ξ,hr▸h⟩
def dj.done{υ:Array Bool}{a:Act}{w:World}(hr:Region.ready md ζ υ=[])(h:Q .normal a w):∀n,dj P md ζ Q S n υ a w
 |0=>⟨hr,h⟩
 |_+1=>⟨λ_=>h,by rw[hr];simp⟩
def onB(j:Oper)(i:Nat):Bool:=j.after.toList.any λe=>Nat.beq e.on i&&Region.binds .any e
def isN(P:Program):Op->Bool
 | .move _| .assign _| .pick .. | .nilCheck _| .fieldAddr .. | .field .. | .indexAddr .. | .unOp .. =>true
 | .slice t _ _ _ none=>match P.underlying t with|some (.slice _)=>true|_=>false
 | .binOp _ t _ _ _=>match P.underlying t with
  |some d=>match B7 d with| .other=>false|_=>true
  |none=>true
 |_=>false
def DJ{g:Gh}{o:Oper}(h:isN P o.op=true)(ρ:Operand->zV)(H H':Hp)(k:zV->Prop):Bp P g o ρ H k=Bp P g o ρ H' k:=by
 obtain⟨d,op,t,p,a,gd⟩:=o;cases op<;>first|rfl|(simp only[isN]at h;first|cases h|skip)
 case binOp op t x y z=>
  simp only[Bp];cases hu:P.underlying t with
  |none=>rfl
  |some d=>
   simp only[hu]at h;cases hb:B7 d<;>simp only[hb]at h⊢;cases h
 case slice t x lo hi m=>
  cases m with
  |none=>
   simp only[Bp];cases hu:P.underlying t with
   |none=>simp[hu]at h
   |some d=>cases d<;>first|rfl|(exfalso;simp[hu]at h)
  |some m=>cases h
def yE(P:Program)(o:Op):Bool:=wM o&& !isN P o
def Lx(P:Program)(ζ:Array Oper)(j:Nat):Bool:=match ζ[j]? with
 |some oj=>(List.range ζ.size).any λi=>match ζ[i]? with|some oi=>yE P oi.op&& !onB oj i&& !Nat.beq i j|none=>false
 |none=>true
def qy(ζ:Array Oper)(i:Nat):Nat->Nat->Bool
 |0,_=>false
 |n+1,j=>match ζ[j]? with
  |some oj=>oj.after.toList.any λe=>Region.binds .any e&& (Nat.beq e.on i||qy ζ i n e.on)
  |none=>false
def tQ{i:Nat}:∀{n j:Nat},qy ζ i n j=true->o9 .any ζ i j
 |0,j,h=>by simp[qy]at h
 |n+1,j,h=>by
  unfold qy at h;split at h
  ·rename_i oj jF;obtain⟨e,he,h2⟩:=xcF.1 h;simp only[xaJ,xbu]at h2;rcases h2.2 with h3|h3
   ·exact .one jF (xc3.1 he) h2.1 (xaH h3)
   exact .more jF (xc3.1 he) h2.1 (tQ h3)
  cases h
def tZ(P:Program)(ζ:Array Oper)(j:Nat):Bool:=(List.range ζ.size).any λi=>match ζ[i]? with|some oi=>yE P oi.op&& !qy ζ i 6 j&& !Nat.beq i j|none=>false
def MB(P:Program)(g:Gh)(R:Hp)(ζ:Array Oper)(j:Nat)(w w':World):Prop:=∀oj,ζ[j]? =some oj->(wM oj.op=true->w'=w)/\(wM oj.op=false->Own g [] w'/\(tZ P ζ j=true->Own g R w->Own g R w'))
def ry(P:Program)(g:Gh)(Xs:List Hp)(ζ:Array Oper)(j:Nat)(w w':World):Prop:=∀X∈Xs,MB P g X ζ j w w'
def m8{oi:Oper}(hi:ζ[i]? =some oi)(hp:yE P oi.op=true)(ξ:j≠i)(h:¬o9 .any ζ i j):tZ P ζ j=true:=by
 unfold tZ;rw[xcF];refine⟨i,xaN.2 (xaU.1 hi).1,?_⟩;simp only[hi,hp,xcr,xaJ,xbL];refine⟨?_,?_⟩
 ·cases hb:qy ζ i 6 j
  ·rfl
  exact absurd (tQ hb) h
 cases hb:Nat.beq i j
 ·rfl
 exact absurd (xaH hb).symm ξ
def wy(h:tZ P ζ j=true):Lx P ζ j=true:=by
 unfold tZ at h;obtain⟨i,hi,h2⟩:=xcF.1 h;unfold Lx;split
 ·rename_i oj jF;refine xcF.2 ⟨i,hi,?_⟩;split at h2
  ·rename_i oi pO;simp only[xaJ,xbL]at h2⊢;refine⟨⟨h2.1.1,?_⟩,h2.2⟩;cases hb:onB oj i
   ·rfl
   have h3:=h2.1.2;unfold qy at h3;simp only[jF]at h3;unfold onB at hb;obtain⟨e,he,h4⟩:=xcF.1 hb;rw[<-xex,xcF]at h3;refine absurd ⟨e,he,?_⟩ h3;simp only[xaJ,xbu]at h4⊢;exact⟨h4.2,.inl h4.1⟩
  cases h2
 rfl
end
section
def MJ(b:Bool)(p q:Prop):Prop:=cond b (p/\q) q
def MJ.of{b:Bool}{q:Prop}(h:MJ b p q):(b=true->p)/\q:=by
  cases b
  · exact⟨λe=>(by cases e),h⟩
  · exact⟨λ_=>h.1,h.2⟩
def Sg(P:Program)(ζ:Array Oper)(T:zL)(i:Nat):Bool:=cond T.isEmpty (Lx P ζ i) (tZ P ζ i)
variable{i:Nat}
def Sf{T:zL}(h:tZ P ζ i=true):Sg P ζ T i=true:=by
  unfold Sg;cases T.isEmpty
  · exact h
  · exact wy h
def OK(P:Program)(g:Gh)(n:Nat)(ζ:Array Oper)(R:Hp)(K:Fr->Hp->Prop):zL->Array Bool->Fr->Hp->Prop
  | [],υ,fr,H=>cond (Region.ready .any ζ υ).isEmpty (K fr H) False
  |i::r,υ,fr,H=>
    match ζ[i]? with
    |none=>False
    |some o=>
      cond (eO n o.dst&&o.guard.isNone)
        (cond (wM o.op)
          (cond (Region.free .any ζ υ i&& (Region.ready .any ζ υ).contains i)
            (Bp P g o (ev fr) R λv=>OK P g n ζ R K r (υ.setIfInBounds i true) (bt fr o.dst v) H) False)
          (cond (Region.ready .any ζ υ==[i])
            (NK P g o (ev fr) H (λv H'=>MJ (Lx P ζ i) (aO H' R) (OK P g n ζ R K r (υ.setIfInBounds i true) (bt fr o.dst v) H')) (λ_ _=>False)) False)) False
def sK(Q:Exit->Act->World->Prop):Exit->Act->World->Prop
  | .panic _,_,_=>False
  |e,a,w=>Q e a w
def kT{o:Oper}(h:o.guard.isNone=true)(y:Nat->Option Bool):Region.wanted o y=true:=by  unfold Region.wanted;cases hg:o.guard<;>simp_all
def Own.bA(h:Own g H w):Own g [] w:=Own.right (A:=H) (B:=[]) (by simpa using h)
def gG{υ:Array Bool}{k:Nat}(hun:υ.getD i true=false)(h:(υ.setIfInBounds i true).getD k true=false):υ.getD k true=false:=by
  by_cases e:i=k
  · rw[<-e];exact hun
  · rwa [getD_set_ne true e]at h
theorem sB{n:Nat}{ζ:Array Oper}{R:Hp}{K:Fr->Hp->Prop}{Q:Exit->Act->World->Prop}(hs:Region.noSelect ζ=true)(yN:Fr)
   (hk:∀a w fr H,cF ds n a fr->Own g H w->eS ζ.toList yN fr->K fr H->Q .normal a w):
    ∀(l:zL) (υ:Array Bool) (fr:Fr) (H:Hp),OK P g n ζ R K l υ fr H->∀(fuel:Nat),l.length<=fuel->fH .any ζ υ->∀(a:Act) (w:World),cF ds n a fr->Own g H w->((∃k ok,ζ[k]? =some ok/\yE P ok.op=true/\υ.getD k true=false)->Own g R w)->eS ζ.toList yN fr->
      dj P .any ζ (sK Q) (MB P g R ζ) fuel υ a w
  | [],υ,fr,H,h=>by
    intro fuel _ jR a w ha hw hR ho;unfold OK at h;cases hr:(Region.ready .any ζ υ).isEmpty<;>simp only[hr,xap,xaj]at h;exact dj.done (Q:=sK Q) (by simpa using hr) (hk a w fr H ha hw ho h) fuel
  |i::r,υ,fr,H,h=>by
    intro fuel hfuel jR a w ha hw hR ho;unfold OK at h;split at h<;>try exact h.elim
    rename_i o pO;have hmem:o∈ζ.toList:=xc3.2 (Array.mem_of_getElem? pO);have hout:∀v,eS ζ.toList yN (bt fr o.dst v):=λv s μ=>by
      rw[gz,ho s μ];have:∀l:List Oper,o∈l->bV l s=false->bV [({(default:Oper)with dst:=o.dst})] s=false:=by
        intro l;induction l with
        |nil=>intro h;simp at h
        |cons x y ih=>
          intro hm hi;rw[dM,xaG]at hi;rcases xak.1 hm with rfl|hm
          · exact hi.1
          · exact ih hm hi.2
      exact this _ hmem μ
    cases hc:(eO n o.dst&&o.guard.isNone)<;>simp only[hc,xap,xaj]at h;simp only[xaJ]at hc;obtain⟨fuel,rfl⟩:∃f,fuel=f+1:=⟨fuel-1,by simp only[xax]at hfuel;omega⟩;have GX:r.length<=fuel:=by simp only[xax]at hfuel;omega
    cases BI:wM o.op<;>simp only[BI,xap,xaj]at h
    case true=>
      cases kM:(Region.free .any ζ υ i&& (Region.ready .any ζ υ).contains i)<;>simp only[kM,xap,xaj]at h;simp only[xaJ]at kM;have hun:=(mem_ready.1 (by simpa using kM.2:i∈Region.ready .any ζ υ)).1;have je:∀w,MB P g R ζ i w w:=λw oj nU=>⟨λ_=>rfl,λhn=>(by rw[pO]at nU;cases nU;rw[BI]at hn;cases hn)⟩;cases hn:isN P o.op
      case true=>
        rw[DJ hn (ev fr) R []]at h;obtain⟨v,hk',hr⟩:=mi h;refine dj.take jR (S0:=Own g []) pO hs kM.1 kM.2 (λ_ _ _ h=>h) (λw _=>je w) (λj oj w w' jF hj Γ h0 hk=>?_) (.inl ⟨kT hc.2 _,λw' eX=>by rw[ha.eval];exact hr w' eX⟩) hw.bA ?_
        · cases BG:wM oj.op
          · exact((hk oj jF).2 BG).1
          · rw[(hk oj jF).1 BG];exact h0
        · refine sB hs yN hk r _ _ H hk' fuel GX (jR.step (by simpa using kM.2)) _ w (ha.put hc.1 v) hw ?_ (hout v)
          rintro⟨k,ok,uR,sj,qo⟩;exact hR ⟨k,ok,uR,sj,gG hun qo⟩
      case false=>
        obtain⟨v,hk',hr⟩:=mi h;have hrd:yE P o.op=true:=by simp[yE,BI,hn]
        have TT:Own g R w:=hR ⟨i,o,pO,hrd,hun⟩;refine dj.take jR (S0:=Own g R) pO hs kM.1 kM.2 (λ_ _ _ h=>h) (λw _=>je w) (λj oj w w' jF hj Γ h0 hk=>?_) (.inl ⟨kT hc.2 _,λw' eX=>by rw[ha.eval];exact hr w' eX⟩) TT ?_
        · cases BG:wM oj.op
          · exact((hk oj jF).2 BG).2 (m8 pO hrd hj Γ) h0
          · rw[(hk oj jF).1 BG];exact h0
        · exact sB hs yN hk r _ _ H hk' fuel GX (jR.step (by simpa using kM.2)) _ w (ha.put hc.1 v) hw (λ_=>TT) (hout v)
    case false=>
      cases kM:(Region.ready .any ζ υ==[i])<;>simp only[kM,xap,xaj]at h;have hrd:=xcT.1 kM;have Fu:i∈Region.ready .any ζ υ:=by rw[hrd];simp
      refine dj.all hrd zI λj hj=>?_;simp only[xaE]at hj;subst hj;unfold wpOp;simp only[pO,kT hc.2,xa5];refine .inl ?_;unfold Oper.wp;rw[ha.eval];refine(wu (pS fr) h w hw).upon (λv H' w' cA hb=>?_) (λch H' w' _ h0=>h0.elim);obtain⟨he,hk'⟩:=hb.of;refine⟨λoj nU=>⟨λhp=>(by rw[pO]at nU;cases nU;rw[BI]at hp;cases hp),λ_=>⟨cA.bA,λhn _=>he (wy hn) _ _ cA⟩⟩,sB hs yN hk r _ _ H' hk' fuel GX (jR.step Fu) _ w' (ha.put hc.1 v) cA ?_ (hout v)⟩;rintro⟨k,ok,uR,sj,qo⟩;refine he (wy ?_) _ _ cA;have VB:j≠k:=λe=>by
        subst e;rw[xau,xd0]at qo;have:=(mem_ready.1 Fu).1;rw[xau]at this;split at qo
        · simp at qo
        · rename_i η;rw[xcA zO]at this;simp at this
      rw[getD_set_ne true VB]at qo;refine m8 uR sj VB λhw=>?_;rw[jR.ready Fu hw]at qo;cases qo
abbrev Mk:=Obj×(Nat->zV)
def Vh(elem size bytes:Nat)(zero:zV)(l c:zV)(k:Mk->Prop):Prop:=
  ∃kl kc ln cn,l=.int kl (ln:Nat)/\c=.int kc (cn:Nat)/\ln<=cn/\(cn:Int)<=9223372036854775807/\cn*bytes<=281474976710656/\
    k (.cells (madeCells zero.cells (cn*size)) elem (0,0),λb=>.slice (some ⟨b,0,none⟩) ln cn)
def Vs(P:Program)(t len:Nat)(parts:List (Nat×zV))(k:Mk->Prop):Prop:=
  ∃cs e n z,P.underlying t=some (.slice e)/\dm P e=some n/\fh P e=some z/\len*n<=2^24/\
      Instr.fill (λi=>some (i*n,n)) ((Array.range (len*n)).map (z.cells[· %z.cells.size]!)) parts=some cs/\k (.cells cs e (0,0),λb=>.slice (some ⟨b,0,none⟩) len len)
def Claim(P:Program)(o:Oper)(ρ:Operand->zV)(k:Mk->Prop):Prop:=
  match o.op with
  | .alloc t=>match fh P t with
    |some z=>k (.cells z.cells t (0,0),λb=>.pointer (some ⟨b,0,none⟩))
    |none=>False
  | .makeMap _ none=>k (.map #[] 0,λb=>.map (some b))
  | .makeSlice t l c=>match P.underlying t with
    |some (.slice e)=>match dm P e,xD P e,fh P e with
      |some n,some b,some z=>Vh e n b z (ρ l) (ρ c) k
      |_,_,_=>False
    |_=>False
  | .buildSlice t len parts=>Vs P t len (parts.toList.map λp=>(p.1,ρ p.2)) k
  |_=>False
def AK(P:Program)(o:Oper)(ρ:Operand->zV)(x:Mk):Prop:=∀w,(execOp ρ o).run P w=.ok (.value (x.2 w.heap.size)) (w.alloc x.1)
def Claim.makes{o:Oper}{ρ:Operand->zV}{k:Mk->Prop}(h:Claim P o ρ k):∃x,AK P o ρ x/\k x:=by
  unfold Claim at h;split at h
  · rename_i t Δ
    split at h<;>try exact h.elim
    rename_i z hz;obtain⟨i,hi,yJ⟩:=cL hz;refine⟨_,λw=>?_,h⟩;simp only[execOp,Δ];simp[Instr.alloc,dY hi yJ,newVar,newRow]
  · rename_i t Δ
    refine⟨_,λw=>?_,h⟩;simp only[execOp,Δ];simp[Instr.makeMap]
  · rename_i t l c Δ
    split at h<;>try exact h.elim
    rename_i e ht;split at h<;>try exact h.elim
    rename_i n b z hn hb hz;obtain⟨i,hi,hin⟩:=bJ hn;obtain⟨i',hi',yJ⟩:=cL hz;obtain⟨i2,LN,Ac⟩:=oY hb;have e1:i'=i:=xbb (hi'.symm.trans hi);have e2:i2=i:=xbb (LN.symm.trans hi);subst e1;subst e2;obtain⟨kl,kc,ln,cn,hl,hc,hlc,cB,hby,hk⟩:=h;subst hin;subst Ac;refine⟨_,λw=>?_,hk⟩;have e1:IntKind.i64.wrap (ln:Int)=ln:=IntWalk.i64_in _ zO;have e2:IntKind.i64.wrap (cn:Int)=cn:=IntWalk.i64_in _ zO;have e3:¬((i2.bytes:Int)*(cn:Int)>281474976710656):=by
      have:((cn*i2.bytes:Nat):Int)<=281474976710656:=by omega
      rw[Int.mul_comm];push_cast at this;omega
    have e4:¬((cn:Int)<ln):=by omega
    simp only[execOp,Δ];by_cases h0:cn*i2.size=0
    · simp[Instr.makeSlice,run_underlying ht,asInt,asIntOf,typeInfo,hi,hl,hc,e1,e2,e3,e4,sizeOf,zeroValue,yJ,newRow,madeCells,h0,show¬((cn:Int)<0)from by omega,show¬((ln:Int)<0)from by omega]
      have:Array.range 0=#[]:=rfl;simp[this]
    · simp[Instr.makeSlice,run_underlying ht,asInt,asIntOf,typeInfo,hi,hl,hc,e1,e2,e3,e4,sizeOf,zeroValue,yJ,newRow,madeCells,h0,show¬((cn:Int)<0)from by omega,show¬((ln:Int)<0)from by omega]
  · rename_i t len parts Δ
    obtain⟨cs,e,n,z,ht,hn,hz,hl,hf,hk⟩:=h;obtain⟨i,hi,hin⟩:=bJ hn;obtain⟨i',hi',yJ⟩:=cL hz;have:i'=i:=xbb (hi'.symm.trans hi);subst this;subst hin;refine⟨_,λw=>?_,hk⟩;have hl':¬(len*i'.size>2^24):=by omega
    have Ab:(parts.map λ(x:Nat×Operand)=>(x.1,ρ x.2)).toList=parts.toList.map λp=>(p.1,ρ p.2):=by rw[xd3]
    by_cases h0:len*i'.size=0
    · simp only[execOp,Δ,Instr.buildSlice,Sem.run_bind,run_underlying ht,Result.andThen_ok,run_sizeOf hi,hl',xa2,h0,xa5,Sem.run_pure]
      rw[h0]at hf;have hr0:Array.range 0=#[]:=rfl;simp only[hr0,xeG,List.map_toArray,xcd]at hf⊢;rw[Ab,hf];simp[newRow]
    · simp only[execOp,Δ,Instr.buildSlice,Sem.run_bind,run_underlying ht,Result.andThen_ok,run_sizeOf hi,hl',xa2,h0,dY hi yJ,Sem.run_pure]
      simp[hf,newRow]
  · exact h.elim
abbrev KL:=List (Nat×Mk)
def marks:KL->Nat->Array Bool->Array Bool
  | [],_,l=>l
  |x::r,i,l=>marks r i (cond (Nat.beq x.1 i) l (l.setIfInBounds x.1 true))
def fG(ζ:Array Oper)(o:Oper)(i:Nat)(υ:Array Bool):KL->Bool
  | []=>true
  |x::r=>(Nat.beq x.1 i||υ.getD x.1 true||(match ζ[x.1]? with|some of=>of.apart ζ o|none=>false)) &&fG ζ o i υ r
def fY:KL->Nat->Option Mk
  | [],_=>none
  |x::r,i=>cond (Nat.beq x.1 i) (some x.2) (fY r i)
def U4(υ:Array Bool):KL->Bool
  | []=>true
  |x::r=>υ.getD x.1 false&&U4 υ r
inductive Hn
  |e
  |h(m:Nat)(L I:zL)(a b:Hn)
def Hn.m:Hn->Nat| .e=>0| .h m _ _ _ _=>m
def Hn.L:Hn->zL| .e=>[]| .h _ L _ _ _=>L
def Hn.I:Hn->zL| .e=>[]| .h _ _ I _ _=>I
def Hn.a:Hn->Hn| .e=>.e| .h _ _ _ a _=>a
def Hn.b:Hn->Hn| .e=>.e| .h _ _ _ _ b=>b
def Br(v:zV)(t f:Prop):Prop:=∃b,v=.bool b/\(b=true->t)/\(b=false->f)
def aau(p:Oper)(fr:Fr):zV:=
  match p.op with
  | .move x=>ev fr x
  | .assign x=>ev fr x
  |_=>qX p fr
def Oc(p:Oper):Bool:=match p.op with| .pick .. =>true| .move _=>true| .assign _=>true|_=>false
def Sy{p:Oper}{t:Bool}(hp:Oc p=true)(h:aau p fr=.bool t)(w:World):(execOp (ev fr) p).run P w=.ok (.value (.bool t)) w:=by
  unfold Oc at hp;unfold aau at h;split at h
  · rename_i x Δ;simp only[execOp,Δ,h];rfl
  · rename_i x Δ;simp only[execOp,Δ,h];rfl
  · rename_i h1 h2
    split at hp
    · rename_i Δ;exact qW (by unfold tj;rw[Δ]) h w
    · rename_i x Δ;exact absurd Δ (h1 x)
    · rename_i x Δ;exact absurd Δ (h2 x)
    · cases hp
def SE{p:Oper}(hp:Oc p=true):wM p.op=true:=by  unfold Oc at hp;split at hp<;>first|(rename_i Δ;rw[Δ];rfl)|cases hp
def A1(ζ:Array Oper)(fr:Fr)(o:Oper):Option Bool:=
  match o.guard with
  |none=>some true
  |some (j,want)=>match eY ζ j with
    |none=>none
    |some s=>match fr s with
      | .bool b=>some (b==want)
      | .tuple _=>some false
      |_=>none
def qc(P:Program)(g:Gh)(n:Nat)(ζ:Array Oper)(R:Hp)(K:Fr->Hp->Prop):Hn->KL->Array Bool->Fr->Hp->Prop
  | .e,cl,υ,fr,H=>cond ((Region.ready .any ζ υ).isEmpty&&U4 υ cl) (K fr H) False
  | .h m L T pa pb,cl,υ,fr,H=>
    match L with
    | [i]=>
      match ζ[i]? with
      |none=>False
      |some o=>
        cond (Nat.beq m 1)
          (cond (eO n o.dst&&o.guard.isNone&& !wM o.op&& !υ.getD i true&&fG ζ o i υ cl&& (match fY cl i with|none=>true|some _=>false))
            (Claim P o (ev fr) λx=>qc P g n ζ R K pa ((i,x)::cl) υ fr H) False)
          (cond (eO n o.dst&&fG ζ o i υ cl&& (Region.ready .any ζ υ).contains i)
            (match A1 ζ fr o with
            |none=>False
            |some false=>cond (Region.free .any ζ υ i&& (match fY cl i with|none=>true|some _=>false)) (qc P g n ζ R K pa cl (υ.setIfInBounds i true) (bt fr o.dst undef) H) False
            |some true=>
              cond (Nat.beq m 3) (cond (Oc o&&Region.free .any ζ υ i) (match aau o fr with
                | .bool b=>qc P g n ζ R K pa cl (υ.setIfInBounds i true) (bt fr o.dst (.bool b)) H
                |_=>False) False)
              (cond (wM o.op)
                (cond (Region.free .any ζ υ i)
                  (Bp P g o (ev fr) R λv=>cond (Nat.beq m 0) (qc P g n ζ R K pa cl (υ.setIfInBounds i true) (bt fr o.dst v) H)
                    (Br v (qc P g n ζ R K pa cl (υ.setIfInBounds i true) (bt fr o.dst (.bool true)) H) (qc P g n ζ R K pb cl (υ.setIfInBounds i true) (bt fr o.dst (.bool false)) H))) False)
                (cond (Region.ready .any ζ (marks cl i υ)==[i])
                  (match fY cl i with
                    |some x=>O7 H x.1 λb H'=>qc P g n ζ R K pa cl (υ.setIfInBounds i true) (bt fr o.dst (x.2 b)) H'
                    |none=>∀F,NK P (g.add F) o (ev fr) H (λv H'=>MJ (Sg P ζ T i) (aO H' R) (qc P g n ζ R K pa cl (υ.setIfInBounds i true) (bt fr o.dst v) H')) (λ_ _=>False)) False))) False)
    | []=>cond (Nat.beq m 4) (∃R',aO H R'/\aO R' R/\qc P g n ζ R' K pa cl υ fr H) False
    |_=>False
def Ui{cl:KL}{i:Nat}{x:Mk}(h:fY cl i=some x):(i,x)∈cl:=by
  induction cl with
  |nil=>simp[fY]at h
  |cons y r ih=>
    simp only[fY]at h;cases hb:Nat.beq y.1 i<;>simp only[hb,xap,xaj]at h
    · exact xbv _ (ih h)
    · have:=xaH hb
      simp only[xat]at h;subst this;subst h;exact xbA
def OA{cl:KL}{i:Nat}(h:i∈cl.map Prod.fst):∃x,fY cl i=some x:=by
  induction cl with
  |nil=>simp at h
  |cons y r ih=>
    simp only[fY];cases hb:Nat.beq y.1 i
    · simp only[xaj]
      rw[xay,xak]at h;rcases h with h|h
      · subst h;simp at hb
      · exact ih h
    · exact⟨_,rfl⟩
def kD{cl:KL}{x:Mk}(h:fY cl i=some x):i∈cl.map Prod.fst:=xal.2 ⟨_,Ui h,rfl⟩
def zu{l:KL}{i:Nat}{b:Array Bool}{k:Nat}:(marks l i b)[k]? =if k∈l.map Prod.fst/\k≠i/\k<b.size then some true else b[k]? :=by
  induction l generalizing b with
  |nil=>simp[marks]
  |cons y r ih=>
    simp only[marks];cases hy:Nat.beq y.1 i
    · have ξ:y.1≠i:=λe=>by rw[e]at hy;simp at hy
      simp only[xaj,ih,Array.size_setIfInBounds];by_cases hk:k∈r.map Prod.fst/\k≠i/\k<b.size
      · rw[xae hk,xae ⟨by rw[xay];exact xbv _ hk.1,hk.2⟩]
      · rw[xac hk]
        by_cases e:y.1=k
        · subst e
          by_cases η:y.1<b.size
          · rw[xae ⟨by simp,ξ,η⟩,xbQ η]
          · rw[xac (λh=>η h.2.2),xcA zP,xcA zO]
        · rw[xbV e,xac]
          rintro⟨h1,h2⟩;rw[xay,xak]at h1;rcases h1 with h1|h1
          · exact e h1.symm
          · exact hk ⟨h1,h2⟩
    · have he:=xaH hy
      simp only[xap,ih];by_cases hk:k∈r.map Prod.fst/\k≠i/\k<b.size
      · rw[xae hk,xae ⟨by rw[xay];exact xbv _ hk.1,hk.2⟩]
      · rw[xac hk,xac]
        rintro⟨h1,h2,h3⟩;rw[xay,xak]at h1;rcases h1 with h1|h1
        · exact h2 (h1.trans he)
        · exact hk ⟨h1,h2,h3⟩
def gk{ζ:Array Oper}{o:Oper}{i:Nat}{υ:Array Bool}{l:KL}(h:fG ζ o i υ l=true){f:Nat}(hf:f∈l.map Prod.fst)(ξ:f≠i)(hun:υ.getD f true=false):
    ∃of,ζ[f]? =some of/\of.apart ζ o=true:=by
  induction l with
  |nil=>simp at hf
  |cons x r ih=>
    simp only[fG,xaJ,xbu]at h;rw[xay]at hf;rcases xak.1 hf with rfl|hf
    · rcases h.1 with(h1|h1)|h1
      · exact absurd (xaH h1) ξ
      · rw[hun]at h1;simp at h1
      · split at h1
        · rename_i of ho;exact⟨of,ho,h1⟩
        · simp at h1
    · exact ih h.2 hf
def HM{x y:Oper}(h:x.apart ζ y=true):y.apart ζ x=true:=by  unfold Oper.apart at*;cases hx:x.dst<;>cases hy:y.dst<;>simp_all;exact λe=>h.1.2 e.symm
def tB{l l':Array Bool}(h:Region.free .any ζ l i=true)(hm:∀k,l.getD k true=true->l'.getD k true=true):Region.free .any ζ l' i=true:=by
  unfold Region.free at*;split at h
  · simp at h
  · rename_i oi pO
    rw[xc8]at h⊢;intro j hj;have:=h j hj;simp only[xbu]at this⊢;rcases this with(h1|h1)|h1
    · exact .inl (.inl h1)
    · exact .inl (.inr (hm j h1))
    · exact .inr h1
abbrev Early:=List (Nat×Nat×Mk)
def Zw(E:Early):Hp:=E.map λx=>(x.2.1,x.2.2.1)
structure abX(P:Program)(n:Nat)(ζ:Array Oper)(υ:Array Bool)(cl:KL)(fr:Fr)(j:Nat)(x:Mk)(o:Oper):Prop where
  op:ζ[j]? =some o
  DM:wM o.op=false
  dst:eO n o.dst=true
  gd:o.guard.isNone=true
  makes:AK P o (ev fr) x
  far:∀k y,fY cl k=some y->k≠j->υ.getD k true=false->∃ok,ζ[k]? =some ok/\ok.apart ζ o=true
structure mM(P:Program)(n:Nat)(ζ:Array Oper)(cl:KL)(υ la:Array Bool)(E:Early)(fr fa:Fr):Prop where
  mem:∀x∈E,fY cl x.1=some x.2.2/\υ.getD x.1 true=false
  nd:(E.map Prod.fst).Nodup
  la:∀k,la[k]? =if k∈E.map Prod.fst then some true else υ[k]?
  out:∀s,(∀x∈E,eY ζ x.1≠some s)->fa s=fr s
  at_:∀x∈E,∀d,eY ζ x.1=some d->fa d=x.2.2.2 x.2.1
  cl:∀j x,fY cl j=some x->υ.getD j true=false->∃o,abX P n ζ υ cl fr j x o
section
variable {n:Nat} {ζ:Array Oper} {cl:KL} {υ la:Array Bool} {E:Early} {fr fa:Fr}
def mM.more(h:mM P n ζ cl υ la E fr fa){k:Nat}{b:Bool}(hk:υ.getD k b=true):la.getD k b=true:=by
  have:=h.la k;rw[xau]at hk⊢;rw[this];split
  · rfl
  · exact hk
def mM.ready(h:mM P n ζ cl υ la E fr fa)(hi:i∉E.map Prod.fst)(hr:i∈Region.ready .any ζ υ):i∈Region.ready .any ζ la:=by  rw[mem_ready]at hr⊢;obtain⟨h1,o,ho,aH⟩:=hr;refine⟨?_,o,ho,λe he hb=>h.more (aH e he hb)⟩;have:=h.la i;rw[xau]at h1⊢;rw[this,xac hi];exact h1
def YE{k:Nat}(h:(υ.setIfInBounds i true).getD k true=false):i≠k/\υ.getD k true=false:=by
  by_cases e:i=k
  · subst e
    rw[xau]at h;rcases xeB i υ.size with hl|hl
    · rw[xbQ hl]at h;cases h
    · rw[xcA (by simpa using hl)]at h;cases h
  · exact⟨e,by rwa [getD_set_ne true e]at h⟩
def AK.congr{o o':Oper}{x:Mk}{v:zV}(h:AK P o (ev fr) x)(hs:∀cs b,o.op≠.select cs b)(hap:o.apart ζ o'=true):AK P o (ev (bt fr o'.dst v)) x:=by
  have e:execOp (ev (bt fr o'.dst v)) o=execOp (ev fr) o:=by
    refine execOp_congr o hs λy hy=>?_;cases y with
    |tmp t=>
      obtain⟨_,_,h3⟩:=Oper.apart_spec hap;cases hd:o'.dst with
      |none=>rfl
      |some d=>
        have:=h3 d hd;have ξ:Nat.beq t d=false:=by
          cases hb:Nat.beq t d
          · rfl
          · have e:=xaH hb;subst e
            refine absurd ?_ this;exact xad _ (List.mem_filterMap.2 ⟨Operand.tmp t,by simpa using hy,rfl⟩)
        simp only[ev,bt,ξ,xaj]
    |const v=>rfl
    |global g=>rfl
    |func f=>rfl
  intro w;rw[e];exact h w
def UE(hs:Region.noSelect ζ=true)(fX:∀j x,fY cl j=some x->υ.getD j true=false->∃o,abX P n ζ υ cl fr j x o){o:Oper}(hap:fG ζ o i υ cl=true)(v:zV):
    ∀j x,fY cl j=some x->(υ.setIfInBounds i true).getD j true=false->∃oj,abX P n ζ (υ.setIfInBounds i true) cl (bt fr o.dst v) j x oj:=by  intro j x hx hun;obtain⟨ξ,Xl⟩:=YE hun;obtain⟨oj,h⟩:=fX j x hx Xl;obtain⟨oj',cA,aim⟩:=gk hap (kD hx) (xa9 ξ) Xl;rw[h.op]at cA;cases cA;exact⟨oj,h.op,h.DM,h.dst,h.gd,h.makes.congr (λcs b=>Region.noSelect_spec hs j oj cs b h.op) aim,λk y hk hkj Th=>h.far k y hk hkj (YE Th).2⟩
def mM.step(hs:Region.noSelect ζ=true)(h:mM P n ζ cl υ la E fr fa){o:Oper}(pO:ζ[i]? =some o)(hi:i∉E.map Prod.fst)
   (wW:fG ζ o i υ cl=true)(v:zV):mM P n ζ cl (υ.setIfInBounds i true) (la.setIfInBounds i true) E (bt fr o.dst v) (bt fa o.dst v):=by
  have hap:∀x∈E,∃of,ζ[x.1]? =some of/\of.apart ζ o=true:=λx hx=>
      gk wW (kD (h.mem x hx).1) (λe=>hi (e▸xaT hx)) (h.mem x hx).2
  have hsz:la[i]? =υ[i]? :=by rw[h.la i,xac hi]
  refine⟨λx hx=>⟨(h.mem x hx).1,?_⟩,h.nd,λk=>?_,λs hs=>?_,λx hx d hd=>?_,UE hs h.cl wW v⟩
  · have ξ:i≠x.1:=λe=>hi (e▸xaT hx)
    rw[getD_set_ne true ξ];exact(h.mem x hx).2
  · by_cases e:i=k
    · subst e
      rw[xac hi,xcs,xcs];simp only[xa5];have:i<la.size↔i<υ.size:=by
        constructor
        · intro η;rw[xbD η]at hsz;exact(xaU.1 hsz.symm).1
        · intro η;rw[xbD η]at hsz;exact(xaU.1 hsz).1
      by_cases η:i<la.size
      · rw[xae η,xae (this.1 η)]
      · rw[xac η,xac (λx=>η (this.2 x))]
    · rw[xbV e,xbV e];exact h.la k
  · cases hd:o.dst with
    |none=>exact h.out s hs
    |some d=>
      simp only[bt];cases Nat.beq s d
      · exact h.out s hs
      · rfl
  · obtain⟨of,Xw,hap⟩:=hap x hx
    obtain⟨h1,h2,h3⟩:=Oper.apart_spec hap;have aaP:of.dst=some d:=by simpa[eY,Xw]using hd
    have:=h2 d aaP;cases hdo:o.dst with
    |none=>exact h.at_ x hx d hd
    |some d'=>
      have ξ:Nat.beq d d'=false:=by
        cases hb:Nat.beq d d'
        · rfl
        · have e:=xaH hb;subst e;exact absurd hdo this
      simp only[bt,ξ,xaj];exact h.at_ x hx d hd
def mM.exec(h:mM P n ζ cl υ la E fr fa){o:Oper}
   (hap:∀x∈E,∃of,ζ[x.1]? =some of/\of.apart ζ o=true)(hs:∀cs b,o.op≠.select cs b):execOp (ev fa) o=execOp (ev fr) o:=by
  refine execOp_congr o hs λx hx=>?_;cases x with
  |tmp t=>
    refine h.out t λy hy e=>?_;obtain⟨of,Xw,hap⟩:=hap y hy;obtain⟨h1,_,_⟩:=Oper.apart_spec hap;apply h1 t (by simpa[eY,Xw]using e);exact xad _ (List.mem_filterMap.2 ⟨.tmp t,by simpa using hx,rfl⟩)
  |const v=>rfl
  |global g=>rfl
  |func f=>rfl
def mM.early(h:mM P n ζ cl υ la E fr fa){j b:Nat}{x:Mk}(hj:fY cl j=some x)(Ti:j∉E.map Prod.fst)(hun:υ.getD j true=false)
   {o:Oper}(ho:ζ[j]? =some o):mM P n ζ cl υ (la.setIfInBounds j true) ((j,b,x)::E) fr (bt fa o.dst (x.2 b)):=by
  obtain⟨o',fX⟩:=h.cl j x hj hun;have cA:=fX.op;rw[ho]at cA;cases cA;have abb:∀y∈E,∃of,ζ[y.1]? =some of/\of.apart ζ o=true:=λy hy=>
    fX.far y.1 _ (h.mem y hy).1 (λe=>Ti (e▸xaT hy)) (h.mem y hy).2
  have ahL:j<la.size:=by
    have hl:=h.la j;rw[xac Ti]at hl;have h2:j<υ.size:=by
      rcases xeB j υ.size with h2|h2
      · exact h2
      · rw[xau,xcA h2]at hun;simp at hun
    rw[xbD h2]at hl;exact(xaU.1 hl).1
  refine⟨λy hy=>?_,?_,λk=>?_,λs hs=>?_,λy hy d hd=>?_,h.cl⟩
  · rcases xak.1 hy with rfl|hy
    · exact⟨hj,hun⟩
    · exact h.mem y hy
  · rw[xay,xaX];exact⟨Ti,h.nd⟩
  · by_cases e:j=k
    · subst e;rw[xae zI,xbQ ahL]
    · rw[xbV e,h.la k]
      by_cases hk:k∈E.map Prod.fst
      · rw[xae hk,xae (by rw[xay];exact xbv _ hk)]
      · rw[xac hk,xac]
        rw[xay,xak];rintro(h1|hk')
        · exact e h1.symm
        · exact hk hk'
  · have ξ:=hs (j,b,x) zI
    simp only[eY,ho]at ξ;rw[show bt fa o.dst (x.2 b) s=fa s from ?_]
    · exact h.out s λy hy=>hs y (by simp[hy])
    · cases hd:o.dst with
      |none=>rfl
      |some d=>
        rw[hd]at ξ;have:Nat.beq s d=false:=by
          cases hb:Nat.beq s d
          · rfl
          · exact absurd (xch some (xaH hb).symm) ξ
        simp only[bt,this,xaj]
  · rcases xak.1 hy with rfl|hy
    · simp only[eY,ho]at hd
      rw[hd];simp[bt]
    · obtain⟨of,Xw,hap⟩:=abb y hy
      obtain⟨_,h2,_⟩:=Oper.apart_spec hap;have aaP:of.dst=some d:=by simpa[eY,Xw]using hd
      have:=h2 d aaP;cases hdo:o.dst with
      |none=>exact h.at_ y hy d hd
      |some d'=>
        have ξ:Nat.beq d d'=false:=by
          cases hb:Nat.beq d d'
          · rfl
          · have e:=xaH hb;subst e;exact absurd hdo this
        simp only[bt,ξ,xaj];exact h.at_ y hy d hd
def mM.A5(hs:Region.noSelect ζ=true){E1 E2:Early}{j b:Nat}{x:Mk}(h:mM P n ζ cl υ la (E1++(j,b,x)::E2) fr fa){o:Oper}(ho:ζ[j]? =some o)(wW:fG ζ o j υ cl=true):
    mM P n ζ cl (υ.setIfInBounds j true) la (E1++E2) (bt fr o.dst (x.2 b)) fa:=by
  have fQ:=h.nd;rw[xaz,xay]at fQ;have VC:j∉(E1++E2).map Prod.fst:=by
    have:=(xaO.nodup_iff.1 fQ);rw[xaX]at this;rw[xaz];exact this.1
  have hsub:∀y,y∈E1++E2->y∈E1++(j,b,x)::E2:=λy hy=>by
    rcases xao.1 hy with hy|hy<;>simp[hy]
  have QC:j<υ.size:=by
    have h2:=(h.mem (j,b,x) zI).2;rcases xeB j υ.size with h3|h3
    · exact h3
    · simp only at h2;rw[xau,xcA h3]at h2;simp at h2
  refine⟨λy hy=>⟨(h.mem y (hsub y hy)).1,?_⟩,?_,λk=>?_,λs hs=>?_,λy hy d hd=>h.at_ y (hsub y hy) d hd,UE hs h.cl wW _⟩
  · have ξ:j≠y.1:=λe=>VC (e▸xaT hy)
    rw[getD_set_ne true ξ];exact(h.mem y (hsub y hy)).2
  · have:=(xaO.nodup_iff.1 fQ)
    rw[xaX]at this;rw[xaz];exact this.2
  · have hk:=h.la k
    by_cases e:j=k
    · subst e
      rw[xae zI]at hk;rw[hk,xac VC,xbQ QC]
    · rw[xbV e,hk]
      have:k∈(E1++(j,b,x)::E2).map Prod.fst↔k∈(E1++E2).map Prod.fst:=by
        simp only[xaz,xay,xao,xak];constructor
        · rintro(h|rfl|h)
          · exact .inl h
          · exact absurd rfl e
          · exact .inr h
        · rintro(h|h)
          · exact .inl h
          · exact .inr (.inr h)
      simp only[this]
  · by_cases e:eY ζ j=some s
    · rw[h.at_ (j,b,x) zI s e]
      simp only[eY,ho]at e;rw[e];simp[bt]
    · rw[h.out s λy hy=>?_]
      · simp only[eY,ho]at e
        cases hd:o.dst with
        |none=>rfl
        |some d=>
          rw[hd]at e;have:Nat.beq s d=false:=by
            cases hb:Nat.beq s d
            · rfl
            · exact absurd (xch some (xaH hb).symm) e
          simp only[bt,this,xaj]
      · rcases xao.1 hy with hy|hy
        · exact hs y (by simp[hy])
        · rcases xak.1 hy with rfl|hy
          · exact e
          · exact hs y (by simp[hy])
def mM.afi(h:mM P n ζ cl υ la E fr fa){o:Oper}{x:Mk}(ho:ζ[i]? =some o)(hd:eO n o.dst=true)(hg:o.guard.isNone=true)(hp:wM o.op=false)(hun:υ.getD i true=false)
   (hap:fG ζ o i υ cl=true)(Γ:fY cl i=none)(hm:AK P o (ev fr) x):mM P n ζ ((i,x)::cl) υ la E fr fa:=by
  have ξ:∀j y,fY cl j=some y->j≠i:=λj y hj e=>by subst e;rw[Γ]at hj;cases hj
  have hex:∀j y,fY cl j=some y->fY ((i,x)::cl) j=some y:=λj y hj=>by
    have:Nat.beq i j=false:=by
      cases hb:Nat.beq i j
      · rfl
      · exact absurd (xaH hb).symm (ξ j y hj)
    simp only[fY,this,xaj];exact hj
  have aa4:∀j y,fY ((i,x)::cl) j=some y->(j=i/\y=x)\/(j≠i/\fY cl j=some y):=λj y hj=>by
    simp only[fY]at hj;cases hb:Nat.beq i j<;>simp only[hb,xap,xaj]at hj
    · exact .inr ⟨λe=>by subst e;simp at hb,hj⟩
    · exact .inl ⟨(xaH hb).symm,by simpa using hj.symm⟩
  refine⟨λy hy=>⟨hex _ _ (h.mem y hy).1,(h.mem y hy).2⟩,h.nd,h.la,h.out,h.at_,λj y hj hu=>?_⟩;rcases aa4 j y hj with⟨rfl,rfl⟩|⟨hji,QD⟩
  · refine⟨o,ho,hp,hd,hg,hm,λk z hk hkj Th=>?_⟩
    rcases aa4 k z hk with⟨rfl,rfl⟩|⟨_,hk⟩
    · exact absurd rfl hkj
    · exact gk hap (kD hk) hkj Th
  · obtain⟨oj,hc⟩:=h.cl j y QD hu
    refine⟨oj,hc.op,hc.DM,hc.dst,hc.gd,hc.makes,λk z hk hkj Th=>?_⟩;rcases aa4 k z hk with⟨rfl,rfl⟩|⟨_,hk⟩
    · obtain⟨oj',h1,h2⟩:=gk hap (kD QD) hji hu
      rw[hc.op]at h1;cases h1;exact⟨o,ho,HM h2⟩
    · exact hc.far k z hk hkj Th
end
def OC{E1 E2:Early}{y:Nat×Nat×Mk}:(Zw (E1++y::E2)).Perm ((y.2.1,y.2.2.1)::Zw (E1++E2)):=by  unfold Zw;rw[xaz,xay,xaz];exact xaO
def cnt:List Bool->Nat
  | []=>0
  |b::r=>cond b 0 1+cnt r
def Me:∀(l:List Bool) (i:Nat),l[i]? =some false->cnt (l.set i true)+1=cnt l
  | [],i,h=>by simp at h
  |b::r,0,h=>by simp only[xcR,xat]at h;subst h;simp only[xcH,cnt,xap,xaj];omega
  |b::r,i+1,h=>by
    simp only[List.getElem?_cons_succ]at h;have:=Me r i h;simp only[xdM,cnt];omega
def yO(n:Nat):cnt (List.replicate n false)=n:=by
  induction n with
  |zero=>rfl
  |succ n ih=>simp only[xdc,cnt,ih,xaj];omega
def gx{a:Array Bool}{i:Nat}(h:a.getD i true=false):a[i]? =some false:=by
  rw[xau]at h;cases hg:a[i]? with
  |none=>rw[hg]at h;simp at h
  |some b=>rw[hg]at h;simpa using h
def oX{a:Array Bool}{fuel:Nat}(h:a.getD i true=false)(hf:cnt a.toList<=fuel):∃f,fuel=f+1/\cnt (a.setIfInBounds i true).toList<=f:=by
  have h1:=gx h;have h2:a.toList[i]? =some false:=by rw[xbd];exact h1
  have:=Me _ _ h2;refine⟨fuel-1,by omega,?_⟩;have:(a.setIfInBounds i true).toList=a.toList.set i true:=by simp
  rw[this];omega
def O2{υ:Array Bool}{l:KL}(h:U4 υ l=true){f:Nat}(hf:f∈l.map Prod.fst):υ.getD f false=true:=by
  induction l with
  |nil=>simp at hf
  |cons x r ih=>
    simp only[U4,xaJ]at h;rw[xay]at hf;rcases xak.1 hf with rfl|hf
    · exact h.1
    · exact ih h.2 hf
def X0{a:Array Bool}{i:Nat}(h:a.getD i false=true):a.getD i true=true:=by
  rw[xau]at*;cases hg:a[i]? with
  |none=>rfl
  |some b=>rw[hg]at h;simpa using h
theorem eR{n:Nat}{ζ:Array Oper}{R:Hp}{Xs:List Hp}{K:Fr->Hp->Prop}{Q:Exit->Act->World->Prop}(hs:Region.noSelect ζ=true)(CI:R∈Xs)(QK:∀X∈Xs,aO R X)(yN:Fr)
   (hk:∀a w fr H,cF ds n a fr->Own g H w->eS ζ.toList yN fr->K fr H->Q .normal a w):
    ∀(fuel:Nat) (l:Hn) (cl:KL) (υ:Array Bool) (fr:Fr) (H:Hp),qc P g n ζ R K l cl υ fr H->∀(E:Early) (la:Array Bool) (fa:Fr),cnt la.toList<=fuel->mM P n ζ cl υ la E fr fa->fH .any ζ la->
      ∀(a:Act) (w:World),cF ds n a fa->Own (g.add (Zw E)) H w->((∃k ok,ζ[k]? =some ok/\yE P ok.op=true/\la.getD k true=false)->Own g R w)->eS ζ.toList yN fr->
      dj P .any ζ (sK Q) (ry P g Xs ζ) fuel la a w
  |fuel,.e,cl,υ,fr,H,h=>by
    intro E la fa hfuel hE jR a w ha hw hR ho;unfold qc at h;cases hr:((Region.ready .any ζ υ).isEmpty&&U4 υ cl)<;>simp only[hr,xap,xaj]at h;simp only[xaJ]at hr;have hr':Region.ready .any ζ υ=[]:=by simpa using hr.1
    have hE0:E=[]:=by
      cases E with
      |nil=>rfl
      |cons x y=>
        have h1:=hE.mem x zI;have h2:=X0 (O2 hr.2 (kD h1.1));rw[h1.2]at h2;cases h2
    subst hE0;have hfa:fa=fr:=by funext s;exact hE.out s zI
    subst hfa;refine dj.done (Q:=sK Q) ?_ (hk a w fa H ha hw ho h) fuel;rw[xcI]at hr'⊢;intro k hk';refine hr' k ?_;rw[mem_ready]at hk'⊢;obtain⟨h1,o,h2,h3⟩:=hk';have hla:=λk=>hE.la k;simp only[xcd,xaQ,xa2]at hla;refine⟨?_,o,h2,λe he hb=>?_⟩
    · rw[xau,<-hla,<-xau];exact h1
    · rw[xau,<-hla,<-xau];exact h3 e he hb
  |fuel,.h m L T pa pb,cl,υ,fr,H,h=>by
    intro E la fa hfuel hE jR a w ha hw hR ho;have h0:=h;unfold qc at h;split at h<;>try exact h.elim
    rotate_left
    · cases h4:Nat.beq m 4<;>simp only[h4,xap,xaj]at h
      obtain⟨R',Qz,q7,hk'⟩:=h;exact(eR (R:=R') (Xs:=R'::Xs) hs (.head _) (λX hX=>by
        rcases xak.1 hX with rfl|hX
        · exact .refl _
        · exact q7.trans (QK X hX)) yN hk fuel pa cl υ fr H hk' E la fa hfuel hE jR a w ha hw (λ_=>Qz _ _ (Own.fD.2 hw).left) ho).mono λj w w' hK X hX=>hK X (.tail _ hX)
    rename_i i;split at h<;>try exact h.elim
    rename_i o pO;cases h1:Nat.beq m 1<;>simp only[h1,xap,xaj]at h
    case true=>
      cases hc:(eO n o.dst&&o.guard.isNone&& !wM o.op&& !υ.getD i true&&fG ζ o i υ cl&& (match fY cl i with|none=>true|some _=>false))<;>simp only[hc,xap,xaj]at h;simp only[xaJ,xbL]at hc;obtain⟨⟨⟨⟨⟨hd,hg⟩,hp⟩,hun⟩,hap⟩,Γ⟩:=hc;have Ee:fY cl i=none:=by
        split at Γ
        · assumption
        · cases Γ
      obtain⟨x,hm,hk'⟩:=h.makes;exact eR hs CI QK yN hk fuel pa _ υ fr H hk' E la fa hfuel (hE.afi pO hd hg hp hun hap Ee hm) jR a w ha hw hR ho
    have hmem:o∈ζ.toList:=xc3.2 (Array.mem_of_getElem? pO);have hout:∀v,eS ζ.toList yN (bt fr o.dst v):=λv s μ=>by
      rw[gz,ho s μ];have:∀l:List Oper,o∈l->bV l s=false->bV [({(default:Oper)with dst:=o.dst})] s=false:=by
        intro l;induction l with
        |nil=>intro h;simp at h
        |cons x y ih=>
          intro hm hi;rw[dM,xaG]at hi;rcases xak.1 hm with rfl|hm
          · exact hi.1
          · exact ih hm hi.2
      exact this _ hmem μ
    cases hc:(eO n o.dst&&fG ζ o i υ cl&& (Region.ready .any ζ υ).contains i)<;>simp only[hc,xap,xaj]at h;simp only[xaJ]at hc;obtain⟨⟨hd,wW⟩,ahr⟩:=hc;have Fu:i∈Region.ready .any ζ υ:=by simpa using ahr
    have hun:=(mem_ready.1 Fu).1;have hap:i∉E.map Prod.fst->∀x∈E,∃of,ζ[x.1]? =some of/\of.apart ζ o=true:=λhi x hx=>
      gk wW (kD (hE.mem x hx).1) (λe=>hi (e▸xaT hx)) (hE.mem x hx).2
    have hsel:∀cs b,o.op≠.select cs b:=λcs b=>Region.noSelect_spec hs i o cs b pO;have acS:∀j,j∈Region.ready .any ζ la->j∉E.map Prod.fst/\υ.getD j true=false:=λj hj=>by
      have h1:=gx (mem_ready.1 hj).1;have h2:=hE.la j;by_cases Ti:j∈E.map Prod.fst
      · rw[xae Ti,h1]at h2;cases h2
      · rw[xac Ti,h1]at h2
        exact⟨Ti,by rw[xau,<-h2];rfl⟩
    have early:∀f',fuel=f'+1->(∀j,la.getD j true=false->cnt (la.setIfInBounds j true).toList<=f')->∀j x,j∈Region.ready .any ζ la->fY cl j=some x->
        wpOp P ζ (sK Q) j (λa' w'=>ry P g Xs ζ j w w'/\dj P .any ζ (sK Q) (ry P g Xs ζ) f' (la.setIfInBounds j true) a' w') a w:=by
      intro f' Oj mD j x hj hjf;obtain⟨Ti,QC⟩:=acS j hj;obtain⟨oj,fX⟩:=hE.cl j x hjf QC;have jF:=fX.op;have BG:=fX.DM;have hgj:=fX.gd;have ah9:execOp (ev fa) oj=execOp (ev fr) oj:=hE.exec (λy hy=>fX.far y.1 _ (hE.mem y hy).1 (λe=>Ti (e▸xaT hy)) (hE.mem y hy).2) (λcs b=>Region.noSelect_spec hs j oj cs b jF);unfold wpOp;simp only[jF,kT hgj,xa5];refine .inl ?_;unfold Oper.wp;rw[ha.eval,ah9,fX.makes w];simp only[Oper.upon];have QJ:∀{A:Hp},Own g A w->Own g A (w.alloc x.1):=λhA=>(hA.alloc x.1).tail;refine⟨λX _ oj' nU=>⟨λhp=>?_,λ_=>⟨QJ (Own.fD.2 hw).bA,λ_ h1=>QJ h1⟩⟩,?_⟩
      · rw[jF]at nU;cases nU;rw[BG]at hp;cases hp
      · have Ek:=hE.early (b:=w.heap.size) hjf Ti QC jF
        refine eR hs CI QK yN hk f' (.h m [i] T pa pb) cl υ fr H h0 ((j,w.heap.size,x)::E) _ _ (mD j (mem_ready.1 hj).1) Ek (jR.step hj) _ _ (ha.put fX.dst _) ?_ ?_ ho
        · have h1:=hw.alloc x.1
          have h2:Own (g.add (Zw E)) (H++[(w.heap.size,x.1)]) (w.alloc x.1):=h1.perm (by exact(xbk (l₁:=[(w.heap.size,x.1)]) (l₂:=H)));have h3:=Own.fD.1 h2;exact h3
        · rintro⟨k,ok,uR,sj,qo⟩
          refine QJ (hR ⟨k,ok,uR,sj,gG (mem_ready.1 hj).1 qo⟩)
    have qk:∀b,A1 ζ fr o=some b->i∉E.map Prod.fst->Region.wanted o (yielded ζ a.tmps)=b:=by
      intro b hb wU;unfold A1 at hb;unfold Region.wanted;split at hb
      · rename_i hg;simp only[hg];simpa using hb
      · rename_i j want hg
        simp only[hg];split at hb<;>try (cases hb;done)
        rename_i s k6;rw[mT ha k6];have rE:fa s=fr s:=hE.out s λy hy e=>by
          obtain⟨of,Xw,hap⟩:=hap wU y hy;obtain⟨h1,_,_⟩:=Oper.apart_spec hap;refine h1 s (by simpa[eY,Xw]using e) ?_;refine xaa _ ?_;rw[hg];unfold eY at k6;cases hj:ζ[j]? with
          |none=>rw[hj]at k6;cases k6
          |some oj=>rw[hj]at k6;simp only at k6;simp[hj,k6]
        rw[rE];split at hb
        · rename_i c hc;rw[hc];simp only[xat]at hb;subst hb;cases c<;>cases want<;>rfl
        · rename_i c hc;rw[hc];simp only[xat]at hb;subst hb;cases want<;>rfl
        · cases hb
    split at h<;>try exact h.elim
    · -- not wanted
      rename_i hwd;cases kM:(Region.free .any ζ υ i&& (match fY cl i with|none=>true|some _=>false))<;>simp only[kM,xap,xaj]at h;simp only[xaJ]at kM;have Ee:fY cl i=none:=by
        have:=kM.2;split at this
        · assumption
        · cases this
      have wU:i∉E.map Prod.fst:=λhm=>by
        obtain⟨x,hx,e⟩:=xal.1 hm;have:=(hE.mem x hx).1;rw[e,Ee]at this;cases this
      have nk:=hE.ready wU Fu;have tp:=(mem_ready.1 nk).1;obtain⟨f',rfl,mD⟩:=oX tp hfuel;have hfree:=tB (l':=la) kM.1 (λk hk=>hE.more hk);have On:(Region.ready .any ζ la).contains i=true:=by simpa using nk
      refine dj.take jR (S0:=Own g []) pO hs hfree On (λ_ _ _ h=>h) (λw hw X _ oj jF=>⟨λ_=>rfl,λ_=>⟨hw,λ_ h=>h⟩⟩) (λj oj w w' jF hj Γ h0 hk=>?_) (.inr ⟨qk false hwd wU,rfl⟩) (Own.fD.2 hw).bA ?_
      · cases BG:wM oj.op
        · exact((hk R CI oj jF).2 BG).1
        · rw[(hk R CI oj jF).1 BG];exact h0
      · refine eR hs CI QK yN hk f' pa cl _ _ H h E _ _ mD (hE.step hs pO wU wW _) (jR.step nk) _ w (ha.put hd _) hw ?_ (hout _)
        rintro⟨k,ok,uR,sj,qo⟩;exact hR ⟨k,ok,uR,sj,gG tp qo⟩
    rename_i hwd;have hgw:=qk true hwd;have Zi:∀v f' GC a' w',(cond (Nat.beq m 0) (qc P g n ζ R K pa cl (υ.setIfInBounds i true) (bt fr o.dst v) H)
                    (Br v (qc P g n ζ R K pa cl (υ.setIfInBounds i true) (bt fr o.dst (.bool true)) H) (qc P g n ζ R K pb cl (υ.setIfInBounds i true) (bt fr o.dst (.bool false)) H)))->
        cnt GC.toList<=f'->mM P n ζ cl (υ.setIfInBounds i true) GC E (bt fr o.dst v) (bt fa o.dst v)->fH .any ζ GC->cF ds n a' (bt fa o.dst v)->Own (g.add (Zw E)) H w'->
        ((∃k ok,ζ[k]? =some ok/\yE P ok.op=true/\GC.getD k true=false)->Own g R w')->f'<fuel->dj P .any ζ (sK Q) (ry P g Xs ζ) f' GC a' w':=by
      intro v f' GC a' w' hv h1 h2 TA h3 h4 h5 η;cases hm:Nat.beq m 0<;>simp only[hm,xap,xaj]at hv
      · obtain⟨b,rfl,hb1,uj⟩:=hv
        cases b
        · exact eR hs CI QK yN hk f' pb cl _ _ H (uj rfl) E GC _ h1 h2 TA a' w' h3 h4 h5 (hout _)
        · exact eR hs CI QK yN hk f' pa cl _ _ H (hb1 rfl) E GC _ h1 h2 TA a' w' h3 h4 h5 (hout _)
      · exact eR hs CI QK yN hk f' pa cl _ _ H hv E GC _ h1 h2 TA a' w' h3 h4 h5 (hout _)
    cases h3:Nat.beq m 3<;>simp only[h3,xap,xaj]at h
    case true=>
      cases kM:(Oc o&&Region.free .any ζ υ i)<;>simp only[kM,xap,xaj]at h;simp only[xaJ]at kM;split at h<;>try exact h.elim
      rename_i b hpv;have BI:wM o.op=true:=SE kM.1;have wU:i∉E.map Prod.fst:=λhm=>by
        obtain⟨x,hx,e⟩:=xal.1 hm;have h2:=hE.mem x hx;obtain⟨o',fX⟩:=hE.cl _ _ h2.1 h2.2;have h3:=fX.op;rw[e,pO]at h3;cases h3;have:=fX.DM;rw[BI]at this;cases this
      have nk:=hE.ready wU Fu;have tp:=(mem_ready.1 nk).1;obtain⟨f',rfl,mD⟩:=oX tp hfuel;have hfree:=tB (l':=la) kM.2 (λk hk=>hE.more hk);have On:(Region.ready .any ζ la).contains i=true:=by simpa using nk
      have je:∀w,ry P g Xs ζ i w w:=λw X _ oj nU=>⟨λ_=>rfl,λhn=>(by rw[pO]at nU;cases nU;rw[BI]at hn;cases hn)⟩;have Ol:=hE.exec (hap wU) hsel;refine dj.take jR (S0:=Own g []) pO hs hfree On (λ_ _ _ h=>h) (λw _=>je w) (λj oj w w' jF hj Γ h0 hk=>?_) (.inl ⟨hgw wU,λw' eX=>by rw[ha.eval,Ol];exact Sy kM.1 hpv w'⟩) (Own.fD.2 hw).bA ?_
      · cases BG:wM oj.op
        · exact((hk R CI oj jF).2 BG).1
        · rw[(hk R CI oj jF).1 BG];exact h0
      · refine eR hs CI QK yN hk f' pa cl _ _ H h E _ _ mD (hE.step hs pO wU wW _) (jR.step nk) _ w (ha.put hd _) hw ?_ (hout _)
        rintro⟨k,ok,uR,sj,qo⟩;exact hR ⟨k,ok,uR,sj,gG tp qo⟩
    cases BI:wM o.op<;>simp only[BI,xap,xaj]at h
    case true=>
      cases kM:(Region.free .any ζ υ i)<;>simp only[kM,xap,xaj]at h;have wU:i∉E.map Prod.fst:=λhm=>by
        obtain⟨x,hx,e⟩:=xal.1 hm;have h2:=hE.mem x hx;obtain⟨o',fX⟩:=hE.cl _ _ h2.1 h2.2;have h3:=fX.op;rw[e,pO]at h3;cases h3;have:=fX.DM;rw[BI]at this;cases this
      have nk:=hE.ready wU Fu;have tp:=(mem_ready.1 nk).1;obtain⟨f',rfl,mD⟩:=oX tp hfuel;have hfree:=tB (l':=la) kM (λk hk=>hE.more hk);have On:(Region.ready .any ζ la).contains i=true:=by simpa using nk
      have je:∀w,ry P g Xs ζ i w w:=λw X _ oj nU=>⟨λ_=>rfl,λhn=>(by rw[pO]at nU;cases nU;rw[BI]at hn;cases hn)⟩;have hst:=λv=>hE.step hs pO wU wW v;have Ol:=hE.exec (hap wU) hsel;cases hn:isN P o.op
      case true=>
        rw[DJ hn (ev fr) R []]at h;obtain⟨v,hk',hr⟩:=mi h;refine dj.take jR (S0:=Own g []) pO hs hfree On (λ_ _ _ h=>h) (λw _=>je w) (λj oj w w' jF hj Γ h0 hk=>?_) (.inl ⟨hgw wU,λw' eX=>by rw[ha.eval,Ol];exact hr w' eX⟩) (Own.fD.2 hw).bA ?_
        · cases BG:wM oj.op
          · exact((hk R CI oj jF).2 BG).1
          · rw[(hk R CI oj jF).1 BG];exact h0
        · refine Zi v f' _ _ w hk' mD (hst v) (jR.step nk) (ha.put hd v) hw ?_ zO
          rintro⟨k,ok,uR,sj,qo⟩;exact hR ⟨k,ok,uR,sj,gG tp qo⟩
      case false=>
        obtain⟨v,hk',hr⟩:=mi h;have hrd:yE P o.op=true:=by simp[yE,BI,hn]
        have TT:Own g R w:=hR ⟨i,o,pO,hrd,tp⟩;refine dj.take jR (S0:=Own g R) pO hs hfree On (λ_ _ _ h=>h) (λw _=>je w) (λj oj w w' jF hj Γ h0 hk=>?_) (.inl ⟨hgw wU,λw' eX=>by rw[ha.eval,Ol];exact hr w' eX⟩) TT ?_
        · cases BG:wM oj.op
          · exact((hk R CI oj jF).2 BG).2 (m8 pO hrd hj Γ) h0
          · rw[(hk R CI oj jF).1 BG];exact h0
        · exact Zi v f' _ _ w hk' mD (hst v) (jR.step nk) (ha.put hd v) hw (λ_=>TT) zO
    case false=>
      cases kM:(Region.ready .any ζ (marks cl i υ)==[i])<;>simp only[kM,xap,xaj]at h;have hrd:=xcT.1 kM;by_cases wU:i∈E.map Prod.fst
      · obtain⟨⟨i',b,x⟩,hx,e⟩:=xal.1 wU
        simp only at e;subst e;have hex:fY cl i'=some x:=(hE.mem _ hx).1;simp only[hex]at h;obtain⟨E1,E2,rfl⟩:=xdh hx;have jQ:Own (g.add (Zw (E1++E2))) ((b,x.1)::H) w:=by
          have h1:=(Own.fD.2 hw).perm ((xbB H (OC (E1:=E1) (E2:=E2) (y:=(i',b,x)))).trans xaO);exact(Own.fD (A:=(b,x.1)::H)).1 h1
        have hb:b∉H.map Prod.fst:=by
          have:=jQ.nd;rw[xaS,xay,xaX,xaz,xao]at this;exact λh=>this.1 (.inl h)
        exact eR hs CI QK yN hk fuel pa cl _ _ _ (h b hb) (E1++E2) la fa hfuel (hE.A5 hs pO wW) jR a w ha jQ hR (hout _)
      · have nk:=hE.ready wU Fu
        have tp:=(mem_ready.1 nk).1;obtain⟨f',rfl,mD⟩:=oX tp hfuel;have aek:∀j,la.getD j true=false->cnt (la.setIfInBounds j true).toList<=f':=λj hj=>by
          obtain⟨f2,h1,h2⟩:=oX hj hfuel;have:f2=f':=by omega
          subst this;exact h2
        have hst:=λv=>hE.step hs pO wU wW v;have Ol:=hE.exec (hap wU) hsel;refine dj.all rfl (λe=>by rw[e]at nk;simp at nk) λj hj=>?_;by_cases hji:j=i
        · subst hji
          have DM:∀oj,ζ[j]? =some oj->wM oj.op=true->False:=λoj jF hp=>by rw[pO]at jF;cases jF;rw[BI]at hp;cases hp
          unfold wpOp;simp only[pO,hgw wU,xa5];refine .inl ?_;unfold Oper.wp;rw[ha.eval,Ol];cases hex:fY cl j with
          |none=>
            simp only[hex]at h;have h:=h (Zw E);refine(wu (pS fr) h w hw).upon (λv H' w' cA hb=>?_) (λch H' w' _ h0=>h0.elim);obtain⟨he,hk'⟩:=hb.of;have aeB:tZ P ζ j=true->Own g R w':=λhn=>(Own.fD.2 (he (Sf hn) _ _ cA)).left;refine⟨λX hX oj nU=>⟨λhp=>(DM oj nU hp).elim,λ_=>⟨(Own.fD.2 cA).bA,λhn _=>QK X hX _ _ (aeB hn)⟩⟩,eR hs CI QK yN hk f' pa cl _ _ H' hk' E _ _ mD (hst v) (jR.step nk) _ w' (ha.put hd v) cA ?_ (hout v)⟩;rintro⟨k,ok,uR,sj,qo⟩;refine aeB ?_;have VB:j≠k:=λe=>by
              subst e;have h1:=gx tp;have η:=(xaU.1 h1).1;rw[xau,xbQ η]at qo;cases qo
            rw[getD_set_ne true VB]at qo;refine m8 uR sj VB λhw=>?_;rw[jR.ready nk hw]at qo;cases qo
          |some x=>
            simp only[hex]at h;obtain⟨oj,fX⟩:=hE.cl j x hex hun;have jF:=fX.op;rw[pO]at jF;cases jF;rw[fX.makes w];simp only[Oper.upon];have QJ:∀{A:Hp},Own g A w->Own g A (w.alloc x.1):=λhA=>(hA.alloc x.1).tail;refine⟨λX _ oj nU=>⟨λhp=>(DM oj nU hp).elim,λ_=>⟨QJ (Own.fD.2 hw).bA,λ_ h1=>QJ h1⟩⟩,?_⟩;refine eR hs CI QK yN hk f' pa cl _ _ _ (h _ hw.fresh) E _ _ mD (hst _) (jR.step nk) _ _ (ha.put hd _) (hw.alloc x.1) ?_ (hout _);rintro⟨k,ok,uR,sj,qo⟩;exact QJ (hR ⟨k,ok,uR,sj,gG tp qo⟩)
        · obtain⟨Ti,QC⟩:=acS j hj
          cases ad0:fY cl j with
          |some x=>exact early f' rfl aek j x hj ad0
          |none=>
          refine absurd ?_ hji;have hjf:j∉cl.map Prod.fst:=λhm=>by
            obtain⟨x,hx⟩:=OA hm;rw[ad0]at hx;cases hx
          have hjm:j∈Region.ready .any ζ (marks cl i υ):=by
            obtain⟨_,oj,jF,aH⟩:=mem_ready.1 hj;rw[mem_ready];refine⟨?_,oj,jF,λe he hb=>?_⟩
            · rw[xau,zu,xac (λh=>hjf h.1),<-xau];exact QC
            · have h1:=aH e he hb
              have h2:=hE.la e.on;rw[xau]at h1⊢;rw[zu];by_cases hm:e.on∈E.map Prod.fst
              · obtain⟨x,hx,e2⟩:=xal.1 hm
                have wS:=gx (hE.mem x hx).2;rw[e2]at wS;have η:=(xaU.1 wS).1;rw[xae ⟨e2▸kD (hE.mem x hx).1,λe3=>wU (e3▸hm),η⟩];rfl
              · rw[xac hm]at h2
                split
                · rfl
                · rw[<-h2];exact h1
          rw[hrd]at hjm;simpa using hjm
  termination_by fuel l=>(fuel,SizeOf.sizeOf l)
def uL:Code->Nat->Bool
  | .region _ ζ _,s=>bV ζ.toList s
  | .seq a b,s=>uL a s||uL b s
  | .cond _ a b,s=>uL a s||uL b s
  | .block _ c,s=>uL c s
  | .loop c,s=>uL c s
  | .skip,_=>false
  | .ret,_=>false
  | .exit _,_=>false
  |_,_=>true
def WQ(c:Code):zL->Bool
  | []=>true
  |s::r=> !uL c s&&WQ c r
def xj(s:Nat):zL->Bool
  | []=>false
  |x::r=>Nat.beq s x||xj s r
def WU:zL->List zV->Fr->Fr
  |l::L,v::vs,base=>λs=>cond (Nat.beq s l) v (WU L vs base s)
  |_,_,base=>base
def mix(L:zL)(vs:List zV)(I:zL)(fr gs:Fr):Fr:=WU L vs λs=>cond (xj s I) (fr s) (gs s)
def Fy(fr:Fr):zL->List zV
  | []=>[]
  |s::r=>fr s::Fy fr r
def yg:Nat->(List zV->Prop)->Prop
  |0,p=>p []
  |n+1,p=>∀v,yg n λvs=>p (v::vs)
def yg.intro{p:List zV->Prop}(h:∀vs,p vs):∀n,yg n p
  |0=>h _
  |n+1=>λv=>yg.intro (λvs=>h (v::vs)) n
def yg.elim{p:List zV->Prop}:∀{n:Nat},yg n p->∀vs:List zV,vs.length=n->p vs
  |0,h,vs,e=>by cases vs with|nil=>exact h|cons x y=>simp at e
  |n+1,h,vs,e=>by
    cases vs with
    |nil=>simp at e
    |cons x y=>exact yg.elim (h x) y (by simpa using e)
def Hi(fr:Fr)(L:zL):(Fy fr L).length=L.length:=by induction L<;>simp[Fy, *]
def wz{L I:zL}{fr σ:Fr}(h:∀s,xj s I=true->σ s=fr s):mix L (Fy σ L) I fr σ=σ:=by
  funext s
  unfold mix;induction L with
  |nil=>
    simp only[Fy,WU];cases he:xj s I
    · rfl
    · exact(h s he).symm
  |cons l L ih=>
    simp only[Fy,WU];cases hb:Nat.beq s l
    · exact ih
    · have:=xaH hb;subst this;rfl
def wx{c:Code}{I:zL}(h:WQ c I=true):∀s,xj s I=true->uL c s=false:=by
  induction I with
  |nil=>intro s hs;simp[xj]at hs
  |cons x r ih=>
    intro s hs;simp only[WQ,xaJ,xbL]at h;simp only[xj,xbu]at hs;rcases hs with hs|hs
    · rw[xaH hs];exact h.1
    · exact ih h.2 s hs
def Di(next:Fr->Hp->Prop)(Q:Exit->Fr->Hp->Prop):Exit->Fr->Hp->Prop
  | .normal,fr,H=>next fr H
  |e,fr,H=>Q e fr H
def UK(id:Nat)(Q:Exit->Fr->Hp->Prop):Exit->Fr->Hp->Prop
  | .exit id',fr,H=>cond (Nat.beq id' id) (Q .normal fr H) (Q (.exit id') fr H)
  |e,fr,H=>Q e fr H
def JE(J:List zV->Hp->Prop)(vs:List zV)(H:Hp):Prop:=∃H',aO H H'/\J vs H'
def aD(I:List zV->Hp->Prop)(m:List zV->Hp->Nat)(vs':List zV)(H':Hp)(vs:List zV)(H:Hp):Prop:=∃mS,aO H' mS/\I vs' mS/\m vs' mS<m vs H
def Loop(L:zL)(vs:List zV)(H:Hp)(body:(List zV->Hp->Prop)->List zV->Hp->Prop):Prop:=
  ∃(I:List zV->Hp->Prop) (m:List zV->Hp->Nat),JE I vs H/\yg L.length λvs=>∀H',I vs H'->body (λvs' mS=>aD I m vs' mS vs H') vs H'
def afw(k:Nat)(rest:List zV->Hp->Prop)(body:(List zV->Hp->Prop)->Prop):Prop:=
  ∀J:List zV->Hp->Prop,(yg k λvs=>∀H,rest vs H->J vs H)->body J
def DR(H:Hp)(body:Hp->Prop):Prop:=∃R,aO H R/\body R
def DR2(H R:Hp)(body:Hp->Prop):Prop:=∃R',aO H R'/\aO R' R/\body R'
def qS:Code->Nat->Option (Array Oper)
  | .region id ζ _,k=>cond (Nat.beq id k) (some ζ) none
  | .seq a b,k=>match qS a k with|some x=>some x|none=>qS b k
  | .cond _ a b,k=>match qS a k with|some x=>some x|none=>qS b k
  | .block _ c,k=>qS c k
  | .loop c,k=>qS c k
  |_,_=>none
def abM(P:Program)(g:Gh)(id:Nat)(ζ:Array Oper)(L:zL)(vs:List zV)(H:Hp)(K:Hp->Prop):Prop:=
  ∀a w,jr a.tmps.size ζ.toList=true->(L.map λs=>a.tmps.getD s undef)=vs->Own g H w->
    (Code.region id ζ true).wp P (λe a' w'=>e=.normal/\a'.defers=a.defers/\a'.tmps.size=a.tmps.size/\(∀s,bV ζ.toList s=false->a'.tmps.getD s undef=a.tmps.getD s undef)/\∃H',Own g H' w'/\K H') a w
def pY(f:Func)(r:Nat):Array Oper:=match f.body with|some c=>(match qS c r with|some ζ=>ζ|none=>#[])|none=>#[]
def X2(fr:Fr)(L:zL):Fy fr L=L.map fr:=by induction L<;>simp[Fy, *]
def den(P:Program)(g:Gh)(n:Nat):Code->Hn->(Exit->Fr->Hp->Prop)->Fr->Hp->Prop
  | .skip,_,Q,fr,H=>Q .normal fr H
  | .ret,_,Q,fr,H=>Q .ret fr H
  | .exit id,_,Q,fr,H=>Q (.exit id) fr H
  | .seq x y,hn,Q,fr,H=>
    match hn.m with
    |0=>den P g n x hn.a (Di (den P g n y hn.b Q) Q) fr H
    |_=>cond (WQ x hn.I)
        (afw hn.L.length (λvs H'=>∀gs,den P g n y hn.b Q (mix hn.L vs hn.I fr gs) H') λJ=>den P g n x hn.a (Di (λσ H'=>JE J (Fy σ hn.L) H') Q) fr H) False
  | .cond c x y,hn,Q,fr,H=>Br (ev fr c) (den P g n x hn.a Q fr H) (den P g n y hn.b Q fr H)
  | .block id c,hn,Q,fr,H=>den P g n c hn.a (UK id Q) fr H
  | .loop c,hn,Q,fr,H=>
    cond (WQ c hn.I)
      (Loop hn.L (Fy fr hn.L) H λJ vs H'=>∀gs,den P g n c hn.a (Di (λσ mS=>J (Fy σ hn.L) mS) Q) (mix hn.L vs hn.I fr gs) H') False
  | .region id ζ draw,hn,Q,fr,H=>
    cond draw
      (match hn.m with
      |0=>match hn.L with
       | []=>cond (P.follows .mixedOrders&&Region.lexB .any ζ) (fg P g n ζ true (ζ.toList.length+1) true none [] ζ.toList fr H (λ_ σ H'=>Q .normal σ H') (λ_ _=>False)) False
       |l=>cond (P.follows .mixedOrders&&Region.noSelect ζ&&Nat.ble l.length ζ.size)
          (DR H λR=>OK P g n ζ R (λσ H'=>Q .normal σ H') l (Array.replicate ζ.size false) fr H) False
      |9=>cond (jr n ζ.toList) (abM P g id ζ hn.L (Fy fr hn.L) H λH'=>∀gs,Q .normal (BS ζ.toList gs fr) H') False
      |_=>cond (P.follows .mixedOrders&&Region.noSelect ζ)
          (DR H λR=>qc P g n ζ R (λσ H'=>Q .normal σ H') hn.a [] (Array.replicate ζ.size false) fr H) False)
      (fg P g n ζ (match hn.I with| []=>false|_=>true) (ζ.toList.length+1) false none [] ζ.toList fr H (λ_ σ H'=>Q .normal σ H') (λch H'=>∀σ,Q (.panic ch) σ H'))
  |_,_,_,_,_=>False
def CZ{c:Code}{Q:Exit->Act->World->Prop}{a:Act}(R:Act->World->Nat->Prop)(h₀:∃m,R a w m)
   (round:∀a w m,R a w m->c.wp P (Exit.then (λa' w'=>∃m',m'<m/\R a' w' m') Q) a w):(Code.loop c).wp P Q a w:=by
  intro b k cs;have key:∀n a w,R a w n->
      ∃e a' w',Q e a' w'/\Arrives P (lone (b.at a (.code c:: .inLoop c::k)) cs w) b k cs e a' w':=by
    intro n;induction n using Nat.strongRecOn with
    |_ n ih=>
      intro a w hI;obtain⟨e,a₁,w₁,hq,Eh⟩:=round a w n hI b (.inLoop c::k) cs;cases e with
      |normal=>
        obtain⟨m',η,aeS⟩:=hq;obtain⟨e₂,a₂,w₂,adE,XI⟩:=ih m' η a₁ w₁ aeS;exact⟨e₂,a₂,w₂,adE,.of_steps (Steps.trans Eh (.one step_inLoop)) XI⟩
      |exit id=>exact⟨_,a₁,w₁,hq,.pass (x:=.inLoop c) rfl (λ_ _=>.inl zI) Eh⟩
      |goto l=>exact⟨_,a₁,w₁,hq,.pass (x:=.inLoop c) rfl (λ_ _=>.inl zI) Eh⟩
      |ret=>exact⟨_,a₁,w₁,hq,.pass (x:=.inLoop c) rfl (λ_ _=>.inl zI) Eh⟩
      |panic ch=>exact⟨_,a₁,w₁,hq,.pass (x:=.inLoop c) rfl (λ_ _=>.inl zI) Eh⟩
      |outgrown=>exact⟨_,a₁,w₁,hq,.pass (x:=.inLoop c) rfl (λ_ _=>.inl zI) Eh⟩
  obtain⟨m,h₀⟩:=h₀;obtain⟨e,a',w',hq,Eh⟩:=key m a w h₀;exact⟨e,a',w',hq,.of_steps (.one step_loop) Eh⟩
def wL:Exit->Bool
  | .panic _=>true
  |_=>false
def mG{n:Nat}:∀(c:Code) (hn:Hn) (Q:Exit->Fr->Hp->Prop) (fr:Fr) (H:Hp),den P g n c hn Q fr H->∀(a:Act) (w:World),cF ds n a fr->Own g H w->c.wp P (λe a' w'=>∃σ H',cF ds n a' σ/\Own g H' w'/\(wL e=false->∀s,uL c s=false->σ s=fr s)/\Q e σ H') a w:=by
  intro c;induction c with
  |skip=>intro hn Q fr H h a w ha hw;exact wp_skip ⟨fr,H,ha,hw,λ_ _ _=>rfl,h⟩
  |ret=>intro hn Q fr H h a w ha hw;exact wp_ret ⟨fr,H,ha,hw,λ_ _ _=>rfl,h⟩
  |exit id=>intro hn Q fr H h a w ha hw;exact wp_exit ⟨fr,H,ha,hw,λ_ _ _=>rfl,h⟩
  |seq x y ihx ihy=>
    intro hn Q fr H h a w ha hw;unfold den at h;have ac6:∀{X4 uv:Fr},(∀s,uL x s=false->X4 s=fr s)->(∀s,uL y s=false->uv s=X4 s)->∀s,uL (.seq x y) s=false->uv s=fr s:=λh1 h2 s hs=>by
      simp only[uL,xaG]at hs;rw[h2 s hs.2,h1 s hs.1]
    have yx:∀{X4:Fr},(∀s,uL x s=false->X4 s=fr s)->∀s,uL (.seq x y) s=false->X4 s=fr s:=λh1 s hs=>by
      simp only[uL,xaG]at hs;exact h1 s hs.1
    split at h
    · refine wp_seq (wp_mono (ihx _ _ fr H h a w ha hw) ?_)
      rintro e a' w' ⟨σ,H',dS,eX,ho,hq⟩;cases e with
      |normal=>exact wp_mono (ihy _ _ σ H' hq a' w' dS eX) λe2 a2 w2 ⟨uv,H2,g1,g2,g3,g4⟩=>⟨uv,H2,g1,g2,λhp=>ac6 (ho rfl) (g3 hp),g4⟩
      |exit id=>exact⟨σ,H',dS,eX,λhp=>yx (ho hp),hq⟩
      |goto l=>exact⟨σ,H',dS,eX,λhp=>yx (ho hp),hq⟩
      |ret=>exact⟨σ,H',dS,eX,λhp=>yx (ho hp),hq⟩
      |panic ch=>exact⟨σ,H',dS,eX,λhp=>yx (ho hp),hq⟩
      |outgrown=>exact⟨σ,H',dS,eX,λhp=>yx (ho hp),hq⟩
    · cases Γ:WQ x hn.I<;>simp only[Γ,xap,xaj]at h
      have h':=h (λvs H'=>∀gs,den P g n y hn.b Q (mix hn.L vs hn.I fr gs) H') (yg.intro (λvs H' hh=>hh) _);refine wp_seq (wp_mono (ihx _ _ fr H h' a w ha hw) ?_);rintro e a' w' ⟨σ,H',dS,eX,ho,hq⟩;cases e with
      |normal=>
        obtain⟨Hj,wV,hq⟩:=hq;have hq':den P g n y hn.b Q σ Hj:=by
          have:=hq σ;rwa [wz λs hs=>ho rfl s (wx Γ s hs)]at this
        exact wp_mono (ihy _ _ σ Hj hq' a' w' dS (wV _ _ eX)) λe2 a2 w2 ⟨uv,H2,g1,g2,g3,g4⟩=>⟨uv,H2,g1,g2,λhp=>ac6 (ho rfl) (g3 hp),g4⟩
      |exit id=>exact⟨σ,H',dS,eX,λhp=>yx (ho hp),hq⟩
      |goto l=>exact⟨σ,H',dS,eX,λhp=>yx (ho hp),hq⟩
      |ret=>exact⟨σ,H',dS,eX,λhp=>yx (ho hp),hq⟩
      |panic ch=>exact⟨σ,H',dS,eX,λhp=>yx (ho hp),hq⟩
      |outgrown=>exact⟨σ,H',dS,eX,λhp=>yx (ho hp),hq⟩
  |cond c x y ihx ihy=>
    intro hn Q fr H h a w ha hw;obtain⟨b,hb,ht,hf⟩:=h;refine wp_cond_split (t:=b) (by rw[ha.eval];exact hb) (λe=>?_) (λe=>?_)
    · exact wp_mono (ihx _ _ fr H (ht e) a w ha hw) λe2 a2 w2 ⟨uv,H2,g1,g2,g3,g4⟩=>⟨uv,H2,g1,g2,λhp s hs=>g3 hp s (by simp only[uL,xaG]at hs;exact hs.1),g4⟩
    · exact wp_mono (ihy _ _ fr H (hf e) a w ha hw) λe2 a2 w2 ⟨uv,H2,g1,g2,g3,g4⟩=>⟨uv,H2,g1,g2,λhp s hs=>g3 hp s (by simp only[uL,xaG]at hs;exact hs.2),g4⟩
  |block id c ih=>
    intro hn Q fr H h a w ha hw;refine wp_block (wp_mono (ih _ _ fr H h a w ha hw) ?_);rintro e a' w' ⟨σ,H',dS,eX,ho,hq⟩;cases e with
    |exit id'=>
      simp only[UK]at hq;cases hb:Nat.beq id' id<;>simp only[hb,xap,xaj]at hq
      · have:id'≠id:=λe=>by subst e;simp at hb
        simp only[Exit.inBlock,this,xa2];exact⟨σ,H',dS,eX,ho,hq⟩
      · have:=xaH hb
        simp only[Exit.inBlock,this,xa5];exact⟨σ,H',dS,eX,ho,hq⟩
    |normal=>exact⟨σ,H',dS,eX,ho,hq⟩
    |goto l=>exact⟨σ,H',dS,eX,ho,hq⟩
    |ret=>exact⟨σ,H',dS,eX,ho,hq⟩
    |panic ch=>exact⟨σ,H',dS,eX,ho,hq⟩
    |outgrown=>exact⟨σ,H',dS,eX,ho,hq⟩
  |loop c ih=>
    intro hn Q fr H h a w ha hw;unfold den at h;cases Γ:WQ c hn.I<;>simp only[Γ,xap,xaj]at h;obtain⟨I,m,⟨H0,aef,h0⟩,hr⟩:=h;apply CZ (λa w k=>∃σ H',cF ds n a σ/\Own g H' w/\(∀s,uL c s=false->σ s=fr s)/\I (Fy σ hn.L) H'/\m (Fy σ hn.L) H'=k) ⟨_,fr,H0,ha,aef _ _ hw,λ_ _=>rfl,h0,rfl⟩;rintro a w k ⟨X4,H1,uS,jQ,yG,hI,rfl⟩;have hb:=hr.elim (Fy X4 hn.L) (Hi _ _) H1 hI X4;rw[wz λs hs=>yG s (wx Γ s hs)]at hb;apply wp_mono (ih _ _ X4 H1 hb a w uS jQ);rintro e a' w' ⟨σ,H',dS,eX,ho,hq⟩;have cA:wL e=false->∀s,uL c s=false->σ s=fr s:=λhp s hs=>(ho hp s hs).trans (yG s hs);cases e with
    |normal=>obtain⟨Hj,wV,Xu,hq2⟩:=hq;exact⟨_,hq2,σ,Hj,dS,wV _ _ eX,cA rfl,Xu,rfl⟩
    |exit id=>exact⟨σ,H',dS,eX,cA,hq⟩
    |goto l=>exact⟨σ,H',dS,eX,cA,hq⟩
    |ret=>exact⟨σ,H',dS,eX,cA,hq⟩
    |panic ch=>exact⟨σ,H',dS,eX,cA,hq⟩
    |outgrown=>exact⟨σ,H',dS,eX,cA,hq⟩
  |region id ζ draw=>
    intro hn Q fr H h a w ha hw;unfold den at h;cases draw<;>simp only[xap,xaj]at h
    case false=>
      apply wp_region_list;have:=cN _ _ _ _ _ fr H _ _ h trivial (jy.nil fr) a w ha hw [] (λe a' w'=>∃σ H',cF ds n a' σ/\Own g H' w'/\(wL e=false->∀s,uL (.region id ζ false) s=false->σ s=fr s)/\Q e σ H') ?_ ?_
      · simpa using this
      · intro a' w' rB σ H' h1 h2 h3 _ h4
        exact⟨σ,H',h1,h2,λ_=>h3,h4⟩
      · intro ch a' w' σ H' h1 h2 h3
        exact⟨σ,H',h1,h2,λhp=>by simp[wL]at hp,h3 σ⟩
    case true=>
      split at h
      · split at h
        · cases hc:(P.follows .mixedOrders&&Region.lexB .any ζ)<;>simp only[hc,xap,xaj]at h
          simp only[xaJ]at hc;apply wp_region_quiet (C:=Own g H) hc.1 hc.2 hw.Ap;have:=dP _ none _ ζ.toList fr H _ _ h trivial (jy.nil fr) a ha [] (λa'=>∀w',Own g H w'->∃σ H',cF ds n a' σ/\Own g H' w'/\(wL .normal=false->∀s,uL (.region id ζ true) s=false->σ s=fr s)/\Q .normal σ H') ?_
          · simpa using this
          · intro a' rB σ h1 h3 _ h4
            exact λw' eX=>⟨σ,H,h1,eX,λ_=>h3,h4⟩
        · cases hc:(P.follows .mixedOrders&&Region.noSelect ζ&&Nat.ble hn.L.length ζ.size)<;>simp only[hc,xap,xaj]at h
          simp only[xaJ]at hc;obtain⟨R,hR,h⟩:=h;refine wp_mono (Q:=sK λe a' w'=>∃σ H',cF ds n a' σ/\Own g H' w'/\(wL e=false->∀s,uL (.region id ζ true) s=false->σ s=fr s)/\Q e σ H') ?_ ?_
          · refine wp_region_any hc.1.1 (dj.any (S:=MB P g R ζ) ?_)
            exact sB hc.1.2 fr (λa w σ H' h1 h2 h3 h4=>⟨σ,H',h1,h2,λ_=>h3,h4⟩) _ _ fr H h _ (xcY hc.2) (fH.none _ rfl) _ _ ha hw.Ap (λ_=>(hR _ _ hw).Ap) (eS.refl _ _)
          · intro e a w h
            cases e<;>first|exact h|exact h.elim
      · cases hc:jr n ζ.toList<;>simp only[hc,xap,xaj]at h
        refine wp_mono (h a w (by rw[ha.size];exact hc) (by rw[X2];exact xbn λs _=>ha.get s) hw) ?_;rintro e a' w' ⟨rfl,hd,hs,ho,H',eX,hk⟩;refine⟨BS ζ.toList (λs=>a'.tmps.getD s undef) fr,H',⟨hd.trans ha.defers,hs.trans ha.size,λs=>?_⟩,eX,λ_ s hs=>?_,hk _⟩
        · unfold BS
          cases hb:bV ζ.toList s
          · rw[xaj,ho s hb,ha.get]
          · rfl
        · unfold BS;simp only[uL]at hs;rw[hs,xaj]
      · cases hc:(P.follows .mixedOrders&&Region.noSelect ζ)<;>simp only[hc,xap,xaj]at h
        simp only[xaJ]at hc;obtain⟨R,hR,h⟩:=h;refine wp_mono (Q:=sK λe a' w'=>∃σ H',cF ds n a' σ/\Own g H' w'/\(wL e=false->∀s,uL (.region id ζ true) s=false->σ s=fr s)/\Q e σ H') ?_ ?_
        · refine wp_region_any hc.1 (dj.any (S:=ry P g [R] ζ) ?_)
          refine eR (Xs:=[_]) hc.2 (.head _) (λX hX=>by rw[xaE.1 hX];exact .refl _) fr (λa w σ H' h1 h2 h3 h4=>⟨σ,H',h1,h2,λ_=>h3,h4⟩) _ _ [] _ fr H h [] _ fr (by rw[Array.toList_replicate,yO];exact xai _) ⟨by simp,by simp,by simp,λ_ _=>rfl,by simp,λj x hx=>by simp[fY]at hx⟩ (fH.none _ rfl) _ _ ha hw.Ap (λ_=>(hR _ _ hw).Ap) (eS.refl _ _)
        · intro e a w h
          cases e<;>first|exact h|exact h.elim
  |label l=>intro hn Q fr H h;exact h.elim
  |goto l=>intro hn Q fr H h;exact h.elim
  |scope c _=>intro hn Q fr H h;exact h.elim
  |refuse s=>intro hn Q fr H h;exact h.elim
  |rangeFunc f ps as b _ _=>intro hn Q fr H h;exact h.elim
def dy(R:Ending->Hp->Prop):List PanicEntry->Hp->Prop:=λch H=>∀_:Fr,R (.panicked ch) H
def fU:List PanicEntry->Hp->Prop:=λ_ _=>False
def v7:Code->Nat->Option (Array Oper)
  | .region id ζ _,k=>cond (Nat.beq id k) (some ζ) none
  | .seq a b,k=>match v7 a k with|some x=>some x|none=>v7 b k
  | .cond _ a b,k=>match v7 a k with|some x=>some x|none=>v7 b k
  | .block _ c,k=>v7 c k
  | .loop c,k=>v7 c k
  |_,_=>none
def eZ(f:Func)(r i:Nat):Oper:=match f.body with|some c=>(match v7 c r with|some ζ=>(match ζ[i]? with|some o=>o|none=>default)|none=>default)|none=>default
def g8:List zV->Nat->Fr
  | [],_=>λ_=>undef
  |v::r,i=>λs=>cond (Nat.beq s i) v (g8 r (i+1) s)
def vY(P:Program)(fr:Fr)(H:Hp):List ResultVar->(List zV->Prop)->Prop
  | [],k=>k []
  | .tmp t::r,k=>vY P fr H r λvs=>k (fr t::vs)
  | .cell a t::r,k=>match P.underlying t,dm P t with
    |some d,some n=>cond (cV d) (aB n H (fr a) λv=>vY P fr H r λvs=>k (v::vs)) (Ld H (fr a) λv=>vY P fr H r λvs=>k (v::vs))
    |_,_=>False
def FO:List zV->zV
  | [v]=>v
  |vs=>.tuple vs.toArray
def ai7(P:Program)(fn:Func)(R:Ending->Hp->Prop):Exit->Fr->Hp->Prop
  | .normal,fr,H=>vY P fr H fn.results.toList λvs=>R (.returned (FO vs)) H
  | .ret,fr,H=>vY P fr H fn.results.toList λvs=>R (.returned (FO vs)) H
  | .panic ch,_,H=>R (.panicked ch) H
  |_,_,_=>False
def Hs(P:Program)(g:Gh)(fn:Func)(hn:Hn)(args:List zV)(H:Hp)(R:Ending->Hp->Prop):Prop:=
  match fn.body with
  |some c=>cond (Nat.ble args.length fn.ntmps) (den P g fn.ntmps c hn (ai7 P fn R) (g8 args 0) H) False
  |none=>False
def nj:∀(l:List zV) (i s:Nat),g8 l i s=if s<i then undef else l.getD (s-i) undef
  | [],i,s=>by simp[g8]
  |v::r,i,s=>by
    simp only[g8,nj r (i+1) s];cases hb:Nat.beq s i
    · have ξ:s≠i:=λe=>by subst e;simp at hb
      simp only[xaj];by_cases h:s<i
      · rw[xae zO,xae h]
      · rw[xac zO,xac h,show s-i=(s-(i+1))+1 by omega]
        simp[List.getD]
    · have:=xaH hb;subst this
      simp[List.getD]
def Nw(fr:Fr):ResultVar->Sem zV
  | .tmp t=>pure (fr t)
  | .cell b t=>do loadVar t (<-asAddr (fr b))
def uc(hw:Own g H w){b:Tmp}{t:TypeId}{v:zV}{p:Addr}(hp:fr b=.pointer (some p))(h:(Instr.loadAt t (fr b)).run P w=.ok v w):(Nw fr (.cell b t)).run P w=.ok v w:=by  rw[hp]at h;simp only[Nw,hp,asAddr];simpa[Instr.loadAt,Instr.sureAddr]using h
def rP{fr:Fr}{H:Hp}{w:World}(hw:Own g H w):∀(l:List ResultVar) (k:List zV->Prop),vY P fr H l k->
    ∃vs,(l.mapM (Nw fr)).run P w=.ok vs w/\k vs
  | [],k,h=>⟨[],by simp,h⟩
  | .tmp t::r,k,h=>by
    obtain⟨vs,hr,hk⟩:=rP hw r _ h;refine⟨fr t::vs,?_,hk⟩;simp only[xek,Sem.run_bind,Sem.run_pure,Result.andThen_ok,hr,Nw]
  | .cell b t::r,k,h=>by
    unfold vY at h;split at h<;>try exact h.elim
    rename_i d m hd hm;obtain⟨i,hi,him⟩:=bJ hm;cases hag:cV d<;>simp only[hag,xap,xaj]at h
    · obtain⟨v,hk',hf⟩:=h.fix
      obtain⟨v2,q7,e⟩:=hf.run (P:=P) hw hd hag;subst e;obtain⟨bb,ο,c,T,fz,u,hp,_⟩:=hf;obtain⟨vs,hr,hk⟩:=rP hw r _ hk';refine⟨v2::vs,?_,hk⟩;have:=uc hw hp q7;simp only[xek,Sem.run_bind,Result.andThen_ok,hr,Sem.run_pure,this]
    · obtain⟨v,hk',hf⟩:=h.fix
      obtain⟨v2,q7,e⟩:=hf.run (P:=P) hw hd hag hi him;subst e;obtain⟨bb,ο,c,T,fz,hp,_⟩:=hf;obtain⟨vs,hr,hk⟩:=rP hw r _ hk';refine⟨v2::vs,?_,hk⟩;have:=uc hw hp q7;simp only[xek,Sem.run_bind,Result.andThen_ok,hr,Sem.run_pure,this]
def iY{fn:Func}{fr:Fr}{H:Hp}{n:Nat}{a:Act}{w:World}(ha:cF ds n a fr)(hw:Own g H w){k:List zV->Prop}(h:vY P fr H fn.results.toList k):
    ∃vs,(results fn a.tmps).run P w=.ok (FO vs) w/\k vs:=by
  obtain⟨vs,hr,hk⟩:=rP (P:=P) hw _ _ h;refine⟨vs,?_,hk⟩;have e:results fn a.tmps=(do let vs <-fn.results.mapM (Nw fr);pure (if h:vs.size=1 then vs[0]else .tuple vs)):=by
    unfold results;congr 1;congr 1
    funext x
    cases x<;>simp only[Nw,ha.get]
  rw[e,Array.mapM_eq_mapM_toList];simp only[Sem.run_bind,Sem.run_map,hr,Result.andThen_ok,Sem.run_pure];congr 1
  match vs with
  | []=>rfl
  | [v]=>rfl
  |a::b::r=>simp[FO]
def Hr{fn:Func}{hn:Hn}{args:List zV}(hf:P.funcs[f]? =some fn)(h:Hs P g fn hn args H R):bG P g f args.toArray H R:=by
  intro w hw;unfold Hs at h;split at h<;>try exact h.elim
  rename_i c hc;cases hl:Nat.ble args.length fn.ntmps<;>simp only[hl,xap,xaj]at h;have hle:=xcY hl;refine calls_of_wp hf hc (wp_mono (mG c hn _ _ H h _ w ⟨rfl,?_,?_⟩ hw) ?_)
  · simp;omega
  · intro s
    rw[nj,xau,xd4];simp only[xc1,xb9,xa2,xcU];by_cases hs:s<args.length
    · simp[hs,List.getD]
    · rw[xac hs]
      rw[xc7];have:args.getD s undef=undef:=by simp[List.getD,xaB (xc9 hs)]
      rw[this];split<;>rfl
  · rintro e a' w' ⟨σ,H',dS,eX,_,hq⟩
    cases e with
    |normal=>obtain⟨vs,hr,hk⟩:=iY dS eX hq;exact⟨dS.defers,_,hr,H',eX,hk⟩
    |ret=>obtain⟨vs,hr,hk⟩:=iY dS eX hq;exact⟨dS.defers,_,hr,H',eX,hk⟩
    |panic ch=>exact⟨dS.defers,H',eX,hq⟩
    |exit id=>exact hq.elim
    |goto l=>exact hq.elim
    |outgrown=>exact hq.elim
end
section
variable{k:zV->Prop}
def Nil.γ{a:Addr}(h:k (.pointer (some a))):Nil (.pointer (some a)) k:=⟨_,rfl,h⟩
def aj.mk{b o ο:Nat}(h:k (.pointer (some ⟨b,o+ο,none⟩))):aj ο (.pointer (some ⟨b,o,none⟩)) k:=⟨b,o,rfl,h⟩
def Ld.mk{b ο:Nat}{v:zV}(hm:(b,Obj.cells c T fz)∈H)(hc:c[ο]? =some v)(h:k v):Ld H (.pointer (some ⟨b,ο,none⟩)) k:=
 ⟨b,ο,c,T,fz,v,rfl,hm,hc,h⟩
def aB.mk{b ο n:Nat}{vs:Array zV}(hm:(b,Obj.cells c T fz)∈H)(hs:ο+n<=c.size)(hc:c.extract ο (ο+n)=vs)(h:k (.agg vs)):aB n H (.pointer (some ⟨b,ο,none⟩)) k:=
 ⟨b,ο,c,T,fz,rfl,hm,hs,by rw[hc];exact h⟩
def St.mk{b ο n:Nat}{x:zV}{c':Array zV}{k:Hp->Prop}(hu:df b (.cells c T zZ) (.cells c' T zZ) H H')(hx:x.cells.size=n)(hs:ο+n<=c.size)
 (h1:∀v∈x.cells.toList,v.oneCell'=true)(hc:jo c ο x.cells.toList=c')(h:k H'):St n H (.pointer (some ⟨b,ο,none⟩)) x k:=
 ⟨b,ο,c,T,H',rfl,hx,hs,h1,by rw[hc];exact hu,h⟩
variable{vs:List zV}
def JE.mk{J:List zV->Hp->Prop}(h:J vs H):JE J vs H:=⟨H,.refl _,h⟩
def JE.of{J:List zV->Hp->Prop}(e:aO H H')(h:J vs H'):JE J vs H:=⟨H',e,h⟩
def aD.mk{I:List zV->Hp->Prop}{m:List zV->Hp->Nat}{vs':List zV}{H0:Hp}(h:I vs' H)(hm:m vs' H<m vs H0):aD I m vs' H vs H0:=⟨H,.refl _,h,hm⟩
def aD.of{I:List zV->Hp->Prop}{m:List zV->Hp->Nat}{vs':List zV}{H0:Hp}(e:aO H H')(h:I vs' H')(hm:m vs' H'<m vs H0):aD I m vs' H vs H0:=⟨H',e,h,hm⟩
variable{t:Prop}
def Br.mk{b:Bool}{f:Prop}(h1:b=true->t)(h2:b=false->f):Br (.bool b) t f:=⟨b,rfl,h1,h2⟩
def Br.yes{f:Prop}(h1:t):Br (.bool true) t f:=⟨true,rfl,λ_=>h1,λh=>by simp at h⟩
def Br.no{f:Prop}(h1:f):Br (.bool false) t f:=⟨false,rfl,λh=>by simp at h,λ_=>h1⟩
def Br.VV{b:Bool}{f:Prop}(hb:b=true)(h1:t):Br (.bool b) t f:=by subst hb;exact Br.yes h1
def Br.no'{b:Bool}{f:Prop}(hb:b=false)(h1:f):Br (.bool b) t f:=by subst hb;exact Br.no h1
variable{want:Bool}{inner els:Bool->Prop}
def dh.mk{a:Bool}{k:Bool->Prop}(t:Bool)(h1:a=want->inner t)(h2:a= !want->els t)(h3:k t):dh (.bool a) want inner els k:=⟨a,t,rfl,h1,h2,h3⟩
def dh.and{a:Bool}{k:Bool->Prop}(b:Bool)(h1:a=true->inner b)(h2:els false)(h3:k (a&&b)):dh (.bool a) true inner els k:=
 ⟨a,a&&b,rfl,λe=>by subst e;exact h1 rfl,λe=>by subst e;exact h2,h3⟩
def dh.or{a:Bool}{k:Bool->Prop}(b:Bool)(h1:a=false->inner b)(h2:els true)(h3:k (a||b)):dh (.bool a) false inner els k:=
 ⟨a,a||b,rfl,λe=>by subst e;exact h1 rfl,λe=>by subst e;exact h2,h3⟩
def Split.mk{a:Bool}{k1 k2:Prop}(h1:a=want->k1)(h2:a= !want->k2):Split (.bool a) want k1 k2:=⟨a,rfl,h1,h2⟩
def Split.go{a:Bool}{k1 k2:Prop}(e:a=want)(h1:k1):Split (.bool a) want k1 k2:=⟨a,rfl,λ_=>h1,λe'=>by subst e;cases a<;>simp at e'⟩
def Split.NG{a:Bool}{k1 k2:Prop}(e:a= !want)(h1:k2):Split (.bool a) want k1 k2:=⟨a,rfl,λe'=>by subst e';cases a<;>simp at e,λ_=>h1⟩
def aG.mk{t:Bool}{a b:zV}(h:k (cond t a b)):aG (.bool t) a b k:=⟨t,rfl,h⟩
def Un.not{b:Bool}(h:k (.bool !b)):Un .not (.bool b) k:=⟨_,rfl,h⟩
variable{i:Nat}
def Ext.mk{vs:Array zV}{v:zV}(hv:vs[i]? =some v)(h:k v):Ext i (.tuple vs) k:=⟨vs,v,rfl,hv,h⟩
def aP.mk{a:Option Addr}{c:Nat}(h:k (.int .i64 n)):aP (.slice a n c) k:=⟨a,n,c,rfl,h⟩
variable{kd:IntKind}
def bu.of{j:IntKind}{n m:Int}(e:kd.wrap n=m)(h:k (.int kd m)):bu kd (.int j n) k:=⟨j,n,rfl,by rw[e];exact h⟩
def CY.mk{ο:Nat}{cs:Array zV}{v:zV}(hc:cs[ο]? =some v)(h:k v):CY ο (.agg cs) k:=⟨cs,v,rfl,hc,h⟩
def ay.mk{size b o n c:Nat}{i:Int}(h0:0<=i)(h1:i<(n:Int))(h:k (.pointer (some ⟨b,o+i.toNat*size,none⟩))):ay size (.slice (some ⟨b,o,none⟩) n c) (.int kd i) k:=
 ⟨b,o,n,c,kd,i,rfl,rfl,h0,h1,h⟩
def ay.nat{size b o n c:Nat}{j:Nat}(h1:j<n)(h:k (.pointer (some ⟨b,o+j*size,none⟩))):ay size (.slice (some ⟨b,o,none⟩) n c) (.int kd (j:Int)) k:=
 ay.mk (xdi j) zO (by simpa using h)
def ay.of{size b o n c:Nat}{i:Int}(j:Nat)(e:i=(j:Int))(h1:j<n)(h:k (.pointer (some ⟨b,o+j*size,none⟩))):ay size (.slice (some ⟨b,o,none⟩) n c) (.int kd i) k:=by subst e;exact ay.nat h1 h
def ah.eql{a b:Int}(h:k (.bool (a==b))):ah .num .eql (.int kd a) (.int kd b) k:=⟨_,by simp[iq,ni],h⟩
def ah.neq{a b:Int}(h:k (.bool (a !=b))):ah .num .neq (.int kd a) (.int kd b) k:=⟨_,by simp[iq,ni],h⟩
def ah.lss{a b:Int}(h:k (.bool (decide (a<b)))):ah .num .lss (.int kd a) (.int kd b) k:=⟨_,by simp[iq,ni],h⟩
def ah.leq{a b:Int}(h:k (.bool (decide (a<=b)))):ah .num .leq (.int kd a) (.int kd b) k:=⟨_,by simp[iq,ni],h⟩
def ah.gtr{a b:Int}(h:k (.bool (decide (b<a)))):ah .num .gtr (.int kd a) (.int kd b) k:=⟨_,by simp[iq,ni],h⟩
def ah.geq{a b:Int}(h:k (.bool (decide (b<=a)))):ah .num .geq (.int kd a) (.int kd b) k:=⟨_,by simp[iq,ni],h⟩
def ah.add{a b:Int}(h:k (.int kd (kd.wrap (a+b)))):ah .num .add (.int kd a) (.int kd b) k:=⟨_,by simp[iq,ni],h⟩
def ah.sub{a b:Int}(h:k (.int kd (kd.wrap (a-b)))):ah .num .sub (.int kd a) (.int kd b) k:=⟨_,by simp[iq,ni],h⟩
def ah.mul{a b:Int}(h:k (.int kd (kd.wrap (a*b)))):ah .num .mul (.int kd a) (.int kd b) k:=⟨_,by simp[iq,ni],h⟩
def wrap_i64{a:Int}(h: -9223372036854775808<=a/\a<=9223372036854775807):IntKind.i64.wrap a=a:=IntWalk.i64_in _ h
def ah.AG{a b:Int}{c:Int}(e:a+b=c)(hb: -9223372036854775808<=c/\c<=9223372036854775807)(h:k (.int .i64 c)):ah .num .add (.int .i64 a) (.int .i64 b) k:=
 ah.add (by rw[e,wrap_i64 hb];exact h)
def ah.mc{a b:Int}{c:Int}(e:a-b=c)(hb: -9223372036854775808<=c/\c<=9223372036854775807)(h:k (.int .i64 c)):ah .num .sub (.int .i64 a) (.int .i64 b) k:=
 ah.sub (by rw[e,wrap_i64 hb];exact h)
def ah.ade{a b:Int}{c:Int}(e:a*b=c)(hb: -9223372036854775808<=c/\c<=9223372036854775807)(h:k (.int .i64 c)):ah .num .mul (.int .i64 a) (.int .i64 b) k:=
 ah.mul (by rw[e,wrap_i64 hb];exact h)
def ah.RW{a b:Int}{c:Int}(hb0:b≠0)(e:a.tdiv b=c)(hb: -9223372036854775808<=c/\c<=9223372036854775807)(h:k (.int .i64 c)):ah .num .quo (.int .i64 a) (.int .i64 b) k:=
 ⟨.int .i64 c,by simp[iq,ni,hb0,e,wrap_i64 hb],h⟩
def ah.aK{a:Addr}(h:k (.bool false)):ah .γ .eql (.pointer (some a)) (.pointer none) k:=⟨.bool false,by simp[iq],h⟩
def ah.lq(h:k (.bool true)):ah .γ .eql (.pointer none) (.pointer none) k:=⟨.bool true,by simp[iq],h⟩
def ah.Bm{a:Addr}(h:k (.bool true)):ah .γ .neq (.pointer (some a)) (.pointer none) k:=⟨.bool true,by simp[iq],h⟩
def ah.lz{a:Option Nat}(h:k (.bool a.isNone)):ah .map .eql (.map a) (.map none) k:=⟨.bool a.isNone,by simp[iq],h⟩
def aO.Rn(A B C:Hp):aO (A++(B++C)) (B++(A++C)):=.perm (by rw[<-xag,<-xag];exact xbk.append_right C)
def flat:List Hp->Hp
 | []=>[]
 | [a]=>a
 |a::b::r=>a++flat (b::r)
def tC:∀(l:List Hp),(flat l).Perm l.flatten
 | []=>.refl _
 | [a]=>by simp[flat]
 |a::b::r=>by
  simp only[flat,xc2];exact xbB _ (by simpa using tC (b::r))
def aO.acY(S T:List Hp)(h:S.Perm T):aO (flat S) (flat T):=
 .perm ((tC S).trans (h.flatten.trans (tC T).symm))
def ψ(l:List (List zV)):Array zV:=l.flatten.toArray
def ux{k:Nat}:∀(l:List (List zV)) (i j:Nat),(∀r∈l,r.length=k)->j<k->l.flatten[i*k+j]? =(l[i]?).bind (·[j]?)
 | [],i,j,_,_=>by simp
 |r::l,0,j,h,hj=>by
  have:=h r zI;simp[xd9,this,hj]
 |r::l,i+1,j,h,hj=>by
  have hr:=h r zI;have ih:=ux l i j (λx hx=>h x (by simp[hx])) hj;rw[xc2,xbW (by rw[hr,xbr];omega),hr,show(i+1)*k+j-k=i*k+j by rw[xbr];omega,ih];simp
def dA{k:Nat}:∀(l:List (List zV)),(∀r∈l,r.length=k)->l.flatten.length=l.length*k
 | [],_=>by simp
 |r::l,h=>by
  have hr:=h r zI;rw[xc2,xaf,hr,dA l (λx hx=>h x (by simp[hx]))];simp[xbr];omega
variable{l:List (List zV)}
def bK{k:Nat}(h:∀r∈l,r.length=k):(ψ l).size=l.length*k:=by simp[ψ,dA l h]
def iX{k:Nat}(h:∀r∈l,r.length=k){j:Nat}(hj:j<k):(ψ l)[i*k+j]? =(l[i]?).bind (·[j]?):=by simp only[ψ,xdu];exact ux l i j h hj
def Bi{k:Nat}(h:∀r∈l,r.length=k){r:List zV}(hi:l[i]? =some r):(ψ l).extract (i*k) (i*k+k)=r.toArray:=by
 have hr:=h r (xav hi);have η:=(xah.1 hi).1;apply xc4;apply xba;intro j;by_cases hj:j<k
 ·have:=iX h (i:=i) hj;rw[xbd,xdl];rw[xae (by rw[bK h];have:=xaY k (xcO η);rw[xbr]at this;omega),this,hi];simp
 rw[xaB zP,xaB zP]
def m6:∀(vs:List zV) (c:List zV) (ο:Nat),ο+vs.length<=c.length->jo c.toArray ο vs=(c.take ο++vs++c.drop (ο+vs.length)).toArray
 | [],c,ο,_=>by simp[jo]
 |v::r,c,ο,h=>by
  simp only[xax]at h;have hl:ο<c.length:=by omega
  have:c.toArray.setIfInBounds ο v=(c.set ο v).toArray:=by simp
  rw[jo,this,m6 r (c.set ο v) (ο+1) (by simp only[xbE];omega)];congr 1;have e1:(c.set ο v).take (ο+1)=c.take ο++[v]:=by
   rw[xc6,xae hl,xeC];simp[List.take_take,hl,xcJ (xce hl)]
  have e2:(c.set ο v).drop (ο+1+r.length)=c.drop (ο+(v::r).length):=by
   rw[List.drop_set_of_lt zO];simp only[xax];rw[show ο+1+r.length=ο+(r.length+1)by omega]
  rw[e1,e2];simp
def vW{k:Nat}(h:∀r∈l,r.length=k)(hi:i<l.length){r:List zV}(hr:r.length=k):jo (ψ l) (i*k) r=ψ (l.set i r):=by
 unfold ψ;have Ξ:=dA l h;have hle:i*k+k<=l.length*k:=by have:=xaY k (xcO hi);rwa [xbr]at this
 rw[m6 r l.flatten (i*k) (by rw[Ξ,hr];exact hle)];congr 1;have e:l=l.take i++[l[i]]++l.drop (i+1):=by simp
 have hp:(l.take i).flatten.length=i*k:=by
  rw[dA _ (λx hx=>h x (xcK hx))];simp[xcJ (xce hi)]
 have hm:l[i].length=k:=h _ (xaK hi);have e3:l.flatten=(l.take i).flatten++(l[i]++(l.drop (i+1)).flatten):=by
  rw[<-xc2,<-xcw,<-xbt hi,xbs]
 have e4:(l.set i r).flatten=(l.take i).flatten++(r++(l.drop (i+1)).flatten):=by
  rw[xc6,xae hi];simp[xcw]
 rw[e4,e3,<-hp,xdU,<-List.drop_drop,List.drop_left,hr,<-hm,List.drop_left];simp
end
section
def df.cf{b:Nat}{C':Hp}(h:df b o o' C C')(A:Hp):df b o o' (A++C) (A++C'):=by
 induction A with
 |nil=>exact h
 |cons x A ih=>exact .tail ih
def aU(T:TypeId)(k:Nat)(v:zV)(rs:List (List zV))(C:Hp):Prop:=
 (v=.slice none 0 0/\rs=[]/\C=[])\/
 ∃b aF,v=.slice (some ⟨b,0,none⟩) rs.length (rs.length+aF.length)/\C=[(b,.cells (ψ (rs++aF)) T zZ)]/\(∀r∈rs++aF,r.length=k)
def aU.nil(T:TypeId)(k:Nat):aU T k (.slice none 0 0) [] []:=.inl ⟨rfl,rfl,rfl⟩
variable{k:Nat}{rs:List (List zV)}
def aU.len{v:zV}(h:aU T k v rs C):∃a c,v=.slice a rs.length c:=by
 rcases h with⟨rfl,rfl,rfl⟩|⟨b,aF,rfl,_⟩
 ·exact⟨_,_,rfl⟩
 exact⟨_,_,rfl⟩
def aU.bL{v:zV}(h:aU T k v rs C){K:zV->Prop}(hk:K (.int .i64 rs.length)):aP v K:=by obtain⟨a,c,rfl⟩:=h.len;exact aP.mk hk
def n6(z:List zV)(hz:z.length=k)(m:Nat):Builtin.zeroCells z.toArray m=ψ (List.replicate m z):=by
 apply xc4;apply xba;intro j;have aH:∀r∈List.replicate m z,r.length=k:=λr hr=>by rw[xbS hr,hz]
 by_cases hj:j<m*k
 ·have hk:0<k:=xeq λe=>by simp[e]at hj
  have hd:j/k<m:=xea (by rw[xcn];exact hj);have hm:j%k<k:=xbJ _ hk;have he:j/k*k+j%k=j:=by rw[xcn];exact xeI j k
  have:=iX aH (i:=j/k) hm;rw[he]at this;rw[xbd,xbd,this];simp only[Builtin.zeroCells,xc1,hz,xdY,hd,xa5,xez];rw[Array.getElem?_map,Array.getElem?_range];simp[hj,hz,hm]
 rw[xaB,xaB]
 ·simp only[xb3,bK aH,xd5];omega
 simp[Builtin.zeroCells,hz];omega
def cS(a b:List (List zV)):ψ a++ψ b=ψ (a++b):=by simp[ψ,xcw]
def aU.HK{elem bytes:Nat}{zero:zV}{v:zV}(h:aU elem k v rs C){xb:Nat}{r:List zV}{xT:TypeId}{xc:Nat}
 (hx:(xb,Obj.cells r.toArray xT fz)∈A++(C++B))(hr:r.length=k)(h1:∀u∈r,u.oneCell'=true)(hz:∃z:List zV,zero.cells=z.toArray/\z.length=k)
 (hb:(rs.length+1)*bytes<=140737488355328)(cB:rs.length+1<=9223372036854775807)
 (hk:∀v' C',aU elem k v' (rs++[r]) C'->K v' (A++(C'++B))):App P elem k bytes zero (A++(C++B)) v (.slice (some ⟨xb,0,none⟩) 1 xc) K:=by
 have Ai:∀x∈[r],x.length=k:=λx hx=>by simp at hx;rw[hx];exact hr
 obtain⟨z,hz1,Qw⟩:=hz;have hnews:Cells (A++(C++B)) (some ⟨xb,0,none⟩) (1*k) (ψ [r]):=.inr ⟨rfl,_,_,_,hx,by simp[hr],by simp[ψ];rw[<-hr,xa7]⟩;have hnone:∀u∈(ψ [r]).toList,u.oneCell'=true:=by simpa[ψ]using h1
 rcases h with⟨rfl,rfl,rfl⟩|⟨b,aF,rfl,rfl,aH⟩
 ·refine⟨none,0,0,some ⟨xb,0,none⟩,1,xc,#[],ψ [r],rfl,rfl,rfl,hnews,by rw[bK Ai];simp,by simp,hnone,λh=>by omega,λ_=>⟨hb,by omega,λeE hn b hbf=>?_⟩⟩;rw[show(#[]:Array zV)++ψ [r]++Builtin.zeroCells zero.cells (eE-(0+1))=ψ ([]++[r]++List.replicate (eE-1) z)by rw[hz1,n6 z Qw];simp only[xa1,xdg,xbR];rw[cS]];refine⟨_,aO.Rn [(b,_)] A B,hk _ [(b,_)] (.inr ⟨b,List.replicate (eE-1) z,?_,rfl,?_⟩)⟩
  ·simp;omega
  intro x hx;rcases xao.1 hx with hx|hx
  ·exact Ai x hx
  rw[xbS hx,Qw]
 have hsz:=bK aH;have mE:∀x∈rs,x.length=k:=λx hx=>aH x (by simp[hx]);have hold:ψ rs=(ψ (rs++aF)).extract 0 (0+rs.length*k):=by
  rw[<-cS];apply xc4;have:=bK mE;have h2:(ψ rs).toList.length=rs.length*k:=by rw[xb3];exact this
  rw[xeb,xei,xdI,List.drop_zero,xa1,xcU,<-h2,xdU]
 refine⟨some ⟨b,0,none⟩,rs.length,rs.length+aF.length,some ⟨xb,0,none⟩,1,xc,ψ rs,ψ [r],rfl,rfl,.inr ⟨rfl,_,elem,(0,0),by simp,?_,hold⟩,hnews,by rw[bK Ai];simp,bK mE,hnone,λhfit=>?_,λhgrow=>⟨hb,by omega,λeE hn b' hbf=>?_⟩⟩
 ·rw[hsz];simp only[xaf,xa1];exact xaY _ zO
 ·obtain⟨j0,fy,rfl⟩:∃j0 fy,aF=j0::fy:=by cases aF with|nil=>exact absurd hfit (by simp only[xbF];omega)|cons a b=>exact⟨a,b,rfl⟩
  refine⟨_,elem,_,rfl,?_,((df.head _).append B).cf A,hk _ [(b,_)] (.inr ⟨b,fy,?_,?_,?_⟩)⟩
  ·rw[hsz];simp[xbr,xd1]
  ·simp;omega
  ·have e:(ψ [r]).toList=r:=by simp[ψ]
   rw[e,show(⟨b,0,none⟩:Addr).off+rs.length*k=rs.length*k by simp,vW aH zI hr];simp
  intro x hx;simp only[xag,xaS,xbR,xao,xak]at hx;rcases hx with hx|hx|hx
  ·exact mE x hx
  ·rw[hx];exact hr
  exact aH x (by simp[hx])
 refine⟨A++([(b',_)]++B),?_,hk _ [(b',_)] (.inr ⟨b',List.replicate (eE-(rs.length+1)) z,?_,rfl,?_⟩)⟩
 ·rw[hz1,n6 z Qw,cS,cS];exact λg w h=>(aO.acY [[_],A,[_],B] [[_],A,[_],B] ((xbk (l₁:=[_,A]) (l₂:=[_])).append_right [B]|>.trans (.cons _ (.swap _ _ _))) g w h).tail
 ·simp;omega
 intro x hx;rcases xao.1 hx with hx|hx
 ·rcases xao.1 hx with hx|hx
  ·exact mE x hx
  exact Ai x hx
 rw[xbS hx,Qw]
end
section
variable{v:zV}{rs:List (List zV)}
def aU.pos{k:Nat}(h:aU T k v rs C)(hp:0<rs.length):
  ∃b aF,v=.slice (some ⟨b,0,none⟩) rs.length (rs.length+aF.length)/\C=[(b,.cells (ψ (rs++aF)) T zZ)]/\(∀r∈rs++aF,r.length=k):=by
 rcases h with⟨_,rfl,_⟩|h
 ·simp at hp
 exact h
def aU.mk{k b:Nat}{aF:List (List zV)}(aH:∀r∈rs++aF,r.length=k):aU T k (.slice (some ⟨b,0,none⟩) rs.length (rs.length+aF.length)) rs [(b,.cells (ψ (rs++aF)) T zZ)]:=
 .inr ⟨b,aF,rfl,rfl,aH⟩
def aU.mk'{k b n c:Nat}{aF:List (List zV)}(aH:∀r∈rs++aF,r.length=k)(hn:n=rs.length)(hc:c=rs.length+aF.length):aU T k (.slice (some ⟨b,0,none⟩) n c) rs [(b,.cells (ψ (rs++aF)) T zZ)]:=by subst hn;subst hc;exact aU.mk aH
variable{l:List (List zV)}{r:List zV}
def aB.row{b i k:Nat}{K:zV->Prop}(hm:(b,Obj.cells (ψ l) T fz)∈H)(aH:∀r∈l,r.length=k)(hi:l[i]? =some r)(h:K (.agg r.toArray)):
  aB k H (.pointer (some ⟨b,0+i*k,none⟩)) K:=by
 have η:=(xah.1 hi).1;refine aB.mk hm ?_ ?_ h
 ·rw[bK aH,xa1];have:=xaY k (xcO η);rwa [xbr]at this
 rw[xa1];exact Bi aH hi
def Ld.row{b i j k:Nat}{K:zV->Prop}(hm:(b,Obj.cells (ψ l) T fz)∈H)(aH:∀r∈l,r.length=k)(hi:l[i]? =some r)(hv:r[j]? =some v)(h:K v):
  Ld H (.pointer (some ⟨b,0+i*k+j,none⟩)) K:=by
 have hr:=aH r (xav hi);have hj:j<k:=by rw[<-hr];exact(xah.1 hv).1
 refine Ld.mk hm ?_ h;rw[xa1,iX aH hj,hi];exact hv
def Ld.acZ{b i:Nat}{K:zV->Prop}(hm:(b,Obj.cells (ψ l) T fz)∈H)(aH:∀r∈l,r.length=1)(hi:l[i]? =some [v])(h:K v):
  Ld H (.pointer (some ⟨b,0+i*1,none⟩)) K:=by have:=Ld.row (j:=0) hm aH hi rfl h;simpa using this
def St.row{b i k:Nat}{K:Hp->Prop}(hu:df b (.cells (ψ l) T zZ) (.cells (ψ (l.set i r)) T zZ) H H')(aH:∀r∈l,r.length=k)(hi:i<l.length)
 (hr:r.length=k)(h1:∀v∈r,v.oneCell'=true)(h:K H'):St k H (.pointer (some ⟨b,0+i*k,none⟩)) (.agg r.toArray) K:=by
 refine St.mk hu (by simp[Value.cells,hr]) ?_ (by simpa[Value.cells]using h1) ?_ h
 ·rw[bK aH,xa1];have:=xaY k (xcO hi);rwa [xbr]at this
 simp only[Value.cells,xa1];exact vW aH hi hr
def qj{k:Nat}(h:∀r∈l,r.length=k){i j:Nat}(hi:l[i]? =some r)(hj:j<k)(v:zV):(ψ l).setIfInBounds (i*k+j) v=ψ (l.set i (r.set j v)):=by
 have hr:=h r (xav hi);have η:=(xah.1 hi).1;have TM:∀x∈l.set i (r.set j v),x.length=k:=λx hx=>by
  rcases xb2 hx with hx|hx
  ·exact h x hx
  rw[hx,xbE];exact hr
 have hk:0<k:=by omega
 apply xc4;apply xba;intro m;rw[xbd,xbd,xcs];have hm:m%k<k:=xbJ _ hk;have he:m/k*k+m%k=m:=by rw[xcn];exact xeI m k
 have g1:=iX h (i:=m/k) hm;have g2:=iX TM (i:=m/k) hm;rw[he]at g1 g2;rw[g1,g2];by_cases e:i*k+j=m
 ·have e1:m/k=i:=by rw[<-e,xcn,Nat.mul_add_div hk,xdy hj,xcB]
  have e2:m%k=j:=by rw[<-e,xcn,Nat.mul_add_mod,xbl hj]
  rw[xae e,xae (by rw[bK h];have:=xaY k (xcO η);rw[xbr]at this;omega),e1,e2];simp[η,hr,hj]
 rw[xac e];by_cases e1:m/k=i
 ·have e2:j≠m%k:=λe2=>e (by rw[e2,<-e1];exact he);rw[e1,hi];simp[η,e2]
 rw[xbw (λx=>e1 x.symm)]
def St.cell{b i j k:Nat}{K:Hp->Prop}(hu:df b (.cells (ψ l) T zZ) (.cells (ψ (l.set i (r.set j v))) T zZ) H H')(aH:∀r∈l,r.length=k)
 (hi:l[i]? =some r)(hj:j<k)(h1:v.oneCell'=true)(h:K H'):St 1 H (.pointer (some ⟨b,0+i*k+j,none⟩)) v K:=by
 have η:=(xah.1 hi).1;have hc:v.cells=#[v]:=by cases v<;>first|rfl|(simp[Value.oneCell']at h1)
 refine St.mk hu (by simp[hc]) ?_ (by simp[hc,h1]) ?_ h
 ·rw[bK aH,xa1];have:=xaY k (xcO η);rw[xbr]at this;omega
 simp only[hc,xa1,jo];exact qj aH hi hj v
def St.one{b ο:Nat}{c':Array zV}{K:Hp->Prop}(hu:df b (.cells c T zZ) (.cells c' T zZ) H H')(h1:v.oneCell'=true)(hs:ο<c.size)(hc:c.setIfInBounds ο v=c')(h:K H'):
  St 1 H (.pointer (some ⟨b,ο,none⟩)) v K:=by
 have hv:v.cells=#[v]:=by cases v<;>first|rfl|(simp[Value.oneCell']at h1)
 exact St.mk hu (by simp[hv]) zO (by simp[hv,h1]) (by simpa[hv,jo]using hc) h
def St.whole{b n:Nat}{K:Hp->Prop}(hu:df b (.cells c T zZ) (.cells r.toArray T zZ) H H')(hs:c.size=n)(hr:r.length=n)(h1:∀v∈r,v.oneCell'=true)(h:K H'):
  St n H (.pointer (some ⟨b,0,none⟩)) (.agg r.toArray) K:=by refine St.mk hu (by simp[Value.cells,hr]) zO (by simpa[Value.cells]using h1) ?_ h;have:=m6 r c.toList 0 zP;rw[xdx]at this;simp only[Value.cells];rw[this];simp[xdm,hr,hs]
def aB.whole{b n:Nat}{K:zV->Prop}(hm:(b,Obj.cells r.toArray T fz)∈H)(hr:r.length=n)(h:K (.agg r.toArray)):aB n H (.pointer (some ⟨b,0,none⟩)) K:=
 aB.mk hm (by simp[hr]) (by simp;rw[<-hr,xa7]) h
def ie{α β:Type}(f:α->β):∀(l:List α) (i:Nat),(l.map f).eraseIdx i=(l.eraseIdx i).map f
 | [],_=>rfl
 |x::l,0=>rfl
 |x::l,i+1=>by simp[ie f l i]
variable{β:Type}
def gu(kd:IntKind)(enc:β->zV)(m:List (Int×β×Nat)):Array MapEntry:=(m.map λx=>({key:=.int kd x.1,val:=enc x.2.1,born:=x.2.2}:MapEntry)).toArray
def gX(m:List (Int×β×Nat))(x:Int):Option β:=(m.find? (λy=>x==y.1)).map (·.2.1)
def lR(kd:IntKind)(enc:β->zV)(v:zV)(f:Int->Option β)(C:Hp):Prop:=
 (v=.map none/\C=[]/\f=λ_=>none)\/
 ∃b m ck,v=.map (some b)/\C=[(b,.map (gu kd enc m) ck)]/\(m.map Prod.fst).Nodup/\f=gX m
def jT{β:Type}(kd:IntKind)(enc:β->zV)(x:Int):∀(m:List (Int×β×Nat)) (i:Nat),
  ∃r,Instr.findNow (.int kd) (.int kd x) (gu kd enc m).toList i=some r/\
   (match r with
    |none=>gX m x=none/\x∉m.map Prod.fst
    |some (j,v)=>i<=j/\∃p n,m[j-i]? =some (x,p,n)/\v=enc p/\gX m x=some p)
 | [],i=>⟨none,by simp[gu,Instr.findNow],by simp[gX]⟩
 |(y,p,n)::m,i=>by
  simp only[gu,xay,Instr.findNow,Instr.sameNow,xa5];by_cases e:x=y
  ·subst e;refine⟨some (i,enc p),by simp[Instr.findNow,Instr.sameNow],xai _,p,n,by simp,rfl,by simp[gX]⟩
  obtain⟨r,hr,hp⟩:=jT kd enc x m (i+1);have hb:(x==y)=false:=by simpa using e
  refine⟨r,?_,?_⟩
  ·simp only[gu]at hr;simp[Instr.findNow,Instr.sameNow,hb,hr]
  cases r with
  |none=>
   simp only[gX,xbG,hb]at hp⊢;exact⟨hp.1,by simpa[e]using hp.2⟩
  |some jv=>
   obtain⟨j,v⟩:=jv;simp only[gX,xbG,hb]at hp⊢;obtain⟨hij,p',n',h1,h2,h3⟩:=hp;refine⟨by omega,p',n',?_,h2,h3⟩;rw[show j-i=(j-(i+1))+1 by omega];simpa using h1
variable{kd:IntKind}
def lR.look{enc:β->zV}{zero:zV}{f:Int->Option β}{ok:Bool}{x:Int}{K:zV->Prop}(h:lR kd enc v f C)(hC:∀y∈C,y∈H)
 (hk:K (match f x with|some p=>cond ok (.tuple #[enc p,.bool true]) (enc p)|none=>cond ok (.tuple #[zero,.bool false]) zero)):dg (.int kd) zero ok H v (.int kd x) K:=by
 rcases h with⟨rfl,rfl,rfl⟩|⟨b,m,ck,rfl,rfl,_,rfl⟩
 ·exact⟨#[],none,.inl ⟨rfl,rfl⟩,rfl,hk⟩
 obtain⟨r,hr,hp⟩:=jT kd enc x m 0;refine⟨_,r,.inr ⟨b,ck,rfl,hC _ zI⟩,hr,?_⟩;cases r with
 |none=>simp only[hp.1]at hk;exact hk
 |some jv=>
  obtain⟨j,u⟩:=jv;obtain⟨_,p,n,_,rfl,h3⟩:=hp;simp only[h3]at hk;exact hk
def Qt(f:Int->Option β)(x:Int)(p:Option β):Int->Option β:=λy=>if y=x then p else f y
def lR.made{enc:β->zV}(b:Nat):lR kd enc (.map (some b)) (λ_=>none) [(b,.map #[] 0)]:=
 .inr ⟨b,[],0,rfl,rfl,by simp,by funext x;simp[gX]⟩
def Gv(m:List (Int×β×Nat))(x:Int)(p:β)(n:Nat)(hx:x∉m.map Prod.fst):gX (m++[(x,p,n)])=Qt (gX m) x (some p):=by
 funext y
 simp only[gX,Qt,List.find?_append];by_cases e:y=x
 ·subst e;have:m.find? (λz=>y==z.1)=none:=by
   rw[xcV];intro z hz;simp only[xcT];intro e;exact hx (e▸xaT hz)
  simp[this]
 have e':(y==x)=false:=by simpa using e
 rw[xac e];cases h:m.find? (λz=>y==z.1)<;>simp[e']
def zv{β:Type}:∀(m:List (Int×β×Nat)) (j:Nat) (x:Int) (p q:β) (n:Nat),(m.map Prod.fst).Nodup->m[j]? =some (x,q,n)->gX (m.set j (x,p,n))=Qt (gX m) x (some p)
 | [],j,_,_,_,_,_,h=>by simp at h
 |y::m,0,x,p,q,n,nd,h=>by
  simp at h;subst h
  funext z
  simp only[xcH,gX,Qt,xbG];by_cases e:z=x
  ·subst e;simp
  have e':(z==x)=false:=by simpa using e
  rw[xac e];simp[e']
 |y::m,j+1,x,p,q,n,nd,h=>by
  simp at h;simp only[xay,xaX]at nd;have ih:=zv m j x p q n nd.2 h;have ξ:x≠y.1:=λe=>nd.1 (e▸xaT (f:=Prod.fst) (xav h))
  funext z
  have ihz:=congrFun ih z;simp only[xdM,gX,Qt,xbG]at ihz⊢;by_cases e:z=y.1
  ·have:z≠x:=λe2=>ξ (e2▸e);simp[e,xa9 ξ]
  have e':(z==y.1)=false:=by simpa using e
  simp only[e'];exact ihz
def ua{β:Type}:∀(m:List (Int×β×Nat)) (j:Nat) (x:Int) (q:β) (n:Nat),(m.map Prod.fst).Nodup->m[j]? =some (x,q,n)->gX (m.eraseIdx j)=Qt (gX m) x none
 | [],j,_,_,_,_,h=>by simp at h
 |y::m,0,x,q,n,nd,h=>by
  simp at h;subst h;simp only[xay,xaX]at nd
  funext z
  simp only[List.eraseIdx_cons_zero,gX,Qt,xbG];by_cases e:z=x
  ·subst e;have:m.find? (λw=>z==w.1)=none:=by
    rw[xcV];intro w hw;simp only[xcT];intro e;exact nd.1 (e▸xaT hw)
   simp[this]
  have e':(z==x)=false:=by simpa using e
  rw[xac e];simp[e']
 |y::m,j+1,x,q,n,nd,h=>by
  simp at h;simp only[xay,xaX]at nd;have ih:=ua m j x q n nd.2 h;have ξ:x≠y.1:=λe=>nd.1 (e▸xaT (f:=Prod.fst) (xav h))
  funext z
  have ihz:=congrFun ih z;simp only[List.eraseIdx_cons_succ,gX,Qt,xbG]at ihz⊢;by_cases e:z=y.1
  ·simp[e,xa9 ξ]
  have e':(z==y.1)=false:=by simpa using e
  simp only[e'];exact ihz
def lR.bt{enc:β->zV}{b:Nat}{f:Int->Option β}{x:Int}{p:β}{K:Hp->Prop}(h:lR kd enc (.map (some b)) f C)
 (hk:∀C',lR kd enc (.map (some b)) (Qt f x (some p)) C'->K (A++(C'++B))):aY (.int kd) (A++(C++B)) (.map (some b)) (.int kd x) (enc p) K:=by
 rcases h with⟨h,_,_⟩|⟨b',m,ck,hb,rfl,nd,rfl⟩
 ·simp at h
 simp only[Value.map.injEq,xat]at hb;subst hb;obtain⟨r,hr,hp⟩:=jT kd enc x m 0;refine⟨b,gu kd enc m,ck,r,rfl,hr,?_⟩;cases r with
 |none=>
  refine⟨_,((df.head _).append B).cf A,hk [(b,_)] (.inr ⟨b,m++[(x,p,ck)],ck+1,rfl,?_,?_,?_⟩)⟩
  ·simp[gu]
  ·rw[xaz,xa3];exact⟨nd,by simp,λa ha c hc=>by simp at hc;subst hc;intro e;subst e;exact hp.2 ha⟩
  exact(Gv m x p ck hp.2).symm
 |some jv=>
  obtain⟨j,u⟩:=jv;obtain⟨_,q,n,h1,rfl,h3⟩:=hp;rw[xcU]at h1;have η:=(xah.1 h1).1;refine⟨λe he=>?_,by simpa[gu]using η,_,((df.head _).append B).cf A,hk [(b,_)] (.inr ⟨b,m.set j (x,p,n),ck,rfl,?_,?_,?_⟩)⟩
  ·have:e={key:=.int kd x,val:=enc q,born:=n}:=by
    simp only[gu,xdu,xaq,h1]at he;simpa using he.symm
   subst this;simp[Instr.sameBits]
  ·congr 3;apply xc4;apply xba;intro i;simp only[gu,xbd,xb6,xdu,xaq,xbp];by_cases e:j=i
   ·subst e;have hj:m[j]=(x,q,n):=by have:=xab η;rw[h1]at this;simpa using this.symm
    simp[η,hj]
   simp[e]
  ·rw[xcC];have hx:(m.map Prod.fst)[j]? =some x:=by rw[xaq,h1];rfl
   rw[show(m.map Prod.fst).set j x=m.map Prod.fst by
    apply xba;intro i;rw[xbp];by_cases e:j=i
    ·subst e;rw[hx];simp[η]
    simp[e]]
   exact nd
  exact(zv m j x p q n nd h1).symm
def lR.del{enc:β->zV}{f:Int->Option β}{x:Int}{K:Hp->Prop}(h:lR kd enc v f C)
 (hk:∀C',lR kd enc v (Qt f x none) C'->K (A++(C'++B))):po (.int kd) (A++(C++B)) v (.int kd x) K:=by
 rcases h with⟨rfl,rfl,rfl⟩|⟨b,m,ck,rfl,rfl,nd,rfl⟩
 ·refine .inl ⟨rfl,hk [] (.inl ⟨rfl,rfl,?_⟩)⟩
  funext y;simp[Qt]
 obtain⟨r,hr,hp⟩:=jT kd enc x m 0;refine .inr ⟨b,gu kd enc m,ck,r,rfl,hr,?_⟩;cases r with
 |none=>
  refine⟨by simp,hk [(b,_)] (.inr ⟨b,m,ck,rfl,rfl,nd,?_⟩)⟩
  funext y;simp only[Qt];split
  ·rename_i e;subst e;exact hp.1.symm
  rfl
 |some jv=>
  obtain⟨j,u⟩:=jv;obtain⟨_,q,n,h1,rfl,h3⟩:=hp;rw[xcU]at h1;have η:=(xah.1 h1).1;refine⟨_,((df.head _).append B).cf A,hk [(b,_)] (.inr ⟨b,m.eraseIdx j,ck,rfl,?_,?_,?_⟩)⟩
  ·congr 3;apply xc4;simp[gu,Array.eraseIdxIfInBounds,η,ie]
  ·rw[<-ie];exact nd.sublist (xd6 _ _)
  exact(ua m j x q n nd h1).symm
end
section
def xf(ο:Nat):∀(r:List zV) (i:Nat) (c:Array zV),(r.zipIdx i).foldl (λcs (x:zV×Nat)=>cs.setIfInBounds (ο+x.2) x.1) c=jo c (ο+i) r
 | [],i,c=>rfl
 |v::r,i,c=>by
  rw[List.zipIdx_cons,xcL,xf ο r (i+1)];rfl
def Oz(ο:Nat)(a c:Array zV):a.zipIdx.foldl (λcs (x:zV×Nat)=>cs.setIfInBounds (ο+x.2) x.1) c=jo c ο a.toList:=by
 rw[<-Array.foldl_toList];have:a.zipIdx.toList=a.toList.zipIdx 0:=by simp
 rw[this,xf ο a.toList 0 c];rfl
def wj:List zV->Nat->List zV->List zV
 |c,_,[]=>c
 |c,ο,v::r=>wj (c.set ο v) (ο+1) r
def m7:∀(r c:List zV) (ο:Nat),jo c.toArray ο r=(wj c ο r).toArray
 | [],c,ο=>rfl
 |v::r,c,ο=>by
  have:c.toArray.setIfInBounds ο v=(c.set ο v).toArray:=by simp
  rw[jo,wj,this,m7 r]
def oT(place:Nat->Option (Nat×Nat)):List zV->List (Nat×zV)->Option (List zV)
 |c,[]=>some c
 |c,(i,v)::r=>
  match place i with
  |none=>none
  |some (ο,size)=>cond (Nat.beq v.cells.toList.length size&&Nat.ble (ο+v.cells.toList.length) c.length) (oT place (wj c ο v.cells.toList) r) none
def kC{place:Nat->Option (Nat×Nat)}:∀(r:List (Nat×zV)) (c cs:List zV),oT place c r=some cs->Instr.fill place c.toArray r=some cs.toArray
 | [],c,cs,h=>by simp only[oT,xat]at h;subst h;rfl
 |(i,v)::r,c,cs,h=>by
  simp only[oT]at h;simp only[Instr.fill];split at h
  ·simp at h
  rename_i ο size hp;cases hc:(Nat.beq v.cells.toList.length size&&Nat.ble (ο+v.cells.toList.length) c.length)<;>simp only[hc,xap,xaj,reduceCtorEq]at h;simp only[xaJ]at hc;have h1:=xaH hc.1;have h2:=xcY hc.2;have h3:v.cells.toList.length=v.cells.size:=xb3;have hsz:v.cells.size=size:=by rw[<-h3];exact h1
  have hle:ο+v.cells.size<=c.length:=by rw[<-h3];exact h2
  simp only[hp];have Tz:(decide (v.cells.size≠size)||decide (ο+v.cells.size>c.toArray.size))=false:=by
   rw[xaG];exact⟨by simp[hsz],by simp only[xc1,xbq];omega⟩
  rw[Tz];simp only[xaR,xa2];rw[Oz,m7];exact kC r _ cs h
def rQ(P:Program):List Field->Option (List (Nat×Nat))
 | []=>some []
 |f::r=>match dm P f.type,rQ P r with
  |some n,some l=>some ((f.offset,n)::l)
  |_,_=>none
def UI(P:Program)(t:TypeId)(parts:List (Nat×zV)):Option (List zV):=
 match P.underlying t,fh P t with
 |some (.struct fs),some z=>match rQ P fs.toList with
  |some pl=>oT (λi=>pl[i]?) z.cells.toList parts
  |none=>none
 |_,_=>none
def tX:∀(fs:List Field) (pl:List (Nat×Nat)),rQ P fs=some pl->∀w,(fs.mapM λf=>(do pure (f.offset,<-sizeOf f.type):Sem (Nat×Nat))).run P w=.ok pl w
 | [],pl,h,w=>by simp only[rQ,xat]at h;subst h;rfl
 |f::r,pl,h,w=>by
  simp only[rQ]at h;split at h
  ·rename_i n l hn hl;simp only[xat]at h;subst h;obtain⟨i,hi,hin⟩:=bJ hn;have ih:=tX r l hl w;simp only[xek,Sem.run_bind,run_sizeOf hi,Result.andThen_ok,Sem.run_pure,hin,ih]
  simp at h
def Build.mk{t:TypeId}{parts:List (Nat×zV)}{cs:List zV}{k:zV->Prop}(hb:UI P t parts=some cs)(h:k (.agg cs.toArray)):Build P t parts k:=by
 refine⟨_,λw=>?_,h⟩;unfold UI at hb;split at hb
 ·rename_i fs z hu hz;split at hb
  ·rename_i pl Ab;obtain⟨i,hi,yJ⟩:=cL hz;have hf:=kC _ _ _ hb;have hp:=tX fs.toList pl Ab w;simp only[Instr.build,Sem.run_bind,dY hi yJ,Result.andThen_ok,run_underlying hu];have e2:((fs.mapM λf=>(do pure (f.offset,<-sizeOf f.type):Sem (Nat×Nat))).run P w)=.ok pl.toArray w:=by
    rw[Array.mapM_eq_mapM_toList];simp only[Sem.run_map,hp,Result.andThen_ok]
   rw[e2];show Sem.run P _ w=_;have e3:Instr.fill (λx=>pl.toArray[x]?) z.cells parts=some cs.toArray:=by
    simpa using hf
   simp only[e3];rfl
  simp at hb
 simp at hb
def aq.one{t e k:Nat}{z:zV}{r:List zV}(h1:P.underlying t=some (.slice e))(h2:dm P e=some k)(h3:fh P e=some z)(hk:0<k/\k<=16777216)(hr:r.length=k)
 (h:∀b,K (.slice (some ⟨b,0,none⟩) 1 1) ((b,.cells r.toArray e zZ)::H)):aq P t 1 [(0,.agg r.toArray)] H K:=by
 refine⟨r.toArray,e,k,z,h1,h2,h3,by omega,?_,λb _=>h b⟩;have:((Array.range (1*k)).map (z.cells[· %z.cells.size]!))=(((Array.range (1*k)).map (z.cells[· %z.cells.size]!)).toList).toArray:=by rw[xdx]
 rw[this];generalize hc:((Array.range (1*k)).map (z.cells[· %z.cells.size]!)).toList=c;have Ξ:c.length=k:=by rw[<-hc];simp
 apply kC _ _ _;simp only[oT,Value.cells];have hb:(Nat.beq r.toArray.toList.length k&&Nat.ble (0*k+r.toArray.toList.length) c.length)=true:=by simp[hr,Ξ]
 rw[hb];simp only[xap,xat];have:=m6 r c 0 zO;rw[m7]at this;have h5:wj c 0 r=List.take 0 c++r++List.drop (0+r.length) c:=by simpa using xch Array.toList this
 simp only[xec];rw[h5];simp[xdm,hr,Ξ]
end
section
def lR.NV{β:Type}{kd:IntKind}{enc:β->zV}{v zero:zV}{f:Int->Option β}{ok:Bool}{x:Int}{K:zV->Prop}{p:β}(h:lR kd enc v f C)(hC:∀y∈C,y∈H)(hf:f x=some p)
 (hk:K (cond ok (.tuple #[enc p,.bool true]) (enc p))):dg (.int kd) zero ok H v (.int kd x) K:=h.look hC (by rw[hf];exact hk)
def lR.NW{β:Type}{kd:IntKind}{enc:β->zV}{v zero:zV}{f:Int->Option β}{ok:Bool}{x:Int}{K:zV->Prop}(h:lR kd enc v f C)(hC:∀y∈C,y∈H)(hf:f x=none)
 (hk:K (cond ok (.tuple #[zero,.bool false]) zero)):dg (.int kd) zero ok H v (.int kd x) K:=h.look hC (by rw[hf];exact hk)
def gD.upto{size n c h:Nat}{a:Option Addr}{kd:IntKind}{k:zV->Prop}(hh:h<=c)(hk:k (.slice a h c)):gD size (.slice a n c) none (some (.int kd (h:Int))) k:=by
 refine⟨a,n,c,0,h,rfl,rfl,rfl,by omega,by omega,by omega,?_⟩;have:(if c=(0:Int).toNat then a else a.map (·.add ((0:Int).toNat*size)))=a:=by
  split
  ·rfl
  simp only[Int.toNat_zero,xec];cases a with
  |none=>rfl
  |some x=>simp[Addr.add_zero']
 rw[this];simpa using hk
end
section
inductive bE(C:Hp):Hp->(Hp->Hp)->Prop
 |here:bE C C (λX=>X)
 |left {A:Hp}:bE C (C++A) (λX=>X++A)
 |cons {x:Nat×Obj} {H:Hp} {c:Hp->Hp} (h:bE C H c):bE C (x::H) (λX=>x::c X)
 |app {A H:Hp} {c:Hp->Hp} (h:bE C H c):bE C (A++H) (λX=>A++c X)
def bE.spec{c:Hp->Hp}(h:bE C H c):H=c C/\∃F,∀X,(c X).Perm (X++F):=by
 induction h with
 |here=>exact⟨rfl,[],λX=>by simp⟩
 | @left A=>exact⟨rfl,A,λX=>.refl _⟩
 | @cons x H c h ih=>
  obtain⟨h1,F,h2⟩:=ih;exact⟨by rw[h1],x::F,λX=>(List.Perm.cons x (h2 X)).trans xaO.symm⟩
 | @app A H c h ih=>
  obtain⟨h1,F,h2⟩:=ih;refine⟨by rw[h1],A++F,λX=>(xbB A (h2 X)).trans ?_⟩;rw[<-xag,<-xag];exact xbk.append_right F
def bE.dO{c:Hp->Hp}(h:bE C H c){X Y:Hp}(e:aO X Y):aO (c X) (c Y):=by obtain⟨_,F,hp⟩:=h.spec;exact(aO.perm (hp X)).trans ((e.frame F).trans (.perm (hp Y).symm))
def aO.cons{x:Nat×Obj}{A B:Hp}(h:aO A B):aO (x::A) (x::B):=aO.cv h [x]
def aO.skip(h:aO A B):aO (x::A) B:=aO.tail.trans h
def aO.dX{X:Hp}(h:aO A B):aO (X++A) B:=aO.right.trans h
def aO.assoc:aO ((A++B)++C) (A++(B++C)):=λ_ _ h=>by rw[<-xag];exact h
def bG.frame{F:Hp}(h:∀g,bG P g f args C R):bG P g f args (C++F) (λe H'=>∃C',H'=C'++F/\R e C'):=by intro w hw;exact((h (g.add F)) w (Own.fD.1 hw)).mono λe w' ⟨H',ho,hr⟩=>⟨_,Own.fD.2 ho,H',rfl,hr⟩
def bG.hole{c:Hp->Hp}(hh:bE C H c)(h:∀g,bG P g f args C R):bG P g f args H (λe H'=>∃C',H'=c C'/\R e C'):=by obtain⟨rfl,F,hp⟩:=hh.spec;exact((bG.frame (F:=F) h).pre (.perm (hp C))).post λe H' ⟨C',h1,h2⟩=>⟨c C',by rw[h1];exact .perm (hp C').symm,C',rfl,h2⟩
def Fc(P:Program)(f:FuncId)(args:Array zV)(C:Hp)(Q:zV->Hp->Prop):Prop:=
 ∀g,bG P g f args C (λe H'=>∃v mS,e=.returned v/\aO H' mS/\Q v mS)
def aQ(Q:zV->Hp->Prop):Ending->Hp->Prop:=λe H'=>∃v mS,e=.returned v/\aO H' mS/\Q v mS
variable{Q:zV->Hp->Prop}{v:zV}
def aQ.mk{mS:Hp}(he:aO H mS)(h:Q v mS):aQ Q (.returned v) H:=⟨v,mS,rfl,he,h⟩
def aQ.here(h:Q v H):aQ Q (.returned v) H:=⟨v,H,rfl,.refl _,h⟩
def Fc.mono{Q':zV->Hp->Prop}(h:Fc P f args C Q)(hq:∀v H,Q v H->Q' v H):Fc P f args C Q':=
 λg=>(h g).mono λe H' ⟨v,mS,h1,h2,h3⟩=>⟨v,mS,h1,h2,hq _ _ h3⟩
def Rd(P:Program)(f:FuncId)(args:Array zV)(B:Hp)(Q:zV->Prop):Prop:=Fc P f args B (λv H=>H=B/\Q v)
def ae.fn{c:Hp->Hp}(hh:bE C H c)(hc:Fc P f args C Q)
 (hk:∀v C',Q v C'->K v (c C')):ae P g f args H K KP:=
 (bG.hole hh hc).post λe H' ⟨C',h1,v,C'',h2,h3,h4⟩=>⟨c C'',by rw[h1];exact hh.dO h3,by subst h2;exact hk _ _ h4⟩
def ae.rd{c:Hp->Hp}{Q:zV->Prop}(hh:bE B H c)(hc:Rd P f args B Q)
 (hk:∀v,Q v->K v H):ae P g f args H K KP:=
 ae.fn hh hc λv C' ⟨h1,h2⟩=>by subst h1;rw[<-hh.spec.1];exact hk v h2
def aM.of{fv:zV}{first captured:Array zV}(hf:fv=.func (.func f) first captured)(hc:aW P f=true)
 (h:ae P g f (first++args++captured) H K KP):aM P g fv args H K KP:=⟨f,first,captured,hf,hc,h⟩
def DR.self{body:Hp->Prop}(h:body H):DR H body:=⟨H,.refl _,h⟩
def DR.of{R:Hp}{body:Hp->Prop}(e:aO H R)(h:body R):DR H body:=⟨R,e,h⟩
def At(B:Hp)(p:zV)(r:List zV):Prop:=∃b o c T fz,p=.pointer (some ⟨b,o,none⟩)/\(b,Obj.cells c T fz)∈B/\∀j v,r[j]? =some v->c[o+j]? =some v
def At.block{b:Nat}{l:List zV}(h:(b,Obj.cells l.toArray T fz)∈B):At B (.pointer (some ⟨b,0,none⟩)) l:=
 ⟨b,0,_,T,fz,rfl,h,λj v hj=>by simpa using hj⟩
variable{r:List zV}{k:zV->Prop}
def Ld.at{p:zV}(h:At B p (v::r))(hs:∀x∈B,x∈H)(hk:k v):Ld H p k:=by obtain⟨b,o,c,T,fz,h1,h2,h3⟩:=h;exact⟨b,o,c,T,fz,v,h1,hs _ h2,by simpa using h3 0 v rfl,hk⟩
def aj.at{p:zV}{j:Nat}(h:At B p r)(hk:∀q,At B q (r.drop j)->k q):aj j p k:=by obtain⟨b,o,c,T,fz,h1,h2,h3⟩:=h;refine⟨b,o,h1,hk _ ⟨b,o+j,c,T,fz,rfl,h2,λi v hi=>?_⟩⟩;rw[List.getElem?_drop]at hi;rw[xcq];exact h3 _ _ hi
def aB.at{p:zV}(h:At B p r)(hn:r.length=n)(hp:0<n)(hs:∀x∈B,x∈H)(hk:k (.agg r.toArray)):aB n H p k:=by
 obtain⟨b,o,c,T,fz,h1,h2,h3⟩:=h;have hsz:o+n<=c.size:=by
  have:=h3 (n-1) (r[n-1]' zO) (xab _);have:=(xaU.1 this).1;omega
 refine⟨b,o,c,T,fz,h1,hs _ h2,hsz,?_⟩;have:c.extract o (o+n)=r.toArray:=by
  apply Array.ext
  ·simp;omega
  intro i hi1 LN;simp only[xc1]at LN;have:=h3 i r[i] (xab _);rw[Array.getElem_extract];have:=(xaU.1 this).2;simpa using this
 rw[this];exact hk
def Sl(k:Nat)(B:Hp)(v:zV)(rs:List (List zV)):Prop:=
 (∀r∈rs,r.length=k)/\
 ((∃a cap,v=.slice a 0 cap/\rs=[])\/∃b o cap c T fz,v=.slice (some ⟨b,o,none⟩) rs.length cap/\rs.length<=cap/\(b,Obj.cells c T fz)∈B/\o+rs.length*k<=c.size/\∀i r,rs[i]? =some r->∀j v,r[j]? =some v->c[o+i*k+j]? =some v)
variable{rs:List (List zV)}
def Sl.mono{k:Nat}{B':Hp}(h:Sl k B v rs)(hs:∀x∈B,x∈B'):Sl k B' v rs:=by
 obtain⟨h0,h⟩:=h;refine⟨h0,?_⟩;rcases h with h|⟨b,o,cap,c,T,fz,h1,h2,h3,h4⟩
 ·exact .inl h
 exact .inr ⟨b,o,cap,c,T,fz,h1,h2,hs _ h3,h4⟩
def Sl.nil(k:Nat)(B:Hp):Sl k B (.slice none 0 0) []:=⟨by simp,.inl ⟨_,_,rfl,rfl⟩⟩
def Sl.shape{k:Nat}(h:Sl k B v rs):∃a cap,v=.slice a rs.length cap/\rs.length<=cap:=by
 rcases h.2 with⟨a,cap,rfl,rfl⟩|⟨b,o,cap,c,T,fz,h1,h2,_⟩
 ·exact⟨_,_,rfl,xaL _⟩
 exact⟨_,_,h1,h2⟩
def Sl.bL{k:Nat}(h:Sl k B v rs){K:zV->Prop}(hk:K (.int .i64 rs.length)):aP v K:=by obtain⟨a,c,rfl,_⟩:=h.shape;exact aP.mk hk
def ay.sl{k:Nat}{kd:IntKind}{i:Nat}{K:zV->Prop}(h:Sl k B v rs)(hi:rs[i]? =some r)(hk:∀p,At B p r->K p):ay k v (.int kd (i:Int)) K:=by
 have η:=(xah.1 hi).1;rcases h.2 with⟨a,cap,rfl,rfl⟩|⟨b,o,cap,c,T,fz,h1,h2,h3,h4,h5⟩
 ·simp at η
 subst h1;refine ay.nat zO (hk _ ⟨b,_,c,T,fz,rfl,h3,λj v hj=>h5 i r hi j v hj⟩)
def Sl.cells{k:Nat}{B:Hp}{v:zV}{rs:List (List zV)}(h:Sl k B v rs):∃a cap,v=.slice a rs.length cap/\Cells B a (rs.length*k) (ψ rs):=by
 rcases h.2 with⟨a,cap,rfl,rfl⟩|⟨b,o,cap,c,T,fz,h1,h2,h3,h4,h5⟩
 ·refine⟨a,cap,rfl,?_⟩;cases a with
  |none=>simp[Cells,ψ]
  |some a=>exact .inl ⟨by simp,rfl⟩
 ·refine⟨_,cap,h1,.inr ⟨rfl,c,T,fz,h3,h4,?_⟩⟩;apply Array.ext
  ·rw[bK h.1];simp;omega
  intro i hi1 LN;rw[bK h.1]at hi1;have hk:0<k:=xeq λe=>by simp[e]at hi1
  have hd:i/k<rs.length:=xea (by rw[xcn];exact hi1);have hm:i%k<k:=xbJ _ hk;have he:i/k*k+i%k=i:=by rw[xcn];exact xeI i k
  have hr:=h.1 rs[i/k] (xaK hd);have g1:=iX h.1 (i:=i/k) hm;rw[he,xab hd,xez,xab zO]at g1;have g2:=h5 (i/k) _ (xab hd) (i%k) _ (xab zO);rw[xcq,he]at g2;have e1:=(xaU.1 g1).2;have e2:=(xaU.1 g2).2;rw[Array.getElem_extract];exact e1.trans e2.symm
def Sl.iC{k:Nat}(h:aU T k v rs C)(hk:0<k):Sl k C v rs:=by
 rcases h with⟨rfl,rfl,rfl⟩|⟨b,aF,rfl,rfl,aH⟩
 ·exact Sl.nil _ _
 refine⟨λr hr=>aH r (by simp[hr]),.inr ⟨b,0,_,ψ (rs++aF),T,(0,0),rfl,by omega,by simp,?_,λi r hi j v hj=>?_⟩⟩
 ·rw[bK aH,xaf,xa1];exact xaY _ zO
 have η:=(xah.1 hi).1;have hr:=aH r (xad _ (xav hi));have XD:j<k:=by rw[<-hr];exact(xah.1 hj).1
 rw[xa1,iX aH XD,xaZ η,hi];exact hj
end
def bI:IntKind->Nat
 | .i8=>128| .i16=>32768| .i32=>2147483648| .i64=>9223372036854775808
 | .u8=>256| .u16=>65536| .u32=>4294967296| .u64=>18446744073709551616
def fo{kd:IntKind}{n:Nat}(h:n<bI kd):kd.wrap (n:Int)=n:=by
 cases kd<;>simp only[bI]at h<;>simp only[IntKind.wrap,IntKind.bits,IntKind.signed,xel,xcr,xaR,xa2,xaM];all_goals first
  |omega
  |(rw[xac zP];omega)
def wrap_u64(n:Int):IntKind.u64.wrap n=n%18446744073709551616:=by simp[IntKind.wrap,IntKind.bits,IntKind.signed]
def Sn(kd:IntKind):bI kd<=2^kd.bits:=by cases kd<;>decide
def nE(a b:Nat):Nat:=a^^^(a&&&b)
def dK(a b j:Nat):(nE a b).testBit j=(a.testBit j&& !b.testBit j):=by unfold nE;rw[Nat.testBit_xor,xbj];cases a.testBit j<;>cases b.testBit j<;>rfl
def nD(a b:Nat):nE a b<=a:=by
 have:nE a b=a&&&nE a b:=by
  apply xaV;intro j;rw[xbj,dK];cases a.testBit j<;>simp
 rw[this];exact xci
def bits_nat{kd:IntKind}{a b:Nat}(ha:a<bI kd)(hb:b<bI kd):
  bits .and kd a b=((a&&&b:Nat):Int)/\bits .or kd a b=((a|||b:Nat):Int)/\bits .xor kd a b=((a^^^b:Nat):Int)/\bits .andNot kd a b=((nE a b:Nat):Int):=by
 have hl:=Sn kd;have h1:(BitVec.ofInt kd.bits (a:Int)).toNat=a:=by rw[xcM,BitVec.toNat_ofNat,xbl zO]
 have h2:(BitVec.ofInt kd.bits (b:Int)).toNat=b:=by rw[xcM,BitVec.toNat_ofNat,xbl zO]
 obtain⟨n,hn⟩:∃n,bI kd=2^n:=by cases kd<;>first|exact⟨7,rfl⟩|exact⟨15,rfl⟩|exact⟨31,rfl⟩|exact⟨63,rfl⟩|exact⟨8,rfl⟩|exact⟨16,rfl⟩|exact⟨32,rfl⟩|exact⟨64,rfl⟩
 rw[hn]at ha hb;refine⟨?_,?_,?_,?_⟩
 ·simp only[bits,BitVec.toNat_and,h1,h2];exact fo (by rw[hn];exact xaC xci ha)
 ·simp only[bits,BitVec.toNat_or,h1,h2];exact fo (by rw[hn];exact xbM ha hb)
 ·simp only[bits,BitVec.toNat_xor,h1,h2];exact fo (by rw[hn];exact Nat.xor_lt_two_pow ha hb)
 simp only[bits];have:(BitVec.ofInt kd.bits (a:Int) &&& ~~~BitVec.ofInt kd.bits (b:Int)).toNat=nE a b:=by
  apply xaV;intro j;rw[dK,<-BitVec.getLsbD,BitVec.getLsbD_and,BitVec.getLsbD_not,BitVec.getLsbD,BitVec.getLsbD,h1,h2];by_cases hj:j<kd.bits
  ·simp[hj]
  have:a.testBit j=false:=xcf (xaP ha (by rw[<-hn];exact xbT hl (xaA zD zO)));simp[this]
 rw[this];exact fo (by rw[hn];exact xaC (nD a b) ha)
variable{b:Nat}
section
variable{kd yD:IntKind}{a:Nat}{k:zV->Prop}
def ah.jU(ha:a<bI kd)(hb:b<bI kd)(h:k (.int kd ((a&&&b:Nat):Int))):ah .num .and (.int kd a) (.int kd b) k:=⟨_,by simp[iq,ni,(bits_nat ha hb).1],h⟩
def ah.Lt(ha:a<bI kd)(hb:b<bI kd)(h:k (.int kd ((a|||b:Nat):Int))):ah .num .or (.int kd a) (.int kd b) k:=⟨_,by simp[iq,ni,(bits_nat ha hb).2.1],h⟩
def ah.ZK(ha:a<bI kd)(hb:b<bI kd)(h:k (.int kd ((a^^^b:Nat):Int))):ah .num .xor (.int kd a) (.int kd b) k:=⟨_,by simp[iq,ni,(bits_nat ha hb).2.2.1],h⟩
def ah.E4(ha:a<bI kd)(hb:b<bI kd)(h:k (.int kd ((nE a b:Nat):Int))):ah .num .andNot (.int kd a) (.int kd b) k:=⟨_,by simp[iq,ni,(bits_nat ha hb).2.2.2],h⟩
def ah.iW(ha:a<bI kd)(h:k (.int kd ((a>>>b:Nat):Int))):ah .num .shr (.int kd a) (.int yD b) k:=by
 refine⟨_,?_,h⟩;have h0:¬((b:Int)<0):=by omega
 simp only[iq,h0,xa2,xat,Value.int.injEq,xco,xbe];rw[Int.fdiv_eq_ediv_of_nonneg _ (Int.le_of_lt (Int.pow_pos zD)),xa0];have hl:=Sn kd;by_cases hb:b<=kd.bits
 ·rw[xcJ hb];push_cast;rfl
 rw[xdz zO];have h1:a/2^kd.bits=0:=xdy zO;have h2:a/2^b=0:=xdy (xaP zO (xaA zD (by omega:kd.bits<=b)));have:(a:Int) / (2^kd.bits:Int)=((a/2^kd.bits:Nat):Int):=by push_cast;rfl
 rw[this,h1,h2]
def ah.Dt(hb:b<=kd.bits)(hr:a<<<b<bI kd)(h:k (.int kd ((a<<<b:Nat):Int))):ah .num .shl (.int kd a) (.int yD b) k:=by
 refine⟨_,?_,h⟩;have h0:¬((b:Int)<0):=by omega
 simp only[iq,h0,xa2,xat,Value.int.injEq,xco,xbe,xcJ hb];rw[<-fo hr,xcp];push_cast;rfl
def ah.oc(h:k (.int .u64 (((a<<<b)%18446744073709551616:Nat):Int))):ah .num .shl (.int .u64 a) (.int yD b) k:=by
 refine⟨_,?_,h⟩;have h0:¬((b:Int)<0):=by omega
 simp only[iq,h0,xa2,xat,Value.int.injEq,xco,xbe,IntKind.bits,wrap_u64];rw[xcp];by_cases hb:b<=64
 ·rw[xcJ hb,Int.natCast_emod,Int.natCast_mul,Int.natCast_pow];rfl
 rw[xdz zO];have h1:(a*2^b)%18446744073709551616=0:=by
  have:2^b=18446744073709551616*2^(b-64):=by rw[show(18446744073709551616:Nat)=2^64 by rfl,<-xdE];congr 1;omega
  rw[this,Nat.mul_left_comm];exact Nat.mul_mod_right _ _
 rw[h1];exact Int.mul_emod_left _ _
def ah.Ce(hr:a+b<bI kd)(h:k (.int kd ((a+b:Nat):Int))):ah .num .add (.int kd a) (.int kd b) k:=by
 apply ah.add;have:((a:Int)+(b:Int))=((a+b:Nat):Int):=by push_cast;rfl
 rw[this,fo hr];exact h
def ah.yp(ha:a<bI kd)(hb:b<=a)(h:k (.int kd ((a-b:Nat):Int))):ah .num .sub (.int kd a) (.int kd b) k:=by
 apply ah.sub;have:((a:Int) -(b:Int))=((a-b:Nat):Int):=by omega
 rw[this,fo zO];exact h
def ah.Gs(hr:a*b<bI kd)(h:k (.int kd ((a*b:Nat):Int))):ah .num .mul (.int kd a) (.int kd b) k:=by
 apply ah.mul;have:((a:Int)*(b:Int))=((a*b:Nat):Int):=by push_cast;rfl
 rw[this,fo hr];exact h
def ah.Hl(ha:a<bI kd)(hb:b≠0)(h:k (.int kd ((a/b:Nat):Int))):ah .num .quo (.int kd a) (.int kd b) k:=by
 refine⟨_,?_,h⟩;have h0:¬((b:Int)=0):=by omega
 simp only[iq,ni,xa5,h0,xa2];have:(a:Int).tdiv b=((a/b:Nat):Int):=by rw[Int.tdiv_eq_ediv_of_nonneg zO];push_cast;rfl
 rw[this,fo (xaC (Nat.div_le_self _ _) ha)]
def ah.iD{x y:Int}(h:k (.bool (decide (x=y)))):ah .num .eql (.int kd x) (.int kd y) k:=ah.eql (by rw[show(x==y)=decide (x=y)from by cases hb:decide (x=y)<;>simp_all];exact h)
def ah.cM{x y:Int}(h:k (.bool (decide (x≠y)))):ah .num .neq (.int kd x) (.int kd y) k:=ah.neq (by rw[show(x !=y)=decide (x≠y)from by cases hb:decide (x=y)<;>simp_all];exact h)
def ah.fc(h:k (.bool (decide (a=b)))):ah .num .eql (.int kd a) (.int kd b) k:=ah.iD (by simpa[xeJ]using h)
def ah.Cu(h:k (.bool (decide (a≠b)))):ah .num .neq (.int kd a) (.int kd b) k:=ah.cM (by simpa[xeJ]using h)
def ah.eA(h:k (.bool (decide (a<b)))):ah .num .lss (.int kd a) (.int kd b) k:=ah.lss (by simpa[Int.ofNat_lt]using h)
def ah.By(h:k (.bool (decide (a<=b)))):ah .num .leq (.int kd a) (.int kd b) k:=ah.leq (by simpa[Int.ofNat_le]using h)
def ah.nV(h:k (.bool (decide (b<a)))):ah .num .gtr (.int kd a) (.int kd b) k:=ah.gtr (by simpa[Int.ofNat_lt]using h)
def ah.uo(h:k (.bool (decide (b<=a)))):ah .num .geq (.int kd a) (.int kd b) k:=ah.geq (by simpa[Int.ofNat_le]using h)
def bu.nat(ha:a<bI kd)(h:k (.int kd (a:Int))):bu kd (.int yD a) k:=bu.of (fo ha) h
def bu.aje(h:k (.int .u8 ((a%256:Nat):Int))):bu .u8 (.int yD a) k:=bu.of (by simp[IntKind.wrap,IntKind.bits,IntKind.signed]) h
def Un.agZ(ha:a<18446744073709551616)(h:k (.int .u64 (((18446744073709551616-a)%18446744073709551616:Nat):Int))):Un .neg (.int .u64 a) k:=by refine⟨_,?_,h⟩;simp only[unV,wrap_u64,xat,Value.int.injEq,xco];omega
def Un.agA(ha:a<18446744073709551616)(h:k (.int .u64 ((18446744073709551615-a:Nat):Int))):Un .xor (.int .u64 a) k:=by
 refine⟨_,?_,h⟩;have e:(if IntKind.u64.signed=true then(-1:Int)else IntKind.u64.max)=((18446744073709551615:Nat):Int):=by decide
 simp only[unV,e,(bits_nat (kd:=.u64) (a:=18446744073709551615) (b:=a) zD ha).2.2.1,xat,Value.int.injEq,xco];congr 1;have:18446744073709551615^^^a=18446744073709551615-a:=by
  have LW:a<2^64:=ha;rw[show(18446744073709551615:Nat)=2^64-1 by rfl];apply xaV;intro j;rw[Nat.testBit_xor,show 2^64-1-a=2^64-(a+1)by omega,xem LW,xcW];by_cases hj:j<64
  ·simp[hj]
  simp[hj];exact xcf (xaP LW (xaA zD zO))
 exact this
end
def Br.dec[Decidable p]{t f:Prop}(h1:p->t)(h2:¬p->f):Br (.bool (decide p)) t f:=⟨_,rfl,λh=>h1 (by simpa using h),λh=>h2 (by simpa using h)⟩
def Br.afe[Decidable p]{t f:Prop}(hp:p)(h1:t):Br (.bool (decide p)) t f:=Br.dec (λ_=>h1) λh=>absurd hp h
def Br.Ut[Decidable p]{t f:Prop}(hp:¬p)(h1:f):Br (.bool (decide p)) t f:=Br.dec (λh=>absurd h hp) λ_=>h1
end Go.Sx
namespace an
open Go.Sx
def wN(n:Nat):Nat:=max 1 (2^n/64)
def dN(n:Nat):Nat:=if 6<=n then 18446744073709551615 else 2^2^n-1
structure eU(n:Nat)(ws:zL):Prop where
 yz:n<=16
 len:ws.length=wN n
 full:∀w∈ws,w<=dN n
instance (n:Nat)(ws:zL):Decidable (eU n ws):=decidable_of_iff (n<=16/\ws.length=wN n/\∀w∈ws,w<=dN n) ⟨λ⟨a,b,c⟩=>⟨a,b,c⟩,λ⟨a,b,c⟩=>⟨a,b,c⟩⟩
def bit(ws:zL)(x:Nat):Bool:=(ws.getD (x/64) 0).testBit (x%64)
def aC(x v:Nat)(b:Bool):Nat:=if b then x|||2^v else nE x (2^v)
def ZM(n:Nat):0<wN n:=Nat.le_max_left _ _
variable{n:Nat}
def KR(h:6<=n):wN n=2^(n-6):=by
 unfold wN;have:2^n/64=2^(n-6):=by
  rw[show(64:Nat)=2^6 by rfl,Nat.pow_div h zD]
 rw[this];exact Nat.max_eq_right (xbx _)
def KQ(h:n<7):wN n=1:=by
 have:n=0\/n=1\/n=2\/n=3\/n=4\/n=5\/n=6:=by omega
 rcases this with rfl|rfl|rfl|rfl|rfl|rfl|rfl<;>rfl
def yY(h:n<=16):wN n<=1024:=by
 by_cases h6:6<=n
 ·rw[KR h6];exact xaA zD (by omega:n-6<=10)
 rw[KQ zO];decide
def sr(n:Nat):dN n<18446744073709551616:=by
 unfold dN;split
 ·decide
 have h1:2^n<=32:=xaA (n:=2) zD (by omega:n<=5);have h2:2^2^n<=2^32:=xaA zD h1;omega
variable{ws:zL}
def eU.lt(h:eU n ws){w:Nat}(hw:w∈ws):w<18446744073709551616:=xaC (h.full w hw) (sr n)
def xI{w:Nat}(h:w<=dN n):w&&&dN n=w:=by
 unfold dN at*;split at h
 ·rename_i h6;rw[xae h6,show(18446744073709551615:Nat)=2^64-1 by rfl,xed,xbl zO]
 rename_i h6;rw[xac h6,xed,xbl];have:=xbx (2^n);omega
def mW(n j:Nat):(dN n).testBit j=decide (j<if 6<=n then 64 else 2^n):=by
 unfold dN;split
 ·rw[show(18446744073709551615:Nat)=2^64-1 by rfl,xcW]
 rw[xcW]
variable{x:Nat}
def DY(h:x<2^n):x/64<wN n:=by
 by_cases h6:6<=n
 ·rw[KR h6];apply xea;rw[show(64:Nat)=2^6 by rfl,<-xdE];rwa [show 6+(n-6)=n by omega]
 have h1:2^n<=32:=xaA (n:=2) zD (by omega:n<=5);rw[KQ zO];omega
def eU.ext{a b:zL}(ha:eU n a)(hb:eU n b)(h:∀x,x<2^n->bit a x=bit b x):a=b:=by
 apply List.ext_getElem (by rw[ha.len,hb.len]);intro i h1 h2;apply xaV;intro j;have hfa:=xI (ha.full _ (xaK h1));have hfb:=xI (hb.full _ (xaK h2));by_cases hj:j<(if 6<=n then 64 else 2^n)
 ·have amU:j<64:=by
   split at hj
   ·exact hj
   have h1:2^n<=32:=xaA (n:=2) zD (by omega:n<=5);omega
  have hx:64*i+j<2^n:=by
   by_cases h6:6<=n
   ·have hi:i<2^(n-6):=by rw[<-KR h6,<-ha.len];exact h1
    have:2^n=64*2^(n-6):=by rw[show(64:Nat)=2^6 by rfl,<-xdE];congr 1;omega
    omega
   have hi:i<1:=by rw[<-KQ (show n<7 by omega),<-ha.len];exact h1
   rw[xac h6]at hj;omega
  have:=h _ hx;unfold bit at this;rw[show(64*i+j) /64=i by omega,show(64*i+j)%64=j by omega]at this;simpa[h1,h2]using this
 have hd:(dN n).testBit j=false:=by rw[mW];simpa using hj
 rw[<-hfa,<-hfb,xbj,xbj,hd];simp
def B1(v:Nat):Nat->Nat
 |0=>0
 |j+1=>B1 v j|||(((j>>>v) &&&1)<<<j)
def mask(v:Nat):Nat:=B1 v 64
def gC(m:Nat):m&&&1=if m.testBit 0 then 1 else 0:=by rw[xbX,Nat.testBit_zero];rcases Nat.mod_two_eq_zero_or_one m with h|h<;>simp[h]
def rH(v:Nat):∀J k,(B1 v J).testBit k=(decide (k<J) &&k.testBit v)
 |0,k=>by simp[B1]
 |J+1,k=>by
  rw[B1,xb7,rH v J k,gC,xbK,xcB];by_cases e:k=J
  ·subst e;cases hb:k.testBit v<;>simp[xd7]
  have:((if(J.testBit v)=true then 1 else 0)<<<J).testBit k=false:=by
   rw[xd7];split
   ·by_cases hk:J<=k
    ·have h1:Nat.testBit 1 (k-J)=false:=xcf (Nat.one_lt_two_pow zO);simp[hk,h1]
    simp[hk]
   simp
  rw[this];have:(decide (k<J+1))=decide (k<J):=by simp;omega
  rw[this];simp
def BZ(v:Nat):∀J,B1 v J<2^J
 |0=>by simp[B1]
 |J+1=>by
  have h1:=BZ v J;have h2:((J>>>v) &&&1)<<<J<2^(J+1):=by
   rw[gC,xcp];split
   ·rw[xdn];exact xby zD zO
   rw[xec];exact xbx _
  exact xbM (xaP h1 (xaA zD zO)) h2
def gQ(v k:Nat):(mask v).testBit k=(decide (k<64) &&k.testBit v):=rH v 64 k
def rY(v:Nat):mask v<18446744073709551616:=BZ v 64
def sk(ws:zL)(v:Nat)(b:Bool)(i:Nat):Nat:=
 if 6<=v then ws.getD (aC i (v-6) b) 0
 else if b then(ws.getD i 0&&&mask v)|||(ws.getD i 0&&&mask v)>>>2^v
 else nE (ws.getD i 0) (mask v)|||(nE (ws.getD i 0) (mask v)<<<2^v)%18446744073709551616
def iU(n:Nat)(ws:zL)(v:Nat)(b:Bool):zL:=(List.range (wN n)).map λi=>sk ws v b i&&&dN n
variable{v:Nat}
def eH{b:Bool}(h:n<=16):eU n (iU n ws v b):=by refine⟨h,by simp[iU],λw hw=>?_⟩;obtain⟨i,_,rfl⟩:=xal.1 hw;exact xda
def ak(x v:Nat)(b:Bool)(k:Nat):(aC x v b).testBit k=if k=v then b else x.testBit k:=by
 unfold aC;cases b<;>simp only[xa5,xaR,xa2]
 ·rw[dK,xb4];by_cases e:k=v
  ·simp[e]
  simp[e,xa9 e]
 rw[xb7,xb4];by_cases e:k=v
 ·simp[e]
 simp[e,xa9 e]
def gp{b:Bool}(hx:x<2^n)(hv:v<n):aC x v b<2^n:=by
 unfold aC;split
 ·exact xbM hx (xby zD hv)
 exact xaC (nD _ _) hx
def ZX:∀v:Fin 6,∀j:Fin 64,(j.1.testBit v.1=true->aC j v true=j/\aC j v false=j-2^v.1/\2^v.1<=j.1/\(j.1+2^v.1).testBit v.1=false/\(j.1-2^v.1).testBit v.1=false)/\
  (j.1.testBit v.1=false->aC j v true=j.1+2^v.1/\j.1+2^v.1<64/\aC j v false=j/\(j.1+2^v.1).testBit v.1=true/\(2^v.1<=j.1->(j.1-2^v.1).testBit v.1=true)):=by decide+kernel
def qO{b:Bool}:(6<=v->aC x v b/64=aC (x/64) (v-6) b/\aC x v b%64=x%64)/\(v<6->aC x v b/64=x/64/\aC x v b%64=aC (x%64) v b):=by
 have LW:∀y:Nat,y/64=y>>>6:=λy=>by rw[xa0]
 have m64:∀y:Nat,y%64=y%2^6:=λy=>rfl;refine⟨λh=>⟨?_,?_⟩,λh=>⟨?_,?_⟩⟩<;>apply xaV<;>intro k
 ·rw[LW,LW,xbK,ak,ak,xbK];by_cases e:k=v-6
  ·rw[xae e,xae zO]
  rw[xac e,xac zO]
 ·rw[m64 (aC x v b),m64 x,xbC,xbC,ak];by_cases hk:k<6
  ·rw[xac zO]
  simp[hk]
 ·rw[LW,LW,xbK,ak,xbK,xac zO]
 rw[m64 (aC x v b),m64 x,xbC,ak,ak,xbC];by_cases e:k=v
 ·subst e;simp[h]
 simp[e]
def fj{b:Bool}(hf:eU n ws)(hv:v<n)(hx:x<2^n):bit (iU n ws v b) x=bit ws (aC x v b):=by
 have hi:=DY hx;unfold bit;have g9:(iU n ws v b).getD (x/64) 0=sk ws v b (x/64) &&&dN n:=by
  simp[iU,hi]
 rw[g9,xbj,mW];have hfb:decide (x%64<if 6<=n then 64 else 2^n)=true:=by
  rw[xaM];split
  ·exact xbJ _ zD
  have h1:2^n<=32:=xaA (n:=2) zD (by omega:n<=5);omega
 rw[hfb,xd2];unfold sk;by_cases h6:6<=v
 ·rw[xae h6,(qO.1 h6).1,(qO.1 h6).2]
 rw[xac h6];obtain⟨e1,e2⟩:=(qO (x:=x) (v:=v) (b:=b)).2 zO;rw[e1,e2];generalize hw:ws.getD (x/64) 0=w;have hwl:w<2^64:=by
  rw[<-hw];rw[xas,xab (by rw[hf.len];exact hi)];exact hf.lt (xaK _)
 have hj:x%64<64:=xbJ _ zD;generalize x%64=j at hj;obtain⟨s1,s2⟩:=ZX ⟨v,by omega⟩ ⟨j,hj⟩;simp only at s1 s2;cases b
 ·simp only[xaR,xa2];rw[show(18446744073709551616:Nat)=2^64 by rfl,xb7,xbC,xd7,dK,dK,gQ,gQ];cases hb:j.testBit v
  ·obtain⟨t1,t2,t3,t4,t5⟩:=s2 hb;rw[t3];by_cases hle:2^v<=j
   ·have:=t5 hle;have LW:j-2^v<64:=xaC (xdA _ _) hj;simp[hj,this,LW]
   simp[hj,hle]
  obtain⟨t1,t2,t3,t4,t5⟩:=s1 hb;rw[t2];simp[hj,t3,t5]
 simp only[xa5];rw[xb7,xbj,xbK,xbj,gQ,gQ];cases hb:j.testBit v
 ·obtain⟨t1,t2,t3,t4,t5⟩:=s2 hb;rw[t1,Nat.add_comm (2^v) j];simp[hj,t2,t4]
 obtain⟨t1,t2,t3,t4,t5⟩:=s1 hb;rw[t1,Nat.add_comm (2^v) j];simp[hj,t4]
def ι(n:Nat)(ws:zL)(v:Nat):Bool:=decide (iU n ws v false≠iU n ws v true)
def iE(x v:Nat):aC x v (x.testBit v)=x:=by
 apply xaV;intro k;rw[ak];by_cases e:k=v
 ·rw[xae e,e]
 rw[xac e]
def oW{b:Bool}(hf:eU n ws)(hv:v<n)(h:ι n ws v=false):iU n ws v b=ws:=by
 have he:iU n ws v false=iU n ws v true:=by simpa[ι]using h
 have aH:∀c d,iU n ws v c=iU n ws v d:=by intro c d;cases c<;>cases d<;>first|rfl|exact he|exact he.symm
 refine(eH hf.yz).ext hf λx hx=>?_;rw[aH b (x.testBit v),fj hf hv hx,iE]
def vp(hf:eU n ws)(hv:v<n):ι n ws v=true↔∃x,x<2^n/\bit ws (aC x v false)≠bit ws (aC x v true):=by
 constructor
 ·intro h;refine xaD λΓ=>?_;have:iU n ws v false=iU n ws v true:=(eH hf.yz).ext (eH hf.yz) λx hx=>by
   rw[fj hf hv hx,fj hf hv hx];exact xaD λξ=>Γ ⟨x,hx,ξ⟩
  simp[ι,this]at h
 rintro⟨x,hx,ξ⟩;simp only[ι,ne_eq,xaM];intro he;apply ξ;rw[<-fj hf hv hx,<-fj hf hv hx,he]
end an
namespace Go.Sx
open Go
inductive cc:Hp->Hp->Prop
 |refl (B:Hp):cc B B
 |cons {x:Nat×Obj} {B H:Hp} (h:cc B H):cc B (x::H)
 |app {N B H:Hp} (h:cc B H):cc B (N++H)
variable{B H:Hp}
def cc.spec(h:cc B H):∃N,H=N++B:=by
 induction h with
 |refl=>exact⟨[],rfl⟩
 | @cons x B H h ih=>obtain⟨N,rfl⟩:=ih;exact⟨x::N,rfl⟩
 | @app M B H h ih=>obtain⟨N,rfl⟩:=ih;exact⟨M++N,by rw[xag]⟩
def cc.sub(h:cc B H):∀x∈B,x∈H:=by obtain⟨N,rfl⟩:=h.spec;exact λx hx=>xaa _ hx
def cc.dO(h:cc B H):aO H B:=by obtain⟨N,rfl⟩:=h.spec;exact aO.right
variable{P:Program}{g:Gh}{H:Hp}
section
def Px(P:Program)(f:FuncId)(args:Array zV)(B:Hp)(Q:zV->Hp->Prop):Prop:=Fc P f args B (λv H=>cc B H/\Q v H)
variable{K:zV->Hp->Prop}
def ae.px{f:FuncId}{args:Array zV}{c:Hp->Hp}{Q:zV->Hp->Prop}{KP:List PanicEntry->Hp->Prop}(hh:bE B H c)(hc:Px P f args B Q)
 (hk:∀v N,Q v (N++B)->K v (c (N++B))):ae P g f args H K KP:=
 ae.fn hh hc λv C' ⟨h1,h2⟩=>by obtain⟨N,rfl⟩:=h1.spec;exact hk v N h2
def ae.pre{f:FuncId}{args:Array zV}{H':Hp}{KP:List PanicEntry->Hp->Prop}(he:aO H H')(h:ae P g f args H' K KP):ae P g f args H K KP:=bG.pre h he
def aO.swap{x y:Nat×Obj}{A:Hp}:aO (x::y::A) (y::x::A):=.perm (.swap _ _ _)
variable{v:zV}
def HT.mk{Q:zV->Hp->Prop}(he:cc B H)(h:Q v H):aQ (λv H=>cc B H/\Q v H) (.returned v) H:=⟨v,H,rfl,.refl _,he,h⟩
def br.mk{Q:zV->Prop}(he:aO H B)(h:Q v):aQ (λv H=>H=B/\Q v) (.returned v) H:=⟨v,B,rfl,he,rfl,h⟩
def az(kd:IntKind)(l:List Int):Array zV:=(l.map λn=>Value.int kd n).toArray
def GM(kd:IntKind)(l:List Int)(i:Nat)(n:Int):(az kd l).setIfInBounds i (.int kd n)=az kd (l.set i n):=by simp[az,xcC]
@[simp] theorem YX(kd:IntKind)(l:List Int):(az kd l).size=l.length:=by simp[az]
def NU(kd:IntKind)(n:Nat):madeCells (Value.cells (.int kd 0)) (n*1)=az kd (List.replicate n 0):=by
 apply Array.ext
 ·simp[madeCells,az]
 intro i h1 h2;simp[madeCells,az,Value.cells,Nat.mod_one]
def di(kd:IntKind)(B:Hp)(v:zV)(l:List Int):Prop:=Sl 1 B v (l.map λn=>[Value.int kd n])
variable{kd:IntKind}{l:List Int}
def di.mono{B':Hp}(h:di kd B v l)(hs:∀x∈B,x∈B'):di kd B' v l:=Sl.mono h hs
def di.bL(h:di kd B v l){K:zV->Prop}(hk:K (.int .i64 l.length)):aP v K:=Sl.bL h (by simpa using hk)
def di.block{kd:IntKind}{B:Hp}{b cap:Nat}{l:List Int}{T:TypeId}{fz:Nat×Nat}(hm:(b,Obj.cells (az kd l) T fz)∈B)(hc:l.length<=cap):di kd B (.slice (some ⟨b,0,none⟩) l.length cap) l:=by
 refine⟨by simp,.inr ⟨b,0,cap,_,T,fz,by simp,by simpa using hc,hm,by simp[az],λi r hi j v hj=>?_⟩⟩;rw[xaq]at hi;cases hl:l[i]? with
 |none=>rw[hl]at hi;simp at hi
 |some n=>
  rw[hl]at hi;simp only[xcj,xat]at hi;subst hi;cases j with
  |zero=>
   simp only[xcR,xat]at hj;subst hj;simp[az,hl]
  |succ j=>simp at hj
def di.at{yD:IntKind}(h:di kd B v l){i:Nat}{n:Int}(hi:l[i]? =some n){K:zV->Prop}(hk:∀p,At B p [.int kd n]->K p):ay 1 v (.int yD (i:Int)) K:=
 ay.sl h (by rw[xaq,hi];rfl) hk
def di.ld{yD:IntKind}(h:di kd B v l){i:Nat}{n:Int}(hi:l[i]? =some n)(hs:∀x∈B,x∈H){K:zV->Prop}(hk:K (.int kd n)):ay 1 v (.int yD (i:Int)) (λp=>Ld H p K):=
 h.at hi λp hp=>Ld.at hp hs hk
def cJ.ints{T:TypeId}{kl:IntKind}{bytes n:Nat}(cB:n<=9223372036854775807)(hb:n*bytes<=281474976710656)
 (h:∀b,K (.slice (some ⟨b,0,none⟩) n n) ((b,.cells (az kd (List.replicate n 0)) T zZ)::H)):cJ T 1 bytes (.int kd 0) H (.int kl n) (.int kl n) K:=
 ⟨kl,kl,n,n,rfl,rfl,xai _,by omega,hb,λb _=>by rw[NU];exact h b⟩
def St.ints{b i:Nat}{x:Int}{T:TypeId}{H':Hp}{K:Hp->Prop}(hu:df b (.cells (az kd l) T zZ) (.cells (az kd (l.set i x)) T zZ) H H')(hi:i<l.length)(h:K H'):
  St 1 H (.pointer (some ⟨b,0+i*1,none⟩)) (.int kd x) K:=
 St.one (c:=az kd l) (c':=az kd (l.set i x)) hu rfl (by simpa using hi) (by rw[xa1,xb8];exact GM kd l i x) h
end
def bH:List zV->Nat->Nat
 | .int _ q::_,0=>q.toNat
 |_::r,i+1=>bH r i
 |_,_=>0
structure Tb where
 n:Int
 ws:zL
 deriving DecidableEq
def iw(ws:zL):List Int:=ws.map (Nat.cast:Nat->Int)
@[simp] theorem av(ws:zL):(iw ws).length=ws.length:=by simp[iw]
variable{i:Nat}
def dk{ws:zL}{w:Nat}(h:ws[i]? =some w):(iw ws)[i]? =some (w:Int):=by simp[iw,h]
def Words(B:Hp)(s:zV)(ws:zL):Prop:=di .u64 B s (iw ws)/\∀w∈ws,w<18446744073709551616
variable{B':Hp}{v:zV}
def Words.mono{ws:zL}(h:Words B v ws)(hs:∀x∈B,x∈B'):Words B' v ws:=⟨h.1.mono hs,h.2⟩
def Words.block{b cap:Nat}{ws:zL}{T:TypeId}{fz:Nat×Nat}(hm:(b,Obj.cells (az .u64 (iw ws)) T fz)∈B)(hc:ws.length<=cap)(hw:∀w∈ws,w<18446744073709551616):Words B (.slice (some ⟨b,0,none⟩) ws.length cap) ws:=by have:=di.block (cap:=cap) hm (by simpa using hc);rw[av]at this;exact⟨this,hw⟩
def FC(B:Hp)(v:zV)(t:Tb):Prop:=∃s,v=.agg #[.int .i64 t.n,s]/\Words B s t.ws
variable{t:Tb}
def FC.mono(h:FC B v t)(hs:∀x∈B,x∈B'):FC B' v t:=let ⟨s,h1,h2⟩:=h;⟨s,h1,h2.mono hs⟩
def Vb(B:Hp)(r:List zV)(t:Tb):Prop:=∃s,r=[.int .i64 t.n,s]/\Words B s t.ws
def Vb.mono{r:List zV}(h:Vb B r t)(hs:∀x∈B,x∈B'):Vb B' r t:=let ⟨s,h1,h2⟩:=h;⟨s,h1,h2.mono hs⟩
variable{α:Type}
def tN(p:List zV->α->Prop)(rs:List (List zV))(l:List α):Prop:=rs.length=l.length/\∀(i:Nat) (r:List zV) (x:α),rs[i]? =some r->l[i]? =some x->p r x
def tN.nil{p:List zV->α->Prop}:tN p [] []:=⟨rfl,by simp⟩
variable{rs:List (List zV)}
def tN.get{p:List zV->α->Prop}{l:List α}(h:tN p rs l){x:α}(hx:l[i]? =some x):∃r,rs[i]? =some r/\p r x:=by
 have η:=(xah.1 hx).1;have:i<rs.length:=by rw[h.1];exact η
 exact⟨rs[i],xab this,h.2 i _ _ (xab this) hx⟩
def tN.mono{p q:List zV->α->Prop}{l:List α}(h:tN p rs l)(hpq:∀r x,p r x->q r x):tN q rs l:=⟨h.1,λi r x h1 h2=>hpq _ _ (h.2 i r x h1 h2)⟩
def tN.snoc{p:List zV->α->Prop}{l:List α}(h:tN p rs l){r:List zV}{x:α}(hx:p r x):tN p (rs++[r]) (l++[x]):=by
 refine⟨by simp[h.1],λi r' x' h1 h2=>?_⟩;by_cases e:i<l.length
 ·rw[xaZ e]at h2;rw[xaZ (by rw[h.1];exact e)]at h1;exact h.2 i _ _ h1 h2
 rw[xbW zO]at h2;rw[xbW (by rw[h.1];omega),h.1]at h1;cases hi:i-l.length with
 |zero=>rw[hi]at h1 h2;simp at h1 h2;subst h1;subst h2;exact hx
 |succ k=>rw[hi]at h2;simp at h2
def jW(B:Hp)(v:zV)(ts:List Tb):Prop:=∃rs,Sl 2 B v rs/\tN (Vb B) rs ts
variable{ts:List Tb}
def jW.mono(h:jW B v ts)(hs:∀x∈B,x∈B'):jW B' v ts:=let ⟨rs,h1,h2⟩:=h;⟨rs,h1.mono hs,h2.mono λ_ _ h=>h.mono hs⟩
variable{K:zV->Prop}
def jW.bL(h:jW B v ts)(hk:K (.int .i64 ts.length)):aP v K:=by obtain⟨rs,h1,h2⟩:=h;apply h1.bL;have:=h2.1;rw[this];exact hk
def jW.ld{kd:IntKind}(h:jW B v ts)(hi:ts[i]? =some t)(hs:∀x∈B,x∈H)(hk:∀s,Words B s t.ws->K (.agg #[.int .i64 t.n,s])):ay 2 v (.int kd (i:Int)) (λp=>aB 2 H p K):=by obtain⟨rs,h1,h2⟩:=h;obtain⟨r,hr,s,rfl,hw⟩:=h2.get hi;exact ay.sl h1 hr λp hp=>aB.at hp rfl zD hs (hk s hw)
def jW.ldN{kd:IntKind}(h:jW B v ts)(hi:ts[i]? =some t)(hs:∀x∈B,x∈H)(hk:K (.int .i64 t.n)):ay 2 v (.int kd (i:Int)) (λp=>aj 0 p (λq=>Ld H q K)):=by obtain⟨rs,h1,h2⟩:=h;obtain⟨r,hr,s,rfl,hw⟩:=h2.get hi;exact ay.sl h1 hr λp hp=>aj.at hp λq hq=>Ld.at hq hs hk
def jW.one{B:Hp}{b cap:Nat}{t:Tb}{s:zV}{T:TypeId}{fz:Nat×Nat}(hm:(b,Obj.cells #[.int .i64 t.n,s] T fz)∈B)(hw:Words B s t.ws):jW B (.slice (some ⟨b,0,none⟩) 1 (cap+1)) [t]:=by
 refine⟨[[.int .i64 t.n,s]],⟨by simp,.inr ⟨b,0,cap+1,_,T,fz,rfl,by simp,hm,by simp,λi r hi j v hj=>?_⟩⟩,rfl,λi r x h1 h2=>?_⟩
 ·cases i with
  |zero=>simp at hi;subst hi;simpa using hj
  |succ i=>simp at hi
 ·cases i with
  |zero=>simp at h1 h2;subst h1;subst h2;exact⟨s,rfl,hw⟩
  |succ i=>simp at h1
def TF(t:Tb):Prop:=0<=t.n/\an.eU t.n.toNat t.ws
instance (t:Tb):Decidable (TF t):=by unfold TF;infer_instance
open Go Go.RowKit
section
def whole(W:World):Hp:=(List.range W.heap.size).map λi=>(i,W.heap.getD i default)
def NH(W:World):Own ⟨W,[]⟩ (whole W) W:=by
 refine⟨rfl,rfl,rfl,?_,?_⟩
 ·have:(whole W).map Prod.fst=List.range W.heap.size:=by
   unfold whole;rw[xbY];have:(Prod.fst∘λi=>(i,W.heap.getD i default))=id:=by funext i;rfl
   rw[this,xeN]
  rw[xaI,this];exact xbh
 intro x hx;rw[xaI]at hx;obtain⟨i,hi,rfl⟩:=xal.1 hx;have:=xaN.1 hi;simp[xau,this]
variable{W:World}
def zo{b:Nat}{o:Obj}(h:W.heap[b]? =some o):(b,o)∈whole W:=by have η:=(xaU.1 h).1;exact xal.2 ⟨b,xaN.2 η,by simp[xau,h]⟩
def Own.below{W':World}(h:Own ⟨W,[]⟩ (whole W) W'):Below W.heap.size W W':=by
 have hb:∀k,k<W.heap.size->W'.heap[k]? =W.heap[k]? :=λk hk=>by
  have:=h.has (k,W.heap.getD k default) (xal.2 ⟨k,xaN.2 hk,rfl⟩);simp only at this;rw[this];simp[xau,hk]
 refine⟨h.os,h.tape,h.out,?_,hb⟩;rcases Nat.eq_zero_or_pos W.heap.size with h0|h0
 ·omega
 have:=hb (W.heap.size-1) zO;rw[show W.heap[W.heap.size-1]? =some (W.heap[W.heap.size-1]' zO)from xbD zO]at this;have:=(xaU.1 this).1;omega
variable{args:Array zV}
def NZ{f:FuncId}(h:bG P ⟨W,[]⟩ f args (whole W) (λe H'=>e=.returned (.bool true)/\aO H' (whole W))):
  Calls P f args W λe W'=>e=.returned (.bool true)/\Below W.heap.size W W':=
 (h W (NH W)).mono λe W' ⟨H',ho,he,wV⟩=>⟨he,(wV _ _ ho).below⟩
def aap{f:FuncId}(h:Px P f args (whole W) (λv _=>v=.bool true)):
  Calls P f args W λe W'=>e=.returned (.bool true)/\Below W.heap.size W W':=
 NZ ((h ⟨W,[]⟩).post λe H' ⟨v,C,he,wV,hg,hv⟩=>⟨H',.refl _,by rw[he,hv],wV.trans hg.dO⟩)
section
variable {H:Type} {enc:TypeId×zV->H}
open Go.ChangeShapes Go.WideShapes Go.ChangeAt Go.RowKit
def qg(hl:laidOutB P=true){W W':World}{sp:Nat->Bool}(hb:Below W.heap.size W W'):∀(ts:List TypeId) (vs:List zV) (ds:List (DataW H)) (ps:List MemPlace),
  (∀t∈ts,P.readableRec t=true/\t<P.types.size)->DataW.TrodAll enc P W 0 (λ_=>true) true ts vs ds ps->(∀x∈ps,x.block<W.heap.size)->(∀x∈ps,sp x.block=true)->DataW.TrodAll enc P W' 0 sp true ts vs ds ps
 | [],vs,ds,ps,_,h,_,_=>by
  obtain⟨rfl,rfl,rfl⟩:=trodAll_nil h;exact trodAll_mk0
 |t::ts,vs,ds,ps,hr,h,η,hsp=>by
  obtain⟨v,vs',d,ds',p,q,rfl,rfl,rfl,h0,h1⟩:=trodAll_cons h;have ht:=hr t zI;exact trodAll_cons_mk (WideElems.Trod_stays hl ht.1 ht.2 h0 (λx hx=>hb.same (η x (by simp[hx]))) (λx hx=>hsp x (by simp[hx])))
   (qg hl hb ts vs' ds' q (λt' h'=>hr t' (by simp[h'])) h1 (λx hx=>η x (by simp[hx])) (λx hx=>hsp x (by simp[hx])))
def Sv{f:Func}{s:ChangeSpec}{W':World}{ds gs:List (DataW H)}{before:List MemPlace}{tb:TypeId}(hvars:s.vars=[])
 (hW:DataW.Whole enc P f.params.toList s.vars false W args.toList ds gs before)(hs:s.fn H (ds++gs)={results:=[.lit (.bool true)],args:=ds})(hb:Below W.heap.size W W')
 (hl:laidOutB P=true)(hr:∀t∈f.params.toList,P.readableRec t=true/\t<P.types.size)(hrt:f.resultTypes=#[tb])(aeo:P.underlying tb=some .bool):
  s.post enc P f false true false false W args (.bool true) W':=by
 have hW':=hW;have η:=hW.lt;obtain⟨p,q,hA,hV,rfl,hfz,fQ⟩:=hW;rw[hvars]at hV;obtain⟨rfl,rfl⟩:=trodVars_none hV;refine⟨ds,_,_,[],p,[],hW',?_,?_,?_,World.keptBut_mono (λp hp=>⟨hp,?_⟩) (hb.frame (· ∈p++[])),λh=>by cases h⟩
 ·rw[hs,hrt];exact trodAll_cons_mk (shut_bool aeo _) trodAll_mk0
 ·rw[hs];exact qg hl hb _ _ _ _ hr hA (λx hx=>η x (by simp[hx])) (λx hx=>by simpa using η x (by simp[hx]))
 ·rw[hvars,hs];rfl
 right;simpa using hp
end
end
section
def aq.cell{t e:TypeId}{z x:zV}{K:zV->Hp->Prop}(h1:P.underlying t=some (.slice e))(h2:dm P e=some 1)(h3:fh P e=some z)(hx:x.oneCell'=true)
 (h:∀b,K (.slice (some ⟨b,0,Option.none⟩) 1 1) ((b,.cells #[x] e zZ)::H)):aq P t 1 [(0,x)] H K:=by
 refine⟨#[x],e,1,z,h1,h2,h3,by omega,?_,λb _=>h b⟩;have hxc:x.cells=#[x]:=by cases x<;>first|rfl|(simp[Value.oneCell']at hx)
 have:((Array.range (1*1)).map (z.cells[· %z.cells.size]!))=[z.cells[0%z.cells.size]!].toArray:=by
  rw[show Array.range (1*1)=#[0]by decide];simp
 rw[this];apply kC _ _ _;simp only[oT,hxc];rfl
def aU.ak2{T:TypeId}{x:zV}{C:Hp}(hs:aU T 1 v rs C)(hi:i<rs.length)(hr:rs[i]? =some [x])(hC:∀y∈C,y∈H)(hk:K x):
  ay 1 v (.int .i64 (i:Int)) λp=>Ld H p K:=by obtain⟨b',aF,rfl,rfl,aH⟩:=hs.pos zO;apply ay.nat hi;exact Ld.acZ (l:=rs++aF) (hC _ (List.Mem.head _)) aH (by rw[xaZ hi];exact hr) hk
def aU.agR{T:TypeId}{x y:zV}{C A:Hp}(hs:aU T 1 v rs C)(hi:i<rs.length)(hr:rs[i]? =some [y])(h1:x.oneCell'=true){K:Hp->Prop}
 (hk:∀C',aU T 1 v (rs.set i [x]) C'->K (A++(C'++B))):ay 1 v (.int .i64 (i:Int)) λp=>St 1 (A++(C++B)) p x K:=by
 obtain⟨b',aF,rfl,rfl,aH⟩:=hs.pos zO;apply ay.nat hi;refine St.cell (l:=rs++aF) (i:=i) (k:=1) (j:=0) (r:=[y]) (((df.head _).append B).cf A) aH (by rw[xaZ hi];exact hr) zO h1 ?_;have e:(rs++aF).set i ([y].set 0 x)=rs.set i [x]++aF:=by rw[xc5 _ _ hi];rfl
 rw[e];refine hk [(b',_)] (aU.mk' (aF:=aF) (λr hr'=>?_) zI zI);rcases xao.1 hr' with hr'|hr'
 ·rcases xb2 hr' with hr'|rfl
  ·exact aH r (by simp[hr'])
  rfl
 exact aH r (by simp[hr'])
end
section
variable{κ β:Type}[DecidableEq κ]
structure aI(ke:κ->zV)(vr:zV->β->Prop)(es:Array MapEntry)(ck:Nat)(m:List (κ×β)):Prop where
 len:es.size=m.length
 key:∀(i:Nat) (e:MapEntry) (x:κ×β),es[i]? =some e->m[i]? =some x->e.key=ke x.1/\vr e.val x.2
 nd:(m.map Prod.fst).Nodup
 born:(es.toList.map MapEntry.born).Nodup
 lt:∀e∈es.toList,e.born<ck
variable{ke:κ->zV}{vr:zV->β->Prop}{es:Array MapEntry}{ck:Nat}{m:List (κ×β)}
def aI.empty:aI ke vr #[] 0 []:=⟨rfl,by simp,by simp,by simp,by simp⟩
def aI.mono{vr':zV->β->Prop}(h:aI ke vr es ck m)(hv:∀v x,vr v x->vr' v x):aI ke vr' es ck m:=⟨h.len,λi e x h1 h2=>⟨(h.key i e x h1 h2).1,hv _ _ (h.key i e x h1 h2).2⟩,h.nd,h.born,h.lt⟩
def eu(m:List (κ×β))(k:κ)(x:β):List (κ×β):=if k∈m.map Prod.fst then m.map (λy=>if y.1=k then(k,x)else y)else m++[(k,x)]
def aN(m:List (κ×β))(k:κ):Option β:=(m.find? (λy=>y.1=k)).map Prod.snd
variable{k:κ}{x:β}
def ef{m:List (κ×β)}(nd:(m.map Prod.fst).Nodup):aN m k=some x↔(k,x)∈m:=by
 induction m with
 |nil=>simp[aN]
 |cons y r ih=>
  rw[xay,xaX]at nd;obtain⟨a,b⟩:=y;simp only[aN,xbG]at ih⊢;by_cases e:a=k
  ·subst e;simp only[decide_true,xcj,xat,xak,xdf,xco];constructor
   ·intro h;exact .inl h.symm
   rintro(h|h)
   ·exact h.symm
   exact absurd (xal.2 ⟨_,h,rfl⟩) nd.1
  simp only[e,xdt,xak,xdf,xa9 e,xdN,xdO];exact ih nd.2
def iH{m:List (κ×β)}:aN m k=none↔k∉m.map Prod.fst:=by simp only[aN,Option.map_eq_none_iff,xcV,xaM,xal,not_exists,not_and]
def aI.findNow{kd:TypeDesc}(hk:∀a b,Instr.sameNow kd (ke a) (ke b)=some (decide (a=b)))(h:aI ke vr es ck m)(k:κ):
  (∃(i:Nat) (x:β) (e:MapEntry),es[i]? =some e/\m[i]? =some (k,x)/\vr e.val x/\Instr.findNow kd (ke k) es.toList 0=some (some (i,e.val)))\/(k∉m.map Prod.fst/\Instr.findNow kd (ke k) es.toList 0=some none):=by
 have key:∀(l:List MapEntry) (q:List (κ×β)) (j:Nat),l.length=q.length->(∀(i:Nat) (e:MapEntry) (x:κ×β),l[i]? =some e->q[i]? =some x->e.key=ke x.1/\vr e.val x.2)->
   (∃(i:Nat) (x:β) (e:MapEntry),l[i]? =some e/\q[i]? =some (k,x)/\vr e.val x/\Instr.findNow kd (ke k) l j=some (some (j+i,e.val)))\/(k∉q.map Prod.fst/\Instr.findNow kd (ke k) l j=some none):=by
  intro l;induction l with
  |nil=>intro q j hl _;cases q with|nil=>exact .inr ⟨by simp,rfl⟩|cons a b=>simp at hl
  |cons e r ih=>
   intro q j hl hkey;cases q with
   |nil=>simp at hl
   |cons y q=>
    obtain⟨h1,h2⟩:=hkey 0 e y rfl rfl;simp only[Instr.findNow,h1,hk];by_cases e0:k=y.1
    ·subst e0;exact .inl ⟨0,y.2,e,rfl,rfl,h2,by simp⟩
    rw[xan e0];rcases ih q (j+1) (by simpa using hl) (λi e x h1 h2=>hkey (i+1) e x (by simpa using h1) (by simpa using h2))with⟨i,x,e',g1,g2,g3,g4⟩|⟨g1,g2⟩
    ·exact .inl ⟨i+1,x,e',by simpa using g1,by simpa using g2,g3,by simp only[g4];rw[show j+1+i=j+(i+1)by omega]⟩
    exact .inr ⟨by rw[xay,xak];rintro(h|h);exact e0 h;exact g1 h,by simpa using g2⟩
 have:=key es.toList m 0 (by simpa using h.len) (λi e x h1 h2=>h.key i e x (by simpa using h1) h2);rcases this with⟨i,x,e,g1,g2,g3,g4⟩|h2
 ·exact .inl ⟨i,x,e,by simpa using g1,g2,g3,by simpa using g4⟩
 exact .inr h2
def aI.Ez{P:Program}{kt:TypeId}(hk:∀a b,Cn P kt (ke a) (ke b) (decide (a=b)))(h:aI ke vr es ck m)(k:κ):
  (∃(i:Nat) (x:β) (e:MapEntry),es[i]? =some e/\m[i]? =some (k,x)/\vr e.val x/\nO P kt (ke k) es.toList 0 (some (i,e.val)))\/(k∉m.map Prod.fst/\nO P kt (ke k) es.toList 0 none):=by
 have key:∀(l:List MapEntry) (q:List (κ×β)) (j:Nat),l.length=q.length->(∀(i:Nat) (e:MapEntry) (x:κ×β),l[i]? =some e->q[i]? =some x->e.key=ke x.1/\vr e.val x.2)->
   (∃(i:Nat) (x:β) (e:MapEntry),l[i]? =some e/\q[i]? =some (k,x)/\vr e.val x/\nO P kt (ke k) l j (some (j+i,e.val)))\/(k∉q.map Prod.fst/\nO P kt (ke k) l j none):=by
  intro l;induction l with
  |nil=>intro q j hl _;cases q with|nil=>exact .inr ⟨by simp,rfl⟩|cons a b=>simp at hl
  |cons e r ih=>
   intro q j hl hkey;cases q with
   |nil=>simp at hl
   |cons y q=>
    obtain⟨h1,h2⟩:=hkey 0 e y rfl rfl;have hb:=hk k y.1;rw[<-h1]at hb;by_cases e0:k=y.1
    ·refine .inl ⟨0,y.2,e,rfl,by rw[e0];rfl,h2,?_⟩;exact⟨_,hb,λ_=>by simp,λh=>by simp[e0]at h⟩
    rcases ih q (j+1) (by simpa using hl) (λi e x h1 h2=>hkey (i+1) e x (by simpa using h1) (by simpa using h2))with⟨i,x,e',g1,g2,g3,g4⟩|⟨g1,g2⟩
    ·refine .inl ⟨i+1,x,e',by simpa using g1,by simpa using g2,g3,_,hb,λh=>by simp[e0]at h,λ_=>?_⟩;rw[show j+(i+1)=j+1+i by omega];exact g4
    exact .inr ⟨by rw[xay,xak];rintro(h|h);exact e0 h;exact g1 h,_,hb,λh=>by simp[e0]at h,λ_=>g2⟩
 have:=key es.toList m 0 (by simpa using h.len) (λi e x h1 h2=>h.key i e x (by simpa using h1) h2);rcases this with⟨i,x,e,g1,g2,g3,g4⟩|h2
 ·exact .inl ⟨i,x,e,by simpa using g1,g2,g3,by simpa using g4⟩
 exact .inr h2
def aI.put(h:aI ke vr es ck m){i:Nat}{k:κ}{y x:β}{val:zV}(hi:m[i]? =some (k,y))(hv:vr val x):aI ke vr (es.modify i λe=>{e with key:=ke k,val}) ck (eu m k x):=by
 have hmem:k∈m.map Prod.fst:=xal.2 ⟨_,xav hi,rfl⟩;have η:=(xah.1 hi).1;have adu:∀j z,m[j]? =some z->z.1=k->j=i:=λj z hj hz=>by
  have hj':=(xah.1 hj).1;have e1:(m.map Prod.fst)[j]? =some k:=by rw[xaq,hj];simp[hz]
  have e2:(m.map Prod.fst)[i]? =some k:=by rw[xaq,hi];rfl
  exact(List.getElem?_inj (by simpa using hj') h.nd).1 (e1.trans e2.symm)
 have hb:((es.modify i λe=>{e with key:=ke k,val}).toList.map MapEntry.born)=es.toList.map MapEntry.born:=by
  apply xba;intro j;simp only[xaq,xbd,xb6];split
  ·cases es[j]? <;>rfl
  rfl
 refine⟨by simp[eu,hmem,h.len],λj e z he hz=>?_,?_,by rw[hb];exact h.born,λe he=>?_⟩
 ·simp only[eu,hmem,xa5,xaq]at hz;rw[xb6]at he;cases hm:m[j]? with
  |none=>rw[hm]at hz;simp at hz
  |some z0=>
   rw[hm]at hz;simp only[xcj,xat]at hz;cases hes:es[j]? with
   |none=>rw[hes]at he;split at he<;>simp at he
   |some e0=>
    rw[hes]at he;by_cases ek:z0.1=k
    ·have:=adu j z0 hm ek;subst this;rw[xae ek]at hz;subst hz;simp only[xa5,xcj,xat]at he;subst he;exact⟨rfl,hv⟩
    rw[xac ek]at hz;subst hz;rw[xac (λe=>by subst e;rw[hi]at hm;cases hm;exact ek rfl)]at he;simp only[xat]at he;subst he;exact h.key j _ _ hes hm
 ·have:(eu m k x).map Prod.fst=m.map Prod.fst:=by
   simp only[eu,hmem,xa5,xbY];apply xbn;intro z _;simp only[Function.comp];split
   ·rename_i hz;exact hz.symm
   rfl
  rw[this];exact h.nd
 have:e.born∈(es.modify i λe=>{e with key:=ke k,val}).toList.map MapEntry.born:=xaT he;rw[hb]at this;obtain⟨e0,h1,h2⟩:=xal.1 this;rw[<-h2];exact h.lt e0 h1
def aI.more(h:aI ke vr es ck m){val:zV}(hk:k∉m.map Prod.fst)(hv:vr val x):aI ke vr (es.push {key:=ke k,val,born:=ck}) (ck+1) (eu m k x):=by
 have hs:eu m k x=m++[(k,x)]:=by unfold eu;rw[xac hk]
 rw[hs];refine⟨by simp[h.len],λj e z he hz=>?_,?_,?_,λe he=>?_⟩
 ·by_cases hj:j<m.length
  ·rw[xaZ hj]at hz;rw[xdG,xac (by rw[h.len];omega)]at he;exact h.key j _ _ he hz
  have QD:=(xah.1 hz).1;simp only[xaf,xax,xbF]at QD;have:j=m.length:=by omega
  subst this;rw[xbW (xai _)]at hz;simp at hz;subst hz;rw[xdG,xae h.len.symm]at he;simp at he;subst he;exact⟨rfl,hv⟩
 ·rw[xaz,xa3];refine⟨h.nd,by simp,λa ha b hb=>?_⟩;simp at hb;subst hb;rintro rfl;exact hk ha
 ·rw[xeu,xaz,xa3];refine⟨h.born,by simp,λa ha b hb=>?_⟩;simp at hb;subst hb;obtain⟨e,he,rfl⟩:=xal.1 ha;have:=h.lt e he;omega
 rw[xeu,xao]at he;rcases he with he|he
 ·have:=h.lt e he;omega
 simp at he;subst he;simp
variable{b:Nat}
variable{kd:TypeDesc}{zero:zV}{ok:Bool}
def aI.hit(hk:∀a b,Instr.sameNow kd (ke a) (ke b)=some (decide (a=b)))(h:aI ke vr es ck m)(hm:(b,Obj.map es ck)∈H)(hx:aN m k=some x)
 (h1:∀v,vr v x->K (cond ok (.tuple #[v,.bool true]) v)):dg kd zero ok H (.map (some b)) (ke k) K:=by
 rcases h.findNow hk k with⟨i,y,e,g1,g2,g3,g4⟩|⟨g1,g2⟩
 ·have:aN m k=some y:=(ef h.nd).2 (xav g2);rw[hx]at this;cases this;exact⟨es,_,.inr ⟨b,ck,rfl,hm⟩,g4,h1 _ g3⟩
 rw[iH.2 g1]at hx;cases hx
def aI.bR(hk:∀a b,Instr.sameNow kd (ke a) (ke b)=some (decide (a=b)))(h:aI ke vr es ck m)(hm:(b,Obj.map es ck)∈H)(hx:aN m k=none)
 (h1:K (cond ok (.tuple #[zero,.bool false]) zero)):dg kd zero ok H (.map (some b)) (ke k) K:=by
 rcases h.findNow hk k with⟨i,y,e,g1,g2,g3,g4⟩|⟨g1,g2⟩
 ·exact absurd (xal.2 ⟨_,xav g2,rfl⟩) (iH.1 hx)
 exact⟨es,_,.inr ⟨b,ck,rfl,hm⟩,g2,h1⟩
def aI.bt{val:zV}{K:Hp->Prop}(hk:∀a b,Instr.sameNow kd (ke a) (ke b)=some (decide (a=b)))(hb:∀a,Instr.sameBits 10000 (ke a) (ke a)=true)(h:aI ke vr es ck m)(hv:vr val x)
 (h1:∀τ bF,aI ke vr τ bF (eu m k x)->∃H',df b (.map es ck) (.map τ bF) H H'/\K H'):aY kd H (.map (some b)) (ke k) val K:=by
 rcases h.findNow hk k with⟨i,y,e,g1,g2,g3,g4⟩|⟨g1,g2⟩
 ·refine⟨b,es,ck,_,rfl,g4,λe' he'=>?_,by rw[h.len];exact(xah.1 g2).1,h1 _ _ (h.put g2 hv)⟩;rw[(h.key i e' _ he' g2).1];exact hb k
 exact⟨b,es,ck,_,rfl,g2,h1 _ _ (h.more g1 hv)⟩
def aI.GU{kt:TypeId}(hk:∀a b,Cn P kt (ke a) (ke b) (decide (a=b)))(hc:∀a,mO P kt (ke a))(h:aI ke vr es ck m)(hm:(b,Obj.map es ck)∈H)(hx:aN m k=some x)
 (h1:∀v,vr v x->K (cond ok (.tuple #[v,.bool true]) v)):kG P kt zero ok H (.map (some b)) (ke k) K:=by
 rcases h.Ez hk k with⟨i,y,e,g1,g2,g3,g4⟩|⟨g1,g2⟩
 ·have:aN m k=some y:=(ef h.nd).2 (xav g2);rw[hx]at this;cases this;exact⟨es,_,.inr ⟨b,ck,rfl,hm⟩,hc k,g4,h1 _ g3⟩
 rw[iH.2 g1]at hx;cases hx
def aI.wA{kt:TypeId}(hk:∀a b,Cn P kt (ke a) (ke b) (decide (a=b)))(hc:∀a,mO P kt (ke a))(h:aI ke vr es ck m)(hm:(b,Obj.map es ck)∈H)(hx:aN m k=none)
 (h1:K (cond ok (.tuple #[zero,.bool false]) zero)):kG P kt zero ok H (.map (some b)) (ke k) K:=by
 rcases h.Ez hk k with⟨i,y,e,g1,g2,g3,g4⟩|⟨g1,g2⟩
 ·exact absurd (xal.2 ⟨_,xav g2,rfl⟩) (iH.1 hx)
 exact⟨es,_,.inr ⟨b,ck,rfl,hm⟩,hc k,g2,h1⟩
def aI.M1{kt:TypeId}{val:zV}{K:Hp->Prop}(hk:∀a b,Cn P kt (ke a) (ke b) (decide (a=b)))(hc:∀a,mO P kt (ke a))(hb:∀a,Instr.sameBits 10000 (ke a) (ke a)=true)(h:aI ke vr es ck m)(hv:vr val x)
 (h1:∀τ bF,aI ke vr τ bF (eu m k x)->∃H',df b (.map es ck) (.map τ bF) H H'/\K H'):iV P kt H (.map (some b)) (ke k) val K:=by
 rcases h.Ez hk k with⟨i,y,e,g1,g2,g3,g4⟩|⟨g1,g2⟩
 ·refine⟨b,es,ck,_,rfl,hc k,g4,λe' he'=>?_,by rw[h.len];exact(xah.1 g2).1,h1 _ _ (h.put g2 hv)⟩;rw[(h.key i e' _ he' g2).1];exact hb k
 exact⟨b,es,ck,_,rfl,hc k,g2,h1 _ _ (h.more g1 hv)⟩
def aI.Sq(h:aI ke vr es ck m)(hm:(b,Obj.map es ck)∈H)(hk:K (.int .i64 m.length)):Cj H (.map (some b)) K:=⟨_,rfl,.inr ⟨b,es,ck,rfl,hm,by rw[h.len];exact hk⟩⟩
def bY(es:Array MapEntry)(m:List (κ×β))(seen:Array Nat):List (κ×β):=((es.toList.zip m).filter λp=> !seen.contains p.1.born).map Prod.snd
omit [DecidableEq κ] in
def mU(h:aI ke vr es ck m):bY es m #[]=m:=by unfold bY;rw[xcx.2 zI,<-List.unzip_snd,List.unzip_zip];simpa using h.len
omit [DecidableEq κ] in
def Df(h:aI ke vr es ck m){seen:Array Nat}{e:MapEntry}{x:κ×β}(he:es[i]? =some e)(hx:m[i]? =some x)(hs:e.born∉seen):(bY es m seen).Perm (x::bY es m (seen.push e.born)):=by
 unfold bY;have hz:(es.toList.zip m)[i]? =some (e,x):=by rw[List.getElem?_zip_eq_some];exact⟨by simpa using he,hx⟩
 obtain⟨A,C,hAC,Ξ⟩:∃A C,es.toList.zip m=A++(e,x)::C/\A.length=i:=by
  obtain⟨η,hg⟩:=xah.1 hz;exact⟨(es.toList.zip m).take i,(es.toList.zip m).drop (i+1),by rw[<-hg,List.getElem_cons_drop,xbs],by simp only[xbI];omega⟩
 have ah2:(es.toList.zip m).map (λp=>p.1.born)=es.toList.map MapEntry.born:=by
  have:(es.toList.zip m).map Prod.fst=es.toList:=by rw[<-List.unzip_fst,List.unzip_zip];simpa using h.len
  rw[show(λp:MapEntry×(κ×β)=>p.1.born)=MapEntry.born∘Prod.fst from rfl,<-xbY,this]
 have fQ:=h.born;rw[<-ah2,hAC,xaz,xay]at fQ;have adQ:=xaO.nodup_iff.1 fQ;rw[xaX,<-xaz]at adQ;have ξ:∀p∈A++C,p.1.born≠e.born:=λp hp e0=>adQ.1 (xal.2 ⟨p,hp,e0⟩);have Zj:∀L:List (MapEntry×(κ×β)),(∀p∈L,p.1.born≠e.born)->(L.filter λp=> !(seen.push e.born).contains p.1.born)=L.filter λp=> !seen.contains p.1.born:=λL hL=>by
  apply xdq;intro p hp;have:=hL p hp;simp[Array.mem_push,this]
 rw[hAC,xcb,xcb,xbz,xbz];rw[xae (by simpa using hs),xac zI,Zj A λp hp=>ξ p (xad _ hp),Zj C λp hp=>ξ p (xaa _ hp)];rw[xaz,xaz,xay];exact xaO
omit [DecidableEq κ] in
def aI.next{bi bm:Nat}{seen:Array Nat}{K:zV->Hp->Prop}(h:aI ke vr es ck m)(hm:(bm,Obj.map es ck)∈H)(hi:(bi,Obj.mapIter (some bm) ck seen ck)∈H)
 (h1:∀e x Ψ,e∈es.toList->e.key=ke x.1->vr e.val x.2->(bY es m seen).Perm (x::bY es m Ψ)->Ψ.back?=some e.born->es.find? (·.born==e.born)=some e->
   ∃H',df bi (.mapIter (some bm) ck seen ck) (.mapIter (some bm) ck Ψ ck) H H'/\K (.tuple #[.bool true,e.key,e.val]) H')
 (h2:bY es m seen=[]->K (.tuple #[.bool false]) H):ZD H (.pointer (some ⟨bi,0,none⟩)) K:=by
 refine⟨bi,some bm,ck,seen,ck,rfl,hi,es,ck,hm,λe he=>⟨h.lt e he,h.lt e he⟩,λe he hs=>?_,λaH=>h2 ?_⟩
 ·obtain⟨i,hi',rfl⟩:=xbc.1 he;have LN:i<m.length:=by rw[<-h.len];simpa using hi'
  have g1:es[i]? =some es.toList[i]:=by rw[<-xbd];exact xab hi'
  have g2:m[i]? =some m[i]:=xab LN;obtain⟨k1,k2⟩:=h.key i _ _ g1 g2;apply h1 _ m[i] _ he k1 k2 (Df h g1 g2 hs) zI;rw[<-Array.find?_toList];have fQ:=h.born;rw[xeh];refine⟨by simp,es.toList.take i,es.toList.drop (i+1),by rw[List.getElem_cons_drop,xbs],λa ha=>?_⟩;simp only[xbL,beq_eq_false_iff_ne,ne_eq];intro e0;obtain⟨j,hj,rfl⟩:=xbc.1 ha;simp only[xbI]at hj;rw[List.getElem_take]at e0;have:=(xeD (by simpa using h.born) (xs:=es.toList.map MapEntry.born) (i:=j) (j:=i) (h₀:=by rw[xar];omega) (h₁:=by rw[xar];exact hi')).1 (by simpa using e0);omega
 unfold bY;rw[xdo.2,xcd];intro p hp;have:=aH p.1 (xdJ hp).1;simpa using this
end
end Go.Sx
namespace an
def lJ(w:Nat):List UInt8:=(List.range 8).map λi=>UInt8.ofNat (w>>>(8*i))
def iy(ws:zL):List UInt8:=ws.flatMap lJ
def gj(w:Nat):(lJ w).length=8:=by simp[lJ]
def ud:∀l:zL,(iy l).length=8*l.length
 | []=>rfl
 |x::l=>by rw[iy,xev,xaf,gj];have:=ud l;unfold iy at this;rw[this,xax];omega
def Hy{a b:Nat}(ha:a<18446744073709551616)(hb:b<18446744073709551616)(h:lJ a=lJ b):a=b:=by
 apply xaV;intro j;by_cases hj:j<64
 ·have hi:j/8<8:=by omega
  have h1:=xch (λl=>l[j/8]?) h;simp only[lJ,xaq,xdH hi,xcj,xat]at h1;have h2:=xch UInt8.toNat h1;simp only[UInt8.toNat_ofNat']at h2;have h3:=xch (λx=>x.testBit (j%8)) h2;simp only[xbC,xbK]at h3;rw[show 8*(j/8)+j%8=j by omega]at h3;have:decide (j%8<8)=true:=by simp;omega
  simpa[this]using h3
 rw[xcf (xaP ha (xaA (n:=2) zD (by omega:64<=j))),xcf (xaP hb (xaA (n:=2) zD (by omega:64<=j)))]
def D3:∀{a b:zL},(∀w∈a,w<18446744073709551616)->(∀w∈b,w<18446744073709551616)->iy a=iy b->a=b
 | [],[],_,_,_=>rfl
 | [],y::b,_,_,h=>by have:=xch List.length h;simp[iy,gj]at this;omega
 |x::a,[],_,_,h=>by have:=xch List.length h;simp[iy,gj]at this
 |x::a,y::b,ha,hb,h=>by
  simp only[iy,xev]at h;obtain⟨h1,h2⟩:=List.append_inj h (by rw[gj,gj]);rw[Hy (ha x zI) (hb y zI) h1,D3 (λw hw=>ha w (by simp[hw])) (λw hw=>hb w (by simp[hw])) h2]
def eU.key_inj{n:Nat}{a b:zL}(ha:eU n a)(hb:eU n b)(h:iy a=iy b):a=b:=D3 (λw hw=>ha.lt hw) (λw hw=>hb.lt hw) h
abbrev Fs:=List (zL)
def add(l:Fs)(t:zL):Fs:=if t∈l then l else l++[t]
def mV(L:Fs):Fs:=L.foldl add []
def given(n:Nat)(l:Fs)(v:Nat):Fs:=l.foldl (λacc t=>add (add acc (iU n t v false)) (iU n t v true)) []
def nodes(n:Nat)(l:Fs)(v:Nat):Fs:=l.filter λt=>ι n t v
def st(n:Nat)(L:Fs)(A:Nat):Nat->Fs
 |0=>mV L
 |k+1=>if A.testBit k then given n (st n L A k) k else st n L A k
def lvl(n:Nat)(L:Fs)(A v:Nat):Nat:=(nodes n (st n L A n) v).length
def Bt{l:Fs}{t x:zL}:x∈add l t↔x∈l\/x=t:=by
 unfold add;split
 ·constructor
  ·exact .inl
  rintro(h|rfl)<;>assumption
 simp
def tK{l:Fs}{t:zL}(h:l.Nodup):(add l t).Nodup:=by
 unfold add;split
 ·exact h
 rename_i hn;rw[xa3];exact⟨h,by simp,λa ha b hb=>by simp at hb;subst hb;rintro rfl;exact hn ha⟩
def lF{α:Type}(f:α->Fs->Fs)(g:α->zL->Prop)(hf:∀a l x,x∈f a l↔x∈l\/g a x):∀(L:List α) (acc:Fs) (x:zL),x∈L.foldl (λacc a=>f a acc) acc↔x∈acc\/∃a∈L,g a x
 | [],acc,x=>by simp
 |a::L,acc,x=>by
  rw[xcL,lF f g hf L,hf];simp only[xak,exists_eq_or_imp,or_assoc]
def jw{α:Type}(f:α->Fs->Fs)(hf:∀a l,l.Nodup->(f a l).Nodup):∀(L:List α) (acc:Fs),acc.Nodup->(L.foldl (λacc a=>f a acc) acc).Nodup
 | [],acc,h=>h
 |a::L,acc,h=>jw f hf L _ (hf a acc h)
def eG{L:Fs}{x:zL}:x∈mV L↔x∈L:=by unfold mV;have:=lF (λa l=>add l a) (λa x=>x=a) (λa l x=>Bt) L [] x;rw[this];simp
def jL(L:Fs):(mV L).Nodup:=jw (λa l=>add l a) (λa l h=>tK h) L [] zI
def bX{n v:Nat}{l:Fs}{x:zL}:x∈given n l v↔∃t∈l,∃b,x=iU n t v b:=by
 unfold given;have:=lF (λt acc=>add (add acc (iU n t v false)) (iU n t v true)) (λt x=>∃b,x=iU n t v b) (λt l x=>by
  rw[Bt,Bt];constructor
  ·rintro((h|h)|h)
   ·exact .inl h
   ·exact .inr ⟨false,h⟩
   exact .inr ⟨true,h⟩
  rintro(h|⟨b,h⟩)
  ·exact .inl (.inl h)
  cases b
  ·exact .inl (.inr h)
  exact .inr h) l [] x
 rw[this];simp
def k7(n:Nat)(l:Fs)(v:Nat):(given n l v).Nodup:=jw (λt acc=>add (add acc (iU n t v false)) (iU n t v true)) (λa l h=>tK (tK h)) l [] zI
def n9(n:Nat)(L:Fs)(A:Nat):∀k,(st n L A k).Nodup
 |0=>jL L
 |k+1=>by
  rw[st];split
  ·exact k7 _ _ _
  exact n9 n L A k
def gU{a b:Fs}(ha:a.Nodup)(hb:b.Nodup)(h:∀x,x∈a↔x∈b):a.Perm b:=(xc0 ha hb).2 h
def kz{n v:Nat}{a b:Fs}(h:a.Perm b):(nodes n a v).length=(nodes n b v).length:=(h.filter _).length_eq
def FY{n:Nat}{L:Fs}{A:Nat}(hL:∀t∈L,eU n t)(hn:n<=16):∀k,∀t∈st n L A k,eU n t
 |0,t,h=>hL t (eG.1 h)
 |k+1,t,h=>by
  rw[st]at h;split at h
  ·obtain⟨u,_,b,rfl⟩:=bX.1 h;exact eH hn
  exact FY hL hn k t h
def ri(l:Fs)(t:zL):(add l t).length<=l.length+1:=by unfold add;split<;>simp
def iM{α:Type}(f:α->Fs->Fs)(c:Nat)(hf:∀a l,(f a l).length<=l.length+c):∀(L:List α) (acc:Fs),(L.foldl (λacc a=>f a acc) acc).length<=acc.length+c*L.length
 | [],acc=>by simp
 |a::L,acc=>by
  have h1:=iM f c hf L (f a acc);have h2:=hf a acc;rw[xcL,xax,Nat.mul_succ];omega
def sU(n:Nat)(L:Fs)(A:Nat):∀k,(st n L A k).length<=2^k*L.length
 |0=>by have:=iM (λa l=>add l a) 1 (λa l=>ri l a) L [];simpa[st,mV]using this
 |k+1=>by
  have ih:=sU n L A k;rw[st,xee];split
  ·have h:=iM (λt acc=>add (add acc (iU n t k false)) (iU n t k true)) 2 (λa l=>by have h1:=ri (add l (iU n a k false)) (iU n a k true);have h2:=ri l (iU n a k false);omega) (st n L A k) [];have h':(given n (st n L A k) k).length<=2*(st n L A k).length:=by simpa[given]using h
   have:2*(st n L A k).length<=2*(2^k*L.length):=xcy _ ih;rw[xcn (2^k) 2,xcQ];omega
  have:2^k*L.length<=2^k*2*L.length:=xaY _ zO;omega
def l9(n:Nat)(ws:zL):Nat->Nat
 |0=>0
 |v+1=>if ι n ws v then l9 n ws v|||2^v else l9 n ws v
def qJ(n:Nat)(ws:zL):Nat:=l9 n ws n
def iT(n:Nat)(ws:zL)(u:Nat):∀k,(l9 n ws k).testBit u=(decide (u<k) &&ι n ws u)
 |0=>by simp[l9]
 |v+1=>by
  rw[l9];by_cases e:u=v
  ·subst e;split
   ·rename_i h;rw[xb7,Nat.testBit_two_pow_self];simp[h]
   rename_i h;rw[iT n ws u u];simp[h]
  have h1:decide (u<v+1)=decide (u<v):=by simp;omega
  rw[h1];split
  ·rw[xb7,xb4,iT n ws u v];simp[xa9 e]
  exact iT n ws u v
def n8(n:Nat)(ws:zL):∀k,l9 n ws k<2^k
 |0=>by simp[l9]
 |v+1=>by
  have h1:=n8 n ws v;have h2:2^v<2^(v+1):=xby zD zO;rw[l9];split
  ·exact xbM zO h2
  omega
def vx(A u:Nat):(A>>>u&&&1=1)↔A.testBit u=true:=by rw[gC,xbK,xcB];cases A.testBit u<;>simp
def Mj(A u:Nat):((A>>>u)%2=1)↔A.testBit u=true:=by rw[<-vx,xbX]
end an
namespace Go.Sx
open Go
variable{P:Program}{H:Hp}
section
def aq.int{t e:Nat}{kd:IntKind}{x:Int}{K:zV->Hp->Prop}(h1:P.underlying t=some (.slice e))(h2:dm P e=some 1)(h3:fh P e=some (.int kd 0))
 (h:∀b,K (.slice (some ⟨b,0,none⟩) 1 1) ((b,.cells (az kd [x]) e zZ)::H)):aq P t 1 [(0,.int kd x)] H K:=by refine⟨az kd [x],e,1,_,h1,h2,h3,by decide,?_,λb _=>h b⟩;have e1:Array.range 1=#[0]:=rfl;simp[Instr.fill,Value.cells,az,e1]
def aq.none{t e k:Nat}{z:zV}{K:zV->Hp->Prop}(h1:P.underlying t=some (.slice e))(h2:dm P e=some k)(h3:fh P e=some z)
 (h:∀b,K (.slice (some ⟨b,0,none⟩) 0 0) ((b,.cells #[] e zZ)::H)):aq P t 0 [] H K:=by
 refine⟨_,e,k,z,h1,h2,h3,by simp,rfl,λb _=>?_⟩;have:((Array.range (0*k)).map λi=>z.cells[i%z.cells.size]!)=#[]:=by simp
 rw[this];exact h b
def sI(T:TypeId)(v:zV)(ts:List Tb)(C B:Hp):Prop:=∃rs,aU T 2 v rs C/\tN (Vb B) rs ts
variable{T:TypeId}{B:Hp}
def sI.nil:sI T (.slice none 0 0) [] [] B:=⟨[],aU.nil _ _,tN.nil⟩
def sI.mono{v:zV}{ts:List Tb}{C B':Hp}(h:sI T v ts C B)(hs:∀x∈B,x∈B'):sI T v ts C B':=let ⟨rs,h1,h2⟩:=h;⟨rs,h1,h2.mono λ_ _ h=>h.mono hs⟩
def sI.agK{v:zV}{ts:List Tb}{C B':Hp}(h:sI T v ts C B)(hc:∀x∈C,x∈B')(hb:∀x∈B,x∈B'):jW B' v ts:=by obtain⟨rs,h1,h2⟩:=h;exact⟨rs,(Sl.iC h1 zD).mono hc,h2.mono λ_ _ h=>h.mono hb⟩
def sI.app{T:TypeId}{v:zV}{ts:List Tb}{C B0 A B:Hp}(h:sI T v ts C B0){xb xc:Nat}{t:Tb}{s:zV}{xT:TypeId}{fz:Nat×Nat}(hx:(xb,Obj.cells #[.int .i64 t.n,s] xT fz)∈A++(C++B))(hw:Words B0 s t.ws)
 (hl:ts.length<4398046511103){K:zV->Hp->Prop}(hk:∀v' C',sI T v' (ts++[t]) C' B0->K v' (A++(C'++B))):App P T 2 32 (.agg #[.int .i64 0,.slice none 0 0]) (A++(C++B)) v (.slice (some ⟨xb,0,none⟩) 1 xc) K:=by
 obtain⟨rs,h1,h2⟩:=h;have hs:s.oneCell'=true:=by obtain⟨a,c,rfl,_⟩:=hw.1.shape;rfl
 have Ea:=h2.1;refine h1.HK (r:=[.int .i64 t.n,s]) hx rfl (λu hu=>by simp only[xak,xaQ,xbi]at hu;rcases hu with rfl|rfl;rfl;exact hs) ⟨[.int .i64 0,.slice none 0 0],rfl,rfl⟩ zO zO λv' C' ho=>hk v' C' ⟨_,ho,h2.snoc ⟨s,rfl,hw⟩⟩
def tF(l:List UInt8):List (List zV):=l.map λb=>[Value.int .u8 b.toNat]
def Nu(l:List UInt8):ψ (tF l)=(l.map λb=>Value.int .u8 b.toNat).toArray:=by
 unfold ψ tF;congr 1;induction l with
 |nil=>rfl
 |cons b r ih=>simp[ih]
def lT.own{v:zV}{l:List UInt8}{C:Hp}(h:aU T 1 v (tF l) C)(hs:∀x∈C,x∈H){K:zV->Prop}(hk:K (.string ⟨l.toArray⟩)):lT H v K:=by obtain⟨a,cap,h1,h2⟩:=((Sl.iC h zD).mono hs).cells;refine⟨a,_,cap,l,h1,?_,by simp[tF],hk⟩;rw[Nu,xb8]at h2;exact h2
def A8(l:List UInt8):zV:=.string ⟨l.toArray⟩
def vM(a b:List UInt8):((⟨a.toArray⟩:ByteArray)==⟨b.toArray⟩)=decide (a=b):=by rw[beq_toListBytes,ByteArray.toList_eq,ByteArray.toList_eq];simp only[xdd];rw[xbH];simp
def Rs(a b:List UInt8):Instr.sameNow .string (A8 a) (A8 b)=some (decide (a=b)):=by show some _=some _;rw[vM]
def M8(a:List UInt8):Instr.sameBits 10000 (A8 a) (A8 a)=true:=by show((⟨a.toArray⟩:ByteArray)==⟨a.toArray⟩)=true;rw[vM];simp
def ah.acV{a b:List UInt8}{k:zV->Prop}(h:k (.bool (decide (a≠b)))):ah .str .neq (A8 a) (A8 b) k:=by
 refine⟨_,rfl,?_⟩;have:(!((⟨a.toArray⟩:ByteArray).toList==(⟨b.toArray⟩:ByteArray).toList))=decide (a≠b):=by
  rw[<-beq_toListBytes,vM];simp
 rw[this];exact h
def gN(n:Nat)(B:Hp)(es:Array MapEntry)(ck:Nat)(m:List (List UInt8×zL)):Prop:=
 aI A8 (λv ws=>FC B v ⟨n,ws⟩) es ck m/\∀x∈m,x.1=an.iy x.2/\an.eU n x.2
variable{n:Nat}{es:Array MapEntry}
def gN.mono{B':Hp}{ck:Nat}{m:List (List UInt8×zL)}(h:gN n B es ck m)(hs:∀x∈B,x∈B'):gN n B' es ck m:=⟨h.1.mono λ_ _ h=>h.mono hs,h.2⟩
def gN.empty(n:Nat)(B:Hp):gN n B #[] 0 []:=⟨aI.empty,by simp⟩
def A6(m:List (List UInt8×zL))(ws:zL):List (List UInt8×zL):=eu m (an.iy ws) ws
def gN.nodup{ck:Nat}{m:List (List UInt8×zL)}(h:gN n B es ck m):(m.map Prod.snd).Nodup:=by
 have h1:=h.1.nd;have e:m.map Prod.fst=(m.map Prod.snd).map an.iy:=by
  rw[xbY];apply xbn;intro x hx;exact(h.2 x hx).1
 rw[e]at h1;exact List.Pairwise.of_map an.iy (λa b ξ e=>ξ (by rw[e])) h1
def sR{m:List (List UInt8×zL)}{ws:zL}(hm:∀x∈m,x.1=an.iy x.2/\an.eU n x.2)(hf:an.eU n ws):∀x,x∈(A6 m ws).map Prod.snd↔x∈m.map Prod.snd\/x=ws:=by
 intro x;unfold A6 eu;split
 ·rename_i hk;obtain⟨y,hy,hky⟩:=xal.1 hk;have hyw:y.2=ws:=(hm y hy).2.key_inj hf (by rw[<-(hm y hy).1,hky]);have:(m.map λy=>if y.1=an.iy ws then(an.iy ws,ws)else y)=m:=by
   conv=>rhs;rw[<-xeN m]
   apply xbn;intro z hz;split
   ·rename_i hzk;have:z.2=ws:=(hm z hz).2.key_inj hf (by rw[<-(hm z hz).1,hzk]);simp only[id];rw[<-hzk,<-this]
   rfl
  rw[this];constructor
  ·exact .inl
  rintro(h|rfl)
  ·exact h
  exact xal.2 ⟨y,hy,hyw⟩
 simp
def V9{m:List (List UInt8×zL)}{ws:zL}(hm:∀x∈m,x.1=an.iy x.2/\an.eU n x.2)(hf:an.eU n ws):∀x∈A6 m ws,x.1=an.iy x.2/\an.eU n x.2:=by
 intro x hx;unfold A6 eu at hx;split at hx
 ·obtain⟨y,hy,rfl⟩:=xal.1 hx;split
  ·exact⟨rfl,hf⟩
  exact hm y hy
 rcases xao.1 hx with hx|hx
 ·exact hm x hx
 simp at hx;subst hx;exact⟨rfl,hf⟩
def gN.bt{ck b:Nat}{m:List (List UInt8×zL)}{ws:zL}{val:zV}{K:Hp->Prop}(h:gN n B es ck m)(hv:FC B val ⟨n,ws⟩)(hf:an.eU n ws)
 (h1:∀τ bF,gN n B τ bF (A6 m ws)->∃H',df b (.map es ck) (.map τ bF) H H'/\K H'):aY .string H (.map (some b)) (A8 (an.iy ws)) val K:=
 aI.bt Rs M8 h.1 hv λτ bF he=>h1 τ bF ⟨he,V9 h.2 hf⟩
end
variable{g:Gh}
section
variable{v:zV}{C:Hp}{K:zV->Hp->Prop}
def aU.apps{elem k bytes:Nat}{zero:zV}{rs:List (List zV)}{A B:Hp}(h:aU elem k v rs C){xa:Option Addr}{xc:Nat}{r2:List (List zV)}
 (hx:Cells (A++(C++B)) xa (r2.length*k) (ψ r2))(hr:∀r∈r2,r.length=k)(h1:∀r∈r2,∀u∈r,u.oneCell'=true)(hz:∃z:List zV,zero.cells=z.toArray/\z.length=k)
 (hb:(rs.length+r2.length)*bytes<=140737488355328)(cB:rs.length+r2.length<=9223372036854775807)
 (hk:∀v' C',aU elem k v' (rs++r2) C'->K v' (A++(C'++B))):App P elem k bytes zero (A++(C++B)) v (.slice xa r2.length xc) K:=by
 obtain⟨z,hz1,Qw⟩:=hz;have hnone:∀u∈(ψ r2).toList,u.oneCell'=true:=by
  intro u hu;simp only[ψ,List.mem_flatten]at hu;obtain⟨r,h2,h3⟩:=hu;exact h1 r h2 u h3
 rcases h with⟨rfl,rfl,rfl⟩|⟨b,aF,rfl,rfl,aH⟩
 ·refine⟨none,0,0,xa,r2.length,xc,#[],ψ r2,rfl,rfl,rfl,hx,bK hr,by simp,hnone,λh=>?_,λ_=>⟨by simpa using hb,by simpa using cB,λeE hn b hbf=>?_⟩⟩
  ·have:r2=[]:=xbO zO;subst this;exact hk _ [] (.inl ⟨rfl,rfl,rfl⟩)
  rw[show(#[]:Array zV)++ψ r2++Builtin.zeroCells zero.cells (eE-(0+r2.length))=ψ ([]++r2++List.replicate (eE-r2.length) z)by rw[hz1,n6 z Qw];simp only[xa1,xdg,xbR];rw[cS]];refine⟨_,aO.Rn [(b,_)] A B,hk _ [(b,_)] (.inr ⟨b,List.replicate (eE-r2.length) z,?_,rfl,?_⟩)⟩
  ·simp;omega
  intro x hx;rcases xao.1 hx with hx|hx
  ·exact hr x hx
  rw[xbS hx,Qw]
 have hsz:=bK aH;have mE:∀x∈rs,x.length=k:=λx hx=>aH x (by simp[hx]);have hold:ψ rs=(ψ (rs++aF)).extract 0 (0+rs.length*k):=by
  rw[<-cS];apply xc4;have:=bK mE;have h2:(ψ rs).toList.length=rs.length*k:=by rw[xb3];exact this
  rw[xeb,xei,xdI,List.drop_zero,xa1,xcU,<-h2,xdU]
 refine⟨some ⟨b,0,none⟩,rs.length,rs.length+aF.length,xa,r2.length,xc,ψ rs,ψ r2,rfl,rfl,.inr ⟨rfl,_,elem,(0,0),by simp,?_,hold⟩,hx,bK hr,bK mE,hnone,λhfit=>?_,λhgrow=>⟨hb,by omega,λeE hn b' hbf=>?_⟩⟩
 ·rw[hsz];simp only[xaf,xa1];exact xaY _ zO
 ·obtain⟨j1,j2,rfl,hj⟩:∃j1 j2,aF=j1++j2/\j1.length=r2.length:=⟨aF.take r2.length,aF.drop r2.length,(xbs _ _).symm,by rw[xbI];omega⟩;have aet:∀x∈j1,x.length=k:=λx hx=>aH x (by simp[hx]);refine⟨_,elem,_,rfl,?_,((df.head _).append B).cf A,hk _ [(b,_)] (.inr ⟨b,j2,?_,?_,?_⟩)⟩
  ·rw[hsz,xaf,xaf,hj,xd1,xd1];show 0+rs.length*k+r2.length*k<=_;omega
  ·simp;omega
  ·have e:(⟨b,0,none⟩:Addr).off+rs.length*k=rs.length*k:=by simp
   have l1:=dA rs mE;have l2:=dA j1 aet;have l3:=dA r2 hr;have e2:jo (ψ (rs++(j1++j2))) (rs.length*k) (ψ r2).toList=ψ (rs++r2++j2):=by
    unfold ψ;rw[xcw,xcw,xdd,m6 _ _ _ (by rw[xaf,xaf,l1,l2,l3,hj];omega)];congr 1;rw[xcw,xcw,<-l1,xdU,l3,<-hj,<-l2,xeE,<-xag];simp[xeE]
   rw[e,e2]
  intro x hx;simp only[xag,xao]at hx;rcases hx with hx|hx|hx
  ·exact mE x hx
  ·exact hr x hx
  exact aH x (by simp[hx])
 refine⟨A++([(b',_)]++B),?_,hk _ [(b',_)] (.inr ⟨b',List.replicate (eE-(rs.length+r2.length)) z,?_,rfl,?_⟩)⟩
 ·rw[hz1,n6 z Qw,cS,cS];exact λg w h=>(aO.acY [[_],A,[_],B] [[_],A,[_],B] ((xbk (l₁:=[_,A]) (l₂:=[_])).append_right [B]|>.trans (.cons _ (.swap _ _ _))) g w h).tail
 ·simp;omega
 intro x hx;rcases xao.1 hx with hx|hx
 ·rcases xao.1 hx with hx|hx
  ·exact mE x hx
  exact hr x hx
 rw[xbS hx,Qw]
def aL(T:TypeId)(kd:IntKind)(v:zV)(l:List Int)(C:Hp):Prop:=aU T 1 v (l.map λn=>[Value.int kd n]) C
variable{T:TypeId}{kd:IntKind}
def aL.nil:aL T kd (.slice none 0 0) [] []:=aU.nil _ _
variable{l:List Int}
def aL.bL(h:aL T kd v l C){K:zV->Prop}(hk:K (.int .i64 l.length)):aP v K:=aU.bL h (by simpa using hk)
def aL.ints(h:aL T kd v l C):di kd C v l:=Sl.iC h zD
def aL.app{T:TypeId}{kd:IntKind}{v:zV}{l:List Int}{C A B:Hp}{bytes:Nat}(h:aL T kd v l C){xb xc:Nat}{x:Int}{xT:TypeId}{fz:Nat×Nat}(hx:(xb,Obj.cells (az kd [x]) xT fz)∈A++(C++B))
 (hb:(l.length+1)*bytes<=140737488355328)(hm:l.length+1<=9223372036854775807){K:zV->Hp->Prop}(hk:∀v' C',aL T kd v' (l++[x]) C'->K v' (A++(C'++B))):App P T 1 bytes (.int kd 0) (A++(C++B)) v (.slice (some ⟨xb,0,none⟩) 1 xc) K:=
 aU.HK (r:=[.int kd x]) h hx rfl (by simp[Value.oneCell']) ⟨[.int kd 0],rfl,rfl⟩ (by simpa using hb) (by simpa using hm) λv' C' ho=>hk v' C' (by unfold aL;simpa using ho)
def aL.apps{x:zV}{l2:List Int}{A B:Hp}{bytes:Nat}(h:aL T kd v l C)(hx:di kd (A++(C++B)) x l2)
 (hb:(l.length+l2.length)*bytes<=140737488355328)(hm:l.length+l2.length<=9223372036854775807)(hk:∀v' C',aL T kd v' (l++l2) C'->K v' (A++(C'++B))):App P T 1 bytes (.int kd 0) (A++(C++B)) v x K:=by obtain⟨a,cap,rfl,hc⟩:=Sl.cells hx;exact aU.apps h hc zI (by simp[Value.oneCell']) ⟨[.int kd 0],rfl,rfl⟩ (by simpa using hb) (by simpa using hm) λv' C' ho=>hk v' C' (by unfold aL;rw[xaz];exact ho)
def aq.ado{t e:Nat}{x y z:Int}(h1:P.underlying t=some (.slice e))(h2:dm P e=some 1)(h3:fh P e=some (.int kd 0))
 (h:∀b,K (.slice (some ⟨b,0,Option.none⟩) 3 3) ((b,.cells (az kd [x,y,z]) e zZ)::H)):aq P t 3 [(0,.int kd x),(1,.int kd y),(2,.int kd z)] H K:=by refine⟨az kd [x,y,z],e,1,_,h1,h2,h3,by decide,?_,λb _=>h b⟩;have e1:Array.range (3*1)=#[0,1,2]:=rfl;simp[Instr.fill,Value.cells,az,e1]
end
section
variable{e:TypeId}
def EN{i:TypeInfo}(hi:P.info? e=some i)(hs:i.size=1):P.cellsOf e=1:=by simp[Program.cellsOf,hi,hs]
variable{q:IntKind}
def rR(hu:P.underlying e=some (.int q)){l:List Int}{j:Nat}{x:Int}(h:l[j]? =some x)(w:World):(part e (az q l) j).run P w=.ok (.int q x) w:=by simp[part,isAgg,run_underlying hu,az,h]
def sA{e:TypeId}{q:IntKind}(hu:P.underlying e=some (.int q))(hc:P.cellsOf e=1)(d:Nat)(l l':List Int)(w:World):∀is:zL,(∀i∈is,i<l.length/\i<l'.length)->
  (Op.eqItems (d+1) e (P.cellsOf e) (az q l) (az q l') is).run P w=.ok (is.all λi=>l[i]? ==l'[i]?) w
 | [],_=>by simp[Op.eqItems]
 |i::is,h=>by
  obtain⟨h1,h2⟩:=h i zI;have g1:l[i]? =some l[i]:=xab h1;have g2:l'[i]? =some l'[i]:=xab h2;have p1:=rR (P:=P) hu g1 w;have p2:=rR (P:=P) hu g2 w;have p3:(Op.equalIn (d+1) e (.int q l[i]) (.int q l'[i])).run P w=.ok (l[i]==l'[i]) w:=by
   simp only[Op.equalIn,Sem.run_bind,run_underlying hu,Result.andThen_ok,xa5,Sem.run_pure]
  have ih:=sA hu hc d l l' w is λj hj=>h j (by simp[hj]);simp only[Op.eqItems,hc,xb8,Sem.run_bind,p1,p2,p3,Result.andThen_ok]at ih⊢;rw[List.all_cons,g1,g2];cases hb:(l[i]==l'[i])
  ·simp[hb]
  simp[hb,ih]
def Cn.array{t:TypeId}{n:Nat}(ht:P.underlying t=some (.array n e))(hu:P.underlying e=some (.int q))(hz:dm P e=some 1)(l l':List Int)(h1:l.length=n)(h2:l'.length=n):
  Cn P t (.agg (az q l)) (.agg (az q l')) (decide (l=l')):=by
 obtain⟨i,hi,hs⟩:=bJ hz;have hc:=EN hi hs;intro w;show(Op.equalIn (9998+1+1) t _ _).run P w=_;rw[run_equalIn_array w (9998+1) _ _ ht hi,sA hu hc 9998 l l' w _ (λj hj=>by have:=xaN.1 hj;omega)];congr 1;rw[xbH];simp only[xc8,xaN,xaM,xcT];constructor
 ·intro h;apply xba;intro j;by_cases hj:j<n
  ·exact h j hj
  rw[xaB zO,xaB zO]
 rintro rfl j _;rfl
def mO.array{t:TypeId}{n:Nat}(ht:P.underlying t=some (.array n e))(hu:P.underlying e=some (.int q))(hz:dm P e=some 1)(l:List Int)(h1:l.length=n):mO P t (.agg (az q l)):=by
 obtain⟨i,hi,hs⟩:=bJ hz;intro b w;have gen:∀d,(Instr.checkKey b (d+1+1) t (.agg (az q l))).run P w=.ok () w:=by
  intro d;have p2:∀x:Int,(Instr.checkKey b (d+1) e (.int q x)).run P w=.ok () w:=λx=>by
   simp only[Instr.checkKey,Sem.run_bind,run_underlying hu,Result.andThen_ok,Sem.run_pure]
  unfold Instr.checkKey;simp only[Sem.run_bind,run_underlying ht,Result.andThen_ok];simp only[Std.Legacy.Range.forIn_eq_forIn_range',Std.Legacy.Range.size,xcU,Nat.add_one_sub_one,Nat.div_one];have key:∀is:zL,(∀j∈is,j<l.length)->(forIn is PUnit.unit λj (_:PUnit)=>(do
     Instr.checkKey b (d+1) e (<-part e (az q l) (j*(<-sizeOf e)))
     pure (ForInStep.yield PUnit.unit):Sem (ForInStep PUnit))).run P w=.ok PUnit.unit w:=by
   intro is;induction is with
   |nil=>intro _;simp
   |cons j is ih=>
    intro h;have p1:=rR (P:=P) hu (xab (h j zI)) w;simp only[xeH,Sem.run_bind,run_sizeOf hi,Result.andThen_ok,hs,xb8,p1,p2,Sem.run_pure];exact ih λk hk=>h k (by simp[hk])
  have:=key (List.range' 0 n) (λj hj=>by have:=xew.1 hj;omega);rw[this];rfl
 exact gen 9998
def Build.two{t:TypeId}{x y:Int}{K:zV->Prop}(ht:P.underlying t=some (.array 2 e))(hz:dm P e=some 1)(h0:fh P t=some (.agg (az q [0,0])))(h:K (.agg (az q [x,y]))):
  Build P t [(0,.int q x),(1,.int q y)] K:=by refine⟨_,λw=>?_,h⟩;obtain⟨i,hi,hs⟩:=bJ hz;obtain⟨i0,GW,YY⟩:=cL h0;simp only[Instr.build,Sem.run_bind,dY GW YY,Result.andThen_ok,run_underlying ht,run_sizeOf hi,hs];simp[Instr.fill,Value.cells,az]
end
section
def iQ.struct{o:Oper}{ρ:Operand->zV}{k:zV->Prop}{neq:Bool}{t yt:TypeId}{x y:Operand}{xs ys:Array zV}{b:Bool}(ho:o.op=.binOp (cond neq .neq .eql) t x y yt)(hx:ρ x=.agg xs)(hy:ρ y=.agg ys)
 (hg:P.eqGuardType P.depth t=false)(hu:P.underlying t=some (.struct (P.fieldsOf t)))(hp:P.stoodInHeld t=false)
 (he:∀w,(Op.eqFields 9999 xs ys (P.fieldsOf t).toList).run P w=.ok b w)(hk:k (.bool (cond neq (!b) b))):iQ P g o ρ H k:=by
 obtain⟨dst,op,type,pos,after,guard⟩:=o;simp only at ho;subst ho;obtain⟨v,h1,h2⟩:=Reads.mk (P:=P) (g:=g) (H:=H) (o:=⟨dst,.binOp (cond neq .neq .eql) t x y yt,type,pos,after,guard⟩) (ρ:=ρ) (k:=k) (s:=do eqGuard (cond neq .neq .eql) t x y (ρ x) (ρ y);binOp (cond neq .neq .eql) t (ρ x) (ρ y)) rfl
  ⟨.bool (cond neq (!b) b),hk,λw _=>by
   rw[hx,hy];simp only[Sem.run_bind,run_eqGuard_agg w _ t x y xs ys hg,Result.andThen_ok];cases neq
   ·simp only[xaj];rw[run_eql_struct,show(10000:Nat)=9999+1 from rfl,run_equalIn_struct w 9999 t xs ys hu hp,he];rfl
   simp only[xap];rw[run_neq_struct,show(10000:Nat)=9999+1 from rfl,run_equalIn_struct w 9999 t xs ys hu hp,he];rfl⟩
 exact⟨v,h2,h1⟩
end
end Go.Sx
