import Derived.WalkKit
import Derived.Still
import Derived.KernelRfl
import Derived.Deep.Quiet
import Derived.OrdersHeld
import Derived.ProofKit
import Derived.OpenShut
import Derived.Below
import Derived.ChangeKeysEq
set_option linter.unusedVariables false
set_option linter.unusedSimpArgs false
set_option linter.unusedSectionVars false
theorem zM{α:Type _}{x:α}{l:List α}(h:x∈l:=by repeat (first|assumption|exact List.Mem.head _|apply List.Mem.tail|apply List.mem_append_right)):x∈l:=h
theorem zS{α:Type _}{A B:List α}(h:∀x∈A,x∈B:=by intro _ h;repeat (first|exact h|apply List.mem_cons_of_mem|apply List.mem_append_right)):∀x∈A,x∈B:=h
theorem zO{p:Prop}(h:p:=by omega):p:=h
theorem zI{p:Prop}(h:p:=by simp):p:=h
theorem zD{p:Prop}(h:p:=by decide):p:=h
theorem zK{p:Prop}(h:p:=by kernel_rfl):p:=h
theorem zP{p:Prop}(h:p:=by simp;omega):p:=h
theorem zC{p:Prop}(h:p:=by intro c h;cases h):p:=h
abbrev zL:=List Nat
abbrev zV:=Go.Value
abbrev zZ:Nat×Nat:=(0,0)
set_option linter.defProp false
def xaa:=@List.mem_append_right
def xab:=@List.getElem?_eq_getElem
def xac:=@if_neg
def xad:=@List.mem_append_left
def xae:=@List.getElem?_eq_some_iff
def xaf:=@if_pos
def xag:=@List.mem_cons
def xah:=@cond_false
def xai:=@Array.getD_eq_getD_getElem?
def xaj:=@cond_true
def xak:=@List.length_cons
def xal:=@Nat.le_refl
def xam:=@Nat.eq_of_beq_eq_true
def xan:=@List.length_append
def xao:=@Option.some.injEq
def xap:=@Bool.and_eq_true
def xaq:=@List.mem_map
def xar:=@Bool.or_eq_false_iff
def xas:=@Bool.false_eq_true
def xat:=@List.append_assoc
def xau:=@List.map_append
def xav:=@List.mem_append
def xaw:=@List.length_map
def xax:=@List.not_mem_nil
def xay:=@List.map_cons
def xaz:=@Array.getElem?_eq_some_iff
def xaA:=@decide_eq_false
def xaB:=@Nat.zero_le
def xaC:=@List.getElem?_map
def xaD:=@if_false
def xaE:=@List.getElem?_eq_none
def xaF:=@List.cons_append
def xaG:=@List.mem_singleton
def xaH:=@decide_eq_true_eq
def xaI:=@List.mem_of_getElem?
def xaJ:=@List.getD_eq_getElem?_getD
def xaK:=@List.perm_append_comm
def xaL:=@Nat.pow_le_pow_right
def xaM:=@List.getElem?_append_left
def xaN:=@decide_eq_true
def xaO:=@List.length_replicate
def xaP:=@List.getElem_mem
def xaQ:=@List.drop_eq_nil_of_le
def xaR:=@Bool.decide_or
def xaS:=@if_true
def xaT:=@List.append_nil
def xaU:=@List.nil_append
def xaV:=@decide_eq_false_iff_not
def xaW:=@Nat.zero_add
def xaX:=@List.drop_eq_getElem_cons
def xaY:=@Nat.shiftRight_eq_div_pow
def xaZ:=@Classical.byContradiction
def xa0:=@Array.getElem?_setIfInBounds_ne
def xa1:=@List.nodup_cons
def xa2:=@List.count_append
def xa3:=@or_false
def xa4:=@Nat.testBit_mod_two_pow
def xa5:=@List.perm_middle
def xa6:=@Nat.eq_of_testBit_eq
def xa7:=@Array.getElem?_toList
def xa8:=@List.mem_range
def xa9:=@Option.map_some
def xba:=@Nat.mul_le_mul_right
def xbb:=@List.cons.injEq
def xbc:=@Array.getElem?_setIfInBounds_self_of_lt
def xbd:=@Nat.mod_eq_of_lt
def xbe:=@List.flatten_append
def xbf:=@List.length_singleton
def xbg:=@Bool.not_eq_true'
def xbh:=@Option.some.inj
def xbi:=@Nat.succ_mul
def xbj:=@Nat.mul_comm
def xbk:=@Nat.lt_of_le_of_lt
def xbl:=@Array.getElem?_eq_getElem
def xbm:=@List.mem_map_of_mem
def xbn:=@Array.getElem?_modify
def xbo:=@Option.map_none
def xbp:=@List.getElem?_set_self
def xbq:=@List.length_nil
def xbr:=@Nat.le_of_ble_eq_true
def xbs:=@Int.natCast_nonneg
def xbt:=@List.eq_of_mem_replicate
def xbu:=@Nat.lt_of_lt_of_le
def xbv:=@Option.isSome_none
def xbw:=@List.length_drop
def xbx:=@Array.getElem?_setIfInBounds
def xby:=@List.getElem?_set_ne
def xbz:=@List.flatten_cons
def xbA:=@Bool.or_eq_true
def xbB:=@List.find?_cons
def xbC:=@List.map_congr_left
def xbD:=@Array.length_toList
def xbE:=@Array.getElem?_eq_none
def xbF:=@Nat.le_trans
def xbG:=@Nat.testBit_shiftRight
def xbH:=@List.any_eq_true
def xbI:=@List.drop_length
def xbJ:=@Ne.symm
def xbK:=@List.take_append_drop
def xbL:=@Nat.mod_lt
def xbM:=@Array.toArray_toList
def xbN:=@Nat.le_of_lt
def xbO:=@Nat.testBit_and
def xbP:=@List.map_map
def xbQ:=@List.count_singleton
def xbR:=@List.nodup_append
def xbS:=@List.ext_getElem?
def xbT:=@List.take_add_one
def xbU:=@List.eq_nil_of_length_eq_zero
def xbV:=@List.getElem?_cons_zero
def xbW:=@Nat.mul_one
def xbX:=@Nat.not_lt_zero
def xbY:=@Nat.min_eq_left
def xbZ:=@Classical.choose_spec
def xb0:=@List.getElem?_append_right
def xb1:=@List.size_toArray
def xb2:=@Nat.succ_le_of_lt
def xb3:=@Int.toNat_natCast
def xb4:=@List.length_range
def xb5:=@List.getElem?_set
def xb6:=@List.mem_cons_of_mem
def xb7:=@congrArg
def xb8:=@Array.getElem?_replicate
def xb9:=@List.all_eq_true
def xca:=@Nat.le_of_not_lt
def xcb:=@List.take_length
def xcc:=@Nat.div_eq_of_lt
def xcd:=@List.length_take
def xce:=@List.replicate_succ
def xcf:=@List.length_eq_zero_iff
def xcg:=@Array.empty_append
def xch:=@Array.ext'
def xci:=@List.length_set
def xcj:=@Nat.two_pow_pos
def xck:=@Nat.and_two_pow_sub_one_eq_mod
def xcl:=@List.mem_filter
def xcm:=@List.count_cons
def xcn:=@List.count_pos_iff
def xco:=@Nat.testBit_lt_two_pow
def xcp:=@of_decide_eq_true
def xcq:=@List.getElem?_toArray
def xcr:=@Nat.add_zero
def xcs:=@Nat.add_comm
def xct:=@Nat.sub_self
def xcu:=@List.set_append_right
def xcv:=@Nat.pow_succ
def xcw:=@Bool.and_eq_false_iff
def xcx:=@beq_iff_eq
def xcy:=@Option.getD_none
def xcz:=@Option.getD_some
def xcA:=@Array.mem_toList_iff
def xcB:=@List.mem_of_mem_take
def xcC:=@List.mem_iff_getElem
def xcD:=@List.drop_append
def xcE:=@Bool.true_and
def xcF:=@Array.getElem?_push
def xcG:=@List.mem_or_eq_of_mem_set
def xcH:=@Bool.eq_iff_iff
def xcI:=@Array.append_empty
def xcJ:=@List.map_nil
def xcK:=@Nat.lt_or_ge
def xcL:=@List.set_cons_zero
def xcM:=@List.append_of_mem
def xcN:=@Nat.sub_zero
def xcO:=@Nat.add_sub_cancel
def xcP:=@Nat.shiftRight_add
def xcQ:=@Nat.one_le_two_pow
def xcR:=@List.take_left
def xcS:=@List.getElem?_cons_succ
def xcT:=@List.getElem?_replicate
def xcU:=@List.pairwise_map
def xcV:=@Array.getElem?_setIfInBounds_self
def xcW:=@List.set_eq_take_append_cons_drop
def xcX:=@Option.map_eq_some_iff
def xcY:=@List.take_of_length_le
def xcZ:=@Prod.mk.injEq
def xc0:=@Array.toList_map
def xc1:=@Option.bind_some
def xc2:=@and_true
def xc3:=@List.Perm.append_left
def xc4:=@Array.getElem?_append
def xc5:=@Array.getElem_extract
def xc6:=@Nat.testBit_shiftLeft
def xc7:=@List.length_filter_le
def xc8:=@decide_false
def xc9:=@List.getElem?_append
def xda:=@Nat.div_lt_of_lt_mul
def xdb:=@Nat.div_add_mod
def xdc:=@List.map_set
def xdd:=@List.set_append_left
def xde:=@List.toList_toArray
def xdf:=@List.perm_iff_count
def xdg:=@List.mapM_cons
def xdh:=@Nat.testBit_or
def xdi:=@Iff.rfl
def xdj:=@List.dropLast_concat_getLast
def xdk:=@List.count_nil
def xdl:=@List.mem_cons_self
def xdm:=@Nat.testBit_two_pow_sub_one
def xdn:=@List.find?_eq_none
def xdo:=@List.filter_append
def xdp:=@UInt8.toNat_ofNat'
def xdq:=@Option.toList_some
def xdr:=@Bool.false_or
def xds:=@Nat.mul_assoc
def xdt:=@Nat.lt_trichotomy
def xdu:=@Decidable.not_not
def xdv:=@Array.mem_filter
def xdw:=@true_and
def xdx:=@Nat.min_eq_right
def xdy:=@decide_eq_decide
def xdz:=@Nat.le_add_right
def xdA:=@Array.map_empty
def xdB:=@List.forIn_cons
def xdC:=@List.foldl_cons
def xdD:=@List.range_succ
def xdE:=@Bool.decide_and
def xdF:=@UInt8.toNat_inj
def xdG:=@Nat.pow_add
abbrev zX:ByteArray:=ByteArray.mk #[0,1,2,2,3,3,3,3,4,4,4,4,4,4,4,4,5,5,5,5,5,5,5,5,5,5,5,5,5,5,5,5,6,6,6,6,6,6,6,6,6,6,6,6,6,6,6,6,6,6,6,6,6,6,6,6,6,6,6,6,6,6,6,6,7,7,7,7,7,7,7,7,7,7,7,7,7,7,7,7,7,7,7,7,7,7,7,7,7,7,7,7,7,7,7,7,7,7,7,7,7,7,7,7,7,7,7,7,7,7,7,7,7,7,7,7,7,7,7,7,7,7,7,7,7,7,7,7,8,8,8,8,8,8,8,8,8,8,8,8,8,8,8,8,8,8,8,8,8,8,8,8,8,8,8,8,8,8,8,8,8,8,8,8,8,8,8,8,8,8,8,8,8,8,8,8,8,8,8,8,8,8,8,8,8,8,8,8,8,8,8,8,8,8,8,8,8,8,8,8,8,8,8,8,8,8,8,8,8,8,8,8,8,8,8,8,8,8,8,8,8,8,8,8,8,8,8,8,8,8,8,8,8,8,8,8,8,8,8,8,8,8,8,8,8,8,8,8,8,8,8,8,8,8,8,8]
namespace Go.Sx
open Go
abbrev Hp:=List (Nat×Obj)
structure Gh where
 w:World
 fr:Hp
def Gh.add(g:Gh)(F:Hp):Gh:=⟨g.w,F++g.fr⟩
structure Own(g:Gh)(H:Hp)(w:World):Prop where
 os:w.os=g.w.os
 out:w.output=g.w.output
 tape:w.tape=g.w.tape
 nd:((H++g.fr).map Prod.fst).Nodup
 pG:∀x,x∈H++g.fr->w.heap[x.1]? =some x.2
theorem Own.has{g:Gh}{H:Hp}{w:World}(h:Own g H w)(x:Nat×Obj)(hx:x∈H):w.heap[x.1]? =some x.2:=h.pG x (xad _ hx)
theorem Own.perm{g:Gh}{H H':Hp}{w:World}(h:Own g H w)(p:H.Perm H'):Own g H' w:=
 ⟨h.os,h.out,h.tape,((p.append_right _).map _).nodup_iff.1 h.nd,λx hx=>h.pG x ((p.append_right _).mem_iff.2 hx)⟩
theorem Own.right{g:Gh}{A B:Hp}{w:World}(h:Own g (A++B) w):Own g B w:=
 ⟨h.os,h.out,h.tape,by have:=h.nd;rw[xat,xau]at this;exact(xbR.1 this).2.1,λx hx=>h.pG x (by rw[xat];exact xaa _ hx)⟩
theorem Own.left{g:Gh}{A B:Hp}{w:World}(h:Own g (A++B) w):Own g A w:=Own.right (A:=B) (h.perm xaK)
theorem Own.tail{g:Gh}{x:Nat×Obj}{B:Hp}{w:World}(h:Own g (x::B) w):Own g B w:=Own.right (A:=[x]) h
theorem Own.cJ{g:Gh}{A F:Hp}{w:World}:Own g (A++F) w↔Own (g.add F) A w:=by
 constructor
 ·intro h;exact⟨h.os,h.out,h.tape,by have:=h.nd;rw[xat]at this;exact this,λx hx=>h.pG x (by rw[xat];exact hx)⟩
 intro h;exact⟨h.os,h.out,h.tape,by have:=h.nd;rw[xat];exact this,λx hx=>h.pG x (by rw[xat]at hx;exact hx)⟩
def aN(H H':Hp):Prop:=∀g w,Own g H w->Own g H' w
theorem aN.refl(H:Hp):aN H H:=λ_ _ h=>h
theorem aN.trans{A B C:Hp}(h:aN A B)(h':aN B C):aN A C:=λg w x=>h' g w (h g w x)
theorem aN.perm{A B:Hp}(p:A.Perm B):aN A B:=λ_ _ h=>h.perm p
theorem aN.right{A B:Hp}:aN (A++B) B:=λ_ _ h=>h.right
theorem aN.left{A B:Hp}:aN (A++B) A:=λ_ _ h=>h.left
theorem aN.tail{x:Nat×Obj}{B:Hp}:aN (x::B) B:=λ_ _ h=>h.tail
theorem aN.frame{A B:Hp}(h:aN A B)(F:Hp):aN (A++F) (B++F):=λ_ _ o=>Own.cJ.2 (h _ _ (Own.cJ.1 o))
theorem aN.cL{A B:Hp}(h:aN A B)(F:Hp):aN (F++A) (F++B):=(aN.perm xaK).trans ((h.frame F).trans (.perm xaK))
inductive bW(b:Nat)(o o':Obj):Hp->Hp->Prop
 |head (R:Hp):bW b o o' ((b,o)::R) ((b,o')::R)
 |tail {x:Nat×Obj} {R R':Hp} (h:bW b o o' R R'):bW b o o' (x::R) (x::R')
theorem bW.mem{b:Nat}{o o':Obj}{H H':Hp}(h:bW b o o' H H'):(b,o)∈H:=by
 induction h with
 |head R=>simp
 |tail _ ih=>simp[ih]
theorem bW.keys{b:Nat}{o o':Obj}{H H':Hp}(h:bW b o o' H H'):H'.map Prod.fst=H.map Prod.fst:=by
 induction h with
 |head R=>simp
 |tail _ ih=>simp[ih]
theorem bW.wy{b:Nat}{o o':Obj}{H H':Hp}(h:bW b o o' H H')(nd:(H.map Prod.fst).Nodup):∀x∈H',x=(b,o')\/(x∈H/\x.1≠b):=by
 induction h with
 |head R=>
  intro x hx;rcases xag.1 hx with rfl|hx
  ·exact .inl rfl
  refine .inr ⟨by simp[hx],λe=>?_⟩;simp only[xay,xa1]at nd;exact nd.1 (e▸xbm hx)
 | @tail y R R' h ih=>
  intro x hx;simp only[xay,xa1]at nd;rcases xag.1 hx with rfl|hx
  ·refine .inr ⟨by simp,λe=>?_⟩;exact nd.1 (e▸xbm (f:=Prod.fst) h.mem)
  rcases ih nd.2 x hx with h1|h1
  ·exact .inl h1
  exact .inr ⟨by simp[h1.1],h1.2⟩
theorem bW.append{b:Nat}{o o':Obj}{C C':Hp}(h:bW b o o' C C')(B:Hp):bW b o o' (C++B) (C'++B):=by
 induction h with
 |head R=>exact .head _
 |tail _ ih=>exact .tail ih
theorem Own.bX{g:Gh}{H H':Hp}{w w':World}{b:Nat}{o o':Obj}(h:Own g H w)(u:bW b o o' H H')
 (hos:w'.os=w.os)(hout:w'.output=w.output)(An:w'.tape=w.tape)
 (hb:w'.heap[b]? =some o')(hr:∀c,c≠b->w'.heap[c]? =w.heap[c]?):Own g H' w':=
 ⟨hos.trans h.os,hout.trans h.out,An.trans h.tape,by rw[(u.append g.fr).keys];exact h.nd,λx hx=>by
  rcases(u.append g.fr).wy h.nd x hx with rfl|⟨h1,h2⟩
  ·exact hb
  rw[hr _ h2];exact h.pG x h1⟩
theorem Own.same{g:Gh}{H:Hp}{w w':World}(h:Own g H w)(hos:w'.os=w.os)(hout:w'.output=w.output)(An:w'.tape=w.tape)
 (hr:∀(c:Nat) (o:Obj),w.heap[c]? =some o->w'.heap[c]? =some o):Own g H w':=
 ⟨hos.trans h.os,hout.trans h.out,An.trans h.tape,h.nd,λx hx=>hr _ _ (h.pG x hx)⟩
theorem Own.drew{g:Gh}{H:Hp}{w:World}(h:Own g H w):Own g H w.drew:=h.same rfl rfl rfl λ_ _ h=>h
theorem Own.rf{g:Gh}{H:Hp}{w:World}(h:Own g H w):Own g H {w with drawn:=w.drawn+1}:=h.drew
theorem Own.JY{g:Gh}{H:Hp}{w:World}(h:Own g H w){x:Nat×Obj}(hx:x∈H++g.fr):x.1<w.heap.size:=by
 have:=h.pG x hx;exact(xaz.1 this).1
theorem Own.lt{g:Gh}{H:Hp}{w:World}(h:Own g H w){x:Nat×Obj}(hx:x∈H):x.1<w.heap.size:=h.JY (xad _ hx)
theorem Own.AU{g:Gh}{H:Hp}{w:World}(h:Own g H w):w.heap.size∉(H++g.fr).map Prod.fst:=by
 intro hm;obtain⟨x,hx,e⟩:=xaq.1 hm;have:=h.JY hx;omega
theorem Own.fresh{g:Gh}{H:Hp}{w:World}(h:Own g H w):w.heap.size∉H.map Prod.fst:=λhm=>h.AU (by rw[xau];exact xad _ hm)
theorem Own.alloc{g:Gh}{H:Hp}{w:World}(h:Own g H w)(o:Obj):Own g ((w.heap.size,o)::H) (w.alloc o):=by
 refine⟨h.os,h.out,h.tape,?_,?_⟩
 ·rw[xaF,xay,xa1];exact⟨h.AU,h.nd⟩
 intro x hx;rw[xaF]at hx;rcases xag.1 hx with rfl|hx
 ·show(w.heap.push o)[w.heap.size]? =some o;rw[xcF,xaf rfl]
 have:=h.pG x hx;have hl:=h.JY hx;show(w.heap.push o)[x.1]? =some x.2;rw[xcF,xac zO];exact this
theorem Own.cell{g:Gh}{H:Hp}{w:World}(h:Own g H w){b:Nat}{c:Array zV}{T:TypeId}{fz:Nat×Nat}(hm:(b,Obj.cells c T fz)∈H)(off:Nat):
  w.cell? ⟨b,off,none⟩=c[off]? :=by
 have:=h.has _ hm;simp only[World.cell?];simp only at this;rw[this];rfl
theorem Own.frozen{g:Gh}{H:Hp}{w:World}(h:Own g H w){b:Nat}{c:Array zV}{T:TypeId}(hm:(b,Obj.cells c T zZ)∈H)(off:Nat)(sp:Option Nat):
  w.frozen? ⟨b,off,sp⟩=false:=by
 have:=h.has _ hm;simp only at this;simp[World.frozen?,this]
theorem Own.shape{g:Gh}{H:Hp}{w:World}(h:Own g H w){b:Nat}{c:Array zV}{T:TypeId}{fz:Nat×Nat}(hm:(b,Obj.cells c T fz)∈H):
  w.shape? b=some (T,c.size):=by
 have:=h.has _ hm;simp only at this;simp[World.shape?,this]
def over(c:Array zV)(off:Nat):List zV->Array zV
 | []=>c
 |v::r=>over (c.setIfInBounds off v) (off+1) r
theorem Own.setCell{g:Gh}{H:Hp}{w:World}(h:Own g H w){b:Nat}{c:Array zV}{T:TypeId}{fz:Nat×Nat}{H':Hp}(off:Nat)(v:zV)
 (u:bW b (.cells c T fz) (.cells (c.setIfInBounds off v) T fz) H H'):Own g H' (w.setCell ⟨b,off,none⟩ v):=by
 refine h.bX u rfl rfl rfl ?_ ?_
 ·have:=h.has _ u.mem;simp only at this;simp[World.setCell,xbn,this]
 intro d hd;simp only[World.setCell];rw[xbn,xac (λe=>hd (Eq.symm e))]
theorem bW.re{b:Nat}{o o':Obj}{H H':Hp}(u:bW b o o' H H')(o₁:Obj):∃H₁,bW b o o₁ H H₁/\bW b o₁ o' H₁ H':=by
 induction u with
 |head R=>exact⟨_,.head R,.head R⟩
 |tail _ ih=>obtain⟨H₁,u1,u2⟩:=ih;exact⟨_,.tail u1,.tail u2⟩
theorem cZ{P:Program}{g:Gh}{b:Nat}{T:TypeId}(off:Nat):∀(l:List zV) (i:Nat) (c:Array zV) (H H':Hp) (w:World),Own g H w->
  bW b (.cells c T zZ) (.cells (over c (off+i) l) T zZ) H H'->(∀v∈l,v.oneCell'=true)->off+i+l.length<=c.size->
  ∃w',(storeCells ⟨b,off,none⟩ l i).run P w=.ok () w'/\Own g H' w'
 | [],i,c,H,H',w,h,u,_,_=>by
  refine⟨w,rfl,?_⟩;exact h.bX u rfl rfl rfl (h.has _ u.mem) λ_ _=>rfl
 |v::r,i,c,H,H',w,h,u,h1,hs=>by
  obtain⟨H₁,u1,u2⟩:=u.re (.cells (c.setIfInBounds (off+i) v) T zZ);have kg:=h.setCell (off+i) v u1;simp only[xak]at hs;obtain⟨w',hr,ho⟩:=cZ (P:=P) off r (i+1) (c.setIfInBounds (off+i) v) H₁ H' _ kg (by simpa[over,Nat.add_assoc]using u2) (λx hx=>h1 x (by simp[hx])) zP;refine⟨w',?_,ho⟩;have hc:w.cell? ⟨b,off+i,none⟩=some c[off+i]:=by
   rw[h.cell u.mem,xbl]
  have hf:=h.frozen u.mem (off+i) none;have ha:Addr.add ⟨b,off,none⟩ i=⟨b,off+i,none⟩:=Addr.add_lit _ _ _;simp only[storeCells,Sem.run_bind,ha,run_store P w _ v .plain (h1 v zI),hc,hf,xas,xaD,Result.andThen_ok,hr]
theorem eY{P:Program}{g:Gh}{H:Hp}{w:World}(h:Own g H w){b:Nat}{c:Array zV}{T:TypeId}{fz:Nat×Nat}(hm:(b,Obj.cells c T fz)∈H)
 (off n:Nat)(hs:off+n<=c.size):(loadCells ⟨b,off,none⟩ n).run P w=.ok (c.extract off (off+n)) w:=by
 have hl:((c.extract off (off+n)).toList).length=n:=by simp;omega
 have:=run_loadCells_list (P:=P) w ⟨b,off,none⟩ (c.extract off (off+n)).toList (λj v hj=>by
  rw[Addr.add_lit,h.cell hm];have Ft:j<n:=by
   have:=(xae.1 hj).1;omega
  rw[xa7,Array.getElem?_extract]at hj;rw[xaf zO]at hj;exact hj)
 rw[hl]at this;exact this
end Go.Sx
namespace Go.Sx
open Go
abbrev Fr:=Nat->zV
def bX(fr:Fr)(d:Option Nat)(v:zV):Fr:=
 match d with
 |none=>fr
 |some d=>λs=>cond (Nat.beq s d) v (fr s)
def ev(fr:Fr):Operand->zV
 | .tmp t=>fr t
 | .const v=>v
 | .global g=>.pointer (some ⟨g,0,none⟩)
 | .func f=>.func (.func f) #[] #[]
def cq(n:Nat):Option Nat->Bool
 |none=>true
 |some d=>Nat.blt d n
structure aZ(ds:List Deferred)(n:Nat)(a:Act)(fr:Fr):Prop where
 defers:a.defers=ds
 size:a.tmps.size=n
 get:∀s,a.tmps.getD s undef=fr s
theorem aZ.eval{ds:List Deferred}{n:Nat}{a:Act}{fr:Fr}(h:aZ ds n a fr):a.eval=ev fr:=by
 funext x
 cases x<;>simp only[Act.eval,ev];exact h.get _
theorem aZ.put{ds:List Deferred}{n:Nat}{a:Act}{fr:Fr}(h:aZ ds n a fr){d:Option Nat}(hd:cq n d=true)(v:zV):aZ ds n (a.put d v) (bX fr d v):=by
 cases d with
 |none=>exact h
 |some d=>
  have hlt:d<n:=by simpa[cq,Nat.blt_eq]using hd
  refine⟨h.defers,by simp[Act.put,h.size],λs=>?_⟩;simp only[Act.put,bX];have hs:=h.size;by_cases e:s=d
  ·subst e;simp[hs,hlt]
  have e':d≠s:=λx=>e x.symm;have hb:Nat.beq s d=false:=by
   cases hh:Nat.beq s d
   ·rfl
   exact absurd (xam hh) e
  rw[hb];simp only[xah];have:=h.get s;simpa[xai,xa0 e']using this
def aX(P:Program)(g:Gh)(f:FuncId)(args:Array zV)(H:Hp)(R:Ending->Hp->Prop):Prop:=
 ∀w,Own g H w->Calls P f args w λe w'=>∃H',Own g H' w'/\R e H'
theorem aX.mono{P:Program}{g:Gh}{f:FuncId}{args:Array zV}{H:Hp}{R R':Ending->Hp->Prop}(h:aX P g f args H R)(hr:∀e H',R e H'->R' e H'):
  aX P g f args H R':=λw hw=>(h w hw).mono λe w' ⟨H',o,r⟩=>⟨H',o,hr _ _ r⟩
theorem aX.pre{P:Program}{g:Gh}{f:FuncId}{args:Array zV}{H H':Hp}{R:Ending->Hp->Prop}(h:aX P g f args H' R)(he:aN H H'):
  aX P g f args H R:=λw hw=>h w (he _ _ hw)
theorem aX.post{P:Program}{g:Gh}{f:FuncId}{args:Array zV}{H:Hp}{R R':Ending->Hp->Prop}(h:aX P g f args H R)
 (hr:∀e H',R e H'->∃dP,aN H' dP/\R' e dP):aX P g f args H R':=λw hw=>(h w hw).mono λe w' ⟨H',o,r⟩=>
 let ⟨dP,en,r'⟩:=hr _ _ r;⟨dP,en _ _ o,r'⟩
def IL(K:zV->Hp->Prop)(KP:List PanicEntry->Hp->Prop):Ending->Hp->Prop
 | .returned v,H=>K v H
 | .panicked ch,H=>KP ch H
 | .outgrown,_=>False
def nq(P:Program)(g:Gh)(K:zV->Hp->Prop)(KP:List PanicEntry->Hp->Prop):Result Next->Prop
 | .ok (.value v) w=>∃H,Own g H w/\K v H
 | .ok .skip w=>∃H,Own g H w/\K undef H
 | .ok (.enter f args) w=>Calls P f args w λe w'=>∃H,Own g H w'/\IL K KP e H
 | .halt (.panic v) w=>∃H,Own g H w/\KP [{v,recovered:=false}] H
 |_=>False
def cg(P:Program)(g:Gh)(o:Oper)(ρ:Operand->zV)(H:Hp)(K:zV->Hp->Prop)(KP:List PanicEntry->Hp->Prop):Prop:=
 ∀w,Own g H w->nq P g K KP ((execOp ρ o).run P w)
def vK(H:Hp)(o:Obj)(k:Nat->Hp->Prop):Prop:=∀b,b∉H.map Prod.fst->k b ((b,o)::H)
def az(c a b:zV)(k:zV->Prop):Prop:=∃t,c=.bool t/\k (cond t a b)
def Ld(H:Hp)(p:zV)(k:zV->Prop):Prop:=
 ∃b off c T fz v,p=.pointer (some ⟨b,off,none⟩)/\(b,Obj.cells c T fz)∈H/\c[off]? =some v/\k v
def aA(n:Nat)(H:Hp)(p:zV)(k:zV->Prop):Prop:=
 ∃b off c T fz,p=.pointer (some ⟨b,off,none⟩)/\(b,Obj.cells c T fz)∈H/\off+n<=c.size/\k (.agg (c.extract off (off+n)))
def St(n:Nat)(H:Hp)(p x:zV)(k:Hp->Prop):Prop:=
 ∃b off c T H',p=.pointer (some ⟨b,off,none⟩)/\x.cells.size=n/\off+n<=c.size/\(∀v∈x.cells.toList,v.oneCell'=true)/\
  bW b (.cells c T zZ) (.cells (over c off x.cells.toList) T zZ) H H'/\k H'
inductive BK|num|bool|ptr|slice|map|func|str|other
def pU:TypeDesc->BK
 | .bool=>.bool
 | .int _=>.num
 | .pointer _=>.ptr
 | .slice _=>.slice
 | .map _ _=>.map
 | .func _ _ _=>.func
 | .string=>.str
 |_=>.other
def g8(op:BinOp)(k:IntKind)(a b:Int):Option zV:=
 match op with
 | .add=>some (.int k (k.wrap (a+b)))
 | .sub=>some (.int k (k.wrap (a-b)))
 | .mul=>some (.int k (k.wrap (a*b)))
 | .quo=>if b=0 then none else some (.int k (k.wrap (a.tdiv b)))
 | .rem=>if b=0 then none else some (.int k (a.tmod b))
 | .and=>some (.int k (bits .and k a b))
 | .or=>some (.int k (bits .or k a b))
 | .xor=>some (.int k (bits .xor k a b))
 | .andNot=>some (.int k (bits .andNot k a b))
 | .eql=>some (.bool (a==b))
 | .neq=>some (.bool (a !=b))
 | .lss=>some (.bool (decide (a<b)))
 | .leq=>some (.bool (decide (a<=b)))
 | .gtr=>some (.bool (decide (b<a)))
 | .geq=>some (.bool (decide (b<=a)))
 |_=>none
def eL(kd:BK)(op:BinOp)(x y:zV):Option zV:=
 match x with
 | .int k a=>
  match y with
  | .int k' b=>
   match op with
   | .shl=>if b<0 then none else some (.int k (k.wrap (a*2^(min b.toNat k.bits))))
   | .shr=>if b<0 then none else some (.int k (a.fdiv (2^(min b.toNat k.bits))))
   |op=>if k=k' then g8 op k a b else none
  |_=>none
 | .bool a=>
  match kd,op,y with
  | .bool,.eql,.bool b=>some (.bool (a==b))
  | .bool,.neq,.bool b=>some (.bool (!(a==b)))
  |_,_,_=>none
 | .string a=>
  match op,y with
  | .eql,.string b=>some (.bool (a.toList==b.toList))
  | .neq,.string b=>some (.bool (!(a.toList==b.toList)))
  | .add,.string b=>if a.size+b.size<=9223372036854775807 then some (.string (a++b))else none
  |_,_=>none
 | .pointer a=>
  match kd,op,y with
  | .ptr,.eql,.pointer b=>if a.isNone\/b.isNone then some (.bool (a.isNone&&b.isNone))else none
  | .ptr,.neq,.pointer b=>if a.isNone\/b.isNone then some (.bool (!(a.isNone&&b.isNone)))else none
  |_,_,_=>none
 | .slice a n c=>
  match kd,op,y with
  | .slice,.eql,.slice b _ _=>if a.isNone\/b.isNone then some (.bool (a.isNone&&b.isNone))else none
  | .slice,.neq,.slice b _ _=>if a.isNone\/b.isNone then some (.bool (!(a.isNone&&b.isNone)))else none
  |_,_,_=>none
 | .map a=>
  match kd,op,y with
  | .map,.eql,.map b=>if a.isNone\/b.isNone then some (.bool (a.isNone&&b.isNone))else none
  | .map,.neq,.map b=>if a.isNone\/b.isNone then some (.bool (!(a.isNone&&b.isNone)))else none
  |_,_,_=>none
 |_=>none
def ae(kd:BK)(op:BinOp)(x y:zV)(k:zV->Prop):Prop:=∃v,eL kd op x y=some v/\k v
def Mq(op:UnOp)(x:zV):Option zV:=
 match op,x with
 | .neg,.int k n=>some (.int k (k.wrap (0-n)))
 | .not,.bool b=>some (.bool !b)
 | .xor,.int k n=>some (.int k (bits .xor k (if k.signed then-1 else k.max) n))
 |_,_=>none
def Un(op:UnOp)(x:zV)(k:zV->Prop):Prop:=∃v,Mq op x=some v/\k v
def aM(kd:IntKind)(x:zV)(k:zV->Prop):Prop:=∃j n,x=.int j n/\k (.int kd (kd.wrap n))
def ah(off:Nat)(x:zV)(k:zV->Prop):Prop:=∃b o,x=.pointer (some ⟨b,o,none⟩)/\k (.pointer (some ⟨b,o+off,none⟩))
def BY(off:Nat)(x:zV)(k:zV->Prop):Prop:=∃cs v,x=.agg cs/\cs[off]? =some v/\k v
def DP(off n:Nat)(x:zV)(k:zV->Prop):Prop:=∃cs,x=.agg cs/\k (.agg (cs.extract off (off+n)))
def ai(size:Nat)(x ix:zV)(k:zV->Prop):Prop:=
 ∃b o n c kd i,x=.slice (some ⟨b,o,none⟩) n c/\ix=.int kd i/\0<=i/\i<(n:Int)/\k (.pointer (some ⟨b,o+i.toNat*size,none⟩))
def di(len size:Nat)(x ix:zV)(k:zV->Prop):Prop:=
 ∃b o kd i,x=.pointer (some ⟨b,o,none⟩)/\ix=.int kd i/\0<=i/\i<(len:Int)/\k (.pointer (some ⟨b,o+i.toNat*size,none⟩))
def Cz:Option zV->Option Int
 |none=>some 0
 |some (.int _ n)=>some n
 |_=>none
def wR(len:Nat):Option zV->Option Int
 |none=>some len
 |some (.int _ n)=>some n
 |_=>none
def bT(size:Nat)(x:zV)(lo hi:Option zV)(k:zV->Prop):Prop:=
 ∃a n c l h,x=.slice a n c/\Cz lo=some l/\wR n hi=some h/\0<=l/\l<=h/\h<=(c:Int)/\
  k (.slice (if c=l.toNat then a else a.map (·.add (l.toNat*size))) (h.toNat-l.toNat) (c-l.toNat))
def Ext(i:Nat)(x:zV)(k:zV->Prop):Prop:=∃vs v,x=.tuple vs/\vs[i]? =some v/\k v
def bp(x:zV)(k:zV->Prop):Prop:=∃a n c,x=.slice a n c/\k (.int .i64 n)
def xF(H:Hp)(x:zV)(k:zV->Prop):Prop:=
 ∃m,x=.map m/\((m=none/\k (.int .i64 0))\/∃b es clock,m=some b/\(b,Obj.map es clock)∈H/\k (.int .i64 es.size))
def Cells(H:Hp)(base:Option Addr)(n:Nat)(cs:Array zV):Prop:=
 match base with
 |none=>cs=#[]
 |some a=>(n=0/\cs=#[])\/(a.spot=none/\∃c T fz,(a.block,Obj.cells c T fz)∈H/\a.off+n<=c.size/\cs=c.extract a.off (a.off+n))
def App(P:Program)(elem size bytes:Nat)(zero:zV)(H:Hp)(s x:zV)(k:zV->Hp->Prop):Prop:=
 ∃base n cap xb m xc olds news,s=.slice base n cap/\x=.slice xb m xc/\Cells H base (n*size) olds/\Cells H xb (m*size) news/\
  news.size=m*size/\olds.size=n*size/\(∀v∈news.toList,v.oneCell'=true)/\
  (n+m<=cap->match base with
   |none=>k (.slice none (n+m) cap) H
   |some a=>∃c T H',a.spot=none/\a.off+n*size+m*size<=c.size/\bW a.block (.cells c T zZ) (.cells (over c (a.off+n*size) news.toList) T zZ) H H'/\k (.slice (some a) (n+m) cap) H')/\
  (cap<n+m->(n+m)*bytes<=140737488355328/\(n+m:Nat)<=9223372036854775807/\∀c4,n+m<=c4->
   vK H (.cells (olds++news++Builtin.zeroCells zero.cells (c4-(n+m))) elem zZ) λb H'=>∃dP,aN H' dP/\k (.slice (some ⟨b,0,none⟩) (n+m) c4) dP)
def dG(elem size bytes:Nat)(zero:zV)(H:Hp)(l c:zV)(k:zV->Hp->Prop):Prop:=
 ∃kl kc ln cn,l=.int kl (ln:Nat)/\c=.int kc (cn:Nat)/\ln<=cn/\(cn:Int)<=9223372036854775807/\cn*bytes<=281474976710656/\
  vK H (.cells (madeCells zero.cells (cn*size)) elem zZ) λb H'=>k (.slice (some ⟨b,0,none⟩) ln cn) H'
def oT(H:Hp)(k:zV->Hp->Prop):Prop:=vK H (.map #[] 0) λb H'=>k (.map (some b)) H'
def vL(H:Hp)(m:zV)(es:Array MapEntry):Prop:=(m=.map none/\es=#[])\/∃b clock,m=.map (some b)/\(b,Obj.map es clock)∈H
def lR(kd:TypeDesc)(zero:zV)(ok:Bool)(H:Hp)(m key:zV)(k:zV->Prop):Prop:=
 ∃es r,vL H m es/\Instr.findNow kd key es.toList 0=some r/\
  k (match r with
   |some (_,v)=>cond ok (.tuple #[v,.bool true]) v
   |none=>cond ok (.tuple #[zero,.bool false]) zero)
def jc(kd:TypeDesc)(H:Hp)(m key val:zV)(k:Hp->Prop):Prop:=
 ∃b es clock r,m=.map (some b)/\Instr.findNow kd key es.toList 0=some r/\
  match r with
  |some (i,_)=>(∀e,es[i]? =some e->Instr.sameBits 10000 e.key key=true)/\i<es.size/\∃H',bW b (.map es clock) (.map (es.modify i λe=>{e with key,val}) clock) H H'/\k H'
  |none=>∃H',bW b (.map es clock) (.map (es.push {key,val,born:=clock}) (clock+1)) H H'/\k H'
def sR(kd:TypeDesc)(H:Hp)(m key:zV)(k:Hp->Prop):Prop:=
 (m=.map none/\k H)\/∃b es clock r,m=.map (some b)/\Instr.findNow kd key es.toList 0=some r/\
  match r with
  |some (i,_)=>∃H',bW b (.map es clock) (.map (es.eraseIdxIfInBounds i) clock) H H'/\k H'
  |none=>(b,Obj.map es clock)∈H/\k H
def bA(P:Program)(f:FuncId):Bool:=
 match P.funcs[f]? with
 |none=>false
 |some fn=> !(fn.name== "runtime.NumGoroutine") &&fn.body.isSome
def aa(P:Program)(g:Gh)(f:FuncId)(args:Array zV)(H:Hp)(K:zV->Hp->Prop)(KP:List PanicEntry->Hp->Prop):Prop:=
 aX P g f args H (IL K KP)
def cr(P:Program)(g:Gh)(fv:zV)(args:Array zV)(H:Hp)(K:zV->Hp->Prop)(KP:List PanicEntry->Hp->Prop):Prop:=
 ∃f first captured,fv=.func (.func f) first captured/\bA P f=true/\aa P g f (first++args++captured) H K KP
def vN(P:Program)(kt:TypeId)(x y:zV)(b:Bool):Prop:=∀w,(Op.equal kt x y).run P w=.ok b w
def jf(P:Program)(kt:TypeId)(x:zV):Prop:=∀e w,(Instr.checkKey e 10000 kt x).run P w=.ok () w
def gk(P:Program)(kt:TypeId)(key:zV):List MapEntry->Nat->Option (Nat×zV)->Prop
 | [],_,r=>r=none
 |e::es,i,r=>∃b,vN P kt key e.key b/\(b=true->r=some (i,e.val))/\(b=false->gk P kt key es (i+1) r)
def gj(P:Program)(kt:TypeId)(zero:zV)(ok:Bool)(H:Hp)(m key:zV)(k:zV->Prop):Prop:=
 ∃es r,vL H m es/\jf P kt key/\gk P kt key es.toList 0 r/\
  k (match r with
   |some (_,v)=>cond ok (.tuple #[v,.bool true]) v
   |none=>cond ok (.tuple #[zero,.bool false]) zero)
def fY(P:Program)(kt:TypeId)(H:Hp)(m key val:zV)(k:Hp->Prop):Prop:=
 ∃b es clock r,m=.map (some b)/\jf P kt key/\gk P kt key es.toList 0 r/\
  match r with
  |some (i,_)=>(∀e,es[i]? =some e->Instr.sameBits 10000 e.key key=true)/\i<es.size/\∃H',bW b (.map es clock) (.map (es.modify i λe=>{e with key,val}) clock) H H'/\k H'
  |none=>∃H',bW b (.map es clock) (.map (es.push {key,val,born:=clock}) (clock+1)) H H'/\k H'
def jR(P:Program)(kt:TypeId)(H:Hp)(m key:zV)(k:Hp->Prop):Prop:=
 jf P kt key/\((m=.map none/\k H)\/∃b es clock r,m=.map (some b)/\gk P kt key es.toList 0 r/\
  match r with
  |some (i,_)=>∃H',bW b (.map es clock) (.map (es.eraseIdxIfInBounds i) clock) H H'/\k H'
  |none=>(b,Obj.map es clock)∈H/\k H)
def JB(H:Hp)(x:zV)(k:zV->Hp->Prop):Prop:=
 (x=.map none/\vK H (.mapIter none 0 #[] 0) λb H'=>k (.pointer (some ⟨b,0,none⟩)) H')\/
 ∃m es clock,x=.map (some m)/\(m,Obj.map es clock)∈H/\vK H (.mapIter (some m) clock #[] clock) λb H'=>k (.pointer (some ⟨b,0,none⟩)) H'
def IF(H:Hp)(it:zV)(k:zV->Hp->Prop):Prop:=
 ∃b mo since seen last,it=.pointer (some ⟨b,0,none⟩)/\(b,Obj.mapIter mo since seen last)∈H/\
  match mo with
  |none=>k (.tuple #[.bool false]) H
  |some m=>∃es clock,(m,Obj.map es clock)∈H/\(∀e∈es.toList,e.born<since/\e.born<last)/\
   (∀e∈es.toList,e.born∉seen->∃H',bW b (.mapIter (some m) since seen last) (.mapIter (some m) since (seen.push e.born) clock) H H'/\k (.tuple #[.bool true,e.key,e.val]) H')/\
   ((∀e∈es.toList,e.born∈seen)->k (.tuple #[.bool false]) H)
def F4(H:Hp)(it:zV)(k:zV->Prop):Prop:=
 ∃b m since seen stamp clock es e,it=.pointer (some ⟨b,0,none⟩)/\(b,Obj.mapIter (some m) since seen clock)∈H/\seen.back?=some stamp/\(m,Obj.map es clock)∈H/\es.find? (·.born==stamp)=some e/\k (.tuple #[e.key,e.val])
def L0(x y:zV)(k:zV->Prop):Prop:=∃kd a b,x=.int kd a/\y=.int kd b/\k (.int kd (if b>a then b else a))
def xE(x y:zV)(k:zV->Prop):Prop:=∃kd a b,x=.int kd a/\y=.int kd b/\k (.int kd (if b<a then b else a))
def dD(H:Hp)(x:zV)(k:zV->Prop):Prop:=
 ∃base n c,∃bs:List UInt8,x=.slice base n c/\Cells H base n ((bs.map λb=>Value.int .u8 b.toNat).toArray)/\bs.length=n/\k (.string ⟨bs.toArray⟩)
def aY(x i:zV)(k:zV->Prop):Prop:=∃s kd j b,x=.string s/\i=.int kd j/\0<=j/\s[j.toNat]? =some b/\k (.int .u8 b.toNat)
def au(x:zV)(k:zV->Prop):Prop:=∃s,x=.string s/\k (.int .i64 s.size)
def plainKey:TypeDesc->Bool
 | .int _| .string| .bool=>true
 |_=>false
def bJ:TypeDesc->Bool
 | .struct _| .array _ _=>true
 |_=>false
end Go.Sx
namespace Go.Sx
open Go
section
variable {P:Program} {g:Gh} {H:Hp} {K:zV->Hp->Prop} {KP:List PanicEntry->Hp->Prop}
theorem cH{t:TypeId}{i:TypeInfo}{z:zV}(hi:P.info? t=some i)(hz:i.zero=some z)(w:World):(zeroValue t).run P w=.ok z w:=by
 simp[zeroValue,typeInfo,hi,hz]
theorem gV{t:TypeId}{d:TypeDesc}(hd:P.underlying t=some d)(w:World):(isAgg t).run P w=.ok (bJ d) w:=by
 simp only[isAgg,Sem.run_bind,run_underlying hd,Result.andThen_ok];cases d<;>rfl
theorem run_sizeOf{t:TypeId}{i:TypeInfo}(hi:P.info? t=some i)(w:World):(sizeOf t).run P w=.ok i.size w:=by
 simp[sizeOf,typeInfo,hi]
theorem Ld.run{p:zV}{k:zV->Prop}(h:Ld H p k){w:World}(hw:Own g H w){t:TypeId}{d:TypeDesc}(hd:P.underlying t=some d)(ha:bJ d=false):
  ∃v,(Instr.loadAt t p).run P w=.ok v w/\k v:=by
 obtain⟨b,off,c,T,fz,v,rfl,hm,hc,hk⟩:=h;refine⟨v,?_,hk⟩;have:=hw.cell hm off;rw[hc]at this;simp only[Instr.loadAt,Instr.sureAddr,loadVar,Sem.run_bind,Sem.run_pure,Result.andThen_ok,gV hd,ha,Sem.run_ite,xas,xaD,run_load,this]
theorem aA.run{n:Nat}{p:zV}{k:zV->Prop}(h:aA n H p k){w:World}(hw:Own g H w){t:TypeId}{d:TypeDesc}(hd:P.underlying t=some d)(ha:bJ d=true)
 {i:TypeInfo}(hi:P.info? t=some i)(hn:i.size=n):
  ∃v,(Instr.loadAt t p).run P w=.ok v w/\k v:=by
 obtain⟨b,off,c,T,fz,rfl,hm,hs,hk⟩:=h;refine⟨_,?_,hk⟩;simp only[Instr.loadAt,Instr.sureAddr,loadVar,Sem.run_bind,Sem.run_pure,Result.andThen_ok,gV hd,ha,Sem.run_ite,xaS,run_sizeOf hi,hn,eY hw hm off n hs]
theorem St.run{n:Nat}{p x:zV}{k:Hp->Prop}(h:St n H p x k){w:World}(hw:Own g H w){t:TypeId}{i:TypeInfo}(hi:P.info? t=some i)(hn:i.size=n):
  ∃w' H',(Instr.storeAt t p x).run P w=.ok () w'/\Own g H' w'/\k H':=by
 obtain⟨b,off,c,T,H',rfl,hx,hs,hv,hu,hk⟩:=h;obtain⟨w',hr,ho⟩:=cZ (P:=P) off x.cells.toList 0 c H H' w hw (by simpa using hu) hv zP;refine⟨w',H',?_,ho,hk⟩;simp only[Instr.storeAt,Instr.sureAddr,storeVar,Sem.run_bind,Sem.run_pure,Result.andThen_ok,run_sizeOf hi,hn,hx,ne_eq,not_true,xaD,hr]
theorem Af{op:BinOp}{k:IntKind}{a b:Int}{v:zV}{t:TypeId}(h:g8 op k a b=some v)(w:World)(hs:op≠.shl/\op≠.shr):
  (binOp op t (.int k a) (.int k b)).run P w=.ok v w:=by
 cases op<;>simp[g8]at h hs<;>try subst h
 case quo=> 
  obtain⟨h0,rfl⟩:=h;simp[binOp,Op.intDiv,h0]
 case rem=>
  obtain⟨h0,rfl⟩:=h;simp[binOp,Op.intDiv,h0]
 all_goals first
  |simp[binOp,Op.intArith];done
  |simp[binOp,Op.intCmp];done
  |(simp only[binOp_and,binOp_or,binOp_xor,binOp_andNot,intBits_and,intBits_or,intBits_xor,intBits_andNot];rfl)
theorem dV{t:TypeId}{x y:zV}{r:Result Bool}{w:World}(h:∀d,(Op.equalIn (d+1) t x y).run P w=r):(Op.equal t x y).run P w=r:=h 9999
theorem run_eql_bool{t:TypeId}(hd:P.underlying t=some .bool)(a b:Bool)(w:World):(Op.equal t (.bool a) (.bool b)).run P w=.ok (a==b) w:=
 dV λd=>by simp[Op.equalIn,run_underlying hd]
theorem qo{t e:TypeId}(hd:P.underlying t=some (.pointer e))(a b:Option Addr)(hab:a.isNone\/b.isNone)(w:World):(Op.equal t (.pointer a) (.pointer b)).run P w=.ok (a.isNone&&b.isNone) w:=
 dV λd=>by cases a<;>cases b<;>simp at hab<;>simp[Op.equalIn,run_underlying hd]
theorem nA{t e:TypeId}(hd:P.underlying t=some (.slice e))(a b:Option Addr)(n c n' c':Nat)(hab:a.isNone\/b.isNone)(w:World):(Op.equal t (.slice a n c) (.slice b n' c')).run P w=.ok (a.isNone&&b.isNone) w:=
 dV λd=>by cases a<;>cases b<;>simp at hab<;>simp[Op.equalIn,run_underlying hd]
theorem qp{t e f:TypeId}(hd:P.underlying t=some (.map e f))(a b:Option Nat)(hab:a.isNone\/b.isNone)(w:World):(Op.equal t (.map a) (.map b)).run P w=.ok (a.isNone&&b.isNone) w:=
 dV λd=>by cases a<;>cases b<;>simp at hab<;>simp[Op.equalIn,run_underlying hd]
theorem By{kd:BK}{op:BinOp}{x y v:zV}{t:TypeId}{d:TypeDesc}(hd:P.underlying t=some d)(hk:pU d=kd)(h:eL kd op x y=some v)(w:World):
  (binOp op t x y).run P w=.ok v w:=by
 cases x<;>simp only[eL]at h<;>try (simp at h;done)
 case int k a=>
  cases y<;>simp only at h<;>try (simp at h;done)
  rename_i k' b;by_cases hs:op=.shl
  ·subst hs;simp only at h;split at h
   ·simp at h
   simp only[xao]at h;subst h;rename_i hb;simp[binOp,Op.shift,hb]
  by_cases hs':op=.shr
  ·subst hs';simp only at h;split at h
   ·simp at h
   simp only[xao]at h;subst h;rename_i hb;simp[binOp,Op.shift,hb]
  have h2:(if k=k' then g8 op k a b else none)=some v:=by
   cases op<;>first|exact h|exact absurd rfl hs|exact absurd rfl hs'
  split at h2
  ·rename_i e;subst e;exact Af h2 w ⟨hs,hs'⟩
  simp at h2
 case bool a=>
  split at h<;>simp only[xao,reduceCtorEq]at h;all_goals
   subst h;have:d=.bool:=by cases d<;>simp_all[pU]
   subst this;simp[binOp,run_eql_bool hd]
 case string a=>
  split at h
  ·simp only[xao]at h;subst h;first|rfl|(simp only[binOp,Op.stringOp];rfl)
  ·simp only[xao]at h;subst h;first|rfl|(simp only[binOp,Op.stringOp];rfl)
  ·split at h<;>simp only[xao,reduceCtorEq]at h;subst h;rename_i b hb;have:¬(((a.size+b.size:Nat):Int)>IntKind.i64.max):=by
    have:IntKind.i64.max=9223372036854775807:=rfl;omega
   simp only[binOp,Op.stringOp,xac this];rfl
  simp at h
 case pointer a=>
  split at h<;>try (simp at h;done)
  all_goals
   have:∃e,d=.pointer e:=by cases d<;>simp_all[pU]
   obtain⟨e,rfl⟩:=this;split at h<;>simp only[xao,reduceCtorEq]at h;subst h;rename_i bb hab;simp[binOp,qo hd _ _ hab]
 case slice a n c=>
  split at h<;>try (simp at h;done)
  all_goals
   have:∃e,d=.slice e:=by cases d<;>simp_all[pU]
   obtain⟨e,rfl⟩:=this;split at h<;>simp only[xao,reduceCtorEq]at h;subst h;rename_i bb _ _ hab;simp[binOp,nA hd _ _ _ _ _ _ hab]
 case map a=>
  split at h<;>try (simp at h;done)
  all_goals
   have:∃e f,d=.map e f:=by cases d<;>simp_all[pU]
   obtain⟨e,f,rfl⟩:=this;split at h<;>simp only[xao,reduceCtorEq]at h;subst h;rename_i bb hab;simp[binOp,qp hd _ _ hab]
theorem sI{kd:BK}{op:BinOp}{x y v:zV}{t:TypeId}{ox oy:Operand}(h:eL kd op x y=some v):eqGuard op t ox oy x y=pure ():=by
 cases x<;>simp[eL]at h<;>cases op<;>rfl
theorem ae.run{kd:BK}{op:BinOp}{x y:zV}{k:zV->Prop}(h:ae kd op x y k)(w:World){t:TypeId}{d:TypeDesc}{ox oy:Operand}(hd:P.underlying t=some d)(hk:pU d=kd):
  ∃v,(do eqGuard op t ox oy x y;binOp op t x y:Sem zV).run P w=.ok v w/\k v:=by
 obtain⟨v,hv,hkv⟩:=h;refine⟨v,?_,hkv⟩;rw[Sem.run_bind,sI hv];simp only[Sem.run_pure,Result.andThen_ok];exact By hd hk hv w
theorem Un.run{op:UnOp}{x:zV}{k:zV->Prop}(h:Un op x k)(w:World):∃v,(Op.unary op x).run P w=.ok v w/\k v:=by
 obtain⟨v,hv,hk⟩:=h;refine⟨v,?_,hk⟩;cases op<;>cases x<;>simp[Mq]at hv<;>subst hv;all_goals first|(simp[Op.unary,Op.intArith];done)|rfl
theorem aM.run{kd:IntKind}{x:zV}{k:zV->Prop}(h:aM kd x k)(w:World){src dst:TypeId}{ds dd:TypeDesc}(hs:P.underlying src=some ds)(hd:P.underlying dst=some dd)(hk:dd=.int kd):
  ∃v,(convert src dst x).run P w=.ok v w/\k v:=by
 obtain⟨j,n,rfl,hkv⟩:=h;subst hk;refine⟨_,?_,hkv⟩;simp only[convert,Sem.run_bind,run_underlying hs,run_underlying hd,Result.andThen_ok];cases ds<;>rfl
theorem ah.run{off:Nat}{x:zV}{k:zV->Prop}(h:ah off x k)(w:World){s:TypeId}{fs:Array Field}{f:Nat}{fl:Field}{i:TypeInfo}(hs:P.underlying s=some (.struct fs))(hf:fs[f]? =some fl)
 (hi:P.info? fl.type=some i)(h0:i.size≠0)(ho:fl.offset=off):∃v,(Instr.fieldAt s x f).run P w=.ok v w/\k v:=by
 obtain⟨b,o,rfl,hk⟩:=h;refine⟨_,?_,hk⟩;subst ho;simp[Instr.fieldAt,run_underlying hs,hf,Instr.sureAddr,fieldPlace,run_sizeOf hi,h0,Addr.add_lit]
theorem BY.run{off:Nat}{x:zV}{k:zV->Prop}(h:BY off x k)(w:World){s:TypeId}{fs:Array Field}{f:Nat}{fl:Field}{d:TypeDesc}(hs:P.underlying s=some (.struct fs))(hf:fs[f]? =some fl)
 (hd:P.underlying fl.type=some d)(ha:bJ d=false)(ho:fl.offset=off):∃v,(Instr.field s x f).run P w=.ok v w/\k v:=by
 obtain⟨cs,v,rfl,hc,hk⟩:=h;refine⟨v,?_,hk⟩;subst ho;simp[Instr.field,run_underlying hs,hf,asAgg,part,gV hd,ha,hc]
theorem DP.run{off n:Nat}{x:zV}{k:zV->Prop}(h:DP off n x k)(w:World){s:TypeId}{fs:Array Field}{f:Nat}{fl:Field}{d:TypeDesc}{i:TypeInfo}(hs:P.underlying s=some (.struct fs))(hf:fs[f]? =some fl)
 (hd:P.underlying fl.type=some d)(ha:bJ d=true)(hi:P.info? fl.type=some i)(hn:i.size=n)(ho:fl.offset=off):∃v,(Instr.field s x f).run P w=.ok v w/\k v:=by
 obtain⟨cs,rfl,hk⟩:=h;refine⟨_,?_,hk⟩;subst ho;subst hn;simp[Instr.field,run_underlying hs,hf,asAgg,part,gV hd,ha,run_sizeOf hi]
theorem ai.run{size:Nat}{x ix:zV}{k:zV->Prop}(h:ai size x ix k)(w:World){t e:TypeId}{i:TypeInfo}(ht:P.underlying t=some (.slice e))(hi:P.info? e=some i)(hn:i.size=size):
  ∃v,(Instr.indexAt t x ix).run P w=.ok v w/\k v:=by
 obtain⟨b,o,n,c,kd,j,rfl,rfl,h0,h1,hk⟩:=h;refine⟨_,?_,hk⟩;subst hn;simp[Instr.indexAt,run_underlying ht,asIntOf,h0,h1,run_sizeOf hi,Addr.add_lit]
theorem di.run{len size:Nat}{x ix:zV}{k:zV->Prop}(h:di len size x ix k)(w:World){t e:TypeId}{i:TypeInfo}(ht:P.underlying t=some (.array len e))(hi:P.info? e=some i)(hn:i.size=size):
  ∃v,(Instr.indexAt t x ix).run P w=.ok v w/\k v:=by
 obtain⟨b,o,kd,j,rfl,rfl,h0,h1,hk⟩:=h;refine⟨_,?_,hk⟩;subst hn;simp[Instr.indexAt,run_underlying ht,asIntOf,h0,h1,run_sizeOf hi,Addr.add_lit,Instr.sureAddr]
theorem bT.run{size:Nat}{x:zV}{lo hi:Option zV}{k:zV->Prop}(h:bT size x lo hi k)(w:World){t e:TypeId}{i:TypeInfo}(ht:P.underlying t=some (.slice e))(hi':P.info? e=some i)(hn:i.size=size):
  ∃v,(Instr.sliceAt t x lo hi none).run P w=.ok v w/\k v:=by
 obtain⟨a,n,c,l,hh,rfl,hl,jV,h0,h1,h2,hk⟩:=h;refine⟨_,?_,hk⟩;subst hn;have bl:∀(kk:IntKind) (z:Int) (y:Nat) (cd:BoundsCode),0<=z->z<=y->(Instr.sliceBound (.int kk z) y cd).run P w=.ok z.toNat w:=by
  intro kk z y cd a1 a2;simp[Instr.sliceBound,asIntOf,a1,a2]
 have fH:∀(m l:Nat),(if m=l then a else a.map (·.add (l*i.size)))=(if m=l then a else a.map λx=>x.add (l*i.size)):=λ_ _=>rfl;have e1:l<=((hh.toNat:Nat):Int):=by omega
 cases lo with
 |none=>
  simp only[Cz,xao]at hl;subst hl;cases hi with
  |none=>
   simp only[wR,xao]at jV;subst jV;simp[Instr.sliceAt,run_underlying ht,Instr.slice,Instr.sliceBounds,run_sizeOf hi']
  |some v=>
   cases v<;>simp only[wR,reduceCtorEq,xao]at jV;subst jV;simp[Instr.sliceAt,run_underlying ht,Instr.slice,Instr.sliceBounds,run_sizeOf hi',bl _ _ c .sliceAcap zO h2]
 |some vl=>
  cases vl<;>simp only[Cz,reduceCtorEq,xao]at hl;subst hl;cases hi with
  |none=>
   simp only[wR,xao]at jV;subst jV;have:=bl ‹_› _ n .sliceB h0 h1;simp[Instr.sliceAt,run_underlying ht,Instr.slice,Instr.sliceBounds,run_sizeOf hi',this]
  |some v=>
   cases v<;>simp only[wR,reduceCtorEq,xao]at jV;subst jV;rename_i k1 n1 k2 n2;have b1:=bl k2 n2 c .sliceAcap zO h2;have b2:=bl k1 n1 n2.toNat .sliceB h0 zO;simp[Instr.sliceAt,run_underlying ht,Instr.slice,Instr.sliceBounds,run_sizeOf hi',b1,b2]
theorem Ext.run{i:Nat}{x:zV}{k:zV->Prop}(h:Ext i x k)(w:World):∃v,(Instr.extract x i).run P w=.ok v w/\k v:=by
 obtain⟨vs,v,rfl,hv,hk⟩:=h;exact⟨v,by simp[Instr.extract,hv],hk⟩
theorem bp.run{x:zV}{k:zV->Prop}(h:bp x k)(w:World){t e ty:TypeId}(ht:P.underlying t=some (.slice e)):∃v,(Builtin.len_ #[t] ty #[x]).run P w=.ok v w/\k v:=by
 obtain⟨a,n,c,rfl,hk⟩:=h;exact⟨_,by simp[Builtin.len_,run_underlying ht,goInt],hk⟩
theorem aK{w:World}(hw:Own g H w){b:Nat}{es:Array MapEntry}{clock:Nat}(hm:(b,Obj.map es clock)∈H):(getObj b).run P w=.ok (.map es clock) w:=by
 have:=hw.has _ hm;simp only at this;simp[getObj,Sem.run,this]
theorem xF.run{x:zV}{k:zV->Prop}(h:xF H x k){w:World}(hw:Own g H w){t e e' ty:TypeId}(ht:P.underlying t=some (.map e e')):∃v,(Builtin.len_ #[t] ty #[x]).run P w=.ok v w/\k v:=by
 obtain⟨m,rfl,⟨rfl,hk⟩|⟨b,es,clock,rfl,hm,hk⟩⟩:=h
 ·exact⟨_,by simp[Builtin.len_,run_underlying ht,goInt],hk⟩
 exact⟨_,by simp[Builtin.len_,run_underlying ht,goInt,aK hw hm],hk⟩
end
end Go.Sx
namespace Go.Sx
open Go
section
variable {P:Program} {g:Gh} {H:Hp} {K:zV->Hp->Prop} {KP:List PanicEntry->Hp->Prop}
theorem Cells.run{w:World}(hw:Own g H w){base:Option Addr}{size n cap:Nat}{cs:Array zV}(h:Cells H base (n*size) cs):
  (Builtin.firstCells size n (.slice base n cap)).run P w=.ok cs w:=by
 cases base with
 |none=>simp only[Cells]at h;subst h;simp[Builtin.firstCells]
 |some a=>
  rcases h with⟨hn,rfl⟩|⟨h0,c,T,fz,hm,hs,rfl⟩
  ·simp only[Builtin.firstCells,hn];rfl
  obtain⟨b,o,sp⟩:=a;simp only at h0 hm hs;subst h0;simp only[Builtin.firstCells,eY hw hm _ _ hs]
theorem App.run{elem size bytes:Nat}{zero:zV}{s x:zV}{k:zV->Hp->Prop}(h:App P elem size bytes zero H s x k){w:World}(hw:Own g H w){t t' ty:TypeId}{i:TypeInfo}
 (ht:P.underlying t=some (.slice elem))(ht':∃e,P.underlying t'=some (.slice e))(hi:P.info? elem=some i)(hz:i.zero=some zero)(hn:i.size=size)(hb:i.bytes=bytes):
  ∃v w' H',(Builtin.append_ #[t,t'] ty #[s,x]).run P w=.ok v w'/\Own g H' w'/\k v H':=by
 obtain⟨base,n,cap,xb,m,xc,olds,news,rfl,rfl,OH,MI,Qj,Qi,hone,hfit,hgrow⟩:=h;obtain⟨e',ht'⟩:=ht';subst hn;subst hb;by_cases hc:n+m<=cap
 ·have hk:=hfit hc;have hnew:=Cells.run (P:=P) (cap:=xc) hw MI;cases base with
  |none=>
   refine⟨_,w,H,?_,hw,hk⟩;simp[Builtin.append_,run_underlying ht,run_underlying ht',run_sizeOf hi,Builtin.lenOf,hc,hnew]
  |some a=>
   obtain⟨c,T,H',h0,hs,hu,hk⟩:=hk;obtain⟨b,o,sp⟩:=a;simp only at h0 hu hs;subst h0;obtain⟨w',hr,ho⟩:=cZ (P:=P) (o+n*i.size) news.toList 0 c H H' w hw (by simpa using hu) hone zP;refine⟨_,w',H',?_,ho,hk⟩;simp[Builtin.append_,run_underlying ht,run_underlying ht',run_sizeOf hi,Builtin.lenOf,hc,hnew,Addr.add_lit,hr]
 obtain⟨KX,h63,hk⟩:=hgrow zO;have kg:=hw.drew;have hnew:=Cells.run (P:=P) (cap:=xc) kg MI;have hold:=Cells.run (P:=P) (cap:=cap) kg OH;have Qn:Builtin.nextslicecap (n+m) cap*i.bytes<=281474976710656:=growslice_fits zO KX;have LH:¬(281474976710656<Builtin.nextslicecap (n+m) cap*i.bytes):=by omega
 have LF:¬(9223372036854775807<((n:Int)+(m:Int))):=by omega
 obtain⟨dP,hent,hkk⟩:=hk (grownCap w (n+m) cap elem) (by simp only[grownCap,Question.cut];omega) _ kg.fresh;refine⟨_,_,_,?_,hent _ _ (kg.alloc _),hkk⟩;simp[Builtin.append_,run_underlying ht,run_underlying ht',sizeOf,typeInfo,zeroValue,hi,hz,Builtin.lenOf,hc,LF,LH,Question.forced,hnew,hold,newRow,grownCap]
theorem dG.run{elem size bytes:Nat}{zero:zV}{l c:zV}{k:zV->Hp->Prop}(h:dG elem size bytes zero H l c k){w:World}(hw:Own g H w){t:TypeId}{i:TypeInfo}
 (ht:P.underlying t=some (.slice elem))(hi:P.info? elem=some i)(hz:i.zero=some zero)(hn:i.size=size)(hb:i.bytes=bytes):
  ∃v w' H',(Instr.makeSlice t l c).run P w=.ok v w'/\Own g H' w'/\k v H':=by
 obtain⟨kl,kc,ln,cn,rfl,rfl,hlc,mI,hby,hk⟩:=h;subst hn;subst hb;refine⟨_,_,_,?_,hw.alloc _,hk _ hw.fresh⟩;have e1:IntKind.i64.wrap (ln:Int)=ln:=IntWalk.i64_in _ zO;have e2:IntKind.i64.wrap (cn:Int)=cn:=IntWalk.i64_in _ zO;have e3:¬((i.bytes:Int)*(cn:Int)>281474976710656):=by
  have:((cn*i.bytes:Nat):Int)<=281474976710656:=by omega
  rw[Int.mul_comm];push_cast at this;omega
 have e4:¬((cn:Int)<ln):=by omega
 by_cases h0:cn*i.size=0
 ·simp[Instr.makeSlice,run_underlying ht,asInt,asIntOf,typeInfo,hi,e1,e2,e3,e4,sizeOf,zeroValue,hz,newRow,madeCells,h0,show¬((cn:Int)<0)from by omega,show¬((ln:Int)<0)from by omega];have:Array.range 0=#[]:=rfl;simp[this]
 simp[Instr.makeSlice,run_underlying ht,asInt,asIntOf,typeInfo,hi,e1,e2,e3,e4,sizeOf,zeroValue,hz,newRow,madeCells,h0,show¬((cn:Int)<0)from by omega,show¬((ln:Int)<0)from by omega]
theorem vL.run{m:zV}{es:Array MapEntry}(h:vL H m es){w:World}(hw:Own g H w):
  (m=.map none/\es=#[])\/∃b clock,m=.map (some b)/\(getObj b).run P w=.ok (.map es clock) w:=by
 rcases h with h|⟨b,clock,hm,hb⟩
 ·exact .inl h
 exact .inr ⟨b,clock,hm,aK hw hb⟩
theorem run_checkKey(e:Bool){t:TypeId}{d:TypeDesc}(hd:P.underlying t=some d)(hp:plainKey d=true)(v:zV)(w:World):(Instr.checkKey e 10000 t v).run P w=.ok () w:=by
 have:∀n,(Instr.checkKey e (n+1) t v).run P w=.ok () w:=λn=>by
  simp only[Instr.checkKey,Sem.run_bind,run_underlying hd,Result.andThen_ok];cases d<;>first|(simp[plainKey]at hp;done)|rfl
 exact this 9999
theorem run_findKey{t:TypeId}{d:TypeDesc}(hd:P.underlying t=some d){key:zV}{es:List MapEntry}{r:Option (Nat×zV)}(h:Instr.findNow d key es 0=some r)(w:World):
  (Instr.findKey t key es).run P w=.ok r w:=by
 simp[Instr.findKey,run_underlying hd,h]
theorem lR.run{kd:TypeDesc}{zero:zV}{ok:Bool}{m key:zV}{k:zV->Prop}(h:lR kd zero ok H m key k){w:World}(hw:Own g H w){t kt e:TypeId}{i:TypeInfo}
 (ht:P.underlying t=some (.map kt e))(hk:P.underlying kt=some kd)(hp:plainKey kd=true)(hi:P.info? e=some i)(hz:i.zero=some zero):
  ∃v,(Instr.lookup t m key ok).run P w=.ok v w/\k v:=by
 obtain⟨es,r,hm,hf,hkv⟩:=h;have c6:=λb=>run_checkKey (P:=P) b hk hp key w;have nu:=run_findKey (P:=P) hk hf w;refine⟨_,?_,hkv⟩;rcases hm.run (P:=P) hw with⟨rfl,rfl⟩|⟨b,clock,rfl,hg⟩
 ·cases r with
  |none=>cases ok<;>simp[Instr.lookup,run_underlying ht,c6,nu,cH hi hz]
  |some x=>obtain⟨j,v⟩:=x;cases ok<;>simp[Instr.lookup,run_underlying ht,c6,nu]
 ·cases r with
  |none=>cases ok<;>simp[Instr.lookup,run_underlying ht,c6,nu,cH hi hz,hg]
  |some x=>obtain⟨j,v⟩:=x;cases ok<;>simp[Instr.lookup,run_underlying ht,c6,nu,hg]
theorem bE{w:World}(hw:Own g H w){b:Nat}{es:Array MapEntry}{clock:Nat}(es':Array MapEntry)(clock':Nat){H':Hp}(hu:bW b (.map es clock) (.map es' clock') H H'):
  ∃w',(setObj b (.map es' clock')).run P w=.ok () w'/\Own g H' w':=by
 have hm:=hw.has _ hu.mem;simp only at hm;refine⟨{w with heap:=w.heap.setIfInBounds b (.map es' clock')},by simp[setObj,Sem.run,hm],?_⟩;have hlt:=hw.lt hu.mem;refine hw.bX hu rfl rfl rfl ?_ ?_
 ·simp only at hlt;simp[hlt]
 intro c hc;rw[xbx,xac (λe=>hc (Eq.symm e))]
theorem jc.run{kd:TypeDesc}{m key val:zV}{k:Hp->Prop}(h:jc kd H m key val k){w:World}(hw:Own g H w){t kt e:TypeId}
 (ht:P.underlying t=some (.map kt e))(hk:P.underlying kt=some kd)(hp:plainKey kd=true):
  ∃w' H',(Instr.mapUpdate t m key val).run P w=.ok () w'/\Own g H' w'/\k H':=by
 obtain⟨b,es,clock,r,rfl,hf,hr⟩:=h;have c6:=λb=>run_checkKey (P:=P) b hk hp key w;have nu:=run_findKey (P:=P) hk hf w;cases r with
 |none=>
  obtain⟨H',hu,hkk⟩:=hr;obtain⟨w',hs,ho⟩:=bE (P:=P) hw _ _ hu;refine⟨w',H',?_,ho,hkk⟩;simp[Instr.mapUpdate,run_underlying ht,aK hw hu.mem,c6,nu,hs]
 |some x=>
  obtain⟨j,v⟩:=x;obtain⟨hsame,hj,H',hu,hkk⟩:=hr;obtain⟨w',hs,ho⟩:=bE (P:=P) hw _ _ hu;refine⟨w',H',?_,ho,hkk⟩;have Kj:=hsame es[j] (xbl hj);simp[Instr.mapUpdate,run_underlying ht,aK hw hu.mem,c6,nu,hj,Instr.keyThatStays,Kj,hs]
theorem sR.run{kd:TypeDesc}{m key:zV}{k:Hp->Prop}(h:sR kd H m key k){w:World}(hw:Own g H w){t kt e ty:TypeId}{as:Array TypeId}(has:as[0]? =some t)
 (ht:P.underlying t=some (.map kt e))(hk:P.underlying kt=some kd)(hp:plainKey kd=true):
  ∃w' H',(Builtin.delete_ as ty #[m,key]).run P w=.ok (.tuple #[]) w'/\Own g H' w'/\k H':=by
 have c6:=λb=>run_checkKey (P:=P) b hk hp key w;rcases h with⟨rfl,hkk⟩|⟨b,es,clock,r,rfl,hf,hr⟩
 ·exact⟨w,H,by simp[Builtin.delete_,has,run_underlying ht,c6],hw,hkk⟩
 have nu:=run_findKey (P:=P) hk hf w;cases r with
 |none=>
  obtain⟨hm,hkk⟩:=hr;have hu:∃H',bW b (.map es clock) (.map es clock) H H'/\H'=H:=by
   clear hkk hf nu hw;induction H with
   |nil=>simp at hm
   |cons x R ih=>
    rcases xag.1 hm with e|hm'
    ·subst e;exact⟨_,.head _,rfl⟩
    obtain⟨H',u,rfl⟩:=ih hm';exact⟨_,.tail u,rfl⟩
  obtain⟨H',hu,rfl⟩:=hu;obtain⟨w',hs,ho⟩:=bE (P:=P) hw _ _ hu;exact⟨w',_,by simp[Builtin.delete_,has,run_underlying ht,aK hw hm,c6,nu,hs],ho,hkk⟩
 |some x=>
  obtain⟨j,v⟩:=x;obtain⟨H',hu,hkk⟩:=hr;obtain⟨w',hs,ho⟩:=bE (P:=P) hw _ _ hu;exact⟨w',_,by simp[Builtin.delete_,has,run_underlying ht,aK hw hu.mem,c6,nu,hs],ho,hkk⟩
theorem q7{kd:TypeDesc}(h:bJ kd=true)(key:zV)(es:List MapEntry)(i:Nat):Instr.findNow kd key es i=if es=[]then some none else none:=by
 cases es with
 |nil=>rfl
 |cons e r=>
  simp only[Instr.findNow,reduceCtorEq,xaD];cases kd<;>simp[bJ]at h<;>rfl
theorem gB{kt:TypeId}{key:zV}:∀{es:List MapEntry} {i:Nat} {r:Option (Nat×zV)},gk P kt key es i r->∀w,(Instr.findAsking kt key es i).run P w=.ok r w
 | [],i,r,h,w=>by simp only[gk]at h;subst h;rfl
 |e::es,i,r,h,w=>by
  obtain⟨b,he,h1,h2⟩:=h;simp only[Instr.findAsking,Sem.run_bind,he w,Result.andThen_ok];cases b
  ·simp only[xas,xaD];exact gB (h2 rfl) w
  simp only[xaS,h1 rfl,Sem.run_pure]
theorem fM{t:TypeId}{d:TypeDesc}(hd:P.underlying t=some d)(ha:bJ d=true){key:zV}{es:List MapEntry}{r:Option (Nat×zV)}(h:gk P t key es 0 r)(w:World):
  (Instr.findKey t key es).run P w=.ok r w:=by
 simp only[Instr.findKey,Sem.run_bind,run_underlying hd,Result.andThen_ok,q7 ha];cases es with
 |nil=>simp only[gk]at h;subst h;simp
 |cons e es=>simp only[reduceCtorEq,xaD];exact gB h w
theorem gj.run{zero:zV}{ok:Bool}{m key:zV}{k:zV->Prop}{t kt e:TypeId}{kd:TypeDesc}(h:gj P kt zero ok H m key k){w:World}(hw:Own g H w){i:TypeInfo}
 (ht:P.underlying t=some (.map kt e))(hk:P.underlying kt=some kd)(hp:bJ kd=true)(hi:P.info? e=some i)(hz:i.zero=some zero):
  ∃v,(Instr.lookup t m key ok).run P w=.ok v w/\k v:=by
 obtain⟨es,r,hm,hc,hf,hkv⟩:=h;have c6:=λb=>hc b w;have nu:=fM (P:=P) hk hp hf w;refine⟨_,?_,hkv⟩;rcases hm.run (P:=P) hw with⟨rfl,rfl⟩|⟨b,clock,rfl,hg⟩
 ·cases r with
  |none=>cases ok<;>simp[Instr.lookup,run_underlying ht,c6,nu,cH hi hz]
  |some x=>obtain⟨j,v⟩:=x;cases ok<;>simp[Instr.lookup,run_underlying ht,c6,nu]
 ·cases r with
  |none=>cases ok<;>simp[Instr.lookup,run_underlying ht,c6,nu,cH hi hz,hg]
  |some x=>obtain⟨j,v⟩:=x;cases ok<;>simp[Instr.lookup,run_underlying ht,c6,nu,hg]
theorem fY.run{m key val:zV}{k:Hp->Prop}{t kt e:TypeId}{kd:TypeDesc}(h:fY P kt H m key val k){w:World}(hw:Own g H w)
 (ht:P.underlying t=some (.map kt e))(hk:P.underlying kt=some kd)(hp:bJ kd=true):
  ∃w' H',(Instr.mapUpdate t m key val).run P w=.ok () w'/\Own g H' w'/\k H':=by
 obtain⟨b,es,clock,r,rfl,hc,hf,hr⟩:=h;have c6:=λb=>hc b w;have nu:=fM (P:=P) hk hp hf w;cases r with
 |none=>
  obtain⟨H',hu,hkk⟩:=hr;obtain⟨w',hs,ho⟩:=bE (P:=P) hw _ _ hu;refine⟨w',H',?_,ho,hkk⟩;simp[Instr.mapUpdate,run_underlying ht,aK hw hu.mem,c6,nu,hs]
 |some x=>
  obtain⟨j,v⟩:=x;obtain⟨hsame,hj,H',hu,hkk⟩:=hr;obtain⟨w',hs,ho⟩:=bE (P:=P) hw _ _ hu;refine⟨w',H',?_,ho,hkk⟩;have Kj:=hsame es[j] (xbl hj);simp[Instr.mapUpdate,run_underlying ht,aK hw hu.mem,c6,nu,hj,Instr.keyThatStays,Kj,hs]
theorem bW.same{b:Nat}{o:Obj}{H:Hp}(hm:(b,o)∈H):bW b o o H H:=by
 induction H with
 |nil=>simp at hm
 |cons x R ih=>
  rcases xag.1 hm with e|hm'
  ·subst e;exact .head _
  exact .tail (ih hm')
theorem jR.run{m key:zV}{k:Hp->Prop}{t kt e ty:TypeId}{kd:TypeDesc}{as:Array TypeId}(h:jR P kt H m key k){w:World}(hw:Own g H w)(has:as[0]? =some t)
 (ht:P.underlying t=some (.map kt e))(hk:P.underlying kt=some kd)(hp:bJ kd=true):
  ∃w' H',(Builtin.delete_ as ty #[m,key]).run P w=.ok (.tuple #[]) w'/\Own g H' w'/\k H':=by
 obtain⟨hc,h⟩:=h;have c6:=λb=>hc b w;rcases h with⟨rfl,hkk⟩|⟨b,es,clock,r,rfl,hf,hr⟩
 ·exact⟨w,H,by simp[Builtin.delete_,has,run_underlying ht,c6],hw,hkk⟩
 have nu:=fM (P:=P) hk hp hf w;cases r with
 |none=>
  obtain⟨hm,hkk⟩:=hr;obtain⟨w',hs,ho⟩:=bE (P:=P) hw _ _ (bW.same hm);exact⟨w',_,by simp[Builtin.delete_,has,run_underlying ht,aK hw hm,c6,nu,hs],ho,hkk⟩
 |some x=>
  obtain⟨j,v⟩:=x;obtain⟨H',hu,hkk⟩:=hr;obtain⟨w',hs,ho⟩:=bE (P:=P) hw _ _ hu;exact⟨w',_,by simp[Builtin.delete_,has,run_underlying ht,aK hw hu.mem,c6,nu,hs],ho,hkk⟩
theorem JB.run{x:zV}{k:zV->Hp->Prop}(h:JB H x k){w:World}(hw:Own g H w){t kt e:TypeId}(ht:P.underlying t=some (.map kt e)):
  ∃v w' H',(Instr.range t x).run P w=.ok v w'/\Own g H' w'/\k v H':=by
 rcases h with⟨rfl,hk⟩|⟨m,es,clock,rfl,hm,hk⟩
 ·refine⟨_,_,_,?_,hw.alloc _,hk _ hw.fresh⟩;simp[Instr.range,run_underlying ht]
 refine⟨_,_,_,?_,hw.alloc _,hk _ hw.fresh⟩;simp[Instr.range,run_underlying ht,aK hw hm]
theorem fZ{w:World}(hw:Own g H w){b:Nat}{mo:Option Nat}{since last:Nat}{seen:Array Nat}(hm:(b,Obj.mapIter mo since seen last)∈H):(getObj b).run P w=.ok (.mapIter mo since seen last) w:=by
 have:=hw.has _ hm;simp only at this;simp[getObj,Sem.run,this]
theorem lp{w:World}(hw:Own g H w){b:Nat}{mo JW:Option Nat}{since last since' last':Nat}{seen seen':Array Nat}{H':Hp}(hu:bW b (.mapIter mo since seen last) (.mapIter JW since' seen' last') H H'):
  ∃w',(setObj b (.mapIter JW since' seen' last')).run P w=.ok () w'/\Own g H' w':=by
 have hm:=hw.has _ hu.mem;simp only at hm;refine⟨{w with heap:=w.heap.setIfInBounds b (.mapIter JW since' seen' last')},by simp[setObj,Sem.run,hm],?_⟩;have hlt:=hw.lt hu.mem;refine hw.bX hu rfl rfl rfl ?_ ?_
 ·simp only at hlt;simp[hlt]
 intro c hc;rw[xbx,xac (λe=>hc (Eq.symm e))]
theorem F4.run{it:zV}{k:zV->Prop}(h:F4 H it k){w:World}(hw:Own g H w):∃v,(Instr.entry it).run P w=.ok v w/\k v:=by
 obtain⟨b,m,since,seen,stamp,clock,es,e,rfl,hb,hs,hm,hf,hk⟩:=h;refine⟨_,?_,hk⟩;simp[Instr.entry,fZ (P:=P) hw hb,hs,aK (P:=P) hw hm,hf]
theorem lq(n:Nat)(hn:0<n){w:World}:∃i w',(choose (.mapNext n)).run P w=.ok i w'/\i<n/\(w'=w\/w'=w.drew):=by
 by_cases h:n<=1
 ·exact⟨0,w,by simp[choose,Sem.run,Question.forced,h],hn,.inl rfl⟩
 exact⟨_,_,by simp only[choose,Sem.run,Question.forced,h,xc8,xas,xaD];rfl,xbL _ hn,.inr rfl⟩
theorem IF.run{it:zV}{k:zV->Hp->Prop}(h:IF H it k){w:World}(hw:Own g H w){ty:TypeId}:
  ∃v w' H',(Instr.next it false ty).run P w=.ok v w'/\Own g H' w'/\k v H':=by
 obtain⟨b,mo,since,seen,last,rfl,hb,h⟩:=h;have MF:=fZ (P:=P) hw hb;cases mo with
 |none=>exact⟨_,w,H,by simp[Instr.next,MF],hw,h⟩
 |some m=>
  obtain⟨es,clock,hm,AB,HB,Hy⟩:=h;have Oz:=aK (P:=P) hw hm;have HE:(!seen.isEmpty&& !es.isEmpty&&es.all (λe=>decide (e.born≥last)))=false:=by
   cases he:es.isEmpty
   ·have hne:es≠#[]:=by intro e;rw[e]at he;simp at he
    have:es.all (λe=>decide (e.born≥last))=false:=by
     rw[<-Bool.not_eq_true,Array.all_eq_true];intro aL;have h0:0<es.size:=Array.size_pos_iff.2 hne;have:=aL 0 h0;have h2:=(AB es[0] zI).2;simp only[ge_iff_le,xaH]at this;omega
    rw[this];simp
   simp
  have hold:((es.filter λe=> !seen.contains e.born).filter λe=>decide (e.born<since))=es.filter λe=> !seen.contains e.born:=by
   rw[Array.filter_eq_self];intro e he;have:=(xdv.1 he).1;exact xaN (AB e (by simpa using this)).1
  have hnew:((es.filter λe=> !seen.contains e.born).filter λe=>decide (e.born≥since))=#[]:=by
   rw[Array.filter_eq_empty_iff];intro e he;have:=(xdv.1 he).1;have:=(AB e (by simpa using this)).1;simp only[ge_iff_le,xaH];omega
  generalize hleft:(es.filter λe=> !seen.contains e.born)=left at hold hnew;have hrun:∀(rest:Sem zV),(Instr.next (.pointer (some ⟨b,0,none⟩)) false ty).run P w=((choose (.mapNext (((if left.isEmpty then#[none]else#[])++left.map some).size))).run P w).andThen λi w=>(Sem.run P (match((if left.isEmpty then#[none]else#[])++left.map some)[i]? with
    |some (some e)=>do setObj b (.mapIter (some m) since (seen.push e.born) clock);pure (.tuple #[.bool true,e.key,e.val])
    |some none=>pure (.tuple #[.bool false])
    |none=>stuck "Next: no such candidate" :Sem zV) w):=by
   intro _;simp only[Instr.next,Sem.run_bind,MF,Result.andThen_ok,Oz,HE,xas,xaD,hleft,hold,hnew,xcI,Sem.run_pure];rfl
  rw[hrun (pure undef)];by_cases Fx:left=#[]
  ·subst Fx;simp only[Array.isEmpty_empty,xaS,xdA,xcI];refine⟨_,w,H,?_,hw,Hy λe he=>?_⟩
   ·simp[choose,Sem.run,Question.forced]
   have:=Array.filter_eq_empty_iff.1 hleft e (by simpa using he);simpa using this
  have hne:left.isEmpty=false:=by simpa using Fx
  have hpos:0<left.size:=Array.size_pos_iff.2 Fx;simp only[hne,xas,xaD,xcg,Array.size_map];obtain⟨i,w1,hc,hi,kg⟩:=lq (P:=P) (w:=w) left.size hpos;rw[hc];simp only[Result.andThen_ok];have dY:(left.map some)[i]? =some (some left[i]):=by simp[hi]
  simp only[dY];have hmem:left[i]∈es.filter λe=> !seen.contains e.born:=by rw[hleft];exact Array.getElem_mem hi
  obtain⟨Jd,KT⟩:=xdv.1 hmem;obtain⟨H',hu,hk⟩:=HB left[i] (by simpa using Jd) (by simpa using KT);have Ek:Own g H w1:=by rcases kg with rfl|rfl;exact hw;exact hw.drew
  obtain⟨w2,hs,Of⟩:=lp (P:=P) Ek hu;exact⟨_,w2,H',by simp[hs],Of,hk⟩
end
end Go.Sx
namespace Go.Sx
open Go
section
variable {P:Program} {g:Gh} {H:Hp} {K:zV->Hp->Prop} {KP:List PanicEntry->Hp->Prop}
def IJ(x:zV):Option zV:=
 match x with
 | .pointer (some a)=>some (.pointer (some a))
 | .func (.func f) a b=>some (.func (.func f) a b)
 | .iface t v=>some (.iface t v)
 |_=>none
def Nil(x:zV)(k:zV->Prop):Prop:=∃v,IJ x=some v/\k v
def PJ(fn:Fn)(a b:List zV)(k:zV->Prop):Prop:=k (.func fn a.toArray b.toArray)
def Build(P:Program)(t:TypeId)(parts:List (Nat×zV))(k:zV->Prop):Prop:=∃v,(∀w,(Instr.build t parts.toArray).run P w=.ok v w)/\k v
def aG(P:Program)(g:Gh)(o:Oper)(ρ:Operand->zV)(H:Hp)(k:zV->Prop):Prop:=
 ∃v,(∀w,Own g H w->(execOp ρ o).run P w=.ok (.value v) w)/\k v
def u9:Operand->Bool
 | .const _=>true
 |_=>false
def GF(d:TypeDesc)(x y:Operand):BK:=
 match pU d with
 | .ptr=>cond (u9 x||u9 y) .ptr .other
 |k=>k
theorem FU{d:TypeDesc}{x y:Operand}(h:GF d x y=.other->False):pU d=GF d x y:=by
 unfold GF at h⊢;cases hb:pU d<;>simp only[hb]at h⊢;cases hc:(u9 x||u9 y)<;>simp only[hc,xaj,xah]at h⊢;exact(h trivial).elim
def bL(P:Program)(t:TypeId):Option Nat:=match P.info? t with|some i=>some i.size|none=>none
def c8(P:Program)(t:TypeId):Option zV:=match P.info? t with|some i=>i.zero|none=>none
def mT(P:Program)(t:TypeId):Option Nat:=match P.info? t with|some i=>some i.bytes|none=>none
def wm(P:Program)(g:Gh)(o:Oper)(ρ:Operand->zV)(H:Hp)(k:zV->Prop):Prop:=
 match o.op with
 | .move x=>k (ρ x)
 | .assign x=>k (ρ x)
 | .pick c a b=>az (ρ c) (ρ a) (ρ b) k
 | .load t a=>
  match P.underlying t,bL P t with
  |some d,some n=>cond (bJ d) (aA n H (ρ a) k) (Ld H (ρ a) k)
  |_,_=>False
 | .nilCheck x=>Nil (ρ x) k
 | .binOp op t x y _=>
  match P.underlying t with
  |some d=>match GF d x y with
   | .other=>aG P g o ρ H k
   |bk=>ae bk op (ρ x) (ρ y) k
  |none=>False
 | .unOp op _ x=>Un op (ρ x) k
 | .convert s d x=>
  match P.underlying s,P.underlying d with
  |some _,some (.int kd)=>aM kd (ρ x) k
  |some (.slice e),some .string=>match P.underlying e with
   |some (.int .u8)=>dD H (ρ x) k
   |_=>aG P g o ρ H k
  |_,_=>aG P g o ρ H k
 | .index t x i=>
  match P.underlying t with
  |some .string=>aY (ρ x) (ρ i) k
  |_=>aG P g o ρ H k
 | .fieldAddr s x f=>
  match P.underlying s with
  |some (.struct fs)=>match fs[f]? with
   |some fl=>match bL P fl.type with
    |some (_+1)=>ah fl.offset (ρ x) k
    |_=>False
   |none=>False
  |_=>False
 | .field s x f=>
  match P.underlying s with
  |some (.struct fs)=>match fs[f]? with
   |some fl=>match P.underlying fl.type,bL P fl.type with
    |some d,some n=>cond (bJ d) (DP fl.offset n (ρ x) k) (BY fl.offset (ρ x) k)
    |_,_=>False
   |none=>False
  |_=>False
 | .indexAddr t x i=>
  match P.underlying t with
  |some (.slice e)=>match bL P e with
   |some n=>ai n (ρ x) (ρ i) k
   |none=>False
  |some (.array len e)=>match bL P e with
   |some n=>di len n (ρ x) (ρ i) k
   |none=>False
  |_=>False
 | .slice t x lo hi none=>
  match P.underlying t with
  |some (.slice e)=>match bL P e with
   |some n=>bT n (ρ x) (lo.map ρ) (hi.map ρ) k
   |none=>False
  |_=>aG P g o ρ H k
 | .extract t i=>Ext i (ρ t) k
 | .lookup t m key ok=>
  match P.underlying t with
  |some (.map kt e)=>match P.underlying kt,c8 P e with
   |some kd,some z=>cond (plainKey kd) (lR kd z ok H (ρ m) (ρ key) k) (cond (bJ kd) (gj P kt z ok H (ρ m) (ρ key) k) (aG P g o ρ H k))
   |_,_=>False
  |_=>False
 | .makeFunc fn a b=>PJ fn (a.toList.map ρ) (b.toList.map ρ) k
 | .build t parts=>Build P t (parts.toList.map λp=>(p.1,ρ p.2)) k
 | .makeInterface t x=>
  match P.underlying t with
  |some (.interface _)=>False
  |some _=>k (.iface t (ρ x))
  |none=>False
 | .call c=>
  match c.callee with
  | .builtin .len=>
   match c.args.toList,c.argTypes.toList with
   | [x],[t]=>match P.underlying t with
    |some (.slice _)=>bp (ρ x) k
    |some (.map _ _)=>xF H (ρ x) k
    |some .string=>au (ρ x) k
    |_=>aG P g o ρ H k
   |_,_=>False
  | .builtin .max=>match c.args.toList,c.argTypes.toList with
   | [x,y],[t,_]=>match P.underlying t with
    |some (.int _)=>L0 (ρ x) (ρ y) k
    |_=>aG P g o ρ H k
   |_,_=>aG P g o ρ H k
  | .builtin .min=>match c.args.toList,c.argTypes.toList with
   | [x,y],[t,_]=>match P.underlying t with
    |some (.int _)=>xE (ρ x) (ρ y) k
    |_=>aG P g o ρ H k
   |_,_=>aG P g o ρ H k
  | .builtin _=>aG P g o ρ H k
  |_=>False
 |_=>aG P g o ρ H k
theorem mapList{α β:Type}(f:α->β)(a:Array α):(a.toList.map f).toArray=a.map f:=by rw[<-xc0,xbM]
theorem IA{α:Type}{a:Array α}{x:α}(h:a.toList=[x]):a=#[x]:=by cases a;simp_all
theorem rJ{α:Type}{a:Array α}{x y:α}(h:a.toList=[x,y]):a=#[x,y]:=by cases a;simp_all
theorem Ld.fix{p:zV}{k:zV->Prop}(h:Ld H p k):∃v,k v/\Ld H p (· =v):=by
 obtain⟨b,off,c,T,fz,v,h1,h2,h3,hk⟩:=h;exact⟨v,hk,b,off,c,T,fz,v,h1,h2,h3,rfl⟩
theorem aA.fix{n:Nat}{p:zV}{k:zV->Prop}(h:aA n H p k):∃v,k v/\aA n H p (· =v):=by
 obtain⟨b,off,c,T,fz,h1,h2,h3,hk⟩:=h;exact⟨_,hk,b,off,c,T,fz,h1,h2,h3,rfl⟩
theorem lR.fix{kd:TypeDesc}{zero:zV}{ok:Bool}{m key:zV}{k:zV->Prop}(h:lR kd zero ok H m key k):∃v,k v/\lR kd zero ok H m key (· =v):=by
 obtain⟨es,r,h1,h2,hk⟩:=h;exact⟨_,hk,es,r,h1,h2,rfl⟩
theorem xF.fix{x:zV}{k:zV->Prop}(h:xF H x k):∃v,k v/\xF H x (· =v):=by
 obtain⟨m,h1,⟨h2,hk⟩|⟨b,es,clock,h2,h3,hk⟩⟩:=h
 ·exact⟨_,hk,m,h1,.inl ⟨h2,rfl⟩⟩
 exact⟨_,hk,m,h1,.inr ⟨b,es,clock,h2,h3,rfl⟩⟩
theorem gj.fix{kt:TypeId}{zero:zV}{ok:Bool}{m key:zV}{k:zV->Prop}(h:gj P kt zero ok H m key k):∃v,k v/\gj P kt zero ok H m key (· =v):=by
 obtain⟨es,r,h1,h2,h3,hk⟩:=h;exact⟨_,hk,es,r,h1,h2,h3,rfl⟩
theorem sH{F:zV->ByteArray->Sem (ForInStep ByteArray)}(hF:∀(b:UInt8) s,F (.int .u8 b.toNat) s=pure (.yield (s.push b))){l:List UInt8}(s:ByteArray)(w:World):
  (forIn (l.map λb=>Value.int .u8 b.toNat) s F).run P w=.ok (⟨s.data++l.toArray⟩:ByteArray) w:=by
 induction l generalizing s with
 |nil=>simp
 |cons b r ih=>
  simp only[xay,xdB,hF,Sem.run_bind,Sem.run_pure,Result.andThen_ok];rw[ih];congr 1;simp[ByteArray.push]
theorem dD.run{x:zV}{k:zV->Prop}(h:dD H x k){w:World}(hw:Own g H w):∃v,(Conv.bytesToString x).run P w=.ok v w/\k v:=by
 obtain⟨base,n,c,bs,rfl,hc,hn,hk⟩:=h;refine⟨_,?_,hk⟩;cases base with
 |none=>
  simp only[Cells]at hc;have:bs=[]:=by simpa using xb7 Array.size hc
  subst this;rfl
 |some a=>
  have:=Cells.run (P:=P) (size:=1) (cap:=c) hw (by rw[xbW];exact hc);simp only[Builtin.firstCells,xbW]at this;simp only[Conv.bytesToString,Sem.run_bind,this,Result.andThen_ok];rw[List.forIn_toArray,sH (P:=P) (l:=bs) (λb s=>by simp)];have e:ByteArray.empty.data=#[]:=rfl;simp[e]
theorem dD.fix{x:zV}{k:zV->Prop}(h:dD H x k):∃v,k v/\dD H x (· =v):=by
 obtain⟨base,n,c,bs,h1,h2,h3,hk⟩:=h;exact⟨_,hk,base,n,c,bs,h1,h2,h3,rfl⟩
def Reads(P:Program)(g:Gh)(o:Oper)(ρ:Operand->zV)(H:Hp)(k:zV->Prop):Prop:=
 ∃v,k v/\∀w,Own g H w->(execOp ρ o).run P w=.ok (.value v) w
theorem Reads.mk{o:Oper}{ρ:Operand->zV}{k:zV->Prop}{s:Sem zV}(he:execOp ρ o=(do pure (.value (<-s))))(h:∃v,k v/\∀w,Own g H w->s.run P w=.ok v w):Reads P g o ρ H k:=by
 obtain⟨v,hk,hr⟩:=h;refine⟨v,hk,λw hw=>?_⟩;rw[he];simp only[Sem.run_bind,hr w hw,Result.andThen_ok,Sem.run_pure]
theorem aG.reads{o:Oper}{ρ:Operand->zV}{k:zV->Prop}(h:aG P g o ρ H k):Reads P g o ρ H k:=let ⟨v,h1,h2⟩:=h;⟨v,h2,h1⟩
theorem F8{s:Sem zV}{k:zV->Prop}{C:(zV->Prop)->Prop}(KM:∃v,k v/\C (· =v))(hrun:∀(k:zV->Prop),C k->∀w,Own g H w->∃v,s.run P w=.ok v w/\k v):
  ∃v,k v/\∀w,Own g H w->s.run P w=.ok v w:=by
 obtain⟨v,hk,hc⟩:=KM;refine⟨v,hk,λw hw=>?_⟩;obtain⟨u,hr,rfl⟩:=hrun _ hc w hw;exact hr
theorem aD{t:TypeId}{n:Nat}(h:bL P t=some n):∃i,P.info? t=some i/\i.size=n:=by
 unfold bL at h;split at h
 ·rename_i i hi;exact⟨i,hi,by simpa using h⟩
 simp at h
theorem bP{t:TypeId}{z:zV}(h:c8 P t=some z):∃i,P.info? t=some i/\i.zero=some z:=by
 unfold c8 at h;split at h
 ·rename_i i hi;exact⟨i,hi,by simpa using h⟩
 simp at h
theorem fj{o:Oper}{ρ:Operand->zV}{k:zV->Prop}(h:wm P g o ρ H k):Reads P g o ρ H k:=by
 obtain⟨dst,op,type,pos,after,guard⟩:=o;cases op<;>simp only[wm]at h
 case move x=>exact⟨_,h,λw _=>rfl⟩
 case assign x=>exact⟨_,h,λw _=>rfl⟩
 case pick c a b=>
  obtain⟨t,hc,hk⟩:=h;refine⟨_,hk,λw _=>?_⟩;cases t<;>simp[execOp,hc,asBool]
 case load t a=>
  split at h
  ·rename_i d n hd hn;obtain⟨i,hi,hin⟩:=aD hn;refine Reads.mk (s:=Instr.loadAt t (ρ a)) rfl ?_;cases ha:bJ d<;>simp only[ha,xaj,xah]at h
   ·exact F8 h.fix λk hk w hw=>hk.run hw hd ha
   exact F8 h.fix λk hk w hw=>hk.run hw hd ha hi hin
  exact h.elim
 case nilCheck x=>
  obtain⟨v,hv,hk⟩:=h;refine⟨v,hk,λw _=>?_⟩;unfold IJ at hv;simp only[execOp];split at hv<;>simp only[xao,reduceCtorEq]at hv<;>subst hv<;>simp_all
 case binOp op t x y yt=>
  split at h
  ·rename_i d hd;split at h
   ·exact h.reads
   rename_i hbk;refine Reads.mk (s:=do eqGuard op t x y (ρ x) (ρ y);binOp op t (ρ x) (ρ y)) rfl ?_;obtain⟨v,hv,hk⟩:=h;exact⟨v,hk,λw _=>by
    obtain⟨u,hr,rfl⟩:=ae.run (P:=P) (k:=(· =v)) ⟨v,hv,rfl⟩ w (ox:=x) (oy:=y) hd (FU hbk);exact hr⟩
  exact h.elim
 case unOp op t x=>
  obtain⟨v,hv,hk⟩:=h;refine Reads.mk (s:=Op.unary op (ρ x)) rfl ⟨v,hk,λw _=>?_⟩;obtain⟨u,hr,rfl⟩:=Un.run (P:=P) (k:=(· =v)) ⟨v,hv,rfl⟩ w;exact hr
 case convert s d x=>
  split at h
  ·rename_i ds kd hs hd;obtain⟨j,n,hx,hk⟩:=h;refine Reads.mk (s:=Go.convert s d (ρ x)) rfl ⟨_,hk,λw _=>?_⟩;obtain⟨u,hr,rfl⟩:=aM.run (P:=P) (kd:=kd) (k:=(· =_)) ⟨j,n,hx,rfl⟩ w hs hd rfl;exact hr
  ·rename_i e hs hd;split at h
   ·rename_i he;refine Reads.mk (s:=Go.convert s d (ρ x)) rfl ?_;have:∀w,(Go.convert s d (ρ x)).run P w=(Conv.bytesToString (ρ x)).run P w:=λw=>by
     obtain⟨base,n,c,bs,hx,_⟩:=h;simp only[Go.convert,Sem.run_bind,run_underlying hs,run_underlying hd,Result.andThen_ok,hx,run_underlying he]
    simp only[this];exact F8 h.fix λk hk w hw=>hk.run hw
   exact h.reads
  exact h.reads
 case index t x i=>
  split at h
  ·rename_i ht;obtain⟨s,kd,j,b,hx,hi,h0,hb,hk⟩:=h;refine Reads.mk (s:=Instr.index t (ρ x) (ρ i)) rfl ⟨_,hk,λw _=>?_⟩;simp[Instr.index,run_underlying ht,hx,hi,asIntOf,h0,hb]
  exact h.reads
 case fieldAddr s x f=>
  split at h<;>try exact h.elim
  rename_i fs hs;split at h<;>try exact h.elim
  rename_i fl hf;split at h<;>try exact h.elim
  rename_i m hm;obtain⟨i,hi,hin⟩:=aD hm;obtain⟨b,o,hx,hk⟩:=h;refine Reads.mk (s:=Instr.fieldAt s (ρ x) f) rfl ⟨_,hk,λw _=>?_⟩;obtain⟨u,hr,rfl⟩:=ah.run (P:=P) (k:=(· =_)) ⟨b,o,hx,rfl⟩ w hs hf hi zO rfl;exact hr
 case field s x f=>
  split at h<;>try exact h.elim
  rename_i fs hs;split at h<;>try exact h.elim
  rename_i fl hf;split at h<;>try exact h.elim
  rename_i d n hd hn;obtain⟨i,hi,hin⟩:=aD hn;refine Reads.mk (s:=Instr.field s (ρ x) f) rfl ?_;cases ha:bJ d<;>simp only[ha,xaj,xah]at h
  ·obtain⟨cs,v,hx,hv,hk⟩:=h;refine⟨v,hk,λw _=>?_⟩;obtain⟨u,hr,rfl⟩:=BY.run (P:=P) (k:=(· =v)) ⟨cs,v,hx,hv,rfl⟩ w hs hf hd ha rfl;exact hr
  obtain⟨cs,hx,hk⟩:=h;refine⟨_,hk,λw _=>?_⟩;obtain⟨u,hr,rfl⟩:=DP.run (P:=P) (k:=(· =_)) ⟨cs,hx,rfl⟩ w hs hf hd ha hi hin rfl;exact hr
 case indexAddr t x ix=>
  refine Reads.mk (s:=Instr.indexAt t (ρ x) (ρ ix)) rfl ?_;split at h
  ·rename_i e ht;split at h<;>try exact h.elim
   rename_i n hn;obtain⟨i,hi,hin⟩:=aD hn;obtain⟨b,o,n',c,kd,j,hx,Kz,h0,h1,hk⟩:=h;refine⟨_,hk,λw _=>?_⟩;obtain⟨u,hr,rfl⟩:=ai.run (P:=P) (k:=(· =_)) ⟨b,o,n',c,kd,j,hx,Kz,h0,h1,rfl⟩ w ht hi hin;exact hr
  ·rename_i len e ht;split at h<;>try exact h.elim
   rename_i n hn;obtain⟨i,hi,hin⟩:=aD hn;obtain⟨b,o,kd,j,hx,Kz,h0,h1,hk⟩:=h;refine⟨_,hk,λw _=>?_⟩;obtain⟨u,hr,rfl⟩:=di.run (P:=P) (k:=(· =_)) ⟨b,o,kd,j,hx,Kz,h0,h1,rfl⟩ w ht hi hin;exact hr
  exact h.elim
 case slice t x lo hi mx=>
  cases mx with
  |some m=>simp only at h;exact h.reads
  |none=>
   simp only at h;split at h
   ·rename_i e ht;split at h<;>try exact h.elim
    rename_i n hn;obtain⟨i,hi',hin⟩:=aD hn;obtain⟨a,n',c,l,hh,hx,hl,jV,h0,h1,h2,hk⟩:=h;refine Reads.mk (s:=Instr.sliceAt t (ρ x) (lo.map ρ) (hi.map ρ) none) rfl ⟨_,hk,λw _=>?_⟩;obtain⟨u,hr,rfl⟩:=bT.run (P:=P) (k:=(· =_)) ⟨a,n',c,l,hh,hx,hl,jV,h0,h1,h2,rfl⟩ w ht hi' hin;exact hr
   exact h.reads
 case extract t i=>
  obtain⟨vs,v,hx,hv,hk⟩:=h;refine Reads.mk (s:=Instr.extract (ρ t) i) rfl ⟨v,hk,λw _=>?_⟩;obtain⟨u,hr,rfl⟩:=Ext.run (P:=P) (k:=(· =v)) ⟨vs,v,hx,hv,rfl⟩ w;exact hr
 case lookup t m key ok=>
  split at h<;>try exact h.elim
  rename_i kt e ht;split at h<;>try exact h.elim
  rename_i kd z vg hz;obtain⟨i,hi,pE⟩:=bP hz;cases hp:plainKey kd<;>simp only[hp,xaj,xah]at h
  ·cases Ap:bJ kd<;>simp only[Ap,xaj,xah]at h
   ·exact h.reads
   exact Reads.mk (s:=Instr.lookup t (ρ m) (ρ key) ok) rfl (F8 h.fix λk hk w hw=>hk.run hw ht vg Ap hi pE)
  exact Reads.mk (s:=Instr.lookup t (ρ m) (ρ key) ok) rfl (F8 h.fix λk hk w hw=>hk.run hw ht vg hp hi pE)
 case makeFunc fn a b=>
  refine⟨_,h,λw _=>?_⟩;simp[execOp,Instr.makeFunc,mapList]
 case build t parts=>
  obtain⟨v,hr,hk⟩:=h;refine Reads.mk (s:=Instr.build t (parts.map λ(i,x)=>(i,ρ x))) rfl ⟨v,hk,λw _=>?_⟩;have:=hr w;rw[mapList (λp:Nat×Operand=>(p.1,ρ p.2)) parts]at this;exact this
 case makeInterface t x=>
  split at h
  ·exact h.elim
  ·rename_i d Fl hd;refine Reads.mk (s:=Instr.makeInterface t (ρ x)) rfl ⟨_,h,λw _=>?_⟩;simp only[Instr.makeInterface,Sem.run_bind,run_underlying hd,Result.andThen_ok];cases d<;>first|rfl|exact absurd hd (Fl _)
  exact h.elim
 case call c=>
  obtain⟨callee,args,argTypes⟩:=c;cases callee with
  |value f=>simp only at h
  |invoke r m=>simp only at h
  |builtin b=>
   cases b<;>simp only at h<;>try exact h.reads
   case max=>
    split at h<;>try exact h.reads
    rename_i x y t t' hx ht;split at h<;>try exact h.reads
    have hx:=rJ hx;have ht:=rJ ht;subst hx;subst ht;obtain⟨kd,a,b,h1,h2,hk⟩:=h;refine Reads.mk (s:=Builtin.max_ #[t,t'] type #[ρ x,ρ y]) (by simp[execOp,resolve,invoke,builtin,bind,Sem.bind];rfl) ⟨_,hk,λw _=>?_⟩;simp[Builtin.max_,Builtin.max2,h1,h2]
   case min=>
    split at h<;>try exact h.reads
    rename_i x y t t' hx ht;split at h<;>try exact h.reads
    have hx:=rJ hx;have ht:=rJ ht;subst hx;subst ht;obtain⟨kd,a,b,h1,h2,hk⟩:=h;refine Reads.mk (s:=Builtin.min_ #[t,t'] type #[ρ x,ρ y]) (by simp[execOp,resolve,invoke,builtin,bind,Sem.bind];rfl) ⟨_,hk,λw _=>?_⟩;simp[Builtin.min_,Builtin.min2,h1,h2]
   split at h<;>try exact h.elim
   rename_i x t hx ht;have hx:=IA hx;have ht:=IA ht;subst hx;subst ht;split at h
   ·rename_i e hd;refine Reads.mk (s:=Builtin.len_ #[t] type #[ρ x]) (by simp[execOp,resolve,invoke,builtin,bind,Sem.bind];rfl) ?_;obtain⟨a,n,c,hx,hk⟩:=h;refine⟨_,hk,λw _=>?_⟩;obtain⟨u,hr,rfl⟩:=bp.run (P:=P) (k:=(· =_)) ⟨a,n,c,hx,rfl⟩ w (ty:=type) hd;exact hr
   ·rename_i e e' hd;refine Reads.mk (s:=Builtin.len_ #[t] type #[ρ x]) (by simp[execOp,resolve,invoke,builtin,bind,Sem.bind];rfl) ?_;exact F8 h.fix λk hk w hw=>hk.run hw hd
   ·rename_i hd;refine Reads.mk (s:=Builtin.len_ #[t] type #[ρ x]) (by simp[execOp,resolve,invoke,builtin,bind,Sem.bind];rfl) ?_;obtain⟨s,hx,hk⟩:=h;exact⟨_,hk,λw _=>by simp[Builtin.len_,run_underlying hd,hx,goInt]⟩
   exact h.reads
 all_goals exact h.reads
def valOf(o:Oper)(ρ:Operand->zV)(v:zV):Prop:=
 match o.op with
 | .move x=>v=ρ x
 | .assign x=>v=ρ x
 | .pick c a b=>∀t,ρ c=.bool t->v=cond t (ρ a) (ρ b)
 |_=>True
theorem o9{o:Oper}{ρ:Operand->zV}{k:zV->Prop}(h:wm P g o ρ H k):∃v,k v/\(∀w,Own g H w->(execOp ρ o).run P w=.ok (.value v) w)/\valOf o ρ v:=by
 obtain⟨dst,op,type,pos,after,guard⟩:=o;cases op
 case move x=>exact⟨_,h,λw _=>rfl,rfl⟩
 case assign x=>exact⟨_,h,λw _=>rfl,rfl⟩
 case pick c a b=>
  obtain⟨t,hc,hk⟩:=h;refine⟨_,hk,λw _=>?_,λt' ht'=>?_⟩
  ·cases t<;>simp[execOp,hc,asBool]
  rw[hc]at ht';simp only[Value.bool.injEq]at ht';subst ht';rfl
 all_goals
  obtain⟨v,hk,hr⟩:=fj h;exact⟨v,hk,hr,trivial⟩
end
end Go.Sx
namespace Go.Sx
open Go
section
variable {P:Program} {g:Gh} {H:Hp} {K:zV->Hp->Prop} {KP:List PanicEntry->Hp->Prop}
def aj(P:Program)(t len:Nat)(parts:List (Nat×zV))(H:Hp)(k:zV->Hp->Prop):Prop:=
 ∃cs,(∃e n z,P.underlying t=some (.slice e)/\bL P e=some n/\c8 P e=some z/\len*n<=2^24/\
   Instr.fill (λi=>some (i*n,n)) ((Array.range (len*n)).map (z.cells[· %z.cells.size]!)) parts=some cs/\
   vK H (.cells cs e zZ) λb H'=>k (.slice (some ⟨b,0,none⟩) len len) H')
def Ga(P:Program)(g:Gh)(o:Oper)(ρ:Operand->zV)(H:Hp)(K:zV->Hp->Prop)(KP:List PanicEntry->Hp->Prop):Prop:=
 match o.op with
 | .alloc t=>match c8 P t with
  |some z=>vK H (.cells z.cells t zZ) λb H'=>K (.pointer (some ⟨b,0,none⟩)) H'
  |none=>False
 | .box t x=>vK H (.cells (ρ x).cells t zZ) λb H'=>K (.pointer (some ⟨b,0,none⟩)) H'
 | .store t a x=>match bL P t with
  |some n=>St n H (ρ a) (ρ x) λH'=>K undef H'
  |none=>False
 | .buildSlice t len parts=>aj P t len (parts.toList.map λp=>(p.1,ρ p.2)) H K
 | .makeMap _ none=>oT H K
 | .makeSlice t l c=>match P.underlying t with
  |some (.slice e)=>match bL P e,mT P e,c8 P e with
   |some n,some b,some z=>dG e n b z H (ρ l) (ρ c) K
   |_,_,_=>False
  |_=>False
 | .mapUpdate t m key x=>match P.underlying t with
  |some (.map kt _)=>match P.underlying kt with
   |some kd=>cond (plainKey kd) (jc kd H (ρ m) (ρ key) (ρ x) λH'=>K undef H') (cond (bJ kd) (fY P kt H (ρ m) (ρ key) (ρ x) λH'=>K undef H') (cg P g o ρ H K KP))
   |none=>False
  |_=>False
 | .insert t m key x=>match P.underlying t with
  |some (.map kt _)=>match P.underlying kt with
   |some kd=>cond (plainKey kd) (jc kd H (ρ m) (ρ key) (ρ x) λH'=>K undef H') (cond (bJ kd) (fY P kt H (ρ m) (ρ key) (ρ x) λH'=>K undef H') (cg P g o ρ H K KP))
   |none=>False
  |_=>False
 | .range t x=>match P.underlying t with
  |some (.map _ _)=>JB H (ρ x) K
  |_=>cg P g o ρ H K KP
 | .next it false=>IF H (ρ it) K
 | .entry it=>F4 H (ρ it) λv=>K v H
 | .call c=>
  match c.callee with
  | .value (.func f)=>cond (bA P f) (aa P g f (c.args.toList.map ρ).toArray H K KP) (cg P g o ρ H K KP)
  | .value f=>cr P g (ρ f) (c.args.toList.map ρ).toArray H K KP
  | .builtin .append=>
   match c.args.toList,c.argTypes.toList with
   | [s,x],[t,t']=>match P.underlying t,P.underlying t' with
    |some (.slice e),some (.slice _)=>match bL P e,mT P e,c8 P e with
     |some n,some b,some z=>App P e n b z H (ρ s) (ρ x) K
     |_,_,_=>False
    |_,_=>cg P g o ρ H K KP
   |_,_=>False
  | .builtin .delete=>
   match c.args.toList,c.argTypes.toList with
   | [m,key],[t,_]=>match P.underlying t with
    |some (.map kt _)=>match P.underlying kt with
     |some kd=>cond (plainKey kd) (sR kd H (ρ m) (ρ key) λH'=>K (.tuple #[]) H') (cond (bJ kd) (jR P kt H (ρ m) (ρ key) λH'=>K (.tuple #[]) H') (cg P g o ρ H K KP))
     |none=>False
    |_=>False
   |_,_=>cg P g o ρ H K KP
  |_=>cg P g o ρ H K KP
 |_=>cg P g o ρ H K KP
theorem gP{t:TypeId}{n:Nat}(h:mT P t=some n):∃i,P.info? t=some i/\i.bytes=n:=by
 unfold mT at h;split at h
 ·rename_i i hi;exact⟨i,hi,by simpa using h⟩
 simp at h
theorem cg.ofValue{o:Oper}{ρ:Operand->zV}{s:Sem zV}(he:execOp ρ o=(do pure (.value (<-s))))(h:∀w,Own g H w->∃v w' H',s.run P w=.ok v w'/\Own g H' w'/\K v H'):cg P g o ρ H K KP:=by
 intro w hw;obtain⟨v,w',H',hr,ho,hk⟩:=h w hw;rw[he];simp only[Sem.run_bind,hr,Result.andThen_ok,Sem.run_pure];exact⟨H',ho,hk⟩
theorem cg.mv{o:Oper}{ρ:Operand->zV}{s:Sem Unit}(he:execOp ρ o=(do s;pure .skip))(h:∀w,Own g H w->∃w' H',s.run P w=.ok () w'/\Own g H' w'/\K undef H'):cg P g o ρ H K KP:=by
 intro w hw;obtain⟨w',H',hr,ho,hk⟩:=h w hw;rw[he];simp only[Sem.run_bind,hr,Result.andThen_ok,Sem.run_pure];exact⟨H',ho,hk⟩
theorem cv{f:FuncId}(h:bA P f=true)(args:Array zV)(w:World):(callFunc f args).run P w=.ok (.enter f args) w:=by
 unfold bA at h;split at h
 ·simp at h
 rename_i fn hf;simp only[xap,xbg]at h;obtain⟨h1,h2⟩:=h;have h3:fn.body.isNone=false:=by cases hb:fn.body<;>simp_all
 simp only[callFunc,Sem.run_bind,run_program,Result.andThen_ok,hf,show(fn.name== "runtime.NumGoroutine")=false from h1,h3,xas,xaD];rfl
theorem cr.op{o:Oper}{c:Call}{ρ:Operand->zV}{x:Operand}(ho:o.op=.call c)(hc:c.callee=.value x)(h:cr P g (ρ x) (c.args.toList.map ρ).toArray H K KP):cg P g o ρ H K KP:=by
 obtain⟨f,first,captured,hf,fH,vi⟩:=h;rw[mapList]at vi;intro w hw;have hr:(execOp ρ o).run P w=.ok (.enter f (first++c.args.map ρ++captured)) w:=by
  simp only[execOp,ho,resolve,hc,Deferred.ofValue,hf,invoke];show(callFunc f (first++c.args.map ρ++captured)).run P w=_;exact cv fH _ w
 rw[hr];exact vi w hw
theorem pe{o:Oper}{ρ:Operand->zV}(hρ:∀f,ρ (.func f)=.func (.func f) #[] #[])(h:Ga P g o ρ H K KP):cg P g o ρ H K KP:=by
 unfold Ga at h;split at h
 case h_1 t hop=>
  split at h
  ·rename_i z hz;obtain⟨i,hi,pE⟩:=bP hz;refine cg.ofValue (s:=Instr.alloc t true (.tuple #[])) (by simp only[execOp,hop]) λw hw=>⟨_,_,_,?_,hw.alloc _,h _ hw.fresh⟩;simp[Instr.alloc,cH hi pE,newVar,newRow]
  exact h.elim
 case h_2 t x hop=>
  refine cg.ofValue (s:=Instr.box t (ρ x)) (by simp only[execOp,hop]) λw hw=>⟨_,_,_,?_,hw.alloc _,h _ hw.fresh⟩;simp[Instr.box,newVar,newRow]
 case h_3 t a x hop=>
  split at h
  ·rename_i n hn;obtain⟨i,hi,hin⟩:=aD hn;exact cg.mv (s:=Instr.storeAt t (ρ a) (ρ x)) (by simp only[execOp,hop]) λw hw=>h.run hw hi hin
  exact h.elim
 case h_4 t len parts hop=>
  obtain⟨cs,e,n,z,ht,hn,hz,hl,hf,hk⟩:=h;obtain⟨i,hi,hin⟩:=aD hn;obtain⟨i',hi',pE⟩:=bP hz;have:i'=i:=xbh (hi'.symm.trans hi);subst this;subst hin;refine cg.ofValue (s:=Instr.buildSlice t len (parts.map λ(i,x)=>(i,ρ x))) (by simp only[execOp,hop]) λw hw=>⟨_,_,_,?_,hw.alloc _,hk _ hw.fresh⟩;have hl':¬(len*i'.size>2^24):=by omega
  have vc:(parts.map λ(x:Nat×Operand)=>(x.1,ρ x.2)).toList=parts.toList.map λp=>(p.1,ρ p.2):=by rw[xc0]
  by_cases h0:len*i'.size=0
  ·simp only[Instr.buildSlice,Sem.run_bind,run_underlying ht,Result.andThen_ok,run_sizeOf hi,hl',xaD,h0,xaS,Sem.run_pure];rw[h0]at hf;have Kn:Array.range 0=#[]:=rfl;simp only[Kn,xdA,List.map_toArray,xcJ]at hf⊢;rw[vc,hf];simp[newRow]
  simp only[Instr.buildSlice,Sem.run_bind,run_underlying ht,Result.andThen_ok,run_sizeOf hi,hl',xaD,h0,cH hi pE,Sem.run_pure];simp[hf,newRow]
 case h_5 t hop=>
  refine cg.ofValue (s:=Instr.makeMap t none) (by simp only[execOp,hop];rfl) λw hw=>⟨_,_,_,?_,hw.alloc _,h _ hw.fresh⟩;simp[Instr.makeMap]
 case h_6 t l c hop=>
  split at h<;>try exact h.elim
  rename_i e ht;split at h<;>try exact h.elim
  rename_i n b z hn hb hz;obtain⟨i,hi,hin⟩:=aD hn;obtain⟨i',hi',pE⟩:=bP hz;obtain⟨i2,BR,HL⟩:=gP hb;have e1:i'=i:=xbh (hi'.symm.trans hi);have e2:i2=i:=xbh (BR.symm.trans hi);subst e1;subst e2;exact cg.ofValue (s:=Instr.makeSlice t (ρ l) (ρ c)) (by simp only[execOp,hop]) λw hw=>h.run hw ht hi pE hin HL
 case h_7 t m key x hop=>
  split at h<;>try exact h.elim
  rename_i kt e ht;split at h<;>try exact h.elim
  rename_i kd vg;cases hp:plainKey kd<;>simp only[hp,xaj,xah]at h
  ·cases Ap:bJ kd<;>simp only[Ap,xaj,xah]at h
   ·exact h
   exact cg.mv (s:=Instr.mapUpdate t (ρ m) (ρ key) (ρ x)) (by simp only[execOp,hop]) λw hw=>h.run hw ht vg Ap
  exact cg.mv (s:=Instr.mapUpdate t (ρ m) (ρ key) (ρ x)) (by simp only[execOp,hop]) λw hw=>h.run hw ht vg hp
 case h_8 t m key x hop=>
  split at h<;>try exact h.elim
  rename_i kt e ht;split at h<;>try exact h.elim
  rename_i kd vg;cases hp:plainKey kd<;>simp only[hp,xaj,xah]at h
  ·cases Ap:bJ kd<;>simp only[Ap,xaj,xah]at h
   ·exact h
   exact cg.mv (s:=Instr.mapUpdate t (ρ m) (ρ key) (ρ x)) (by simp only[execOp,hop]) λw hw=>h.run hw ht vg Ap
  exact cg.mv (s:=Instr.mapUpdate t (ρ m) (ρ key) (ρ x)) (by simp only[execOp,hop]) λw hw=>h.run hw ht vg hp
 case h_9 t x hop=>
  split at h
  ·rename_i kt e ht;exact cg.ofValue (s:=Instr.range t (ρ x)) (by simp only[execOp,hop]) λw hw=>h.run hw ht
  exact h
 case h_10 it hop=>
  exact cg.ofValue (s:=Instr.next (ρ it) false o.type) (by simp only[execOp,hop]) λw hw=>h.run hw
 case h_11 it hop=>
  exact cg.ofValue (s:=Instr.entry (ρ it)) (by simp only[execOp,hop]) λw hw=>let ⟨v,hr,hk⟩:=h.run hw;⟨v,w,H,hr,hw,hk⟩
 case h_12 c hop=>
  split at h
  ·rename_i f hc;cases fH:bA P f<;>simp only[fH,xaj,xah]at h
   ·exact h
   rw[mapList]at h;intro w hw;have hr:(execOp ρ o).run P w=.ok (.enter f (c.args.map ρ)) w:=by
    simp only[execOp,hop,resolve,hc,Deferred.ofValue,hρ,invoke];show(callFunc f ((#[]++c.args.map ρ)++ #[])).run P w=_;rw[xcg,xcI];exact cv fH _ w
   rw[hr];exact h w hw
  ·rename_i x _ hc;exact cr.op hop hc h
  ·rename_i hc;split at h<;>try exact h.elim
   rename_i s x t t' hx ht;have hx:=rJ hx;have ht:=rJ ht;split at h
   ·rename_i e e' hd jW;split at h<;>try exact h.elim
    rename_i n b z hn hb hz;obtain⟨i,hi,hin⟩:=aD hn;obtain⟨i',hi',pE⟩:=bP hz;obtain⟨i2,BR,HL⟩:=gP hb;have e1:i'=i:=xbh (hi'.symm.trans hi);have e2:i2=i:=xbh (BR.symm.trans hi);subst e1;subst e2;refine cg.ofValue (s:=Builtin.append_ #[t,t'] o.type #[ρ s,ρ x]) ?_ λw hw=>h.run hw hd ⟨_,jW⟩ hi pE hin HL;simp only[execOp,hop,resolve,hc,hx,ht,invoke,builtin];simp[bind,Sem.bind];rfl
   exact h
  ·rename_i hc;split at h
   ·rename_i m key t t' hx ht;have hx:=rJ hx;have ht:=rJ ht;split at h<;>try exact h.elim
    rename_i kt e hd;split at h<;>try exact h.elim
    rename_i kd vg;cases hp:plainKey kd<;>simp only[hp,xaj,xah]at h
    ·cases Ap:bJ kd<;>simp only[Ap,xaj,xah]at h
     ·exact h
     refine cg.ofValue (s:=Builtin.delete_ #[t,t'] o.type #[ρ m,ρ key]) ?_ λw hw=>?_
     ·simp only[execOp,hop,resolve,hc,hx,ht,invoke,builtin];simp[bind,Sem.bind];rfl
     obtain⟨w',H',hr,ho,hk⟩:=h.run (P:=P) hw (as:=#[t,t']) (ty:=o.type) rfl hd vg Ap;exact⟨_,w',H',hr,ho,hk⟩
    refine cg.ofValue (s:=Builtin.delete_ #[t,t'] o.type #[ρ m,ρ key]) ?_ λw hw=>?_
    ·simp only[execOp,hop,resolve,hc,hx,ht,invoke,builtin];simp[bind,Sem.bind];rfl
    obtain⟨w',H',hr,ho,hk⟩:=h.run (P:=P) hw (as:=#[t,t']) (ty:=o.type) rfl hd vg hp;exact⟨_,w',H',hr,ho,hk⟩
   exact h
  exact h
 all_goals exact h
end
end Go.Sx
namespace Go.Sx
open Go
section
variable {P:Program} {g:Gh} {ds:List Deferred}
def mE:Op->Bool
 | .move _| .assign _| .pick .. | .load .. | .nilCheck _| .binOp .. | .unOp .. | .convert .. | .fieldAddr .. | .field .. | .indexAddr .. | .index .. | .slice .. | .extract .. | .lookup .. | .makeFunc .. | .build .. | .makeInterface ..
 | .typeAssert .. =>true
 | .call c=>match c.callee with
  | .builtin .len| .builtin .cap| .builtin .min| .builtin .max=>true
  |_=>false
 |_=>false
def EI(P:Program)(g:Gh)(f:FuncId)(args:Array zV)(H:Hp)(k:zV->Prop):Prop:=
 ∃v,aX P g f args H (λe H'=>e=.returned v/\H'=H)/\k v
def JS(P:Program)(g:Gh)(o:Oper)(ρ:Operand->zV)(H:Hp)(k:zV->Prop):Prop:=
 match o.op with
 | .call c=>match c.callee with
  | .value (.func f)=>cond (bA P f) (EI P g f (c.args.toList.map ρ).toArray H k) False
  | .value x=>∃f first captured,ρ x=.func (.func f) first captured/\bA P f=true/\EI P g f (first++(c.args.toList.map ρ).toArray++captured) H k
  |_=>False
 |_=>False
def bB:Option (Nat×Bool)->Option (Nat×Bool)->Bool
 |none,none=>true
 |some (i,a),some (j,b)=>Nat.beq i j&& (a==b)
 |_,_=>false
theorem dU{x y:Option (Nat×Bool)}(h:bB x y=true):x=y:=by
 cases x with
 |none=>cases y<;>simp_all[bB]
 |some a=>
  obtain⟨i,a⟩:=a;cases y with
  |none=>simp[bB]at h
  |some b=>
   obtain⟨j,b⟩:=b;simp only[bB,xap,xcx]at h;rw[xam h.1,h.2]
def dw(cur:Option (Nat×Bool)):List Oper->List Oper
 | []=>[]
 |o::r=>cond (bB o.guard cur) [] (o::dw cur r)
def dQ(cur:Option (Nat×Bool)):List Oper->List Oper
 | []=>[]
 |o::r=>cond (bB o.guard cur) (o::r) (dQ cur r)
theorem kM(cur:Option (Nat×Bool))(l:List Oper):dw cur l++dQ cur l=l:=by
 induction l with
 |nil=>rfl
 |cons o r ih=>simp only[dw,dQ];cases bB o.guard cur<;>simp[ih]
def kN:List Oper->Fr->Fr
 | [],fr=>fr
 |o::r,fr=>kN r (bX fr o.dst undef)
def aF:List Oper->Nat->Bool
 | [],_=>false
 |o::r,s=>(match o.dst with|some d=>Nat.beq s d|none=>false)||aF r s
def eC(n:Nat):List Oper->Bool
 | []=>true
 |o::r=>cq n o.dst&&eC n r
def ko(G:List Oper)(gs fr:Fr):Fr:=λs=>cond (aF G s) (gs s) (fr s)
def iO(p:Oper)(fr:Fr):zV:=
 match p.op with
 | .pick c a b=>match ev fr c with
  | .bool t=>cond t (ev fr a) (ev fr b)
  |_=>undef
 |_=>undef
def kf(p:Oper):Bool:=match p.op with| .pick .. =>true|_=>false
def cC(ops:Array Oper)(j:Nat):Option Nat:=match ops[j]? with|some oj=>oj.dst|none=>none
def gy(ops:Array Oper)(s:Nat)(want:Bool):zL->List Oper->Bool
 |_,[]=>true
 |seen,o::r=>
  (match o.guard with
  |none=>false
  |some (j,w)=>match cC ops j with
   |none=>false
   |some t=>(Nat.beq t s&& (w==want))||seen.any (Nat.beq t)) &&
  gy ops s want (match o.dst with|some d=>d::seen|none=>seen) r
def bO(v:zV)(want:Bool)(inner els k:Bool->Prop):Prop:=∃a t:Bool,v=.bool a/\(a=want->inner t)/\(a= !want->els t)/\k t
def Split(v:zV)(want:Bool)(k1 k2:Prop):Prop:=∃a:Bool,v=.bool a/\(a=want->k1)/\(a= !want->k2)
def fA:List (Nat×Bool)->Nat->Option Bool
 | [],_=>none
 |(t,b)::r,s=>cond (Nat.beq t s) (some b) (fA r s)
def gg:List (Nat×Bool)->Option Nat->List (Nat×Bool)
 |kn,none=>kn
 | [],some _=>[]
 |(t,b)::r,some d=>cond (Nat.beq t d) (gg r (some d)) ((t,b)::gg r (some d))
def fS:List (Nat×Bool)->List Oper->List (Nat×Bool)
 |kn,[]=>kn
 |kn,o::r=>fS (gg kn o.dst) r
def jy(kn:List (Nat×Bool)):Operand->Option Bool
 | .const (.bool b)=>some b
 | .tmp t=>fA kn t
 |_=>none
def Fa(kn:List (Nat×Bool))(o:Oper):Option Bool:=
 match o.op with
 | .move x=>jy kn x
 | .assign x=>jy kn x
 | .pick c a b=>match jy kn c with
  |some true=>jy kn a
  |some false=>jy kn b
  |none=>none
 |_=>none
def E9(kn:List (Nat×Bool))(o:Oper):List (Nat×Bool):=
 match Fa kn o,o.dst with
 |some b,some d=>(d,b)::gg kn (some d)
 |_,d=>gg kn d
def dB(kn:List (Nat×Bool))(fr:Fr):Prop:=∀s b,fA kn s=some b->fr s=.bool b
theorem dB.nil(fr:Fr):dB [] fr:=λs b h=>by simp[fA]at h
theorem oq{kn:List (Nat×Bool)}{d s:Nat}{b:Bool}(h:fA (gg kn (some d)) s=some b):s≠d/\fA kn s=some b:=by
 induction kn with
 |nil=>simp[gg,fA]at h
 |cons x r ih=>
  obtain⟨t,c⟩:=x;simp only[gg]at h;cases hb:Nat.beq t d<;>simp only[hb,xaj,xah]at h
  ·simp only[fA]at h⊢;cases hs:Nat.beq t s<;>simp only[hs,xaj,xah]at h⊢
   ·exact ih h
   refine⟨λe=>?_,h⟩;have:=xam hs;subst this;subst e;simp at hb
  have h':=ih h;refine⟨h'.1,?_⟩;simp only[fA];have:=xam hb;subst this;cases hs:Nat.beq t s
  ·exact h'.2
  exact absurd (xam hs).symm h'.1
theorem dB.del{kn:List (Nat×Bool)}{fr:Fr}(h:dB kn fr)(d:Option Nat)(v:zV):dB (gg kn d) (bX fr d v):=by
 cases d with
 |none=>cases kn<;>exact h
 |some d=>
  intro s b hs;obtain⟨h1,h2⟩:=oq hs;simp only[bX];cases hb:Nat.beq s d
  ·exact h s b h2
  exact absurd (xam hb) h1
theorem dB.put{kn:List (Nat×Bool)}{fr:Fr}(h:dB kn fr){s:Nat}{b:Bool}(hs:fr s=.bool b):dB ((s,b)::kn) fr:=by
 intro t c ht;simp only[fA]at ht;cases hb:Nat.beq s t<;>simp only[hb,xaj,xah]at ht
 ·exact h t c ht
 have:=xam hb;subst this;simp only[xao]at ht;subst ht;exact hs
theorem fy{kn:List (Nat×Bool)}{fr:Fr}(h:dB kn fr){x:Operand}{b:Bool}(hx:jy kn x=some b):ev fr x=.bool b:=by
 cases x with
 |tmp t=>exact h t b hx
 |const v=>cases v<;>simp[jy]at hx;subst hx;rfl
 |global g=>simp[jy]at hx
 |func f=>simp[jy]at hx
theorem CP{kn:List (Nat×Bool)}{fr:Fr}(h:dB kn fr){o:Oper}{v:zV}(hv:valOf o (ev fr) v){b:Bool}(hb:Fa kn o=some b):v=.bool b:=by
 unfold Fa at hb;unfold valOf at hv;split at hb
 ·rename_i x hop;rw[hop]at hv;exact hv.trans (fy h hb)
 ·rename_i x hop;rw[hop]at hv;exact hv.trans (fy h hb)
 ·rename_i c a b' hop;rw[hop]at hv;split at hb
  ·rename_i hc;rw[hv _ (fy h hc)];exact fy h hb
  ·rename_i hc;rw[hv _ (fy h hc)];exact fy h hb
  simp at hb
 simp at hb
theorem dB.up{kn:List (Nat×Bool)}{fr:Fr}(h:dB kn fr){o:Oper}{v:zV}(hv:valOf o (ev fr) v):dB (E9 kn o) (bX fr o.dst v):=by
 unfold E9;split
 ·rename_i b d hb hd;rw[hd];exact(h.del (some d) v).put (by simp[bX,CP h hv hb])
 exact h.del _ _
theorem dB.Ir{kn:List (Nat×Bool)}{fr fr':Fr}:∀(l:List Oper),dB kn fr->(∀s,aF l s=false->fr' s=fr s)->dB (fS kn l) fr':=by
 intro l;have key:∀(l:List Oper) (kn:List (Nat×Bool)) (s:Nat) (b:Bool),fA (fS kn l) s=some b->aF l s=false/\fA kn s=some b:=by
  intro l;induction l with
  |nil=>intro kn s b h;exact⟨rfl,h⟩
  |cons o r ih=>
   intro kn s b h;simp only[fS]at h;obtain⟨h1,h2⟩:=ih _ s b h;simp only[aF,h1,Bool.or_false];cases hd:o.dst with
   |none=>rw[hd]at h2;exact⟨rfl,by cases kn<;>exact h2⟩
   |some d=>
    rw[hd]at h2;obtain⟨h3,h4⟩:=oq h2;refine⟨?_,h4⟩;cases hb:Nat.beq s d
    ·exact hb
    exact absurd (xam hb) h3
 intro h ho s b hs;obtain⟨h1,h2⟩:=key l kn s b hs;rw[ho s h1];exact h s b h2
def cf(P:Program)(g:Gh)(n:Nat)(ops:Array Oper)(gq:Bool):Nat->Bool->Option (Nat×Bool)->List (Nat×Bool)->List Oper->Fr->Hp->(List (Nat×Bool)->Fr->Hp->Prop)->(List PanicEntry->Hp->Prop)->Prop
 |0,_,_,_,_,_,_,_,_=>False
 |_+1,_,_,kn,[],fr,H,K,_=>K kn fr H
 |f+1,q,cur,kn,o::r,fr,H,K,KP=>
  cond (bB o.guard cur)
   (cond (cq n o.dst)
    (cond (mE o.op) (wm P g o (ev fr) H λv=>cf P g n ops gq f q cur (E9 kn o) r (bX fr o.dst v) H K KP)
     (cond q (JS P g o (ev fr) H λv=>cf P g n ops gq f q cur (gg kn o.dst) r (bX fr o.dst v) H K KP)
      (Ga P g o (ev fr) H (λv H'=>cf P g n ops gq f q cur (gg kn o.dst) r (bX fr o.dst v) H' K KP) KP))) False)
   (match o.guard with
   |none=>False
   |some (j,want)=>
    match cC ops j with
    |none=>False
    |some s=>
     cond (cq n (some s) &&eC n (dw cur (o::r)) && !aF (dw cur (o::r)) s&&gy ops s want [] (dw cur (o::r)))
     (match fA kn s with
     |some b=>cond (b==want)
       (cf P g n ops gq f q o.guard kn (dw cur (o::r)) fr H (λiq fr' H'=>cf P g n ops gq f q cur iq (dQ cur (o::r)) fr' H' K KP) KP)
       (cf P g n ops gq f q cur (fS kn (dw cur (o::r))) (dQ cur (o::r)) (kN (dw cur (o::r)) fr) H K KP)
     |none=>
     cond (q||gq)
      (match dQ cur (o::r)with
      | []=>False
      |p::r'=>
       cond (kf p&&cq n p.dst)
       (bO (fr s) want
        (λt=>cf P g n ops gq f true o.guard ((s,want)::kn) (dw cur (o::r)) (bX fr (some s) (.bool want)) H (λ_ fr' H'=>H'=H/\iO p fr'=.bool t) (λ_ _=>False))
        (λt=>iO p (kN (dw cur (o::r)) (bX fr (some s) (.bool !want)))=.bool t)
        (λt=>∀gs,cf P g n ops gq f q cur (gg (fS kn (dw cur (o::r))) p.dst) r' (bX (ko (dw cur (o::r)) gs fr) p.dst (.bool t)) H K KP)) False)
      (Split (fr s) want
       (cf P g n ops gq f q o.guard ((s,want)::kn) (dw cur (o::r)) (bX fr (some s) (.bool want)) H (λiq fr' H'=>cf P g n ops gq f q cur iq (dQ cur (o::r)) fr' H' K KP) KP)
       (cf P g n ops gq f q cur ((s, !want)::fS kn (dw cur (o::r))) (dQ cur (o::r)) (kN (dw cur (o::r)) (bX fr (some s) (.bool !want))) H K KP))) False)
theorem fg{fr:Fr}{s:Nat}{v:zV}(h:fr s=v):bX fr (some s) v=fr:=by
 funext x
 simp only[bX];cases hb:Nat.beq x s
 ·rfl
 have:=xam hb;subst this;simp[h]
theorem cY{fr:Fr}{d:Option Nat}{v:zV}{s:Nat}(h:aF [({(default:Oper)with dst:=d})] s=false):bX fr d v s=fr s:=by
 cases d with
 |none=>rfl
 |some d=>simp only[aF,Bool.or_false]at h;simp only[bX,h,xah]
theorem bF{o:Oper}{r:List Oper}{s:Nat}:aF (o::r) s=(aF [({(default:Oper)with dst:=o.dst})] s||aF r s):=by
 simp[aF]
theorem bf{a b:List Oper}{s:Nat}:aF (a++b) s=(aF a s||aF b s):=by
 induction a with
 |nil=>simp[aF]
 |cons o r ih=>simp only[xaF,aF,ih,Bool.or_assoc]
def cA(l:List Oper)(fr fr':Fr):Prop:=∀s,aF l s=false->fr' s=fr s
def fG(ops:Array Oper)(cur:Option (Nat×Bool))(l:List Oper)(fr:Fr):Prop:=
 match cur with
 |none=>True
 |some (j,want)=>∃s,cC ops j=some s/\fr s=.bool want/\aF l s=false
theorem fG.tail{ops:Array Oper}{cur:Option (Nat×Bool)}{o:Oper}{r:List Oper}{fr fr':Fr}(h:fG ops cur (o::r) fr)(he:∀s,aF [({(default:Oper)with dst:=o.dst})] s=false->fr' s=fr s):fG ops cur r fr':=by
 unfold fG at*;split
 ·trivial
 obtain⟨s,h1,h2,h3⟩:=h;rw[bF,xar]at h3;exact⟨s,h1,(he s h3.1).trans h2,h3.2⟩
theorem fI{n:Nat}{ops:Array Oper}{a:Act}{fr:Fr}(h:aZ ds n a fr){j s:Nat}(hs:cC ops j=some s):yielded ops a.tmps j=match fr s with| .bool b=>some b|_=>none:=by
 unfold cC at hs;split at hs
 ·rename_i oj hj;have hg:=h.get s;rw[xai]at hg;simp only[yielded,hj,xc1,hs];cases ht:a.tmps[s]? with
  |none=>rw[ht]at hg;simp only[xcy]at hg;rw[<-hg];rfl
  |some v=>rw[ht]at hg;simp only[xcz]at hg;rw[<-hg];cases v<;>rfl
 ·simp at hs
theorem fG.wanted{n:Nat}{ops:Array Oper}{cur:Option (Nat×Bool)}{l:List Oper}{fr:Fr}(h:fG ops cur l fr){o:Oper}(ho:o.guard=cur){a:Act}(ha:aZ ds n a fr):Region.wanted o (yielded ops a.tmps)=true:=by
 unfold fG at h;unfold Region.wanted;rw[ho];split at h
 ·rfl
 obtain⟨s,h1,h2,_⟩:=h;simp only[fI ha h1,h2,beq_self_eq_true]
theorem iN{p:Oper}{fr:Fr}{t:Bool}(hp:kf p=true)(h:iO p fr=.bool t)(w:World):(execOp (ev fr) p).run P w=.ok (.value (.bool t)) w:=by
 unfold kf at hp;split at hp<;>try (simp at hp;done)
 rename_i c a b hop;simp only[iO,hop]at h;split at h
 ·rename_i t' hc;simp only[execOp,hop,hc,asBool];cases t'<;>simp only[xaj,xah]at h<;>simp[h]
 simp[undef]at h
theorem gU{n:Nat}{ops:Array Oper}{Q:Exit->Act->World->Prop}{s:Nat}{want:Bool}{w:World}{rest:List Oper}:∀(l:List Oper) (seen:zL) (fr:Fr) (a:Act),eC n l=true->aF l s=false->gy ops s want seen l=true->
  fr s=.bool (!want)->(∀t∈seen,fr t=undef)->aZ ds n a fr->(∀a',aZ ds n a' (kN l fr)->wpList P ops Q rest a' w)->wpList P ops Q (l++rest) a w
 | [],_,fr,a,_,_,_,_,_,ha,hk=>hk a ha
 |o::r,seen,fr,a,hd,hi,hs,hf,mH,ha,hk=>by
  simp only[eC,xap]at hd;rw[bF,xar]at hi;simp only[gy,xap]at hs;obtain⟨hs1,kj⟩:=hs;have HA:Region.wanted o (yielded ops a.tmps)=false:=by
   unfold Region.wanted;split at hs1
   ·simp at hs1
   rename_i j w' hg;rw[hg];split at hs1
   ·simp at hs1
   rename_i t ht;simp only[fI ha ht];simp only[xbA,xap,xcx]at hs1;rcases hs1 with⟨h1,rfl⟩|h1
   ·have:=xam h1;subst this;rw[hf];cases w'<;>rfl
   obtain⟨u,hu,hb⟩:=xbH.1 h1;have:=xam hb;subst this;rw[mH _ hu];rfl
  simp only[xaF,wpList,HA,xas,xaD];refine gU r _ (bX fr o.dst undef) _ hd.2 hi.2 kj ?_ ?_ (ha.put hd.1 undef) (λa' h'=>hk a' h')
  ·rw[cY hi.1,hf]
  intro t ht;cases Ay:o.dst with
  |none=>rw[Ay]at ht;exact mH t ht
  |some d=>
   rw[Ay]at ht;simp only[bX];cases hb:Nat.beq t d
   ·simp only[xah];rcases xag.1 ht with rfl|ht
    ·simp at hb
    exact mH t ht
   rfl
theorem iJ{n:Nat}{ops:Array Oper}{C:World->Prop}{Q:Act->Prop}{s:Nat}{want:Bool}{rest:List Oper}:∀(l:List Oper) (seen:zL) (fr:Fr) (a:Act),eC n l=true->aF l s=false->gy ops s want seen l=true->
  fr s=.bool (!want)->(∀t∈seen,fr t=undef)->aZ ds n a fr->(∀a',aZ ds n a' (kN l fr)->wpQuiet P ops C Q rest a')->wpQuiet P ops C Q (l++rest) a
 | [],_,fr,a,_,_,_,_,_,ha,hk=>hk a ha
 |o::r,seen,fr,a,hd,hi,hs,hf,mH,ha,hk=>by
  simp only[eC,xap]at hd;rw[bF,xar]at hi;simp only[gy,xap]at hs;obtain⟨hs1,kj⟩:=hs;have HA:Region.wanted o (yielded ops a.tmps)=false:=by
   unfold Region.wanted;split at hs1
   ·simp at hs1
   rename_i j w' hg;rw[hg];split at hs1
   ·simp at hs1
   rename_i t ht;simp only[fI ha ht];simp only[xbA,xap,xcx]at hs1;rcases hs1 with⟨h1,rfl⟩|h1
   ·have:=xam h1;subst this;rw[hf];cases w'<;>rfl
   obtain⟨u,hu,hb⟩:=xbH.1 h1;have:=xam hb;subst this;rw[mH _ hu];rfl
  simp only[xaF,wpQuiet,HA,xas,xaD];refine iJ r _ (bX fr o.dst undef) _ hd.2 hi.2 kj ?_ ?_ (ha.put hd.1 undef) (λa' h'=>hk a' h')
  ·rw[cY hi.1,hf]
  intro t ht;cases Ay:o.dst with
  |none=>rw[Ay]at ht;exact mH t ht
  |some d=>
   rw[Ay]at ht;simp only[bX];cases hb:Nat.beq t d
   ·simp only[xah];rcases xag.1 ht with rfl|ht
    ·simp at hb
    exact mH t ht
   rfl
theorem bM:∀(l:List Oper) (fr:Fr),cA l fr (kN l fr)
 | [],fr=>λs _=>rfl
 |o::r,fr=>λs hs=>by
  rw[bF,xar]at hs;rw[kN,bM r _ s hs.2,cY hs.1]
end
end Go.Sx
namespace Go.Sx
open Go
section
variable {P:Program} {g:Gh} {ds:List Deferred}
theorem jJ(fr:Fr):∀f,ev fr (.func f)=.func (.func f) #[] #[]:=λ_=>rfl
theorem uV{o:Oper}{fr:Fr}{H:Hp}{k:zV->Prop}(h:JS P g o (ev fr) H k):
  ∃v f args,(∀w,(execOp (ev fr) o).run P w=.ok (.enter f args) w)/\aX P g f args H (λe H'=>e=.returned v/\H'=H)/\k v:=by
 unfold JS at h;split at h<;>try exact h.elim
 rename_i c hop;split at h<;>try exact h.elim
 ·rename_i f hc;cases fH:bA P f<;>simp only[fH,xaj,xah]at h;obtain⟨v,hs,hk⟩:=h;rw[mapList]at hs;refine⟨v,f,_,λw=>?_,hs,hk⟩;simp only[execOp,hop,resolve,hc,Deferred.ofValue,jJ,invoke];show(callFunc f ((#[]++c.args.map (ev fr))++ #[])).run P w=_;rw[xcg,xcI];exact cv fH _ w
 rename_i x _ hc;obtain⟨f,first,captured,hf,fH,v,hs,hk⟩:=h;rw[mapList]at hs;refine⟨v,f,_,λw=>?_,hs,hk⟩;simp only[execOp,hop,resolve,hc,Deferred.ofValue,hf,invoke];show(callFunc f (first++c.args.map (ev fr)++captured)).run P w=_;exact cv fH _ w
theorem nq.upon{o:Oper}{a:Act}{K:zV->Hp->Prop}{KP:List PanicEntry->Hp->Prop}{next:Act->World->Prop}{Q:Exit->Act->World->Prop}{r:Result Next}
 (h:nq P g K KP r)(hn:∀v H' w',Own g H' w'->K v H'->next (a.put o.dst v) w')(hp:∀ch H' w',Own g H' w'->KP ch H'->Q (.panic ch) a w'):o.upon P a next Q r:=by
 cases r with
 |ok n w'=>
  cases n<;>simp only[nq]at h<;>simp only[Oper.upon]
  case value v=>obtain⟨H',ho,hk⟩:=h;exact hn _ _ _ ho hk
  case skip=>obtain⟨H',ho,hk⟩:=h;exact hn _ _ _ ho hk
  case enter f args=>
   refine h.mono λe w'' ⟨H',ho,hk⟩=>?_;cases e with
   |returned v=>exact hn _ _ _ ho hk
   |panicked ch=>exact hp _ _ _ ho hk
   |outgrown=>exact hk.elim
 |halt x w'=>
  cases x<;>simp only[nq]at h
  case panic v=>obtain⟨H',ho,hk⟩:=h;exact hp _ _ _ ho hk
theorem cA.refl(l:List Oper)(fr:Fr):cA l fr fr:=λ_ _=>rfl
theorem cA.cons{o:Oper}{r:List Oper}{fr fr':Fr}{v:zV}(h:cA r (bX fr o.dst v) fr'):cA (o::r) fr fr':=λs hs=>by
 rw[bF,xar]at hs;rw[h s hs.2,cY hs.1]
theorem bj{n:Nat}{ops:Array Oper}{gq:Bool}:∀(f:Nat) (q:Bool) (cur:Option (Nat×Bool)) (kn:List (Nat×Bool)) (l:List Oper) (fr:Fr) (H:Hp) (K:List (Nat×Bool)->Fr->Hp->Prop) (KP:List PanicEntry->Hp->Prop),
  cf P g n ops gq f q cur kn l fr H K KP->fG ops cur l fr->dB kn fr->∀(a:Act) (w:World),aZ ds n a fr->Own g H w->∀(rest:List Oper) (Q:Exit->Act->World->Prop),
  (∀a' w' iq fr' H',aZ ds n a' fr'->Own g H' w'->cA l fr fr'->dB iq fr'->K iq fr' H'->wpList P ops Q rest a' w')->
  (∀ch a' w' fr' H',aZ ds n a' fr'->Own g H' w'->KP ch H'->Q (.panic ch) a' w')->wpList P ops Q (l++rest) a w
 |0,_,_,_,_,_,_,_,_,h=>h.elim
 |f+1,q,cur,kn,[],fr,H,K,KP,h=>λ_ hkn a w ha hw rest Q hk _=>hk a w kn fr H ha hw (cA.refl _ _) hkn h
 |f+1,q,cur,kn,o::r,fr,H,K,KP,h=>by
  intro lF hkn a w ha hw rest Q hk hp;unfold cf at h;cases Ei:bB o.guard cur<;>simp only[Ei,xaj,xah]at h
  case true=>
   have hg:=dU Ei;have ir:=lF.wanted hg ha;cases hd:cq n o.dst<;>simp only[hd,xaj,xah]at h;simp only[xaF,wpList,ir,xaS];refine .inl ?_;unfold Oper.wp;rw[ha.eval];cases qS:mE o.op<;>simp only[qS,xaj,xah]at h
   case true=>
    obtain⟨v,hk',hr,hv⟩:=o9 h;rw[hr w hw];exact bj f q cur _ r _ H K KP hk' (lF.tail λs hs=>cY hs) (hkn.up hv) _ w (ha.put hd v) hw rest Q (λa' w' iq fr' H' h1 h2 h3 h5 h4=>hk a' w' iq fr' H' h1 h2 h3.cons h5 h4) hp
   case false=>
    cases q<;>simp only[xaj,xah]at h
    case true=>
     obtain⟨v,f',args,hr,hs,hk'⟩:=uV h;rw[hr w];refine(hs w hw).mono λe w'' ⟨H',ho,he,hH⟩=>?_;subst he;subst hH;exact bj f true cur _ r _ H' K KP hk' (lF.tail λs hs=>cY hs) (hkn.del _ _) _ w'' (ha.put hd v) ho rest Q (λa' w' iq fr' H' h1 h2 h3 h5 h4=>hk a' w' iq fr' H' h1 h2 h3.cons h5 h4) hp
    case false=>
     refine(pe (jJ fr) h w hw).upon (λv H' w' ho hk'=>?_) (λch H' w' ho hk'=>hp ch a w' fr H' ha ho hk');exact bj f false cur _ r _ H' K KP hk' (lF.tail λs hs=>cY hs) (hkn.del _ _) _ w' (ha.put hd v) ho rest Q (λa' w' iq fr' H' h1 h2 h3 h5 h4=>hk a' w' iq fr' H' h1 h2 h3.cons h5 h4) hp
  case false=>
   split at h<;>try exact h.elim
   rename_i j want Gi;split at h<;>try exact h.elim
   rename_i s eZ;generalize hG:dw cur (o::r)=G at h;generalize hR:dQ cur (o::r)=R at h;have vk:G++R=o::r:=by rw[<-hG,<-hR];exact kM _ _
   cases c6:(cq n (some s) &&eC n G&& !aF G s&&gy ops s want [] G)<;>simp only[c6,xaj,xah]at h;simp only[xap,xbg]at c6;obtain⟨⟨⟨hds,Gt⟩,yM⟩,Gg⟩:=c6;rw[<-vk,xat];have MQ:∀fr',cA G fr fr'->∀s,aF (o::r) s=false->fr' s=fr s:=λfr' ho s hs=>by
    rw[<-vk,bf,xar]at hs;exact ho s hs.1
   have gK:∀fr',cA G fr fr'->fG ops cur R fr':=λfr' ho=>by
    unfold fG at lF⊢;split
    ·trivial
    obtain⟨t,h1,h2,h3⟩:=lF;have sx:=h3;rw[<-vk,bf,xar]at sx;exact⟨t,h1,(ho t sx.1).trans h2,sx.2⟩
   have wP:∀fr',cA G fr fr'->dB (fS kn G) fr':=λfr' ho=>hkn.Ir G ho;split at h
   ·rename_i b hb;have iy:=hkn s b hb;cases Dh:(b==want)<;>simp only[Dh,xaj,xah]at h
    ·have ia:b= !want:=by cases b<;>cases want<;>simp_all
     subst ia;refine gU G [] fr a Gt yM Gg iy (λt ht=>by simp at ht) ha λa' bU=>?_;refine bj f q cur _ R _ H K KP h (gK _ (bM G fr)) (wP _ (bM G fr)) a' w bU hw rest Q (λa2 w2 si kX H2 k1 k2 k3 k5 k4=>hk a2 w2 si kX H2 k1 k2 ?_ k5 k4) hp;intro x hx;have hx':=hx;rw[<-vk,bf,xar]at hx';rw[k3 x hx'.2,bM G fr x hx'.1]
    have ia:b=want:=by cases b<;>cases want<;>simp_all
    subst ia;refine bj f q o.guard kn G fr H _ KP h ?_ hkn a w ha hw (R++rest) Q ?_ hp
    ·rw[Gi];exact⟨s,eZ,iy,yM⟩
    intro a' w' iq fr' H' g1 g2 g3 g5 g4;refine bj f q cur iq R fr' H' K KP g4 (gK fr' g3) g5 a' w' g1 g2 rest Q (λa2 w2 si kX H2 k1 k2 k3 k5 k4=>hk a2 w2 si kX H2 k1 k2 ?_ k5 k4) hp;intro x hx;have hx':=hx;rw[<-vk,bf,xar]at hx';rw[k3 x hx'.2,g3 x hx'.1]
   rename_i Fp;cases N6:(q||gq)<;>simp only[N6,xaj,xah]at h
   case true=>
    split at h<;>try exact h.elim
    rename_i p r' ;have Kq:bB p.guard cur=true:=by
     have:∀l:List Oper,dQ cur l=p::r'->bB p.guard cur=true:=by
      intro l;induction l with
      |nil=>intro e;simp[dQ]at e
      |cons x y ih=>
       intro e;simp only[dQ]at e;cases hx:bB x.guard cur<;>simp only[hx,xaj,xah]at e
       ·exact ih e
       simp only[xbb]at e;rw[<-e.1];exact hx
     exact this _ hR
    cases hpk:(kf p&&cq n p.dst)<;>simp only[hpk,xaj,xah]at h;simp only[xap]at hpk;obtain⟨b,t,iy,h1,h2,h3⟩:=h;have Ax:∀(a':Act) (w':World) (fr':Fr),aZ ds n a' fr'->Own g H w'->cA G fr fr'->iO p fr'=.bool t->wpList P ops Q (p::r'++rest) a' w':=by
     intro a' w' fr' bU hw' ho Hx;have ir:=(gK fr' ho).wanted (dU Kq) bU;simp only[xaF,wpList,ir,xaS];refine .inl ?_;unfold Oper.wp;rw[bU.eval,iN hpk.1 Hx w'];have Aw:ko G fr' fr=fr':=by
      funext x
      simp only[ko];cases hx:aF G x
      ·exact(ho x hx).symm
      rfl
     have sx:=h3 fr';rw[Aw]at sx;refine bj f q cur _ r' _ H K KP sx ((gK fr' ho).tail λs hs=>cY hs) ((wP fr' ho).del _ _) _ w' (bU.put hpk.2 _) hw' rest Q (λa2 w2 si kX H2 g1 g2 g3 g5 g4=>hk a2 w2 si kX H2 g1 g2 ?_ g5 g4) hp;intro x hx;have hx':=hx;rw[<-vk,bf,xar,bF,xar]at hx';rw[g3 x hx'.2.2,cY hx'.2.1,ho x hx'.1]
    by_cases Dh:b=want
    ·subst Dh;have Dl:=h1 rfl;rw[fg iy]at Dl;refine bj f true o.guard _ G fr H _ _ Dl ?_ (hkn.put iy) a w ha hw (p::r'++rest) Q ?_ ?_
     ·rw[Gi];exact⟨s,eZ,iy,yM⟩
     ·intro a' w' iq fr' H' g1 g2 g3 _ ⟨g4,g5⟩;subst g4;exact Ax a' w' fr' g1 g2 g3 g5
     intro _ _ _ _ _ _ _ h0;exact h0.elim
    have ia:b= !want:=by cases b<;>cases want<;>simp_all
    have nv:=h2 ia;subst ia;rw[fg iy]at nv;refine gU G [] fr a Gt yM Gg iy (λt ht=>by simp at ht) ha λa' bU=>?_;exact Ax a' w _ bU hw (bM G fr) nv
   case false=>
    obtain⟨b,iy,h1,h2⟩:=h;by_cases Dh:b=want
    ·subst Dh;have Dl:=h1 rfl;rw[fg iy]at Dl;refine bj f q o.guard _ G fr H _ KP Dl ?_ (hkn.put iy) a w ha hw (R++rest) Q ?_ hp
     ·rw[Gi];exact⟨s,eZ,iy,yM⟩
     intro a' w' iq fr' H' g1 g2 g3 g5 g4;refine bj f q cur iq R fr' H' K KP g4 (gK fr' g3) g5 a' w' g1 g2 rest Q (λa2 w2 si kX H2 k1 k2 k3 k5 k4=>hk a2 w2 si kX H2 k1 k2 ?_ k5 k4) hp;intro x hx;have hx':=hx;rw[<-vk,bf,xar]at hx';rw[k3 x hx'.2,g3 x hx'.1]
    have ia:b= !want:=by cases b<;>cases want<;>simp_all
    have nv:=h2 ia;subst ia;rw[fg iy]at nv;refine gU G [] fr a Gt yM Gg iy (λt ht=>by simp at ht) ha λa' bU=>?_;refine bj f q cur _ R _ H K KP nv (gK _ (bM G fr)) ((wP _ (bM G fr)).put (by rw[bM G fr s yM,iy])) a' w bU hw rest Q (λa2 w2 si kX H2 k1 k2 k3 k5 k4=>hk a2 w2 si kX H2 k1 k2 ?_ k5 k4) hp;intro x hx;have hx':=hx;rw[<-vk,bf,xar]at hx';rw[k3 x hx'.2,bM G fr x hx'.1]
theorem bV{n:Nat}{ops:Array Oper}{gq:Bool}:∀(f:Nat) (cur:Option (Nat×Bool)) (kn:List (Nat×Bool)) (l:List Oper) (fr:Fr) (H:Hp) (K:List (Nat×Bool)->Fr->Hp->Prop) (KP:List PanicEntry->Hp->Prop),
  cf P g n ops gq f true cur kn l fr H K KP->fG ops cur l fr->dB kn fr->∀(a:Act),aZ ds n a fr->∀(rest:List Oper) (Q:Act->Prop),
  (∀a' iq fr',aZ ds n a' fr'->cA l fr fr'->dB iq fr'->K iq fr' H->wpQuiet P ops (Own g H) Q rest a')->wpQuiet P ops (Own g H) Q (l++rest) a
 |0,_,_,_,_,_,_,_,h=>h.elim
 |f+1,cur,kn,[],fr,H,K,KP,h=>λ_ hkn a ha rest Q hk=>hk a kn fr ha (cA.refl _ _) hkn h
 |f+1,cur,kn,o::r,fr,H,K,KP,h=>by
  intro lF hkn a ha rest Q hk;unfold cf at h;cases Ei:bB o.guard cur<;>simp only[Ei,xaj,xah]at h
  case true=>
   have hg:=dU Ei;have ir:=lF.wanted hg ha;cases hd:cq n o.dst<;>simp only[hd,xaj,xah]at h;simp only[xaF,wpQuiet,ir,xaS];cases qS:mE o.op<;>simp only[qS,xaj,xah]at h
   case true=>
    obtain⟨v,hk',hr,hv⟩:=o9 h;refine⟨v,λw hw=>?_,?_⟩
    ·unfold Oper.quietAt;rw[ha.eval,hr w hw];exact⟨rfl,rfl⟩
    exact bV f cur _ r _ H K KP hk' (lF.tail λs hs=>cY hs) (hkn.up hv) _ (ha.put hd v) rest Q (λa' iq fr' h1 h3 h5 h4=>hk a' iq fr' h1 h3.cons h5 h4)
   case false=>
    obtain⟨v,f',args,hr,hs,hk'⟩:=uV h;refine⟨v,λw hw=>?_,?_⟩
    ·unfold Oper.quietAt;rw[ha.eval,hr w];refine⟨rfl,(hs w hw).mono λe w'' ⟨H',ho,he,hH⟩=>?_⟩;subst hH;exact⟨he,ho⟩
    exact bV f cur _ r _ H K KP hk' (lF.tail λs hs=>cY hs) (hkn.del _ _) _ (ha.put hd v) rest Q (λa' iq fr' h1 h3 h5 h4=>hk a' iq fr' h1 h3.cons h5 h4)
  case false=>
   split at h<;>try exact h.elim
   rename_i j want Gi;split at h<;>try exact h.elim
   rename_i s eZ;generalize hG:dw cur (o::r)=G at h;generalize hR:dQ cur (o::r)=R at h;have vk:G++R=o::r:=by rw[<-hG,<-hR];exact kM _ _
   cases c6:(cq n (some s) &&eC n G&& !aF G s&&gy ops s want [] G)<;>simp only[c6,xaj,xah]at h;simp only[xap,xbg]at c6;obtain⟨⟨⟨hds,Gt⟩,yM⟩,Gg⟩:=c6;rw[<-vk,xat];have gK:∀fr',cA G fr fr'->fG ops cur R fr':=λfr' ho=>by
    unfold fG at lF⊢;split
    ·trivial
    obtain⟨t,h1,h2,h3⟩:=lF;have sx:=h3;rw[<-vk,bf,xar]at sx;exact⟨t,h1,(ho t sx.1).trans h2,sx.2⟩
   have wP:∀fr',cA G fr fr'->dB (fS kn G) fr':=λfr' ho=>hkn.Ir G ho;split at h
   ·rename_i b hb;have iy:=hkn s b hb;cases Dh:(b==want)<;>simp only[Dh,xaj,xah]at h
    ·have ia:b= !want:=by cases b<;>cases want<;>simp_all
     subst ia;refine iJ G [] fr a Gt yM Gg iy (λt ht=>by simp at ht) ha λa' bU=>?_;refine bV f cur _ R _ H K KP h (gK _ (bM G fr)) (wP _ (bM G fr)) a' bU rest Q (λa2 si kX k1 k3 k5 k4=>hk a2 si kX k1 ?_ k5 k4);intro x hx;have hx':=hx;rw[<-vk,bf,xar]at hx';rw[k3 x hx'.2,bM G fr x hx'.1]
    have ia:b=want:=by cases b<;>cases want<;>simp_all
    subst ia;refine bV f o.guard kn G fr H _ KP h ?_ hkn a ha (R++rest) Q ?_
    ·rw[Gi];exact⟨s,eZ,iy,yM⟩
    intro a' iq fr' g1 g3 g5 g4;refine bV f cur iq R fr' H K KP g4 (gK fr' g3) g5 a' g1 rest Q (λa2 si kX k1 k3 k5 k4=>hk a2 si kX k1 ?_ k5 k4);intro x hx;have hx':=hx;rw[<-vk,bf,xar]at hx';rw[k3 x hx'.2,g3 x hx'.1]
   rename_i Fp;simp only[Bool.true_or,xaj]at h;split at h<;>try exact h.elim
   rename_i p r' ;have Kq:bB p.guard cur=true:=by
    have:∀l:List Oper,dQ cur l=p::r'->bB p.guard cur=true:=by
     intro l;induction l with
     |nil=>intro e;simp[dQ]at e
     |cons x y ih=>
      intro e;simp only[dQ]at e;cases hx:bB x.guard cur<;>simp only[hx,xaj,xah]at e
      ·exact ih e
      simp only[xbb]at e;rw[<-e.1];exact hx
    exact this _ hR
   cases hpk:(kf p&&cq n p.dst)<;>simp only[hpk,xaj,xah]at h;simp only[xap]at hpk;obtain⟨b,t,iy,h1,h2,h3⟩:=h;have Ax:∀(a':Act) (fr':Fr),aZ ds n a' fr'->cA G fr fr'->iO p fr'=.bool t->wpQuiet P ops (Own g H) Q (p::r'++rest) a':=by
    intro a' fr' bU ho Hx;have ir:=(gK fr' ho).wanted (dU Kq) bU;simp only[xaF,wpQuiet,ir,xaS];refine⟨.bool t,λw hw=>?_,?_⟩
    ·unfold Oper.quietAt;rw[bU.eval,iN hpk.1 Hx w];exact⟨rfl,rfl⟩
    have Aw:ko G fr' fr=fr':=by
     funext x
     simp only[ko];cases hx:aF G x
     ·exact(ho x hx).symm
     rfl
    have sx:=h3 fr';rw[Aw]at sx;refine bV f cur _ r' _ H K KP sx ((gK fr' ho).tail λs hs=>cY hs) ((wP fr' ho).del _ _) _ (bU.put hpk.2 _) rest Q (λa2 si kX g1 g3 g5 g4=>hk a2 si kX g1 ?_ g5 g4);intro x hx;have hx':=hx;rw[<-vk,bf,xar,bF,xar]at hx';rw[g3 x hx'.2.2,cY hx'.2.1,ho x hx'.1]
   by_cases Dh:b=want
   ·subst Dh;have Dl:=h1 rfl;rw[fg iy]at Dl;refine bV f o.guard _ G fr H _ _ Dl ?_ (hkn.put iy) a ha (p::r'++rest) Q ?_
    ·rw[Gi];exact⟨s,eZ,iy,yM⟩
    intro a' iq fr' g1 g3 _ ⟨_,g5⟩;exact Ax a' fr' g1 g3 g5
   have ia:b= !want:=by cases b<;>cases want<;>simp_all
   have nv:=h2 ia;subst ia;rw[fg iy]at nv;refine iJ G [] fr a Gt yM Gg iy (λt ht=>by simp at ht) ha λa' bU=>?_;exact Ax a' _ bU (bM G fr) nv
end
end Go.Sx
namespace Go.Sx
open Go
section
variable {P:Program} {ops:Array Oper} {Q:Exit->Act->World->Prop} {md:Region.Mode} {S:Nat->World->World->Prop} {S0:World->Prop}
def cN(P:Program)(md:Region.Mode)(ops:Array Oper)(Q:Exit->Act->World->Prop)(S:Nat->World->World->Prop):Nat->Array Bool->Act->World->Prop
 |0,listed,a,w=>Region.ready md ops listed=[]/\Q .normal a w
 |n+1,listed,a,w=>(Region.ready md ops listed=[]->Q .normal a w)/\
  ∀i∈Region.ready md ops listed,wpOp P ops Q i (λa' w'=>S i w w'/\cN P md ops Q S n (listed.setIfInBounds i true) a' w') a w
theorem cN.any:∀{n:Nat} {listed:Array Bool} {a:Act} {w:World},cN P md ops Q S n listed a w->wpAny P md ops Q n listed a w
 |0,_,_,_,h=>h
 |_+1,_,_,_,h=>⟨h.1,λi hi=>wpOp_mono (λ_ _ h'=>h'.2.any) (h.2 i hi)⟩
theorem cN.mono{S':Nat->World->World->Prop}(hS:∀j w w',S j w w'->S' j w w'):∀{n:Nat} {listed:Array Bool} {a:Act} {w:World},cN P md ops Q S n listed a w->cN P md ops Q S' n listed a w
 |0,_,_,_,h=>h
 |_+1,_,_,_,h=>⟨h.1,λi hi=>wpOp_mono (λ_ _ h'=>⟨hS _ _ _ h'.1,h'.2.mono hS⟩) (h.2 i hi)⟩
def D5(md:Region.Mode)(ops:Array Oper)(i j:Nat):Prop:=∀oj,ops[j]? =some oj->∀e∈oj.after,Region.binds md e=true->e.on≠i
def cQ(md:Region.Mode)(ops:Array Oper)(listed:Array Bool):Prop:=∀j oj,ops[j]? =some oj->listed.getD j true=true->∀e∈oj.after,Region.binds md e=true->listed.getD e.on true=true
inductive iF(md:Region.Mode)(ops:Array Oper)(i:Nat):Nat->Prop
 |one {j:Nat} {oj:Oper} {e:Edge}:ops[j]? =some oj->e∈oj.after->Region.binds md e=true->e.on=i->iF md ops i j
 |more {j:Nat} {oj:Oper} {e:Edge}:ops[j]? =some oj->e∈oj.after->Region.binds md e=true->iF md ops i e.on->iF md ops i j
theorem pI{a:Array Bool}{i:Nat}(h:a.getD i false=true):a.getD i true=true:=by
 rw[xai]at*;cases hg:a[i]? with
 |none=>rfl
 |some b=>rw[hg]at h;simpa using h
theorem kW{a:Array Bool}{i k:Nat}(h:a.getD k true=true):(a.setIfInBounds i true).getD k true=true:=by
 by_cases e:i=k
 ·subst e;rw[xai,xcV];split<;>rfl
 rw[getD_set_ne true e];exact h
theorem cQ.waits{listed:Array Bool}(hc:cQ md ops listed){i j:Nat}(h:iF md ops i j):listed.getD j true=true->listed.getD i true=true:=by
 induction h with
 |one h1 h2 h3 h4=>intro h;rw[<-h4];exact hc _ _ h1 h _ h2 h3
 |more h1 h2 h3 _ ih=>intro h;exact ih (hc _ _ h1 h _ h2 h3)
theorem cQ.ready{listed:Array Bool}(hc:cQ md ops listed){i j:Nat}(hj:j∈Region.ready md ops listed)(h:iF md ops i j):listed.getD i true=true:=by
 obtain⟨_,oj,er,aL⟩:=mem_ready.1 hj;cases h with
 |one h1 h2 h3 h4=>rw[er]at h1;cases h1;rw[<-h4];exact pI (aL _ h2 h3)
 |more h1 h2 h3 h4=>rw[er]at h1;cases h1;exact hc.waits h4 (pI (aL _ h2 h3))
theorem cQ.step{listed:Array Bool}(hc:cQ md ops listed){j:Nat}(hj:j∈Region.ready md ops listed):cQ md ops (listed.setIfInBounds j true):=by
 intro k ok hk hl e he hb;by_cases Fu:j=k
 ·subst Fu;obtain⟨_,oj,er,aL⟩:=mem_ready.1 hj;rw[hk]at er;cases er;exact kW (pI (aL e he hb))
 rw[getD_set_ne true Fu]at hl;exact kW (hc k ok hk hl e he hb)
theorem cQ.none(n:Nat)(h:ops.size=n):cQ md ops (Array.replicate n false):=by
 intro j oj hj hl;exfalso;have hlt:=(xaz.1 hj).1;rw[xai,xb8,xaf zO]at hl;cases hl
theorem cN.first{i:Nat}{oi:Oper}{v:zV}(hi:ops[i]? =some oi)(hsel:Region.noSelect ops=true)(hQ:∀c a w,Q (.panic c) (a.put oi.dst v) w->Q (.panic c) a w)
 (Jh:∀w,S0 w->S i w w)(hS:∀j oj w w',ops[j]? =some oj->j≠i->¬iF md ops i j->S0 w->S j w w'->S0 w'):∀(n:Nat) (listed:Array Bool) (a:Act) (w:World),cQ md ops listed->
   (∀j oj,ops[j]? =some oj->j≠i->listed.getD j true=false->D5 md ops i j->oi.apart ops oj=true)->i∈Region.ready md ops listed->YieldsIf P ops S0 oi v a->S0 w->
   cN P md ops Q S n (listed.setIfInBounds i true) (a.put oi.dst v) w->cN P md ops Q S (n+1) listed a w:=by
 have Ms:=Region.noSelect_spec hsel;intro n;induction n with
 |zero=>
  intro listed a w hc hfree hr hy h0 h;refine⟨λe=>absurd hr (by rw[e];simp),λj hj=>?_⟩;by_cases e:j=i
  ·rw[e];exact hy.wpOp hi h0 ⟨Jh _ h0,h⟩
  exact absurd (ready_mono hj e) (by rw[h.1];simp)
 |succ n ih=>
  intro listed a w hc hfree hr hy h0 h;refine⟨λe=>absurd hr (by rw[e];simp),λj hj=>?_⟩;by_cases e:j=i
  ·rw[e];exact hy.wpOp hi h0 ⟨Jh _ h0,h⟩
  obtain⟨hun,oj,er,aL⟩:=mem_ready.1 hj;have hno:D5 md ops i j:=λo ho x hx hb he=>by
   rw[er]at ho;cases ho;have h1:=aL x hx hb;have h2:=(mem_ready.1 hr).1;rw[he]at h1;rw[xai]at h1 h2;cases hg:listed[i]? with
   |none=>rw[hg]at h1;simp at h1
   |some y=>rw[hg]at h1 h2;simp at h1 h2;rw[h2]at h1;cases h1
  have HA:¬iF md ops i j:=λhw=>by
   have h1:=hc.ready hj hw;rw[(mem_ready.1 hr).1]at h1;cases h1
  refine wpOp_mono ?_ (wpOp_putIf er (hfree j oj er e hun hno) (λcs b=>Ms i oi cs b hi) (λcs b=>Ms j oj cs b er) hQ hy (h.2 j (ready_mono hj e)));rintro a' w' ⟨hy',hs',Ao⟩;refine⟨hs',ih _ _ _ (hc.step hj) (λk ok hk Fq CX Aq=>hfree k ok hk Fq ?_ Aq) (ready_mono hr (xbJ e)) hy' (hS j oj w w' er e HA h0 hs') (by rw[Array.setIfInBounds_comm _ _ e];exact Ao)⟩;by_cases Fu:j=k
  ·rw[<-Fu];exact hun
  rw[<-CX,getD_set_ne true Fu]
theorem cN.take{i:Nat}{oi:Oper}{v:zV}{n:Nat}{listed:Array Bool}{a:Act}{w:World}(hc:cQ md ops listed)(hi:ops[i]? =some oi)(hsel:Region.noSelect ops=true)(hf:Region.free md ops listed i=true)
 (hr:(Region.ready md ops listed).contains i=true)(hQ:∀c a w,Q (.panic c) (a.put oi.dst v) w->Q (.panic c) a w)(Jh:∀w,S0 w->S i w w)(hS:∀j oj w w',ops[j]? =some oj->j≠i->¬iF md ops i j->S0 w->S j w w'->S0 w')
 (hy:YieldsIf P ops S0 oi v a)(h0:S0 w)(h:cN P md ops Q S n (listed.setIfInBounds i true) (a.put oi.dst v) w):cN P md ops Q S (n+1) listed a w:=
 cN.first hi hsel hQ Jh hS n listed a w hc (λj oj h1 h2 h3 h4=>Region.free_spec hi hf j oj h1 h2 h3 (h4 oj h1)) (by simpa using hr) hy h0 h
theorem cN.all{rs:zL}{n:Nat}{listed:Array Bool}{a:Act}{w:World}(hr:Region.ready md ops listed=rs)(hne:rs≠[])
 (h:∀i∈rs,wpOp P ops Q i (λa' w'=>S i w w'/\cN P md ops Q S n (listed.setIfInBounds i true) a' w') a w):cN P md ops Q S (n+1) listed a w:=
 ⟨λh0=>absurd (hr▸h0) hne,hr▸h⟩
theorem cN.done{listed:Array Bool}{a:Act}{w:World}(hr:Region.ready md ops listed=[])(h:Q .normal a w):∀n,cN P md ops Q S n listed a w
 |0=>⟨hr,h⟩
 |_+1=>⟨λ_=>h,by rw[hr];simp⟩
def JT(j:Oper)(i:Nat):Bool:=j.after.toList.any λe=>Nat.beq e.on i&&Region.binds .any e
def Hi(P:Program):Op->Bool
 | .move _| .assign _| .pick .. | .nilCheck _| .fieldAddr .. | .field .. | .indexAddr .. | .unOp .. =>true
 | .slice t _ _ _ none=>match P.underlying t with|some (.slice _)=>true|_=>false
 | .binOp _ t x y _=>match P.underlying t with
  |some d=>match GF d x y with| .other=>false|_=>true
  |none=>true
 |_=>false
theorem qv{g:Gh}{o:Oper}(h:Hi P o.op=true)(ρ:Operand->zV)(H H':Hp)(k:zV->Prop):wm P g o ρ H k=wm P g o ρ H' k:=by
 obtain⟨d,op,t,p,a,gd⟩:=o;cases op<;>first|rfl|(simp only[Hi]at h;first|cases h|skip)
 case binOp op t x y z=>
  simp only[wm];cases hu:P.underlying t with
  |none=>rfl
  |some d=>
   simp only[hu]at h;cases hb:GF d x y<;>simp only[hb]at h⊢;cases h
 case slice t x lo hi m=>
  cases m with
  |none=>
   simp only[wm];cases hu:P.underlying t with
   |none=>simp[hu]at h
   |some d=>cases d<;>first|rfl|(exfalso;simp[hu]at h)
  |some m=>cases h
def nG(P:Program)(o:Op):Bool:=mE o&& !Hi P o
def uW(P:Program)(ops:Array Oper)(j:Nat):Bool:=match ops[j]? with
 |some oj=>(List.range ops.size).any λi=>match ops[i]? with|some oi=>nG P oi.op&& !JT oj i&& !Nat.beq i j|none=>false
 |none=>true
def iH(ops:Array Oper)(i:Nat):Nat->Nat->Bool
 |0,_=>false
 |n+1,j=>match ops[j]? with
  |some oj=>oj.after.toList.any λe=>Region.binds .any e&& (Nat.beq e.on i||iH ops i n e.on)
  |none=>false
theorem kK{i:Nat}:∀{n j:Nat},iH ops i n j=true->iF .any ops i j
 |0,j,h=>by simp[iH]at h
 |n+1,j,h=>by
  unfold iH at h;split at h
  ·rename_i oj er;obtain⟨e,he,h2⟩:=xbH.1 h;simp only[xap,xbA]at h2;rcases h2.2 with h3|h3
   ·exact .one er (xcA.1 he) h2.1 (xam h3)
   exact .more er (xcA.1 he) h2.1 (kK h3)
  cases h
def kR(P:Program)(ops:Array Oper)(j:Nat):Bool:=(List.range ops.size).any λi=>match ops[i]? with|some oi=>nG P oi.op&& !iH ops i 6 j&& !Nat.beq i j|none=>false
def vM(P:Program)(g:Gh)(R:Hp)(ops:Array Oper)(j:Nat)(w w':World):Prop:=∀oj,ops[j]? =some oj->(mE oj.op=true->w'=w)/\(mE oj.op=false->Own g [] w'/\(kR P ops j=true->Own g R w->Own g R w'))
def jd(P:Program)(g:Gh)(Xs:List Hp)(ops:Array Oper)(j:Nat)(w w':World):Prop:=∀X∈Xs,vM P g X ops j w w'
theorem fP{i j:Nat}{oi:Oper}(hi:ops[i]? =some oi)(hp:nG P oi.op=true)(hne:j≠i)(h:¬iF .any ops i j):kR P ops j=true:=by
 unfold kR;rw[xbH];refine⟨i,xa8.2 (xaz.1 hi).1,?_⟩;simp only[hi,hp,xcE,xap,xbg];refine⟨?_,?_⟩
 ·cases hb:iH ops i 6 j
  ·rfl
  exact absurd (kK hb) h
 cases hb:Nat.beq i j
 ·rfl
 exact absurd (xam hb).symm hne
theorem mz{j:Nat}(h:kR P ops j=true):uW P ops j=true:=by
 unfold kR at h;obtain⟨i,hi,h2⟩:=xbH.1 h;unfold uW;split
 ·rename_i oj er;refine xbH.2 ⟨i,hi,?_⟩;split at h2
  ·rename_i oi gW;simp only[xap,xbg]at h2⊢;refine⟨⟨h2.1.1,?_⟩,h2.2⟩;cases hb:JT oj i
   ·rfl
   have h3:=h2.1.2;unfold iH at h3;simp only[er]at h3;unfold JT at hb;obtain⟨e,he,h4⟩:=xbH.1 hb;rw[<-Bool.not_eq_true,xbH]at h3;refine absurd ⟨e,he,?_⟩ h3;simp only[xap,xbA]at h4⊢;exact⟨h4.2,.inl h4.1⟩
  cases h2
 rfl
end
end Go.Sx
namespace Go.Sx
open Go
section
variable {P:Program} {g:Gh} {ds:List Deferred}
def vP(b:Bool)(p q:Prop):Prop:=cond b (p/\q) q
theorem vP.of{b:Bool}{p q:Prop}(h:vP b p q):(b=true->p)/\q:=by
  cases b
  · exact⟨λe=>(by cases e),h⟩
  · exact⟨λ_=>h.1,h.2⟩
def zy(P:Program)(ops:Array Oper)(T:zL)(i:Nat):Bool:=cond T.isEmpty (uW P ops i) (kR P ops i)
theorem zx{ops:Array Oper}{T:zL}{i:Nat}(h:kR P ops i=true):zy P ops T i=true:=by
  unfold zy;cases T.isEmpty
  · exact h
  · exact mz h
def xm(P:Program)(g:Gh)(n:Nat)(ops:Array Oper)(R:Hp)(K:Fr->Hp->Prop):zL->Array Bool->Fr->Hp->Prop
  | [],listed,fr,H=>cond (Region.ready .any ops listed).isEmpty (K fr H) False
  |i::r,listed,fr,H=>
    match ops[i]? with
    |none=>False
    |some o=>
      cond (cq n o.dst&&o.guard.isNone)
        (cond (mE o.op)
          (cond (Region.free .any ops listed i&& (Region.ready .any ops listed).contains i)
            (wm P g o (ev fr) R λv=>xm P g n ops R K r (listed.setIfInBounds i true) (bX fr o.dst v) H) False)
          (cond (Region.ready .any ops listed==[i])
            (Ga P g o (ev fr) H (λv H'=>vP (uW P ops i) (aN H' R) (xm P g n ops R K r (listed.setIfInBounds i true) (bX fr o.dst v) H')) (λ_ _=>False)) False)) False
def jQ(Q:Exit->Act->World->Prop):Exit->Act->World->Prop
  | .panic _,_,_=>False
  |e,a,w=>Q e a w
theorem eW{o:Oper}(h:o.guard.isNone=true)(y:Nat->Option Bool):Region.wanted o y=true:=by
  unfold Region.wanted;cases hg:o.guard<;>simp_all
theorem Own.e8{g:Gh}{H:Hp}{w:World}(h:Own g H w):Own g [] w:=Own.right (A:=H) (B:=[]) (by simpa using h)
theorem dc{listed:Array Bool}{i k:Nat}(hun:listed.getD i true=false)(h:(listed.setIfInBounds i true).getD k true=false):listed.getD k true=false:=by
  by_cases e:i=k
  · rw[<-e];exact hun
  · rwa [getD_set_ne true e]at h
theorem jL{n:Nat}{ops:Array Oper}{R:Hp}{K:Fr->Hp->Prop}{Q:Exit->Act->World->Prop}(hs:Region.noSelect ops=true)(nM:Fr)
   (hk:∀a w fr H,aZ ds n a fr->Own g H w->cA ops.toList nM fr->K fr H->Q .normal a w):
    ∀(l:zL) (listed:Array Bool) (fr:Fr) (H:Hp),xm P g n ops R K l listed fr H->∀(fuel:Nat),l.length<=fuel->cQ .any ops listed->∀(a:Act) (w:World),aZ ds n a fr->Own g H w->((∃k ok,ops[k]? =some ok/\nG P ok.op=true/\listed.getD k true=false)->Own g R w)->cA ops.toList nM fr->
      cN P .any ops (jQ Q) (vM P g R ops) fuel listed a w
  | [],listed,fr,H,h=>by
    intro fuel _ dZ a w ha hw hR ho;unfold xm at h;cases hr:(Region.ready .any ops listed).isEmpty<;>simp only[hr,xaj,xah]at h;exact cN.done (Q:=jQ Q) (by simpa using hr) (hk a w fr H ha hw ho h) fuel
  |i::r,listed,fr,H,h=>by
    intro fuel hfuel dZ a w ha hw hR ho;unfold xm at h;split at h<;>try exact h.elim
    rename_i o gW;have hmem:o∈ops.toList:=xcA.2 (Array.mem_of_getElem? gW);have hout:∀v,cA ops.toList nM (bX fr o.dst v):=λv s hs'=>by
      rw[cY,ho s hs'];have:∀l:List Oper,o∈l->aF l s=false->aF [({(default:Oper)with dst:=o.dst})] s=false:=by
        intro l;induction l with
        |nil=>intro h;simp at h
        |cons x y ih=>
          intro hm hi;rw[bF,xar]at hi;rcases xag.1 hm with rfl|hm
          · exact hi.1
          · exact ih hm hi.2
      exact this _ hmem hs'
    cases hc:(cq n o.dst&&o.guard.isNone)<;>simp only[hc,xaj,xah]at h;simp only[xap]at hc;obtain⟨fuel,rfl⟩:∃f,fuel=f+1:=⟨fuel-1,by simp only[xak]at hfuel;omega⟩;have sr:r.length<=fuel:=by simp only[xak]at hfuel;omega
    cases qS:mE o.op<;>simp only[qS,xaj,xah]at h
    case true=>
      cases gL:(Region.free .any ops listed i&& (Region.ready .any ops listed).contains i)<;>simp only[gL,xaj,xah]at h;simp only[xap]at gL;have hun:=(mem_ready.1 (by simpa using gL.2:i∈Region.ready .any ops listed)).1;have mG:∀w,vM P g R ops i w w:=λw oj gl=>⟨λ_=>rfl,λhn=>(by rw[gW]at gl;cases gl;rw[qS]at hn;cases hn)⟩;cases hn:Hi P o.op
      case true=>
        rw[qv hn (ev fr) R []]at h;obtain⟨v,hk',hr⟩:=fj h;refine cN.take dZ (S0:=Own g []) gW hs gL.1 gL.2 (λ_ _ _ h=>h) (λw _=>mG w) (λj oj w w' er hj hno h0 hk=>?_) (.inl ⟨eW hc.2 _,λw' hw'=>by rw[ha.eval];exact hr w' hw'⟩) hw.e8 ?_
        · cases pD:mE oj.op
          · exact((hk oj er).2 pD).1
          · rw[(hk oj er).1 pD];exact h0
        · refine jL hs nM hk r _ _ H hk' fuel sr (dZ.step (by simpa using gL.2)) _ w (ha.put hc.1 v) hw ?_ (hout v)
          rintro⟨k,ok,jU,ou,jF⟩;exact hR ⟨k,ok,jU,ou,dc hun jF⟩
      case false=>
        obtain⟨v,hk',hr⟩:=fj h;have hrd:nG P o.op=true:=by simp[nG,qS,hn]
        have HZ:Own g R w:=hR ⟨i,o,gW,hrd,hun⟩;refine cN.take dZ (S0:=Own g R) gW hs gL.1 gL.2 (λ_ _ _ h=>h) (λw _=>mG w) (λj oj w w' er hj hno h0 hk=>?_) (.inl ⟨eW hc.2 _,λw' hw'=>by rw[ha.eval];exact hr w' hw'⟩) HZ ?_
        · cases pD:mE oj.op
          · exact((hk oj er).2 pD).2 (fP gW hrd hj hno) h0
          · rw[(hk oj er).1 pD];exact h0
        · exact jL hs nM hk r _ _ H hk' fuel sr (dZ.step (by simpa using gL.2)) _ w (ha.put hc.1 v) hw (λ_=>HZ) (hout v)
    case false=>
      cases gL:(Region.ready .any ops listed==[i])<;>simp only[gL,xaj,xah]at h;have hrd:=xcx.1 gL;have yL:i∈Region.ready .any ops listed:=by rw[hrd];simp
      refine cN.all hrd zI λj hj=>?_;simp only[xaG]at hj;subst hj;unfold wpOp;simp only[gW,eW hc.2,xaS];refine .inl ?_;unfold Oper.wp;rw[ha.eval];refine(pe (jJ fr) h w hw).upon (λv H' w' cy hb=>?_) (λch H' w' _ h0=>h0.elim);obtain⟨he,hk'⟩:=hb.of;refine⟨λoj gl=>⟨λhp=>(by rw[gW]at gl;cases gl;rw[qS]at hp;cases hp),λ_=>⟨cy.e8,λhn _=>he (mz hn) _ _ cy⟩⟩,jL hs nM hk r _ _ H' hk' fuel sr (dZ.step yL) _ w' (ha.put hc.1 v) cy ?_ (hout v)⟩;rintro⟨k,ok,jU,ou,jF⟩;refine he (mz ?_) _ _ cy;have Fq:j≠k:=λe=>by
        subst e;rw[xai,xcV]at jF;have:=(mem_ready.1 yL).1;rw[xai]at this;split at jF
        · simp at jF
        · rename_i hlt;rw[xbE zO]at this;simp at this
      rw[getD_set_ne true Fq]at jF;refine fP jU ou Fq λhw=>?_;rw[dZ.ready yL hw]at jF;cases jF
abbrev Mk:=Obj×(Nat->zV)
def BG(elem size bytes:Nat)(zero:zV)(l c:zV)(k:Mk->Prop):Prop:=
  ∃kl kc ln cn,l=.int kl (ln:Nat)/\c=.int kc (cn:Nat)/\ln<=cn/\(cn:Int)<=9223372036854775807/\cn*bytes<=281474976710656/\
    k (.cells (madeCells zero.cells (cn*size)) elem (0,0),λb=>.slice (some ⟨b,0,none⟩) ln cn)
def BN(P:Program)(t len:Nat)(parts:List (Nat×zV))(k:Mk->Prop):Prop:=
  ∃cs e n z,P.underlying t=some (.slice e)/\bL P e=some n/\c8 P e=some z/\len*n<=2^24/\
      Instr.fill (λi=>some (i*n,n)) ((Array.range (len*n)).map (z.cells[· %z.cells.size]!)) parts=some cs/\k (.cells cs e (0,0),λb=>.slice (some ⟨b,0,none⟩) len len)
def Claim(P:Program)(o:Oper)(ρ:Operand->zV)(k:Mk->Prop):Prop:=
  match o.op with
  | .alloc t=>match c8 P t with
    |some z=>k (.cells z.cells t (0,0),λb=>.pointer (some ⟨b,0,none⟩))
    |none=>False
  | .makeMap _ none=>k (.map #[] 0,λb=>.map (some b))
  | .makeSlice t l c=>match P.underlying t with
    |some (.slice e)=>match bL P e,mT P e,c8 P e with
      |some n,some b,some z=>BG e n b z (ρ l) (ρ c) k
      |_,_,_=>False
    |_=>False
  | .buildSlice t len parts=>BN P t len (parts.toList.map λp=>(p.1,ρ p.2)) k
  |_=>False
def oU(P:Program)(o:Oper)(ρ:Operand->zV)(x:Mk):Prop:=∀w,(execOp ρ o).run P w=.ok (.value (x.2 w.heap.size)) (w.alloc x.1)
theorem Claim.makes{o:Oper}{ρ:Operand->zV}{k:Mk->Prop}(h:Claim P o ρ k):∃x,oU P o ρ x/\k x:=by
  unfold Claim at h;split at h
  · rename_i t hop
    split at h<;>try exact h.elim
    rename_i z hz;obtain⟨i,hi,pE⟩:=bP hz;refine⟨_,λw=>?_,h⟩;simp only[execOp,hop];simp[Instr.alloc,cH hi pE,newVar,newRow]
  · rename_i t hop
    refine⟨_,λw=>?_,h⟩;simp only[execOp,hop];simp[Instr.makeMap]
  · rename_i t l c hop
    split at h<;>try exact h.elim
    rename_i e ht;split at h<;>try exact h.elim
    rename_i n b z hn hb hz;obtain⟨i,hi,hin⟩:=aD hn;obtain⟨i',hi',pE⟩:=bP hz;obtain⟨i2,BR,HL⟩:=gP hb;have e1:i'=i:=xbh (hi'.symm.trans hi);have e2:i2=i:=xbh (BR.symm.trans hi);subst e1;subst e2;obtain⟨kl,kc,ln,cn,hl,hc,hlc,mI,hby,hk⟩:=h;subst hin;subst HL;refine⟨_,λw=>?_,hk⟩;have e1:IntKind.i64.wrap (ln:Int)=ln:=IntWalk.i64_in _ zO;have e2:IntKind.i64.wrap (cn:Int)=cn:=IntWalk.i64_in _ zO;have e3:¬((i2.bytes:Int)*(cn:Int)>281474976710656):=by
      have:((cn*i2.bytes:Nat):Int)<=281474976710656:=by omega
      rw[Int.mul_comm];push_cast at this;omega
    have e4:¬((cn:Int)<ln):=by omega
    simp only[execOp,hop];by_cases h0:cn*i2.size=0
    · simp[Instr.makeSlice,run_underlying ht,asInt,asIntOf,typeInfo,hi,hl,hc,e1,e2,e3,e4,sizeOf,zeroValue,pE,newRow,madeCells,h0,show¬((cn:Int)<0)from by omega,show¬((ln:Int)<0)from by omega]
      have:Array.range 0=#[]:=rfl;simp[this]
    · simp[Instr.makeSlice,run_underlying ht,asInt,asIntOf,typeInfo,hi,hl,hc,e1,e2,e3,e4,sizeOf,zeroValue,pE,newRow,madeCells,h0,show¬((cn:Int)<0)from by omega,show¬((ln:Int)<0)from by omega]
  · rename_i t len parts hop
    obtain⟨cs,e,n,z,ht,hn,hz,hl,hf,hk⟩:=h;obtain⟨i,hi,hin⟩:=aD hn;obtain⟨i',hi',pE⟩:=bP hz;have:i'=i:=xbh (hi'.symm.trans hi);subst this;subst hin;refine⟨_,λw=>?_,hk⟩;have hl':¬(len*i'.size>2^24):=by omega
    have vc:(parts.map λ(x:Nat×Operand)=>(x.1,ρ x.2)).toList=parts.toList.map λp=>(p.1,ρ p.2):=by rw[xc0]
    by_cases h0:len*i'.size=0
    · simp only[execOp,hop,Instr.buildSlice,Sem.run_bind,run_underlying ht,Result.andThen_ok,run_sizeOf hi,hl',xaD,h0,xaS,Sem.run_pure]
      rw[h0]at hf;have Kn:Array.range 0=#[]:=rfl;simp only[Kn,xdA,List.map_toArray,xcJ]at hf⊢;rw[vc,hf];simp[newRow]
    · simp only[execOp,hop,Instr.buildSlice,Sem.run_bind,run_underlying ht,Result.andThen_ok,run_sizeOf hi,hl',xaD,h0,cH hi pE,Sem.run_pure]
      simp[hf,newRow]
  · exact h.elim
abbrev uJ:=List (Nat×Mk)
def marks:uJ->Nat->Array Bool->Array Bool
  | [],_,l=>l
  |x::r,i,l=>marks r i (cond (Nat.beq x.1 i) l (l.setIfInBounds x.1 true))
def cK(ops:Array Oper)(o:Oper)(i:Nat)(listed:Array Bool):uJ->Bool
  | []=>true
  |x::r=>(Nat.beq x.1 i||listed.getD x.1 true||(match ops[x.1]? with|some of=>of.apart ops o|none=>false)) &&cK ops o i listed r
def cO:uJ->Nat->Option Mk
  | [],_=>none
  |x::r,i=>cond (Nat.beq x.1 i) (some x.2) (cO r i)
def BD(listed:Array Bool):uJ->Bool
  | []=>true
  |x::r=>listed.getD x.1 false&&BD listed r
inductive Hn
  |e
  |h(m:Nat)(L I:zL)(a b:Hn)
def Hn.m:Hn->Nat| .e=>0| .h m _ _ _ _=>m
def Hn.L:Hn->zL| .e=>[]| .h _ L _ _ _=>L
def Hn.I:Hn->zL| .e=>[]| .h _ _ I _ _=>I
def Hn.a:Hn->Hn| .e=>.e| .h _ _ _ a _=>a
def Hn.b:Hn->Hn| .e=>.e| .h _ _ _ _ b=>b
def Br(v:zV)(t f:Prop):Prop:=∃b,v=.bool b/\(b=true->t)/\(b=false->f)
def Fb(p:Oper)(fr:Fr):zV:=
  match p.op with
  | .move x=>ev fr x
  | .assign x=>ev fr x
  |_=>iO p fr
def wK(p:Oper):Bool:=match p.op with| .pick .. =>true| .move _=>true| .assign _=>true|_=>false
theorem z7{p:Oper}{fr:Fr}{t:Bool}(hp:wK p=true)(h:Fb p fr=.bool t)(w:World):(execOp (ev fr) p).run P w=.ok (.value (.bool t)) w:=by
  unfold wK at hp;unfold Fb at h;split at h
  · rename_i x hop;simp only[execOp,hop,h];rfl
  · rename_i x hop;simp only[execOp,hop,h];rfl
  · rename_i h1 h2
    split at hp
    · rename_i hop;exact iN (by unfold kf;rw[hop]) h w
    · rename_i x hop;exact absurd hop (h1 x)
    · rename_i x hop;exact absurd hop (h2 x)
    · cases hp
theorem Ae{p:Oper}(hp:wK p=true):mE p.op=true:=by
  unfold wK at hp;split at hp<;>first|(rename_i hop;rw[hop];rfl)|cases hp
def o3(ops:Array Oper)(fr:Fr)(o:Oper):Option Bool:=
  match o.guard with
  |none=>some true
  |some (j,want)=>match cC ops j with
    |none=>none
    |some s=>match fr s with
      | .bool b=>some (b==want)
      | .tuple _=>some false
      |_=>none
def ie(P:Program)(g:Gh)(n:Nat)(ops:Array Oper)(R:Hp)(K:Fr->Hp->Prop):Hn->uJ->Array Bool->Fr->Hp->Prop
  | .e,cl,listed,fr,H=>cond ((Region.ready .any ops listed).isEmpty&&BD listed cl) (K fr H) False
  | .h m L T pa pb,cl,listed,fr,H=>
    match L with
    | [i]=>
      match ops[i]? with
      |none=>False
      |some o=>
        cond (Nat.beq m 1)
          (cond (cq n o.dst&&o.guard.isNone&& !mE o.op&& !listed.getD i true&&cK ops o i listed cl&& (match cO cl i with|none=>true|some _=>false))
            (Claim P o (ev fr) λx=>ie P g n ops R K pa ((i,x)::cl) listed fr H) False)
          (cond (cq n o.dst&&cK ops o i listed cl&& (Region.ready .any ops listed).contains i)
            (match o3 ops fr o with
            |none=>False
            |some false=>cond (Region.free .any ops listed i&& (match cO cl i with|none=>true|some _=>false)) (ie P g n ops R K pa cl (listed.setIfInBounds i true) (bX fr o.dst undef) H) False
            |some true=>
              cond (Nat.beq m 3) (cond (wK o&&Region.free .any ops listed i) (match Fb o fr with
                | .bool b=>ie P g n ops R K pa cl (listed.setIfInBounds i true) (bX fr o.dst (.bool b)) H
                |_=>False) False)
              (cond (mE o.op)
                (cond (Region.free .any ops listed i)
                  (wm P g o (ev fr) R λv=>cond (Nat.beq m 0) (ie P g n ops R K pa cl (listed.setIfInBounds i true) (bX fr o.dst v) H)
                    (Br v (ie P g n ops R K pa cl (listed.setIfInBounds i true) (bX fr o.dst (.bool true)) H) (ie P g n ops R K pb cl (listed.setIfInBounds i true) (bX fr o.dst (.bool false)) H))) False)
                (cond (Region.ready .any ops (marks cl i listed)==[i])
                  (match cO cl i with
                    |some x=>vK H x.1 λb H'=>ie P g n ops R K pa cl (listed.setIfInBounds i true) (bX fr o.dst (x.2 b)) H'
                    |none=>∀F,Ga P (g.add F) o (ev fr) H (λv H'=>vP (zy P ops T i) (aN H' R) (ie P g n ops R K pa cl (listed.setIfInBounds i true) (bX fr o.dst v) H')) (λ_ _=>False)) False))) False)
    | []=>cond (Nat.beq m 4) (∃R',aN H R'/\aN R' R/\ie P g n ops R' K pa cl listed fr H) False
    |_=>False
theorem A7{cl:uJ}{i:Nat}{x:Mk}(h:cO cl i=some x):(i,x)∈cl:=by
  induction cl with
  |nil=>simp[cO]at h
  |cons y r ih=>
    simp only[cO]at h;cases hb:Nat.beq y.1 i<;>simp only[hb,xaj,xah]at h
    · exact xb6 _ (ih h)
    · have:=xam hb
      simp only[xao]at h;subst this;subst h;exact xdl
theorem xe{cl:uJ}{i:Nat}(h:i∈cl.map Prod.fst):∃x,cO cl i=some x:=by
  induction cl with
  |nil=>simp at h
  |cons y r ih=>
    simp only[cO];cases hb:Nat.beq y.1 i
    · simp only[xah]
      rw[xay,xag]at h;rcases h with h|h
      · subst h;simp at hb
      · exact ih h
    · exact⟨_,rfl⟩
theorem eJ{cl:uJ}{i:Nat}{x:Mk}(h:cO cl i=some x):i∈cl.map Prod.fst:=xaq.2 ⟨_,A7 h,rfl⟩
theorem oe{l:uJ}{i:Nat}{b:Array Bool}{k:Nat}:(marks l i b)[k]? =if k∈l.map Prod.fst/\k≠i/\k<b.size then some true else b[k]? :=by
  induction l generalizing b with
  |nil=>simp[marks]
  |cons y r ih=>
    simp only[marks];cases hy:Nat.beq y.1 i
    · have hne:y.1≠i:=λe=>by rw[e]at hy;simp at hy
      simp only[xah,ih,Array.size_setIfInBounds];by_cases hk:k∈r.map Prod.fst/\k≠i/\k<b.size
      · rw[xaf hk,xaf ⟨by rw[xay];exact xb6 _ hk.1,hk.2⟩]
      · rw[xac hk]
        by_cases e:y.1=k
        · subst e
          by_cases hlt:y.1<b.size
          · rw[xaf ⟨by simp,hne,hlt⟩,xbc hlt]
          · rw[xac (λh=>hlt h.2.2),xbE zP,xbE zO]
        · rw[xa0 e,xac]
          rintro⟨h1,h2⟩;rw[xay,xag]at h1;rcases h1 with h1|h1
          · exact e h1.symm
          · exact hk ⟨h1,h2⟩
    · have he:=xam hy
      simp only[xaj,ih];by_cases hk:k∈r.map Prod.fst/\k≠i/\k<b.size
      · rw[xaf hk,xaf ⟨by rw[xay];exact xb6 _ hk.1,hk.2⟩]
      · rw[xac hk,xac]
        rintro⟨h1,h2,h3⟩;rw[xay,xag]at h1;rcases h1 with h1|h1
        · exact h2 (h1.trans he)
        · exact hk ⟨h1,h2,h3⟩
theorem cV{ops:Array Oper}{o:Oper}{i:Nat}{listed:Array Bool}{l:uJ}(h:cK ops o i listed l=true){f:Nat}(hf:f∈l.map Prod.fst)(hne:f≠i)(hun:listed.getD f true=false):
    ∃of,ops[f]? =some of/\of.apart ops o=true:=by
  induction l with
  |nil=>simp at hf
  |cons x r ih=>
    simp only[cK,xap,xbA]at h;rw[xay]at hf;rcases xag.1 hf with rfl|hf
    · rcases h.1 with(h1|h1)|h1
      · exact absurd (xam h1) hne
      · rw[hun]at h1;simp at h1
      · split at h1
        · rename_i of ho;exact⟨of,ho,h1⟩
        · simp at h1
    · exact ih h.2 hf
theorem sM{ops:Array Oper}{x y:Oper}(h:x.apart ops y=true):y.apart ops x=true:=by
  unfold Oper.apart at*;cases hx:x.dst<;>cases hy:y.dst<;>simp_all;exact λe=>h.1.2 e.symm
theorem kx{ops:Array Oper}{l l':Array Bool}{i:Nat}(h:Region.free .any ops l i=true)(hm:∀k,l.getD k true=true->l'.getD k true=true):Region.free .any ops l' i=true:=by
  unfold Region.free at*;split at h
  · simp at h
  · rename_i oi gW
    rw[xb9]at h⊢;intro j hj;have:=h j hj;simp only[xbA]at this⊢;rcases this with(h1|h1)|h1
    · exact .inl (.inl h1)
    · exact .inl (.inr (hm j h1))
    · exact .inr h1
abbrev Early:=List (Nat×Nat×Mk)
def EC(E:Early):Hp:=E.map λx=>(x.2.1,x.2.2.1)
structure F6(P:Program)(n:Nat)(ops:Array Oper)(listed:Array Bool)(cl:uJ)(fr:Fr)(j:Nat)(x:Mk)(o:Oper):Prop where
  op:ops[j]? =some o
  qw:mE o.op=false
  dst:cq n o.dst=true
  gd:o.guard.isNone=true
  makes:oU P o (ev fr) x
  Js:∀k y,cO cl k=some y->k≠j->listed.getD k true=false->∃ok,ops[k]? =some ok/\ok.apart ops o=true
structure fF(P:Program)(n:Nat)(ops:Array Oper)(cl:uJ)(listed la:Array Bool)(E:Early)(fr fa:Fr):Prop where
  mem:∀x∈E,cO cl x.1=some x.2.2/\listed.getD x.1 true=false
  nd:(E.map Prod.fst).Nodup
  la:∀k,la[k]? =if k∈E.map Prod.fst then some true else listed[k]?
  out:∀s,(∀x∈E,cC ops x.1≠some s)->fa s=fr s
  at_:∀x∈E,∀d,cC ops x.1=some d->fa d=x.2.2.2 x.2.1
  cl:∀j x,cO cl j=some x->listed.getD j true=false->∃o,F6 P n ops listed cl fr j x o
section
variable {n:Nat} {ops:Array Oper} {cl:uJ} {listed la:Array Bool} {E:Early} {fr fa:Fr}
theorem fF.more(h:fF P n ops cl listed la E fr fa){k:Nat}{b:Bool}(hk:listed.getD k b=true):la.getD k b=true:=by
  have:=h.la k;rw[xai]at hk⊢;rw[this];split
  · rfl
  · exact hk
theorem fF.ready(h:fF P n ops cl listed la E fr fa){i:Nat}(hi:i∉E.map Prod.fst)(hr:i∈Region.ready .any ops listed):i∈Region.ready .any ops la:=by
  rw[mem_ready]at hr⊢;obtain⟨h1,o,ho,aL⟩:=hr;refine⟨?_,o,ho,λe he hb=>h.more (aL e he hb)⟩;have:=h.la i;rw[xai]at h1⊢;rw[this,xac hi];exact h1
theorem DX{i k:Nat}(h:(listed.setIfInBounds i true).getD k true=false):i≠k/\listed.getD k true=false:=by
  by_cases e:i=k
  · subst e
    rw[xai]at h;rcases xcK i listed.size with hl|hl
    · rw[xbc hl]at h;cases h
    · rw[xbE (by simpa using hl)]at h;cases h
  · exact⟨e,by rwa [getD_set_ne true e]at h⟩
theorem oU.congr{o o':Oper}{x:Mk}{v:zV}(h:oU P o (ev fr) x)(hs:∀cs b,o.op≠.select cs b)(hap:o.apart ops o'=true):oU P o (ev (bX fr o'.dst v)) x:=by
  have e:execOp (ev (bX fr o'.dst v)) o=execOp (ev fr) o:=by
    refine execOp_congr o hs λy hy=>?_;cases y with
    |tmp t=>
      obtain⟨_,_,h3⟩:=Oper.apart_spec hap;cases hd:o'.dst with
      |none=>rfl
      |some d=>
        have:=h3 d hd;have hne:Nat.beq t d=false:=by
          cases hb:Nat.beq t d
          · rfl
          · have e:=xam hb;subst e
            refine absurd ?_ this;exact xad _ (List.mem_filterMap.2 ⟨Operand.tmp t,by simpa using hy,rfl⟩)
        simp only[ev,bX,hne,xah]
    |const v=>rfl
    |global g=>rfl
    |func f=>rfl
  intro w;rw[e];exact h w
theorem Bs(hs:Region.noSelect ops=true)(fH:∀j x,cO cl j=some x->listed.getD j true=false->∃o,F6 P n ops listed cl fr j x o){i:Nat}{o:Oper}(hap:cK ops o i listed cl=true)(v:zV):
    ∀j x,cO cl j=some x->(listed.setIfInBounds i true).getD j true=false->∃oj,F6 P n ops (listed.setIfInBounds i true) cl (bX fr o.dst v) j x oj:=by
  intro j x hx hun;obtain⟨hne,CX⟩:=DX hun;obtain⟨oj,h⟩:=fH j x hx CX;obtain⟨Mu,cy,KY⟩:=cV hap (eJ hx) (xbJ hne) CX;rw[h.op]at cy;cases cy;exact⟨oj,h.op,h.qw,h.dst,h.gd,h.makes.congr (λcs b=>Region.noSelect_spec hs j oj cs b h.op) KY,λk y hk Gq C9=>h.Js k y hk Gq (DX C9).2⟩
theorem fF.step(hs:Region.noSelect ops=true)(h:fF P n ops cl listed la E fr fa){i:Nat}{o:Oper}(gW:ops[i]? =some o)(hi:i∉E.map Prod.fst)
   (mK:cK ops o i listed cl=true)(v:zV):fF P n ops cl (listed.setIfInBounds i true) (la.setIfInBounds i true) E (bX fr o.dst v) (bX fa o.dst v):=by
  have hap:∀x∈E,∃of,ops[x.1]? =some of/\of.apart ops o=true:=λx hx=>
      cV mK (eJ (h.mem x hx).1) (λe=>hi (e▸xbm hx)) (h.mem x hx).2
  have hsz:la[i]? =listed[i]? :=by rw[h.la i,xac hi]
  refine⟨λx hx=>⟨(h.mem x hx).1,?_⟩,h.nd,λk=>?_,λs hs=>?_,λx hx d hd=>?_,Bs hs h.cl mK v⟩
  · have hne:i≠x.1:=λe=>hi (e▸xbm hx)
    rw[getD_set_ne true hne];exact(h.mem x hx).2
  · by_cases e:i=k
    · subst e
      rw[xac hi,xbx,xbx];simp only[xaS];have:i<la.size↔i<listed.size:=by
        constructor
        · intro hlt;rw[xbl hlt]at hsz;exact(xaz.1 hsz.symm).1
        · intro hlt;rw[xbl hlt]at hsz;exact(xaz.1 hsz).1
      by_cases hlt:i<la.size
      · rw[xaf hlt,xaf (this.1 hlt)]
      · rw[xac hlt,xac (λx=>hlt (this.2 x))]
    · rw[xa0 e,xa0 e];exact h.la k
  · cases hd:o.dst with
    |none=>exact h.out s hs
    |some d=>
      simp only[bX];cases Nat.beq s d
      · exact h.out s hs
      · rfl
  · obtain⟨of,Fj,hap⟩:=hap x hx
    obtain⟨h1,h2,h3⟩:=Oper.apart_spec hap;have Fi:of.dst=some d:=by simpa[cC,Fj]using hd
    have:=h2 d Fi;cases KU:o.dst with
    |none=>exact h.at_ x hx d hd
    |some d'=>
      have hne:Nat.beq d d'=false:=by
        cases hb:Nat.beq d d'
        · rfl
        · have e:=xam hb;subst e;exact absurd KU this
      simp only[bX,hne,xah];exact h.at_ x hx d hd
theorem fF.exec(h:fF P n ops cl listed la E fr fa){o:Oper}
   (hap:∀x∈E,∃of,ops[x.1]? =some of/\of.apart ops o=true)(hs:∀cs b,o.op≠.select cs b):execOp (ev fa) o=execOp (ev fr) o:=by
  refine execOp_congr o hs λx hx=>?_;cases x with
  |tmp t=>
    refine h.out t λy hy e=>?_;obtain⟨of,Fj,hap⟩:=hap y hy;obtain⟨h1,_,_⟩:=Oper.apart_spec hap;refine h1 t (by simpa[cC,Fj]using e) ?_;exact xad _ (List.mem_filterMap.2 ⟨.tmp t,by simpa using hx,rfl⟩)
  |const v=>rfl
  |global g=>rfl
  |func f=>rfl
theorem fF.early(h:fF P n ops cl listed la E fr fa){j b:Nat}{x:Mk}(hj:cO cl j=some x)(Ar:j∉E.map Prod.fst)(hun:listed.getD j true=false)
   {o:Oper}(ho:ops[j]? =some o):fF P n ops cl listed (la.setIfInBounds j true) ((j,b,x)::E) fr (bX fa o.dst (x.2 b)):=by
  obtain⟨o',fH⟩:=h.cl j x hj hun;have cy:=fH.op;rw[ho]at cy;cases cy;have Fz:∀y∈E,∃of,ops[y.1]? =some of/\of.apart ops o=true:=λy hy=>
    fH.Js y.1 _ (h.mem y hy).1 (λe=>Ar (e▸xbm hy)) (h.mem y hy).2
  have Ku:j<la.size:=by
    have hl:=h.la j;rw[xac Ar]at hl;have h2:j<listed.size:=by
      rcases xcK j listed.size with h2|h2
      · exact h2
      · rw[xai,xbE h2]at hun;simp at hun
    rw[xbl h2]at hl;exact(xaz.1 hl).1
  refine⟨λy hy=>?_,?_,λk=>?_,λs hs=>?_,λy hy d hd=>?_,h.cl⟩
  · rcases xag.1 hy with rfl|hy
    · exact⟨hj,hun⟩
    · exact h.mem y hy
  · rw[xay,xa1];exact⟨Ar,h.nd⟩
  · by_cases e:j=k
    · subst e;rw[xaf zI,xbc Ku]
    · rw[xa0 e,h.la k]
      by_cases hk:k∈E.map Prod.fst
      · rw[xaf hk,xaf (by rw[xay];exact xb6 _ hk)]
      · rw[xac hk,xac]
        rw[xay,xag];rintro(h1|hk')
        · exact e h1.symm
        · exact hk hk'
  · have hne:=hs (j,b,x) zI
    simp only[cC,ho]at hne;rw[show bX fa o.dst (x.2 b) s=fa s from ?_]
    · exact h.out s λy hy=>hs y (by simp[hy])
    · cases hd:o.dst with
      |none=>rfl
      |some d=>
        rw[hd]at hne;have:Nat.beq s d=false:=by
          cases hb:Nat.beq s d
          · rfl
          · exact absurd (xb7 some (xam hb).symm) hne
        simp only[bX,this,xah]
  · rcases xag.1 hy with rfl|hy
    · simp only[cC,ho]at hd
      rw[hd];simp[bX]
    · obtain⟨of,Fj,hap⟩:=Fz y hy
      obtain⟨_,h2,_⟩:=Oper.apart_spec hap;have Fi:of.dst=some d:=by simpa[cC,Fj]using hd
      have:=h2 d Fi;cases KU:o.dst with
      |none=>exact h.at_ y hy d hd
      |some d'=>
        have hne:Nat.beq d d'=false:=by
          cases hb:Nat.beq d d'
          · rfl
          · have e:=xam hb;subst e;exact absurd KU this
        simp only[bX,hne,xah];exact h.at_ y hy d hd
theorem fF.JM(hs:Region.noSelect ops=true){E1 E2:Early}{j b:Nat}{x:Mk}(h:fF P n ops cl listed la (E1++(j,b,x)::E2) fr fa){o:Oper}(ho:ops[j]? =some o)(mK:cK ops o j listed cl=true):
    fF P n ops cl (listed.setIfInBounds j true) la (E1++E2) (bX fr o.dst (x.2 b)) fa:=by
  have iT:=h.nd;rw[xau,xay]at iT;have Ft:j∉(E1++E2).map Prod.fst:=by
    have:=(xa5.nodup_iff.1 iT);rw[xa1]at this;rw[xau];exact this.1
  have hsub:∀y,y∈E1++E2->y∈E1++(j,b,x)::E2:=λy hy=>by
    rcases xav.1 hy with hy|hy<;>simp[hy]
  have Db:j<listed.size:=by
    have h2:=(h.mem (j,b,x) zI).2;rcases xcK j listed.size with h3|h3
    · exact h3
    · simp only at h2;rw[xai,xbE h3]at h2;simp at h2
  refine⟨λy hy=>⟨(h.mem y (hsub y hy)).1,?_⟩,?_,λk=>?_,λs hs=>?_,λy hy d hd=>h.at_ y (hsub y hy) d hd,Bs hs h.cl mK _⟩
  · have hne:j≠y.1:=λe=>Ft (e▸xbm hy)
    rw[getD_set_ne true hne];exact(h.mem y (hsub y hy)).2
  · have:=(xa5.nodup_iff.1 iT)
    rw[xa1]at this;rw[xau];exact this.2
  · have hk:=h.la k
    by_cases e:j=k
    · subst e
      rw[xaf zI]at hk;rw[hk,xac Ft,xbc Db]
    · rw[xa0 e,hk]
      have:k∈(E1++(j,b,x)::E2).map Prod.fst↔k∈(E1++E2).map Prod.fst:=by
        simp only[xau,xay,xav,xag];constructor
        · rintro(h|rfl|h)
          · exact .inl h
          · exact absurd rfl e
          · exact .inr h
        · rintro(h|h)
          · exact .inl h
          · exact .inr (.inr h)
      simp only[this]
  · by_cases e:cC ops j=some s
    · rw[h.at_ (j,b,x) zI s e]
      simp only[cC,ho]at e;rw[e];simp[bX]
    · rw[h.out s λy hy=>?_]
      · simp only[cC,ho]at e
        cases hd:o.dst with
        |none=>rfl
        |some d=>
          rw[hd]at e;have:Nat.beq s d=false:=by
            cases hb:Nat.beq s d
            · rfl
            · exact absurd (xb7 some (xam hb).symm) e
          simp only[bX,this,xah]
      · rcases xav.1 hy with hy|hy
        · exact hs y (by simp[hy])
        · rcases xag.1 hy with rfl|hy
          · exact e
          · exact hs y (by simp[hy])
theorem fF.Iw(h:fF P n ops cl listed la E fr fa){i:Nat}{o:Oper}{x:Mk}(ho:ops[i]? =some o)(hd:cq n o.dst=true)(hg:o.guard.isNone=true)(hp:mE o.op=false)(hun:listed.getD i true=false)
   (hap:cK ops o i listed cl=true)(hno:cO cl i=none)(hm:oU P o (ev fr) x):fF P n ops ((i,x)::cl) listed la E fr fa:=by
  have hne:∀j y,cO cl j=some y->j≠i:=λj y hj e=>by subst e;rw[hno]at hj;cases hj
  have hex:∀j y,cO cl j=some y->cO ((i,x)::cl) j=some y:=λj y hj=>by
    have:Nat.beq i j=false:=by
      cases hb:Nat.beq i j
      · rfl
      · exact absurd (xam hb).symm (hne j y hj)
    simp only[cO,this,xah];exact hj
  have Fw:∀j y,cO ((i,x)::cl) j=some y->(j=i/\y=x)\/(j≠i/\cO cl j=some y):=λj y hj=>by
    simp only[cO]at hj;cases hb:Nat.beq i j<;>simp only[hb,xaj,xah]at hj
    · exact .inr ⟨λe=>by subst e;simp at hb,hj⟩
    · exact .inl ⟨(xam hb).symm,by simpa using hj.symm⟩
  refine⟨λy hy=>⟨hex _ _ (h.mem y hy).1,(h.mem y hy).2⟩,h.nd,h.la,h.out,h.at_,λj y hj hu=>?_⟩;rcases Fw j y hj with⟨rfl,rfl⟩|⟨Gr,I6⟩
  · refine⟨o,ho,hp,hd,hg,hm,λk z hk Gq C9=>?_⟩
    rcases Fw k z hk with⟨rfl,rfl⟩|⟨_,hk⟩
    · exact absurd rfl Gq
    · exact cV hap (eJ hk) Gq C9
  · obtain⟨oj,hc⟩:=h.cl j y I6 hu
    refine⟨oj,hc.op,hc.qw,hc.dst,hc.gd,hc.makes,λk z hk Gq C9=>?_⟩;rcases Fw k z hk with⟨rfl,rfl⟩|⟨_,hk⟩
    · obtain⟨Mu,h1,h2⟩:=cV hap (eJ I6) Gr hu
      rw[hc.op]at h1;cases h1;exact⟨o,ho,sM h2⟩
    · exact hc.Js k z hk Gq C9
end
theorem xh{E1 E2:Early}{y:Nat×Nat×Mk}:(EC (E1++y::E2)).Perm ((y.2.1,y.2.2.1)::EC (E1++E2)):=by
  unfold EC;rw[xau,xay,xau];exact xa5
def cnt:List Bool->Nat
  | []=>0
  |b::r=>cond b 0 1+cnt r
theorem vD:∀(l:List Bool) (i:Nat),l[i]? =some false->cnt (l.set i true)+1=cnt l
  | [],i,h=>by simp at h
  |b::r,0,h=>by simp only[xbV,xao]at h;subst h;simp only[xcL,cnt,xaj,xah];omega
  |b::r,i+1,h=>by
    simp only[xcS]at h;have:=vD r i h;simp only[List.set_cons_succ,cnt];omega
theorem nN(n:Nat):cnt (List.replicate n false)=n:=by
  induction n with
  |zero=>rfl
  |succ n ih=>simp only[xce,cnt,ih,xah];omega
theorem cX{a:Array Bool}{i:Nat}(h:a.getD i true=false):a[i]? =some false:=by
  rw[xai]at h;cases hg:a[i]? with
  |none=>rw[hg]at h;simp at h
  |some b=>rw[hg]at h;simpa using h
theorem gN{a:Array Bool}{i fuel:Nat}(h:a.getD i true=false)(hf:cnt a.toList<=fuel):∃f,fuel=f+1/\cnt (a.setIfInBounds i true).toList<=f:=by
  have h1:=cX h;have h2:a.toList[i]? =some false:=by rw[xa7];exact h1
  have:=vD _ _ h2;refine⟨fuel-1,by omega,?_⟩;have:(a.setIfInBounds i true).toList=a.toList.set i true:=by simp
  rw[this];omega
theorem xz{listed:Array Bool}{l:uJ}(h:BD listed l=true){f:Nat}(hf:f∈l.map Prod.fst):listed.getD f false=true:=by
  induction l with
  |nil=>simp at hf
  |cons x r ih=>
    simp only[BD,xap]at h;rw[xay]at hf;rcases xag.1 hf with rfl|hf
    · exact h.1
    · exact ih h.2 hf
theorem Dm{a:Array Bool}{i:Nat}(h:a.getD i false=true):a.getD i true=true:=by
  rw[xai]at*;cases hg:a[i]? with
  |none=>rfl
  |some b=>rw[hg]at h;simpa using h
theorem cz{n:Nat}{ops:Array Oper}{R:Hp}{Xs:List Hp}{K:Fr->Hp->Prop}{Q:Exit->Act->World->Prop}(hs:Region.noSelect ops=true)(p5:R∈Xs)(yQ:∀X∈Xs,aN R X)(nM:Fr)
   (hk:∀a w fr H,aZ ds n a fr->Own g H w->cA ops.toList nM fr->K fr H->Q .normal a w):
    ∀(fuel:Nat) (l:Hn) (cl:uJ) (listed:Array Bool) (fr:Fr) (H:Hp),ie P g n ops R K l cl listed fr H->∀(E:Early) (la:Array Bool) (fa:Fr),cnt la.toList<=fuel->fF P n ops cl listed la E fr fa->cQ .any ops la->
      ∀(a:Act) (w:World),aZ ds n a fa->Own (g.add (EC E)) H w->((∃k ok,ops[k]? =some ok/\nG P ok.op=true/\la.getD k true=false)->Own g R w)->cA ops.toList nM fr->
      cN P .any ops (jQ Q) (jd P g Xs ops) fuel la a w
  |fuel,.e,cl,listed,fr,H,h=>by
    intro E la fa hfuel hE dZ a w ha hw hR ho;unfold ie at h;cases hr:((Region.ready .any ops listed).isEmpty&&BD listed cl)<;>simp only[hr,xaj,xah]at h;simp only[xap]at hr;have hr':Region.ready .any ops listed=[]:=by simpa using hr.1
    have O8:E=[]:=by
      cases E with
      |nil=>rfl
      |cons x y=>
        have h1:=hE.mem x zI;have h2:=Dm (xz hr.2 (eJ h1.1));rw[h1.2]at h2;cases h2
    subst O8;have KO:fa=fr:=by funext s;exact hE.out s zI
    subst KO;refine cN.done (Q:=jQ Q) ?_ (hk a w fa H ha hw ho h) fuel;rw[List.eq_nil_iff_forall_not_mem]at hr'⊢;intro k hk';refine hr' k ?_;rw[mem_ready]at hk'⊢;obtain⟨h1,o,h2,h3⟩:=hk';have hla:=λk=>hE.la k;simp only[xcJ,xax,xaD]at hla;refine⟨?_,o,h2,λe he hb=>?_⟩
    · rw[xai,<-hla,<-xai];exact h1
    · rw[xai,<-hla,<-xai];exact h3 e he hb
  |fuel,.h m L T pa pb,cl,listed,fr,H,h=>by
    intro E la fa hfuel hE dZ a w ha hw hR ho;have h0:=h;unfold ie at h;split at h<;>try exact h.elim
    rotate_left
    · cases h4:Nat.beq m 4<;>simp only[h4,xaj,xah]at h
      obtain⟨R',I0,rR,hk'⟩:=h;exact(cz (R:=R') (Xs:=R'::Xs) hs (.head _) (λX hX=>by
        rcases xag.1 hX with rfl|hX
        · exact .refl _
        · exact rR.trans (yQ X hX)) nM hk fuel pa cl listed fr H hk' E la fa hfuel hE dZ a w ha hw (λ_=>I0 _ _ (Own.cJ.2 hw).left) ho).mono λj w w' hK X hX=>hK X (.tail _ hX)
    rename_i i;split at h<;>try exact h.elim
    rename_i o gW;cases h1:Nat.beq m 1<;>simp only[h1,xaj,xah]at h
    case true=>
      cases hc:(cq n o.dst&&o.guard.isNone&& !mE o.op&& !listed.getD i true&&cK ops o i listed cl&& (match cO cl i with|none=>true|some _=>false))<;>simp only[hc,xaj,xah]at h;simp only[xap,xbg]at hc;obtain⟨⟨⟨⟨⟨hd,hg⟩,hp⟩,hun⟩,hap⟩,hno⟩:=hc;have Aq:cO cl i=none:=by
        split at hno
        · assumption
        · cases hno
      obtain⟨x,hm,hk'⟩:=h.makes;exact cz hs p5 yQ nM hk fuel pa _ listed fr H hk' E la fa hfuel (hE.Iw gW hd hg hp hun hap Aq hm) dZ a w ha hw hR ho
    have hmem:o∈ops.toList:=xcA.2 (Array.mem_of_getElem? gW);have hout:∀v,cA ops.toList nM (bX fr o.dst v):=λv s hs'=>by
      rw[cY,ho s hs'];have:∀l:List Oper,o∈l->aF l s=false->aF [({(default:Oper)with dst:=o.dst})] s=false:=by
        intro l;induction l with
        |nil=>intro h;simp at h
        |cons x y ih=>
          intro hm hi;rw[bF,xar]at hi;rcases xag.1 hm with rfl|hm
          · exact hi.1
          · exact ih hm hi.2
      exact this _ hmem hs'
    cases hc:(cq n o.dst&&cK ops o i listed cl&& (Region.ready .any ops listed).contains i)<;>simp only[hc,xaj,xah]at h;simp only[xap]at hc;obtain⟨⟨hd,mK⟩,Kl⟩:=hc;have yL:i∈Region.ready .any ops listed:=by simpa using Kl
    have hun:=(mem_ready.1 yL).1;have hap:i∉E.map Prod.fst->∀x∈E,∃of,ops[x.1]? =some of/\of.apart ops o=true:=λhi x hx=>
      cV mK (eJ (hE.mem x hx).1) (λe=>hi (e▸xbm hx)) (hE.mem x hx).2
    have hsel:∀cs b,o.op≠.select cs b:=λcs b=>Region.noSelect_spec hs i o cs b gW;have GN:∀j,j∈Region.ready .any ops la->j∉E.map Prod.fst/\listed.getD j true=false:=λj hj=>by
      have h1:=cX (mem_ready.1 hj).1;have h2:=hE.la j;by_cases Ar:j∈E.map Prod.fst
      · rw[xaf Ar,h1]at h2;cases h2
      · rw[xac Ar,h1]at h2
        exact⟨Ar,by rw[xai,<-h2];rfl⟩
    have early:∀f',fuel=f'+1->(∀j,la.getD j true=false->cnt (la.setIfInBounds j true).toList<=f')->∀j x,j∈Region.ready .any ops la->cO cl j=some x->
        wpOp P ops (jQ Q) j (λa' w'=>jd P g Xs ops j w w'/\cN P .any ops (jQ Q) (jd P g Xs ops) f' (la.setIfInBounds j true) a' w') a w:=by
      intro f' yO g9 j x hj I5;obtain⟨Ar,Db⟩:=GN j hj;obtain⟨oj,fH⟩:=hE.cl j x I5 Db;have er:=fH.op;have pD:=fH.qw;have OA:=fH.gd;have KR:execOp (ev fa) oj=execOp (ev fr) oj:=hE.exec (λy hy=>fH.Js y.1 _ (hE.mem y hy).1 (λe=>Ar (e▸xbm hy)) (hE.mem y hy).2) (λcs b=>Region.noSelect_spec hs j oj cs b er);unfold wpOp;simp only[er,eW OA,xaS];refine .inl ?_;unfold Oper.wp;rw[ha.eval,KR,fH.makes w];simp only[Oper.upon];have hal:∀{A:Hp},Own g A w->Own g A (w.alloc x.1):=λhA=>(hA.alloc x.1).tail;refine⟨λX _ Mu gl=>⟨λhp=>?_,λ_=>⟨hal (Own.cJ.2 hw).e8,λ_ h1=>hal h1⟩⟩,?_⟩
      · rw[er]at gl;cases gl;rw[pD]at hp;cases hp
      · have Lw:=hE.early (b:=w.heap.size) I5 Ar Db er
        refine cz hs p5 yQ nM hk f' (.h m [i] T pa pb) cl listed fr H h0 ((j,w.heap.size,x)::E) _ _ (g9 j (mem_ready.1 hj).1) Lw (dZ.step hj) _ _ (ha.put fH.dst _) ?_ ?_ ho
        · have h1:=hw.alloc x.1
          have h2:Own (g.add (EC E)) (H++[(w.heap.size,x.1)]) (w.alloc x.1):=h1.perm (by exact(xaK (l₁:=[(w.heap.size,x.1)]) (l₂:=H)));have h3:=Own.cJ.1 h2;exact h3
        · rintro⟨k,ok,jU,ou,jF⟩
          refine hal (hR ⟨k,ok,jU,ou,dc (mem_ready.1 hj).1 jF⟩)
    have ir:∀b,o3 ops fr o=some b->i∉E.map Prod.fst->Region.wanted o (yielded ops a.tmps)=b:=by
      intro b hb mJ;unfold o3 at hb;unfold Region.wanted;split at hb
      · rename_i hg;simp only[hg];simpa using hb
      · rename_i j want hg
        simp only[hg];split at hb<;>try (cases hb;done)
        rename_i s eZ;rw[fI ha eZ];have iy:fa s=fr s:=hE.out s λy hy e=>by
          obtain⟨of,Fj,hap⟩:=hap mJ y hy;obtain⟨h1,_,_⟩:=Oper.apart_spec hap;refine h1 s (by simpa[cC,Fj]using e) ?_;refine xaa _ ?_;rw[hg];unfold cC at eZ;cases hj:ops[j]? with
          |none=>rw[hj]at eZ;cases eZ
          |some oj=>rw[hj]at eZ;simp only at eZ;simp[hj,eZ]
        rw[iy];split at hb
        · rename_i c hc;rw[hc];simp only[xao]at hb;subst hb;cases c<;>cases want<;>rfl
        · rename_i c hc;rw[hc];simp only[xao]at hb;subst hb;cases want<;>rfl
        · cases hb
    split at h<;>try exact h.elim
    · -- not wanted
      rename_i CW;cases gL:(Region.free .any ops listed i&& (match cO cl i with|none=>true|some _=>false))<;>simp only[gL,xaj,xah]at h;simp only[xap]at gL;have Aq:cO cl i=none:=by
        have:=gL.2;split at this
        · assumption
        · cases this
      have mJ:i∉E.map Prod.fst:=λhm=>by
        obtain⟨x,hx,e⟩:=xaq.1 hm;have:=(hE.mem x hx).1;rw[e,Aq]at this;cases this
      have fU:=hE.ready mJ yL;have ki:=(mem_ready.1 fU).1;obtain⟨f',rfl,g9⟩:=gN ki hfuel;have hfree:=kx (l':=la) gL.1 (λk hk=>hE.more hk);have wV:(Region.ready .any ops la).contains i=true:=by simpa using fU
      refine cN.take dZ (S0:=Own g []) gW hs hfree wV (λ_ _ _ h=>h) (λw hw X _ oj er=>⟨λ_=>rfl,λ_=>⟨hw,λ_ h=>h⟩⟩) (λj oj w w' er hj hno h0 hk=>?_) (.inr ⟨ir false CW mJ,rfl⟩) (Own.cJ.2 hw).e8 ?_
      · cases pD:mE oj.op
        · exact((hk R p5 oj er).2 pD).1
        · rw[(hk R p5 oj er).1 pD];exact h0
      · refine cz hs p5 yQ nM hk f' pa cl _ _ H h E _ _ g9 (hE.step hs gW mJ mK _) (dZ.step fU) _ w (ha.put hd _) hw ?_ (hout _)
        rintro⟨k,ok,jU,ou,jF⟩;exact hR ⟨k,ok,jU,ou,dc ki jF⟩
    rename_i CW;have Ja:=ir true CW;have Ep:∀v f' CG a' w',(cond (Nat.beq m 0) (ie P g n ops R K pa cl (listed.setIfInBounds i true) (bX fr o.dst v) H)
                    (Br v (ie P g n ops R K pa cl (listed.setIfInBounds i true) (bX fr o.dst (.bool true)) H) (ie P g n ops R K pb cl (listed.setIfInBounds i true) (bX fr o.dst (.bool false)) H)))->
        cnt CG.toList<=f'->fF P n ops cl (listed.setIfInBounds i true) CG E (bX fr o.dst v) (bX fa o.dst v)->cQ .any ops CG->aZ ds n a' (bX fa o.dst v)->Own (g.add (EC E)) H w'->
        ((∃k ok,ops[k]? =some ok/\nG P ok.op=true/\CG.getD k true=false)->Own g R w')->f'<fuel->cN P .any ops (jQ Q) (jd P g Xs ops) f' CG a' w':=by
      intro v f' CG a' w' hv h1 h2 AA h3 h4 h5 hlt;cases hm:Nat.beq m 0<;>simp only[hm,xaj,xah]at hv
      · obtain⟨b,rfl,OM,MJ⟩:=hv
        cases b
        · exact cz hs p5 yQ nM hk f' pb cl _ _ H (MJ rfl) E CG _ h1 h2 AA a' w' h3 h4 h5 (hout _)
        · exact cz hs p5 yQ nM hk f' pa cl _ _ H (OM rfl) E CG _ h1 h2 AA a' w' h3 h4 h5 (hout _)
      · exact cz hs p5 yQ nM hk f' pa cl _ _ H hv E CG _ h1 h2 AA a' w' h3 h4 h5 (hout _)
    cases h3:Nat.beq m 3<;>simp only[h3,xaj,xah]at h
    case true=>
      cases gL:(wK o&&Region.free .any ops listed i)<;>simp only[gL,xaj,xah]at h;simp only[xap]at gL;split at h<;>try exact h.elim
      rename_i b Hx;have qS:mE o.op=true:=Ae gL.1;have mJ:i∉E.map Prod.fst:=λhm=>by
        obtain⟨x,hx,e⟩:=xaq.1 hm;have h2:=hE.mem x hx;obtain⟨o',fH⟩:=hE.cl _ _ h2.1 h2.2;have h3:=fH.op;rw[e,gW]at h3;cases h3;have:=fH.qw;rw[qS]at this;cases this
      have fU:=hE.ready mJ yL;have ki:=(mem_ready.1 fU).1;obtain⟨f',rfl,g9⟩:=gN ki hfuel;have hfree:=kx (l':=la) gL.2 (λk hk=>hE.more hk);have wV:(Region.ready .any ops la).contains i=true:=by simpa using fU
      have mG:∀w,jd P g Xs ops i w w:=λw X _ oj gl=>⟨λ_=>rfl,λhn=>(by rw[gW]at gl;cases gl;rw[qS]at hn;cases hn)⟩;have wT:=hE.exec (hap mJ) hsel;refine cN.take dZ (S0:=Own g []) gW hs hfree wV (λ_ _ _ h=>h) (λw _=>mG w) (λj oj w w' er hj hno h0 hk=>?_) (.inl ⟨Ja mJ,λw' hw'=>by rw[ha.eval,wT];exact z7 gL.1 Hx w'⟩) (Own.cJ.2 hw).e8 ?_
      · cases pD:mE oj.op
        · exact((hk R p5 oj er).2 pD).1
        · rw[(hk R p5 oj er).1 pD];exact h0
      · refine cz hs p5 yQ nM hk f' pa cl _ _ H h E _ _ g9 (hE.step hs gW mJ mK _) (dZ.step fU) _ w (ha.put hd _) hw ?_ (hout _)
        rintro⟨k,ok,jU,ou,jF⟩;exact hR ⟨k,ok,jU,ou,dc ki jF⟩
    cases qS:mE o.op<;>simp only[qS,xaj,xah]at h
    case true=>
      cases gL:(Region.free .any ops listed i)<;>simp only[gL,xaj,xah]at h;have mJ:i∉E.map Prod.fst:=λhm=>by
        obtain⟨x,hx,e⟩:=xaq.1 hm;have h2:=hE.mem x hx;obtain⟨o',fH⟩:=hE.cl _ _ h2.1 h2.2;have h3:=fH.op;rw[e,gW]at h3;cases h3;have:=fH.qw;rw[qS]at this;cases this
      have fU:=hE.ready mJ yL;have ki:=(mem_ready.1 fU).1;obtain⟨f',rfl,g9⟩:=gN ki hfuel;have hfree:=kx (l':=la) gL (λk hk=>hE.more hk);have wV:(Region.ready .any ops la).contains i=true:=by simpa using fU
      have mG:∀w,jd P g Xs ops i w w:=λw X _ oj gl=>⟨λ_=>rfl,λhn=>(by rw[gW]at gl;cases gl;rw[qS]at hn;cases hn)⟩;have hst:=λv=>hE.step hs gW mJ mK v;have wT:=hE.exec (hap mJ) hsel;cases hn:Hi P o.op
      case true=>
        rw[qv hn (ev fr) R []]at h;obtain⟨v,hk',hr⟩:=fj h;refine cN.take dZ (S0:=Own g []) gW hs hfree wV (λ_ _ _ h=>h) (λw _=>mG w) (λj oj w w' er hj hno h0 hk=>?_) (.inl ⟨Ja mJ,λw' hw'=>by rw[ha.eval,wT];exact hr w' hw'⟩) (Own.cJ.2 hw).e8 ?_
        · cases pD:mE oj.op
          · exact((hk R p5 oj er).2 pD).1
          · rw[(hk R p5 oj er).1 pD];exact h0
        · refine Ep v f' _ _ w hk' g9 (hst v) (dZ.step fU) (ha.put hd v) hw ?_ zO
          rintro⟨k,ok,jU,ou,jF⟩;exact hR ⟨k,ok,jU,ou,dc ki jF⟩
      case false=>
        obtain⟨v,hk',hr⟩:=fj h;have hrd:nG P o.op=true:=by simp[nG,qS,hn]
        have HZ:Own g R w:=hR ⟨i,o,gW,hrd,ki⟩;refine cN.take dZ (S0:=Own g R) gW hs hfree wV (λ_ _ _ h=>h) (λw _=>mG w) (λj oj w w' er hj hno h0 hk=>?_) (.inl ⟨Ja mJ,λw' hw'=>by rw[ha.eval,wT];exact hr w' hw'⟩) HZ ?_
        · cases pD:mE oj.op
          · exact((hk R p5 oj er).2 pD).2 (fP gW hrd hj hno) h0
          · rw[(hk R p5 oj er).1 pD];exact h0
        · exact Ep v f' _ _ w hk' g9 (hst v) (dZ.step fU) (ha.put hd v) hw (λ_=>HZ) zO
    case false=>
      cases gL:(Region.ready .any ops (marks cl i listed)==[i])<;>simp only[gL,xaj,xah]at h;have hrd:=xcx.1 gL;by_cases mJ:i∈E.map Prod.fst
      · obtain⟨⟨i',b,x⟩,hx,e⟩:=xaq.1 mJ
        simp only at e;subst e;have hex:cO cl i'=some x:=(hE.mem _ hx).1;simp only[hex]at h;obtain⟨E1,E2,rfl⟩:=xcM hx;have kg:Own (g.add (EC (E1++E2))) ((b,x.1)::H) w:=by
          have h1:=(Own.cJ.2 hw).perm ((xc3 H (xh (E1:=E1) (E2:=E2) (y:=(i',b,x)))).trans xa5);exact(Own.cJ (A:=(b,x.1)::H)).1 h1
        have hb:b∉H.map Prod.fst:=by
          have:=kg.nd;rw[xaF,xay,xa1,xau,xav]at this;exact λh=>this.1 (.inl h)
        exact cz hs p5 yQ nM hk fuel pa cl _ _ _ (h b hb) (E1++E2) la fa hfuel (hE.JM hs gW mK) dZ a w ha kg hR (hout _)
      · have fU:=hE.ready mJ yL
        have ki:=(mem_ready.1 fU).1;obtain⟨f',rfl,g9⟩:=gN ki hfuel;have HS:∀j,la.getD j true=false->cnt (la.setIfInBounds j true).toList<=f':=λj hj=>by
          obtain⟨f2,h1,h2⟩:=gN hj hfuel;have:f2=f':=by omega
          subst this;exact h2
        have hst:=λv=>hE.step hs gW mJ mK v;have wT:=hE.exec (hap mJ) hsel;refine cN.all rfl (λe=>by rw[e]at fU;simp at fU) λj hj=>?_;by_cases Gr:j=i
        · subst Gr
          have qw:∀oj,ops[j]? =some oj->mE oj.op=true->False:=λoj er hp=>by rw[gW]at er;cases er;rw[qS]at hp;cases hp
          unfold wpOp;simp only[gW,Ja mJ,xaS];refine .inl ?_;unfold Oper.wp;rw[ha.eval,wT];cases hex:cO cl j with
          |none=>
            simp only[hex]at h;have h:=h (EC E);refine(pe (jJ fr) h w hw).upon (λv H' w' cy hb=>?_) (λch H' w' _ h0=>h0.elim);obtain⟨he,hk'⟩:=hb.of;have HY:kR P ops j=true->Own g R w':=λhn=>(Own.cJ.2 (he (zx hn) _ _ cy)).left;refine⟨λX hX oj gl=>⟨λhp=>(qw oj gl hp).elim,λ_=>⟨(Own.cJ.2 cy).e8,λhn _=>yQ X hX _ _ (HY hn)⟩⟩,cz hs p5 yQ nM hk f' pa cl _ _ H' hk' E _ _ g9 (hst v) (dZ.step fU) _ w' (ha.put hd v) cy ?_ (hout v)⟩;rintro⟨k,ok,jU,ou,jF⟩;refine HY ?_;have Fq:j≠k:=λe=>by
              subst e;have h1:=cX ki;have hlt:=(xaz.1 h1).1;rw[xai,xbc hlt]at jF;cases jF
            rw[getD_set_ne true Fq]at jF;refine fP jU ou Fq λhw=>?_;rw[dZ.ready fU hw]at jF;cases jF
          |some x=>
            simp only[hex]at h;obtain⟨oj,fH⟩:=hE.cl j x hex hun;have er:=fH.op;rw[gW]at er;cases er;rw[fH.makes w];simp only[Oper.upon];have hal:∀{A:Hp},Own g A w->Own g A (w.alloc x.1):=λhA=>(hA.alloc x.1).tail;refine⟨λX _ oj gl=>⟨λhp=>(qw oj gl hp).elim,λ_=>⟨hal (Own.cJ.2 hw).e8,λ_ h1=>hal h1⟩⟩,?_⟩;refine cz hs p5 yQ nM hk f' pa cl _ _ _ (h _ hw.fresh) E _ _ g9 (hst _) (dZ.step fU) _ _ (ha.put hd _) (hw.alloc x.1) ?_ (hout _);rintro⟨k,ok,jU,ou,jF⟩;exact hal (hR ⟨k,ok,jU,ou,dc ki jF⟩)
        · obtain⟨Ar,Db⟩:=GN j hj
          cases HJ:cO cl j with
          |some x=>exact early f' rfl HS j x hj HJ
          |none=>
          refine absurd ?_ Gr;have I5:j∉cl.map Prod.fst:=λhm=>by
            obtain⟨x,hx⟩:=xe hm;rw[HJ]at hx;cases hx
          have MD:j∈Region.ready .any ops (marks cl i listed):=by
            obtain⟨_,oj,er,aL⟩:=mem_ready.1 hj;rw[mem_ready];refine⟨?_,oj,er,λe he hb=>?_⟩
            · rw[xai,oe,xac (λh=>I5 h.1),<-xai];exact Db
            · have h1:=aL e he hb
              have h2:=hE.la e.on;rw[xai]at h1⊢;rw[oe];by_cases hm:e.on∈E.map Prod.fst
              · obtain⟨x,hx,e2⟩:=xaq.1 hm
                have Gp:=cX (hE.mem x hx).2;rw[e2]at Gp;have hlt:=(xaz.1 Gp).1;rw[xaf ⟨e2▸eJ (hE.mem x hx).1,λe3=>mJ (e3▸hm),hlt⟩];rfl
              · rw[xac hm]at h2
                split
                · rfl
                · rw[<-h2];exact h1
          rw[hrd]at MD;simpa using MD
  termination_by fuel l=>(fuel,SizeOf.sizeOf l)
def lz:Code->Nat->Bool
  | .region _ ops _,s=>aF ops.toList s
  | .seq a b,s=>lz a s||lz b s
  | .cond _ a b,s=>lz a s||lz b s
  | .block _ c,s=>lz c s
  | .loop c,s=>lz c s
  | .skip,_=>false
  | .ret,_=>false
  | .exit _,_=>false
  |_,_=>true
def Cq(c:Code):zL->Bool
  | []=>true
  |s::r=> !lz c s&&Cq c r
def mQ(s:Nat):zL->Bool
  | []=>false
  |x::r=>Nat.beq s x||mQ s r
def Cy:zL->List zV->Fr->Fr
  |l::L,v::vs,base=>λs=>cond (Nat.beq s l) v (Cy L vs base s)
  |_,_,base=>base
def mix(L:zL)(vs:List zV)(I:zL)(fr gs:Fr):Fr:=Cy L vs λs=>cond (mQ s I) (fr s) (gs s)
def rT(fr:Fr):zL->List zV
  | []=>[]
  |s::r=>fr s::rT fr r
def nk:Nat->(List zV->Prop)->Prop
  |0,p=>p []
  |n+1,p=>∀v,nk n λvs=>p (v::vs)
theorem nk.intro{p:List zV->Prop}(h:∀vs,p vs):∀n,nk n p
  |0=>h _
  |n+1=>λv=>nk.intro (λvs=>h (v::vs)) n
theorem nk.elim{p:List zV->Prop}:∀{n:Nat},nk n p->∀vs:List zV,vs.length=n->p vs
  |0,h,vs,e=>by cases vs with|nil=>exact h|cons x y=>simp at e
  |n+1,h,vs,e=>by
    cases vs with
    |nil=>simp at e
    |cons x y=>exact nk.elim (h x) y (by simpa using e)
theorem sy(fr:Fr)(L:zL):(rT fr L).length=L.length:=by induction L<;>simp[rT, *]
theorem mB{L I:zL}{fr fr':Fr}(h:∀s,mQ s I=true->fr' s=fr s):mix L (rT fr' L) I fr fr'=fr':=by
  funext s
  unfold mix;induction L with
  |nil=>
    simp only[rT,Cy];cases he:mQ s I
    · rfl
    · exact(h s he).symm
  |cons l L ih=>
    simp only[rT,Cy];cases hb:Nat.beq s l
    · exact ih
    · have:=xam hb;subst this;rfl
theorem my{c:Code}{I:zL}(h:Cq c I=true):∀s,mQ s I=true->lz c s=false:=by
  induction I with
  |nil=>intro s hs;simp[mQ]at hs
  |cons x r ih=>
    intro s hs;simp only[Cq,xap,xbg]at h;simp only[mQ,xbA]at hs;rcases hs with hs|hs
    · rw[xam hs];exact h.1
    · exact ih h.2 s hs
def qf(next:Fr->Hp->Prop)(Q:Exit->Fr->Hp->Prop):Exit->Fr->Hp->Prop
  | .normal,fr,H=>next fr H
  |e,fr,H=>Q e fr H
def Bv(id:Nat)(Q:Exit->Fr->Hp->Prop):Exit->Fr->Hp->Prop
  | .exit id',fr,H=>cond (Nat.beq id' id) (Q .normal fr H) (Q (.exit id') fr H)
  |e,fr,H=>Q e fr H
def JE(J:List zV->Hp->Prop)(vs:List zV)(H:Hp):Prop:=∃H',aN H H'/\J vs H'
def aI(I:List zV->Hp->Prop)(m:List zV->Hp->Nat)(vs':List zV)(H':Hp)(vs:List zV)(H:Hp):Prop:=∃dP,aN H' dP/\I vs' dP/\m vs' dP<m vs H
def Loop(L:zL)(vs:List zV)(H:Hp)(body:(List zV->Hp->Prop)->List zV->Hp->Prop):Prop:=
  ∃(I:List zV->Hp->Prop) (m:List zV->Hp->Nat),JE I vs H/\nk L.length λvs=>∀H',I vs H'->body (λvs' dP=>aI I m vs' dP vs H') vs H'
def IN(k:Nat)(rest:List zV->Hp->Prop)(body:(List zV->Hp->Prop)->Prop):Prop:=
  ∀J:List zV->Hp->Prop,(nk k λvs=>∀H,rest vs H->J vs H)->body J
def DR(H:Hp)(body:Hp->Prop):Prop:=∃R,aN H R/\body R
def iM:Code->Nat->Option (Array Oper)
  | .region id ops _,k=>cond (Nat.beq id k) (some ops) none
  | .seq a b,k=>match iM a k with|some x=>some x|none=>iM b k
  | .cond _ a b,k=>match iM a k with|some x=>some x|none=>iM b k
  | .block _ c,k=>iM c k
  | .loop c,k=>iM c k
  |_,_=>none
def LY(P:Program)(g:Gh)(id:Nat)(ops:Array Oper)(L:zL)(vs:List zV)(H:Hp)(K:Hp->Prop):Prop:=
  ∀a w,eC a.tmps.size ops.toList=true->(L.map λs=>a.tmps.getD s undef)=vs->Own g H w->
    (Code.region id ops true).wp P (λe a' w'=>e=.normal/\a'.defers=a.defers/\a'.tmps.size=a.tmps.size/\(∀s,aF ops.toList s=false->a'.tmps.getD s undef=a.tmps.getD s undef)/\∃H',Own g H' w'/\K H') a w
def NK(f:Func)(r:Nat):Array Oper:=match f.body with|some c=>(match iM c r with|some ops=>ops|none=>#[])|none=>#[]
theorem Dq(fr:Fr)(L:zL):rT fr L=L.map fr:=by induction L<;>simp[rT, *]
def den(P:Program)(g:Gh)(n:Nat):Code->Hn->(Exit->Fr->Hp->Prop)->Fr->Hp->Prop
  | .skip,_,Q,fr,H=>Q .normal fr H
  | .ret,_,Q,fr,H=>Q .ret fr H
  | .exit id,_,Q,fr,H=>Q (.exit id) fr H
  | .seq x y,hn,Q,fr,H=>
    match hn.m with
    |0=>den P g n x hn.a (qf (den P g n y hn.b Q) Q) fr H
    |_=>cond (Cq x hn.I)
        (IN hn.L.length (λvs H'=>∀gs,den P g n y hn.b Q (mix hn.L vs hn.I fr gs) H') λJ=>den P g n x hn.a (qf (λfr' H'=>JE J (rT fr' hn.L) H') Q) fr H) False
  | .cond c x y,hn,Q,fr,H=>Br (ev fr c) (den P g n x hn.a Q fr H) (den P g n y hn.b Q fr H)
  | .block id c,hn,Q,fr,H=>den P g n c hn.a (Bv id Q) fr H
  | .loop c,hn,Q,fr,H=>
    cond (Cq c hn.I)
      (Loop hn.L (rT fr hn.L) H λJ vs H'=>∀gs,den P g n c hn.a (qf (λfr' dP=>J (rT fr' hn.L) dP) Q) (mix hn.L vs hn.I fr gs) H') False
  | .region id ops draw,hn,Q,fr,H=>
    cond draw
      (match hn.m with
      |0=>match hn.L with
       | []=>cond (P.follows .mixedOrders&&Region.lexB .any ops) (cf P g n ops true (ops.toList.length+1) true none [] ops.toList fr H (λ_ fr' H'=>Q .normal fr' H') (λ_ _=>False)) False
       |l=>cond (P.follows .mixedOrders&&Region.noSelect ops&&Nat.ble l.length ops.size)
          (DR H λR=>xm P g n ops R (λfr' H'=>Q .normal fr' H') l (Array.replicate ops.size false) fr H) False
      |9=>cond (eC n ops.toList) (LY P g id ops hn.L (rT fr hn.L) H λH'=>∀gs,Q .normal (ko ops.toList gs fr) H') False
      |_=>cond (P.follows .mixedOrders&&Region.noSelect ops)
          (DR H λR=>ie P g n ops R (λfr' H'=>Q .normal fr' H') hn.a [] (Array.replicate ops.size false) fr H) False)
      (cf P g n ops (match hn.I with| []=>false|_=>true) (ops.toList.length+1) false none [] ops.toList fr H (λ_ fr' H'=>Q .normal fr' H') (λch H'=>∀fr',Q (.panic ch) fr' H'))
  |_,_,_,_,_=>False
theorem qa{c:Code}{Q:Exit->Act->World->Prop}{a:Act}{w:World}(R:Act->World->Nat->Prop)(h₀:∃m,R a w m)
   (round:∀a w m,R a w m->c.wp P (Exit.then (λa' w'=>∃m',m'<m/\R a' w' m') Q) a w):(Code.loop c).wp P Q a w:=by
  intro b k cs;have key:∀n a w,R a w n->
      ∃e a' w',Q e a' w'/\Arrives P (lone (b.at a (.code c:: .inLoop c::k)) cs w) b k cs e a' w':=by
    intro n;induction n using Nat.strongRecOn with
    |_ n ih=>
      intro a w hI;obtain⟨e,a₁,w₁,hq,qW⟩:=round a w n hI b (.inLoop c::k) cs;cases e with
      |normal=>
        obtain⟨m',hlt,Ie⟩:=hq;obtain⟨e₂,a₂,w₂,Hw,Di⟩:=ih m' hlt a₁ w₁ Ie;exact⟨e₂,a₂,w₂,Hw,.of_steps (Steps.trans qW (.one step_inLoop)) Di⟩
      |exit id=>exact⟨_,a₁,w₁,hq,.pass (x:=.inLoop c) rfl (λ_ _=>.inl zI) qW⟩
      |goto l=>exact⟨_,a₁,w₁,hq,.pass (x:=.inLoop c) rfl (λ_ _=>.inl zI) qW⟩
      |ret=>exact⟨_,a₁,w₁,hq,.pass (x:=.inLoop c) rfl (λ_ _=>.inl zI) qW⟩
      |panic ch=>exact⟨_,a₁,w₁,hq,.pass (x:=.inLoop c) rfl (λ_ _=>.inl zI) qW⟩
      |outgrown=>exact⟨_,a₁,w₁,hq,.pass (x:=.inLoop c) rfl (λ_ _=>.inl zI) qW⟩
  obtain⟨m,h₀⟩:=h₀;obtain⟨e,a',w',hq,qW⟩:=key m a w h₀;exact⟨e,a',w',hq,.of_steps (.one step_loop) qW⟩
def jD:Exit->Bool
  | .panic _=>true
  |_=>false
theorem ew{n:Nat}:∀(c:Code) (hn:Hn) (Q:Exit->Fr->Hp->Prop) (fr:Fr) (H:Hp),den P g n c hn Q fr H->∀(a:Act) (w:World),aZ ds n a fr->Own g H w->c.wp P (λe a' w'=>∃fr' H',aZ ds n a' fr'/\Own g H' w'/\(jD e=false->∀s,lz c s=false->fr' s=fr s)/\Q e fr' H') a w:=by
  intro c;induction c with
  |skip=>intro hn Q fr H h a w ha hw;exact wp_skip ⟨fr,H,ha,hw,λ_ _ _=>rfl,h⟩
  |ret=>intro hn Q fr H h a w ha hw;exact wp_ret ⟨fr,H,ha,hw,λ_ _ _=>rfl,h⟩
  |exit id=>intro hn Q fr H h a w ha hw;exact wp_exit ⟨fr,H,ha,hw,λ_ _ _=>rfl,h⟩
  |seq x y Ed Ec=>
    intro hn Q fr H h a w ha hw;unfold den at h;have G7:∀{Dr kX:Fr},(∀s,lz x s=false->Dr s=fr s)->(∀s,lz y s=false->kX s=Dr s)->∀s,lz (.seq x y) s=false->kX s=fr s:=λh1 h2 s hs=>by
      simp only[lz,xar]at hs;rw[h2 s hs.2,h1 s hs.1]
    have nD:∀{Dr:Fr},(∀s,lz x s=false->Dr s=fr s)->∀s,lz (.seq x y) s=false->Dr s=fr s:=λh1 s hs=>by
      simp only[lz,xar]at hs;exact h1 s hs.1
    split at h
    · refine wp_seq (wp_mono (Ed _ _ fr H h a w ha hw) ?_)
      rintro e a' w' ⟨fr',H',bU,hw',ho,hq⟩;cases e with
      |normal=>exact wp_mono (Ec _ _ fr' H' hq a' w' bU hw') λe2 a2 w2 ⟨kX,H2,g1,g2,g3,g4⟩=>⟨kX,H2,g1,g2,λhp=>G7 (ho rfl) (g3 hp),g4⟩
      |exit id=>exact⟨fr',H',bU,hw',λhp=>nD (ho hp),hq⟩
      |goto l=>exact⟨fr',H',bU,hw',λhp=>nD (ho hp),hq⟩
      |ret=>exact⟨fr',H',bU,hw',λhp=>nD (ho hp),hq⟩
      |panic ch=>exact⟨fr',H',bU,hw',λhp=>nD (ho hp),hq⟩
      |outgrown=>exact⟨fr',H',bU,hw',λhp=>nD (ho hp),hq⟩
    · cases hno:Cq x hn.I<;>simp only[hno,xaj,xah]at h
      have h':=h (λvs H'=>∀gs,den P g n y hn.b Q (mix hn.L vs hn.I fr gs) H') (nk.intro (λvs H' hh=>hh) _);refine wp_seq (wp_mono (Ed _ _ fr H h' a w ha hw) ?_);rintro e a' w' ⟨fr',H',bU,hw',ho,hq⟩;cases e with
      |normal=>
        obtain⟨Hj,hent,hq⟩:=hq;have I1:den P g n y hn.b Q fr' Hj:=by
          have:=hq fr';rwa [mB λs hs=>ho rfl s (my hno s hs)]at this
        exact wp_mono (Ec _ _ fr' Hj I1 a' w' bU (hent _ _ hw')) λe2 a2 w2 ⟨kX,H2,g1,g2,g3,g4⟩=>⟨kX,H2,g1,g2,λhp=>G7 (ho rfl) (g3 hp),g4⟩
      |exit id=>exact⟨fr',H',bU,hw',λhp=>nD (ho hp),hq⟩
      |goto l=>exact⟨fr',H',bU,hw',λhp=>nD (ho hp),hq⟩
      |ret=>exact⟨fr',H',bU,hw',λhp=>nD (ho hp),hq⟩
      |panic ch=>exact⟨fr',H',bU,hw',λhp=>nD (ho hp),hq⟩
      |outgrown=>exact⟨fr',H',bU,hw',λhp=>nD (ho hp),hq⟩
  |cond c x y Ed Ec=>
    intro hn Q fr H h a w ha hw;obtain⟨b,hb,ht,hf⟩:=h;refine wp_cond_split (t:=b) (by rw[ha.eval];exact hb) (λe=>?_) (λe=>?_)
    · exact wp_mono (Ed _ _ fr H (ht e) a w ha hw) λe2 a2 w2 ⟨kX,H2,g1,g2,g3,g4⟩=>⟨kX,H2,g1,g2,λhp s hs=>g3 hp s (by simp only[lz,xar]at hs;exact hs.1),g4⟩
    · exact wp_mono (Ec _ _ fr H (hf e) a w ha hw) λe2 a2 w2 ⟨kX,H2,g1,g2,g3,g4⟩=>⟨kX,H2,g1,g2,λhp s hs=>g3 hp s (by simp only[lz,xar]at hs;exact hs.2),g4⟩
  |block id c ih=>
    intro hn Q fr H h a w ha hw;refine wp_block (wp_mono (ih _ _ fr H h a w ha hw) ?_);rintro e a' w' ⟨fr',H',bU,hw',ho,hq⟩;cases e with
    |exit id'=>
      simp only[Bv]at hq;cases hb:Nat.beq id' id<;>simp only[hb,xaj,xah]at hq
      · have:id'≠id:=λe=>by subst e;simp at hb
        simp only[Exit.inBlock,this,xaD];exact⟨fr',H',bU,hw',ho,hq⟩
      · have:=xam hb
        simp only[Exit.inBlock,this,xaS];exact⟨fr',H',bU,hw',ho,hq⟩
    |normal=>exact⟨fr',H',bU,hw',ho,hq⟩
    |goto l=>exact⟨fr',H',bU,hw',ho,hq⟩
    |ret=>exact⟨fr',H',bU,hw',ho,hq⟩
    |panic ch=>exact⟨fr',H',bU,hw',ho,hq⟩
    |outgrown=>exact⟨fr',H',bU,hw',ho,hq⟩
  |loop c ih=>
    intro hn Q fr H h a w ha hw;unfold den at h;cases hno:Cq c hn.I<;>simp only[hno,xaj,xah]at h;obtain⟨I,m,⟨H0,HQ,h0⟩,hr⟩:=h;refine qa (λa w k=>∃fr' H',aZ ds n a fr'/\Own g H' w/\(∀s,lz c s=false->fr' s=fr s)/\I (rT fr' hn.L) H'/\m (rT fr' hn.L) H'=k) ⟨_,fr,H0,ha,HQ _ _ hw,λ_ _=>rfl,h0,rfl⟩ ?_;rintro a w k ⟨Dr,H1,Et,kg,Ek,hI,rfl⟩;have hb:=hr.elim (rT Dr hn.L) (sy _ _) H1 hI Dr;rw[mB λs hs=>Ek s (my hno s hs)]at hb;refine wp_mono (ih _ _ Dr H1 hb a w Et kg) ?_;rintro e a' w' ⟨fr',H',bU,hw',ho,hq⟩;have cy:jD e=false->∀s,lz c s=false->fr' s=fr s:=λhp s hs=>(ho hp s hs).trans (Ek s hs);cases e with
    |normal=>obtain⟨Hj,hent,Ob,wO⟩:=hq;exact⟨_,wO,fr',Hj,bU,hent _ _ hw',cy rfl,Ob,rfl⟩
    |exit id=>exact⟨fr',H',bU,hw',cy,hq⟩
    |goto l=>exact⟨fr',H',bU,hw',cy,hq⟩
    |ret=>exact⟨fr',H',bU,hw',cy,hq⟩
    |panic ch=>exact⟨fr',H',bU,hw',cy,hq⟩
    |outgrown=>exact⟨fr',H',bU,hw',cy,hq⟩
  |region id ops draw=>
    intro hn Q fr H h a w ha hw;unfold den at h;cases draw<;>simp only[xaj,xah]at h
    case false=>
      refine wp_region_list ?_;have:=bj _ _ _ _ _ fr H _ _ h trivial (dB.nil fr) a w ha hw [] (λe a' w'=>∃fr' H',aZ ds n a' fr'/\Own g H' w'/\(jD e=false->∀s,lz (.region id ops false) s=false->fr' s=fr s)/\Q e fr' H') ?_ ?_
      · simpa using this
      · intro a' w' iq fr' H' h1 h2 h3 _ h4
        exact⟨fr',H',h1,h2,λ_=>h3,h4⟩
      · intro ch a' w' fr' H' h1 h2 h3
        exact⟨fr',H',h1,h2,λhp=>by simp[jD]at hp,h3 fr'⟩
    case true=>
      split at h
      · split at h
        · cases hc:(P.follows .mixedOrders&&Region.lexB .any ops)<;>simp only[hc,xaj,xah]at h
          simp only[xap]at hc;refine wp_region_quiet (C:=Own g H) hc.1 hc.2 hw.rf ?_;have:=bV _ none _ ops.toList fr H _ _ h trivial (dB.nil fr) a ha [] (λa'=>∀w',Own g H w'->∃fr' H',aZ ds n a' fr'/\Own g H' w'/\(jD .normal=false->∀s,lz (.region id ops true) s=false->fr' s=fr s)/\Q .normal fr' H') ?_
          · simpa using this
          · intro a' iq fr' h1 h3 _ h4
            exact λw' hw'=>⟨fr',H,h1,hw',λ_=>h3,h4⟩
        · cases hc:(P.follows .mixedOrders&&Region.noSelect ops&&Nat.ble hn.L.length ops.size)<;>simp only[hc,xaj,xah]at h
          simp only[xap]at hc;obtain⟨R,hR,h⟩:=h;refine wp_mono (Q:=jQ λe a' w'=>∃fr' H',aZ ds n a' fr'/\Own g H' w'/\(jD e=false->∀s,lz (.region id ops true) s=false->fr' s=fr s)/\Q e fr' H') ?_ ?_
          · refine wp_region_any hc.1.1 (cN.any (S:=vM P g R ops) ?_)
            exact jL hc.1.2 fr (λa w fr' H' h1 h2 h3 h4=>⟨fr',H',h1,h2,λ_=>h3,h4⟩) _ _ fr H h _ (xbr hc.2) (cQ.none _ rfl) _ _ ha hw.rf (λ_=>(hR _ _ hw).rf) (cA.refl _ _)
          · intro e a w h
            cases e<;>first|exact h|exact h.elim
      · cases hc:eC n ops.toList<;>simp only[hc,xaj,xah]at h
        refine wp_mono (h a w (by rw[ha.size];exact hc) (by rw[Dq];exact xbC λs _=>ha.get s) hw) ?_;rintro e a' w' ⟨rfl,hd,hs,ho,H',hw',hk⟩;refine⟨ko ops.toList (λs=>a'.tmps.getD s undef) fr,H',⟨hd.trans ha.defers,hs.trans ha.size,λs=>?_⟩,hw',λ_ s hs=>?_,hk _⟩
        · unfold ko
          cases hb:aF ops.toList s
          · rw[xah,ho s hb,ha.get]
          · rfl
        · unfold ko;simp only[lz]at hs;rw[hs,xah]
      · cases hc:(P.follows .mixedOrders&&Region.noSelect ops)<;>simp only[hc,xaj,xah]at h
        simp only[xap]at hc;obtain⟨R,hR,h⟩:=h;refine wp_mono (Q:=jQ λe a' w'=>∃fr' H',aZ ds n a' fr'/\Own g H' w'/\(jD e=false->∀s,lz (.region id ops true) s=false->fr' s=fr s)/\Q e fr' H') ?_ ?_
        · refine wp_region_any hc.1 (cN.any (S:=jd P g [R] ops) ?_)
          refine cz (Xs:=[_]) hc.2 (.head _) (λX hX=>by rw[xaG.1 hX];exact .refl _) fr (λa w fr' H' h1 h2 h3 h4=>⟨fr',H',h1,h2,λ_=>h3,h4⟩) _ _ [] _ fr H h [] _ fr (by rw[Array.toList_replicate,nN];exact xal _) ⟨by simp,by simp,by simp,λ_ _=>rfl,by simp,λj x hx=>by simp[cO]at hx⟩ (cQ.none _ rfl) _ _ ha hw.rf (λ_=>(hR _ _ hw).rf) (cA.refl _ _)
        · intro e a w h
          cases e<;>first|exact h|exact h.elim
  |label l=>intro hn Q fr H h;exact h.elim
  |goto l=>intro hn Q fr H h;exact h.elim
  |scope c _=>intro hn Q fr H h;exact h.elim
  |refuse s=>intro hn Q fr H h;exact h.elim
  |rangeFunc f ps as b _ _=>intro hn Q fr H h;exact h.elim
def cP(R:Ending->Hp->Prop):List PanicEntry->Hp->Prop:=λch H=>∀_:Fr,R (.panicked ch) H
def DO:List PanicEntry->Hp->Prop:=λ_ _=>False
def mu:Code->Nat->Option (Array Oper)
  | .region id ops _,k=>cond (Nat.beq id k) (some ops) none
  | .seq a b,k=>match mu a k with|some x=>some x|none=>mu b k
  | .cond _ a b,k=>match mu a k with|some x=>some x|none=>mu b k
  | .block _ c,k=>mu c k
  | .loop c,k=>mu c k
  |_,_=>none
def bQ(f:Func)(r i:Nat):Oper:=match f.body with|some c=>(match mu c r with|some ops=>(match ops[i]? with|some o=>o|none=>default)|none=>default)|none=>default
def c5:List zV->Nat->Fr
  | [],_=>λ_=>undef
  |v::r,i=>λs=>cond (Nat.beq s i) v (c5 r (i+1) s)
def iL(P:Program)(fr:Fr)(H:Hp):List ResultVar->(List zV->Prop)->Prop
  | [],k=>k []
  | .tmp t::r,k=>iL P fr H r λvs=>k (fr t::vs)
  | .cell a t::r,k=>match P.underlying t,bL P t with
    |some d,some n=>cond (bJ d) (aA n H (fr a) λv=>iL P fr H r λvs=>k (v::vs)) (Ld H (fr a) λv=>iL P fr H r λvs=>k (v::vs))
    |_,_=>False
def mg:List zV->zV
  | [v]=>v
  |vs=>.tuple vs.toArray
def LR(P:Program)(fn:Func)(R:Ending->Hp->Prop):Exit->Fr->Hp->Prop
  | .normal,fr,H=>iL P fr H fn.results.toList λvs=>R (.returned (mg vs)) H
  | .ret,fr,H=>iL P fr H fn.results.toList λvs=>R (.returned (mg vs)) H
  | .panic ch,_,H=>R (.panicked ch) H
  |_,_,_=>False
def sG(P:Program)(g:Gh)(fn:Func)(hn:Hn)(args:List zV)(H:Hp)(R:Ending->Hp->Prop):Prop:=
  match fn.body with
  |some c=>cond (Nat.ble args.length fn.ntmps) (den P g fn.ntmps c hn (LR P fn R) (c5 args 0) H) False
  |none=>False
theorem fT:∀(l:List zV) (i s:Nat),c5 l i s=if s<i then undef else l.getD (s-i) undef
  | [],i,s=>by simp[c5]
  |v::r,i,s=>by
    simp only[c5,fT r (i+1) s];cases hb:Nat.beq s i
    · have hne:s≠i:=λe=>by subst e;simp at hb
      simp only[xah];by_cases h:s<i
      · rw[xaf zO,xaf h]
      · rw[xac zO,xac h,show s-i=(s-(i+1))+1 by omega]
        simp[List.getD]
    · have:=xam hb;subst this
      simp[List.getD]
def wg(fr:Fr):ResultVar->Sem zV
  | .tmp t=>pure (fr t)
  | .cell b t=>do loadVar t (<-asAddr (fr b))
theorem kT{fr:Fr}{H:Hp}{w:World}(hw:Own g H w){b:Tmp}{t:TypeId}{v:zV}{p:Addr}(hp:fr b=.pointer (some p))(h:(Instr.loadAt t (fr b)).run P w=.ok v w):(wg fr (.cell b t)).run P w=.ok v w:=by
  rw[hp]at h;simp only[wg,hp,asAddr];simpa[Instr.loadAt,Instr.sureAddr]using h
theorem jq{fr:Fr}{H:Hp}{w:World}(hw:Own g H w):∀(l:List ResultVar) (k:List zV->Prop),iL P fr H l k->
    ∃vs,(l.mapM (wg fr)).run P w=.ok vs w/\k vs
  | [],k,h=>⟨[],by simp,h⟩
  | .tmp t::r,k,h=>by
    obtain⟨vs,hr,hk⟩:=jq hw r _ h;refine⟨fr t::vs,?_,hk⟩;simp only[xdg,Sem.run_bind,Sem.run_pure,Result.andThen_ok,hr,wg]
  | .cell b t::r,k,h=>by
    unfold iL at h;split at h<;>try exact h.elim
    rename_i d m hd hm;obtain⟨i,hi,Ow⟩:=aD hm;cases hag:bJ d<;>simp only[hag,xaj,xah]at h
    · obtain⟨v,hk',hf⟩:=h.fix
      obtain⟨v2,rR,e⟩:=hf.run (P:=P) hw hd hag;subst e;obtain⟨bb,off,c,T,fz,u,hp,_⟩:=hf;obtain⟨vs,hr,hk⟩:=jq hw r _ hk';refine⟨v2::vs,?_,hk⟩;have:=kT hw hp rR;simp only[xdg,Sem.run_bind,Result.andThen_ok,hr,Sem.run_pure,this]
    · obtain⟨v,hk',hf⟩:=h.fix
      obtain⟨v2,rR,e⟩:=hf.run (P:=P) hw hd hag hi Ow;subst e;obtain⟨bb,off,c,T,fz,hp,_⟩:=hf;obtain⟨vs,hr,hk⟩:=jq hw r _ hk';refine⟨v2::vs,?_,hk⟩;have:=kT hw hp rR;simp only[xdg,Sem.run_bind,Result.andThen_ok,hr,Sem.run_pure,this]
theorem de{fn:Func}{fr:Fr}{H:Hp}{n:Nat}{a:Act}{w:World}(ha:aZ ds n a fr)(hw:Own g H w){k:List zV->Prop}(h:iL P fr H fn.results.toList k):
    ∃vs,(results fn a.tmps).run P w=.ok (mg vs) w/\k vs:=by
  obtain⟨vs,hr,hk⟩:=jq (P:=P) hw _ _ h;refine⟨vs,?_,hk⟩;have e:results fn a.tmps=(do let vs <-fn.results.mapM (wg fr);pure (if h:vs.size=1 then vs[0]else .tuple vs)):=by
    unfold results;congr 1;congr 1
    funext x
    cases x<;>simp only[wg,ha.get]
  rw[e,Array.mapM_eq_mapM_toList];simp only[Sem.run_bind,Sem.run_map,hr,Result.andThen_ok,Sem.run_pure];congr 1
  match vs with
  | []=>rfl
  | [v]=>rfl
  |a::b::r=>simp[mg]
theorem sF{f:FuncId}{fn:Func}{hn:Hn}{args:List zV}{H:Hp}{R:Ending->Hp->Prop}(hf:P.funcs[f]? =some fn)(h:sG P g fn hn args H R):aX P g f args.toArray H R:=by
  intro w hw;unfold sG at h;split at h<;>try exact h.elim
  rename_i c hc;cases hl:Nat.ble args.length fn.ntmps<;>simp only[hl,xaj,xah]at h;have hle:=xbr hl;refine calls_of_wp hf hc (wp_mono (ew c hn _ _ H h _ w ⟨rfl,?_,?_⟩ hw) ?_)
  · simp;omega
  · intro s
    rw[fT,xai,xc4];simp only[xb1,xbX,xaD,xcN];by_cases hs:s<args.length
    · simp[hs,List.getD]
    · rw[xac hs]
      rw[xb8];have:args.getD s undef=undef:=by simp[List.getD,xaE (xca hs)]
      rw[this];split<;>rfl
  · rintro e a' w' ⟨fr',H',bU,hw',_,hq⟩
    cases e with
    |normal=>obtain⟨vs,hr,hk⟩:=de bU hw' hq;exact⟨bU.defers,_,hr,H',hw',hk⟩
    |ret=>obtain⟨vs,hr,hk⟩:=de bU hw' hq;exact⟨bU.defers,_,hr,H',hw',hk⟩
    |panic ch=>exact⟨bU.defers,H',hw',hq⟩
    |exit id=>exact hq.elim
    |goto l=>exact hq.elim
    |outgrown=>exact hq.elim
end
end Go.Sx
namespace Go.Sx
open Go
section
variable {P:Program} {g:Gh} {H:Hp}
theorem Nil.ptr{a:Addr}{k:zV->Prop}(h:k (.pointer (some a))):Nil (.pointer (some a)) k:=⟨_,rfl,h⟩
theorem ah.mk{b o off:Nat}{k:zV->Prop}(h:k (.pointer (some ⟨b,o+off,none⟩))):ah off (.pointer (some ⟨b,o,none⟩)) k:=⟨b,o,rfl,h⟩
theorem Ld.mk{b off:Nat}{c:Array zV}{T:TypeId}{fz:Nat×Nat}{v:zV}{k:zV->Prop}(hm:(b,Obj.cells c T fz)∈H)(hc:c[off]? =some v)(h:k v):Ld H (.pointer (some ⟨b,off,none⟩)) k:=
 ⟨b,off,c,T,fz,v,rfl,hm,hc,h⟩
theorem aA.mk{b off n:Nat}{c:Array zV}{T:TypeId}{fz:Nat×Nat}{vs:Array zV}{k:zV->Prop}(hm:(b,Obj.cells c T fz)∈H)(hs:off+n<=c.size)(hc:c.extract off (off+n)=vs)(h:k (.agg vs)):aA n H (.pointer (some ⟨b,off,none⟩)) k:=
 ⟨b,off,c,T,fz,rfl,hm,hs,by rw[hc];exact h⟩
theorem St.mk{b off n:Nat}{c:Array zV}{T:TypeId}{x:zV}{c':Array zV}{H':Hp}{k:Hp->Prop}(hu:bW b (.cells c T zZ) (.cells c' T zZ) H H')(hx:x.cells.size=n)(hs:off+n<=c.size)
 (h1:∀v∈x.cells.toList,v.oneCell'=true)(hc:over c off x.cells.toList=c')(h:k H'):St n H (.pointer (some ⟨b,off,none⟩)) x k:=
 ⟨b,off,c,T,H',rfl,hx,hs,h1,by rw[hc];exact hu,h⟩
theorem JE.mk{J:List zV->Hp->Prop}{vs:List zV}(h:J vs H):JE J vs H:=⟨H,.refl _,h⟩
theorem JE.of{J:List zV->Hp->Prop}{vs:List zV}{H':Hp}(e:aN H H')(h:J vs H'):JE J vs H:=⟨H',e,h⟩
theorem aI.mk{I:List zV->Hp->Prop}{m:List zV->Hp->Nat}{vs' vs:List zV}{H0:Hp}(h:I vs' H)(hm:m vs' H<m vs H0):aI I m vs' H vs H0:=⟨H,.refl _,h,hm⟩
theorem aI.of{I:List zV->Hp->Prop}{m:List zV->Hp->Nat}{vs' vs:List zV}{H' H0:Hp}(e:aN H H')(h:I vs' H')(hm:m vs' H'<m vs H0):aI I m vs' H vs H0:=⟨H',e,h,hm⟩
theorem Br.mk{b:Bool}{t f:Prop}(h1:b=true->t)(h2:b=false->f):Br (.bool b) t f:=⟨b,rfl,h1,h2⟩
theorem Br.yes{t f:Prop}(h1:t):Br (.bool true) t f:=⟨true,rfl,λ_=>h1,λh=>by simp at h⟩
theorem Br.no{t f:Prop}(h1:f):Br (.bool false) t f:=⟨false,rfl,λh=>by simp at h,λ_=>h1⟩
theorem Br.EJ{b:Bool}{t f:Prop}(hb:b=true)(h1:t):Br (.bool b) t f:=by subst hb;exact Br.yes h1
theorem Br.JU{b:Bool}{t f:Prop}(hb:b=false)(h1:f):Br (.bool b) t f:=by subst hb;exact Br.no h1
theorem bO.mk{a:Bool}{want:Bool}{inner els k:Bool->Prop}(t:Bool)(h1:a=want->inner t)(h2:a= !want->els t)(h3:k t):bO (.bool a) want inner els k:=⟨a,t,rfl,h1,h2,h3⟩
theorem bO.and{a:Bool}{inner els k:Bool->Prop}(b:Bool)(h1:a=true->inner b)(h2:els false)(h3:k (a&&b)):bO (.bool a) true inner els k:=
 ⟨a,a&&b,rfl,λe=>by subst e;exact h1 rfl,λe=>by subst e;exact h2,h3⟩
theorem bO.or{a:Bool}{inner els k:Bool->Prop}(b:Bool)(h1:a=false->inner b)(h2:els true)(h3:k (a||b)):bO (.bool a) false inner els k:=
 ⟨a,a||b,rfl,λe=>by subst e;exact h1 rfl,λe=>by subst e;exact h2,h3⟩
theorem Split.go{a:Bool}{want:Bool}{k1 k2:Prop}(e:a=want)(h1:k1):Split (.bool a) want k1 k2:=⟨a,rfl,λ_=>h1,λe'=>by subst e;cases a<;>simp at e'⟩
theorem Split.G6{a:Bool}{want:Bool}{k1 k2:Prop}(e:a= !want)(h1:k2):Split (.bool a) want k1 k2:=⟨a,rfl,λe'=>by subst e';cases a<;>simp at e,λ_=>h1⟩
theorem az.mk{t:Bool}{a b:zV}{k:zV->Prop}(h:k (cond t a b)):az (.bool t) a b k:=⟨t,rfl,h⟩
theorem Un.not{b:Bool}{k:zV->Prop}(h:k (.bool !b)):Un .not (.bool b) k:=⟨_,rfl,h⟩
theorem Ext.mk{i:Nat}{vs:Array zV}{v:zV}{k:zV->Prop}(hv:vs[i]? =some v)(h:k v):Ext i (.tuple vs) k:=⟨vs,v,rfl,hv,h⟩
theorem bp.mk{a:Option Addr}{n c:Nat}{k:zV->Prop}(h:k (.int .i64 n)):bp (.slice a n c) k:=⟨a,n,c,rfl,h⟩
theorem aM.of{kd j:IntKind}{n m:Int}{k:zV->Prop}(e:kd.wrap n=m)(h:k (.int kd m)):aM kd (.int j n) k:=⟨j,n,rfl,by rw[e];exact h⟩
theorem BY.mk{off:Nat}{cs:Array zV}{v:zV}{k:zV->Prop}(hc:cs[off]? =some v)(h:k v):BY off (.agg cs) k:=⟨cs,v,rfl,hc,h⟩
theorem ai.mk{size b o n c:Nat}{kd:IntKind}{i:Int}{k:zV->Prop}(h0:0<=i)(h1:i<(n:Int))(h:k (.pointer (some ⟨b,o+i.toNat*size,none⟩))):ai size (.slice (some ⟨b,o,none⟩) n c) (.int kd i) k:=
 ⟨b,o,n,c,kd,i,rfl,rfl,h0,h1,h⟩
theorem ai.nat{size b o n c:Nat}{kd:IntKind}{j:Nat}{k:zV->Prop}(h1:j<n)(h:k (.pointer (some ⟨b,o+j*size,none⟩))):ai size (.slice (some ⟨b,o,none⟩) n c) (.int kd (j:Int)) k:=
 ai.mk (xbs j) zO (by simpa using h)
theorem ae.eql{kd:IntKind}{a b:Int}{k:zV->Prop}(h:k (.bool (a==b))):ae .num .eql (.int kd a) (.int kd b) k:=⟨_,by simp[eL,g8],h⟩
theorem ae.neq{kd:IntKind}{a b:Int}{k:zV->Prop}(h:k (.bool (a !=b))):ae .num .neq (.int kd a) (.int kd b) k:=⟨_,by simp[eL,g8],h⟩
theorem ae.lss{kd:IntKind}{a b:Int}{k:zV->Prop}(h:k (.bool (decide (a<b)))):ae .num .lss (.int kd a) (.int kd b) k:=⟨_,by simp[eL,g8],h⟩
theorem ae.leq{kd:IntKind}{a b:Int}{k:zV->Prop}(h:k (.bool (decide (a<=b)))):ae .num .leq (.int kd a) (.int kd b) k:=⟨_,by simp[eL,g8],h⟩
theorem ae.gtr{kd:IntKind}{a b:Int}{k:zV->Prop}(h:k (.bool (decide (b<a)))):ae .num .gtr (.int kd a) (.int kd b) k:=⟨_,by simp[eL,g8],h⟩
theorem ae.geq{kd:IntKind}{a b:Int}{k:zV->Prop}(h:k (.bool (decide (b<=a)))):ae .num .geq (.int kd a) (.int kd b) k:=⟨_,by simp[eL,g8],h⟩
theorem ae.add{kd:IntKind}{a b:Int}{k:zV->Prop}(h:k (.int kd (kd.wrap (a+b)))):ae .num .add (.int kd a) (.int kd b) k:=⟨_,by simp[eL,g8],h⟩
theorem ae.sub{kd:IntKind}{a b:Int}{k:zV->Prop}(h:k (.int kd (kd.wrap (a-b)))):ae .num .sub (.int kd a) (.int kd b) k:=⟨_,by simp[eL,g8],h⟩
theorem ae.mul{kd:IntKind}{a b:Int}{k:zV->Prop}(h:k (.int kd (kd.wrap (a*b)))):ae .num .mul (.int kd a) (.int kd b) k:=⟨_,by simp[eL,g8],h⟩
theorem wrap_i64{a:Int}(h: -9223372036854775808<=a/\a<=9223372036854775807):IntKind.i64.wrap a=a:=IntWalk.i64_in _ h
theorem ae.GS{a b:Int}{c:Int}{k:zV->Prop}(e:a-b=c)(hb: -9223372036854775808<=c/\c<=9223372036854775807)(h:k (.int .i64 c)):ae .num .sub (.int .i64 a) (.int .i64 b) k:=
 ae.sub (by rw[e,wrap_i64 hb];exact h)
theorem ae.D4{kd:IntKind}{a b:Int}{c:Int}{k:zV->Prop}(hb0:b≠0)(e:a.tmod b=c)(h:k (.int kd c)):ae .num .rem (.int kd a) (.int kd b) k:=
 ⟨.int kd c,by simp[eL,g8,hb0,e],h⟩
theorem ae.bh{a:Addr}{k:zV->Prop}(h:k (.bool false)):ae .ptr .eql (.pointer (some a)) (.pointer none) k:=⟨.bool false,by simp[eL],h⟩
theorem ae.EY{k:zV->Prop}(h:k (.bool true)):ae .ptr .eql (.pointer none) (.pointer none) k:=⟨.bool true,by simp[eL],h⟩
theorem aN.DZ(A B C:Hp):aN (A++(B++C)) (B++(A++C)):=.perm (by rw[<-xat,<-xat];exact xaK.append_right C)
def flat:List Hp->Hp
 | []=>[]
 | [a]=>a
 |a::b::r=>a++flat (b::r)
theorem kA:∀(l:List Hp),(flat l).Perm l.flatten
 | []=>.refl _
 | [a]=>by simp[flat]
 |a::b::r=>by
  simp only[flat,xbz];exact xc3 _ (by simpa using kA (b::r))
theorem aN.GV(S T:List Hp)(h:S.Perm T):aN (flat S) (flat T):=
 .perm ((kA S).trans (h.flatten.trans (kA T).symm))
def rows(l:List (List zV)):Array zV:=l.flatten.toArray
theorem kZ{k:Nat}:∀(l:List (List zV)) (i j:Nat),(∀r∈l,r.length=k)->j<k->l.flatten[i*k+j]? =(l[i]?).bind (·[j]?)
 | [],i,j,_,_=>by simp
 |r::l,0,j,h,hj=>by
  have:=h r zI;simp[xc9,this,hj]
 |r::l,i+1,j,h,hj=>by
  have hr:=h r zI;have ih:=kZ l i j (λx hx=>h x (by simp[hx])) hj;rw[xbz,xb0 (by rw[hr,xbi];omega),hr,show(i+1)*k+j-k=i*k+j by rw[xbi];omega,ih];simp
theorem bS{k:Nat}:∀(l:List (List zV)),(∀r∈l,r.length=k)->l.flatten.length=l.length*k
 | [],_=>by simp
 |r::l,h=>by
  have hr:=h r zI;rw[xbz,xan,hr,bS l (λx hx=>h x (by simp[hx]))];simp[xbi];omega
theorem aS{k:Nat}{l:List (List zV)}(h:∀r∈l,r.length=k):(rows l).size=l.length*k:=by simp[rows,bS l h]
theorem dI{k:Nat}{l:List (List zV)}(h:∀r∈l,r.length=k){i j:Nat}(hj:j<k):(rows l)[i*k+j]? =(l[i]?).bind (·[j]?):=by
 simp only[rows,xcq];exact kZ l i j h hj
theorem o7{k:Nat}{l:List (List zV)}(h:∀r∈l,r.length=k){i:Nat}{r:List zV}(hi:l[i]? =some r):(rows l).extract (i*k) (i*k+k)=r.toArray:=by
 have hr:=h r (xaI hi);have hlt:=(xae.1 hi).1;apply xch;apply xbS;intro j;by_cases hj:j<k
 ·have:=dI h (i:=i) hj;rw[xa7,Array.getElem?_extract];rw[xaf (by rw[aS h];have:=xba k (xb2 hlt);rw[xbi]at this;omega),this,hi];simp
 rw[xaE zP,xaE zP]
theorem fN:∀(vs:List zV) (c:List zV) (off:Nat),off+vs.length<=c.length->over c.toArray off vs=(c.take off++vs++c.drop (off+vs.length)).toArray
 | [],c,off,_=>by simp[over]
 |v::r,c,off,h=>by
  simp only[xak]at h;have hl:off<c.length:=by omega
  have:c.toArray.setIfInBounds off v=(c.set off v).toArray:=by simp
  rw[over,this,fN r (c.set off v) (off+1) (by simp only[xci];omega)];congr 1;have e1:(c.set off v).take (off+1)=c.take off++[v]:=by
   rw[xcW,xaf hl,List.take_append];simp[List.take_take,hl,xbY (xbN hl)]
  have e2:(c.set off v).drop (off+1+r.length)=c.drop (off+(v::r).length):=by
   rw[List.drop_set_of_lt zO];simp only[xak];rw[show off+1+r.length=off+(r.length+1)by omega]
  rw[e1,e2];simp
theorem qq{k:Nat}{l:List (List zV)}(h:∀r∈l,r.length=k){i:Nat}(hi:i<l.length){r:List zV}(hr:r.length=k):over (rows l) (i*k) r=rows (l.set i r):=by
 unfold rows;have hlen:=bS l h;have hle:i*k+k<=l.length*k:=by have:=xba k (xb2 hi);rwa [xbi]at this
 rw[fN r l.flatten (i*k) (by rw[hlen,hr];exact hle)];congr 1;have e:l=l.take i++[l[i]]++l.drop (i+1):=by simp
 have hp:(l.take i).flatten.length=i*k:=by
  rw[bS _ (λx hx=>h x (xcB hx))];simp[xbY (xbN hi)]
 have hm:l[i].length=k:=h _ (xaP hi);have e3:l.flatten=(l.take i).flatten++(l[i]++(l.drop (i+1)).flatten):=by
  rw[<-xbz,<-xbe,<-xaX hi,xbK]
 have e4:(l.set i r).flatten=(l.take i).flatten++(r++(l.drop (i+1)).flatten):=by
  rw[xcW,xaf hi];simp[xbe]
 rw[e4,e3,<-hp,xcR,<-List.drop_drop,List.drop_left,hr,<-hm,List.drop_left];simp
end
end Go.Sx
namespace Go.Sx
open Go
section
variable {P:Program} {g:Gh}
theorem bW.aB{b:Nat}{o o':Obj}{C C':Hp}(h:bW b o o' C C')(A:Hp):bW b o o' (A++C) (A++C'):=by
 induction A with
 |nil=>exact h
 |cons x A ih=>exact .tail ih
def aC(T:TypeId)(k:Nat)(v:zV)(rs:List (List zV))(C:Hp):Prop:=
 (v=.slice none 0 0/\rs=[]/\C=[])\/
 ∃b ax,v=.slice (some ⟨b,0,none⟩) rs.length (rs.length+ax.length)/\C=[(b,.cells (rows (rs++ax)) T zZ)]/\(∀r∈rs++ax,r.length=k)
theorem aC.nil(T:TypeId)(k:Nat):aC T k (.slice none 0 0) [] []:=.inl ⟨rfl,rfl,rfl⟩
theorem aC.len{T:TypeId}{k:Nat}{v:zV}{rs:List (List zV)}{C:Hp}(h:aC T k v rs C):∃a c,v=.slice a rs.length c:=by
 rcases h with⟨rfl,rfl,rfl⟩|⟨b,ax,rfl,_⟩
 ·exact⟨_,_,rfl⟩
 exact⟨_,_,rfl⟩
theorem aC.cx{T:TypeId}{k:Nat}{v:zV}{rs:List (List zV)}{C:Hp}(h:aC T k v rs C){K:zV->Prop}(hk:K (.int .i64 rs.length)):bp v K:=by
 obtain⟨a,c,rfl⟩:=h.len;exact bp.mk hk
theorem ji{k:Nat}(z:List zV)(hz:z.length=k)(m:Nat):Builtin.zeroCells z.toArray m=rows (List.replicate m z):=by
 apply xch;apply xbS;intro j;have aL:∀r∈List.replicate m z,r.length=k:=λr hr=>by rw[xbt hr,hz]
 by_cases hj:j<m*k
 ·have hk:0<k:=Nat.pos_of_ne_zero λe=>by simp[e]at hj
  have hd:j/k<m:=xda (by rw[xbj];exact hj);have hm:j%k<k:=xbL _ hk;have he:j/k*k+j%k=j:=by rw[xbj];exact xdb j k
  have:=dI aL (i:=j/k) hm;rw[he]at this;rw[xa7,xa7,this];simp only[Builtin.zeroCells,xb1,hz,xcT,hd,xaS,xc1];rw[Array.getElem?_map,Array.getElem?_range];simp[hj,hz,hm]
 rw[xaE,xaE]
 ·simp only[xbD,aS aL,xaO];omega
 simp[Builtin.zeroCells,hz];omega
theorem cm(a b:List (List zV)):rows a++rows b=rows (a++b):=by simp[rows,xbe]
theorem aC.DF{elem k bytes:Nat}{zero:zV}{v:zV}{rs:List (List zV)}{C A B:Hp}(h:aC elem k v rs C){xb:Nat}{r:List zV}{xT:TypeId}{fz:Nat×Nat}{xc:Nat}
 (hx:(xb,Obj.cells r.toArray xT fz)∈A++(C++B))(hr:r.length=k)(h1:∀u∈r,u.oneCell'=true)(hz:∃z:List zV,zero.cells=z.toArray/\z.length=k)
 (hb:(rs.length+1)*bytes<=140737488355328)(mI:rs.length+1<=9223372036854775807){K:zV->Hp->Prop}
 (hk:∀v' C',aC elem k v' (rs++[r]) C'->K v' (A++(C'++B))):App P elem k bytes zero (A++(C++B)) v (.slice (some ⟨xb,0,none⟩) 1 xc) K:=by
 have vj:∀x∈[r],x.length=k:=λx hx=>by simp at hx;rw[hx];exact hr
 obtain⟨z,Ho,CV⟩:=hz;have hnews:Cells (A++(C++B)) (some ⟨xb,0,none⟩) (1*k) (rows [r]):=.inr ⟨rfl,_,_,_,hx,by simp[hr],by simp[rows];rw[<-hr,xcb]⟩;have hnone:∀u∈(rows [r]).toList,u.oneCell'=true:=by simpa[rows]using h1
 rcases h with⟨rfl,rfl,rfl⟩|⟨b,ax,rfl,rfl,aL⟩
 ·refine⟨none,0,0,some ⟨xb,0,none⟩,1,xc,#[],rows [r],rfl,rfl,rfl,hnews,by rw[aS vj];simp,by simp,hnone,λh=>by omega,λ_=>⟨hb,by omega,λc4 hn b KW=>?_⟩⟩;rw[show(#[]:Array zV)++rows [r]++Builtin.zeroCells zero.cells (c4-(0+1))=rows ([]++[r]++List.replicate (c4-1) z)by rw[Ho,ji z CV];simp only[xaW,xcg,xaU];rw[cm]];refine⟨_,aN.DZ [(b,_)] A B,hk _ [(b,_)] (.inr ⟨b,List.replicate (c4-1) z,?_,rfl,?_⟩)⟩
  ·simp;omega
  intro x hx;rcases xav.1 hx with hx|hx
  ·exact vj x hx
  rw[xbt hx,CV]
 have hsz:=aS aL;have iA:∀x∈rs,x.length=k:=λx hx=>aL x (by simp[hx]);have hold:rows rs=(rows (rs++ax)).extract 0 (0+rs.length*k):=by
  rw[<-cm];apply xch;have:=aS iA;have h2:(rows rs).toList.length=rs.length*k:=by rw[xbD];exact this
  rw[Array.toList_extract,Array.toList_append,List.extract_eq_take_drop,List.drop_zero,xaW,xcN,<-h2,xcR]
 refine⟨some ⟨b,0,none⟩,rs.length,rs.length+ax.length,some ⟨xb,0,none⟩,1,xc,rows rs,rows [r],rfl,rfl,.inr ⟨rfl,_,elem,(0,0),by simp,?_,hold⟩,hnews,by rw[aS vj];simp,aS iA,hnone,λhfit=>?_,λhgrow=>⟨hb,by omega,λc4 hn b' KW=>?_⟩⟩
 ·rw[hsz];simp only[xan,xaW];exact xba _ zO
 ·obtain⟨j0,Ac,rfl⟩:∃j0 Ac,ax=j0::Ac:=by cases ax with|nil=>exact absurd hfit (by simp only[xbq];omega)|cons a b=>exact⟨a,b,rfl⟩
  refine⟨_,elem,_,rfl,?_,((bW.head _).append B).aB A,hk _ [(b,_)] (.inr ⟨b,Ac,?_,?_,?_⟩)⟩
  ·rw[hsz];simp[xbi,Nat.add_mul]
  ·simp;omega
  ·have e:(rows [r]).toList=r:=by simp[rows]
   rw[e,show(⟨b,0,none⟩:Addr).off+rs.length*k=rs.length*k by simp,qq aL zI hr];simp
  intro x hx;simp only[xat,xaF,xaU,xav,xag]at hx;rcases hx with hx|hx|hx
  ·exact iA x hx
  ·rw[hx];exact hr
  exact aL x (by simp[hx])
 refine⟨A++([(b',_)]++B),?_,hk _ [(b',_)] (.inr ⟨b',List.replicate (c4-(rs.length+1)) z,?_,rfl,?_⟩)⟩
 ·rw[Ho,ji z CV,cm,cm];exact λg w h=>(aN.GV [[_],A,[_],B] [[_],A,[_],B] ((xaK (l₁:=[_,A]) (l₂:=[_])).append_right [B]|>.trans (.cons _ (.swap _ _ _))) g w h).tail
 ·simp;omega
 intro x hx;rcases xav.1 hx with hx|hx
 ·rcases xav.1 hx with hx|hx
  ·exact iA x hx
  exact vj x hx
 rw[xbt hx,CV]
end
end Go.Sx
namespace Go.Sx
open Go
section
variable {P:Program} {g:Gh} {H:Hp}
theorem aC.pos{T:TypeId}{k:Nat}{v:zV}{rs:List (List zV)}{C:Hp}(h:aC T k v rs C)(hp:0<rs.length):
  ∃b ax,v=.slice (some ⟨b,0,none⟩) rs.length (rs.length+ax.length)/\C=[(b,.cells (rows (rs++ax)) T zZ)]/\(∀r∈rs++ax,r.length=k):=by
 rcases h with⟨_,rfl,_⟩|h
 ·simp at hp
 exact h
theorem aC.mk{T:TypeId}{k b:Nat}{rs ax:List (List zV)}(aL:∀r∈rs++ax,r.length=k):aC T k (.slice (some ⟨b,0,none⟩) rs.length (rs.length+ax.length)) rs [(b,.cells (rows (rs++ax)) T zZ)]:=
 .inr ⟨b,ax,rfl,rfl,aL⟩
theorem aC.mk'{T:TypeId}{k b n c:Nat}{rs ax:List (List zV)}(aL:∀r∈rs++ax,r.length=k)(hn:n=rs.length)(hc:c=rs.length+ax.length):aC T k (.slice (some ⟨b,0,none⟩) n c) rs [(b,.cells (rows (rs++ax)) T zZ)]:=by
 subst hn;subst hc;exact aC.mk aL
theorem aA.row{b i k:Nat}{l:List (List zV)}{T:TypeId}{fz:Nat×Nat}{r:List zV}{K:zV->Prop}(hm:(b,Obj.cells (rows l) T fz)∈H)(aL:∀r∈l,r.length=k)(hi:l[i]? =some r)(h:K (.agg r.toArray)):
  aA k H (.pointer (some ⟨b,0+i*k,none⟩)) K:=by
 have hlt:=(xae.1 hi).1;refine aA.mk hm ?_ ?_ h
 ·rw[aS aL,xaW];have:=xba k (xb2 hlt);rwa [xbi]at this
 rw[xaW];exact o7 aL hi
theorem Ld.row{b i j k:Nat}{l:List (List zV)}{T:TypeId}{fz:Nat×Nat}{r:List zV}{v:zV}{K:zV->Prop}(hm:(b,Obj.cells (rows l) T fz)∈H)(aL:∀r∈l,r.length=k)(hi:l[i]? =some r)(hv:r[j]? =some v)(h:K v):
  Ld H (.pointer (some ⟨b,0+i*k+j,none⟩)) K:=by
 have hr:=aL r (xaI hi);have hj:j<k:=by rw[<-hr];exact(xae.1 hv).1
 refine Ld.mk hm ?_ h;rw[xaW,dI aL hj,hi];exact hv
theorem Ld.GW{b i:Nat}{l:List (List zV)}{T:TypeId}{fz:Nat×Nat}{v:zV}{K:zV->Prop}(hm:(b,Obj.cells (rows l) T fz)∈H)(aL:∀r∈l,r.length=1)(hi:l[i]? =some [v])(h:K v):
  Ld H (.pointer (some ⟨b,0+i*1,none⟩)) K:=by
 have:=Ld.row (j:=0) hm aL hi rfl h;simpa using this
theorem St.row{b i k:Nat}{l:List (List zV)}{T:TypeId}{r:List zV}{H':Hp}{K:Hp->Prop}(hu:bW b (.cells (rows l) T zZ) (.cells (rows (l.set i r)) T zZ) H H')(aL:∀r∈l,r.length=k)(hi:i<l.length)
 (hr:r.length=k)(h1:∀v∈r,v.oneCell'=true)(h:K H'):St k H (.pointer (some ⟨b,0+i*k,none⟩)) (.agg r.toArray) K:=by
 refine St.mk hu (by simp[Value.cells,hr]) ?_ (by simpa[Value.cells]using h1) ?_ h
 ·rw[aS aL,xaW];have:=xba k (xb2 hi);rwa [xbi]at this
 simp only[Value.cells,xaW];exact qq aL hi hr
theorem nB{k:Nat}{l:List (List zV)}(h:∀r∈l,r.length=k){i j:Nat}{r:List zV}(hi:l[i]? =some r)(hj:j<k)(v:zV):(rows l).setIfInBounds (i*k+j) v=rows (l.set i (r.set j v)):=by
 have hr:=h r (xaI hi);have hlt:=(xae.1 hi).1;have HX:∀x∈l.set i (r.set j v),x.length=k:=λx hx=>by
  rcases xcG hx with hx|hx
  ·exact h x hx
  rw[hx,xci];exact hr
 have hk:0<k:=by omega
 apply xch;apply xbS;intro m;rw[xa7,xa7,xbx];have hm:m%k<k:=xbL _ hk;have he:m/k*k+m%k=m:=by rw[xbj];exact xdb m k
 have g1:=dI h (i:=m/k) hm;have g2:=dI HX (i:=m/k) hm;rw[he]at g1 g2;rw[g1,g2];by_cases e:i*k+j=m
 ·have e1:m/k=i:=by rw[<-e,xbj,Nat.mul_add_div hk,xcc hj,xcr]
  have e2:m%k=j:=by rw[<-e,xbj,Nat.mul_add_mod,xbd hj]
  rw[xaf e,xaf (by rw[aS h];have:=xba k (xb2 hlt);rw[xbi]at this;omega),e1,e2];simp[hlt,hr,hj]
 rw[xac e];by_cases e1:m/k=i
 ·have e2:j≠m%k:=λe2=>e (by rw[e2,<-e1];exact he);rw[e1,hi];simp[hlt,e2]
 rw[xby (λx=>e1 x.symm)]
theorem St.cell{b i j k:Nat}{l:List (List zV)}{T:TypeId}{r:List zV}{v:zV}{H':Hp}{K:Hp->Prop}(hu:bW b (.cells (rows l) T zZ) (.cells (rows (l.set i (r.set j v))) T zZ) H H')(aL:∀r∈l,r.length=k)
 (hi:l[i]? =some r)(hj:j<k)(h1:v.oneCell'=true)(h:K H'):St 1 H (.pointer (some ⟨b,0+i*k+j,none⟩)) v K:=by
 have hlt:=(xae.1 hi).1;have hc:v.cells=#[v]:=by cases v<;>first|rfl|(simp[Value.oneCell']at h1)
 refine St.mk hu (by simp[hc]) ?_ (by simp[hc,h1]) ?_ h
 ·rw[aS aL,xaW];have:=xba k (xb2 hlt);rw[xbi]at this;omega
 simp only[hc,xaW,over];exact nB aL hi hj v
theorem St.one{b off:Nat}{c c':Array zV}{T:TypeId}{v:zV}{H':Hp}{K:Hp->Prop}(hu:bW b (.cells c T zZ) (.cells c' T zZ) H H')(h1:v.oneCell'=true)(hs:off<c.size)(hc:c.setIfInBounds off v=c')(h:K H'):
  St 1 H (.pointer (some ⟨b,off,none⟩)) v K:=by
 have hv:v.cells=#[v]:=by cases v<;>first|rfl|(simp[Value.oneCell']at h1)
 exact St.mk hu (by simp[hv]) zO (by simp[hv,h1]) (by simpa[hv,over]using hc) h
theorem St.whole{b n:Nat}{c:Array zV}{T:TypeId}{r:List zV}{H':Hp}{K:Hp->Prop}(hu:bW b (.cells c T zZ) (.cells r.toArray T zZ) H H')(hs:c.size=n)(hr:r.length=n)(h1:∀v∈r,v.oneCell'=true)(h:K H'):
  St n H (.pointer (some ⟨b,0,none⟩)) (.agg r.toArray) K:=by
 refine St.mk hu (by simp[Value.cells,hr]) zO (by simpa[Value.cells]using h1) ?_ h;have:=fN r c.toList 0 zP;rw[xbM]at this;simp only[Value.cells];rw[this];simp[xaQ,hr,hs]
theorem aA.whole{b n:Nat}{r:List zV}{T:TypeId}{fz:Nat×Nat}{K:zV->Prop}(hm:(b,Obj.cells r.toArray T fz)∈H)(hr:r.length=n)(h:K (.agg r.toArray)):aA n H (.pointer (some ⟨b,0,none⟩)) K:=
 aA.mk hm (by simp[hr]) (by simp;rw[<-hr,xcb]) h
theorem fV{α β:Type}(f:α->β):∀(l:List α) (i:Nat),(l.map f).eraseIdx i=(l.eraseIdx i).map f
 | [],_=>rfl
 |x::l,0=>rfl
 |x::l,i+1=>by simp[fV f l i]
end
end Go.Sx
namespace Go.Sx
open Go
section
variable {P:Program} {g:Gh} {H:Hp}
theorem mO(off:Nat):∀(r:List zV) (i:Nat) (c:Array zV),(r.zipIdx i).foldl (λcs (x:zV×Nat)=>cs.setIfInBounds (off+x.2) x.1) c=over c (off+i) r
 | [],i,c=>rfl
 |v::r,i,c=>by
  rw[List.zipIdx_cons,xdC,mO off r (i+1)];rfl
theorem w4(off:Nat)(a c:Array zV):a.zipIdx.foldl (λcs (x:zV×Nat)=>cs.setIfInBounds (off+x.2) x.1) c=over c off a.toList:=by
 rw[<-Array.foldl_toList];have:a.zipIdx.toList=a.toList.zipIdx 0:=by simp
 rw[this,mO off a.toList 0 c];rfl
def kP:List zV->Nat->List zV->List zV
 |c,_,[]=>c
 |c,off,v::r=>kP (c.set off v) (off+1) r
theorem eB:∀(r c:List zV) (off:Nat),over c.toArray off r=(kP c off r).toArray
 | [],c,off=>rfl
 |v::r,c,off=>by
  have:c.toArray.setIfInBounds off v=(c.set off v).toArray:=by simp
  rw[over,kP,this,eB r]
def fD(place:Nat->Option (Nat×Nat)):List zV->List (Nat×zV)->Option (List zV)
 |c,[]=>some c
 |c,(i,v)::r=>
  match place i with
  |none=>none
  |some (off,size)=>cond (Nat.beq v.cells.toList.length size&&Nat.ble (off+v.cells.toList.length) c.length) (fD place (kP c off v.cells.toList) r) none
theorem eH{place:Nat->Option (Nat×Nat)}:∀(r:List (Nat×zV)) (c cs:List zV),fD place c r=some cs->Instr.fill place c.toArray r=some cs.toArray
 | [],c,cs,h=>by simp only[fD,xao]at h;subst h;rfl
 |(i,v)::r,c,cs,h=>by
  simp only[fD]at h;simp only[Instr.fill];split at h
  ·simp at h
  rename_i off size hp;cases hc:(Nat.beq v.cells.toList.length size&&Nat.ble (off+v.cells.toList.length) c.length)<;>simp only[hc,xaj,xah,reduceCtorEq]at h;simp only[xap]at hc;have h1:=xam hc.1;have h2:=xbr hc.2;have h3:v.cells.toList.length=v.cells.size:=xbD;have hsz:v.cells.size=size:=by rw[<-h3];exact h1
  have hle:off+v.cells.size<=c.length:=by rw[<-h3];exact h2
  simp only[hp];have Az:(decide (v.cells.size≠size)||decide (off+v.cells.size>c.toArray.size))=false:=by
   rw[xar];exact⟨by simp[hsz],by simp only[xb1,xaV];omega⟩
  rw[Az];simp only[xas,xaD];rw[w4,eB];exact eH r _ cs h
def jr(P:Program):List Field->Option (List (Nat×Nat))
 | []=>some []
 |f::r=>match bL P f.type,jr P r with
  |some n,some l=>some ((f.offset,n)::l)
  |_,_=>none
def Bu(P:Program)(t:TypeId)(parts:List (Nat×zV)):Option (List zV):=
 match P.underlying t,c8 P t with
 |some (.struct fs),some z=>match jr P fs.toList with
  |some pl=>fD (λi=>pl[i]?) z.cells.toList parts
  |none=>none
 |_,_=>none
theorem kO:∀(fs:List Field) (pl:List (Nat×Nat)),jr P fs=some pl->∀w,(fs.mapM λf=>(do pure (f.offset,<-sizeOf f.type):Sem (Nat×Nat))).run P w=.ok pl w
 | [],pl,h,w=>by simp only[jr,xao]at h;subst h;rfl
 |f::r,pl,h,w=>by
  simp only[jr]at h;split at h
  ·rename_i n l hn hl;simp only[xao]at h;subst h;obtain⟨i,hi,hin⟩:=aD hn;have ih:=kO r l hl w;simp only[xdg,Sem.run_bind,run_sizeOf hi,Result.andThen_ok,Sem.run_pure,hin,ih]
  simp at h
theorem Build.mk{t:TypeId}{parts:List (Nat×zV)}{cs:List zV}{k:zV->Prop}(hb:Bu P t parts=some cs)(h:k (.agg cs.toArray)):Build P t parts k:=by
 refine⟨_,λw=>?_,h⟩;unfold Bu at hb;split at hb
 ·rename_i fs z hu hz;split at hb
  ·rename_i pl vc;obtain⟨i,hi,pE⟩:=bP hz;have hf:=eH _ _ _ hb;have hp:=kO fs.toList pl vc w;simp only[Instr.build,Sem.run_bind,cH hi pE,Result.andThen_ok,run_underlying hu];have e2:((fs.mapM λf=>(do pure (f.offset,<-sizeOf f.type):Sem (Nat×Nat))).run P w)=.ok pl.toArray w:=by
    rw[Array.mapM_eq_mapM_toList];simp only[Sem.run_map,hp,Result.andThen_ok]
   rw[e2];show Sem.run P _ w=_;have e3:Instr.fill (λx=>pl.toArray[x]?) z.cells parts=some cs.toArray:=by
    simpa using hf
   simp only[e3];rfl
  simp at hb
 simp at hb
theorem aj.one{t e k:Nat}{z:zV}{r:List zV}{K:zV->Hp->Prop}(h1:P.underlying t=some (.slice e))(h2:bL P e=some k)(h3:c8 P e=some z)(hk:0<k/\k<=16777216)(hr:r.length=k)
 (h:∀b,K (.slice (some ⟨b,0,none⟩) 1 1) ((b,.cells r.toArray e zZ)::H)):aj P t 1 [(0,.agg r.toArray)] H K:=by
 refine⟨r.toArray,e,k,z,h1,h2,h3,by omega,?_,λb _=>h b⟩;have:((Array.range (1*k)).map (z.cells[· %z.cells.size]!))=(((Array.range (1*k)).map (z.cells[· %z.cells.size]!)).toList).toArray:=by rw[xbM]
 rw[this];generalize hc:((Array.range (1*k)).map (z.cells[· %z.cells.size]!)).toList=c;have hlen:c.length=k:=by rw[<-hc];simp
 refine eH _ _ _ ?_;simp only[fD,Value.cells];have hb:(Nat.beq r.toArray.toList.length k&&Nat.ble (0*k+r.toArray.toList.length) c.length)=true:=by simp[hr,hlen]
 rw[hb];simp only[xaj,xao];have:=fN r c 0 zO;rw[eB]at this;have h5:kP c 0 r=List.take 0 c++r++List.drop (0+r.length) c:=by simpa using xb7 Array.toList this
 simp only[Nat.zero_mul];rw[h5];simp[xaQ,hr,hlen]
end
end Go.Sx
namespace Go.Sx
open Go
section
variable {P:Program} {g:Gh} {H:Hp}
theorem bT.upto{size n c h:Nat}{a:Option Addr}{kd:IntKind}{k:zV->Prop}(hh:h<=c)(hk:k (.slice a h c)):bT size (.slice a n c) none (some (.int kd (h:Int))) k:=by
 refine⟨a,n,c,0,h,rfl,rfl,rfl,by omega,by omega,by omega,?_⟩;have:(if c=(0:Int).toNat then a else a.map (·.add ((0:Int).toNat*size)))=a:=by
  split
  ·rfl
  simp only[Int.toNat_zero,Nat.zero_mul];cases a with
  |none=>rfl
  |some x=>simp[Addr.add_zero']
 rw[this];simpa using hk
end
end Go.Sx
namespace Go.Sx
open Go
section
variable {P:Program} {g:Gh} {H:Hp}
inductive bu(C:Hp):Hp->(Hp->Hp)->Prop
 |here:bu C C (λX=>X)
 |left {A:Hp}:bu C (C++A) (λX=>X++A)
 |cons {x:Nat×Obj} {H:Hp} {c:Hp->Hp} (h:bu C H c):bu C (x::H) (λX=>x::c X)
 |app {A H:Hp} {c:Hp->Hp} (h:bu C H c):bu C (A++H) (λX=>A++c X)
theorem bu.spec{C H:Hp}{c:Hp->Hp}(h:bu C H c):H=c C/\∃F,∀X,(c X).Perm (X++F):=by
 induction h with
 |here=>exact⟨rfl,[],λX=>by simp⟩
 | @left A=>exact⟨rfl,A,λX=>.refl _⟩
 | @cons x H c h ih=>
  obtain⟨h1,F,h2⟩:=ih;exact⟨by rw[h1],x::F,λX=>(List.Perm.cons x (h2 X)).trans xa5.symm⟩
 | @app A H c h ih=>
  obtain⟨h1,F,h2⟩:=ih;refine⟨by rw[h1],A++F,λX=>(xc3 A (h2 X)).trans ?_⟩;rw[<-xat,<-xat];exact xaK.append_right F
theorem bu.eS{C H:Hp}{c:Hp->Hp}(h:bu C H c){X Y:Hp}(e:aN X Y):aN (c X) (c Y):=by
 obtain⟨_,F,hp⟩:=h.spec;exact(aN.perm (hp X)).trans ((e.frame F).trans (.perm (hp Y).symm))
theorem aN.cons{x:Nat×Obj}{A B:Hp}(h:aN A B):aN (x::A) (x::B):=aN.cL h [x]
theorem aN.skip{x:Nat×Obj}{A B:Hp}(h:aN A B):aN (x::A) B:=aN.tail.trans h
theorem aN.cw{X A B:Hp}(h:aN A B):aN (X++A) B:=aN.right.trans h
theorem aN.assoc{A B C:Hp}:aN ((A++B)++C) (A++(B++C)):=λ_ _ h=>by rw[<-xat];exact h
theorem aX.frame{f:FuncId}{args:Array zV}{C F:Hp}{R:Ending->Hp->Prop}(h:∀g,aX P g f args C R):aX P g f args (C++F) (λe H'=>∃C',H'=C'++F/\R e C'):=by
 intro w hw;exact((h (g.add F)) w (Own.cJ.1 hw)).mono λe w' ⟨H',ho,hr⟩=>⟨_,Own.cJ.2 ho,H',rfl,hr⟩
theorem aX.hole{f:FuncId}{args:Array zV}{C H:Hp}{c:Hp->Hp}{R:Ending->Hp->Prop}(hh:bu C H c)(h:∀g,aX P g f args C R):aX P g f args H (λe H'=>∃C',H'=c C'/\R e C'):=by
 obtain⟨rfl,F,hp⟩:=hh.spec;exact((aX.frame (F:=F) h).pre (.perm (hp C))).post λe H' ⟨C',h1,h2⟩=>⟨c C',by rw[h1];exact .perm (hp C').symm,C',rfl,h2⟩
def Fc(P:Program)(f:FuncId)(args:Array zV)(C:Hp)(Q:zV->Hp->Prop):Prop:=
 ∀g,aX P g f args C (λe H'=>∃v dP,e=.returned v/\aN H' dP/\Q v dP)
def bc(Q:zV->Hp->Prop):Ending->Hp->Prop:=λe H'=>∃v dP,e=.returned v/\aN H' dP/\Q v dP
theorem bc.mk{Q:zV->Hp->Prop}{v:zV}{H dP:Hp}(he:aN H dP)(h:Q v dP):bc Q (.returned v) H:=⟨v,dP,rfl,he,h⟩
theorem bc.here{Q:zV->Hp->Prop}{v:zV}{H:Hp}(h:Q v H):bc Q (.returned v) H:=⟨v,H,rfl,.refl _,h⟩
theorem Fc.mono{f:FuncId}{args:Array zV}{C:Hp}{Q Q':zV->Hp->Prop}(h:Fc P f args C Q)(hq:∀v H,Q v H->Q' v H):Fc P f args C Q':=
 λg=>(h g).mono λe H' ⟨v,dP,h1,h2,h3⟩=>⟨v,dP,h1,h2,hq _ _ h3⟩
def Rd(P:Program)(f:FuncId)(args:Array zV)(B:Hp)(Q:zV->Prop):Prop:=Fc P f args B (λv H=>H=B/\Q v)
theorem aa.fn{f:FuncId}{args:Array zV}{C H:Hp}{c:Hp->Hp}{Q:zV->Hp->Prop}{K:zV->Hp->Prop}{KP:List PanicEntry->Hp->Prop}(hh:bu C H c)(hc:Fc P f args C Q)
 (hk:∀v C',Q v C'->K v (c C')):aa P g f args H K KP:=
 (aX.hole hh hc).post λe H' ⟨C',h1,v,IP,h2,h3,h4⟩=>⟨c IP,by rw[h1];exact hh.eS h3,by subst h2;exact hk _ _ h4⟩
theorem aa.rd{f:FuncId}{args:Array zV}{B H:Hp}{c:Hp->Hp}{Q:zV->Prop}{K:zV->Hp->Prop}{KP:List PanicEntry->Hp->Prop}(hh:bu B H c)(hc:Rd P f args B Q)
 (hk:∀v,Q v->K v H):aa P g f args H K KP:=
 aa.fn hh hc λv C' ⟨h1,h2⟩=>by subst h1;rw[<-hh.spec.1];exact hk v h2
theorem cr.of{fv:zV}{args:Array zV}{K:zV->Hp->Prop}{KP:List PanicEntry->Hp->Prop}{f:FuncId}{first captured:Array zV}(hf:fv=.func (.func f) first captured)(hc:bA P f=true)
 (h:aa P g f (first++args++captured) H K KP):cr P g fv args H K KP:=⟨f,first,captured,hf,hc,h⟩
theorem DR.self{body:Hp->Prop}(h:body H):DR H body:=⟨H,.refl _,h⟩
theorem DR.of{R:Hp}{body:Hp->Prop}(e:aN H R)(h:body R):DR H body:=⟨R,e,h⟩
def At(B:Hp)(p:zV)(r:List zV):Prop:=∃b o c T fz,p=.pointer (some ⟨b,o,none⟩)/\(b,Obj.cells c T fz)∈B/\∀j v,r[j]? =some v->c[o+j]? =some v
theorem Ld.at{p v:zV}{r:List zV}{B:Hp}{k:zV->Prop}(h:At B p (v::r))(hs:∀x∈B,x∈H)(hk:k v):Ld H p k:=by
 obtain⟨b,o,c,T,fz,h1,h2,h3⟩:=h;exact⟨b,o,c,T,fz,v,h1,hs _ h2,by simpa using h3 0 v rfl,hk⟩
theorem ah.at{p:zV}{r:List zV}{B:Hp}{j:Nat}{k:zV->Prop}(h:At B p r)(hk:∀q,At B q (r.drop j)->k q):ah j p k:=by
 obtain⟨b,o,c,T,fz,h1,h2,h3⟩:=h;refine⟨b,o,h1,hk _ ⟨b,o+j,c,T,fz,rfl,h2,λi v hi=>?_⟩⟩;rw[List.getElem?_drop]at hi;rw[Nat.add_assoc];exact h3 _ _ hi
theorem aA.at{p:zV}{r:List zV}{B:Hp}{n:Nat}{k:zV->Prop}(h:At B p r)(hn:r.length=n)(hp:0<n)(hs:∀x∈B,x∈H)(hk:k (.agg r.toArray)):aA n H p k:=by
 obtain⟨b,o,c,T,fz,h1,h2,h3⟩:=h;have hsz:o+n<=c.size:=by
  have:=h3 (n-1) (r[n-1]' zO) (xab _);have:=(xaz.1 this).1;omega
 refine⟨b,o,c,T,fz,h1,hs _ h2,hsz,?_⟩;have:c.extract o (o+n)=r.toArray:=by
  apply Array.ext
  ·simp;omega
  intro i I7 BR;simp only[xb1]at BR;have:=h3 i r[i] (xab _);rw[xc5];have:=(xaz.1 this).2;simpa using this
 rw[this];exact hk
def Sl(k:Nat)(B:Hp)(v:zV)(rs:List (List zV)):Prop:=
 (∀r∈rs,r.length=k)/\
 ((∃a cap,v=.slice a 0 cap/\rs=[])\/∃b o cap c T fz,v=.slice (some ⟨b,o,none⟩) rs.length cap/\rs.length<=cap/\(b,Obj.cells c T fz)∈B/\o+rs.length*k<=c.size/\∀i r,rs[i]? =some r->∀j v,r[j]? =some v->c[o+i*k+j]? =some v)
theorem Sl.mono{k:Nat}{B B':Hp}{v:zV}{rs:List (List zV)}(h:Sl k B v rs)(hs:∀x∈B,x∈B'):Sl k B' v rs:=by
 obtain⟨h0,h⟩:=h;refine⟨h0,?_⟩;rcases h with h|⟨b,o,cap,c,T,fz,h1,h2,h3,h4⟩
 ·exact .inl h
 exact .inr ⟨b,o,cap,c,T,fz,h1,h2,hs _ h3,h4⟩
theorem Sl.nil(k:Nat)(B:Hp):Sl k B (.slice none 0 0) []:=⟨by simp,.inl ⟨_,_,rfl,rfl⟩⟩
theorem Sl.shape{k:Nat}{B:Hp}{v:zV}{rs:List (List zV)}(h:Sl k B v rs):∃a cap,v=.slice a rs.length cap/\rs.length<=cap:=by
 rcases h.2 with⟨a,cap,rfl,rfl⟩|⟨b,o,cap,c,T,fz,h1,h2,_⟩
 ·exact⟨_,_,rfl,xaB _⟩
 exact⟨_,_,h1,h2⟩
theorem Sl.cx{k:Nat}{B:Hp}{v:zV}{rs:List (List zV)}(h:Sl k B v rs){K:zV->Prop}(hk:K (.int .i64 rs.length)):bp v K:=by
 obtain⟨a,c,rfl,_⟩:=h.shape;exact bp.mk hk
theorem ai.sl{k:Nat}{B:Hp}{v:zV}{rs:List (List zV)}{kd:IntKind}{i:Nat}{r:List zV}{K:zV->Prop}(h:Sl k B v rs)(hi:rs[i]? =some r)(hk:∀p,At B p r->K p):ai k v (.int kd (i:Int)) K:=by
 have hlt:=(xae.1 hi).1;rcases h.2 with⟨a,cap,rfl,rfl⟩|⟨b,o,cap,c,T,fz,h1,h2,h3,h4,h5⟩
 ·simp at hlt
 subst h1;refine ai.nat zO (hk _ ⟨b,_,c,T,fz,rfl,h3,λj v hj=>h5 i r hi j v hj⟩)
theorem Sl.cells{k:Nat}{B:Hp}{v:zV}{rs:List (List zV)}(h:Sl k B v rs):∃a cap,v=.slice a rs.length cap/\Cells B a (rs.length*k) (rows rs):=by
 rcases h.2 with⟨a,cap,rfl,rfl⟩|⟨b,o,cap,c,T,fz,h1,h2,h3,h4,h5⟩
 ·refine⟨a,cap,rfl,?_⟩;cases a with
  |none=>simp[Cells,rows]
  |some a=>exact .inl ⟨by simp,rfl⟩
 ·refine⟨_,cap,h1,.inr ⟨rfl,c,T,fz,h3,h4,?_⟩⟩;apply Array.ext
  ·rw[aS h.1];simp;omega
  intro i I7 BR;rw[aS h.1]at I7;have hk:0<k:=Nat.pos_of_ne_zero λe=>by simp[e]at I7
  have hd:i/k<rs.length:=xda (by rw[xbj];exact I7);have hm:i%k<k:=xbL _ hk;have he:i/k*k+i%k=i:=by rw[xbj];exact xdb i k
  have hr:=h.1 rs[i/k] (xaP hd);have g1:=dI h.1 (i:=i/k) hm;rw[he,xab hd,xc1,xab zO]at g1;have g2:=h5 (i/k) _ (xab hd) (i%k) _ (xab zO);rw[Nat.add_assoc,he]at g2;have e1:=(xaz.1 g1).2;have e2:=(xaz.1 g2).2;rw[xc5];exact e1.trans e2.symm
theorem Sl.eD{T:TypeId}{k:Nat}{v:zV}{rs:List (List zV)}{C:Hp}(h:aC T k v rs C)(hk:0<k):Sl k C v rs:=by
 rcases h with⟨rfl,rfl,rfl⟩|⟨b,ax,rfl,rfl,aL⟩
 ·exact Sl.nil _ _
 refine⟨λr hr=>aL r (by simp[hr]),.inr ⟨b,0,_,rows (rs++ax),T,(0,0),rfl,by omega,by simp,?_,λi r hi j v hj=>?_⟩⟩
 ·rw[aS aL,xan,xaW];exact xba _ zO
 have hlt:=(xae.1 hi).1;have hr:=aL r (xad _ (xaI hi));have Fu:j<k:=by rw[<-hr];exact(xae.1 hj).1
 rw[xaW,dI aL Fu,xaM hlt,hi];exact hj
end
end Go.Sx
namespace Go.Sx
open Go
def bY:IntKind->Nat
 | .i8=>128| .i16=>32768| .i32=>2147483648| .i64=>9223372036854775808
 | .u8=>256| .u16=>65536| .u32=>4294967296| .u64=>18446744073709551616
theorem dj{kd:IntKind}{n:Nat}(h:n<bY kd):kd.wrap (n:Int)=n:=by
 cases kd<;>simp only[bY]at h<;>simp only[IntKind.wrap,IntKind.bits,IntKind.signed,Bool.false_and,xcE,xas,xaD,xaH];all_goals first
  |omega
  |(rw[xac zP];omega)
theorem z1(kd:IntKind):bY kd<=2^kd.bits:=by cases kd<;>decide
def nQ(a b:Nat):Nat:=a^^^(a&&&b)
theorem dk(a b j:Nat):(nQ a b).testBit j=(a.testBit j&& !b.testBit j):=by
 unfold nQ;rw[Nat.testBit_xor,xbO];cases a.testBit j<;>cases b.testBit j<;>rfl
theorem DI(a b:Nat):nQ a b<=a:=by
 have:nQ a b=a&&&nQ a b:=by
  apply xa6;intro j;rw[xbO,dk];cases a.testBit j<;>simp
 rw[this];exact Nat.and_le_left
theorem bits_nat{kd:IntKind}{a b:Nat}(ha:a<bY kd)(hb:b<bY kd):
  bits .and kd a b=((a&&&b:Nat):Int)/\bits .or kd a b=((a|||b:Nat):Int)/\bits .xor kd a b=((a^^^b:Nat):Int)/\bits .andNot kd a b=((nQ a b:Nat):Int):=by
 have hl:=z1 kd;have h1:(BitVec.ofInt kd.bits (a:Int)).toNat=a:=by rw[BitVec.ofInt_natCast,BitVec.toNat_ofNat,xbd zO]
 have h2:(BitVec.ofInt kd.bits (b:Int)).toNat=b:=by rw[BitVec.ofInt_natCast,BitVec.toNat_ofNat,xbd zO]
 obtain⟨n,hn⟩:∃n,bY kd=2^n:=by cases kd<;>first|exact⟨7,rfl⟩|exact⟨15,rfl⟩|exact⟨31,rfl⟩|exact⟨63,rfl⟩|exact⟨8,rfl⟩|exact⟨16,rfl⟩|exact⟨32,rfl⟩|exact⟨64,rfl⟩
 rw[hn]at ha hb;refine⟨?_,?_,?_,?_⟩
 ·simp only[bits,BitVec.toNat_and,h1,h2];exact dj (by rw[hn];exact xbk Nat.and_le_left ha)
 ·simp only[bits,BitVec.toNat_or,h1,h2];exact dj (by rw[hn];exact Nat.or_lt_two_pow ha hb)
 ·simp only[bits,BitVec.toNat_xor,h1,h2];exact dj (by rw[hn];exact Nat.xor_lt_two_pow ha hb)
 simp only[bits];have:(BitVec.ofInt kd.bits (a:Int) &&& ~~~BitVec.ofInt kd.bits (b:Int)).toNat=nQ a b:=by
  apply xa6;intro j;rw[dk,<-BitVec.getLsbD,BitVec.getLsbD_and,BitVec.getLsbD_not,BitVec.getLsbD,BitVec.getLsbD,h1,h2];by_cases hj:j<kd.bits
  ·simp[hj]
  have:a.testBit j=false:=xco (xbu ha (by rw[<-hn];exact xbF hl (xaL zD zO)));simp[this]
 rw[this];exact dj (by rw[hn];exact xbk (DI a b) ha)
section
variable {kd rQ:IntKind} {a b:Nat} {k:zV->Prop}
theorem ae.DJ(ha:a<bY kd)(hb:b<bY kd)(h:k (.int kd ((a&&&b:Nat):Int))):ae .num .and (.int kd a) (.int kd b) k:=⟨_,by simp[eL,g8,(bits_nat ha hb).1],h⟩
theorem ae.ny(ha:a<bY kd)(h:k (.int kd ((a>>>b:Nat):Int))):ae .num .shr (.int kd a) (.int rQ b) k:=by
 refine⟨_,?_,h⟩;have h0:¬((b:Int)<0):=by omega
 simp only[eL,h0,xaD,xao,Value.int.injEq,xdw,xb3];rw[Int.fdiv_eq_ediv_of_nonneg _ (Int.le_of_lt (Int.pow_pos zD)),xaY];have hl:=z1 kd;by_cases hb:b<=kd.bits
 ·rw[xbY hb];push_cast;rfl
 rw[xdx zO];have h1:a/2^kd.bits=0:=xcc zO;have h2:a/2^b=0:=xcc (xbu zO (xaL zD (by omega:kd.bits<=b)));have:(a:Int) / (2^kd.bits:Int)=((a/2^kd.bits:Nat):Int):=by push_cast;rfl
 rw[this,h1,h2]
theorem ae.eo(hr:a+b<bY kd)(h:k (.int kd ((a+b:Nat):Int))):ae .num .add (.int kd a) (.int kd b) k:=by
 refine ae.add ?_;have:((a:Int)+(b:Int))=((a+b:Nat):Int):=by push_cast;rfl
 rw[this,dj hr];exact h
theorem ae.e7(ha:a<bY kd)(hb:b<=a)(h:k (.int kd ((a-b:Nat):Int))):ae .num .sub (.int kd a) (.int kd b) k:=by
 refine ae.sub ?_;have:((a:Int) -(b:Int))=((a-b:Nat):Int):=by omega
 rw[this,dj zO];exact h
theorem ae.g7(hr:a*b<bY kd)(h:k (.int kd ((a*b:Nat):Int))):ae .num .mul (.int kd a) (.int kd b) k:=by
 refine ae.mul ?_;have:((a:Int)*(b:Int))=((a*b:Nat):Int):=by push_cast;rfl
 rw[this,dj hr];exact h
theorem ae.Dw(ha:a<bY kd)(hb:b≠0)(h:k (.int kd ((a/b:Nat):Int))):ae .num .quo (.int kd a) (.int kd b) k:=by
 refine⟨_,?_,h⟩;have h0:¬((b:Int)=0):=by omega
 simp only[eL,g8,xaS,h0,xaD];have:(a:Int).tdiv b=((a/b:Nat):Int):=by rw[Int.tdiv_eq_ediv_of_nonneg zO];push_cast;rfl
 rw[this,dj (xbk (Nat.div_le_self _ _) ha)]
theorem ae.p7{x y:Int}(h:k (.bool (decide (x=y)))):ae .num .eql (.int kd x) (.int kd y) k:=ae.eql (by rw[show(x==y)=decide (x=y)from by cases hb:decide (x=y)<;>simp_all];exact h)
theorem ae.j4{x y:Int}(h:k (.bool (decide (x≠y)))):ae .num .neq (.int kd x) (.int kd y) k:=ae.neq (by rw[show(x !=y)=decide (x≠y)from by cases hb:decide (x=y)<;>simp_all];exact h)
theorem ae.bI(h:k (.bool (decide (a=b)))):ae .num .eql (.int kd a) (.int kd b) k:=ae.p7 (by simpa[Int.natCast_inj]using h)
theorem ae.pn(h:k (.bool (decide (a≠b)))):ae .num .neq (.int kd a) (.int kd b) k:=ae.j4 (by simpa[Int.natCast_inj]using h)
theorem ae.dX(h:k (.bool (decide (a<b)))):ae .num .lss (.int kd a) (.int kd b) k:=ae.lss (by simpa[Int.ofNat_lt]using h)
theorem ae.E4(h:k (.bool (decide (a<=b)))):ae .num .leq (.int kd a) (.int kd b) k:=ae.leq (by simpa[Int.ofNat_le]using h)
theorem ae.iU(h:k (.bool (decide (b<a)))):ae .num .gtr (.int kd a) (.int kd b) k:=ae.gtr (by simpa[Int.ofNat_lt]using h)
theorem ae.nw(h:k (.bool (decide (b<=a)))):ae .num .geq (.int kd a) (.int kd b) k:=ae.geq (by simpa[Int.ofNat_le]using h)
theorem aM.nat(ha:a<bY kd)(h:k (.int kd (a:Int))):aM kd (.int rQ a) k:=aM.of (dj ha) h
end
theorem Br.dec{p:Prop}[Decidable p]{t f:Prop}(h1:p->t)(h2:¬p->f):Br (.bool (decide p)) t f:=⟨_,rfl,λh=>h1 (by simpa using h),λh=>h2 (by simpa using h)⟩
theorem Br.Is{p:Prop}[Decidable p]{t f:Prop}(hp:p)(h1:t):Br (.bool (decide p)) t f:=Br.dec (λ_=>h1) λh=>absurd hp h
theorem Br.Iu{p:Prop}[Decidable p]{t f:Prop}(hp:¬p)(h1:f):Br (.bool (decide p)) t f:=Br.dec (λh=>absurd h hp) λ_=>h1
end Go.Sx
namespace cF
open Go.Sx
def wN(n:Nat):Nat:=max 1 (2^n/64)
def eG(n:Nat):Nat:=if 6<=n then 18446744073709551615 else 2^2^n-1
structure iG(n:Nat)(ws:zL):Prop where
 Mv:n<=16
 len:ws.length=wN n
 full:∀w∈ws,w<=eG n
instance (n:Nat)(ws:zL):Decidable (iG n ws):=decidable_of_iff (n<=16/\ws.length=wN n/\∀w∈ws,w<=eG n) ⟨λ⟨a,b,c⟩=>⟨a,b,c⟩,λ⟨a,b,c⟩=>⟨a,b,c⟩⟩
def bit(ws:zL)(x:Nat):Bool:=(ws.getD (x/64) 0).testBit (x%64)
def aW(x v:Nat)(b:Bool):Nat:=if b then x|||2^v else nQ x (2^v)
theorem DV{n:Nat}(h:6<=n):wN n=2^(n-6):=by
 unfold wN;have:2^n/64=2^(n-6):=by
  rw[show(64:Nat)=2^6 by rfl,Nat.pow_div h zD]
 rw[this];exact Nat.max_eq_right (xcj _)
theorem DU{n:Nat}(h:n<7):wN n=1:=by
 have:n=0\/n=1\/n=2\/n=3\/n=4\/n=5\/n=6:=by omega
 rcases this with rfl|rfl|rfl|rfl|rfl|rfl|rfl<;>rfl
theorem AN(n:Nat):eG n<18446744073709551616:=by
 unfold eG;split
 ·decide
 have h1:2^n<=32:=xaL (n:=2) zD (by omega:n<=5);have h2:2^2^n<=2^32:=xaL zD h1;omega
theorem iG.lt{n:Nat}{ws:zL}(h:iG n ws){w:Nat}(hw:w∈ws):w<18446744073709551616:=xbk (h.full w hw) (AN n)
theorem rK{n w:Nat}(h:w<=eG n):w&&&eG n=w:=by
 unfold eG at*;split at h
 ·rename_i h6;rw[xaf h6,show(18446744073709551615:Nat)=2^64-1 by rfl,xck,xbd zO]
 rename_i h6;rw[xac h6,xck,xbd];have:=xcj (2^n);omega
theorem fL(n j:Nat):(eG n).testBit j=decide (j<if 6<=n then 64 else 2^n):=by
 unfold eG;split
 ·rw[show(18446744073709551615:Nat)=2^64-1 by rfl,xdm]
 rw[xdm]
theorem qJ{n x:Nat}(h:x<2^n):x/64<wN n:=by
 by_cases h6:6<=n
 ·rw[DV h6];refine xda ?_;rw[show(64:Nat)=2^6 by rfl,<-xdG];rwa [show 6+(n-6)=n by omega]
 have h1:2^n<=32:=xaL (n:=2) zD (by omega:n<=5);rw[DU zO];omega
theorem iG.ext{n:Nat}{a b:zL}(ha:iG n a)(hb:iG n b)(h:∀x,x<2^n->bit a x=bit b x):a=b:=by
 apply List.ext_getElem (by rw[ha.len,hb.len]);intro i h1 h2;apply xa6;intro j;have KO:=rK (ha.full _ (xaP h1));have HP:=rK (hb.full _ (xaP h2));by_cases hj:j<(if 6<=n then 64 else 2^n)
 ·have Ot:j<64:=by
   split at hj
   ·exact hj
   have h1:2^n<=32:=xaL (n:=2) zD (by omega:n<=5);omega
  have hx:64*i+j<2^n:=by
   by_cases h6:6<=n
   ·have hi:i<2^(n-6):=by rw[<-DV h6,<-ha.len];exact h1
    have:2^n=64*2^(n-6):=by rw[show(64:Nat)=2^6 by rfl,<-xdG];congr 1;omega
    omega
   have hi:i<1:=by rw[<-DU (show n<7 by omega),<-ha.len];exact h1
   rw[xac h6]at hj;omega
  have:=h _ hx;unfold bit at this;rw[show(64*i+j) /64=i by omega,show(64*i+j)%64=j by omega]at this;simpa[h1,h2]using this
 have hd:(eG n).testBit j=false:=by rw[fL];simpa using hj
 rw[<-KO,<-HP,xbO,xbO,hd];simp
def Bf(v:Nat):Nat->Nat
 |0=>0
 |j+1=>Bf v j|||(((j>>>v) &&&1)<<<j)
def mask(v:Nat):Nat:=Bf v 64
theorem sO(m:Nat):m&&&1=if m.testBit 0 then 1 else 0:=by
 rw[Nat.and_one_is_mod,Nat.testBit_zero];rcases Nat.mod_two_eq_zero_or_one m with h|h<;>simp[h]
theorem jl(v:Nat):∀J k,(Bf v J).testBit k=(decide (k<J) &&k.testBit v)
 |0,k=>by simp[Bf]
 |J+1,k=>by
  rw[Bf,xdh,jl v J k,sO,xbG,xcr];by_cases e:k=J
  ·subst e;cases hb:k.testBit v<;>simp[xc6]
  have:((if(J.testBit v)=true then 1 else 0)<<<J).testBit k=false:=by
   rw[xc6];split
   ·by_cases hk:J<=k
    ·have h1:Nat.testBit 1 (k-J)=false:=xco (Nat.one_lt_two_pow zO);simp[hk,h1]
    simp[hk]
   simp
  rw[this];have:(decide (k<J+1))=decide (k<J):=by simp;omega
  rw[this];simp
theorem dR(v k:Nat):(mask v).testBit k=(decide (k<64) &&k.testBit v):=jl v 64 k
def AG(ws:zL)(v:Nat)(b:Bool)(i:Nat):Nat:=
 if 6<=v then ws.getD (aW i (v-6) b) 0
 else if b then(ws.getD i 0&&&mask v)|||(ws.getD i 0&&&mask v)>>>2^v
 else nQ (ws.getD i 0) (mask v)|||(nQ (ws.getD i 0) (mask v)<<<2^v)%18446744073709551616
def lP(n:Nat)(ws:zL)(v:Nat)(b:Bool):zL:=(List.range (wN n)).map λi=>AG ws v b i&&&eG n
theorem pM{n v:Nat}{ws:zL}{b:Bool}(h:n<=16):iG n (lP n ws v b):=by
 refine⟨h,by simp[lP],λw hw=>?_⟩;obtain⟨i,_,rfl⟩:=xaq.1 hw;exact Nat.and_le_right
theorem ak(x v:Nat)(b:Bool)(k:Nat):(aW x v b).testBit k=if k=v then b else x.testBit k:=by
 unfold aW;cases b<;>simp only[xaS,xas,xaD]
 ·rw[dk,Nat.testBit_two_pow];by_cases e:k=v
  ·simp[e]
  simp[e,xbJ e]
 rw[xdh,Nat.testBit_two_pow];by_cases e:k=v
 ·simp[e]
 simp[e,xbJ e]
theorem EP:∀v:Fin 6,∀j:Fin 64,(j.1.testBit v.1=true->aW j v true=j/\aW j v false=j-2^v.1/\2^v.1<=j.1/\(j.1+2^v.1).testBit v.1=false/\(j.1-2^v.1).testBit v.1=false)/\
  (j.1.testBit v.1=false->aW j v true=j.1+2^v.1/\j.1+2^v.1<64/\aW j v false=j/\(j.1+2^v.1).testBit v.1=true/\(2^v.1<=j.1->(j.1-2^v.1).testBit v.1=true)):=by decide+kernel
theorem iK{x v:Nat}{b:Bool}:(6<=v->aW x v b/64=aW (x/64) (v-6) b/\aW x v b%64=x%64)/\(v<6->aW x v b/64=x/64/\aW x v b%64=aW (x%64) v b):=by
 have BU:∀y:Nat,y/64=y>>>6:=λy=>by rw[xaY]
 have m64:∀y:Nat,y%64=y%2^6:=λy=>rfl;refine⟨λh=>⟨?_,?_⟩,λh=>⟨?_,?_⟩⟩<;>apply xa6<;>intro k
 ·rw[BU,BU,xbG,ak,ak,xbG];by_cases e:k=v-6
  ·rw[xaf e,xaf zO]
  rw[xac e,xac zO]
 ·rw[m64 (aW x v b),m64 x,xa4,xa4,ak];by_cases hk:k<6
  ·rw[xac zO]
  simp[hk]
 ·rw[BU,BU,xbG,ak,xbG,xac zO]
 rw[m64 (aW x v b),m64 x,xa4,ak,ak,xa4];by_cases e:k=v
 ·subst e;simp[h]
 simp[e]
theorem jM{n v x:Nat}{ws:zL}{b:Bool}(hf:iG n ws)(hv:v<n)(hx:x<2^n):bit (lP n ws v b) x=bit ws (aW x v b):=by
 have hi:=qJ hx;unfold bit;have dY:(lP n ws v b).getD (x/64) 0=AG ws v b (x/64) &&&eG n:=by
  simp[lP,hi]
 rw[dY,xbO,fL];have HP:decide (x%64<if 6<=n then 64 else 2^n)=true:=by
  rw[xaH];split
  ·exact xbL _ zD
  have h1:2^n<=32:=xaL (n:=2) zD (by omega:n<=5);omega
 rw[HP,Bool.and_true];unfold AG;by_cases h6:6<=v
 ·rw[xaf h6,(iK.1 h6).1,(iK.1 h6).2]
 rw[xac h6];obtain⟨e1,e2⟩:=(iK (x:=x) (v:=v) (b:=b)).2 zO;rw[e1,e2];generalize hw:ws.getD (x/64) 0=w;have yK:w<2^64:=by
  rw[<-hw];rw[xaJ,xab (by rw[hf.len];exact hi)];exact hf.lt (xaP _)
 have hj:x%64<64:=xbL _ zD;generalize x%64=j at hj;obtain⟨s1,s2⟩:=EP ⟨v,by omega⟩ ⟨j,hj⟩;simp only at s1 s2;cases b
 ·simp only[xas,xaD];rw[show(18446744073709551616:Nat)=2^64 by rfl,xdh,xa4,xc6,dk,dk,dR,dR];cases hb:j.testBit v
  ·obtain⟨t1,t2,t3,t4,t5⟩:=s2 hb;rw[t3];by_cases hle:2^v<=j
   ·have:=t5 hle;have BU:j-2^v<64:=xbk (Nat.sub_le _ _) hj;simp[hj,this,BU]
   simp[hj,hle]
  obtain⟨t1,t2,t3,t4,t5⟩:=s1 hb;rw[t2];simp[hj,t3,t5]
 simp only[xaS];rw[xdh,xbO,xbG,xbO,dR,dR];cases hb:j.testBit v
 ·obtain⟨t1,t2,t3,t4,t5⟩:=s2 hb;rw[t1,xcs (2^v) j];simp[hj,t2,t4]
 obtain⟨t1,t2,t3,t4,t5⟩:=s1 hb;rw[t1,xcs (2^v) j];simp[hj,t4]
def dep(n:Nat)(ws:zL)(v:Nat):Bool:=decide (lP n ws v false≠lP n ws v true)
theorem jZ(x v:Nat):aW x v (x.testBit v)=x:=by
 apply xa6;intro k;rw[ak];by_cases e:k=v
 ·rw[xaf e,e]
 rw[xac e]
theorem Dx{n v:Nat}{ws:zL}(hf:iG n ws)(hv:v<n):dep n ws v=true↔∃x,x<2^n/\bit ws (aW x v false)≠bit ws (aW x v true):=by
 constructor
 ·intro h;refine xaZ λhno=>?_;have:lP n ws v false=lP n ws v true:=(pM hf.Mv).ext (pM hf.Mv) λx hx=>by
   rw[jM hf hv hx,jM hf hv hx];exact xaZ λhne=>hno ⟨x,hx,hne⟩
  simp[dep,this]at h
 rintro⟨x,hx,hne⟩;simp only[dep,ne_eq,xaH];intro he;apply hne;rw[<-jM hf hv hx,<-jM hf hv hx,he]
end cF
namespace Go.Sx
open Go
inductive gp:Hp->Hp->Prop
 |refl (B:Hp):gp B B
 |cons {x:Nat×Obj} {B H:Hp} (h:gp B H):gp B (x::H)
 |app {N B H:Hp} (h:gp B H):gp B (N++H)
theorem gp.spec{B H:Hp}(h:gp B H):∃N,H=N++B:=by
 induction h with
 |refl=>exact⟨[],rfl⟩
 | @cons x B H h ih=>obtain⟨N,rfl⟩:=ih;exact⟨x::N,rfl⟩
 | @app M B H h ih=>obtain⟨N,rfl⟩:=ih;exact⟨M++N,by rw[xat]⟩
theorem gp.eS{B H:Hp}(h:gp B H):aN H B:=by
 obtain⟨N,rfl⟩:=h.spec;exact aN.right
section
variable {P:Program} {g:Gh} {H:Hp}
def Px(P:Program)(f:FuncId)(args:Array zV)(B:Hp)(Q:zV->Hp->Prop):Prop:=Fc P f args B (λv H=>gp B H/\Q v H)
theorem aa.pre{f:FuncId}{args:Array zV}{H':Hp}{K:zV->Hp->Prop}{KP:List PanicEntry->Hp->Prop}(he:aN H H')(h:aa P g f args H' K KP):aa P g f args H K KP:=aX.pre h he
theorem aN.swap{x y:Nat×Obj}{A:Hp}:aN (x::y::A) (y::x::A):=.perm (.swap _ _ _)
theorem M6.mk{Q:zV->Hp->Prop}{v:zV}{B H:Hp}(he:gp B H)(h:Q v H):bc (λv H=>gp B H/\Q v H) (.returned v) H:=⟨v,H,rfl,.refl _,he,h⟩
theorem bH.mk{Q:zV->Prop}{v:zV}{B H:Hp}(he:aN H B)(h:Q v):bc (λv H=>H=B/\Q v) (.returned v) H:=⟨v,B,rfl,he,rfl,h⟩
def an(kd:IntKind)(l:List Int):Array zV:=(l.map λn=>Value.int kd n).toArray
theorem sq(kd:IntKind)(l:List Int)(i:Nat)(n:Int):(an kd l).setIfInBounds i (.int kd n)=an kd (l.set i n):=by
 simp[an,xdc]
@[simp] theorem Ee(kd:IntKind)(l:List Int):(an kd l).size=l.length:=by simp[an]
theorem wz(kd:IntKind)(n:Nat):madeCells (Value.cells (.int kd 0)) (n*1)=an kd (List.replicate n 0):=by
 apply Array.ext
 ·simp[madeCells,an]
 intro i h1 h2;simp[madeCells,an,Value.cells,Nat.mod_one]
def eV(kd:IntKind)(B:Hp)(v:zV)(l:List Int):Prop:=Sl 1 B v (l.map λn=>[Value.int kd n])
theorem eV.mono{kd:IntKind}{B B':Hp}{v:zV}{l:List Int}(h:eV kd B v l)(hs:∀x∈B,x∈B'):eV kd B' v l:=Sl.mono h hs
theorem eV.cx{kd:IntKind}{B:Hp}{v:zV}{l:List Int}(h:eV kd B v l){K:zV->Prop}(hk:K (.int .i64 l.length)):bp v K:=Sl.cx h (by simpa using hk)
theorem eV.block{kd:IntKind}{B:Hp}{b cap:Nat}{l:List Int}{T:TypeId}{fz:Nat×Nat}(hm:(b,Obj.cells (an kd l) T fz)∈B)(hc:l.length<=cap):eV kd B (.slice (some ⟨b,0,none⟩) l.length cap) l:=by
 refine⟨by simp,.inr ⟨b,0,cap,_,T,fz,by simp,by simpa using hc,hm,by simp[an],λi r hi j v hj=>?_⟩⟩;rw[xaC]at hi;cases hl:l[i]? with
 |none=>rw[hl]at hi;simp at hi
 |some n=>
  rw[hl]at hi;simp only[xa9,xao]at hi;subst hi;cases j with
  |zero=>
   simp only[xbV,xao]at hj;subst hj;simp[an,hl]
  |succ j=>simp at hj
theorem eV.at{kd rQ:IntKind}{B:Hp}{v:zV}{l:List Int}(h:eV kd B v l){i:Nat}{n:Int}(hi:l[i]? =some n){K:zV->Prop}(hk:∀p,At B p [.int kd n]->K p):ai 1 v (.int rQ (i:Int)) K:=
 ai.sl h (by rw[xaC,hi];rfl) hk
theorem eV.ld{kd rQ:IntKind}{B:Hp}{v:zV}{l:List Int}(h:eV kd B v l){i:Nat}{n:Int}(hi:l[i]? =some n)(hs:∀x∈B,x∈H){K:zV->Prop}(hk:K (.int kd n)):ai 1 v (.int rQ (i:Int)) (λp=>Ld H p K):=
 h.at hi λp hp=>Ld.at hp hs hk
theorem dG.ints{T:TypeId}{kd kl:IntKind}{bytes n:Nat}{K:zV->Hp->Prop}(mI:n<=9223372036854775807)(hb:n*bytes<=281474976710656)
 (h:∀b,K (.slice (some ⟨b,0,none⟩) n n) ((b,.cells (an kd (List.replicate n 0)) T zZ)::H)):dG T 1 bytes (.int kd 0) H (.int kl n) (.int kl n) K:=
 ⟨kl,kl,n,n,rfl,rfl,xal _,by omega,hb,λb _=>by rw[wz];exact h b⟩
theorem St.ints{b i:Nat}{kd:IntKind}{l:List Int}{x:Int}{T:TypeId}{H':Hp}{K:Hp->Prop}(hu:bW b (.cells (an kd l) T zZ) (.cells (an kd (l.set i x)) T zZ) H H')(hi:i<l.length)(h:K H'):
  St 1 H (.pointer (some ⟨b,0+i*1,none⟩)) (.int kd x) K:=
 St.one (c:=an kd l) (c':=an kd (l.set i x)) hu rfl (by simpa using hi) (by rw[xaW,xbW];exact sq kd l i x) h
end
def dx:List zV->Nat->Nat
 | .int _ q::_,0=>q.toNat
 |_::r,i+1=>dx r i
 |_,_=>0
structure Tb where
 n:Int
 ws:zL
 deriving DecidableEq
def iw(ws:zL):List Int:=ws.map (Nat.cast:Nat->Int)
@[simp] theorem aV(ws:zL):(iw ws).length=ws.length:=by simp[iw]
theorem gI{ws:zL}{i w:Nat}(h:ws[i]? =some w):(iw ws)[i]? =some (w:Int):=by simp[iw,h]
def TF(t:Tb):Prop:=0<=t.n/\cF.iG t.n.toNat t.ws
instance (t:Tb):Decidable (TF t):=by unfold TF;infer_instance
end Go.Sx
namespace Go.Sx
open Go Go.RowKit
section
variable {P:Program}
def whole(W:World):Hp:=(List.range W.heap.size).map λi=>(i,W.heap.getD i default)
theorem wk(W:World):Own ⟨W,[]⟩ (whole W) W:=by
 refine⟨rfl,rfl,rfl,?_,?_⟩
 ·have:(whole W).map Prod.fst=List.range W.heap.size:=by
   unfold whole;rw[xbP];have:(Prod.fst∘λi=>(i,W.heap.getD i default))=id:=by funext i;rfl
   rw[this,List.map_id]
  rw[xaT,this];exact List.nodup_range
 intro x hx;rw[xaT]at hx;obtain⟨i,hi,rfl⟩:=xaq.1 hx;have:=xa8.1 hi;simp[xai,this]
theorem Own.below{W W':World}(h:Own ⟨W,[]⟩ (whole W) W'):Below W.heap.size W W':=by
 have hb:∀k,k<W.heap.size->W'.heap[k]? =W.heap[k]? :=λk hk=>by
  have:=h.has (k,W.heap.getD k default) (xaq.2 ⟨k,xa8.2 hk,rfl⟩);simp only at this;rw[this];simp[xai,hk]
 refine⟨h.os,h.tape,h.out,?_,hb⟩;rcases Nat.eq_zero_or_pos W.heap.size with h0|h0
 ·omega
 have:=hb (W.heap.size-1) zO;rw[show W.heap[W.heap.size-1]? =some (W.heap[W.heap.size-1]' zO)from xbl zO]at this;have:=(xaz.1 this).1;omega
theorem wE{f:FuncId}{args:Array zV}{W:World}(h:aX P ⟨W,[]⟩ f args (whole W) (λe H'=>e=.returned (.bool true)/\aN H' (whole W))):
  Calls P f args W λe W'=>e=.returned (.bool true)/\Below W.heap.size W W':=
 (h W (wk W)).mono λe W' ⟨H',ho,he,hent⟩=>⟨he,(hent _ _ ho).below⟩
theorem E7{f:FuncId}{args:Array zV}{W:World}(h:Px P f args (whole W) (λv _=>v=.bool true)):
  Calls P f args W λe W'=>e=.returned (.bool true)/\Below W.heap.size W W':=
 wE ((h ⟨W,[]⟩).post λe H' ⟨v,C,he,hent,hg,hv⟩=>⟨H',.refl _,by rw[he,hv],hent.trans hg.eS⟩)
section
variable {H:Type} {enc:TypeId×zV->H}
open Go.ChangeShapes Go.WideShapes Go.ChangeAt Go.RowKit
theorem ij(hl:laidOutB P=true){W W':World}{sp:Nat->Bool}(hb:Below W.heap.size W W'):∀(ts:List TypeId) (vs:List zV) (ds:List (DataW H)) (ps:List MemPlace),
  (∀t∈ts,P.readableRec t=true/\t<P.types.size)->DataW.TrodAll enc P W 0 (λ_=>true) true ts vs ds ps->(∀x∈ps,x.block<W.heap.size)->(∀x∈ps,sp x.block=true)->DataW.TrodAll enc P W' 0 sp true ts vs ds ps
 | [],vs,ds,ps,_,h,_,_=>by
  obtain⟨rfl,rfl,rfl⟩:=trodAll_nil h;exact trodAll_mk0
 |t::ts,vs,ds,ps,hr,h,hlt,hsp=>by
  obtain⟨v,vs',d,ds',p,q,rfl,rfl,rfl,h0,h1⟩:=trodAll_cons h;have ht:=hr t zI;exact trodAll_cons_mk (WideElems.Trod_stays hl ht.1 ht.2 h0 (λx hx=>hb.same (hlt x (by simp[hx]))) (λx hx=>hsp x (by simp[hx])))
   (ij hl hb ts vs' ds' q (λt' h'=>hr t' (by simp[h'])) h1 (λx hx=>hlt x (by simp[hx])) (λx hx=>hsp x (by simp[hx])))
theorem z4{f:Func}{s:ChangeSpec}{W W':World}{args:Array zV}{ds gs:List (DataW H)}{before:List MemPlace}{tb:TypeId}(hvars:s.vars=[])
 (hW:DataW.Whole enc P f.params.toList s.vars false W args.toList ds gs before)(hs:s.fn H (ds++gs)={results:=[.lit (.bool true)],args:=ds})(hb:Below W.heap.size W W')
 (hl:laidOutB P=true)(hr:∀t∈f.params.toList,P.readableRec t=true/\t<P.types.size)(N5:f.resultTypes=#[tb])(HU:P.underlying tb=some .bool):
  s.post enc P f false true false false W args (.bool true) W':=by
 have Jg:=hW;have hlt:=hW.lt;obtain⟨p,q,hA,hV,rfl,hfz,iT⟩:=hW;rw[hvars]at hV;obtain⟨rfl,rfl⟩:=trodVars_none hV;refine⟨ds,_,_,[],p,[],Jg,?_,?_,?_,World.keptBut_mono (λp hp=>⟨hp,?_⟩) (hb.frame (· ∈p++[])),λh=>by cases h⟩
 ·rw[hs,N5];exact trodAll_cons_mk (shut_bool HU _) trodAll_mk0
 ·rw[hs];exact ij hl hb _ _ _ _ hr hA (λx hx=>hlt x (by simp[hx])) (λx hx=>by simpa using hlt x (by simp[hx]))
 ·rw[hvars,hs];rfl
 right;simpa using hp
end
end
end Go.Sx
namespace Go.Sx
open Go
section
variable {P:Program} {g:Gh} {H:Hp}
theorem aC.MZ{T:TypeId}{v x:zV}{rs:List (List zV)}{C:Hp}(hs:aC T 1 v rs C){i:Nat}(hi:i<rs.length)(hr:rs[i]? =some [x])(hC:∀y∈C,y∈H){K:zV->Prop}(hk:K x):
  ai 1 v (.int .i64 (i:Int)) λp=>Ld H p K:=by
 obtain⟨b',ax,rfl,rfl,aL⟩:=hs.pos zO;refine ai.nat hi ?_;exact Ld.GW (l:=rs++ax) (hC _ (List.Mem.head _)) aL (by rw[xaM hi];exact hr) hk
theorem aC.JR{T:TypeId}{v x y:zV}{rs:List (List zV)}{C A B:Hp}(hs:aC T 1 v rs C){i:Nat}(hi:i<rs.length)(hr:rs[i]? =some [y])(h1:x.oneCell'=true){K:Hp->Prop}
 (hk:∀C',aC T 1 v (rs.set i [x]) C'->K (A++(C'++B))):ai 1 v (.int .i64 (i:Int)) λp=>St 1 (A++(C++B)) p x K:=by
 obtain⟨b',ax,rfl,rfl,aL⟩:=hs.pos zO;refine ai.nat hi ?_;refine St.cell (l:=rs++ax) (i:=i) (k:=1) (j:=0) (r:=[y]) (((bW.head _).append B).aB A) aL (by rw[xaM hi];exact hr) zO h1 ?_;have e:(rs++ax).set i ([y].set 0 x)=rs.set i [x]++ax:=by rw[xdd _ _ hi];rfl
 rw[e];refine hk [(b',_)] (aC.mk' (ax:=ax) (λr hr'=>?_) zI zI);rcases xav.1 hr' with hr'|hr'
 ·rcases xcG hr' with hr'|rfl
  ·exact aL r (by simp[hr'])
  rfl
 exact aL r (by simp[hr'])
end
end Go.Sx
namespace Go.Sx
open Go
section
variable {κ β:Type} [DecidableEq κ]
structure br(ke:κ->zV)(vr:zV->β->Prop)(es:Array MapEntry)(ck:Nat)(m:List (κ×β)):Prop where
 len:es.size=m.length
 key:∀(i:Nat) (e:MapEntry) (x:κ×β),es[i]? =some e->m[i]? =some x->e.key=ke x.1/\vr e.val x.2
 nd:(m.map Prod.fst).Nodup
 born:(es.toList.map MapEntry.born).Nodup
 lt:∀e∈es.toList,e.born<ck
variable {ke:κ->zV} {vr:zV->β->Prop} {es:Array MapEntry} {ck:Nat} {m:List (κ×β)}
theorem br.empty:br ke vr #[] 0 []:=⟨rfl,by simp,by simp,by simp,by simp⟩
def cE(m:List (κ×β))(k:κ)(x:β):List (κ×β):=if k∈m.map Prod.fst then m.map (λy=>if y.1=k then(k,x)else y)else m++[(k,x)]
def bR(m:List (κ×β))(k:κ):Option β:=(m.find? (λy=>y.1=k)).map Prod.snd
theorem fk{m:List (κ×β)}{k:κ}{x:β}(nd:(m.map Prod.fst).Nodup):bR m k=some x↔(k,x)∈m:=by
 induction m with
 |nil=>simp[bR]
 |cons y r ih=>
  rw[xay,xa1]at nd;obtain⟨a,b⟩:=y;simp only[bR,xbB]at ih⊢;by_cases e:a=k
  ·subst e;simp only[decide_true,xa9,xao,xag,xcZ,xdw];constructor
   ·intro h;exact .inl h.symm
   rintro(h|h)
   ·exact h.symm
   exact absurd (xaq.2 ⟨_,h,rfl⟩) nd.1
  simp only[e,xc8,xag,xcZ,xbJ e,false_and,false_or];exact ih nd.2
theorem ep{m:List (κ×β)}{k:κ}:bR m k=none↔k∉m.map Prod.fst:=by
 simp only[bR,Option.map_eq_none_iff,xdn,xaH,xaq,not_exists,not_and]
theorem br.findNow{kd:TypeDesc}(hk:∀a b,Instr.sameNow kd (ke a) (ke b)=some (decide (a=b)))(h:br ke vr es ck m)(k:κ):
  (∃(i:Nat) (x:β) (e:MapEntry),es[i]? =some e/\m[i]? =some (k,x)/\vr e.val x/\Instr.findNow kd (ke k) es.toList 0=some (some (i,e.val)))\/(k∉m.map Prod.fst/\Instr.findNow kd (ke k) es.toList 0=some none):=by
 have key:∀(l:List MapEntry) (q:List (κ×β)) (j:Nat),l.length=q.length->(∀(i:Nat) (e:MapEntry) (x:κ×β),l[i]? =some e->q[i]? =some x->e.key=ke x.1/\vr e.val x.2)->
   (∃(i:Nat) (x:β) (e:MapEntry),l[i]? =some e/\q[i]? =some (k,x)/\vr e.val x/\Instr.findNow kd (ke k) l j=some (some (j+i,e.val)))\/(k∉q.map Prod.fst/\Instr.findNow kd (ke k) l j=some none):=by
  intro l;induction l with
  |nil=>intro q j hl _;cases q with|nil=>exact .inr ⟨by simp,rfl⟩|cons a b=>simp at hl
  |cons e r ih=>
   intro q j hl hkey;cases q with
   |nil=>simp at hl
   |cons y q=>
    obtain⟨h1,h2⟩:=hkey 0 e y rfl rfl;simp only[Instr.findNow,h1,hk];by_cases e0:k=y.1
    ·subst e0;exact .inl ⟨0,y.2,e,rfl,rfl,h2,by simp⟩
    rw[xaA e0];rcases ih q (j+1) (by simpa using hl) (λi e x h1 h2=>hkey (i+1) e x (by simpa using h1) (by simpa using h2))with⟨i,x,e',g1,g2,g3,g4⟩|⟨g1,g2⟩
    ·exact .inl ⟨i+1,x,e',by simpa using g1,by simpa using g2,g3,by simp only[g4];rw[show j+1+i=j+(i+1)by omega]⟩
    exact .inr ⟨by rw[xay,xag];rintro(h|h);exact e0 h;exact g1 h,by simpa using g2⟩
 have:=key es.toList m 0 (by simpa using h.len) (λi e x h1 h2=>h.key i e x (by simpa using h1) h2);rcases this with⟨i,x,e,g1,g2,g3,g4⟩|h2
 ·exact .inl ⟨i,x,e,by simpa using g1,g2,g3,by simpa using g4⟩
 exact .inr h2
theorem br.vz{P:Program}{kt:TypeId}(hk:∀a b,vN P kt (ke a) (ke b) (decide (a=b)))(h:br ke vr es ck m)(k:κ):
  (∃(i:Nat) (x:β) (e:MapEntry),es[i]? =some e/\m[i]? =some (k,x)/\vr e.val x/\gk P kt (ke k) es.toList 0 (some (i,e.val)))\/(k∉m.map Prod.fst/\gk P kt (ke k) es.toList 0 none):=by
 have key:∀(l:List MapEntry) (q:List (κ×β)) (j:Nat),l.length=q.length->(∀(i:Nat) (e:MapEntry) (x:κ×β),l[i]? =some e->q[i]? =some x->e.key=ke x.1/\vr e.val x.2)->
   (∃(i:Nat) (x:β) (e:MapEntry),l[i]? =some e/\q[i]? =some (k,x)/\vr e.val x/\gk P kt (ke k) l j (some (j+i,e.val)))\/(k∉q.map Prod.fst/\gk P kt (ke k) l j none):=by
  intro l;induction l with
  |nil=>intro q j hl _;cases q with|nil=>exact .inr ⟨by simp,rfl⟩|cons a b=>simp at hl
  |cons e r ih=>
   intro q j hl hkey;cases q with
   |nil=>simp at hl
   |cons y q=>
    obtain⟨h1,h2⟩:=hkey 0 e y rfl rfl;have hb:=hk k y.1;rw[<-h1]at hb;by_cases e0:k=y.1
    ·refine .inl ⟨0,y.2,e,rfl,by rw[e0];rfl,h2,?_⟩;exact⟨_,hb,λ_=>by simp,λh=>by simp[e0]at h⟩
    rcases ih q (j+1) (by simpa using hl) (λi e x h1 h2=>hkey (i+1) e x (by simpa using h1) (by simpa using h2))with⟨i,x,e',g1,g2,g3,g4⟩|⟨g1,g2⟩
    ·refine .inl ⟨i+1,x,e',by simpa using g1,by simpa using g2,g3,_,hb,λh=>by simp[e0]at h,λ_=>?_⟩;rw[show j+(i+1)=j+1+i by omega];exact g4
    exact .inr ⟨by rw[xay,xag];rintro(h|h);exact e0 h;exact g1 h,_,hb,λh=>by simp[e0]at h,λ_=>g2⟩
 have:=key es.toList m 0 (by simpa using h.len) (λi e x h1 h2=>h.key i e x (by simpa using h1) h2);rcases this with⟨i,x,e,g1,g2,g3,g4⟩|h2
 ·exact .inl ⟨i,x,e,by simpa using g1,g2,g3,by simpa using g4⟩
 exact .inr h2
theorem br.put(h:br ke vr es ck m){i:Nat}{k:κ}{y x:β}{val:zV}(hi:m[i]? =some (k,y))(hv:vr val x):br ke vr (es.modify i λe=>{e with key:=ke k,val}) ck (cE m k x):=by
 have hmem:k∈m.map Prod.fst:=xaq.2 ⟨_,xaI hi,rfl⟩;have hlt:=(xae.1 hi).1;have Ht:∀j z,m[j]? =some z->z.1=k->j=i:=λj z hj hz=>by
  have hj':=(xae.1 hj).1;have e1:(m.map Prod.fst)[j]? =some k:=by rw[xaC,hj];simp[hz]
  have e2:(m.map Prod.fst)[i]? =some k:=by rw[xaC,hi];rfl
  exact(List.getElem?_inj (by simpa using hj') h.nd).1 (e1.trans e2.symm)
 have hb:((es.modify i λe=>{e with key:=ke k,val}).toList.map MapEntry.born)=es.toList.map MapEntry.born:=by
  apply xbS;intro j;simp only[xaC,xa7,xbn];split
  ·cases es[j]? <;>rfl
  rfl
 refine⟨by simp[cE,hmem,h.len],λj e z he hz=>?_,?_,by rw[hb];exact h.born,λe he=>?_⟩
 ·simp only[cE,hmem,xaS,xaC]at hz;rw[xbn]at he;cases hm:m[j]? with
  |none=>rw[hm]at hz;simp at hz
  |some z0=>
   rw[hm]at hz;simp only[xa9,xao]at hz;cases KS:es[j]? with
   |none=>rw[KS]at he;split at he<;>simp at he
   |some e0=>
    rw[KS]at he;by_cases ek:z0.1=k
    ·have:=Ht j z0 hm ek;subst this;rw[xaf ek]at hz;subst hz;simp only[xaS,xa9,xao]at he;subst he;exact⟨rfl,hv⟩
    rw[xac ek]at hz;subst hz;rw[xac (λe=>by subst e;rw[hi]at hm;cases hm;exact ek rfl)]at he;simp only[xao]at he;subst he;exact h.key j _ _ KS hm
 ·have:(cE m k x).map Prod.fst=m.map Prod.fst:=by
   simp only[cE,hmem,xaS,xbP];apply xbC;intro z _;simp only[Function.comp];split
   ·rename_i hz;exact hz.symm
   rfl
  rw[this];exact h.nd
 have:e.born∈(es.modify i λe=>{e with key:=ke k,val}).toList.map MapEntry.born:=xbm he;rw[hb]at this;obtain⟨e0,h1,h2⟩:=xaq.1 this;rw[<-h2];exact h.lt e0 h1
theorem br.more(h:br ke vr es ck m){k:κ}{x:β}{val:zV}(hk:k∉m.map Prod.fst)(hv:vr val x):br ke vr (es.push {key:=ke k,val,born:=ck}) (ck+1) (cE m k x):=by
 have hs:cE m k x=m++[(k,x)]:=by unfold cE;rw[xac hk]
 rw[hs];refine⟨by simp[h.len],λj e z he hz=>?_,?_,?_,λe he=>?_⟩
 ·by_cases hj:j<m.length
  ·rw[xaM hj]at hz;rw[xcF,xac (by rw[h.len];omega)]at he;exact h.key j _ _ he hz
  have I6:=(xae.1 hz).1;simp only[xan,xak,xbq]at I6;have:j=m.length:=by omega
  subst this;rw[xb0 (xal _)]at hz;simp at hz;subst hz;rw[xcF,xaf h.len.symm]at he;simp at he;subst he;exact⟨rfl,hv⟩
 ·rw[xau,xbR];refine⟨h.nd,by simp,λa ha b hb=>?_⟩;simp at hb;subst hb;rintro rfl;exact hk ha
 ·rw[Array.toList_push,xau,xbR];refine⟨h.born,by simp,λa ha b hb=>?_⟩;simp at hb;subst hb;obtain⟨e,he,rfl⟩:=xaq.1 ha;have:=h.lt e he;omega
 rw[Array.toList_push,xav]at he;rcases he with he|he
 ·have:=h.lt e he;omega
 simp at he;subst he;simp
variable {H:Hp} {b:Nat}
theorem br.hit{kd:TypeDesc}{zero:zV}{ok:Bool}{k:κ}{x:β}{K:zV->Prop}(hk:∀a b,Instr.sameNow kd (ke a) (ke b)=some (decide (a=b)))(h:br ke vr es ck m)(hm:(b,Obj.map es ck)∈H)(hx:bR m k=some x)
 (h1:∀v,vr v x->K (cond ok (.tuple #[v,.bool true]) v)):lR kd zero ok H (.map (some b)) (ke k) K:=by
 rcases h.findNow hk k with⟨i,y,e,g1,g2,g3,g4⟩|⟨g1,g2⟩
 ·have:bR m k=some y:=(fk h.nd).2 (xaI g2);rw[hx]at this;cases this;exact⟨es,_,.inr ⟨b,ck,rfl,hm⟩,g4,h1 _ g3⟩
 rw[ep.2 g1]at hx;cases hx
theorem br.wx{kd:TypeDesc}{zero:zV}{ok:Bool}{k:κ}{K:zV->Prop}(hk:∀a b,Instr.sameNow kd (ke a) (ke b)=some (decide (a=b)))(h:br ke vr es ck m)(hm:(b,Obj.map es ck)∈H)(hx:bR m k=none)
 (h1:K (cond ok (.tuple #[zero,.bool false]) zero)):lR kd zero ok H (.map (some b)) (ke k) K:=by
 rcases h.findNow hk k with⟨i,y,e,g1,g2,g3,g4⟩|⟨g1,g2⟩
 ·exact absurd (xaq.2 ⟨_,xaI g2,rfl⟩) (ep.1 hx)
 exact⟨es,_,.inr ⟨b,ck,rfl,hm⟩,g2,h1⟩
theorem br.bX{kd:TypeDesc}{k:κ}{x:β}{val:zV}{K:Hp->Prop}(hk:∀a b,Instr.sameNow kd (ke a) (ke b)=some (decide (a=b)))(hb:∀a,Instr.sameBits 10000 (ke a) (ke a)=true)(h:br ke vr es ck m)(hv:vr val x)
 (h1:∀es' eU,br ke vr es' eU (cE m k x)->∃H',bW b (.map es ck) (.map es' eU) H H'/\K H'):jc kd H (.map (some b)) (ke k) val K:=by
 rcases h.findNow hk k with⟨i,y,e,g1,g2,g3,g4⟩|⟨g1,g2⟩
 ·refine⟨b,es,ck,_,rfl,g4,λe' he'=>?_,by rw[h.len];exact(xae.1 g2).1,h1 _ _ (h.put g2 hv)⟩;rw[(h.key i e' _ he' g2).1];exact hb k
 exact⟨b,es,ck,_,rfl,g2,h1 _ _ (h.more g1 hv)⟩
theorem br.Dc{P:Program}{kt:TypeId}{zero:zV}{ok:Bool}{k:κ}{x:β}{K:zV->Prop}(hk:∀a b,vN P kt (ke a) (ke b) (decide (a=b)))(hc:∀a,jf P kt (ke a))(h:br ke vr es ck m)(hm:(b,Obj.map es ck)∈H)(hx:bR m k=some x)
 (h1:∀v,vr v x->K (cond ok (.tuple #[v,.bool true]) v)):gj P kt zero ok H (.map (some b)) (ke k) K:=by
 rcases h.vz hk k with⟨i,y,e,g1,g2,g3,g4⟩|⟨g1,g2⟩
 ·have:bR m k=some y:=(fk h.nd).2 (xaI g2);rw[hx]at this;cases this;exact⟨es,_,.inr ⟨b,ck,rfl,hm⟩,hc k,g4,h1 _ g3⟩
 rw[ep.2 g1]at hx;cases hx
theorem br.uY{P:Program}{kt:TypeId}{zero:zV}{ok:Bool}{k:κ}{K:zV->Prop}(hk:∀a b,vN P kt (ke a) (ke b) (decide (a=b)))(hc:∀a,jf P kt (ke a))(h:br ke vr es ck m)(hm:(b,Obj.map es ck)∈H)(hx:bR m k=none)
 (h1:K (cond ok (.tuple #[zero,.bool false]) zero)):gj P kt zero ok H (.map (some b)) (ke k) K:=by
 rcases h.vz hk k with⟨i,y,e,g1,g2,g3,g4⟩|⟨g1,g2⟩
 ·exact absurd (xaq.2 ⟨_,xaI g2,rfl⟩) (ep.1 hx)
 exact⟨es,_,.inr ⟨b,ck,rfl,hm⟩,hc k,g2,h1⟩
theorem br.B4{P:Program}{kt:TypeId}{k:κ}{x:β}{val:zV}{K:Hp->Prop}(hk:∀a b,vN P kt (ke a) (ke b) (decide (a=b)))(hc:∀a,jf P kt (ke a))(hb:∀a,Instr.sameBits 10000 (ke a) (ke a)=true)(h:br ke vr es ck m)(hv:vr val x)
 (h1:∀es' eU,br ke vr es' eU (cE m k x)->∃H',bW b (.map es ck) (.map es' eU) H H'/\K H'):fY P kt H (.map (some b)) (ke k) val K:=by
 rcases h.vz hk k with⟨i,y,e,g1,g2,g3,g4⟩|⟨g1,g2⟩
 ·refine⟨b,es,ck,_,rfl,hc k,g4,λe' he'=>?_,by rw[h.len];exact(xae.1 g2).1,h1 _ _ (h.put g2 hv)⟩;rw[(h.key i e' _ he' g2).1];exact hb k
 exact⟨b,es,ck,_,rfl,hc k,g2,h1 _ _ (h.more g1 hv)⟩
def fK(es:Array MapEntry)(m:List (κ×β))(seen:Array Nat):List (κ×β):=((es.toList.zip m).filter λp=> !seen.contains p.1.born).map Prod.snd
omit [DecidableEq κ] in
theorem qd(h:br ke vr es ck m){seen:Array Nat}{i:Nat}{e:MapEntry}{x:κ×β}(he:es[i]? =some e)(hx:m[i]? =some x)(hs:e.born∉seen):(fK es m seen).Perm (x::fK es m (seen.push e.born)):=by
 unfold fK;have hz:(es.toList.zip m)[i]? =some (e,x):=by rw[List.getElem?_zip_eq_some];exact⟨by simpa using he,hx⟩
 obtain⟨A,C,MV,hlen⟩:∃A C,es.toList.zip m=A++(e,x)::C/\A.length=i:=by
  obtain⟨hlt,hg⟩:=xae.1 hz;exact⟨(es.toList.zip m).take i,(es.toList.zip m).drop (i+1),by rw[<-hg,List.getElem_cons_drop,xbK],by simp only[xcd];omega⟩
 have KJ:(es.toList.zip m).map (λp=>p.1.born)=es.toList.map MapEntry.born:=by
  have:(es.toList.zip m).map Prod.fst=es.toList:=by rw[<-List.unzip_fst,List.unzip_zip];simpa using h.len
  rw[show(λp:MapEntry×(κ×β)=>p.1.born)=MapEntry.born∘Prod.fst from rfl,<-xbP,this]
 have iT:=h.born;rw[<-KJ,MV,xau,xay]at iT;have HC:=xa5.nodup_iff.1 iT;rw[xa1,<-xau]at HC;have hne:∀p∈A++C,p.1.born≠e.born:=λp hp e0=>HC.1 (xaq.2 ⟨p,hp,e0⟩);have Er:∀L:List (MapEntry×(κ×β)),(∀p∈L,p.1.born≠e.born)->(L.filter λp=> !(seen.push e.born).contains p.1.born)=L.filter λp=> !seen.contains p.1.born:=λL hL=>by
  apply List.filter_congr;intro p hp;have:=hL p hp;simp[Array.mem_push,this]
 rw[MV,xdo,xdo,List.filter_cons,List.filter_cons];rw[xaf (by simpa using hs),xac zI,Er A λp hp=>hne p (xad _ hp),Er C λp hp=>hne p (xaa _ hp)];rw[xau,xau,xay];exact xa5
omit [DecidableEq κ] in
theorem br.next{bi bm:Nat}{seen:Array Nat}{K:zV->Hp->Prop}(h:br ke vr es ck m)(hm:(bm,Obj.map es ck)∈H)(hi:(bi,Obj.mapIter (some bm) ck seen ck)∈H)
 (h1:∀e x seen',e∈es.toList->e.key=ke x.1->vr e.val x.2->(fK es m seen).Perm (x::fK es m seen')->seen'.back?=some e.born->es.find? (·.born==e.born)=some e->
   ∃H',bW bi (.mapIter (some bm) ck seen ck) (.mapIter (some bm) ck seen' ck) H H'/\K (.tuple #[.bool true,e.key,e.val]) H')
 (h2:fK es m seen=[]->K (.tuple #[.bool false]) H):IF H (.pointer (some ⟨bi,0,none⟩)) K:=by
 refine⟨bi,some bm,ck,seen,ck,rfl,hi,es,ck,hm,λe he=>⟨h.lt e he,h.lt e he⟩,λe he hs=>?_,λaL=>h2 ?_⟩
 ·obtain⟨i,hi',rfl⟩:=xcC.1 he;have BR:i<m.length:=by rw[<-h.len];simpa using hi'
  have g1:es[i]? =some es.toList[i]:=by rw[<-xa7];exact xab hi'
  have g2:m[i]? =some m[i]:=xab BR;obtain⟨k1,k2⟩:=h.key i _ _ g1 g2;refine h1 _ m[i] _ he k1 k2 (qd h g1 g2 hs) zI ?_;rw[<-Array.find?_toList];have iT:=h.born;rw[List.find?_eq_some_iff_append];refine⟨by simp,es.toList.take i,es.toList.drop (i+1),by rw[List.getElem_cons_drop,xbK],λa ha=>?_⟩;simp only[xbg,beq_eq_false_iff_ne,ne_eq];intro e0;obtain⟨j,hj,rfl⟩:=xcC.1 ha;simp only[xcd]at hj;rw[List.getElem_take]at e0;have:=(List.getElem_inj (by simpa using h.born) (xs:=es.toList.map MapEntry.born) (i:=j) (j:=i) (h₀:=by rw[xaw];omega) (h₁:=by rw[xaw];exact hi')).1 (by simpa using e0);omega
 unfold fK;rw[List.filter_eq_nil_iff.2,xcJ];intro p hp;have:=aL p.1 (List.of_mem_zip hp).1;simpa using this
end
end Go.Sx
namespace cF
abbrev Fs:=List (zL)
def add(l:Fs)(t:zL):Fs:=if t∈l then l else l++[t]
def iI(L:Fs):Fs:=L.foldl add []
def given(n:Nat)(l:Fs)(v:Nat):Fs:=l.foldl (λacc t=>add (add acc (lP n t v false)) (lP n t v true)) []
def nodes(n:Nat)(l:Fs)(v:Nat):Fs:=l.filter λt=>dep n t v
def st(n:Nat)(L:Fs)(A:Nat):Nat->Fs
 |0=>iI L
 |k+1=>if A.testBit k then given n (st n L A k) k else st n L A k
def lvl(n:Nat)(L:Fs)(A v:Nat):Nat:=(nodes n (st n L A n) v).length
theorem po{l:Fs}{t x:zL}:x∈add l t↔x∈l\/x=t:=by
 unfold add;split
 ·constructor
  ·exact .inl
  rintro(h|rfl)<;>assumption
 simp
theorem kG{l:Fs}{t:zL}(h:l.Nodup):(add l t).Nodup:=by
 unfold add;split
 ·exact h
 rename_i hn;rw[xbR];exact⟨h,by simp,λa ha b hb=>by simp at hb;subst hb;rintro rfl;exact hn ha⟩
theorem fe{α:Type}(f:α->Fs->Fs)(g:α->zL->Prop)(hf:∀a l x,x∈f a l↔x∈l\/g a x):∀(L:List α) (acc:Fs) (x:zL),x∈L.foldl (λacc a=>f a acc) acc↔x∈acc\/∃a∈L,g a x
 | [],acc,x=>by simp
 |a::L,acc,x=>by
  rw[xdC,fe f g hf L,hf];simp only[xag,exists_eq_or_imp,or_assoc]
theorem dN{α:Type}(f:α->Fs->Fs)(hf:∀a l,l.Nodup->(f a l).Nodup):∀(L:List α) (acc:Fs),acc.Nodup->(L.foldl (λacc a=>f a acc) acc).Nodup
 | [],acc,h=>h
 |a::L,acc,h=>dN f hf L _ (hf a acc h)
theorem iQ{L:Fs}{x:zL}:x∈iI L↔x∈L:=by
 unfold iI;have:=fe (λa l=>add l a) (λa x=>x=a) (λa l x=>po) L [] x;rw[this];simp
theorem o5(L:Fs):(iI L).Nodup:=dN (λa l=>add l a) (λa l h=>kG h) L [] zI
theorem j8{n v:Nat}{l:Fs}{x:zL}:x∈given n l v↔∃t∈l,∃b,x=lP n t v b:=by
 unfold given;have:=fe (λt acc=>add (add acc (lP n t v false)) (lP n t v true)) (λt x=>∃b,x=lP n t v b) (λt l x=>by
  rw[po,po];constructor
  ·rintro((h|h)|h)
   ·exact .inl h
   ·exact .inr ⟨false,h⟩
   exact .inr ⟨true,h⟩
  rintro(h|⟨b,h⟩)
  ·exact .inl (.inl h)
  cases b
  ·exact .inl (.inr h)
  exact .inr h) l [] x
 rw[this];simp
theorem qZ(n:Nat)(l:Fs)(v:Nat):(given n l v).Nodup:=dN (λt acc=>add (add acc (lP n t v false)) (lP n t v true)) (λa l h=>kG (kG h)) l [] zI
theorem jb(l:Fs)(t:zL):(add l t).length<=l.length+1:=by unfold add;split<;>simp
theorem dz{α:Type}(f:α->Fs->Fs)(c:Nat)(hf:∀a l,(f a l).length<=l.length+c):∀(L:List α) (acc:Fs),(L.foldl (λacc a=>f a acc) acc).length<=acc.length+c*L.length
 | [],acc=>by simp
 |a::L,acc=>by
  have h1:=dz f c hf L (f a acc);have h2:=hf a acc;rw[xdC,xak,Nat.mul_succ];omega
end cF
namespace Go.Sx
open Go
section
variable {P:Program} {H:Hp}
theorem aj.int{t e:Nat}{kd:IntKind}{x:Int}{K:zV->Hp->Prop}(h1:P.underlying t=some (.slice e))(h2:bL P e=some 1)(h3:c8 P e=some (.int kd 0))
 (h:∀b,K (.slice (some ⟨b,0,none⟩) 1 1) ((b,.cells (an kd [x]) e zZ)::H)):aj P t 1 [(0,.int kd x)] H K:=by
 refine⟨an kd [x],e,1,_,h1,h2,h3,by decide,?_,λb _=>h b⟩;have e1:Array.range 1=#[0]:=rfl;simp[Instr.fill,Value.cells,an,e1]
theorem aj.none{t e k:Nat}{z:zV}{K:zV->Hp->Prop}(h1:P.underlying t=some (.slice e))(h2:bL P e=some k)(h3:c8 P e=some z)
 (h:∀b,K (.slice (some ⟨b,0,none⟩) 0 0) ((b,.cells #[] e zZ)::H)):aj P t 0 [] H K:=by
 refine⟨_,e,k,z,h1,h2,h3,by simp,rfl,λb _=>?_⟩;have:((Array.range (0*k)).map λi=>z.cells[i%z.cells.size]!)=#[]:=by simp
 rw[this];exact h b
def cM(l:List UInt8):List (List zV):=l.map λb=>[Value.int .u8 b.toNat]
theorem we(l:List UInt8):rows (cM l)=(l.map λb=>Value.int .u8 b.toNat).toArray:=by
 unfold rows cM;congr 1;induction l with
 |nil=>rfl
 |cons b r ih=>simp[ih]
def ag(l:List UInt8):zV:=.string ⟨l.toArray⟩
theorem jn(a b:List UInt8):((⟨a.toArray⟩:ByteArray)==⟨b.toArray⟩)=decide (a=b):=by
 rw[beq_toListBytes,ByteArray.toList_eq,ByteArray.toList_eq];simp only[xde];rw[xcH];simp
theorem mh(a b:List UInt8):Instr.sameNow .string (ag a) (ag b)=some (decide (a=b)):=by
 show some _=some _;rw[jn]
theorem vW(a:List UInt8):Instr.sameBits 10000 (ag a) (ag a)=true:=by
 show((⟨a.toArray⟩:ByteArray)==⟨a.toArray⟩)=true;rw[jn];simp
theorem ae.uM{a b:List UInt8}{k:zV->Prop}(h:k (.bool (decide (a≠b)))):ae .str .neq (ag a) (ag b) k:=by
 refine⟨_,rfl,?_⟩;have:(!((⟨a.toArray⟩:ByteArray).toList==(⟨b.toArray⟩:ByteArray).toList))=decide (a≠b):=by
  rw[<-beq_toListBytes,jn];simp
 rw[this];exact h
end
end Go.Sx
namespace Go.Sx
open Go
section
variable {P:Program} {g:Gh} {H:Hp}
theorem aC.apps{elem k bytes:Nat}{zero:zV}{v:zV}{rs:List (List zV)}{C A B:Hp}(h:aC elem k v rs C){xa:Option Addr}{xc:Nat}{r2:List (List zV)}
 (hx:Cells (A++(C++B)) xa (r2.length*k) (rows r2))(hr:∀r∈r2,r.length=k)(h1:∀r∈r2,∀u∈r,u.oneCell'=true)(hz:∃z:List zV,zero.cells=z.toArray/\z.length=k)
 (hb:(rs.length+r2.length)*bytes<=140737488355328)(mI:rs.length+r2.length<=9223372036854775807){K:zV->Hp->Prop}
 (hk:∀v' C',aC elem k v' (rs++r2) C'->K v' (A++(C'++B))):App P elem k bytes zero (A++(C++B)) v (.slice xa r2.length xc) K:=by
 obtain⟨z,Ho,CV⟩:=hz;have hnone:∀u∈(rows r2).toList,u.oneCell'=true:=by
  intro u hu;simp only[rows,List.mem_flatten]at hu;obtain⟨r,h2,h3⟩:=hu;exact h1 r h2 u h3
 rcases h with⟨rfl,rfl,rfl⟩|⟨b,ax,rfl,rfl,aL⟩
 ·refine⟨none,0,0,xa,r2.length,xc,#[],rows r2,rfl,rfl,rfl,hx,aS hr,by simp,hnone,λh=>?_,λ_=>⟨by simpa using hb,by simpa using mI,λc4 hn b KW=>?_⟩⟩
  ·have:r2=[]:=xbU zO;subst this;exact hk _ [] (.inl ⟨rfl,rfl,rfl⟩)
  rw[show(#[]:Array zV)++rows r2++Builtin.zeroCells zero.cells (c4-(0+r2.length))=rows ([]++r2++List.replicate (c4-r2.length) z)by rw[Ho,ji z CV];simp only[xaW,xcg,xaU];rw[cm]];refine⟨_,aN.DZ [(b,_)] A B,hk _ [(b,_)] (.inr ⟨b,List.replicate (c4-r2.length) z,?_,rfl,?_⟩)⟩
  ·simp;omega
  intro x hx;rcases xav.1 hx with hx|hx
  ·exact hr x hx
  rw[xbt hx,CV]
 have hsz:=aS aL;have iA:∀x∈rs,x.length=k:=λx hx=>aL x (by simp[hx]);have hold:rows rs=(rows (rs++ax)).extract 0 (0+rs.length*k):=by
  rw[<-cm];apply xch;have:=aS iA;have h2:(rows rs).toList.length=rs.length*k:=by rw[xbD];exact this
  rw[Array.toList_extract,Array.toList_append,List.extract_eq_take_drop,List.drop_zero,xaW,xcN,<-h2,xcR]
 refine⟨some ⟨b,0,none⟩,rs.length,rs.length+ax.length,xa,r2.length,xc,rows rs,rows r2,rfl,rfl,.inr ⟨rfl,_,elem,(0,0),by simp,?_,hold⟩,hx,aS hr,aS iA,hnone,λhfit=>?_,λhgrow=>⟨hb,by omega,λc4 hn b' KW=>?_⟩⟩
 ·rw[hsz];simp only[xan,xaW];exact xba _ zO
 ·obtain⟨j1,j2,rfl,hj⟩:∃j1 j2,ax=j1++j2/\j1.length=r2.length:=⟨ax.take r2.length,ax.drop r2.length,(xbK _ _).symm,by rw[xcd];omega⟩;have HW:∀x∈j1,x.length=k:=λx hx=>aL x (by simp[hx]);refine⟨_,elem,_,rfl,?_,((bW.head _).append B).aB A,hk _ [(b,_)] (.inr ⟨b,j2,?_,?_,?_⟩)⟩
  ·rw[hsz,xan,xan,hj,Nat.add_mul,Nat.add_mul];show 0+rs.length*k+r2.length*k<=_;omega
  ·simp;omega
  ·have e:(⟨b,0,none⟩:Addr).off+rs.length*k=rs.length*k:=by simp
   have l1:=bS rs iA;have l2:=bS j1 HW;have l3:=bS r2 hr;have e2:over (rows (rs++(j1++j2))) (rs.length*k) (rows r2).toList=rows (rs++r2++j2):=by
    unfold rows;rw[xbe,xbe,xde,fN _ _ _ (by rw[xan,xan,l1,l2,l3,hj];omega)];congr 1;rw[xbe,xbe,<-l1,xcR,l3,<-hj,<-l2,xcD,<-xat];simp[xcD]
   rw[e,e2]
  intro x hx;simp only[xat,xav]at hx;rcases hx with hx|hx|hx
  ·exact iA x hx
  ·exact hr x hx
  exact aL x (by simp[hx])
 refine⟨A++([(b',_)]++B),?_,hk _ [(b',_)] (.inr ⟨b',List.replicate (c4-(rs.length+r2.length)) z,?_,rfl,?_⟩)⟩
 ·rw[Ho,ji z CV,cm,cm];exact λg w h=>(aN.GV [[_],A,[_],B] [[_],A,[_],B] ((xaK (l₁:=[_,A]) (l₂:=[_])).append_right [B]|>.trans (.cons _ (.swap _ _ _))) g w h).tail
 ·simp;omega
 intro x hx;rcases xav.1 hx with hx|hx
 ·rcases xav.1 hx with hx|hx
  ·exact iA x hx
  exact hr x hx
 rw[xbt hx,CV]
def aR(T:TypeId)(kd:IntKind)(v:zV)(l:List Int)(C:Hp):Prop:=aC T 1 v (l.map λn=>[Value.int kd n]) C
theorem aR.nil{T:TypeId}{kd:IntKind}:aR T kd (.slice none 0 0) [] []:=aC.nil _ _
theorem aR.cx{T:TypeId}{kd:IntKind}{v:zV}{l:List Int}{C:Hp}(h:aR T kd v l C){K:zV->Prop}(hk:K (.int .i64 l.length)):bp v K:=aC.cx h (by simpa using hk)
theorem aR.ints{T:TypeId}{kd:IntKind}{v:zV}{l:List Int}{C:Hp}(h:aR T kd v l C):eV kd C v l:=Sl.eD h zD
theorem aR.app{T:TypeId}{kd:IntKind}{v:zV}{l:List Int}{C A B:Hp}{bytes:Nat}(h:aR T kd v l C){xb xc:Nat}{x:Int}{xT:TypeId}{fz:Nat×Nat}(hx:(xb,Obj.cells (an kd [x]) xT fz)∈A++(C++B))
 (hb:(l.length+1)*bytes<=140737488355328)(hm:l.length+1<=9223372036854775807){K:zV->Hp->Prop}(hk:∀v' C',aR T kd v' (l++[x]) C'->K v' (A++(C'++B))):App P T 1 bytes (.int kd 0) (A++(C++B)) v (.slice (some ⟨xb,0,none⟩) 1 xc) K:=
 aC.DF (r:=[.int kd x]) h hx rfl (by simp[Value.oneCell']) ⟨[.int kd 0],rfl,rfl⟩ (by simpa using hb) (by simpa using hm) λv' C' ho=>hk v' C' (by unfold aR;simpa using ho)
theorem aR.apps{T:TypeId}{kd:IntKind}{v x:zV}{l l2:List Int}{C A B:Hp}{bytes:Nat}(h:aR T kd v l C)(hx:eV kd (A++(C++B)) x l2)
 (hb:(l.length+l2.length)*bytes<=140737488355328)(hm:l.length+l2.length<=9223372036854775807){K:zV->Hp->Prop}(hk:∀v' C',aR T kd v' (l++l2) C'->K v' (A++(C'++B))):App P T 1 bytes (.int kd 0) (A++(C++B)) v x K:=by
 obtain⟨a,cap,rfl,hc⟩:=Sl.cells hx;exact aC.apps h hc zI (by simp[Value.oneCell']) ⟨[.int kd 0],rfl,rfl⟩ (by simpa using hb) (by simpa using hm) λv' C' ho=>hk v' C' (by unfold aR;rw[xau];exact ho)
theorem aj.Hl{t e:Nat}{kd:IntKind}{x y z:Int}{K:zV->Hp->Prop}(h1:P.underlying t=some (.slice e))(h2:bL P e=some 1)(h3:c8 P e=some (.int kd 0))
 (h:∀b,K (.slice (some ⟨b,0,Option.none⟩) 3 3) ((b,.cells (an kd [x,y,z]) e zZ)::H)):aj P t 3 [(0,.int kd x),(1,.int kd y),(2,.int kd z)] H K:=by
 refine⟨an kd [x,y,z],e,1,_,h1,h2,h3,by decide,?_,λb _=>h b⟩;have e1:Array.range (3*1)=#[0,1,2]:=rfl;simp[Instr.fill,Value.cells,an,e1]
end
end Go.Sx
namespace Go.Sx
open Go
section
variable {P:Program}
theorem rD{e:TypeId}{i:TypeInfo}(hi:P.info? e=some i)(hs:i.size=1):P.cellsOf e=1:=by simp[Program.cellsOf,hi,hs]
theorem jt{e:TypeId}{q:IntKind}(hu:P.underlying e=some (.int q)){l:List Int}{j:Nat}{x:Int}(h:l[j]? =some x)(w:World):(part e (an q l) j).run P w=.ok (.int q x) w:=by
 simp[part,isAgg,run_underlying hu,an,h]
theorem jK{e:TypeId}{q:IntKind}(hu:P.underlying e=some (.int q))(hc:P.cellsOf e=1)(d:Nat)(l l':List Int)(w:World):∀is:zL,(∀i∈is,i<l.length/\i<l'.length)->
  (Op.eqItems (d+1) e (P.cellsOf e) (an q l) (an q l') is).run P w=.ok (is.all λi=>l[i]? ==l'[i]?) w
 | [],_=>by simp[Op.eqItems]
 |i::is,h=>by
  obtain⟨h1,h2⟩:=h i zI;have g1:l[i]? =some l[i]:=xab h1;have g2:l'[i]? =some l'[i]:=xab h2;have p1:=jt (P:=P) hu g1 w;have p2:=jt (P:=P) hu g2 w;have p3:(Op.equalIn (d+1) e (.int q l[i]) (.int q l'[i])).run P w=.ok (l[i]==l'[i]) w:=by
   simp only[Op.equalIn,Sem.run_bind,run_underlying hu,Result.andThen_ok,xaS,Sem.run_pure]
  have ih:=jK hu hc d l l' w is λj hj=>h j (by simp[hj]);simp only[Op.eqItems,hc,xbW,Sem.run_bind,p1,p2,p3,Result.andThen_ok]at ih⊢;rw[List.all_cons,g1,g2];cases hb:(l[i]==l'[i])
  ·simp[hb]
  simp[hb,ih]
theorem vN.array{t e:TypeId}{q:IntKind}{n:Nat}(ht:P.underlying t=some (.array n e))(hu:P.underlying e=some (.int q))(hz:bL P e=some 1)(l l':List Int)(h1:l.length=n)(h2:l'.length=n):
  vN P t (.agg (an q l)) (.agg (an q l')) (decide (l=l')):=by
 obtain⟨i,hi,hs⟩:=aD hz;have hc:=rD hi hs;intro w;show(Op.equalIn (9998+1+1) t _ _).run P w=_;rw[run_equalIn_array w (9998+1) _ _ ht hi,jK hu hc 9998 l l' w _ (λj hj=>by have:=xa8.1 hj;omega)];congr 1;rw[xcH];simp only[xb9,xa8,xaH,xcx];constructor
 ·intro h;apply xbS;intro j;by_cases hj:j<n
  ·exact h j hj
  rw[xaE zO,xaE zO]
 rintro rfl j _;rfl
theorem jf.array{t e:TypeId}{q:IntKind}{n:Nat}(ht:P.underlying t=some (.array n e))(hu:P.underlying e=some (.int q))(hz:bL P e=some 1)(l:List Int)(h1:l.length=n):jf P t (.agg (an q l)):=by
 obtain⟨i,hi,hs⟩:=aD hz;intro b w;have gen:∀d,(Instr.checkKey b (d+1+1) t (.agg (an q l))).run P w=.ok () w:=by
  intro d;have p2:∀x:Int,(Instr.checkKey b (d+1) e (.int q x)).run P w=.ok () w:=λx=>by
   simp only[Instr.checkKey,Sem.run_bind,run_underlying hu,Result.andThen_ok,Sem.run_pure]
  unfold Instr.checkKey;simp only[Sem.run_bind,run_underlying ht,Result.andThen_ok];simp only[Std.Legacy.Range.forIn_eq_forIn_range',Std.Legacy.Range.size,xcN,Nat.add_one_sub_one,Nat.div_one];have key:∀is:zL,(∀j∈is,j<l.length)->(forIn is PUnit.unit λj (_:PUnit)=>(do
     Instr.checkKey b (d+1) e (<-part e (an q l) (j*(<-sizeOf e)))
     pure (ForInStep.yield PUnit.unit):Sem (ForInStep PUnit))).run P w=.ok PUnit.unit w:=by
   intro is;induction is with
   |nil=>intro _;simp
   |cons j is ih=>
    intro h;have p1:=jt (P:=P) hu (xab (h j zI)) w;simp only[xdB,Sem.run_bind,run_sizeOf hi,Result.andThen_ok,hs,xbW,p1,p2,Sem.run_pure];exact ih λk hk=>h k (by simp[hk])
  have:=key (List.range' 0 n) (λj hj=>by have:=List.mem_range'_1.1 hj;omega);rw[this];rfl
 exact gen 9998
end
end Go.Sx
