import Derived.WalkKit
import Derived.Still
import Derived.KernelRfl
import Derived.Deep.Quiet
import Derived.OrdersHeld
import Derived.ProofKit
import Derived.OpenShut
import Derived.Below
import Derived.ChangeKeysEq
import Derived.Laws.StructEq
set_option linter.unusedVariables false
set_option linter.unusedSimpArgs false
set_option linter.unusedSectionVars false
theorem zM{α:Type _}{x:α}{l:List α}(h:x∈l:=by repeat (first|assumption|exact List.Mem.head _|apply List.Mem.tail|apply List.mem_append_right)):x∈l:=h
theorem zS{α:Type _}{A B:List α}(h:∀x∈A,x∈B:=by intro _ h;repeat (first|exact h|apply List.mem_cons_of_mem|apply List.mem_append_right)):∀x∈A,x∈B:=h
theorem zO{p:Prop}(h:p:=by omega):p:=h
theorem zI{p:Prop}(h:p:=by simp):p:=h
theorem zD{p:Prop}(h:p:=by decide):p:=h
theorem zK{p:Prop}(h:p:=by kernel_rfl):p:=h
theorem zP{p:Prop}(h:p:=by simp;omega):p:=h
theorem zC{p:Prop}(h:p:=by intro c h;cases h):p:=h
abbrev zL:=List Nat
abbrev zV:=Go.Value
abbrev zZ:Nat×Nat:=(0,0)
set_option linter.defProp false
def xaa:=@List.mem_append_right
def xab:=@if_neg
def xac:=@List.mem_append_left
def xad:=@List.getElem?_eq_getElem
def xae:=@if_pos
def xaf:=@List.mem_cons
def xag:=@List.getElem?_eq_some_iff
def xah:=@cond_false
def xai:=@List.length_cons
def xaj:=@Array.getD_eq_getD_getElem?
def xak:=@Nat.le_refl
def xal:=@cond_true
def xam:=@Bool.and_eq_true
def xan:=@List.mem_map
def xao:=@Option.some.injEq
def xap:=@Nat.eq_of_beq_eq_true
def xaq:=@List.length_append
def xar:=@Bool.or_eq_false_iff
def xas:=@Bool.false_eq_true
def xat:=@List.not_mem_nil
def xau:=@List.append_assoc
def xav:=@List.length_map
def xaw:=@List.mem_append
def xax:=@Array.getElem?_eq_some_iff
def xay:=@decide_eq_false
def xaz:=@List.map_append
def xaA:=@List.getD_eq_getElem?_getD
def xaB:=@List.getElem?_map
def xaC:=@List.map_cons
def xaD:=@decide_eq_true_eq
def xaE:=@Nat.zero_le
def xaF:=@List.cons_append
def xaG:=@if_false
def xaH:=@List.mem_singleton
def xaI:=@Nat.pow_le_pow_right
def xaJ:=@List.mem_of_getElem?
def xaK:=@List.perm_append_comm
def xaL:=@decide_eq_true
def xaM:=@List.getElem?_eq_none
def xaN:=@List.getElem_mem
def xaO:=@List.drop_eq_nil_of_le
def xaP:=@List.mem_range
def xaQ:=@List.getElem?_append_left
def xaR:=@List.append_nil
def xaS:=@if_true
def xaT:=@List.nodup_cons
def xaU:=@decide_eq_false_iff_not
def xaV:=@Bool.decide_or
def xaW:=@List.drop_eq_getElem_cons
def xaX:=@Classical.byContradiction
def xaY:=@Array.getElem?_setIfInBounds_ne
def xaZ:=@or_false
def xa0:=@List.cons.injEq
def xa1:=@Nat.zero_add
def xa2:=@List.nil_append
def xa3:=@List.count_append
def xa4:=@Nat.testBit_mod_two_pow
def xa5:=@List.length_nil
def xa6:=@Nat.eq_of_testBit_eq
def xa7:=@Nat.mul_le_mul_right
def xa8:=@Nat.shiftRight_eq_div_pow
def xa9:=@Array.getElem?_setIfInBounds_self_of_lt
def xba:=@Option.map_some
def xbb:=@Nat.mod_eq_of_lt
def xbc:=@Array.getElem?_toList
def xbd:=@Option.some.inj
def xbe:=@Nat.succ_mul
def xbf:=@Nat.mul_comm
def xbg:=@Nat.lt_of_le_of_lt
def xbh:=@Array.getElem?_eq_getElem
def xbi:=@List.mem_map_of_mem
def xbj:=@Bool.not_eq_true'
def xbk:=@List.length_singleton
def xbl:=@Option.map_none
def xbm:=@List.getElem?_set_self
def xbn:=@Nat.le_of_ble_eq_true
def xbo:=@List.perm_middle
def xbp:=@Int.natCast_nonneg
def xbq:=@List.eq_of_mem_replicate
def xbr:=@Nat.lt_of_lt_of_le
def xbs:=@Nat.le_trans
def xbt:=@Option.isSome_none
def xbu:=@List.length_drop
def xbv:=@Array.getElem?_setIfInBounds
def xbw:=@List.getElem?_set_ne
def xbx:=@Int.toNat_natCast
def xby:=@Bool.or_eq_true
def xbz:=@List.find?_cons
def xbA:=@List.map_congr_left
def xbB:=@List.flatten_append
def xbC:=@Array.getElem?_eq_none
def xbD:=@Nat.testBit_shiftRight
def xbE:=@List.any_eq_true
def xbF:=@List.drop_length
def xbG:=@Nat.mod_lt
def xbH:=@Nat.testBit_and
def xbI:=@Nat.two_pow_pos
def xbJ:=@List.map_map
def xbK:=@List.count_singleton
def xbL:=@List.nodup_append
def xbM:=@List.ext_getElem?
def xbN:=@List.length_range
def xbO:=@List.eq_nil_of_length_eq_zero
def xbP:=@Array.length_toList
def xbQ:=@Ne.symm
def xbR:=@Nat.le_of_lt
def xbS:=@List.getElem?_append_right
def xbT:=@List.flatten_cons
def xbU:=@Nat.succ_le_of_lt
def xbV:=@of_decide_eq_true
def xbW:=@List.getElem?_set
def xbX:=@List.take_add_one
def xbY:=@Array.toArray_toList
def xbZ:=@List.mem_cons_of_mem
def xb0:=@Nat.mul_one
def xb1:=@congrArg
def xb2:=@List.all_eq_true
def xb3:=@List.take_length
def xb4:=@List.replicate_succ
def xb5:=@List.getElem?_cons_zero
def xb6:=@List.length_eq_zero_iff
def xb7:=@Array.empty_append
def xb8:=@Array.ext'
def xb9:=@List.length_set
def xca:=@List.mem_filter
def xcb:=@List.count_cons
def xcc:=@List.count_pos_iff
def xcd:=@Nat.testBit_lt_two_pow
def xce:=@List.size_toArray
def xcf:=@List.pairwise_map
def xcg:=@Array.getElem?_modify
def xch:=@List.length_replicate
def xci:=@Nat.add_zero
def xcj:=@Nat.sub_self
def xck:=@List.set_append_right
def xcl:=@Nat.pow_succ
def xcm:=@Bool.and_eq_false_iff
def xcn:=@beq_iff_eq
def xco:=@Option.getD_none
def xcp:=@Option.getD_some
def xcq:=@Array.mem_toList_iff
def xcr:=@Bool.true_and
def xcs:=@Nat.mul_assoc
def xct:=@Nat.pow_add
def xcu:=@Array.getElem?_push
def xcv:=@Nat.not_lt_zero
def xcw:=@Nat.min_eq_left
def xcx:=@List.mem_or_eq_of_mem_set
def xcy:=@Bool.eq_iff_iff
def xcz:=@Array.append_empty
def xcA:=@Array.getElem?_replicate
def xcB:=@Nat.lt_or_ge
def xcC:=@List.set_cons_zero
def xcD:=@List.append_of_mem
def xcE:=@Nat.add_comm
def xcF:=@Nat.add_sub_cancel
def xcG:=@Nat.shiftRight_add
def xcH:=@Nat.one_le_two_pow
def xcI:=@List.getElem?_replicate
def xcJ:=@Array.getElem?_setIfInBounds_self
def xcK:=@List.set_eq_take_append_cons_drop
def xcL:=@List.take_of_length_le
def xcM:=@Prod.mk.injEq
def xcN:=@Array.toList_map
def xcO:=@Option.bind_some
def xcP:=@Nat.le_of_not_lt
def xcQ:=@Nat.div_eq_of_lt
def xcR:=@List.nodup_range
def xcS:=@List.drop_append
def xcT:=@decide_eq_decide
def xcU:=@List.Perm.append_left
def xcV:=@List.getElem?_toArray
def xcW:=@List.take_append_drop
def xcX:=@Array.getElem_extract
def xcY:=@Nat.testBit_shiftLeft
def xcZ:=@Classical.choose_spec
def xc0:=@Iff.rfl
def xc1:=@List.length_filter_le
def xc2:=@decide_false
def xc3:=@Nat.sub_zero
def xc4:=@List.getElem?_append
def xc5:=@List.mem_of_mem_take
def xc6:=@Nat.div_lt_of_lt_mul
def xc7:=@Nat.div_add_mod
def xc8:=@Nat.and_two_pow_sub_one_eq_mod
def xc9:=@Nat.sub_le
def xda:=@List.map_set
def xdb:=@List.set_append_left
def xdc:=@List.mem_iff_getElem
def xdd:=@List.drop_append_of_le_length
def xde:=@List.toList_toArray
def xdf:=@List.perm_iff_count
def xdg:=@List.mapM_cons
def xdh:=@List.take_left
def xdi:=@true_and
def xdj:=@Nat.testBit_or
def xdk:=@List.dropLast_concat_getLast
def xdl:=@and_true
def xdm:=@List.count_nil
def xdn:=@List.mem_cons_self
def xdo:=@Nat.testBit_two_pow_sub_one
def xdp:=@List.find?_eq_none
def xdq:=@UInt8.toNat_ofNat'
def xdr:=@Bool.false_or
def xds:=@Nat.lt_trichotomy
def xdt:=@Decidable.not_not
def xdu:=@Array.mem_filter
def xdv:=@List.map_nil
def xdw:=@Nat.zero_mul
def xdx:=@List.length_take
def xdy:=@Nat.le_add_right
def xdz:=@Array.map_empty
def xdA:=@List.forIn_cons
def xdB:=@List.foldl_cons
def xdC:=@List.range_succ
def xdD:=@Bool.decide_and
def xdE:=@UInt8.toNat_inj
def xdF:=@Nat.add_mul
abbrev zX:ByteArray:=ByteArray.mk #[0,1,2,2,3,3,3,3,4,4,4,4,4,4,4,4,5,5,5,5,5,5,5,5,5,5,5,5,5,5,5,5,6,6,6,6,6,6,6,6,6,6,6,6,6,6,6,6,6,6,6,6,6,6,6,6,6,6,6,6,6,6,6,6,7,7,7,7,7,7,7,7,7,7,7,7,7,7,7,7,7,7,7,7,7,7,7,7,7,7,7,7,7,7,7,7,7,7,7,7,7,7,7,7,7,7,7,7,7,7,7,7,7,7,7,7,7,7,7,7,7,7,7,7,7,7,7,7,8,8,8,8,8,8,8,8,8,8,8,8,8,8,8,8,8,8,8,8,8,8,8,8,8,8,8,8,8,8,8,8,8,8,8,8,8,8,8,8,8,8,8,8,8,8,8,8,8,8,8,8,8,8,8,8,8,8,8,8,8,8,8,8,8,8,8,8,8,8,8,8,8,8,8,8,8,8,8,8,8,8,8,8,8,8,8,8,8,8,8,8,8,8,8,8,8,8,8,8,8,8,8,8,8,8,8,8,8,8,8,8,8,8,8,8,8,8,8,8,8,8,8,8,8,8,8,8]
namespace Go.Sx
open Go
abbrev Hp:=List (Nat×Obj)
structure Gh where
 w:World
 fr:Hp
def Gh.add(g:Gh)(F:Hp):Gh:=⟨g.w,F++g.fr⟩
structure Own(g:Gh)(H:Hp)(w:World):Prop where
 os:w.os=g.w.os
 out:w.output=g.w.output
 tape:w.tape=g.w.tape
 nd:((H++g.fr).map Prod.fst).Nodup
 pM:∀x,x∈H++g.fr->w.heap[x.1]? =some x.2
theorem Own.has{g:Gh}{H:Hp}{w:World}(h:Own g H w)(x:Nat×Obj)(hx:x∈H):w.heap[x.1]? =some x.2:=h.pM x (xac _ hx)
theorem Own.perm{g:Gh}{H H':Hp}{w:World}(h:Own g H w)(p:H.Perm H'):Own g H' w:=
 ⟨h.os,h.out,h.tape,((p.append_right _).map _).nodup_iff.1 h.nd,λx hx=>h.pM x ((p.append_right _).mem_iff.2 hx)⟩
theorem Own.right{g:Gh}{A B:Hp}{w:World}(h:Own g (A++B) w):Own g B w:=
 ⟨h.os,h.out,h.tape,by have:=h.nd;rw[xau,xaz]at this;exact(xbL.1 this).2.1,λx hx=>h.pM x (by rw[xau];exact xaa _ hx)⟩
theorem Own.left{g:Gh}{A B:Hp}{w:World}(h:Own g (A++B) w):Own g A w:=Own.right (A:=B) (h.perm xaK)
theorem Own.tail{g:Gh}{x:Nat×Obj}{B:Hp}{w:World}(h:Own g (x::B) w):Own g B w:=Own.right (A:=[x]) h
theorem Own.cL{g:Gh}{A F:Hp}{w:World}:Own g (A++F) w↔Own (g.add F) A w:=by
 constructor
 ·intro h;exact⟨h.os,h.out,h.tape,by have:=h.nd;rw[xau]at this;exact this,λx hx=>h.pM x (by rw[xau];exact hx)⟩
 intro h;exact⟨h.os,h.out,h.tape,by have:=h.nd;rw[xau];exact this,λx hx=>h.pM x (by rw[xau]at hx;exact hx)⟩
def aM(H H':Hp):Prop:=∀g w,Own g H w->Own g H' w
theorem aM.refl(H:Hp):aM H H:=λ_ _ h=>h
theorem aM.trans{A B C:Hp}(h:aM A B)(h':aM B C):aM A C:=λg w x=>h' g w (h g w x)
theorem aM.perm{A B:Hp}(p:A.Perm B):aM A B:=λ_ _ h=>h.perm p
theorem aM.right{A B:Hp}:aM (A++B) B:=λ_ _ h=>h.right
theorem aM.left{A B:Hp}:aM (A++B) A:=λ_ _ h=>h.left
theorem aM.tail{x:Nat×Obj}{B:Hp}:aM (x::B) B:=λ_ _ h=>h.tail
theorem aM.frame{A B:Hp}(h:aM A B)(F:Hp):aM (A++F) (B++F):=λ_ _ o=>Own.cL.2 (h _ _ (Own.cL.1 o))
theorem aM.cA{A B:Hp}(h:aM A B)(F:Hp):aM (F++A) (F++B):=(aM.perm xaK).trans ((h.frame F).trans (.perm xaK))
inductive cm(b:Nat)(o o':Obj):Hp->Hp->Prop
 |head (R:Hp):cm b o o' ((b,o)::R) ((b,o')::R)
 |tail {x:Nat×Obj} {R R':Hp} (h:cm b o o' R R'):cm b o o' (x::R) (x::R')
theorem cm.mem{b:Nat}{o o':Obj}{H H':Hp}(h:cm b o o' H H'):(b,o)∈H:=by
 induction h with
 |head R=>simp
 |tail _ ih=>simp[ih]
theorem cm.keys{b:Nat}{o o':Obj}{H H':Hp}(h:cm b o o' H H'):H'.map Prod.fst=H.map Prod.fst:=by
 induction h with
 |head R=>simp
 |tail _ ih=>simp[ih]
theorem cm.wF{b:Nat}{o o':Obj}{H H':Hp}(h:cm b o o' H H')(nd:(H.map Prod.fst).Nodup):∀x∈H',x=(b,o')\/(x∈H/\x.1≠b):=by
 induction h with
 |head R=>
  intro x hx;rcases xaf.1 hx with rfl|hx
  ·exact .inl rfl
  refine .inr ⟨by simp[hx],λe=>?_⟩;simp only[xaC,xaT]at nd;exact nd.1 (e▸xbi hx)
 | @tail y R R' h ih=>
  intro x hx;simp only[xaC,xaT]at nd;rcases xaf.1 hx with rfl|hx
  ·refine .inr ⟨by simp,λe=>?_⟩;exact nd.1 (e▸xbi (f:=Prod.fst) h.mem)
  rcases ih nd.2 x hx with h1|h1
  ·exact .inl h1
  exact .inr ⟨by simp[h1.1],h1.2⟩
theorem cm.append{b:Nat}{o o':Obj}{C C':Hp}(h:cm b o o' C C')(B:Hp):cm b o o' (C++B) (C'++B):=by
 induction h with
 |head R=>exact .head _
 |tail _ ih=>exact .tail ih
theorem Own.cz{g:Gh}{H H':Hp}{w w':World}{b:Nat}{o o':Obj}(h:Own g H w)(u:cm b o o' H H')
 (hos:w'.os=w.os)(hout:w'.output=w.output)(Au:w'.tape=w.tape)
 (hb:w'.heap[b]? =some o')(hr:∀c,c≠b->w'.heap[c]? =w.heap[c]?):Own g H' w':=
 ⟨hos.trans h.os,hout.trans h.out,Au.trans h.tape,by rw[(u.append g.fr).keys];exact h.nd,λx hx=>by
  rcases(u.append g.fr).wF h.nd x hx with rfl|⟨h1,h2⟩
  ·exact hb
  rw[hr _ h2];exact h.pM x h1⟩
theorem Own.same{g:Gh}{H:Hp}{w w':World}(h:Own g H w)(hos:w'.os=w.os)(hout:w'.output=w.output)(Au:w'.tape=w.tape)
 (hr:∀(c:Nat) (o:Obj),w.heap[c]? =some o->w'.heap[c]? =some o):Own g H w':=
 ⟨hos.trans h.os,hout.trans h.out,Au.trans h.tape,h.nd,λx hx=>hr _ _ (h.pM x hx)⟩
theorem Own.drew{g:Gh}{H:Hp}{w:World}(h:Own g H w):Own g H w.drew:=h.same rfl rfl rfl λ_ _ h=>h
theorem Own.rz{g:Gh}{H:Hp}{w:World}(h:Own g H w):Own g H {w with drawn:=w.drawn+1}:=h.drew
theorem Own.JY{g:Gh}{H:Hp}{w:World}(h:Own g H w){x:Nat×Obj}(hx:x∈H++g.fr):x.1<w.heap.size:=by
 have:=h.pM x hx;exact(xax.1 this).1
theorem Own.lt{g:Gh}{H:Hp}{w:World}(h:Own g H w){x:Nat×Obj}(hx:x∈H):x.1<w.heap.size:=h.JY (xac _ hx)
theorem Own.A4{g:Gh}{H:Hp}{w:World}(h:Own g H w):w.heap.size∉(H++g.fr).map Prod.fst:=by
 intro hm;obtain⟨x,hx,e⟩:=xan.1 hm;have:=h.JY hx;omega
theorem Own.fresh{g:Gh}{H:Hp}{w:World}(h:Own g H w):w.heap.size∉H.map Prod.fst:=λhm=>h.A4 (by rw[xaz];exact xac _ hm)
theorem Own.alloc{g:Gh}{H:Hp}{w:World}(h:Own g H w)(o:Obj):Own g ((w.heap.size,o)::H) (w.alloc o):=by
 refine⟨h.os,h.out,h.tape,?_,?_⟩
 ·rw[xaF,xaC,xaT];exact⟨h.A4,h.nd⟩
 intro x hx;rw[xaF]at hx;rcases xaf.1 hx with rfl|hx
 ·show(w.heap.push o)[w.heap.size]? =some o;rw[xcu,xae rfl]
 have:=h.pM x hx;have hl:=h.JY hx;show(w.heap.push o)[x.1]? =some x.2;rw[xcu,xab zO];exact this
theorem Own.cell{g:Gh}{H:Hp}{w:World}(h:Own g H w){b:Nat}{c:Array zV}{T:TypeId}{fz:Nat×Nat}(hm:(b,Obj.cells c T fz)∈H)(off:Nat):
  w.cell? ⟨b,off,none⟩=c[off]? :=by
 have:=h.has _ hm;simp only[World.cell?];simp only at this;rw[this];rfl
theorem Own.frozen{g:Gh}{H:Hp}{w:World}(h:Own g H w){b:Nat}{c:Array zV}{T:TypeId}(hm:(b,Obj.cells c T zZ)∈H)(off:Nat)(sp:Option Nat):
  w.frozen? ⟨b,off,sp⟩=false:=by
 have:=h.has _ hm;simp only at this;simp[World.frozen?,this]
def over(c:Array zV)(off:Nat):List zV->Array zV
 | []=>c
 |v::r=>over (c.setIfInBounds off v) (off+1) r
theorem Own.setCell{g:Gh}{H:Hp}{w:World}(h:Own g H w){b:Nat}{c:Array zV}{T:TypeId}{fz:Nat×Nat}{H':Hp}(off:Nat)(v:zV)
 (u:cm b (.cells c T fz) (.cells (c.setIfInBounds off v) T fz) H H'):Own g H' (w.setCell ⟨b,off,none⟩ v):=by
 refine h.cz u rfl rfl rfl ?_ ?_
 ·have:=h.has _ u.mem;simp only at this;simp[World.setCell,xcg,this]
 intro d hd;simp only[World.setCell];rw[xcg,xab (λe=>hd (Eq.symm e))]
theorem cm.re{b:Nat}{o o':Obj}{H H':Hp}(u:cm b o o' H H')(o₁:Obj):∃H₁,cm b o o₁ H H₁/\cm b o₁ o' H₁ H':=by
 induction u with
 |head R=>exact⟨_,.head R,.head R⟩
 |tail _ ih=>obtain⟨H₁,u1,u2⟩:=ih;exact⟨_,.tail u1,.tail u2⟩
theorem c4{P:Program}{g:Gh}{b:Nat}{T:TypeId}(off:Nat):∀(l:List zV) (i:Nat) (c:Array zV) (H H':Hp) (w:World),Own g H w->
  cm b (.cells c T zZ) (.cells (over c (off+i) l) T zZ) H H'->(∀v∈l,v.oneCell'=true)->off+i+l.length<=c.size->
  ∃w',(storeCells ⟨b,off,none⟩ l i).run P w=.ok () w'/\Own g H' w'
 | [],i,c,H,H',w,h,u,_,_=>by
  refine⟨w,rfl,?_⟩;exact h.cz u rfl rfl rfl (h.has _ u.mem) λ_ _=>rfl
 |v::r,i,c,H,H',w,h,u,h1,hs=>by
  obtain⟨H₁,u1,u2⟩:=u.re (.cells (c.setIfInBounds (off+i) v) T zZ);have qW:=h.setCell (off+i) v u1;simp only[xai]at hs;obtain⟨w',hr,ho⟩:=c4 (P:=P) off r (i+1) (c.setIfInBounds (off+i) v) H₁ H' _ qW (by simpa[over,Nat.add_assoc]using u2) (λx hx=>h1 x (by simp[hx])) zP;refine⟨w',?_,ho⟩;have hc:w.cell? ⟨b,off+i,none⟩=some c[off+i]:=by
   rw[h.cell u.mem,xbh]
  have hf:=h.frozen u.mem (off+i) none;have ha:Addr.add ⟨b,off,none⟩ i=⟨b,off+i,none⟩:=Addr.add_lit _ _ _;simp only[storeCells,Sem.run_bind,ha,run_store P w _ v .plain (h1 v zI),hc,hf,xas,xaG,Result.andThen_ok,hr]
theorem fe{P:Program}{g:Gh}{H:Hp}{w:World}(h:Own g H w){b:Nat}{c:Array zV}{T:TypeId}{fz:Nat×Nat}(hm:(b,Obj.cells c T fz)∈H)
 (off n:Nat)(hs:off+n<=c.size):(loadCells ⟨b,off,none⟩ n).run P w=.ok (c.extract off (off+n)) w:=by
 have hl:((c.extract off (off+n)).toList).length=n:=by simp;omega
 have:=run_loadCells_list (P:=P) w ⟨b,off,none⟩ (c.extract off (off+n)).toList (λj v hj=>by
  rw[Addr.add_lit,h.cell hm];have Fi:j<n:=by
   have:=(xag.1 hj).1;omega
  rw[xbc,Array.getElem?_extract]at hj;rw[xae zO]at hj;exact hj)
 rw[hl]at this;exact this
end Go.Sx
namespace Go.Sx
open Go
abbrev Fr:=Nat->zV
def cz(fr:Fr)(d:Option Nat)(v:zV):Fr:=
 match d with
 |none=>fr
 |some d=>λs=>cond (Nat.beq s d) v (fr s)
def ev(fr:Fr):Operand->zV
 | .tmp t=>fr t
 | .const v=>v
 | .global g=>.pointer (some ⟨g,0,none⟩)
 | .func f=>.func (.func f) #[] #[]
def cQ(n:Nat):Option Nat->Bool
 |none=>true
 |some d=>Nat.blt d n
structure aY(ds:List Deferred)(n:Nat)(a:Act)(fr:Fr):Prop where
 defers:a.defers=ds
 size:a.tmps.size=n
 get:∀s,a.tmps.getD s undef=fr s
theorem aY.eval{ds:List Deferred}{n:Nat}{a:Act}{fr:Fr}(h:aY ds n a fr):a.eval=ev fr:=by
 funext x
 cases x<;>simp only[Act.eval,ev];exact h.get _
theorem aY.put{ds:List Deferred}{n:Nat}{a:Act}{fr:Fr}(h:aY ds n a fr){d:Option Nat}(hd:cQ n d=true)(v:zV):aY ds n (a.put d v) (cz fr d v):=by
 cases d with
 |none=>exact h
 |some d=>
  have hlt:d<n:=by simpa[cQ,Nat.blt_eq]using hd
  refine⟨h.defers,by simp[Act.put,h.size],λs=>?_⟩;simp only[Act.put,cz];have hs:=h.size;by_cases e:s=d
  ·subst e;simp[hs,hlt]
  have e':d≠s:=λx=>e x.symm;have hb:Nat.beq s d=false:=by
   cases hh:Nat.beq s d
   ·rfl
   exact absurd (xap hh) e
  rw[hb];simp only[xah];have:=h.get s;simpa[xaj,xaY e']using this
def aT(P:Program)(g:Gh)(f:FuncId)(args:Array zV)(H:Hp)(R:Ending->Hp->Prop):Prop:=
 ∀w,Own g H w->Calls P f args w λe w'=>∃H',Own g H' w'/\R e H'
theorem aT.mono{P:Program}{g:Gh}{f:FuncId}{args:Array zV}{H:Hp}{R R':Ending->Hp->Prop}(h:aT P g f args H R)(hr:∀e H',R e H'->R' e H'):
  aT P g f args H R':=λw hw=>(h w hw).mono λe w' ⟨H',o,r⟩=>⟨H',o,hr _ _ r⟩
theorem aT.pre{P:Program}{g:Gh}{f:FuncId}{args:Array zV}{H H':Hp}{R:Ending->Hp->Prop}(h:aT P g f args H' R)(he:aM H H'):
  aT P g f args H R:=λw hw=>h w (he _ _ hw)
theorem aT.post{P:Program}{g:Gh}{f:FuncId}{args:Array zV}{H:Hp}{R R':Ending->Hp->Prop}(h:aT P g f args H R)
 (hr:∀e H',R e H'->∃dY,aM H' dY/\R' e dY):aT P g f args H R':=λw hw=>(h w hw).mono λe w' ⟨H',o,r⟩=>
 let ⟨dY,en,r'⟩:=hr _ _ r;⟨dY,en _ _ o,r'⟩
def IG(K:zV->Hp->Prop)(KP:List PanicEntry->Hp->Prop):Ending->Hp->Prop
 | .returned v,H=>K v H
 | .panicked ch,H=>KP ch H
 | .outgrown,_=>False
def rX(P:Program)(g:Gh)(K:zV->Hp->Prop)(KP:List PanicEntry->Hp->Prop):Result Next->Prop
 | .ok (.value v) w=>∃H,Own g H w/\K v H
 | .ok .skip w=>∃H,Own g H w/\K undef H
 | .ok (.enter f args) w=>Calls P f args w λe w'=>∃H,Own g H w'/\IG K KP e H
 | .halt (.panic v) w=>∃H,Own g H w/\KP [{v,recovered:=false}] H
 |_=>False
def dX(P:Program)(g:Gh)(o:Oper)(ρ:Operand->zV)(H:Hp)(K:zV->Hp->Prop)(KP:List PanicEntry->Hp->Prop):Prop:=
 ∀w,Own g H w->rX P g K KP ((execOp ρ o).run P w)
def sY(H:Hp)(o:Obj)(k:Nat->Hp->Prop):Prop:=∀b,b∉H.map Prod.fst->k b ((b,o)::H)
def bX(c a b:zV)(k:zV->Prop):Prop:=∃t,c=.bool t/\k (cond t a b)
def Ld(H:Hp)(p:zV)(k:zV->Prop):Prop:=
 ∃b off c T fz v,p=.pointer (some ⟨b,off,none⟩)/\(b,Obj.cells c T fz)∈H/\c[off]? =some v/\k v
def az(n:Nat)(H:Hp)(p:zV)(k:zV->Prop):Prop:=
 ∃b off c T fz,p=.pointer (some ⟨b,off,none⟩)/\(b,Obj.cells c T fz)∈H/\off+n<=c.size/\k (.agg (c.extract off (off+n)))
def St(n:Nat)(H:Hp)(p x:zV)(k:Hp->Prop):Prop:=
 ∃b off c T H',p=.pointer (some ⟨b,off,none⟩)/\x.cells.size=n/\off+n<=c.size/\(∀v∈x.cells.toList,v.oneCell'=true)/\
  cm b (.cells c T zZ) (.cells (over c off x.cells.toList) T zZ) H H'/\k H'
inductive BK|num|bool|ptr|slice|map|func|str|other
def pZ:TypeDesc->BK
 | .bool=>.bool
 | .int _=>.num
 | .pointer _=>.ptr
 | .slice _=>.slice
 | .map _ _=>.map
 | .func _ _ _=>.func
 | .string=>.str
 |_=>.other
def iq(op:BinOp)(k:IntKind)(a b:Int):Option zV:=
 match op with
 | .add=>some (.int k (k.wrap (a+b)))
 | .sub=>some (.int k (k.wrap (a-b)))
 | .mul=>some (.int k (k.wrap (a*b)))
 | .quo=>if b=0 then none else some (.int k (k.wrap (a.tdiv b)))
 | .rem=>if b=0 then none else some (.int k (a.tmod b))
 | .and=>some (.int k (bits .and k a b))
 | .or=>some (.int k (bits .or k a b))
 | .xor=>some (.int k (bits .xor k a b))
 | .andNot=>some (.int k (bits .andNot k a b))
 | .eql=>some (.bool (a==b))
 | .neq=>some (.bool (a !=b))
 | .lss=>some (.bool (decide (a<b)))
 | .leq=>some (.bool (decide (a<=b)))
 | .gtr=>some (.bool (decide (b<a)))
 | .geq=>some (.bool (decide (b<=a)))
 |_=>none
def eV(kd:BK)(op:BinOp)(x y:zV):Option zV:=
 match x with
 | .int k a=>
  match y with
  | .int k' b=>
   match op with
   | .shl=>if b<0 then none else some (.int k (k.wrap (a*2^(min b.toNat k.bits))))
   | .shr=>if b<0 then none else some (.int k (a.fdiv (2^(min b.toNat k.bits))))
   |op=>if k=k' then iq op k a b else none
  |_=>none
 | .bool a=>
  match kd,op,y with
  | .bool,.eql,.bool b=>some (.bool (a==b))
  | .bool,.neq,.bool b=>some (.bool (!(a==b)))
  |_,_,_=>none
 | .string a=>
  match op,y with
  | .eql,.string b=>some (.bool (a.toList==b.toList))
  | .neq,.string b=>some (.bool (!(a.toList==b.toList)))
  | .add,.string b=>if a.size+b.size<=9223372036854775807 then some (.string (a++b))else none
  |_,_=>none
 | .pointer a=>
  match kd,op,y with
  | .ptr,.eql,.pointer b=>if a.isNone\/b.isNone then some (.bool (a.isNone&&b.isNone))else none
  | .ptr,.neq,.pointer b=>if a.isNone\/b.isNone then some (.bool (!(a.isNone&&b.isNone)))else none
  |_,_,_=>none
 | .slice a n c=>
  match kd,op,y with
  | .slice,.eql,.slice b _ _=>if a.isNone\/b.isNone then some (.bool (a.isNone&&b.isNone))else none
  | .slice,.neq,.slice b _ _=>if a.isNone\/b.isNone then some (.bool (!(a.isNone&&b.isNone)))else none
  |_,_,_=>none
 | .map a=>
  match kd,op,y with
  | .map,.eql,.map b=>if a.isNone\/b.isNone then some (.bool (a.isNone&&b.isNone))else none
  | .map,.neq,.map b=>if a.isNone\/b.isNone then some (.bool (!(a.isNone&&b.isNone)))else none
  |_,_,_=>none
 |_=>none
def ae(kd:BK)(op:BinOp)(x y:zV)(k:zV->Prop):Prop:=∃v,eV kd op x y=some v/\k v
def LS(op:UnOp)(x:zV):Option zV:=
 match op,x with
 | .neg,.int k n=>some (.int k (k.wrap (0-n)))
 | .not,.bool b=>some (.bool !b)
 | .xor,.int k n=>some (.int k (bits .xor k (if k.signed then-1 else k.max) n))
 |_,_=>none
def Un(op:UnOp)(x:zV)(k:zV->Prop):Prop:=∃v,LS op x=some v/\k v
def bj(kd:IntKind)(x:zV)(k:zV->Prop):Prop:=∃j n,x=.int j n/\k (.int kd (kd.wrap n))
def ag(off:Nat)(x:zV)(k:zV->Prop):Prop:=∃b o,x=.pointer (some ⟨b,o,none⟩)/\k (.pointer (some ⟨b,o+off,none⟩))
def qf(off:Nat)(x:zV)(k:zV->Prop):Prop:=∃cs v,x=.agg cs/\cs[off]? =some v/\k v
def DN(off n:Nat)(x:zV)(k:zV->Prop):Prop:=∃cs,x=.agg cs/\k (.agg (cs.extract off (off+n)))
def ai(size:Nat)(x ix:zV)(k:zV->Prop):Prop:=
 ∃b o n c kd i,x=.slice (some ⟨b,o,none⟩) n c/\ix=.int kd i/\0<=i/\i<(n:Int)/\k (.pointer (some ⟨b,o+i.toNat*size,none⟩))
def di(len size:Nat)(x ix:zV)(k:zV->Prop):Prop:=
 ∃b o kd i,x=.pointer (some ⟨b,o,none⟩)/\ix=.int kd i/\0<=i/\i<(len:Int)/\k (.pointer (some ⟨b,o+i.toNat*size,none⟩))
def CX:Option zV->Option Int
 |none=>some 0
 |some (.int _ n)=>some n
 |_=>none
def wX(len:Nat):Option zV->Option Int
 |none=>some len
 |some (.int _ n)=>some n
 |_=>none
def cF(size:Nat)(x:zV)(lo hi:Option zV)(k:zV->Prop):Prop:=
 ∃a n c l h,x=.slice a n c/\CX lo=some l/\wX n hi=some h/\0<=l/\l<=h/\h<=(c:Int)/\
  k (.slice (if c=l.toNat then a else a.map (·.add (l.toNat*size))) (h.toNat-l.toNat) (c-l.toNat))
def Ext(i:Nat)(x:zV)(k:zV->Prop):Prop:=∃vs v,x=.tuple vs/\vs[i]? =some v/\k v
def bY(x:zV)(k:zV->Prop):Prop:=∃a n c,x=.slice a n c/\k (.int .i64 n)
def xN(H:Hp)(x:zV)(k:zV->Prop):Prop:=
 ∃m,x=.map m/\((m=none/\k (.int .i64 0))\/∃b es clock,m=some b/\(b,Obj.map es clock)∈H/\k (.int .i64 es.size))
def Cells(H:Hp)(base:Option Addr)(n:Nat)(cs:Array zV):Prop:=
 match base with
 |none=>cs=#[]
 |some a=>(n=0/\cs=#[])\/(a.spot=none/\∃c T fz,(a.block,Obj.cells c T fz)∈H/\a.off+n<=c.size/\cs=c.extract a.off (a.off+n))
def App(P:Program)(elem size bytes:Nat)(zero:zV)(H:Hp)(s x:zV)(k:zV->Hp->Prop):Prop:=
 ∃base n cap xb m xc olds news,s=.slice base n cap/\x=.slice xb m xc/\Cells H base (n*size) olds/\Cells H xb (m*size) news/\
  news.size=m*size/\olds.size=n*size/\(∀v∈news.toList,v.oneCell'=true)/\
  (n+m<=cap->match base with
   |none=>k (.slice none (n+m) cap) H
   |some a=>∃c T H',a.spot=none/\a.off+n*size+m*size<=c.size/\cm a.block (.cells c T zZ) (.cells (over c (a.off+n*size) news.toList) T zZ) H H'/\k (.slice (some a) (n+m) cap) H')/\
  (cap<n+m->(n+m)*bytes<=140737488355328/\(n+m:Nat)<=9223372036854775807/\∀c5,n+m<=c5->
   sY H (.cells (olds++news++Builtin.zeroCells zero.cells (c5-(n+m))) elem zZ) λb H'=>∃dY,aM H' dY/\k (.slice (some ⟨b,0,none⟩) (n+m) c5) dY)
def dJ(elem size bytes:Nat)(zero:zV)(H:Hp)(l c:zV)(k:zV->Hp->Prop):Prop:=
 ∃kl kc ln cn,l=.int kl (ln:Nat)/\c=.int kc (cn:Nat)/\ln<=cn/\(cn:Int)<=9223372036854775807/\cn*bytes<=281474976710656/\
  sY H (.cells (madeCells zero.cells (cn*size)) elem zZ) λb H'=>k (.slice (some ⟨b,0,none⟩) ln cn) H'
def nu(H:Hp)(k:zV->Hp->Prop):Prop:=sY H (.map #[] 0) λb H'=>k (.map (some b)) H'
def vW(H:Hp)(m:zV)(es:Array MapEntry):Prop:=(m=.map none/\es=#[])\/∃b clock,m=.map (some b)/\(b,Obj.map es clock)∈H
def gp(kd:TypeDesc)(zero:zV)(ok:Bool)(H:Hp)(m key:zV)(k:zV->Prop):Prop:=
 ∃es r,vW H m es/\Instr.findNow kd key es.toList 0=some r/\
  k (match r with
   |some (_,v)=>cond ok (.tuple #[v,.bool true]) v
   |none=>cond ok (.tuple #[zero,.bool false]) zero)
def fm(kd:TypeDesc)(H:Hp)(m key val:zV)(k:Hp->Prop):Prop:=
 ∃b es clock r,m=.map (some b)/\Instr.findNow kd key es.toList 0=some r/\
  match r with
  |some (i,_)=>(∀e,es[i]? =some e->Instr.sameBits 10000 e.key key=true)/\i<es.size/\∃H',cm b (.map es clock) (.map (es.modify i λe=>{e with key,val}) clock) H H'/\k H'
  |none=>∃H',cm b (.map es clock) (.map (es.push {key,val,born:=clock}) (clock+1)) H H'/\k H'
def s4(kd:TypeDesc)(H:Hp)(m key:zV)(k:Hp->Prop):Prop:=
 (m=.map none/\k H)\/∃b es clock r,m=.map (some b)/\Instr.findNow kd key es.toList 0=some r/\
  match r with
  |some (i,_)=>∃H',cm b (.map es clock) (.map (es.eraseIdxIfInBounds i) clock) H H'/\k H'
  |none=>(b,Obj.map es clock)∈H/\k H
def bE(P:Program)(f:FuncId):Bool:=
 match P.funcs[f]? with
 |none=>false
 |some fn=> !(fn.name== "runtime.NumGoroutine") &&fn.body.isSome
def aa(P:Program)(g:Gh)(f:FuncId)(args:Array zV)(H:Hp)(K:zV->Hp->Prop)(KP:List PanicEntry->Hp->Prop):Prop:=
 aT P g f args H (IG K KP)
def bp(P:Program)(g:Gh)(fv:zV)(args:Array zV)(H:Hp)(K:zV->Hp->Prop)(KP:List PanicEntry->Hp->Prop):Prop:=
 ∃f first captured,fv=.func (.func f) first captured/\bE P f=true/\aa P g f (first++args++captured) H K KP
def vY(P:Program)(kt:TypeId)(x y:zV)(b:Bool):Prop:=∀w,(Op.equal kt x y).run P w=.ok b w
def jl(P:Program)(kt:TypeId)(x:zV):Prop:=∀e w,(Instr.checkKey e 10000 kt x).run P w=.ok () w
def gy(P:Program)(kt:TypeId)(key:zV):List MapEntry->Nat->Option (Nat×zV)->Prop
 | [],_,r=>r=none
 |e::es,i,r=>∃b,vY P kt key e.key b/\(b=true->r=some (i,e.val))/\(b=false->gy P kt key es (i+1) r)
def gx(P:Program)(kt:TypeId)(zero:zV)(ok:Bool)(H:Hp)(m key:zV)(k:zV->Prop):Prop:=
 ∃es r,vW H m es/\jl P kt key/\gy P kt key es.toList 0 r/\
  k (match r with
   |some (_,v)=>cond ok (.tuple #[v,.bool true]) v
   |none=>cond ok (.tuple #[zero,.bool false]) zero)
def gm(P:Program)(kt:TypeId)(H:Hp)(m key val:zV)(k:Hp->Prop):Prop:=
 ∃b es clock r,m=.map (some b)/\jl P kt key/\gy P kt key es.toList 0 r/\
  match r with
  |some (i,_)=>(∀e,es[i]? =some e->Instr.sameBits 10000 e.key key=true)/\i<es.size/\∃H',cm b (.map es clock) (.map (es.modify i λe=>{e with key,val}) clock) H H'/\k H'
  |none=>∃H',cm b (.map es clock) (.map (es.push {key,val,born:=clock}) (clock+1)) H H'/\k H'
def jT(P:Program)(kt:TypeId)(H:Hp)(m key:zV)(k:Hp->Prop):Prop:=
 jl P kt key/\((m=.map none/\k H)\/∃b es clock r,m=.map (some b)/\gy P kt key es.toList 0 r/\
  match r with
  |some (i,_)=>∃H',cm b (.map es clock) (.map (es.eraseIdxIfInBounds i) clock) H H'/\k H'
  |none=>(b,Obj.map es clock)∈H/\k H)
def Lx(H:Hp)(x:zV)(k:zV->Hp->Prop):Prop:=
 (x=.map none/\sY H (.mapIter none 0 #[] 0) λb H'=>k (.pointer (some ⟨b,0,none⟩)) H')\/
 ∃m es clock,x=.map (some m)/\(m,Obj.map es clock)∈H/\sY H (.mapIter (some m) clock #[] clock) λb H'=>k (.pointer (some ⟨b,0,none⟩)) H'
def Lz(H:Hp)(it:zV)(k:zV->Hp->Prop):Prop:=
 ∃b mo since seen last,it=.pointer (some ⟨b,0,none⟩)/\(b,Obj.mapIter mo since seen last)∈H/\
  match mo with
  |none=>k (.tuple #[.bool false]) H
  |some m=>∃es clock,(m,Obj.map es clock)∈H/\(∀e∈es.toList,e.born<since/\e.born<last)/\
   (∀e∈es.toList,e.born∉seen->∃H',cm b (.mapIter (some m) since seen last) (.mapIter (some m) since (seen.push e.born) clock) H H'/\k (.tuple #[.bool true,e.key,e.val]) H')/\
   ((∀e∈es.toList,e.born∈seen)->k (.tuple #[.bool false]) H)
def FY(H:Hp)(it:zV)(k:zV->Prop):Prop:=
 ∃b m since seen stamp clock es e,it=.pointer (some ⟨b,0,none⟩)/\(b,Obj.mapIter (some m) since seen clock)∈H/\seen.back?=some stamp/\(m,Obj.map es clock)∈H/\es.find? (·.born==stamp)=some e/\k (.tuple #[e.key,e.val])
def LC(x y:zV)(k:zV->Prop):Prop:=∃kd a b,x=.int kd a/\y=.int kd b/\k (.int kd (if b>a then b else a))
def xM(x y:zV)(k:zV->Prop):Prop:=∃kd a b,x=.int kd a/\y=.int kd b/\k (.int kd (if b<a then b else a))
def dH(H:Hp)(x:zV)(k:zV->Prop):Prop:=
 ∃base n c,∃bs:List UInt8,x=.slice base n c/\Cells H base n ((bs.map λb=>Value.int .u8 b.toNat).toArray)/\bs.length=n/\k (.string ⟨bs.toArray⟩)
def aV(x i:zV)(k:zV->Prop):Prop:=∃s kd j b,x=.string s/\i=.int kd j/\0<=j/\s[j.toNat]? =some b/\k (.int .u8 b.toNat)
def aA(x:zV)(k:zV->Prop):Prop:=∃s,x=.string s/\k (.int .i64 s.size)
def plainKey:TypeDesc->Bool
 | .int _| .string| .bool=>true
 |_=>false
def bJ:TypeDesc->Bool
 | .struct _| .array _ _=>true
 |_=>false
end Go.Sx
namespace Go.Sx
open Go
section
variable {P:Program} {g:Gh} {H:Hp} {K:zV->Hp->Prop} {KP:List PanicEntry->Hp->Prop}
theorem cK{t:TypeId}{i:TypeInfo}{z:zV}(hi:P.info? t=some i)(hz:i.zero=some z)(w:World):(zeroValue t).run P w=.ok z w:=by
 simp[zeroValue,typeInfo,hi,hz]
theorem g9{t:TypeId}{d:TypeDesc}(hd:P.underlying t=some d)(w:World):(isAgg t).run P w=.ok (bJ d) w:=by
 simp only[isAgg,Sem.run_bind,run_underlying hd,Result.andThen_ok];cases d<;>rfl
theorem run_sizeOf{t:TypeId}{i:TypeInfo}(hi:P.info? t=some i)(w:World):(sizeOf t).run P w=.ok i.size w:=by
 simp[sizeOf,typeInfo,hi]
theorem Ld.run{p:zV}{k:zV->Prop}(h:Ld H p k){w:World}(hw:Own g H w){t:TypeId}{d:TypeDesc}(hd:P.underlying t=some d)(ha:bJ d=false):
  ∃v,(Instr.loadAt t p).run P w=.ok v w/\k v:=by
 obtain⟨b,off,c,T,fz,v,rfl,hm,hc,hk⟩:=h;refine⟨v,?_,hk⟩;have:=hw.cell hm off;rw[hc]at this;simp only[Instr.loadAt,Instr.sureAddr,loadVar,Sem.run_bind,Sem.run_pure,Result.andThen_ok,g9 hd,ha,Sem.run_ite,xas,xaG,run_load,this]
theorem az.run{n:Nat}{p:zV}{k:zV->Prop}(h:az n H p k){w:World}(hw:Own g H w){t:TypeId}{d:TypeDesc}(hd:P.underlying t=some d)(ha:bJ d=true)
 {i:TypeInfo}(hi:P.info? t=some i)(hn:i.size=n):
  ∃v,(Instr.loadAt t p).run P w=.ok v w/\k v:=by
 obtain⟨b,off,c,T,fz,rfl,hm,hs,hk⟩:=h;refine⟨_,?_,hk⟩;simp only[Instr.loadAt,Instr.sureAddr,loadVar,Sem.run_bind,Sem.run_pure,Result.andThen_ok,g9 hd,ha,Sem.run_ite,xaS,run_sizeOf hi,hn,fe hw hm off n hs]
theorem St.run{n:Nat}{p x:zV}{k:Hp->Prop}(h:St n H p x k){w:World}(hw:Own g H w){t:TypeId}{i:TypeInfo}(hi:P.info? t=some i)(hn:i.size=n):
  ∃w' H',(Instr.storeAt t p x).run P w=.ok () w'/\Own g H' w'/\k H':=by
 obtain⟨b,off,c,T,H',rfl,hx,hs,hv,hu,hk⟩:=h;obtain⟨w',hr,ho⟩:=c4 (P:=P) off x.cells.toList 0 c H H' w hw (by simpa using hu) hv zP;refine⟨w',H',?_,ho,hk⟩;simp only[Instr.storeAt,Instr.sureAddr,storeVar,Sem.run_bind,Sem.run_pure,Result.andThen_ok,run_sizeOf hi,hn,hx,ne_eq,not_true,xaG,hr]
theorem Aj{op:BinOp}{k:IntKind}{a b:Int}{v:zV}{t:TypeId}(h:iq op k a b=some v)(w:World)(hs:op≠.shl/\op≠.shr):
  (binOp op t (.int k a) (.int k b)).run P w=.ok v w:=by
 cases op<;>simp[iq]at h hs<;>try subst h
 case quo=> 
  obtain⟨h0,rfl⟩:=h;simp[binOp,Op.intDiv,h0]
 case rem=>
  obtain⟨h0,rfl⟩:=h;simp[binOp,Op.intDiv,h0]
 all_goals first
  |simp[binOp,Op.intArith];done
  |simp[binOp,Op.intCmp];done
  |(simp only[binOp_and,binOp_or,binOp_xor,binOp_andNot,intBits_and,intBits_or,intBits_xor,intBits_andNot];rfl)
theorem eo{t:TypeId}{x y:zV}{r:Result Bool}{w:World}(h:∀d,(Op.equalIn (d+1) t x y).run P w=r):(Op.equal t x y).run P w=r:=h 9999
theorem run_eql_bool{t:TypeId}(hd:P.underlying t=some .bool)(a b:Bool)(w:World):(Op.equal t (.bool a) (.bool b)).run P w=.ok (a==b) w:=
 eo λd=>by simp[Op.equalIn,run_underlying hd]
theorem qu{t e:TypeId}(hd:P.underlying t=some (.pointer e))(a b:Option Addr)(hab:a.isNone\/b.isNone)(w:World):(Op.equal t (.pointer a) (.pointer b)).run P w=.ok (a.isNone&&b.isNone) w:=
 eo λd=>by cases a<;>cases b<;>simp at hab<;>simp[Op.equalIn,run_underlying hd]
theorem nR{t e:TypeId}(hd:P.underlying t=some (.slice e))(a b:Option Addr)(n c n' c':Nat)(hab:a.isNone\/b.isNone)(w:World):(Op.equal t (.slice a n c) (.slice b n' c')).run P w=.ok (a.isNone&&b.isNone) w:=
 eo λd=>by cases a<;>cases b<;>simp at hab<;>simp[Op.equalIn,run_underlying hd]
theorem qv{t e f:TypeId}(hd:P.underlying t=some (.map e f))(a b:Option Nat)(hab:a.isNone\/b.isNone)(w:World):(Op.equal t (.map a) (.map b)).run P w=.ok (a.isNone&&b.isNone) w:=
 eo λd=>by cases a<;>cases b<;>simp at hab<;>simp[Op.equalIn,run_underlying hd]
theorem BJ{kd:BK}{op:BinOp}{x y v:zV}{t:TypeId}{d:TypeDesc}(hd:P.underlying t=some d)(hk:pZ d=kd)(h:eV kd op x y=some v)(w:World):
  (binOp op t x y).run P w=.ok v w:=by
 cases x<;>simp only[eV]at h<;>try (simp at h;done)
 case int k a=>
  cases y<;>simp only at h<;>try (simp at h;done)
  rename_i k' b;by_cases hs:op=.shl
  ·subst hs;simp only at h;split at h
   ·simp at h
   simp only[xao]at h;subst h;rename_i hb;simp[binOp,Op.shift,hb]
  by_cases hs':op=.shr
  ·subst hs';simp only at h;split at h
   ·simp at h
   simp only[xao]at h;subst h;rename_i hb;simp[binOp,Op.shift,hb]
  have h2:(if k=k' then iq op k a b else none)=some v:=by
   cases op<;>first|exact h|exact absurd rfl hs|exact absurd rfl hs'
  split at h2
  ·rename_i e;subst e;exact Aj h2 w ⟨hs,hs'⟩
  simp at h2
 case bool a=>
  split at h<;>simp only[xao,reduceCtorEq]at h;all_goals
   subst h;have:d=.bool:=by cases d<;>simp_all[pZ]
   subst this;simp[binOp,run_eql_bool hd]
 case string a=>
  split at h
  ·simp only[xao]at h;subst h;first|rfl|(simp only[binOp,Op.stringOp];rfl)
  ·simp only[xao]at h;subst h;first|rfl|(simp only[binOp,Op.stringOp];rfl)
  ·split at h<;>simp only[xao,reduceCtorEq]at h;subst h;rename_i b hb;have:¬(((a.size+b.size:Nat):Int)>IntKind.i64.max):=by
    have:IntKind.i64.max=9223372036854775807:=rfl;omega
   simp only[binOp,Op.stringOp,xab this];rfl
  simp at h
 case pointer a=>
  split at h<;>try (simp at h;done)
  all_goals
   have:∃e,d=.pointer e:=by cases d<;>simp_all[pZ]
   obtain⟨e,rfl⟩:=this;split at h<;>simp only[xao,reduceCtorEq]at h;subst h;rename_i bb hab;simp[binOp,qu hd _ _ hab]
 case slice a n c=>
  split at h<;>try (simp at h;done)
  all_goals
   have:∃e,d=.slice e:=by cases d<;>simp_all[pZ]
   obtain⟨e,rfl⟩:=this;split at h<;>simp only[xao,reduceCtorEq]at h;subst h;rename_i bb _ _ hab;simp[binOp,nR hd _ _ _ _ _ _ hab]
 case map a=>
  split at h<;>try (simp at h;done)
  all_goals
   have:∃e f,d=.map e f:=by cases d<;>simp_all[pZ]
   obtain⟨e,f,rfl⟩:=this;split at h<;>simp only[xao,reduceCtorEq]at h;subst h;rename_i bb hab;simp[binOp,qv hd _ _ hab]
theorem sP{kd:BK}{op:BinOp}{x y v:zV}{t:TypeId}{ox oy:Operand}(h:eV kd op x y=some v):eqGuard op t ox oy x y=pure ():=by
 cases x<;>simp[eV]at h<;>cases op<;>rfl
theorem ae.run{kd:BK}{op:BinOp}{x y:zV}{k:zV->Prop}(h:ae kd op x y k)(w:World){t:TypeId}{d:TypeDesc}{ox oy:Operand}(hd:P.underlying t=some d)(hk:pZ d=kd):
  ∃v,(do eqGuard op t ox oy x y;binOp op t x y:Sem zV).run P w=.ok v w/\k v:=by
 obtain⟨v,hv,hkv⟩:=h;refine⟨v,?_,hkv⟩;rw[Sem.run_bind,sP hv];simp only[Sem.run_pure,Result.andThen_ok];exact BJ hd hk hv w
theorem Un.run{op:UnOp}{x:zV}{k:zV->Prop}(h:Un op x k)(w:World):∃v,(Op.unary op x).run P w=.ok v w/\k v:=by
 obtain⟨v,hv,hk⟩:=h;refine⟨v,?_,hk⟩;cases op<;>cases x<;>simp[LS]at hv<;>subst hv;all_goals first|(simp[Op.unary,Op.intArith];done)|rfl
theorem bj.run{kd:IntKind}{x:zV}{k:zV->Prop}(h:bj kd x k)(w:World){src dst:TypeId}{ds dd:TypeDesc}(hs:P.underlying src=some ds)(hd:P.underlying dst=some dd)(hk:dd=.int kd):
  ∃v,(convert src dst x).run P w=.ok v w/\k v:=by
 obtain⟨j,n,rfl,hkv⟩:=h;subst hk;refine⟨_,?_,hkv⟩;simp only[convert,Sem.run_bind,run_underlying hs,run_underlying hd,Result.andThen_ok];cases ds<;>rfl
theorem ag.run{off:Nat}{x:zV}{k:zV->Prop}(h:ag off x k)(w:World){s:TypeId}{fs:Array Field}{f:Nat}{fl:Field}{i:TypeInfo}(hs:P.underlying s=some (.struct fs))(hf:fs[f]? =some fl)
 (hi:P.info? fl.type=some i)(h0:i.size≠0)(ho:fl.offset=off):∃v,(Instr.fieldAt s x f).run P w=.ok v w/\k v:=by
 obtain⟨b,o,rfl,hk⟩:=h;refine⟨_,?_,hk⟩;subst ho;simp[Instr.fieldAt,run_underlying hs,hf,Instr.sureAddr,fieldPlace,run_sizeOf hi,h0,Addr.add_lit]
theorem qf.run{off:Nat}{x:zV}{k:zV->Prop}(h:qf off x k)(w:World){s:TypeId}{fs:Array Field}{f:Nat}{fl:Field}{d:TypeDesc}(hs:P.underlying s=some (.struct fs))(hf:fs[f]? =some fl)
 (hd:P.underlying fl.type=some d)(ha:bJ d=false)(ho:fl.offset=off):∃v,(Instr.field s x f).run P w=.ok v w/\k v:=by
 obtain⟨cs,v,rfl,hc,hk⟩:=h;refine⟨v,?_,hk⟩;subst ho;simp[Instr.field,run_underlying hs,hf,asAgg,part,g9 hd,ha,hc]
theorem DN.run{off n:Nat}{x:zV}{k:zV->Prop}(h:DN off n x k)(w:World){s:TypeId}{fs:Array Field}{f:Nat}{fl:Field}{d:TypeDesc}{i:TypeInfo}(hs:P.underlying s=some (.struct fs))(hf:fs[f]? =some fl)
 (hd:P.underlying fl.type=some d)(ha:bJ d=true)(hi:P.info? fl.type=some i)(hn:i.size=n)(ho:fl.offset=off):∃v,(Instr.field s x f).run P w=.ok v w/\k v:=by
 obtain⟨cs,rfl,hk⟩:=h;refine⟨_,?_,hk⟩;subst ho;subst hn;simp[Instr.field,run_underlying hs,hf,asAgg,part,g9 hd,ha,run_sizeOf hi]
theorem ai.run{size:Nat}{x ix:zV}{k:zV->Prop}(h:ai size x ix k)(w:World){t e:TypeId}{i:TypeInfo}(ht:P.underlying t=some (.slice e))(hi:P.info? e=some i)(hn:i.size=size):
  ∃v,(Instr.indexAt t x ix).run P w=.ok v w/\k v:=by
 obtain⟨b,o,n,c,kd,j,rfl,rfl,h0,h1,hk⟩:=h;refine⟨_,?_,hk⟩;subst hn;simp[Instr.indexAt,run_underlying ht,asIntOf,h0,h1,run_sizeOf hi,Addr.add_lit]
theorem di.run{len size:Nat}{x ix:zV}{k:zV->Prop}(h:di len size x ix k)(w:World){t e:TypeId}{i:TypeInfo}(ht:P.underlying t=some (.array len e))(hi:P.info? e=some i)(hn:i.size=size):
  ∃v,(Instr.indexAt t x ix).run P w=.ok v w/\k v:=by
 obtain⟨b,o,kd,j,rfl,rfl,h0,h1,hk⟩:=h;refine⟨_,?_,hk⟩;subst hn;simp[Instr.indexAt,run_underlying ht,asIntOf,h0,h1,run_sizeOf hi,Addr.add_lit,Instr.sureAddr]
theorem cF.run{size:Nat}{x:zV}{lo hi:Option zV}{k:zV->Prop}(h:cF size x lo hi k)(w:World){t e:TypeId}{i:TypeInfo}(ht:P.underlying t=some (.slice e))(hi':P.info? e=some i)(hn:i.size=size):
  ∃v,(Instr.sliceAt t x lo hi none).run P w=.ok v w/\k v:=by
 obtain⟨a,n,c,l,hh,rfl,hl,jX,h0,h1,h2,hk⟩:=h;refine⟨_,?_,hk⟩;subst hn;have bl:∀(kk:IntKind) (z:Int) (y:Nat) (cd:BoundsCode),0<=z->z<=y->(Instr.sliceBound (.int kk z) y cd).run P w=.ok z.toNat w:=by
  intro kk z y cd a1 a2;simp[Instr.sliceBound,asIntOf,a1,a2]
 have fO:∀(m l:Nat),(if m=l then a else a.map (·.add (l*i.size)))=(if m=l then a else a.map λx=>x.add (l*i.size)):=λ_ _=>rfl;have e1:l<=((hh.toNat:Nat):Int):=by omega
 cases lo with
 |none=>
  simp only[CX,xao]at hl;subst hl;cases hi with
  |none=>
   simp only[wX,xao]at jX;subst jX;simp[Instr.sliceAt,run_underlying ht,Instr.slice,Instr.sliceBounds,run_sizeOf hi']
  |some v=>
   cases v<;>simp only[wX,reduceCtorEq,xao]at jX;subst jX;simp[Instr.sliceAt,run_underlying ht,Instr.slice,Instr.sliceBounds,run_sizeOf hi',bl _ _ c .sliceAcap zO h2]
 |some vl=>
  cases vl<;>simp only[CX,reduceCtorEq,xao]at hl;subst hl;cases hi with
  |none=>
   simp only[wX,xao]at jX;subst jX;have:=bl ‹_› _ n .sliceB h0 h1;simp[Instr.sliceAt,run_underlying ht,Instr.slice,Instr.sliceBounds,run_sizeOf hi',this]
  |some v=>
   cases v<;>simp only[wX,reduceCtorEq,xao]at jX;subst jX;rename_i k1 n1 k2 n2;have b1:=bl k2 n2 c .sliceAcap zO h2;have b2:=bl k1 n1 n2.toNat .sliceB h0 zO;simp[Instr.sliceAt,run_underlying ht,Instr.slice,Instr.sliceBounds,run_sizeOf hi',b1,b2]
theorem Ext.run{i:Nat}{x:zV}{k:zV->Prop}(h:Ext i x k)(w:World):∃v,(Instr.extract x i).run P w=.ok v w/\k v:=by
 obtain⟨vs,v,rfl,hv,hk⟩:=h;exact⟨v,by simp[Instr.extract,hv],hk⟩
theorem bY.run{x:zV}{k:zV->Prop}(h:bY x k)(w:World){t e ty:TypeId}(ht:P.underlying t=some (.slice e)):∃v,(Builtin.len_ #[t] ty #[x]).run P w=.ok v w/\k v:=by
 obtain⟨a,n,c,rfl,hk⟩:=h;exact⟨_,by simp[Builtin.len_,run_underlying ht,goInt],hk⟩
theorem aH{w:World}(hw:Own g H w){b:Nat}{es:Array MapEntry}{clock:Nat}(hm:(b,Obj.map es clock)∈H):(getObj b).run P w=.ok (.map es clock) w:=by
 have:=hw.has _ hm;simp only at this;simp[getObj,Sem.run,this]
theorem xN.run{x:zV}{k:zV->Prop}(h:xN H x k){w:World}(hw:Own g H w){t e e' ty:TypeId}(ht:P.underlying t=some (.map e e')):∃v,(Builtin.len_ #[t] ty #[x]).run P w=.ok v w/\k v:=by
 obtain⟨m,rfl,⟨rfl,hk⟩|⟨b,es,clock,rfl,hm,hk⟩⟩:=h
 ·exact⟨_,by simp[Builtin.len_,run_underlying ht,goInt],hk⟩
 exact⟨_,by simp[Builtin.len_,run_underlying ht,goInt,aH hw hm],hk⟩
end
end Go.Sx
namespace Go.Sx
open Go
section
variable {P:Program} {g:Gh} {H:Hp} {K:zV->Hp->Prop} {KP:List PanicEntry->Hp->Prop}
theorem Cells.run{w:World}(hw:Own g H w){base:Option Addr}{size n cap:Nat}{cs:Array zV}(h:Cells H base (n*size) cs):
  (Builtin.firstCells size n (.slice base n cap)).run P w=.ok cs w:=by
 cases base with
 |none=>simp only[Cells]at h;subst h;simp[Builtin.firstCells]
 |some a=>
  rcases h with⟨hn,rfl⟩|⟨h0,c,T,fz,hm,hs,rfl⟩
  ·simp only[Builtin.firstCells,hn];rfl
  obtain⟨b,o,sp⟩:=a;simp only at h0 hm hs;subst h0;simp only[Builtin.firstCells,fe hw hm _ _ hs]
theorem App.run{elem size bytes:Nat}{zero:zV}{s x:zV}{k:zV->Hp->Prop}(h:App P elem size bytes zero H s x k){w:World}(hw:Own g H w){t t' ty:TypeId}{i:TypeInfo}
 (ht:P.underlying t=some (.slice elem))(ht':∃e,P.underlying t'=some (.slice e))(hi:P.info? elem=some i)(hz:i.zero=some zero)(hn:i.size=size)(hb:i.bytes=bytes):
  ∃v w' H',(Builtin.append_ #[t,t'] ty #[s,x]).run P w=.ok v w'/\Own g H' w'/\k v H':=by
 obtain⟨base,n,cap,xb,m,xc,olds,news,rfl,rfl,Oc,Mh,PC,PA,hone,hfit,hgrow⟩:=h;obtain⟨e',ht'⟩:=ht';subst hn;subst hb;by_cases hc:n+m<=cap
 ·have hk:=hfit hc;have hnew:=Cells.run (P:=P) (cap:=xc) hw Mh;cases base with
  |none=>
   refine⟨_,w,H,?_,hw,hk⟩;simp[Builtin.append_,run_underlying ht,run_underlying ht',run_sizeOf hi,Builtin.lenOf,hc,hnew]
  |some a=>
   obtain⟨c,T,H',h0,hs,hu,hk⟩:=hk;obtain⟨b,o,sp⟩:=a;simp only at h0 hu hs;subst h0;obtain⟨w',hr,ho⟩:=c4 (P:=P) (o+n*i.size) news.toList 0 c H H' w hw (by simpa using hu) hone zP;refine⟨_,w',H',?_,ho,hk⟩;simp[Builtin.append_,run_underlying ht,run_underlying ht',run_sizeOf hi,Builtin.lenOf,hc,hnew,Addr.add_lit,hr]
 obtain⟨KM,h63,hk⟩:=hgrow zO;have qW:=hw.drew;have hnew:=Cells.run (P:=P) (cap:=xc) qW Mh;have hold:=Cells.run (P:=P) (cap:=cap) qW Oc;have PG:Builtin.nextslicecap (n+m) cap*i.bytes<=281474976710656:=growslice_fits zO KM;have Lf:¬(281474976710656<Builtin.nextslicecap (n+m) cap*i.bytes):=by omega
 have Le:¬(9223372036854775807<((n:Int)+(m:Int))):=by omega
 obtain⟨dY,hent,hkk⟩:=hk (grownCap w (n+m) cap elem) (by simp only[grownCap,Question.cut];omega) _ qW.fresh;refine⟨_,_,_,?_,hent _ _ (qW.alloc _),hkk⟩;simp[Builtin.append_,run_underlying ht,run_underlying ht',sizeOf,typeInfo,zeroValue,hi,hz,Builtin.lenOf,hc,Le,Lf,Question.forced,hnew,hold,newRow,grownCap]
theorem dJ.run{elem size bytes:Nat}{zero:zV}{l c:zV}{k:zV->Hp->Prop}(h:dJ elem size bytes zero H l c k){w:World}(hw:Own g H w){t:TypeId}{i:TypeInfo}
 (ht:P.underlying t=some (.slice elem))(hi:P.info? elem=some i)(hz:i.zero=some zero)(hn:i.size=size)(hb:i.bytes=bytes):
  ∃v w' H',(Instr.makeSlice t l c).run P w=.ok v w'/\Own g H' w'/\k v H':=by
 obtain⟨kl,kc,ln,cn,rfl,rfl,hlc,mU,hby,hk⟩:=h;subst hn;subst hb;refine⟨_,_,_,?_,hw.alloc _,hk _ hw.fresh⟩;have e1:IntKind.i64.wrap (ln:Int)=ln:=IntWalk.i64_in _ zO;have e2:IntKind.i64.wrap (cn:Int)=cn:=IntWalk.i64_in _ zO;have e3:¬((i.bytes:Int)*(cn:Int)>281474976710656):=by
  have:((cn*i.bytes:Nat):Int)<=281474976710656:=by omega
  rw[Int.mul_comm];push_cast at this;omega
 have e4:¬((cn:Int)<ln):=by omega
 by_cases h0:cn*i.size=0
 ·simp[Instr.makeSlice,run_underlying ht,asInt,asIntOf,typeInfo,hi,e1,e2,e3,e4,sizeOf,zeroValue,hz,newRow,madeCells,h0,show¬((cn:Int)<0)from by omega,show¬((ln:Int)<0)from by omega];have:Array.range 0=#[]:=rfl;simp[this]
 simp[Instr.makeSlice,run_underlying ht,asInt,asIntOf,typeInfo,hi,e1,e2,e3,e4,sizeOf,zeroValue,hz,newRow,madeCells,h0,show¬((cn:Int)<0)from by omega,show¬((ln:Int)<0)from by omega]
theorem vW.run{m:zV}{es:Array MapEntry}(h:vW H m es){w:World}(hw:Own g H w):
  (m=.map none/\es=#[])\/∃b clock,m=.map (some b)/\(getObj b).run P w=.ok (.map es clock) w:=by
 rcases h with h|⟨b,clock,hm,hb⟩
 ·exact .inl h
 exact .inr ⟨b,clock,hm,aH hw hb⟩
theorem run_checkKey(e:Bool){t:TypeId}{d:TypeDesc}(hd:P.underlying t=some d)(hp:plainKey d=true)(v:zV)(w:World):(Instr.checkKey e 10000 t v).run P w=.ok () w:=by
 have:∀n,(Instr.checkKey e (n+1) t v).run P w=.ok () w:=λn=>by
  simp only[Instr.checkKey,Sem.run_bind,run_underlying hd,Result.andThen_ok];cases d<;>first|(simp[plainKey]at hp;done)|rfl
 exact this 9999
theorem run_findKey{t:TypeId}{d:TypeDesc}(hd:P.underlying t=some d){key:zV}{es:List MapEntry}{r:Option (Nat×zV)}(h:Instr.findNow d key es 0=some r)(w:World):
  (Instr.findKey t key es).run P w=.ok r w:=by
 simp[Instr.findKey,run_underlying hd,h]
theorem gp.run{kd:TypeDesc}{zero:zV}{ok:Bool}{m key:zV}{k:zV->Prop}(h:gp kd zero ok H m key k){w:World}(hw:Own g H w){t kt e:TypeId}{i:TypeInfo}
 (ht:P.underlying t=some (.map kt e))(hk:P.underlying kt=some kd)(hp:plainKey kd=true)(hi:P.info? e=some i)(hz:i.zero=some zero):
  ∃v,(Instr.lookup t m key ok).run P w=.ok v w/\k v:=by
 obtain⟨es,r,hm,hf,hkv⟩:=h;have c7:=λb=>run_checkKey (P:=P) b hk hp key w;have nN:=run_findKey (P:=P) hk hf w;refine⟨_,?_,hkv⟩;rcases hm.run (P:=P) hw with⟨rfl,rfl⟩|⟨b,clock,rfl,hg⟩
 ·cases r with
  |none=>cases ok<;>simp[Instr.lookup,run_underlying ht,c7,nN,cK hi hz]
  |some x=>obtain⟨j,v⟩:=x;cases ok<;>simp[Instr.lookup,run_underlying ht,c7,nN]
 ·cases r with
  |none=>cases ok<;>simp[Instr.lookup,run_underlying ht,c7,nN,cK hi hz,hg]
  |some x=>obtain⟨j,v⟩:=x;cases ok<;>simp[Instr.lookup,run_underlying ht,c7,nN,hg]
theorem bH{w:World}(hw:Own g H w){b:Nat}{es:Array MapEntry}{clock:Nat}(es':Array MapEntry)(clock':Nat){H':Hp}(hu:cm b (.map es clock) (.map es' clock') H H'):
  ∃w',(setObj b (.map es' clock')).run P w=.ok () w'/\Own g H' w':=by
 have hm:=hw.has _ hu.mem;simp only at hm;refine⟨{w with heap:=w.heap.setIfInBounds b (.map es' clock')},by simp[setObj,Sem.run,hm],?_⟩;have hlt:=hw.lt hu.mem;refine hw.cz hu rfl rfl rfl ?_ ?_
 ·simp only at hlt;simp[hlt]
 intro c hc;rw[xbv,xab (λe=>hc (Eq.symm e))]
theorem fm.run{kd:TypeDesc}{m key val:zV}{k:Hp->Prop}(h:fm kd H m key val k){w:World}(hw:Own g H w){t kt e:TypeId}
 (ht:P.underlying t=some (.map kt e))(hk:P.underlying kt=some kd)(hp:plainKey kd=true):
  ∃w' H',(Instr.mapUpdate t m key val).run P w=.ok () w'/\Own g H' w'/\k H':=by
 obtain⟨b,es,clock,r,rfl,hf,hr⟩:=h;have c7:=λb=>run_checkKey (P:=P) b hk hp key w;have nN:=run_findKey (P:=P) hk hf w;cases r with
 |none=>
  obtain⟨H',hu,hkk⟩:=hr;obtain⟨w',hs,ho⟩:=bH (P:=P) hw _ _ hu;refine⟨w',H',?_,ho,hkk⟩;simp[Instr.mapUpdate,run_underlying ht,aH hw hu.mem,c7,nN,hs]
 |some x=>
  obtain⟨j,v⟩:=x;obtain⟨hsame,hj,H',hu,hkk⟩:=hr;obtain⟨w',hs,ho⟩:=bH (P:=P) hw _ _ hu;refine⟨w',H',?_,ho,hkk⟩;have Kh:=hsame es[j] (xbh hj);simp[Instr.mapUpdate,run_underlying ht,aH hw hu.mem,c7,nN,hj,Instr.keyThatStays,Kh,hs]
theorem s4.run{kd:TypeDesc}{m key:zV}{k:Hp->Prop}(h:s4 kd H m key k){w:World}(hw:Own g H w){t kt e ty:TypeId}{as:Array TypeId}(has:as[0]? =some t)
 (ht:P.underlying t=some (.map kt e))(hk:P.underlying kt=some kd)(hp:plainKey kd=true):
  ∃w' H',(Builtin.delete_ as ty #[m,key]).run P w=.ok (.tuple #[]) w'/\Own g H' w'/\k H':=by
 have c7:=λb=>run_checkKey (P:=P) b hk hp key w;rcases h with⟨rfl,hkk⟩|⟨b,es,clock,r,rfl,hf,hr⟩
 ·exact⟨w,H,by simp[Builtin.delete_,has,run_underlying ht,c7],hw,hkk⟩
 have nN:=run_findKey (P:=P) hk hf w;cases r with
 |none=>
  obtain⟨hm,hkk⟩:=hr;have hu:∃H',cm b (.map es clock) (.map es clock) H H'/\H'=H:=by
   clear hkk hf nN hw;induction H with
   |nil=>simp at hm
   |cons x R ih=>
    rcases xaf.1 hm with e|hm'
    ·subst e;exact⟨_,.head _,rfl⟩
    obtain⟨H',u,rfl⟩:=ih hm';exact⟨_,.tail u,rfl⟩
  obtain⟨H',hu,rfl⟩:=hu;obtain⟨w',hs,ho⟩:=bH (P:=P) hw _ _ hu;exact⟨w',_,by simp[Builtin.delete_,has,run_underlying ht,aH hw hm,c7,nN,hs],ho,hkk⟩
 |some x=>
  obtain⟨j,v⟩:=x;obtain⟨H',hu,hkk⟩:=hr;obtain⟨w',hs,ho⟩:=bH (P:=P) hw _ _ hu;exact⟨w',_,by simp[Builtin.delete_,has,run_underlying ht,aH hw hu.mem,c7,nN,hs],ho,hkk⟩
theorem rm{kd:TypeDesc}(h:bJ kd=true)(key:zV)(es:List MapEntry)(i:Nat):Instr.findNow kd key es i=if es=[]then some none else none:=by
 cases es with
 |nil=>rfl
 |cons e r=>
  simp only[Instr.findNow,reduceCtorEq,xaG];cases kd<;>simp[bJ]at h<;>rfl
theorem gG{kt:TypeId}{key:zV}:∀{es:List MapEntry} {i:Nat} {r:Option (Nat×zV)},gy P kt key es i r->∀w,(Instr.findAsking kt key es i).run P w=.ok r w
 | [],i,r,h,w=>by simp only[gy]at h;subst h;rfl
 |e::es,i,r,h,w=>by
  obtain⟨b,he,h1,h2⟩:=h;simp only[Instr.findAsking,Sem.run_bind,he w,Result.andThen_ok];cases b
  ·simp only[xas,xaG];exact gG (h2 rfl) w
  simp only[xaS,h1 rfl,Sem.run_pure]
theorem fS{t:TypeId}{d:TypeDesc}(hd:P.underlying t=some d)(ha:bJ d=true){key:zV}{es:List MapEntry}{r:Option (Nat×zV)}(h:gy P t key es 0 r)(w:World):
  (Instr.findKey t key es).run P w=.ok r w:=by
 simp only[Instr.findKey,Sem.run_bind,run_underlying hd,Result.andThen_ok,rm ha];cases es with
 |nil=>simp only[gy]at h;subst h;simp
 |cons e es=>simp only[reduceCtorEq,xaG];exact gG h w
theorem gx.run{zero:zV}{ok:Bool}{m key:zV}{k:zV->Prop}{t kt e:TypeId}{kd:TypeDesc}(h:gx P kt zero ok H m key k){w:World}(hw:Own g H w){i:TypeInfo}
 (ht:P.underlying t=some (.map kt e))(hk:P.underlying kt=some kd)(hp:bJ kd=true)(hi:P.info? e=some i)(hz:i.zero=some zero):
  ∃v,(Instr.lookup t m key ok).run P w=.ok v w/\k v:=by
 obtain⟨es,r,hm,hc,hf,hkv⟩:=h;have c7:=λb=>hc b w;have nN:=fS (P:=P) hk hp hf w;refine⟨_,?_,hkv⟩;rcases hm.run (P:=P) hw with⟨rfl,rfl⟩|⟨b,clock,rfl,hg⟩
 ·cases r with
  |none=>cases ok<;>simp[Instr.lookup,run_underlying ht,c7,nN,cK hi hz]
  |some x=>obtain⟨j,v⟩:=x;cases ok<;>simp[Instr.lookup,run_underlying ht,c7,nN]
 ·cases r with
  |none=>cases ok<;>simp[Instr.lookup,run_underlying ht,c7,nN,cK hi hz,hg]
  |some x=>obtain⟨j,v⟩:=x;cases ok<;>simp[Instr.lookup,run_underlying ht,c7,nN,hg]
theorem gm.run{m key val:zV}{k:Hp->Prop}{t kt e:TypeId}{kd:TypeDesc}(h:gm P kt H m key val k){w:World}(hw:Own g H w)
 (ht:P.underlying t=some (.map kt e))(hk:P.underlying kt=some kd)(hp:bJ kd=true):
  ∃w' H',(Instr.mapUpdate t m key val).run P w=.ok () w'/\Own g H' w'/\k H':=by
 obtain⟨b,es,clock,r,rfl,hc,hf,hr⟩:=h;have c7:=λb=>hc b w;have nN:=fS (P:=P) hk hp hf w;cases r with
 |none=>
  obtain⟨H',hu,hkk⟩:=hr;obtain⟨w',hs,ho⟩:=bH (P:=P) hw _ _ hu;refine⟨w',H',?_,ho,hkk⟩;simp[Instr.mapUpdate,run_underlying ht,aH hw hu.mem,c7,nN,hs]
 |some x=>
  obtain⟨j,v⟩:=x;obtain⟨hsame,hj,H',hu,hkk⟩:=hr;obtain⟨w',hs,ho⟩:=bH (P:=P) hw _ _ hu;refine⟨w',H',?_,ho,hkk⟩;have Kh:=hsame es[j] (xbh hj);simp[Instr.mapUpdate,run_underlying ht,aH hw hu.mem,c7,nN,hj,Instr.keyThatStays,Kh,hs]
theorem cm.same{b:Nat}{o:Obj}{H:Hp}(hm:(b,o)∈H):cm b o o H H:=by
 induction H with
 |nil=>simp at hm
 |cons x R ih=>
  rcases xaf.1 hm with e|hm'
  ·subst e;exact .head _
  exact .tail (ih hm')
theorem jT.run{m key:zV}{k:Hp->Prop}{t kt e ty:TypeId}{kd:TypeDesc}{as:Array TypeId}(h:jT P kt H m key k){w:World}(hw:Own g H w)(has:as[0]? =some t)
 (ht:P.underlying t=some (.map kt e))(hk:P.underlying kt=some kd)(hp:bJ kd=true):
  ∃w' H',(Builtin.delete_ as ty #[m,key]).run P w=.ok (.tuple #[]) w'/\Own g H' w'/\k H':=by
 obtain⟨hc,h⟩:=h;have c7:=λb=>hc b w;rcases h with⟨rfl,hkk⟩|⟨b,es,clock,r,rfl,hf,hr⟩
 ·exact⟨w,H,by simp[Builtin.delete_,has,run_underlying ht,c7],hw,hkk⟩
 have nN:=fS (P:=P) hk hp hf w;cases r with
 |none=>
  obtain⟨hm,hkk⟩:=hr;obtain⟨w',hs,ho⟩:=bH (P:=P) hw _ _ (cm.same hm);exact⟨w',_,by simp[Builtin.delete_,has,run_underlying ht,aH hw hm,c7,nN,hs],ho,hkk⟩
 |some x=>
  obtain⟨j,v⟩:=x;obtain⟨H',hu,hkk⟩:=hr;obtain⟨w',hs,ho⟩:=bH (P:=P) hw _ _ hu;exact⟨w',_,by simp[Builtin.delete_,has,run_underlying ht,aH hw hu.mem,c7,nN,hs],ho,hkk⟩
theorem Lx.run{x:zV}{k:zV->Hp->Prop}(h:Lx H x k){w:World}(hw:Own g H w){t kt e:TypeId}(ht:P.underlying t=some (.map kt e)):
  ∃v w' H',(Instr.range t x).run P w=.ok v w'/\Own g H' w'/\k v H':=by
 rcases h with⟨rfl,hk⟩|⟨m,es,clock,rfl,hm,hk⟩
 ·refine⟨_,_,_,?_,hw.alloc _,hk _ hw.fresh⟩;simp[Instr.range,run_underlying ht]
 refine⟨_,_,_,?_,hw.alloc _,hk _ hw.fresh⟩;simp[Instr.range,run_underlying ht,aH hw hm]
theorem gu{w:World}(hw:Own g H w){b:Nat}{mo:Option Nat}{since last:Nat}{seen:Array Nat}(hm:(b,Obj.mapIter mo since seen last)∈H):(getObj b).run P w=.ok (.mapIter mo since seen last) w:=by
 have:=hw.has _ hm;simp only at this;simp[getObj,Sem.run,this]
theorem lJ{w:World}(hw:Own g H w){b:Nat}{mo JX:Option Nat}{since last since' last':Nat}{seen seen':Array Nat}{H':Hp}(hu:cm b (.mapIter mo since seen last) (.mapIter JX since' seen' last') H H'):
  ∃w',(setObj b (.mapIter JX since' seen' last')).run P w=.ok () w'/\Own g H' w':=by
 have hm:=hw.has _ hu.mem;simp only at hm;refine⟨{w with heap:=w.heap.setIfInBounds b (.mapIter JX since' seen' last')},by simp[setObj,Sem.run,hm],?_⟩;have hlt:=hw.lt hu.mem;refine hw.cz hu rfl rfl rfl ?_ ?_
 ·simp only at hlt;simp[hlt]
 intro c hc;rw[xbv,xab (λe=>hc (Eq.symm e))]
theorem FY.run{it:zV}{k:zV->Prop}(h:FY H it k){w:World}(hw:Own g H w):∃v,(Instr.entry it).run P w=.ok v w/\k v:=by
 obtain⟨b,m,since,seen,stamp,clock,es,e,rfl,hb,hs,hm,hf,hk⟩:=h;refine⟨_,?_,hk⟩;simp[Instr.entry,gu (P:=P) hw hb,hs,aH (P:=P) hw hm,hf]
theorem lP(n:Nat)(hn:0<n){w:World}:∃i w',(choose (.mapNext n)).run P w=.ok i w'/\i<n/\(w'=w\/w'=w.drew):=by
 by_cases h:n<=1
 ·exact⟨0,w,by simp[choose,Sem.run,Question.forced,h],hn,.inl rfl⟩
 exact⟨_,_,by simp only[choose,Sem.run,Question.forced,h,xc2,xas,xaG];rfl,xbG _ hn,.inr rfl⟩
theorem Lz.run{it:zV}{k:zV->Hp->Prop}(h:Lz H it k){w:World}(hw:Own g H w){ty:TypeId}:
  ∃v w' H',(Instr.next it false ty).run P w=.ok v w'/\Own g H' w'/\k v H':=by
 obtain⟨b,mo,since,seen,last,rfl,hb,h⟩:=h;have Md:=gu (P:=P) hw hb;cases mo with
 |none=>exact⟨_,w,H,by simp[Instr.next,Md],hw,h⟩
 |some m=>
  obtain⟨es,clock,hm,AK,HB,Hy⟩:=h;have NY:=aH (P:=P) hw hm;have HD:(!seen.isEmpty&& !es.isEmpty&&es.all (λe=>decide (e.born≥last)))=false:=by
   cases he:es.isEmpty
   ·have hne:es≠#[]:=by intro e;rw[e]at he;simp at he
    have:es.all (λe=>decide (e.born≥last))=false:=by
     rw[<-Bool.not_eq_true,Array.all_eq_true];intro aL;have h0:0<es.size:=Array.size_pos_iff.2 hne;have:=aL 0 h0;have h2:=(AK es[0] zI).2;simp only[ge_iff_le,xaD]at this;omega
    rw[this];simp
   simp
  have hold:((es.filter λe=> !seen.contains e.born).filter λe=>decide (e.born<since))=es.filter λe=> !seen.contains e.born:=by
   rw[Array.filter_eq_self];intro e he;have:=(xdu.1 he).1;exact xaL (AK e (by simpa using this)).1
  have hnew:((es.filter λe=> !seen.contains e.born).filter λe=>decide (e.born≥since))=#[]:=by
   rw[Array.filter_eq_empty_iff];intro e he;have:=(xdu.1 he).1;have:=(AK e (by simpa using this)).1;simp only[ge_iff_le,xaD];omega
  generalize hleft:(es.filter λe=> !seen.contains e.born)=left at hold hnew;have hrun:∀(rest:Sem zV),(Instr.next (.pointer (some ⟨b,0,none⟩)) false ty).run P w=((choose (.mapNext (((if left.isEmpty then#[none]else#[])++left.map some).size))).run P w).andThen λi w=>(Sem.run P (match((if left.isEmpty then#[none]else#[])++left.map some)[i]? with
    |some (some e)=>do setObj b (.mapIter (some m) since (seen.push e.born) clock);pure (.tuple #[.bool true,e.key,e.val])
    |some none=>pure (.tuple #[.bool false])
    |none=>stuck "Next: no such candidate" :Sem zV) w):=by
   intro _;simp only[Instr.next,Sem.run_bind,Md,Result.andThen_ok,NY,HD,xas,xaG,hleft,hold,hnew,xcz,Sem.run_pure];rfl
  rw[hrun (pure undef)];by_cases Fq:left=#[]
  ·subst Fq;simp only[Array.isEmpty_empty,xaS,xdz,xcz];refine⟨_,w,H,?_,hw,Hy λe he=>?_⟩
   ·simp[choose,Sem.run,Question.forced]
   have:=Array.filter_eq_empty_iff.1 hleft e (by simpa using he);simpa using this
  have hne:left.isEmpty=false:=by simpa using Fq
  have hpos:0<left.size:=Array.size_pos_iff.2 Fq;simp only[hne,xas,xaG,xb7,Array.size_map];obtain⟨i,w1,hc,hi,qW⟩:=lP (P:=P) (w:=w) left.size hpos;rw[hc];simp only[Result.andThen_ok];have er:(left.map some)[i]? =some (some left[i]):=by simp[hi]
  simp only[er];have hmem:left[i]∈es.filter λe=> !seen.contains e.born:=by rw[hleft];exact Array.getElem_mem hi
  obtain⟨Gj,HQ⟩:=xdu.1 hmem;obtain⟨H',hu,hk⟩:=HB left[i] (by simpa using Gj) (by simpa using HQ);have I2:Own g H w1:=by rcases qW with rfl|rfl;exact hw;exact hw.drew
  obtain⟨w2,hs,NH⟩:=lJ (P:=P) I2 hu;exact⟨_,w2,H',by simp[hs],NH,hk⟩
end
end Go.Sx
namespace Go.Sx
open Go
section
variable {P:Program} {g:Gh} {H:Hp} {K:zV->Hp->Prop} {KP:List PanicEntry->Hp->Prop}
def ID(x:zV):Option zV:=
 match x with
 | .pointer (some a)=>some (.pointer (some a))
 | .func (.func f) a b=>some (.func (.func f) a b)
 | .iface t v=>some (.iface t v)
 |_=>none
def Nil(x:zV)(k:zV->Prop):Prop:=∃v,ID x=some v/\k v
def O1(fn:Fn)(a b:List zV)(k:zV->Prop):Prop:=k (.func fn a.toArray b.toArray)
def Build(P:Program)(t:TypeId)(parts:List (Nat×zV))(k:zV->Prop):Prop:=∃v,(∀w,(Instr.build t parts.toArray).run P w=.ok v w)/\k v
def br(P:Program)(g:Gh)(o:Oper)(ρ:Operand->zV)(H:Hp)(k:zV->Prop):Prop:=
 ∃v,(∀w,Own g H w->(execOp ρ o).run P w=.ok (.value v) w)/\k v
def vc:Operand->Bool
 | .const _=>true
 |_=>false
def Gy(d:TypeDesc)(x y:Operand):BK:=
 match pZ d with
 | .ptr=>cond (vc x||vc y) .ptr .other
 |k=>k
theorem FP{d:TypeDesc}{x y:Operand}(h:Gy d x y=.other->False):pZ d=Gy d x y:=by
 unfold Gy at h⊢;cases hb:pZ d<;>simp only[hb]at h⊢;cases hc:(vc x||vc y)<;>simp only[hc,xal,xah]at h⊢;exact(h trivial).elim
def bU(P:Program)(t:TypeId):Option Nat:=match P.info? t with|some i=>some i.size|none=>none
def da(P:Program)(t:TypeId):Option zV:=match P.info? t with|some i=>i.zero|none=>none
def nh(P:Program)(t:TypeId):Option Nat:=match P.info? t with|some i=>some i.bytes|none=>none
def B3(P:Program)(g:Gh)(o:Oper)(ρ:Operand->zV)(H:Hp)(k:zV->Prop):Prop:=
 match o.op with
 | .move x=>k (ρ x)
 | .assign x=>k (ρ x)
 | .pick c a b=>bX (ρ c) (ρ a) (ρ b) k
 | .load t a=>
  match P.underlying t,bU P t with
  |some d,some n=>cond (bJ d) (az n H (ρ a) k) (Ld H (ρ a) k)
  |_,_=>False
 | .nilCheck x=>Nil (ρ x) k
 | .binOp op t x y _=>
  match P.underlying t with
  |some d=>match Gy d x y with
   | .other=>br P g o ρ H k
   |bk=>ae bk op (ρ x) (ρ y) k
  |none=>False
 | .unOp op _ x=>Un op (ρ x) k
 | .convert s d x=>
  match P.underlying s,P.underlying d with
  |some _,some (.int kd)=>bj kd (ρ x) k
  |some (.slice e),some .string=>match P.underlying e with
   |some (.int .u8)=>dH H (ρ x) k
   |_=>br P g o ρ H k
  |_,_=>br P g o ρ H k
 | .index t x i=>
  match P.underlying t with
  |some .string=>aV (ρ x) (ρ i) k
  |_=>br P g o ρ H k
 | .fieldAddr s x f=>
  match P.underlying s with
  |some (.struct fs)=>match fs[f]? with
   |some fl=>match bU P fl.type with
    |some (_+1)=>ag fl.offset (ρ x) k
    |_=>False
   |none=>False
  |_=>False
 | .field s x f=>
  match P.underlying s with
  |some (.struct fs)=>match fs[f]? with
   |some fl=>match P.underlying fl.type,bU P fl.type with
    |some d,some n=>cond (bJ d) (DN fl.offset n (ρ x) k) (qf fl.offset (ρ x) k)
    |_,_=>False
   |none=>False
  |_=>False
 | .indexAddr t x i=>
  match P.underlying t with
  |some (.slice e)=>match bU P e with
   |some n=>ai n (ρ x) (ρ i) k
   |none=>False
  |some (.array len e)=>match bU P e with
   |some n=>di len n (ρ x) (ρ i) k
   |none=>False
  |_=>False
 | .slice t x lo hi none=>
  match P.underlying t with
  |some (.slice e)=>match bU P e with
   |some n=>cF n (ρ x) (lo.map ρ) (hi.map ρ) k
   |none=>False
  |_=>br P g o ρ H k
 | .extract t i=>Ext i (ρ t) k
 | .lookup t m key ok=>
  match P.underlying t with
  |some (.map kt e)=>match P.underlying kt,da P e with
   |some kd,some z=>cond (plainKey kd) (gp kd z ok H (ρ m) (ρ key) k) (cond (bJ kd) (gx P kt z ok H (ρ m) (ρ key) k) (br P g o ρ H k))
   |_,_=>False
  |_=>False
 | .makeFunc fn a b=>O1 fn (a.toList.map ρ) (b.toList.map ρ) k
 | .build t parts=>Build P t (parts.toList.map λp=>(p.1,ρ p.2)) k
 | .makeInterface t x=>
  match P.underlying t with
  |some (.interface _)=>False
  |some _=>k (.iface t (ρ x))
  |none=>False
 | .call c=>
  match c.callee with
  | .builtin .len=>
   match c.args.toList,c.argTypes.toList with
   | [x],[t]=>match P.underlying t with
    |some (.slice _)=>bY (ρ x) k
    |some (.map _ _)=>xN H (ρ x) k
    |some .string=>aA (ρ x) k
    |_=>br P g o ρ H k
   |_,_=>False
  | .builtin .max=>match c.args.toList,c.argTypes.toList with
   | [x,y],[t,_]=>match P.underlying t with
    |some (.int _)=>LC (ρ x) (ρ y) k
    |_=>br P g o ρ H k
   |_,_=>br P g o ρ H k
  | .builtin .min=>match c.args.toList,c.argTypes.toList with
   | [x,y],[t,_]=>match P.underlying t with
    |some (.int _)=>xM (ρ x) (ρ y) k
    |_=>br P g o ρ H k
   |_,_=>br P g o ρ H k
  | .builtin _=>br P g o ρ H k
  |_=>False
 |_=>br P g o ρ H k
theorem mapList{α β:Type}(f:α->β)(a:Array α):(a.toList.map f).toArray=a.map f:=by rw[<-xcN,xbY]
theorem Iw{α:Type}{a:Array α}{x:α}(h:a.toList=[x]):a=#[x]:=by cases a;simp_all
theorem rP{α:Type}{a:Array α}{x y:α}(h:a.toList=[x,y]):a=#[x,y]:=by cases a;simp_all
theorem Ld.fix{p:zV}{k:zV->Prop}(h:Ld H p k):∃v,k v/\Ld H p (· =v):=by
 obtain⟨b,off,c,T,fz,v,h1,h2,h3,hk⟩:=h;exact⟨v,hk,b,off,c,T,fz,v,h1,h2,h3,rfl⟩
theorem az.fix{n:Nat}{p:zV}{k:zV->Prop}(h:az n H p k):∃v,k v/\az n H p (· =v):=by
 obtain⟨b,off,c,T,fz,h1,h2,h3,hk⟩:=h;exact⟨_,hk,b,off,c,T,fz,h1,h2,h3,rfl⟩
theorem gp.fix{kd:TypeDesc}{zero:zV}{ok:Bool}{m key:zV}{k:zV->Prop}(h:gp kd zero ok H m key k):∃v,k v/\gp kd zero ok H m key (· =v):=by
 obtain⟨es,r,h1,h2,hk⟩:=h;exact⟨_,hk,es,r,h1,h2,rfl⟩
theorem xN.fix{x:zV}{k:zV->Prop}(h:xN H x k):∃v,k v/\xN H x (· =v):=by
 obtain⟨m,h1,⟨h2,hk⟩|⟨b,es,clock,h2,h3,hk⟩⟩:=h
 ·exact⟨_,hk,m,h1,.inl ⟨h2,rfl⟩⟩
 exact⟨_,hk,m,h1,.inr ⟨b,es,clock,h2,h3,rfl⟩⟩
theorem gx.fix{kt:TypeId}{zero:zV}{ok:Bool}{m key:zV}{k:zV->Prop}(h:gx P kt zero ok H m key k):∃v,k v/\gx P kt zero ok H m key (· =v):=by
 obtain⟨es,r,h1,h2,h3,hk⟩:=h;exact⟨_,hk,es,r,h1,h2,h3,rfl⟩
theorem sM{F:zV->ByteArray->Sem (ForInStep ByteArray)}(hF:∀(b:UInt8) s,F (.int .u8 b.toNat) s=pure (.yield (s.push b))){l:List UInt8}(s:ByteArray)(w:World):
  (forIn (l.map λb=>Value.int .u8 b.toNat) s F).run P w=.ok (⟨s.data++l.toArray⟩:ByteArray) w:=by
 induction l generalizing s with
 |nil=>simp
 |cons b r ih=>
  simp only[xaC,xdA,hF,Sem.run_bind,Sem.run_pure,Result.andThen_ok];rw[ih];congr 1;simp[ByteArray.push]
theorem dH.run{x:zV}{k:zV->Prop}(h:dH H x k){w:World}(hw:Own g H w):∃v,(Conv.bytesToString x).run P w=.ok v w/\k v:=by
 obtain⟨base,n,c,bs,rfl,hc,hn,hk⟩:=h;refine⟨_,?_,hk⟩;cases base with
 |none=>
  simp only[Cells]at hc;have:bs=[]:=by simpa using xb1 Array.size hc
  subst this;rfl
 |some a=>
  have:=Cells.run (P:=P) (size:=1) (cap:=c) hw (by rw[xb0];exact hc);simp only[Builtin.firstCells,xb0]at this;simp only[Conv.bytesToString,Sem.run_bind,this,Result.andThen_ok];rw[List.forIn_toArray,sM (P:=P) (l:=bs) (λb s=>by simp)];have e:ByteArray.empty.data=#[]:=rfl;simp[e]
theorem dH.fix{x:zV}{k:zV->Prop}(h:dH H x k):∃v,k v/\dH H x (· =v):=by
 obtain⟨base,n,c,bs,h1,h2,h3,hk⟩:=h;exact⟨_,hk,base,n,c,bs,h1,h2,h3,rfl⟩
def Reads(P:Program)(g:Gh)(o:Oper)(ρ:Operand->zV)(H:Hp)(k:zV->Prop):Prop:=
 ∃v,k v/\∀w,Own g H w->(execOp ρ o).run P w=.ok (.value v) w
theorem Reads.mk{o:Oper}{ρ:Operand->zV}{k:zV->Prop}{s:Sem zV}(he:execOp ρ o=(do pure (.value (<-s))))(h:∃v,k v/\∀w,Own g H w->s.run P w=.ok v w):Reads P g o ρ H k:=by
 obtain⟨v,hk,hr⟩:=h;refine⟨v,hk,λw hw=>?_⟩;rw[he];simp only[Sem.run_bind,hr w hw,Result.andThen_ok,Sem.run_pure]
theorem br.reads{o:Oper}{ρ:Operand->zV}{k:zV->Prop}(h:br P g o ρ H k):Reads P g o ρ H k:=let ⟨v,h1,h2⟩:=h;⟨v,h2,h1⟩
theorem F4{s:Sem zV}{k:zV->Prop}{C:(zV->Prop)->Prop}(KC:∃v,k v/\C (· =v))(hrun:∀(k:zV->Prop),C k->∀w,Own g H w->∃v,s.run P w=.ok v w/\k v):
  ∃v,k v/\∀w,Own g H w->s.run P w=.ok v w:=by
 obtain⟨v,hk,hc⟩:=KC;refine⟨v,hk,λw hw=>?_⟩;obtain⟨u,hr,rfl⟩:=hrun _ hc w hw;exact hr
theorem aG{t:TypeId}{n:Nat}(h:bU P t=some n):∃i,P.info? t=some i/\i.size=n:=by
 unfold bU at h;split at h
 ·rename_i i hi;exact⟨i,hi,by simpa using h⟩
 simp at h
theorem bP{t:TypeId}{z:zV}(h:da P t=some z):∃i,P.info? t=some i/\i.zero=some z:=by
 unfold da at h;split at h
 ·rename_i i hi;exact⟨i,hi,by simpa using h⟩
 simp at h
theorem fC{o:Oper}{ρ:Operand->zV}{k:zV->Prop}(h:B3 P g o ρ H k):Reads P g o ρ H k:=by
 obtain⟨dst,op,type,pos,after,guard⟩:=o;cases op<;>simp only[B3]at h
 case move x=>exact⟨_,h,λw _=>rfl⟩
 case assign x=>exact⟨_,h,λw _=>rfl⟩
 case pick c a b=>
  obtain⟨t,hc,hk⟩:=h;refine⟨_,hk,λw _=>?_⟩;cases t<;>simp[execOp,hc,asBool]
 case load t a=>
  split at h
  ·rename_i d n hd hn;obtain⟨i,hi,hin⟩:=aG hn;refine Reads.mk (s:=Instr.loadAt t (ρ a)) rfl ?_;cases ha:bJ d<;>simp only[ha,xal,xah]at h
   ·exact F4 h.fix λk hk w hw=>hk.run hw hd ha
   exact F4 h.fix λk hk w hw=>hk.run hw hd ha hi hin
  exact h.elim
 case nilCheck x=>
  obtain⟨v,hv,hk⟩:=h;refine⟨v,hk,λw _=>?_⟩;unfold ID at hv;simp only[execOp];split at hv<;>simp only[xao,reduceCtorEq]at hv<;>subst hv<;>simp_all
 case binOp op t x y yt=>
  split at h
  ·rename_i d hd;split at h
   ·exact h.reads
   rename_i hbk;refine Reads.mk (s:=do eqGuard op t x y (ρ x) (ρ y);binOp op t (ρ x) (ρ y)) rfl ?_;obtain⟨v,hv,hk⟩:=h;exact⟨v,hk,λw _=>by
    obtain⟨u,hr,rfl⟩:=ae.run (P:=P) (k:=(· =v)) ⟨v,hv,rfl⟩ w (ox:=x) (oy:=y) hd (FP hbk);exact hr⟩
  exact h.elim
 case unOp op t x=>
  obtain⟨v,hv,hk⟩:=h;refine Reads.mk (s:=Op.unary op (ρ x)) rfl ⟨v,hk,λw _=>?_⟩;obtain⟨u,hr,rfl⟩:=Un.run (P:=P) (k:=(· =v)) ⟨v,hv,rfl⟩ w;exact hr
 case convert s d x=>
  split at h
  ·rename_i ds kd hs hd;obtain⟨j,n,hx,hk⟩:=h;refine Reads.mk (s:=Go.convert s d (ρ x)) rfl ⟨_,hk,λw _=>?_⟩;obtain⟨u,hr,rfl⟩:=bj.run (P:=P) (kd:=kd) (k:=(· =_)) ⟨j,n,hx,rfl⟩ w hs hd rfl;exact hr
  ·rename_i e hs hd;split at h
   ·rename_i he;refine Reads.mk (s:=Go.convert s d (ρ x)) rfl ?_;have:∀w,(Go.convert s d (ρ x)).run P w=(Conv.bytesToString (ρ x)).run P w:=λw=>by
     obtain⟨base,n,c,bs,hx,_⟩:=h;simp only[Go.convert,Sem.run_bind,run_underlying hs,run_underlying hd,Result.andThen_ok,hx,run_underlying he]
    simp only[this];exact F4 h.fix λk hk w hw=>hk.run hw
   exact h.reads
  exact h.reads
 case index t x i=>
  split at h
  ·rename_i ht;obtain⟨s,kd,j,b,hx,hi,h0,hb,hk⟩:=h;refine Reads.mk (s:=Instr.index t (ρ x) (ρ i)) rfl ⟨_,hk,λw _=>?_⟩;simp[Instr.index,run_underlying ht,hx,hi,asIntOf,h0,hb]
  exact h.reads
 case fieldAddr s x f=>
  split at h<;>try exact h.elim
  rename_i fs hs;split at h<;>try exact h.elim
  rename_i fl hf;split at h<;>try exact h.elim
  rename_i m hm;obtain⟨i,hi,hin⟩:=aG hm;obtain⟨b,o,hx,hk⟩:=h;refine Reads.mk (s:=Instr.fieldAt s (ρ x) f) rfl ⟨_,hk,λw _=>?_⟩;obtain⟨u,hr,rfl⟩:=ag.run (P:=P) (k:=(· =_)) ⟨b,o,hx,rfl⟩ w hs hf hi zO rfl;exact hr
 case field s x f=>
  split at h<;>try exact h.elim
  rename_i fs hs;split at h<;>try exact h.elim
  rename_i fl hf;split at h<;>try exact h.elim
  rename_i d n hd hn;obtain⟨i,hi,hin⟩:=aG hn;refine Reads.mk (s:=Instr.field s (ρ x) f) rfl ?_;cases ha:bJ d<;>simp only[ha,xal,xah]at h
  ·obtain⟨cs,v,hx,hv,hk⟩:=h;refine⟨v,hk,λw _=>?_⟩;obtain⟨u,hr,rfl⟩:=qf.run (P:=P) (k:=(· =v)) ⟨cs,v,hx,hv,rfl⟩ w hs hf hd ha rfl;exact hr
  obtain⟨cs,hx,hk⟩:=h;refine⟨_,hk,λw _=>?_⟩;obtain⟨u,hr,rfl⟩:=DN.run (P:=P) (k:=(· =_)) ⟨cs,hx,rfl⟩ w hs hf hd ha hi hin rfl;exact hr
 case indexAddr t x ix=>
  refine Reads.mk (s:=Instr.indexAt t (ρ x) (ρ ix)) rfl ?_;split at h
  ·rename_i e ht;split at h<;>try exact h.elim
   rename_i n hn;obtain⟨i,hi,hin⟩:=aG hn;obtain⟨b,o,n',c,kd,j,hx,Kt,h0,h1,hk⟩:=h;refine⟨_,hk,λw _=>?_⟩;obtain⟨u,hr,rfl⟩:=ai.run (P:=P) (k:=(· =_)) ⟨b,o,n',c,kd,j,hx,Kt,h0,h1,rfl⟩ w ht hi hin;exact hr
  ·rename_i len e ht;split at h<;>try exact h.elim
   rename_i n hn;obtain⟨i,hi,hin⟩:=aG hn;obtain⟨b,o,kd,j,hx,Kt,h0,h1,hk⟩:=h;refine⟨_,hk,λw _=>?_⟩;obtain⟨u,hr,rfl⟩:=di.run (P:=P) (k:=(· =_)) ⟨b,o,kd,j,hx,Kt,h0,h1,rfl⟩ w ht hi hin;exact hr
  exact h.elim
 case slice t x lo hi mx=>
  cases mx with
  |some m=>simp only at h;exact h.reads
  |none=>
   simp only at h;split at h
   ·rename_i e ht;split at h<;>try exact h.elim
    rename_i n hn;obtain⟨i,hi',hin⟩:=aG hn;obtain⟨a,n',c,l,hh,hx,hl,jX,h0,h1,h2,hk⟩:=h;refine Reads.mk (s:=Instr.sliceAt t (ρ x) (lo.map ρ) (hi.map ρ) none) rfl ⟨_,hk,λw _=>?_⟩;obtain⟨u,hr,rfl⟩:=cF.run (P:=P) (k:=(· =_)) ⟨a,n',c,l,hh,hx,hl,jX,h0,h1,h2,rfl⟩ w ht hi' hin;exact hr
   exact h.reads
 case extract t i=>
  obtain⟨vs,v,hx,hv,hk⟩:=h;refine Reads.mk (s:=Instr.extract (ρ t) i) rfl ⟨v,hk,λw _=>?_⟩;obtain⟨u,hr,rfl⟩:=Ext.run (P:=P) (k:=(· =v)) ⟨vs,v,hx,hv,rfl⟩ w;exact hr
 case lookup t m key ok=>
  split at h<;>try exact h.elim
  rename_i kt e ht;split at h<;>try exact h.elim
  rename_i kd z vj hz;obtain⟨i,hi,pK⟩:=bP hz;cases hp:plainKey kd<;>simp only[hp,xal,xah]at h
  ·cases Aw:bJ kd<;>simp only[Aw,xal,xah]at h
   ·exact h.reads
   exact Reads.mk (s:=Instr.lookup t (ρ m) (ρ key) ok) rfl (F4 h.fix λk hk w hw=>hk.run hw ht vj Aw hi pK)
  exact Reads.mk (s:=Instr.lookup t (ρ m) (ρ key) ok) rfl (F4 h.fix λk hk w hw=>hk.run hw ht vj hp hi pK)
 case makeFunc fn a b=>
  refine⟨_,h,λw _=>?_⟩;simp[execOp,Instr.makeFunc,mapList]
 case build t parts=>
  obtain⟨v,hr,hk⟩:=h;refine Reads.mk (s:=Instr.build t (parts.map λ(i,x)=>(i,ρ x))) rfl ⟨v,hk,λw _=>?_⟩;have:=hr w;rw[mapList (λp:Nat×Operand=>(p.1,ρ p.2)) parts]at this;exact this
 case makeInterface t x=>
  split at h
  ·exact h.elim
  ·rename_i d Fb hd;refine Reads.mk (s:=Instr.makeInterface t (ρ x)) rfl ⟨_,h,λw _=>?_⟩;simp only[Instr.makeInterface,Sem.run_bind,run_underlying hd,Result.andThen_ok];cases d<;>first|rfl|exact absurd hd (Fb _)
  exact h.elim
 case call c=>
  obtain⟨callee,args,argTypes⟩:=c;cases callee with
  |value f=>simp only at h
  |invoke r m=>simp only at h
  |builtin b=>
   cases b<;>simp only at h<;>try exact h.reads
   case max=>
    split at h<;>try exact h.reads
    rename_i x y t t' hx ht;split at h<;>try exact h.reads
    have hx:=rP hx;have ht:=rP ht;subst hx;subst ht;obtain⟨kd,a,b,h1,h2,hk⟩:=h;refine Reads.mk (s:=Builtin.max_ #[t,t'] type #[ρ x,ρ y]) (by simp[execOp,resolve,invoke,builtin,bind,Sem.bind];rfl) ⟨_,hk,λw _=>?_⟩;simp[Builtin.max_,Builtin.max2,h1,h2]
   case min=>
    split at h<;>try exact h.reads
    rename_i x y t t' hx ht;split at h<;>try exact h.reads
    have hx:=rP hx;have ht:=rP ht;subst hx;subst ht;obtain⟨kd,a,b,h1,h2,hk⟩:=h;refine Reads.mk (s:=Builtin.min_ #[t,t'] type #[ρ x,ρ y]) (by simp[execOp,resolve,invoke,builtin,bind,Sem.bind];rfl) ⟨_,hk,λw _=>?_⟩;simp[Builtin.min_,Builtin.min2,h1,h2]
   split at h<;>try exact h.elim
   rename_i x t hx ht;have hx:=Iw hx;have ht:=Iw ht;subst hx;subst ht;split at h
   ·rename_i e hd;refine Reads.mk (s:=Builtin.len_ #[t] type #[ρ x]) (by simp[execOp,resolve,invoke,builtin,bind,Sem.bind];rfl) ?_;obtain⟨a,n,c,hx,hk⟩:=h;refine⟨_,hk,λw _=>?_⟩;obtain⟨u,hr,rfl⟩:=bY.run (P:=P) (k:=(· =_)) ⟨a,n,c,hx,rfl⟩ w (ty:=type) hd;exact hr
   ·rename_i e e' hd;refine Reads.mk (s:=Builtin.len_ #[t] type #[ρ x]) (by simp[execOp,resolve,invoke,builtin,bind,Sem.bind];rfl) ?_;exact F4 h.fix λk hk w hw=>hk.run hw hd
   ·rename_i hd;refine Reads.mk (s:=Builtin.len_ #[t] type #[ρ x]) (by simp[execOp,resolve,invoke,builtin,bind,Sem.bind];rfl) ?_;obtain⟨s,hx,hk⟩:=h;exact⟨_,hk,λw _=>by simp[Builtin.len_,run_underlying hd,hx,goInt]⟩
   exact h.reads
 all_goals exact h.reads
def valOf(o:Oper)(ρ:Operand->zV)(v:zV):Prop:=
 match o.op with
 | .move x=>v=ρ x
 | .assign x=>v=ρ x
 | .pick c a b=>∀t,ρ c=.bool t->v=cond t (ρ a) (ρ b)
 |_=>True
theorem uV{o:Oper}{ρ:Operand->zV}{k:zV->Prop}(h:B3 P g o ρ H k):∃v,k v/\(∀w,Own g H w->(execOp ρ o).run P w=.ok (.value v) w)/\valOf o ρ v:=by
 obtain⟨dst,op,type,pos,after,guard⟩:=o;cases op
 case move x=>exact⟨_,h,λw _=>rfl,rfl⟩
 case assign x=>exact⟨_,h,λw _=>rfl,rfl⟩
 case pick c a b=>
  obtain⟨t,hc,hk⟩:=h;refine⟨_,hk,λw _=>?_,λt' ht'=>?_⟩
  ·cases t<;>simp[execOp,hc,asBool]
  rw[hc]at ht';simp only[Value.bool.injEq]at ht';subst ht';rfl
 all_goals
  obtain⟨v,hk,hr⟩:=fC h;exact⟨v,hk,hr,trivial⟩
end
end Go.Sx
namespace Go.Sx
open Go
section
variable {P:Program} {g:Gh} {H:Hp} {K:zV->Hp->Prop} {KP:List PanicEntry->Hp->Prop}
def ak(P:Program)(t len:Nat)(parts:List (Nat×zV))(H:Hp)(k:zV->Hp->Prop):Prop:=
 ∃cs,(∃e n z,P.underlying t=some (.slice e)/\bU P e=some n/\da P e=some z/\len*n<=2^24/\
   Instr.fill (λi=>some (i*n,n)) ((Array.range (len*n)).map (z.cells[· %z.cells.size]!)) parts=some cs/\
   sY H (.cells cs e zZ) λb H'=>k (.slice (some ⟨b,0,none⟩) len len) H')
def G0(P:Program)(g:Gh)(o:Oper)(ρ:Operand->zV)(H:Hp)(K:zV->Hp->Prop)(KP:List PanicEntry->Hp->Prop):Prop:=
 match o.op with
 | .alloc t=>match da P t with
  |some z=>sY H (.cells z.cells t zZ) λb H'=>K (.pointer (some ⟨b,0,none⟩)) H'
  |none=>False
 | .box t x=>sY H (.cells (ρ x).cells t zZ) λb H'=>K (.pointer (some ⟨b,0,none⟩)) H'
 | .store t a x=>match bU P t with
  |some n=>St n H (ρ a) (ρ x) λH'=>K undef H'
  |none=>False
 | .buildSlice t len parts=>ak P t len (parts.toList.map λp=>(p.1,ρ p.2)) H K
 | .makeMap _ none=>nu H K
 | .makeSlice t l c=>match P.underlying t with
  |some (.slice e)=>match bU P e,nh P e,da P e with
   |some n,some b,some z=>dJ e n b z H (ρ l) (ρ c) K
   |_,_,_=>False
  |_=>False
 | .mapUpdate t m key x=>match P.underlying t with
  |some (.map kt _)=>match P.underlying kt with
   |some kd=>cond (plainKey kd) (fm kd H (ρ m) (ρ key) (ρ x) λH'=>K undef H') (cond (bJ kd) (gm P kt H (ρ m) (ρ key) (ρ x) λH'=>K undef H') (dX P g o ρ H K KP))
   |none=>False
  |_=>False
 | .insert t m key x=>match P.underlying t with
  |some (.map kt _)=>match P.underlying kt with
   |some kd=>cond (plainKey kd) (fm kd H (ρ m) (ρ key) (ρ x) λH'=>K undef H') (cond (bJ kd) (gm P kt H (ρ m) (ρ key) (ρ x) λH'=>K undef H') (dX P g o ρ H K KP))
   |none=>False
  |_=>False
 | .range t x=>match P.underlying t with
  |some (.map _ _)=>Lx H (ρ x) K
  |_=>dX P g o ρ H K KP
 | .next it false=>Lz H (ρ it) K
 | .entry it=>FY H (ρ it) λv=>K v H
 | .call c=>
  match c.callee with
  | .value (.func f)=>cond (bE P f) (aa P g f (c.args.toList.map ρ).toArray H K KP) (dX P g o ρ H K KP)
  | .value f=>bp P g (ρ f) (c.args.toList.map ρ).toArray H K KP
  | .builtin .append=>
   match c.args.toList,c.argTypes.toList with
   | [s,x],[t,t']=>match P.underlying t,P.underlying t' with
    |some (.slice e),some (.slice _)=>match bU P e,nh P e,da P e with
     |some n,some b,some z=>App P e n b z H (ρ s) (ρ x) K
     |_,_,_=>False
    |_,_=>dX P g o ρ H K KP
   |_,_=>False
  | .builtin .delete=>
   match c.args.toList,c.argTypes.toList with
   | [m,key],[t,_]=>match P.underlying t with
    |some (.map kt _)=>match P.underlying kt with
     |some kd=>cond (plainKey kd) (s4 kd H (ρ m) (ρ key) λH'=>K (.tuple #[]) H') (cond (bJ kd) (jT P kt H (ρ m) (ρ key) λH'=>K (.tuple #[]) H') (dX P g o ρ H K KP))
     |none=>False
    |_=>False
   |_,_=>dX P g o ρ H K KP
  |_=>dX P g o ρ H K KP
 |_=>dX P g o ρ H K KP
theorem gY{t:TypeId}{n:Nat}(h:nh P t=some n):∃i,P.info? t=some i/\i.bytes=n:=by
 unfold nh at h;split at h
 ·rename_i i hi;exact⟨i,hi,by simpa using h⟩
 simp at h
theorem dX.ofValue{o:Oper}{ρ:Operand->zV}{s:Sem zV}(he:execOp ρ o=(do pure (.value (<-s))))(h:∀w,Own g H w->∃v w' H',s.run P w=.ok v w'/\Own g H' w'/\K v H'):dX P g o ρ H K KP:=by
 intro w hw;obtain⟨v,w',H',hr,ho,hk⟩:=h w hw;rw[he];simp only[Sem.run_bind,hr,Result.andThen_ok,Sem.run_pure];exact⟨H',ho,hk⟩
theorem dX.mF{o:Oper}{ρ:Operand->zV}{s:Sem Unit}(he:execOp ρ o=(do s;pure .skip))(h:∀w,Own g H w->∃w' H',s.run P w=.ok () w'/\Own g H' w'/\K undef H'):dX P g o ρ H K KP:=by
 intro w hw;obtain⟨w',H',hr,ho,hk⟩:=h w hw;rw[he];simp only[Sem.run_bind,hr,Result.andThen_ok,Sem.run_pure];exact⟨H',ho,hk⟩
theorem cO{f:FuncId}(h:bE P f=true)(args:Array zV)(w:World):(callFunc f args).run P w=.ok (.enter f args) w:=by
 unfold bE at h;split at h
 ·simp at h
 rename_i fn hf;simp only[xam,xbj]at h;obtain⟨h1,h2⟩:=h;have h3:fn.body.isNone=false:=by cases hb:fn.body<;>simp_all
 simp only[callFunc,Sem.run_bind,run_program,Result.andThen_ok,hf,show(fn.name== "runtime.NumGoroutine")=false from h1,h3,xas,xaG];rfl
theorem bp.op{o:Oper}{c:Call}{ρ:Operand->zV}{x:Operand}(ho:o.op=.call c)(hc:c.callee=.value x)(h:bp P g (ρ x) (c.args.toList.map ρ).toArray H K KP):dX P g o ρ H K KP:=by
 obtain⟨f,first,captured,hf,fO,vv⟩:=h;rw[mapList]at vv;intro w hw;have hr:(execOp ρ o).run P w=.ok (.enter f (first++c.args.map ρ++captured)) w:=by
  simp only[execOp,ho,resolve,hc,Deferred.ofValue,hf,invoke];show(callFunc f (first++c.args.map ρ++captured)).run P w=_;exact cO fO _ w
 rw[hr];exact vv w hw
theorem sk{o:Oper}{ρ:Operand->zV}(hρ:∀f,ρ (.func f)=.func (.func f) #[] #[])(h:G0 P g o ρ H K KP):dX P g o ρ H K KP:=by
 unfold G0 at h;split at h
 case h_1 t hop=>
  split at h
  ·rename_i z hz;obtain⟨i,hi,pK⟩:=bP hz;refine dX.ofValue (s:=Instr.alloc t true (.tuple #[])) (by simp only[execOp,hop]) λw hw=>⟨_,_,_,?_,hw.alloc _,h _ hw.fresh⟩;simp[Instr.alloc,cK hi pK,newVar,newRow]
  exact h.elim
 case h_2 t x hop=>
  refine dX.ofValue (s:=Instr.box t (ρ x)) (by simp only[execOp,hop]) λw hw=>⟨_,_,_,?_,hw.alloc _,h _ hw.fresh⟩;simp[Instr.box,newVar,newRow]
 case h_3 t a x hop=>
  split at h
  ·rename_i n hn;obtain⟨i,hi,hin⟩:=aG hn;exact dX.mF (s:=Instr.storeAt t (ρ a) (ρ x)) (by simp only[execOp,hop]) λw hw=>h.run hw hi hin
  exact h.elim
 case h_4 t len parts hop=>
  obtain⟨cs,e,n,z,ht,hn,hz,hl,hf,hk⟩:=h;obtain⟨i,hi,hin⟩:=aG hn;obtain⟨i',hi',pK⟩:=bP hz;have:i'=i:=xbd (hi'.symm.trans hi);subst this;subst hin;refine dX.ofValue (s:=Instr.buildSlice t len (parts.map λ(i,x)=>(i,ρ x))) (by simp only[execOp,hop]) λw hw=>⟨_,_,_,?_,hw.alloc _,hk _ hw.fresh⟩;have hl':¬(len*i'.size>2^24):=by omega
  have vg:(parts.map λ(x:Nat×Operand)=>(x.1,ρ x.2)).toList=parts.toList.map λp=>(p.1,ρ p.2):=by rw[xcN]
  by_cases h0:len*i'.size=0
  ·simp only[Instr.buildSlice,Sem.run_bind,run_underlying ht,Result.andThen_ok,run_sizeOf hi,hl',xaG,h0,xaS,Sem.run_pure];rw[h0]at hf;have Km:Array.range 0=#[]:=rfl;simp only[Km,xdz,List.map_toArray,xdv]at hf⊢;rw[vg,hf];simp[newRow]
  simp only[Instr.buildSlice,Sem.run_bind,run_underlying ht,Result.andThen_ok,run_sizeOf hi,hl',xaG,h0,cK hi pK,Sem.run_pure];simp[hf,newRow]
 case h_5 t hop=>
  refine dX.ofValue (s:=Instr.makeMap t none) (by simp only[execOp,hop];rfl) λw hw=>⟨_,_,_,?_,hw.alloc _,h _ hw.fresh⟩;simp[Instr.makeMap]
 case h_6 t l c hop=>
  split at h<;>try exact h.elim
  rename_i e ht;split at h<;>try exact h.elim
  rename_i n b z hn hb hz;obtain⟨i,hi,hin⟩:=aG hn;obtain⟨i',hi',pK⟩:=bP hz;obtain⟨i2,Eg,HK⟩:=gY hb;have e1:i'=i:=xbd (hi'.symm.trans hi);have e2:i2=i:=xbd (Eg.symm.trans hi);subst e1;subst e2;exact dX.ofValue (s:=Instr.makeSlice t (ρ l) (ρ c)) (by simp only[execOp,hop]) λw hw=>h.run hw ht hi pK hin HK
 case h_7 t m key x hop=>
  split at h<;>try exact h.elim
  rename_i kt e ht;split at h<;>try exact h.elim
  rename_i kd vj;cases hp:plainKey kd<;>simp only[hp,xal,xah]at h
  ·cases Aw:bJ kd<;>simp only[Aw,xal,xah]at h
   ·exact h
   exact dX.mF (s:=Instr.mapUpdate t (ρ m) (ρ key) (ρ x)) (by simp only[execOp,hop]) λw hw=>h.run hw ht vj Aw
  exact dX.mF (s:=Instr.mapUpdate t (ρ m) (ρ key) (ρ x)) (by simp only[execOp,hop]) λw hw=>h.run hw ht vj hp
 case h_8 t m key x hop=>
  split at h<;>try exact h.elim
  rename_i kt e ht;split at h<;>try exact h.elim
  rename_i kd vj;cases hp:plainKey kd<;>simp only[hp,xal,xah]at h
  ·cases Aw:bJ kd<;>simp only[Aw,xal,xah]at h
   ·exact h
   exact dX.mF (s:=Instr.mapUpdate t (ρ m) (ρ key) (ρ x)) (by simp only[execOp,hop]) λw hw=>h.run hw ht vj Aw
  exact dX.mF (s:=Instr.mapUpdate t (ρ m) (ρ key) (ρ x)) (by simp only[execOp,hop]) λw hw=>h.run hw ht vj hp
 case h_9 t x hop=>
  split at h
  ·rename_i kt e ht;exact dX.ofValue (s:=Instr.range t (ρ x)) (by simp only[execOp,hop]) λw hw=>h.run hw ht
  exact h
 case h_10 it hop=>
  exact dX.ofValue (s:=Instr.next (ρ it) false o.type) (by simp only[execOp,hop]) λw hw=>h.run hw
 case h_11 it hop=>
  exact dX.ofValue (s:=Instr.entry (ρ it)) (by simp only[execOp,hop]) λw hw=>let ⟨v,hr,hk⟩:=h.run hw;⟨v,w,H,hr,hw,hk⟩
 case h_12 c hop=>
  split at h
  ·rename_i f hc;cases fO:bE P f<;>simp only[fO,xal,xah]at h
   ·exact h
   rw[mapList]at h;intro w hw;have hr:(execOp ρ o).run P w=.ok (.enter f (c.args.map ρ)) w:=by
    simp only[execOp,hop,resolve,hc,Deferred.ofValue,hρ,invoke];show(callFunc f ((#[]++c.args.map ρ)++ #[])).run P w=_;rw[xb7,xcz];exact cO fO _ w
   rw[hr];exact h w hw
  ·rename_i x _ hc;exact bp.op hop hc h
  ·rename_i hc;split at h<;>try exact h.elim
   rename_i s x t t' hx ht;have hx:=rP hx;have ht:=rP ht;split at h
   ·rename_i e e' hd jY;split at h<;>try exact h.elim
    rename_i n b z hn hb hz;obtain⟨i,hi,hin⟩:=aG hn;obtain⟨i',hi',pK⟩:=bP hz;obtain⟨i2,Eg,HK⟩:=gY hb;have e1:i'=i:=xbd (hi'.symm.trans hi);have e2:i2=i:=xbd (Eg.symm.trans hi);subst e1;subst e2;refine dX.ofValue (s:=Builtin.append_ #[t,t'] o.type #[ρ s,ρ x]) ?_ λw hw=>h.run hw hd ⟨_,jY⟩ hi pK hin HK;simp only[execOp,hop,resolve,hc,hx,ht,invoke,builtin];simp[bind,Sem.bind];rfl
   exact h
  ·rename_i hc;split at h
   ·rename_i m key t t' hx ht;have hx:=rP hx;have ht:=rP ht;split at h<;>try exact h.elim
    rename_i kt e hd;split at h<;>try exact h.elim
    rename_i kd vj;cases hp:plainKey kd<;>simp only[hp,xal,xah]at h
    ·cases Aw:bJ kd<;>simp only[Aw,xal,xah]at h
     ·exact h
     refine dX.ofValue (s:=Builtin.delete_ #[t,t'] o.type #[ρ m,ρ key]) ?_ λw hw=>?_
     ·simp only[execOp,hop,resolve,hc,hx,ht,invoke,builtin];simp[bind,Sem.bind];rfl
     obtain⟨w',H',hr,ho,hk⟩:=h.run (P:=P) hw (as:=#[t,t']) (ty:=o.type) rfl hd vj Aw;exact⟨_,w',H',hr,ho,hk⟩
    refine dX.ofValue (s:=Builtin.delete_ #[t,t'] o.type #[ρ m,ρ key]) ?_ λw hw=>?_
    ·simp only[execOp,hop,resolve,hc,hx,ht,invoke,builtin];simp[bind,Sem.bind];rfl
    obtain⟨w',H',hr,ho,hk⟩:=h.run (P:=P) hw (as:=#[t,t']) (ty:=o.type) rfl hd vj hp;exact⟨_,w',H',hr,ho,hk⟩
   exact h
  exact h
 all_goals exact h
end
end Go.Sx
namespace Go.Sx
open Go
section
variable {P:Program} {g:Gh} {ds:List Deferred}
def mQ:Op->Bool
 | .move _| .assign _| .pick .. | .load .. | .nilCheck _| .binOp .. | .unOp .. | .convert .. | .fieldAddr .. | .field .. | .indexAddr .. | .index .. | .slice .. | .extract .. | .lookup .. | .makeFunc .. | .build .. | .makeInterface ..
 | .typeAssert .. =>true
 | .call c=>match c.callee with
  | .builtin .len| .builtin .cap| .builtin .min| .builtin .max=>true
  |_=>false
 |_=>false
def Ew(P:Program)(g:Gh)(f:FuncId)(args:Array zV)(H:Hp)(k:zV->Prop):Prop:=
 ∃v,aT P g f args H (λe H'=>e=.returned v/\H'=H)/\k v
def JT(P:Program)(g:Gh)(o:Oper)(ρ:Operand->zV)(H:Hp)(k:zV->Prop):Prop:=
 match o.op with
 | .call c=>match c.callee with
  | .value (.func f)=>cond (bE P f) (Ew P g f (c.args.toList.map ρ).toArray H k) False
  | .value x=>∃f first captured,ρ x=.func (.func f) first captured/\bE P f=true/\Ew P g f (first++(c.args.toList.map ρ).toArray++captured) H k
  |_=>False
 |_=>False
def bu:Option (Nat×Bool)->Option (Nat×Bool)->Bool
 |none,none=>true
 |some (i,a),some (j,b)=>Nat.beq i j&& (a==b)
 |_,_=>false
theorem ej{x y:Option (Nat×Bool)}(h:bu x y=true):x=y:=by
 cases x with
 |none=>cases y<;>simp_all[bu]
 |some a=>
  obtain⟨i,a⟩:=a;cases y with
  |none=>simp[bu]at h
  |some b=>
   obtain⟨j,b⟩:=b;simp only[bu,xam,xcn]at h;rw[xap h.1,h.2]
def dA(cur:Option (Nat×Bool)):List Oper->List Oper
 | []=>[]
 |o::r=>cond (bu o.guard cur) [] (o::dA cur r)
def dW(cur:Option (Nat×Bool)):List Oper->List Oper
 | []=>[]
 |o::r=>cond (bu o.guard cur) (o::r) (dW cur r)
theorem kQ(cur:Option (Nat×Bool))(l:List Oper):dA cur l++dW cur l=l:=by
 induction l with
 |nil=>rfl
 |cons o r ih=>simp only[dA,dW];cases bu o.guard cur<;>simp[ih]
def kS:List Oper->Fr->Fr
 | [],fr=>fr
 |o::r,fr=>kS r (cz fr o.dst undef)
def aB:List Oper->Nat->Bool
 | [],_=>false
 |o::r,s=>(match o.dst with|some d=>Nat.beq s d|none=>false)||aB r s
def eO(n:Nat):List Oper->Bool
 | []=>true
 |o::r=>cQ n o.dst&&eO n r
def kB(G:List Oper)(gs fr:Fr):Fr:=λs=>cond (aB G s) (gs s) (fr s)
def iX(p:Oper)(fr:Fr):zV:=
 match p.op with
 | .pick c a b=>match ev fr c with
  | .bool t=>cond t (ev fr a) (ev fr b)
  |_=>undef
 |_=>undef
def kx(p:Oper):Bool:=match p.op with| .pick .. =>true|_=>false
def cE(ops:Array Oper)(j:Nat):Option Nat:=match ops[j]? with|some oj=>oj.dst|none=>none
def gD(ops:Array Oper)(s:Nat)(want:Bool):zL->List Oper->Bool
 |_,[]=>true
 |seen,o::r=>
  (match o.guard with
  |none=>false
  |some (j,w)=>match cE ops j with
   |none=>false
   |some t=>(Nat.beq t s&& (w==want))||seen.any (Nat.beq t)) &&
  gD ops s want (match o.dst with|some d=>d::seen|none=>seen) r
def bL(v:zV)(want:Bool)(inner els k:Bool->Prop):Prop:=∃a t:Bool,v=.bool a/\(a=want->inner t)/\(a= !want->els t)/\k t
def Split(v:zV)(want:Bool)(k1 k2:Prop):Prop:=∃a:Bool,v=.bool a/\(a=want->k1)/\(a= !want->k2)
def fH:List (Nat×Bool)->Nat->Option Bool
 | [],_=>none
 |(t,b)::r,s=>cond (Nat.beq t s) (some b) (fH r s)
def gw:List (Nat×Bool)->Option Nat->List (Nat×Bool)
 |kn,none=>kn
 | [],some _=>[]
 |(t,b)::r,some d=>cond (Nat.beq t d) (gw r (some d)) ((t,b)::gw r (some d))
def fY:List (Nat×Bool)->List Oper->List (Nat×Bool)
 |kn,[]=>kn
 |kn,o::r=>fY (gw kn o.dst) r
def jz(kn:List (Nat×Bool)):Operand->Option Bool
 | .const (.bool b)=>some b
 | .tmp t=>fH kn t
 |_=>none
def EZ(kn:List (Nat×Bool))(o:Oper):Option Bool:=
 match o.op with
 | .move x=>jz kn x
 | .assign x=>jz kn x
 | .pick c a b=>match jz kn c with
  |some true=>jz kn a
  |some false=>jz kn b
  |none=>none
 |_=>none
def EY(kn:List (Nat×Bool))(o:Oper):List (Nat×Bool):=
 match EZ kn o,o.dst with
 |some b,some d=>(d,b)::gw kn (some d)
 |_,d=>gw kn d
def dG(kn:List (Nat×Bool))(fr:Fr):Prop:=∀s b,fH kn s=some b->fr s=.bool b
theorem dG.nil(fr:Fr):dG [] fr:=λs b h=>by simp[fH]at h
theorem oK{kn:List (Nat×Bool)}{d s:Nat}{b:Bool}(h:fH (gw kn (some d)) s=some b):s≠d/\fH kn s=some b:=by
 induction kn with
 |nil=>simp[gw,fH]at h
 |cons x r ih=>
  obtain⟨t,c⟩:=x;simp only[gw]at h;cases hb:Nat.beq t d<;>simp only[hb,xal,xah]at h
  ·simp only[fH]at h⊢;cases hs:Nat.beq t s<;>simp only[hs,xal,xah]at h⊢
   ·exact ih h
   refine⟨λe=>?_,h⟩;have:=xap hs;subst this;subst e;simp at hb
  have h':=ih h;refine⟨h'.1,?_⟩;simp only[fH];have:=xap hb;subst this;cases hs:Nat.beq t s
  ·exact h'.2
  exact absurd (xap hs).symm h'.1
theorem dG.del{kn:List (Nat×Bool)}{fr:Fr}(h:dG kn fr)(d:Option Nat)(v:zV):dG (gw kn d) (cz fr d v):=by
 cases d with
 |none=>cases kn<;>exact h
 |some d=>
  intro s b hs;obtain⟨h1,h2⟩:=oK hs;simp only[cz];cases hb:Nat.beq s d
  ·exact h s b h2
  exact absurd (xap hb) h1
theorem dG.put{kn:List (Nat×Bool)}{fr:Fr}(h:dG kn fr){s:Nat}{b:Bool}(hs:fr s=.bool b):dG ((s,b)::kn) fr:=by
 intro t c ht;simp only[fH]at ht;cases hb:Nat.beq s t<;>simp only[hb,xal,xah]at ht
 ·exact h t c ht
 have:=xap hb;subst this;simp only[xao]at ht;subst ht;exact hs
theorem fG{kn:List (Nat×Bool)}{fr:Fr}(h:dG kn fr){x:Operand}{b:Bool}(hx:jz kn x=some b):ev fr x=.bool b:=by
 cases x with
 |tmp t=>exact h t b hx
 |const v=>cases v<;>simp[jz]at hx;subst hx;rfl
 |global g=>simp[jz]at hx
 |func f=>simp[jz]at hx
theorem C8{kn:List (Nat×Bool)}{fr:Fr}(h:dG kn fr){o:Oper}{v:zV}(hv:valOf o (ev fr) v){b:Bool}(hb:EZ kn o=some b):v=.bool b:=by
 unfold EZ at hb;unfold valOf at hv;split at hb
 ·rename_i x hop;rw[hop]at hv;exact hv.trans (fG h hb)
 ·rename_i x hop;rw[hop]at hv;exact hv.trans (fG h hb)
 ·rename_i c a b' hop;rw[hop]at hv;split at hb
  ·rename_i hc;rw[hv _ (fG h hc)];exact fG h hb
  ·rename_i hc;rw[hv _ (fG h hc)];exact fG h hb
  simp at hb
 simp at hb
theorem dG.up{kn:List (Nat×Bool)}{fr:Fr}(h:dG kn fr){o:Oper}{v:zV}(hv:valOf o (ev fr) v):dG (EY kn o) (cz fr o.dst v):=by
 unfold EY;split
 ·rename_i b d hb hd;rw[hd];exact(h.del (some d) v).put (by simp[cz,C8 h hv hb])
 exact h.del _ _
theorem dG.Im{kn:List (Nat×Bool)}{fr fr':Fr}:∀(l:List Oper),dG kn fr->(∀s,aB l s=false->fr' s=fr s)->dG (fY kn l) fr':=by
 intro l;have key:∀(l:List Oper) (kn:List (Nat×Bool)) (s:Nat) (b:Bool),fH (fY kn l) s=some b->aB l s=false/\fH kn s=some b:=by
  intro l;induction l with
  |nil=>intro kn s b h;exact⟨rfl,h⟩
  |cons o r ih=>
   intro kn s b h;simp only[fY]at h;obtain⟨h1,h2⟩:=ih _ s b h;simp only[aB,h1,Bool.or_false];cases hd:o.dst with
   |none=>rw[hd]at h2;exact⟨rfl,by cases kn<;>exact h2⟩
   |some d=>
    rw[hd]at h2;obtain⟨h3,h4⟩:=oK h2;refine⟨?_,h4⟩;cases hb:Nat.beq s d
    ·exact hb
    exact absurd (xap hb) h3
 intro h ho s b hs;obtain⟨h1,h2⟩:=key l kn s b hs;rw[ho s h1];exact h s b h2
def ct(P:Program)(g:Gh)(n:Nat)(ops:Array Oper)(gq:Bool):Nat->Bool->Option (Nat×Bool)->List (Nat×Bool)->List Oper->Fr->Hp->(List (Nat×Bool)->Fr->Hp->Prop)->(List PanicEntry->Hp->Prop)->Prop
 |0,_,_,_,_,_,_,_,_=>False
 |_+1,_,_,kn,[],fr,H,K,_=>K kn fr H
 |f+1,q,cur,kn,o::r,fr,H,K,KP=>
  cond (bu o.guard cur)
   (cond (cQ n o.dst)
    (cond (mQ o.op) (B3 P g o (ev fr) H λv=>ct P g n ops gq f q cur (EY kn o) r (cz fr o.dst v) H K KP)
     (cond q (JT P g o (ev fr) H λv=>ct P g n ops gq f q cur (gw kn o.dst) r (cz fr o.dst v) H K KP)
      (G0 P g o (ev fr) H (λv H'=>ct P g n ops gq f q cur (gw kn o.dst) r (cz fr o.dst v) H' K KP) KP))) False)
   (match o.guard with
   |none=>False
   |some (j,want)=>
    match cE ops j with
    |none=>False
    |some s=>
     cond (cQ n (some s) &&eO n (dA cur (o::r)) && !aB (dA cur (o::r)) s&&gD ops s want [] (dA cur (o::r)))
     (match fH kn s with
     |some b=>cond (b==want)
       (ct P g n ops gq f q o.guard kn (dA cur (o::r)) fr H (λiE fr' H'=>ct P g n ops gq f q cur iE (dW cur (o::r)) fr' H' K KP) KP)
       (ct P g n ops gq f q cur (fY kn (dA cur (o::r))) (dW cur (o::r)) (kS (dA cur (o::r)) fr) H K KP)
     |none=>
     cond (q||gq)
      (match dW cur (o::r)with
      | []=>False
      |p::r'=>
       cond (kx p&&cQ n p.dst)
       (bL (fr s) want
        (λt=>ct P g n ops gq f true o.guard ((s,want)::kn) (dA cur (o::r)) (cz fr (some s) (.bool want)) H (λ_ fr' H'=>H'=H/\iX p fr'=.bool t) (λ_ _=>False))
        (λt=>iX p (kS (dA cur (o::r)) (cz fr (some s) (.bool !want)))=.bool t)
        (λt=>∀gs,ct P g n ops gq f q cur (gw (fY kn (dA cur (o::r))) p.dst) r' (cz (kB (dA cur (o::r)) gs fr) p.dst (.bool t)) H K KP)) False)
      (Split (fr s) want
       (ct P g n ops gq f q o.guard ((s,want)::kn) (dA cur (o::r)) (cz fr (some s) (.bool want)) H (λiE fr' H'=>ct P g n ops gq f q cur iE (dW cur (o::r)) fr' H' K KP) KP)
       (ct P g n ops gq f q cur ((s, !want)::fY kn (dA cur (o::r))) (dW cur (o::r)) (kS (dA cur (o::r)) (cz fr (some s) (.bool !want))) H K KP))) False)
theorem fw{fr:Fr}{s:Nat}{v:zV}(h:fr s=v):cz fr (some s) v=fr:=by
 funext x
 simp only[cz];cases hb:Nat.beq x s
 ·rfl
 have:=xap hb;subst this;simp[h]
theorem cZ{fr:Fr}{d:Option Nat}{v:zV}{s:Nat}(h:aB [({(default:Oper)with dst:=d})] s=false):cz fr d v s=fr s:=by
 cases d with
 |none=>rfl
 |some d=>simp only[aB,Bool.or_false]at h;simp only[cz,h,xah]
theorem bI{o:Oper}{r:List Oper}{s:Nat}:aB (o::r) s=(aB [({(default:Oper)with dst:=o.dst})] s||aB r s):=by
 simp[aB]
theorem aX{a b:List Oper}{s:Nat}:aB (a++b) s=(aB a s||aB b s):=by
 induction a with
 |nil=>simp[aB]
 |cons o r ih=>simp only[xaF,aB,ih,Bool.or_assoc]
def cD(l:List Oper)(fr fr':Fr):Prop:=∀s,aB l s=false->fr' s=fr s
def fM(ops:Array Oper)(cur:Option (Nat×Bool))(l:List Oper)(fr:Fr):Prop:=
 match cur with
 |none=>True
 |some (j,want)=>∃s,cE ops j=some s/\fr s=.bool want/\aB l s=false
theorem fM.tail{ops:Array Oper}{cur:Option (Nat×Bool)}{o:Oper}{r:List Oper}{fr fr':Fr}(h:fM ops cur (o::r) fr)(he:∀s,aB [({(default:Oper)with dst:=o.dst})] s=false->fr' s=fr s):fM ops cur r fr':=by
 unfold fM at*;split
 ·trivial
 obtain⟨s,h1,h2,h3⟩:=h;rw[bI,xar]at h3;exact⟨s,h1,(he s h3.1).trans h2,h3.2⟩
theorem fP{n:Nat}{ops:Array Oper}{a:Act}{fr:Fr}(h:aY ds n a fr){j s:Nat}(hs:cE ops j=some s):yielded ops a.tmps j=match fr s with| .bool b=>some b|_=>none:=by
 unfold cE at hs;split at hs
 ·rename_i oj hj;have hg:=h.get s;rw[xaj]at hg;simp only[yielded,hj,xcO,hs];cases ht:a.tmps[s]? with
  |none=>rw[ht]at hg;simp only[xco]at hg;rw[<-hg];rfl
  |some v=>rw[ht]at hg;simp only[xcp]at hg;rw[<-hg];cases v<;>rfl
 ·simp at hs
theorem fM.wanted{n:Nat}{ops:Array Oper}{cur:Option (Nat×Bool)}{l:List Oper}{fr:Fr}(h:fM ops cur l fr){o:Oper}(ho:o.guard=cur){a:Act}(ha:aY ds n a fr):Region.wanted o (yielded ops a.tmps)=true:=by
 unfold fM at h;unfold Region.wanted;rw[ho];split at h
 ·rfl
 obtain⟨s,h1,h2,_⟩:=h;simp only[fP ha h1,h2,beq_self_eq_true]
theorem iW{p:Oper}{fr:Fr}{t:Bool}(hp:kx p=true)(h:iX p fr=.bool t)(w:World):(execOp (ev fr) p).run P w=.ok (.value (.bool t)) w:=by
 unfold kx at hp;split at hp<;>try (simp at hp;done)
 rename_i c a b hop;simp only[iX,hop]at h;split at h
 ·rename_i t' hc;simp only[execOp,hop,hc,asBool];cases t'<;>simp only[xal,xah]at h<;>simp[h]
 simp[undef]at h
theorem g8{n:Nat}{ops:Array Oper}{Q:Exit->Act->World->Prop}{s:Nat}{want:Bool}{w:World}{rest:List Oper}:∀(l:List Oper) (seen:zL) (fr:Fr) (a:Act),eO n l=true->aB l s=false->gD ops s want seen l=true->
  fr s=.bool (!want)->(∀t∈seen,fr t=undef)->aY ds n a fr->(∀a',aY ds n a' (kS l fr)->wpList P ops Q rest a' w)->wpList P ops Q (l++rest) a w
 | [],_,fr,a,_,_,_,_,_,ha,hk=>hk a ha
 |o::r,seen,fr,a,hd,hi,hs,hf,mT,ha,hk=>by
  simp only[eO,xam]at hd;rw[bI,xar]at hi;simp only[gD,xam]at hs;obtain⟨hs1,kA⟩:=hs;have HA:Region.wanted o (yielded ops a.tmps)=false:=by
   unfold Region.wanted;split at hs1
   ·simp at hs1
   rename_i j w' hg;rw[hg];split at hs1
   ·simp at hs1
   rename_i t ht;simp only[fP ha ht];simp only[xby,xam,xcn]at hs1;rcases hs1 with⟨h1,rfl⟩|h1
   ·have:=xap h1;subst this;rw[hf];cases w'<;>rfl
   obtain⟨u,hu,hb⟩:=xbE.1 h1;have:=xap hb;subst this;rw[mT _ hu];rfl
  simp only[xaF,wpList,HA,xas,xaG];refine g8 r _ (cz fr o.dst undef) _ hd.2 hi.2 kA ?_ ?_ (ha.put hd.1 undef) (λa' h'=>hk a' h')
  ·rw[cZ hi.1,hf]
  intro t ht;cases AG:o.dst with
  |none=>rw[AG]at ht;exact mT t ht
  |some d=>
   rw[AG]at ht;simp only[cz];cases hb:Nat.beq t d
   ·simp only[xah];rcases xaf.1 ht with rfl|ht
    ·simp at hb
    exact mT t ht
   rfl
theorem iS{n:Nat}{ops:Array Oper}{C:World->Prop}{Q:Act->Prop}{s:Nat}{want:Bool}{rest:List Oper}:∀(l:List Oper) (seen:zL) (fr:Fr) (a:Act),eO n l=true->aB l s=false->gD ops s want seen l=true->
  fr s=.bool (!want)->(∀t∈seen,fr t=undef)->aY ds n a fr->(∀a',aY ds n a' (kS l fr)->wpQuiet P ops C Q rest a')->wpQuiet P ops C Q (l++rest) a
 | [],_,fr,a,_,_,_,_,_,ha,hk=>hk a ha
 |o::r,seen,fr,a,hd,hi,hs,hf,mT,ha,hk=>by
  simp only[eO,xam]at hd;rw[bI,xar]at hi;simp only[gD,xam]at hs;obtain⟨hs1,kA⟩:=hs;have HA:Region.wanted o (yielded ops a.tmps)=false:=by
   unfold Region.wanted;split at hs1
   ·simp at hs1
   rename_i j w' hg;rw[hg];split at hs1
   ·simp at hs1
   rename_i t ht;simp only[fP ha ht];simp only[xby,xam,xcn]at hs1;rcases hs1 with⟨h1,rfl⟩|h1
   ·have:=xap h1;subst this;rw[hf];cases w'<;>rfl
   obtain⟨u,hu,hb⟩:=xbE.1 h1;have:=xap hb;subst this;rw[mT _ hu];rfl
  simp only[xaF,wpQuiet,HA,xas,xaG];refine iS r _ (cz fr o.dst undef) _ hd.2 hi.2 kA ?_ ?_ (ha.put hd.1 undef) (λa' h'=>hk a' h')
  ·rw[cZ hi.1,hf]
  intro t ht;cases AG:o.dst with
  |none=>rw[AG]at ht;exact mT t ht
  |some d=>
   rw[AG]at ht;simp only[cz];cases hb:Nat.beq t d
   ·simp only[xah];rcases xaf.1 ht with rfl|ht
    ·simp at hb
    exact mT t ht
   rfl
theorem bO:∀(l:List Oper) (fr:Fr),cD l fr (kS l fr)
 | [],fr=>λs _=>rfl
 |o::r,fr=>λs hs=>by
  rw[bI,xar]at hs;rw[kS,bO r _ s hs.2,cZ hs.1]
end
end Go.Sx
namespace Go.Sx
open Go
section
variable {P:Program} {g:Gh} {ds:List Deferred}
theorem mm(fr:Fr):∀f,ev fr (.func f)=.func (.func f) #[] #[]:=λ_=>rfl
theorem uU{o:Oper}{fr:Fr}{H:Hp}{k:zV->Prop}(h:JT P g o (ev fr) H k):
  ∃v f args,(∀w,(execOp (ev fr) o).run P w=.ok (.enter f args) w)/\aT P g f args H (λe H'=>e=.returned v/\H'=H)/\k v:=by
 unfold JT at h;split at h<;>try exact h.elim
 rename_i c hop;split at h<;>try exact h.elim
 ·rename_i f hc;cases fO:bE P f<;>simp only[fO,xal,xah]at h;obtain⟨v,hs,hk⟩:=h;rw[mapList]at hs;refine⟨v,f,_,λw=>?_,hs,hk⟩;simp only[execOp,hop,resolve,hc,Deferred.ofValue,mm,invoke];show(callFunc f ((#[]++c.args.map (ev fr))++ #[])).run P w=_;rw[xb7,xcz];exact cO fO _ w
 rename_i x _ hc;obtain⟨f,first,captured,hf,fO,v,hs,hk⟩:=h;rw[mapList]at hs;refine⟨v,f,_,λw=>?_,hs,hk⟩;simp only[execOp,hop,resolve,hc,Deferred.ofValue,hf,invoke];show(callFunc f (first++c.args.map (ev fr)++captured)).run P w=_;exact cO fO _ w
theorem rX.upon{o:Oper}{a:Act}{K:zV->Hp->Prop}{KP:List PanicEntry->Hp->Prop}{next:Act->World->Prop}{Q:Exit->Act->World->Prop}{r:Result Next}
 (h:rX P g K KP r)(hn:∀v H' w',Own g H' w'->K v H'->next (a.put o.dst v) w')(hp:∀ch H' w',Own g H' w'->KP ch H'->Q (.panic ch) a w'):o.upon P a next Q r:=by
 cases r with
 |ok n w'=>
  cases n<;>simp only[rX]at h<;>simp only[Oper.upon]
  case value v=>obtain⟨H',ho,hk⟩:=h;exact hn _ _ _ ho hk
  case skip=>obtain⟨H',ho,hk⟩:=h;exact hn _ _ _ ho hk
  case enter f args=>
   refine h.mono λe w'' ⟨H',ho,hk⟩=>?_;cases e with
   |returned v=>exact hn _ _ _ ho hk
   |panicked ch=>exact hp _ _ _ ho hk
   |outgrown=>exact hk.elim
 |halt x w'=>
  cases x<;>simp only[rX]at h
  case panic v=>obtain⟨H',ho,hk⟩:=h;exact hp _ _ _ ho hk
theorem cD.refl(l:List Oper)(fr:Fr):cD l fr fr:=λ_ _=>rfl
theorem cD.cons{o:Oper}{r:List Oper}{fr fr':Fr}{v:zV}(h:cD r (cz fr o.dst v) fr'):cD (o::r) fr fr':=λs hs=>by
 rw[bI,xar]at hs;rw[h s hs.2,cZ hs.1]
theorem bc{n:Nat}{ops:Array Oper}{gq:Bool}:∀(f:Nat) (q:Bool) (cur:Option (Nat×Bool)) (kn:List (Nat×Bool)) (l:List Oper) (fr:Fr) (H:Hp) (K:List (Nat×Bool)->Fr->Hp->Prop) (KP:List PanicEntry->Hp->Prop),
  ct P g n ops gq f q cur kn l fr H K KP->fM ops cur l fr->dG kn fr->∀(a:Act) (w:World),aY ds n a fr->Own g H w->∀(rest:List Oper) (Q:Exit->Act->World->Prop),
  (∀a' w' iE fr' H',aY ds n a' fr'->Own g H' w'->cD l fr fr'->dG iE fr'->K iE fr' H'->wpList P ops Q rest a' w')->
  (∀ch a' w' fr' H',aY ds n a' fr'->Own g H' w'->KP ch H'->Q (.panic ch) a' w')->wpList P ops Q (l++rest) a w
 |0,_,_,_,_,_,_,_,_,h=>h.elim
 |f+1,q,cur,kn,[],fr,H,K,KP,h=>λ_ hkn a w ha hw rest Q hk _=>hk a w kn fr H ha hw (cD.refl _ _) hkn h
 |f+1,q,cur,kn,o::r,fr,H,K,KP,h=>by
  intro l5 hkn a w ha hw rest Q hk hp;unfold ct at h;cases yK:bu o.guard cur<;>simp only[yK,xal,xah]at h
  case true=>
   have hg:=ej yK;have iF:=l5.wanted hg ha;cases hd:cQ n o.dst<;>simp only[hd,xal,xah]at h;simp only[xaF,wpList,iF,xaS];refine .inl ?_;unfold Oper.wp;rw[ha.eval];cases qY:mQ o.op<;>simp only[qY,xal,xah]at h
   case true=>
    obtain⟨v,hk',hr,hv⟩:=uV h;rw[hr w hw];exact bc f q cur _ r _ H K KP hk' (l5.tail λs hs=>cZ hs) (hkn.up hv) _ w (ha.put hd v) hw rest Q (λa' w' iE fr' H' h1 h2 h3 h5 h4=>hk a' w' iE fr' H' h1 h2 h3.cons h5 h4) hp
   case false=>
    cases q<;>simp only[xal,xah]at h
    case true=>
     obtain⟨v,f',args,hr,hs,hk'⟩:=uU h;rw[hr w];refine(hs w hw).mono λe w'' ⟨H',ho,he,hH⟩=>?_;subst he;subst hH;exact bc f true cur _ r _ H' K KP hk' (l5.tail λs hs=>cZ hs) (hkn.del _ _) _ w'' (ha.put hd v) ho rest Q (λa' w' iE fr' H' h1 h2 h3 h5 h4=>hk a' w' iE fr' H' h1 h2 h3.cons h5 h4) hp
    case false=>
     refine(sk (mm fr) h w hw).upon (λv H' w' ho hk'=>?_) (λch H' w' ho hk'=>hp ch a w' fr H' ha ho hk');exact bc f false cur _ r _ H' K KP hk' (l5.tail λs hs=>cZ hs) (hkn.del _ _) _ w' (ha.put hd v) ho rest Q (λa' w' iE fr' H' h1 h2 h3 h5 h4=>hk a' w' iE fr' H' h1 h2 h3.cons h5 h4) hp
  case false=>
   split at h<;>try exact h.elim
   rename_i j want Ga;split at h<;>try exact h.elim
   rename_i s fh;generalize hG:dA cur (o::r)=G at h;generalize hR:dW cur (o::r)=R at h;have vy:G++R=o::r:=by rw[<-hG,<-hR];exact kQ _ _
   cases c7:(cQ n (some s) &&eO n G&& !aB G s&&gD ops s want [] G)<;>simp only[c7,xal,xah]at h;simp only[xam,xbj]at c7;obtain⟨⟨⟨hds,Gm⟩,yM⟩,F9⟩:=c7;rw[<-vy,xau];have Mm:∀fr',cD G fr fr'->∀s,aB (o::r) s=false->fr' s=fr s:=λfr' ho s hs=>by
    rw[<-vy,aX,xar]at hs;exact ho s hs.1
   have gR:∀fr',cD G fr fr'->fM ops cur R fr':=λfr' ho=>by
    unfold fM at l5⊢;split
    ·trivial
    obtain⟨t,h1,h2,h3⟩:=l5;have pO:=h3;rw[<-vy,aX,xar]at pO;exact⟨t,h1,(ho t pO.1).trans h2,pO.2⟩
   have wV:∀fr',cD G fr fr'->dG (fY kn G) fr':=λfr' ho=>hkn.Im G ho;split at h
   ·rename_i b hb;have iH:=hkn s b hb;cases Dq:(b==want)<;>simp only[Dq,xal,xah]at h
    ·have iu:b= !want:=by cases b<;>cases want<;>simp_all
     subst iu;refine g8 G [] fr a Gm yM F9 iH (λt ht=>by simp at ht) ha λa' bT=>?_;refine bc f q cur _ R _ H K KP h (gR _ (bO G fr)) (wV _ (bO G fr)) a' w bT hw rest Q (λa2 w2 sr k9 H2 k1 k2 k3 k5 k4=>hk a2 w2 sr k9 H2 k1 k2 ?_ k5 k4) hp;intro x hx;have hx':=hx;rw[<-vy,aX,xar]at hx';rw[k3 x hx'.2,bO G fr x hx'.1]
    have iu:b=want:=by cases b<;>cases want<;>simp_all
    subst iu;refine bc f q o.guard kn G fr H _ KP h ?_ hkn a w ha hw (R++rest) Q ?_ hp
    ·rw[Ga];exact⟨s,fh,iH,yM⟩
    intro a' w' iE fr' H' g1 g2 g3 g5 g4;refine bc f q cur iE R fr' H' K KP g4 (gR fr' g3) g5 a' w' g1 g2 rest Q (λa2 w2 sr k9 H2 k1 k2 k3 k5 k4=>hk a2 w2 sr k9 H2 k1 k2 ?_ k5 k4) hp;intro x hx;have hx':=hx;rw[<-vy,aX,xar]at hx';rw[k3 x hx'.2,g3 x hx'.1]
   rename_i Fg;cases NC:(q||gq)<;>simp only[NC,xal,xah]at h
   case true=>
    split at h<;>try exact h.elim
    rename_i p r' ;have Hx:bu p.guard cur=true:=by
     have:∀l:List Oper,dW cur l=p::r'->bu p.guard cur=true:=by
      intro l;induction l with
      |nil=>intro e;simp[dW]at e
      |cons x y ih=>
       intro e;simp only[dW]at e;cases hx:bu x.guard cur<;>simp only[hx,xal,xah]at e
       ·exact ih e
       simp only[xa0]at e;rw[<-e.1];exact hx
     exact this _ hR
    cases hpk:(kx p&&cQ n p.dst)<;>simp only[hpk,xal,xah]at h;simp only[xam]at hpk;obtain⟨b,t,iH,h1,h2,h3⟩:=h;have AE:∀(a':Act) (w':World) (fr':Fr),aY ds n a' fr'->Own g H w'->cD G fr fr'->iX p fr'=.bool t->wpList P ops Q (p::r'++rest) a' w':=by
     intro a' w' fr' bT hw' ho Hw;have iF:=(gR fr' ho).wanted (ej Hx) bT;simp only[xaF,wpList,iF,xaS];refine .inl ?_;unfold Oper.wp;rw[bT.eval,iW hpk.1 Hw w'];have AD:kB G fr' fr=fr':=by
      funext x
      simp only[kB];cases hx:aB G x
      ·exact(ho x hx).symm
      rfl
     have pO:=h3 fr';rw[AD]at pO;refine bc f q cur _ r' _ H K KP pO ((gR fr' ho).tail λs hs=>cZ hs) ((wV fr' ho).del _ _) _ w' (bT.put hpk.2 _) hw' rest Q (λa2 w2 sr k9 H2 g1 g2 g3 g5 g4=>hk a2 w2 sr k9 H2 g1 g2 ?_ g5 g4) hp;intro x hx;have hx':=hx;rw[<-vy,aX,xar,bI,xar]at hx';rw[g3 x hx'.2.2,cZ hx'.2.1,ho x hx'.1]
    by_cases Dq:b=want
    ·subst Dq;have qc:=h1 rfl;rw[fw iH]at qc;refine bc f true o.guard _ G fr H _ _ qc ?_ (hkn.put iH) a w ha hw (p::r'++rest) Q ?_ ?_
     ·rw[Ga];exact⟨s,fh,iH,yM⟩
     ·intro a' w' iE fr' H' g1 g2 g3 _ ⟨g4,g5⟩;subst g4;exact AE a' w' fr' g1 g2 g3 g5
     intro _ _ _ _ _ _ _ h0;exact h0.elim
    have iu:b= !want:=by cases b<;>cases want<;>simp_all
    have nO:=h2 iu;subst iu;rw[fw iH]at nO;refine g8 G [] fr a Gm yM F9 iH (λt ht=>by simp at ht) ha λa' bT=>?_;exact AE a' w _ bT hw (bO G fr) nO
   case false=>
    obtain⟨b,iH,h1,h2⟩:=h;by_cases Dq:b=want
    ·subst Dq;have qc:=h1 rfl;rw[fw iH]at qc;refine bc f q o.guard _ G fr H _ KP qc ?_ (hkn.put iH) a w ha hw (R++rest) Q ?_ hp
     ·rw[Ga];exact⟨s,fh,iH,yM⟩
     intro a' w' iE fr' H' g1 g2 g3 g5 g4;refine bc f q cur iE R fr' H' K KP g4 (gR fr' g3) g5 a' w' g1 g2 rest Q (λa2 w2 sr k9 H2 k1 k2 k3 k5 k4=>hk a2 w2 sr k9 H2 k1 k2 ?_ k5 k4) hp;intro x hx;have hx':=hx;rw[<-vy,aX,xar]at hx';rw[k3 x hx'.2,g3 x hx'.1]
    have iu:b= !want:=by cases b<;>cases want<;>simp_all
    have nO:=h2 iu;subst iu;rw[fw iH]at nO;refine g8 G [] fr a Gm yM F9 iH (λt ht=>by simp at ht) ha λa' bT=>?_;refine bc f q cur _ R _ H K KP nO (gR _ (bO G fr)) ((wV _ (bO G fr)).put (by rw[bO G fr s yM,iH])) a' w bT hw rest Q (λa2 w2 sr k9 H2 k1 k2 k3 k5 k4=>hk a2 w2 sr k9 H2 k1 k2 ?_ k5 k4) hp;intro x hx;have hx':=hx;rw[<-vy,aX,xar]at hx';rw[k3 x hx'.2,bO G fr x hx'.1]
theorem bW{n:Nat}{ops:Array Oper}{gq:Bool}:∀(f:Nat) (cur:Option (Nat×Bool)) (kn:List (Nat×Bool)) (l:List Oper) (fr:Fr) (H:Hp) (K:List (Nat×Bool)->Fr->Hp->Prop) (KP:List PanicEntry->Hp->Prop),
  ct P g n ops gq f true cur kn l fr H K KP->fM ops cur l fr->dG kn fr->∀(a:Act),aY ds n a fr->∀(rest:List Oper) (Q:Act->Prop),
  (∀a' iE fr',aY ds n a' fr'->cD l fr fr'->dG iE fr'->K iE fr' H->wpQuiet P ops (Own g H) Q rest a')->wpQuiet P ops (Own g H) Q (l++rest) a
 |0,_,_,_,_,_,_,_,h=>h.elim
 |f+1,cur,kn,[],fr,H,K,KP,h=>λ_ hkn a ha rest Q hk=>hk a kn fr ha (cD.refl _ _) hkn h
 |f+1,cur,kn,o::r,fr,H,K,KP,h=>by
  intro l5 hkn a ha rest Q hk;unfold ct at h;cases yK:bu o.guard cur<;>simp only[yK,xal,xah]at h
  case true=>
   have hg:=ej yK;have iF:=l5.wanted hg ha;cases hd:cQ n o.dst<;>simp only[hd,xal,xah]at h;simp only[xaF,wpQuiet,iF,xaS];cases qY:mQ o.op<;>simp only[qY,xal,xah]at h
   case true=>
    obtain⟨v,hk',hr,hv⟩:=uV h;refine⟨v,λw hw=>?_,?_⟩
    ·unfold Oper.quietAt;rw[ha.eval,hr w hw];exact⟨rfl,rfl⟩
    exact bW f cur _ r _ H K KP hk' (l5.tail λs hs=>cZ hs) (hkn.up hv) _ (ha.put hd v) rest Q (λa' iE fr' h1 h3 h5 h4=>hk a' iE fr' h1 h3.cons h5 h4)
   case false=>
    obtain⟨v,f',args,hr,hs,hk'⟩:=uU h;refine⟨v,λw hw=>?_,?_⟩
    ·unfold Oper.quietAt;rw[ha.eval,hr w];refine⟨rfl,(hs w hw).mono λe w'' ⟨H',ho,he,hH⟩=>?_⟩;subst hH;exact⟨he,ho⟩
    exact bW f cur _ r _ H K KP hk' (l5.tail λs hs=>cZ hs) (hkn.del _ _) _ (ha.put hd v) rest Q (λa' iE fr' h1 h3 h5 h4=>hk a' iE fr' h1 h3.cons h5 h4)
  case false=>
   split at h<;>try exact h.elim
   rename_i j want Ga;split at h<;>try exact h.elim
   rename_i s fh;generalize hG:dA cur (o::r)=G at h;generalize hR:dW cur (o::r)=R at h;have vy:G++R=o::r:=by rw[<-hG,<-hR];exact kQ _ _
   cases c7:(cQ n (some s) &&eO n G&& !aB G s&&gD ops s want [] G)<;>simp only[c7,xal,xah]at h;simp only[xam,xbj]at c7;obtain⟨⟨⟨hds,Gm⟩,yM⟩,F9⟩:=c7;rw[<-vy,xau];have gR:∀fr',cD G fr fr'->fM ops cur R fr':=λfr' ho=>by
    unfold fM at l5⊢;split
    ·trivial
    obtain⟨t,h1,h2,h3⟩:=l5;have pO:=h3;rw[<-vy,aX,xar]at pO;exact⟨t,h1,(ho t pO.1).trans h2,pO.2⟩
   have wV:∀fr',cD G fr fr'->dG (fY kn G) fr':=λfr' ho=>hkn.Im G ho;split at h
   ·rename_i b hb;have iH:=hkn s b hb;cases Dq:(b==want)<;>simp only[Dq,xal,xah]at h
    ·have iu:b= !want:=by cases b<;>cases want<;>simp_all
     subst iu;refine iS G [] fr a Gm yM F9 iH (λt ht=>by simp at ht) ha λa' bT=>?_;refine bW f cur _ R _ H K KP h (gR _ (bO G fr)) (wV _ (bO G fr)) a' bT rest Q (λa2 sr k9 k1 k3 k5 k4=>hk a2 sr k9 k1 ?_ k5 k4);intro x hx;have hx':=hx;rw[<-vy,aX,xar]at hx';rw[k3 x hx'.2,bO G fr x hx'.1]
    have iu:b=want:=by cases b<;>cases want<;>simp_all
    subst iu;refine bW f o.guard kn G fr H _ KP h ?_ hkn a ha (R++rest) Q ?_
    ·rw[Ga];exact⟨s,fh,iH,yM⟩
    intro a' iE fr' g1 g3 g5 g4;refine bW f cur iE R fr' H K KP g4 (gR fr' g3) g5 a' g1 rest Q (λa2 sr k9 k1 k3 k5 k4=>hk a2 sr k9 k1 ?_ k5 k4);intro x hx;have hx':=hx;rw[<-vy,aX,xar]at hx';rw[k3 x hx'.2,g3 x hx'.1]
   rename_i Fg;simp only[Bool.true_or,xal]at h;split at h<;>try exact h.elim
   rename_i p r' ;have Hx:bu p.guard cur=true:=by
    have:∀l:List Oper,dW cur l=p::r'->bu p.guard cur=true:=by
     intro l;induction l with
     |nil=>intro e;simp[dW]at e
     |cons x y ih=>
      intro e;simp only[dW]at e;cases hx:bu x.guard cur<;>simp only[hx,xal,xah]at e
      ·exact ih e
      simp only[xa0]at e;rw[<-e.1];exact hx
    exact this _ hR
   cases hpk:(kx p&&cQ n p.dst)<;>simp only[hpk,xal,xah]at h;simp only[xam]at hpk;obtain⟨b,t,iH,h1,h2,h3⟩:=h;have AE:∀(a':Act) (fr':Fr),aY ds n a' fr'->cD G fr fr'->iX p fr'=.bool t->wpQuiet P ops (Own g H) Q (p::r'++rest) a':=by
    intro a' fr' bT ho Hw;have iF:=(gR fr' ho).wanted (ej Hx) bT;simp only[xaF,wpQuiet,iF,xaS];refine⟨.bool t,λw hw=>?_,?_⟩
    ·unfold Oper.quietAt;rw[bT.eval,iW hpk.1 Hw w];exact⟨rfl,rfl⟩
    have AD:kB G fr' fr=fr':=by
     funext x
     simp only[kB];cases hx:aB G x
     ·exact(ho x hx).symm
     rfl
    have pO:=h3 fr';rw[AD]at pO;refine bW f cur _ r' _ H K KP pO ((gR fr' ho).tail λs hs=>cZ hs) ((wV fr' ho).del _ _) _ (bT.put hpk.2 _) rest Q (λa2 sr k9 g1 g3 g5 g4=>hk a2 sr k9 g1 ?_ g5 g4);intro x hx;have hx':=hx;rw[<-vy,aX,xar,bI,xar]at hx';rw[g3 x hx'.2.2,cZ hx'.2.1,ho x hx'.1]
   by_cases Dq:b=want
   ·subst Dq;have qc:=h1 rfl;rw[fw iH]at qc;refine bW f o.guard _ G fr H _ _ qc ?_ (hkn.put iH) a ha (p::r'++rest) Q ?_
    ·rw[Ga];exact⟨s,fh,iH,yM⟩
    intro a' iE fr' g1 g3 _ ⟨_,g5⟩;exact AE a' fr' g1 g3 g5
   have iu:b= !want:=by cases b<;>cases want<;>simp_all
   have nO:=h2 iu;subst iu;rw[fw iH]at nO;refine iS G [] fr a Gm yM F9 iH (λt ht=>by simp at ht) ha λa' bT=>?_;exact AE a' _ bT (bO G fr) nO
end
end Go.Sx
namespace Go.Sx
open Go
section
variable {P:Program} {ops:Array Oper} {Q:Exit->Act->World->Prop} {md:Region.Mode} {S:Nat->World->World->Prop} {S0:World->Prop}
def cP(P:Program)(md:Region.Mode)(ops:Array Oper)(Q:Exit->Act->World->Prop)(S:Nat->World->World->Prop):Nat->Array Bool->Act->World->Prop
 |0,listed,a,w=>Region.ready md ops listed=[]/\Q .normal a w
 |n+1,listed,a,w=>(Region.ready md ops listed=[]->Q .normal a w)/\
  ∀i∈Region.ready md ops listed,wpOp P ops Q i (λa' w'=>S i w w'/\cP P md ops Q S n (listed.setIfInBounds i true) a' w') a w
theorem cP.any:∀{n:Nat} {listed:Array Bool} {a:Act} {w:World},cP P md ops Q S n listed a w->wpAny P md ops Q n listed a w
 |0,_,_,_,h=>h
 |_+1,_,_,_,h=>⟨h.1,λi hi=>wpOp_mono (λ_ _ h'=>h'.2.any) (h.2 i hi)⟩
theorem cP.mono{S':Nat->World->World->Prop}(hS:∀j w w',S j w w'->S' j w w'):∀{n:Nat} {listed:Array Bool} {a:Act} {w:World},cP P md ops Q S n listed a w->cP P md ops Q S' n listed a w
 |0,_,_,_,h=>h
 |_+1,_,_,_,h=>⟨h.1,λi hi=>wpOp_mono (λ_ _ h'=>⟨hS _ _ _ h'.1,h'.2.mono hS⟩) (h.2 i hi)⟩
def D3(md:Region.Mode)(ops:Array Oper)(i j:Nat):Prop:=∀oj,ops[j]? =some oj->∀e∈oj.after,Region.binds md e=true->e.on≠i
def cS(md:Region.Mode)(ops:Array Oper)(listed:Array Bool):Prop:=∀j oj,ops[j]? =some oj->listed.getD j true=true->∀e∈oj.after,Region.binds md e=true->listed.getD e.on true=true
inductive iN(md:Region.Mode)(ops:Array Oper)(i:Nat):Nat->Prop
 |one {j:Nat} {oj:Oper} {e:Edge}:ops[j]? =some oj->e∈oj.after->Region.binds md e=true->e.on=i->iN md ops i j
 |more {j:Nat} {oj:Oper} {e:Edge}:ops[j]? =some oj->e∈oj.after->Region.binds md e=true->iN md ops i e.on->iN md ops i j
theorem pP{a:Array Bool}{i:Nat}(h:a.getD i false=true):a.getD i true=true:=by
 rw[xaj]at*;cases hg:a[i]? with
 |none=>rfl
 |some b=>rw[hg]at h;simpa using h
theorem k8{a:Array Bool}{i k:Nat}(h:a.getD k true=true):(a.setIfInBounds i true).getD k true=true:=by
 by_cases e:i=k
 ·subst e;rw[xaj,xcJ];split<;>rfl
 rw[getD_set_ne true e];exact h
theorem cS.waits{listed:Array Bool}(hc:cS md ops listed){i j:Nat}(h:iN md ops i j):listed.getD j true=true->listed.getD i true=true:=by
 induction h with
 |one h1 h2 h3 h4=>intro h;rw[<-h4];exact hc _ _ h1 h _ h2 h3
 |more h1 h2 h3 _ ih=>intro h;exact ih (hc _ _ h1 h _ h2 h3)
theorem cS.ready{listed:Array Bool}(hc:cS md ops listed){i j:Nat}(hj:j∈Region.ready md ops listed)(h:iN md ops i j):listed.getD i true=true:=by
 obtain⟨_,oj,eD,aL⟩:=mem_ready.1 hj;cases h with
 |one h1 h2 h3 h4=>rw[eD]at h1;cases h1;rw[<-h4];exact pP (aL _ h2 h3)
 |more h1 h2 h3 h4=>rw[eD]at h1;cases h1;exact hc.waits h4 (pP (aL _ h2 h3))
theorem cS.step{listed:Array Bool}(hc:cS md ops listed){j:Nat}(hj:j∈Region.ready md ops listed):cS md ops (listed.setIfInBounds j true):=by
 intro k ok hk hl e he hb;by_cases Fk:j=k
 ·subst Fk;obtain⟨_,oj,eD,aL⟩:=mem_ready.1 hj;rw[hk]at eD;cases eD;exact k8 (pP (aL e he hb))
 rw[getD_set_ne true Fk]at hl;exact k8 (hc k ok hk hl e he hb)
theorem cS.none(n:Nat)(h:ops.size=n):cS md ops (Array.replicate n false):=by
 intro j oj hj hl;exfalso;have hlt:=(xax.1 hj).1;rw[xaj,xcA,xae zO]at hl;cases hl
theorem cP.first{i:Nat}{oi:Oper}{v:zV}(hi:ops[i]? =some oi)(hsel:Region.noSelect ops=true)(hQ:∀c a w,Q (.panic c) (a.put oi.dst v) w->Q (.panic c) a w)
 (Jh:∀w,S0 w->S i w w)(hS:∀j oj w w',ops[j]? =some oj->j≠i->¬iN md ops i j->S0 w->S j w w'->S0 w'):∀(n:Nat) (listed:Array Bool) (a:Act) (w:World),cS md ops listed->
   (∀j oj,ops[j]? =some oj->j≠i->listed.getD j true=false->D3 md ops i j->oi.apart ops oj=true)->i∈Region.ready md ops listed->YieldsIf P ops S0 oi v a->S0 w->
   cP P md ops Q S n (listed.setIfInBounds i true) (a.put oi.dst v) w->cP P md ops Q S (n+1) listed a w:=by
 have LX:=Region.noSelect_spec hsel;intro n;induction n with
 |zero=>
  intro listed a w hc hfree hr hy h0 h;refine⟨λe=>absurd hr (by rw[e];simp),λj hj=>?_⟩;by_cases e:j=i
  ·rw[e];exact hy.wpOp hi h0 ⟨Jh _ h0,h⟩
  exact absurd (ready_mono hj e) (by rw[h.1];simp)
 |succ n ih=>
  intro listed a w hc hfree hr hy h0 h;refine⟨λe=>absurd hr (by rw[e];simp),λj hj=>?_⟩;by_cases e:j=i
  ·rw[e];exact hy.wpOp hi h0 ⟨Jh _ h0,h⟩
  obtain⟨hun,oj,eD,aL⟩:=mem_ready.1 hj;have hno:D3 md ops i j:=λo ho x hx hb he=>by
   rw[eD]at ho;cases ho;have h1:=aL x hx hb;have h2:=(mem_ready.1 hr).1;rw[he]at h1;rw[xaj]at h1 h2;cases hg:listed[i]? with
   |none=>rw[hg]at h1;simp at h1
   |some y=>rw[hg]at h1 h2;simp at h1 h2;rw[h2]at h1;cases h1
  have HA:¬iN md ops i j:=λhw=>by
   have h1:=hc.ready hj hw;rw[(mem_ready.1 hr).1]at h1;cases h1
  refine wpOp_mono ?_ (wpOp_putIf eD (hfree j oj eD e hun hno) (λcs b=>LX i oi cs b hi) (λcs b=>LX j oj cs b eD) hQ hy (h.2 j (ready_mono hj e)));rintro a' w' ⟨hy',hs',Av⟩;refine⟨hs',ih _ _ _ (hc.step hj) (λk ok hk Fh Db Ax=>hfree k ok hk Fh ?_ Ax) (ready_mono hr (xbQ e)) hy' (hS j oj w w' eD e HA h0 hs') (by rw[Array.setIfInBounds_comm _ _ e];exact Av)⟩;by_cases Fk:j=k
  ·rw[<-Fk];exact hun
  rw[<-Db,getD_set_ne true Fk]
theorem cP.take{i:Nat}{oi:Oper}{v:zV}{n:Nat}{listed:Array Bool}{a:Act}{w:World}(hc:cS md ops listed)(hi:ops[i]? =some oi)(hsel:Region.noSelect ops=true)(hf:Region.free md ops listed i=true)
 (hr:(Region.ready md ops listed).contains i=true)(hQ:∀c a w,Q (.panic c) (a.put oi.dst v) w->Q (.panic c) a w)(Jh:∀w,S0 w->S i w w)(hS:∀j oj w w',ops[j]? =some oj->j≠i->¬iN md ops i j->S0 w->S j w w'->S0 w')
 (hy:YieldsIf P ops S0 oi v a)(h0:S0 w)(h:cP P md ops Q S n (listed.setIfInBounds i true) (a.put oi.dst v) w):cP P md ops Q S (n+1) listed a w:=
 cP.first hi hsel hQ Jh hS n listed a w hc (λj oj h1 h2 h3 h4=>Region.free_spec hi hf j oj h1 h2 h3 (h4 oj h1)) (by simpa using hr) hy h0 h
theorem cP.all{rs:zL}{n:Nat}{listed:Array Bool}{a:Act}{w:World}(hr:Region.ready md ops listed=rs)(hne:rs≠[])
 (h:∀i∈rs,wpOp P ops Q i (λa' w'=>S i w w'/\cP P md ops Q S n (listed.setIfInBounds i true) a' w') a w):cP P md ops Q S (n+1) listed a w:=
 ⟨λh0=>absurd (hr▸h0) hne,hr▸h⟩
theorem cP.done{listed:Array Bool}{a:Act}{w:World}(hr:Region.ready md ops listed=[])(h:Q .normal a w):∀n,cP P md ops Q S n listed a w
 |0=>⟨hr,h⟩
 |_+1=>⟨λ_=>h,by rw[hr];simp⟩
def JU(j:Oper)(i:Nat):Bool:=j.after.toList.any λe=>Nat.beq e.on i&&Region.binds .any e
def Hf(P:Program):Op->Bool
 | .move _| .assign _| .pick .. | .nilCheck _| .fieldAddr .. | .field .. | .indexAddr .. | .unOp .. =>true
 | .slice t _ _ _ none=>match P.underlying t with|some (.slice _)=>true|_=>false
 | .binOp _ t x y _=>match P.underlying t with
  |some d=>match Gy d x y with| .other=>false|_=>true
  |none=>true
 |_=>false
theorem qH{g:Gh}{o:Oper}(h:Hf P o.op=true)(ρ:Operand->zV)(H H':Hp)(k:zV->Prop):B3 P g o ρ H k=B3 P g o ρ H' k:=by
 obtain⟨d,op,t,p,a,gd⟩:=o;cases op<;>first|rfl|(simp only[Hf]at h;first|cases h|skip)
 case binOp op t x y z=>
  simp only[B3];cases hu:P.underlying t with
  |none=>rfl
  |some d=>
   simp only[hu]at h;cases hb:Gy d x y<;>simp only[hb]at h⊢;cases h
 case slice t x lo hi m=>
  cases m with
  |none=>
   simp only[B3];cases hu:P.underlying t with
   |none=>simp[hu]at h
   |some d=>cases d<;>first|rfl|(exfalso;simp[hu]at h)
  |some m=>cases h
def nW(P:Program)(o:Op):Bool:=mQ o&& !Hf P o
def uX(P:Program)(ops:Array Oper)(j:Nat):Bool:=match ops[j]? with
 |some oj=>(List.range ops.size).any λi=>match ops[i]? with|some oi=>nW P oi.op&& !JU oj i&& !Nat.beq i j|none=>false
 |none=>true
def iP(ops:Array Oper)(i:Nat):Nat->Nat->Bool
 |0,_=>false
 |n+1,j=>match ops[j]? with
  |some oj=>oj.after.toList.any λe=>Region.binds .any e&& (Nat.beq e.on i||iP ops i n e.on)
  |none=>false
theorem kO{i:Nat}:∀{n j:Nat},iP ops i n j=true->iN .any ops i j
 |0,j,h=>by simp[iP]at h
 |n+1,j,h=>by
  unfold iP at h;split at h
  ·rename_i oj eD;obtain⟨e,he,h2⟩:=xbE.1 h;simp only[xam,xby]at h2;rcases h2.2 with h3|h3
   ·exact .one eD (xcq.1 he) h2.1 (xap h3)
   exact .more eD (xcq.1 he) h2.1 (kO h3)
  cases h
def kX(P:Program)(ops:Array Oper)(j:Nat):Bool:=(List.range ops.size).any λi=>match ops[i]? with|some oi=>nW P oi.op&& !iP ops i 6 j&& !Nat.beq i j|none=>false
def vX(P:Program)(g:Gh)(R:Hp)(ops:Array Oper)(j:Nat)(w w':World):Prop:=∀oj,ops[j]? =some oj->(mQ oj.op=true->w'=w)/\(mQ oj.op=false->Own g [] w'/\(kX P ops j=true->Own g R w->Own g R w'))
def ji(P:Program)(g:Gh)(Xs:List Hp)(ops:Array Oper)(j:Nat)(w w':World):Prop:=∀X∈Xs,vX P g X ops j w w'
theorem fV{i j:Nat}{oi:Oper}(hi:ops[i]? =some oi)(hp:nW P oi.op=true)(hne:j≠i)(h:¬iN .any ops i j):kX P ops j=true:=by
 unfold kX;rw[xbE];refine⟨i,xaP.2 (xax.1 hi).1,?_⟩;simp only[hi,hp,xcr,xam,xbj];refine⟨?_,?_⟩
 ·cases hb:iP ops i 6 j
  ·rfl
  exact absurd (kO hb) h
 cases hb:Nat.beq i j
 ·rfl
 exact absurd (xap hb).symm hne
theorem mI{j:Nat}(h:kX P ops j=true):uX P ops j=true:=by
 unfold kX at h;obtain⟨i,hi,h2⟩:=xbE.1 h;unfold uX;split
 ·rename_i oj eD;refine xbE.2 ⟨i,hi,?_⟩;split at h2
  ·rename_i oi ic;simp only[xam,xbj]at h2⊢;refine⟨⟨h2.1.1,?_⟩,h2.2⟩;cases hb:JU oj i
   ·rfl
   have h3:=h2.1.2;unfold iP at h3;simp only[eD]at h3;unfold JU at hb;obtain⟨e,he,h4⟩:=xbE.1 hb;rw[<-Bool.not_eq_true,xbE]at h3;refine absurd ⟨e,he,?_⟩ h3;simp only[xam,xby]at h4⊢;exact⟨h4.2,.inl h4.1⟩
  cases h2
 rfl
end
end Go.Sx
namespace Go.Sx
open Go
section
variable {P:Program} {g:Gh} {ds:List Deferred}
def wc(b:Bool)(p q:Prop):Prop:=cond b (p/\q) q
theorem wc.of{b:Bool}{p q:Prop}(h:wc b p q):(b=true->p)/\q:=by
  cases b
  · exact⟨λe=>(by cases e),h⟩
  · exact⟨λ_=>h.1,h.2⟩
def zJ(P:Program)(ops:Array Oper)(T:zL)(i:Nat):Bool:=cond T.isEmpty (uX P ops i) (kX P ops i)
theorem zG{ops:Array Oper}{T:zL}{i:Nat}(h:kX P ops i=true):zJ P ops T i=true:=by
  unfold zJ;cases T.isEmpty
  · exact h
  · exact mI h
def xy(P:Program)(g:Gh)(n:Nat)(ops:Array Oper)(R:Hp)(K:Fr->Hp->Prop):zL->Array Bool->Fr->Hp->Prop
  | [],listed,fr,H=>cond (Region.ready .any ops listed).isEmpty (K fr H) False
  |i::r,listed,fr,H=>
    match ops[i]? with
    |none=>False
    |some o=>
      cond (cQ n o.dst&&o.guard.isNone)
        (cond (mQ o.op)
          (cond (Region.free .any ops listed i&& (Region.ready .any ops listed).contains i)
            (B3 P g o (ev fr) R λv=>xy P g n ops R K r (listed.setIfInBounds i true) (cz fr o.dst v) H) False)
          (cond (Region.ready .any ops listed==[i])
            (G0 P g o (ev fr) H (λv H'=>wc (uX P ops i) (aM H' R) (xy P g n ops R K r (listed.setIfInBounds i true) (cz fr o.dst v) H')) (λ_ _=>False)) False)) False
def jS(Q:Exit->Act->World->Prop):Exit->Act->World->Prop
  | .panic _,_,_=>False
  |e,a,w=>Q e a w
theorem e9{o:Oper}(h:o.guard.isNone=true)(y:Nat->Option Bool):Region.wanted o y=true:=by
  unfold Region.wanted;cases hg:o.guard<;>simp_all
theorem Own.fi{g:Gh}{H:Hp}{w:World}(h:Own g H w):Own g [] w:=Own.right (A:=H) (B:=[]) (by simpa using h)
theorem de{listed:Array Bool}{i k:Nat}(hun:listed.getD i true=false)(h:(listed.setIfInBounds i true).getD k true=false):listed.getD k true=false:=by
  by_cases e:i=k
  · rw[<-e];exact hun
  · rwa [getD_set_ne true e]at h
theorem jL{n:Nat}{ops:Array Oper}{R:Hp}{K:Fr->Hp->Prop}{Q:Exit->Act->World->Prop}(hs:Region.noSelect ops=true)(n6:Fr)
   (hk:∀a w fr H,aY ds n a fr->Own g H w->cD ops.toList n6 fr->K fr H->Q .normal a w):
    ∀(l:zL) (listed:Array Bool) (fr:Fr) (H:Hp),xy P g n ops R K l listed fr H->∀(fuel:Nat),l.length<=fuel->cS .any ops listed->∀(a:Act) (w:World),aY ds n a fr->Own g H w->((∃k ok,ops[k]? =some ok/\nW P ok.op=true/\listed.getD k true=false)->Own g R w)->cD ops.toList n6 fr->
      cP P .any ops (jS Q) (vX P g R ops) fuel listed a w
  | [],listed,fr,H,h=>by
    intro fuel _ eu a w ha hw hR ho;unfold xy at h;cases hr:(Region.ready .any ops listed).isEmpty<;>simp only[hr,xal,xah]at h;exact cP.done (Q:=jS Q) (by simpa using hr) (hk a w fr H ha hw ho h) fuel
  |i::r,listed,fr,H,h=>by
    intro fuel hfuel eu a w ha hw hR ho;unfold xy at h;split at h<;>try exact h.elim
    rename_i o ic;have hmem:o∈ops.toList:=xcq.2 (Array.mem_of_getElem? ic);have hout:∀v,cD ops.toList n6 (cz fr o.dst v):=λv s hs'=>by
      rw[cZ,ho s hs'];have:∀l:List Oper,o∈l->aB l s=false->aB [({(default:Oper)with dst:=o.dst})] s=false:=by
        intro l;induction l with
        |nil=>intro h;simp at h
        |cons x y ih=>
          intro hm hi;rw[bI,xar]at hi;rcases xaf.1 hm with rfl|hm
          · exact hi.1
          · exact ih hm hi.2
      exact this _ hmem hs'
    cases hc:(cQ n o.dst&&o.guard.isNone)<;>simp only[hc,xal,xah]at h;simp only[xam]at hc;obtain⟨fuel,rfl⟩:∃f,fuel=f+1:=⟨fuel-1,by simp only[xai]at hfuel;omega⟩;have sD:r.length<=fuel:=by simp only[xai]at hfuel;omega
    cases qY:mQ o.op<;>simp only[qY,xal,xah]at h
    case true=>
      cases gS:(Region.free .any ops listed i&& (Region.ready .any ops listed).contains i)<;>simp only[gS,xal,xah]at h;simp only[xam]at gS;have hun:=(mem_ready.1 (by simpa using gS.2:i∈Region.ready .any ops listed)).1;have mS:∀w,vX P g R ops i w w:=λw oj gz=>⟨λ_=>rfl,λhn=>(by rw[ic]at gz;cases gz;rw[qY]at hn;cases hn)⟩;cases hn:Hf P o.op
      case true=>
        rw[qH hn (ev fr) R []]at h;obtain⟨v,hk',hr⟩:=fC h;refine cP.take eu (S0:=Own g []) ic hs gS.1 gS.2 (λ_ _ _ h=>h) (λw _=>mS w) (λj oj w w' eD hj hno h0 hk=>?_) (.inl ⟨e9 hc.2 _,λw' hw'=>by rw[ha.eval];exact hr w' hw'⟩) hw.fi ?_
        · cases pJ:mQ oj.op
          · exact((hk oj eD).2 pJ).1
          · rw[(hk oj eD).1 pJ];exact h0
        · refine jL hs n6 hk r _ _ H hk' fuel sD (eu.step (by simpa using gS.2)) _ w (ha.put hc.1 v) hw ?_ (hout v)
          rintro⟨k,ok,jW,n4,jG⟩;exact hR ⟨k,ok,jW,n4,de hun jG⟩
      case false=>
        obtain⟨v,hk',hr⟩:=fC h;have hrd:nW P o.op=true:=by simp[nW,qY,hn]
        have HZ:Own g R w:=hR ⟨i,o,ic,hrd,hun⟩;refine cP.take eu (S0:=Own g R) ic hs gS.1 gS.2 (λ_ _ _ h=>h) (λw _=>mS w) (λj oj w w' eD hj hno h0 hk=>?_) (.inl ⟨e9 hc.2 _,λw' hw'=>by rw[ha.eval];exact hr w' hw'⟩) HZ ?_
        · cases pJ:mQ oj.op
          · exact((hk oj eD).2 pJ).2 (fV ic hrd hj hno) h0
          · rw[(hk oj eD).1 pJ];exact h0
        · exact jL hs n6 hk r _ _ H hk' fuel sD (eu.step (by simpa using gS.2)) _ w (ha.put hc.1 v) hw (λ_=>HZ) (hout v)
    case false=>
      cases gS:(Region.ready .any ops listed==[i])<;>simp only[gS,xal,xah]at h;have hrd:=xcn.1 gS;have yL:i∈Region.ready .any ops listed:=by rw[hrd];simp
      refine cP.all hrd zI λj hj=>?_;simp only[xaH]at hj;subst hj;unfold wpOp;simp only[ic,e9 hc.2,xaS];refine .inl ?_;unfold Oper.wp;rw[ha.eval];refine(sk (mm fr) h w hw).upon (λv H' w' cB hb=>?_) (λch H' w' _ h0=>h0.elim);obtain⟨he,hk'⟩:=hb.of;refine⟨λoj gz=>⟨λhp=>(by rw[ic]at gz;cases gz;rw[qY]at hp;cases hp),λ_=>⟨cB.fi,λhn _=>he (mI hn) _ _ cB⟩⟩,jL hs n6 hk r _ _ H' hk' fuel sD (eu.step yL) _ w' (ha.put hc.1 v) cB ?_ (hout v)⟩;rintro⟨k,ok,jW,n4,jG⟩;refine he (mI ?_) _ _ cB;have Fh:j≠k:=λe=>by
        subst e;rw[xaj,xcJ]at jG;have:=(mem_ready.1 yL).1;rw[xaj]at this;split at jG
        · simp at jG
        · rename_i hlt;rw[xbC zO]at this;simp at this
      rw[getD_set_ne true Fh]at jG;refine fV jW n4 Fh λhw=>?_;rw[eu.ready yL hw]at jG;cases jG
abbrev Mk:=Obj×(Nat->zV)
def BS(elem size bytes:Nat)(zero:zV)(l c:zV)(k:Mk->Prop):Prop:=
  ∃kl kc ln cn,l=.int kl (ln:Nat)/\c=.int kc (cn:Nat)/\ln<=cn/\(cn:Int)<=9223372036854775807/\cn*bytes<=281474976710656/\
    k (.cells (madeCells zero.cells (cn*size)) elem (0,0),λb=>.slice (some ⟨b,0,none⟩) ln cn)
def B0(P:Program)(t len:Nat)(parts:List (Nat×zV))(k:Mk->Prop):Prop:=
  ∃cs e n z,P.underlying t=some (.slice e)/\bU P e=some n/\da P e=some z/\len*n<=2^24/\
      Instr.fill (λi=>some (i*n,n)) ((Array.range (len*n)).map (z.cells[· %z.cells.size]!)) parts=some cs/\k (.cells cs e (0,0),λb=>.slice (some ⟨b,0,none⟩) len len)
def Claim(P:Program)(o:Oper)(ρ:Operand->zV)(k:Mk->Prop):Prop:=
  match o.op with
  | .alloc t=>match da P t with
    |some z=>k (.cells z.cells t (0,0),λb=>.pointer (some ⟨b,0,none⟩))
    |none=>False
  | .makeMap _ none=>k (.map #[] 0,λb=>.map (some b))
  | .makeSlice t l c=>match P.underlying t with
    |some (.slice e)=>match bU P e,nh P e,da P e with
      |some n,some b,some z=>BS e n b z (ρ l) (ρ c) k
      |_,_,_=>False
    |_=>False
  | .buildSlice t len parts=>B0 P t len (parts.toList.map λp=>(p.1,ρ p.2)) k
  |_=>False
def o5(P:Program)(o:Oper)(ρ:Operand->zV)(x:Mk):Prop:=∀w,(execOp ρ o).run P w=.ok (.value (x.2 w.heap.size)) (w.alloc x.1)
theorem Claim.makes{o:Oper}{ρ:Operand->zV}{k:Mk->Prop}(h:Claim P o ρ k):∃x,o5 P o ρ x/\k x:=by
  unfold Claim at h;split at h
  · rename_i t hop
    split at h<;>try exact h.elim
    rename_i z hz;obtain⟨i,hi,pK⟩:=bP hz;refine⟨_,λw=>?_,h⟩;simp only[execOp,hop];simp[Instr.alloc,cK hi pK,newVar,newRow]
  · rename_i t hop
    refine⟨_,λw=>?_,h⟩;simp only[execOp,hop];simp[Instr.makeMap]
  · rename_i t l c hop
    split at h<;>try exact h.elim
    rename_i e ht;split at h<;>try exact h.elim
    rename_i n b z hn hb hz;obtain⟨i,hi,hin⟩:=aG hn;obtain⟨i',hi',pK⟩:=bP hz;obtain⟨i2,Eg,HK⟩:=gY hb;have e1:i'=i:=xbd (hi'.symm.trans hi);have e2:i2=i:=xbd (Eg.symm.trans hi);subst e1;subst e2;obtain⟨kl,kc,ln,cn,hl,hc,hlc,mU,hby,hk⟩:=h;subst hin;subst HK;refine⟨_,λw=>?_,hk⟩;have e1:IntKind.i64.wrap (ln:Int)=ln:=IntWalk.i64_in _ zO;have e2:IntKind.i64.wrap (cn:Int)=cn:=IntWalk.i64_in _ zO;have e3:¬((i2.bytes:Int)*(cn:Int)>281474976710656):=by
      have:((cn*i2.bytes:Nat):Int)<=281474976710656:=by omega
      rw[Int.mul_comm];push_cast at this;omega
    have e4:¬((cn:Int)<ln):=by omega
    simp only[execOp,hop];by_cases h0:cn*i2.size=0
    · simp[Instr.makeSlice,run_underlying ht,asInt,asIntOf,typeInfo,hi,hl,hc,e1,e2,e3,e4,sizeOf,zeroValue,pK,newRow,madeCells,h0,show¬((cn:Int)<0)from by omega,show¬((ln:Int)<0)from by omega]
      have:Array.range 0=#[]:=rfl;simp[this]
    · simp[Instr.makeSlice,run_underlying ht,asInt,asIntOf,typeInfo,hi,hl,hc,e1,e2,e3,e4,sizeOf,zeroValue,pK,newRow,madeCells,h0,show¬((cn:Int)<0)from by omega,show¬((ln:Int)<0)from by omega]
  · rename_i t len parts hop
    obtain⟨cs,e,n,z,ht,hn,hz,hl,hf,hk⟩:=h;obtain⟨i,hi,hin⟩:=aG hn;obtain⟨i',hi',pK⟩:=bP hz;have:i'=i:=xbd (hi'.symm.trans hi);subst this;subst hin;refine⟨_,λw=>?_,hk⟩;have hl':¬(len*i'.size>2^24):=by omega
    have vg:(parts.map λ(x:Nat×Operand)=>(x.1,ρ x.2)).toList=parts.toList.map λp=>(p.1,ρ p.2):=by rw[xcN]
    by_cases h0:len*i'.size=0
    · simp only[execOp,hop,Instr.buildSlice,Sem.run_bind,run_underlying ht,Result.andThen_ok,run_sizeOf hi,hl',xaG,h0,xaS,Sem.run_pure]
      rw[h0]at hf;have Km:Array.range 0=#[]:=rfl;simp only[Km,xdz,List.map_toArray,xdv]at hf⊢;rw[vg,hf];simp[newRow]
    · simp only[execOp,hop,Instr.buildSlice,Sem.run_bind,run_underlying ht,Result.andThen_ok,run_sizeOf hi,hl',xaG,h0,cK hi pK,Sem.run_pure]
      simp[hf,newRow]
  · exact h.elim
abbrev uI:=List (Nat×Mk)
def marks:uI->Nat->Array Bool->Array Bool
  | [],_,l=>l
  |x::r,i,l=>marks r i (cond (Nat.beq x.1 i) l (l.setIfInBounds x.1 true))
def cN(ops:Array Oper)(o:Oper)(i:Nat)(listed:Array Bool):uI->Bool
  | []=>true
  |x::r=>(Nat.beq x.1 i||listed.getD x.1 true||(match ops[x.1]? with|some of=>of.apart ops o|none=>false)) &&cN ops o i listed r
def cR:uI->Nat->Option Mk
  | [],_=>none
  |x::r,i=>cond (Nat.beq x.1 i) (some x.2) (cR r i)
def BP(listed:Array Bool):uI->Bool
  | []=>true
  |x::r=>listed.getD x.1 false&&BP listed r
inductive Hn
  |e
  |h(m:Nat)(L I:zL)(a b:Hn)
def Hn.m:Hn->Nat| .e=>0| .h m _ _ _ _=>m
def Hn.L:Hn->zL| .e=>[]| .h _ L _ _ _=>L
def Hn.I:Hn->zL| .e=>[]| .h _ _ I _ _=>I
def Hn.a:Hn->Hn| .e=>.e| .h _ _ _ a _=>a
def Hn.b:Hn->Hn| .e=>.e| .h _ _ _ _ b=>b
def Br(v:zV)(t f:Prop):Prop:=∃b,v=.bool b/\(b=true->t)/\(b=false->f)
def E0(p:Oper)(fr:Fr):zV:=
  match p.op with
  | .move x=>ev fr x
  | .assign x=>ev fr x
  |_=>iX p fr
def wS(p:Oper):Bool:=match p.op with| .pick .. =>true| .move _=>true| .assign _=>true|_=>false
theorem Ae{p:Oper}{fr:Fr}{t:Bool}(hp:wS p=true)(h:E0 p fr=.bool t)(w:World):(execOp (ev fr) p).run P w=.ok (.value (.bool t)) w:=by
  unfold wS at hp;unfold E0 at h;split at h
  · rename_i x hop;simp only[execOp,hop,h];rfl
  · rename_i x hop;simp only[execOp,hop,h];rfl
  · rename_i h1 h2
    split at hp
    · rename_i hop;exact iW (by unfold kx;rw[hop]) h w
    · rename_i x hop;exact absurd hop (h1 x)
    · rename_i x hop;exact absurd hop (h2 x)
    · cases hp
theorem Ai{p:Oper}(hp:wS p=true):mQ p.op=true:=by
  unfold wS at hp;split at hp<;>first|(rename_i hop;rw[hop];rfl)|cases hp
def pg(ops:Array Oper)(fr:Fr)(o:Oper):Option Bool:=
  match o.guard with
  |none=>some true
  |some (j,want)=>match cE ops j with
    |none=>none
    |some s=>match fr s with
      | .bool b=>some (b==want)
      | .tuple _=>some false
      |_=>none
def iz(P:Program)(g:Gh)(n:Nat)(ops:Array Oper)(R:Hp)(K:Fr->Hp->Prop):Hn->uI->Array Bool->Fr->Hp->Prop
  | .e,cl,listed,fr,H=>cond ((Region.ready .any ops listed).isEmpty&&BP listed cl) (K fr H) False
  | .h m L T pa pb,cl,listed,fr,H=>
    match L with
    | [i]=>
      match ops[i]? with
      |none=>False
      |some o=>
        cond (Nat.beq m 1)
          (cond (cQ n o.dst&&o.guard.isNone&& !mQ o.op&& !listed.getD i true&&cN ops o i listed cl&& (match cR cl i with|none=>true|some _=>false))
            (Claim P o (ev fr) λx=>iz P g n ops R K pa ((i,x)::cl) listed fr H) False)
          (cond (cQ n o.dst&&cN ops o i listed cl&& (Region.ready .any ops listed).contains i)
            (match pg ops fr o with
            |none=>False
            |some false=>cond (Region.free .any ops listed i&& (match cR cl i with|none=>true|some _=>false)) (iz P g n ops R K pa cl (listed.setIfInBounds i true) (cz fr o.dst undef) H) False
            |some true=>
              cond (Nat.beq m 3) (cond (wS o&&Region.free .any ops listed i) (match E0 o fr with
                | .bool b=>iz P g n ops R K pa cl (listed.setIfInBounds i true) (cz fr o.dst (.bool b)) H
                |_=>False) False)
              (cond (mQ o.op)
                (cond (Region.free .any ops listed i)
                  (B3 P g o (ev fr) R λv=>cond (Nat.beq m 0) (iz P g n ops R K pa cl (listed.setIfInBounds i true) (cz fr o.dst v) H)
                    (Br v (iz P g n ops R K pa cl (listed.setIfInBounds i true) (cz fr o.dst (.bool true)) H) (iz P g n ops R K pb cl (listed.setIfInBounds i true) (cz fr o.dst (.bool false)) H))) False)
                (cond (Region.ready .any ops (marks cl i listed)==[i])
                  (match cR cl i with
                    |some x=>sY H x.1 λb H'=>iz P g n ops R K pa cl (listed.setIfInBounds i true) (cz fr o.dst (x.2 b)) H'
                    |none=>∀F,G0 P (g.add F) o (ev fr) H (λv H'=>wc (zJ P ops T i) (aM H' R) (iz P g n ops R K pa cl (listed.setIfInBounds i true) (cz fr o.dst v) H')) (λ_ _=>False)) False))) False)
    | []=>cond (Nat.beq m 4) (∃R',aM H R'/\aM R' R/\iz P g n ops R' K pa cl listed fr H) False
    |_=>False
theorem Bf{cl:uI}{i:Nat}{x:Mk}(h:cR cl i=some x):(i,x)∈cl:=by
  induction cl with
  |nil=>simp[cR]at h
  |cons y r ih=>
    simp only[cR]at h;cases hb:Nat.beq y.1 i<;>simp only[hb,xal,xah]at h
    · exact xbZ _ (ih h)
    · have:=xap hb
      simp only[xao]at h;subst this;subst h;exact xdn
theorem xm{cl:uI}{i:Nat}(h:i∈cl.map Prod.fst):∃x,cR cl i=some x:=by
  induction cl with
  |nil=>simp at h
  |cons y r ih=>
    simp only[cR];cases hb:Nat.beq y.1 i
    · simp only[xah]
      rw[xaC,xaf]at h;rcases h with h|h
      · subst h;simp at hb
      · exact ih h
    · exact⟨_,rfl⟩
theorem eT{cl:uI}{i:Nat}{x:Mk}(h:cR cl i=some x):i∈cl.map Prod.fst:=xan.2 ⟨_,Bf h,rfl⟩
theorem oE{l:uI}{i:Nat}{b:Array Bool}{k:Nat}:(marks l i b)[k]? =if k∈l.map Prod.fst/\k≠i/\k<b.size then some true else b[k]? :=by
  induction l generalizing b with
  |nil=>simp[marks]
  |cons y r ih=>
    simp only[marks];cases hy:Nat.beq y.1 i
    · have hne:y.1≠i:=λe=>by rw[e]at hy;simp at hy
      simp only[xah,ih,Array.size_setIfInBounds];by_cases hk:k∈r.map Prod.fst/\k≠i/\k<b.size
      · rw[xae hk,xae ⟨by rw[xaC];exact xbZ _ hk.1,hk.2⟩]
      · rw[xab hk]
        by_cases e:y.1=k
        · subst e
          by_cases hlt:y.1<b.size
          · rw[xae ⟨by simp,hne,hlt⟩,xa9 hlt]
          · rw[xab (λh=>hlt h.2.2),xbC zP,xbC zO]
        · rw[xaY e,xab]
          rintro⟨h1,h2⟩;rw[xaC,xaf]at h1;rcases h1 with h1|h1
          · exact e h1.symm
          · exact hk ⟨h1,h2⟩
    · have he:=xap hy
      simp only[xal,ih];by_cases hk:k∈r.map Prod.fst/\k≠i/\k<b.size
      · rw[xae hk,xae ⟨by rw[xaC];exact xbZ _ hk.1,hk.2⟩]
      · rw[xab hk,xab]
        rintro⟨h1,h2,h3⟩;rw[xaC,xaf]at h1;rcases h1 with h1|h1
        · exact h2 (h1.trans he)
        · exact hk ⟨h1,h2,h3⟩
theorem cV{ops:Array Oper}{o:Oper}{i:Nat}{listed:Array Bool}{l:uI}(h:cN ops o i listed l=true){f:Nat}(hf:f∈l.map Prod.fst)(hne:f≠i)(hun:listed.getD f true=false):
    ∃of,ops[f]? =some of/\of.apart ops o=true:=by
  induction l with
  |nil=>simp at hf
  |cons x r ih=>
    simp only[cN,xam,xby]at h;rw[xaC]at hf;rcases xaf.1 hf with rfl|hf
    · rcases h.1 with(h1|h1)|h1
      · exact absurd (xap h1) hne
      · rw[hun]at h1;simp at h1
      · split at h1
        · rename_i of ho;exact⟨of,ho,h1⟩
        · simp at h1
    · exact ih h.2 hf
theorem sS{ops:Array Oper}{x y:Oper}(h:x.apart ops y=true):y.apart ops x=true:=by
  unfold Oper.apart at*;cases hx:x.dst<;>cases hy:y.dst<;>simp_all;exact λe=>h.1.2 e.symm
theorem kC{ops:Array Oper}{l l':Array Bool}{i:Nat}(h:Region.free .any ops l i=true)(hm:∀k,l.getD k true=true->l'.getD k true=true):Region.free .any ops l' i=true:=by
  unfold Region.free at*;split at h
  · simp at h
  · rename_i oi ic
    rw[xb2]at h⊢;intro j hj;have:=h j hj;simp only[xby]at this⊢;rcases this with(h1|h1)|h1
    · exact .inl (.inl h1)
    · exact .inl (.inr (hm j h1))
    · exact .inr h1
abbrev Early:=List (Nat×Nat×Mk)
def Es(E:Early):Hp:=E.map λx=>(x.2.1,x.2.2.1)
structure F0(P:Program)(n:Nat)(ops:Array Oper)(listed:Array Bool)(cl:uI)(fr:Fr)(j:Nat)(x:Mk)(o:Oper):Prop where
  op:ops[j]? =some o
  qI:mQ o.op=false
  dst:cQ n o.dst=true
  gd:o.guard.isNone=true
  makes:o5 P o (ev fr) x
  Jq:∀k y,cR cl k=some y->k≠j->listed.getD k true=false->∃ok,ops[k]? =some ok/\ok.apart ops o=true
structure fL(P:Program)(n:Nat)(ops:Array Oper)(cl:uI)(listed la:Array Bool)(E:Early)(fr fa:Fr):Prop where
  mem:∀x∈E,cR cl x.1=some x.2.2/\listed.getD x.1 true=false
  nd:(E.map Prod.fst).Nodup
  la:∀k,la[k]? =if k∈E.map Prod.fst then some true else listed[k]?
  out:∀s,(∀x∈E,cE ops x.1≠some s)->fa s=fr s
  at_:∀x∈E,∀d,cE ops x.1=some d->fa d=x.2.2.2 x.2.1
  cl:∀j x,cR cl j=some x->listed.getD j true=false->∃o,F0 P n ops listed cl fr j x o
section
variable {n:Nat} {ops:Array Oper} {cl:uI} {listed la:Array Bool} {E:Early} {fr fa:Fr}
theorem fL.more(h:fL P n ops cl listed la E fr fa){k:Nat}{b:Bool}(hk:listed.getD k b=true):la.getD k b=true:=by
  have:=h.la k;rw[xaj]at hk⊢;rw[this];split
  · rfl
  · exact hk
theorem fL.ready(h:fL P n ops cl listed la E fr fa){i:Nat}(hi:i∉E.map Prod.fst)(hr:i∈Region.ready .any ops listed):i∈Region.ready .any ops la:=by
  rw[mem_ready]at hr⊢;obtain⟨h1,o,ho,aL⟩:=hr;refine⟨?_,o,ho,λe he hb=>h.more (aL e he hb)⟩;have:=h.la i;rw[xaj]at h1⊢;rw[this,xab hi];exact h1
theorem DV{i k:Nat}(h:(listed.setIfInBounds i true).getD k true=false):i≠k/\listed.getD k true=false:=by
  by_cases e:i=k
  · subst e
    rw[xaj]at h;rcases xcB i listed.size with hl|hl
    · rw[xa9 hl]at h;cases h
    · rw[xbC (by simpa using hl)]at h;cases h
  · exact⟨e,by rwa [getD_set_ne true e]at h⟩
theorem o5.congr{o o':Oper}{x:Mk}{v:zV}(h:o5 P o (ev fr) x)(hs:∀cs b,o.op≠.select cs b)(hap:o.apart ops o'=true):o5 P o (ev (cz fr o'.dst v)) x:=by
  have e:execOp (ev (cz fr o'.dst v)) o=execOp (ev fr) o:=by
    refine execOp_congr o hs λy hy=>?_;cases y with
    |tmp t=>
      obtain⟨_,_,h3⟩:=Oper.apart_spec hap;cases hd:o'.dst with
      |none=>rfl
      |some d=>
        have:=h3 d hd;have hne:Nat.beq t d=false:=by
          cases hb:Nat.beq t d
          · rfl
          · have e:=xap hb;subst e
            refine absurd ?_ this;exact xac _ (List.mem_filterMap.2 ⟨Operand.tmp t,by simpa using hy,rfl⟩)
        simp only[ev,cz,hne,xah]
    |const v=>rfl
    |global g=>rfl
    |func f=>rfl
  intro w;rw[e];exact h w
theorem BE(hs:Region.noSelect ops=true)(fO:∀j x,cR cl j=some x->listed.getD j true=false->∃o,F0 P n ops listed cl fr j x o){i:Nat}{o:Oper}(hap:cN ops o i listed cl=true)(v:zV):
    ∀j x,cR cl j=some x->(listed.setIfInBounds i true).getD j true=false->∃oj,F0 P n ops (listed.setIfInBounds i true) cl (cz fr o.dst v) j x oj:=by
  intro j x hx hun;obtain⟨hne,Db⟩:=DV hun;obtain⟨oj,h⟩:=fO j x hx Db;obtain⟨LY,cB,KN⟩:=cV hap (eT hx) (xbQ hne) Db;rw[h.op]at cB;cases cB;exact⟨oj,h.op,h.qI,h.dst,h.gd,h.makes.congr (λcs b=>Region.noSelect_spec hs j oj cs b h.op) KN,λk y hk Gf Di=>h.Jq k y hk Gf (DV Di).2⟩
theorem fL.step(hs:Region.noSelect ops=true)(h:fL P n ops cl listed la E fr fa){i:Nat}{o:Oper}(ic:ops[i]? =some o)(hi:i∉E.map Prod.fst)
   (mX:cN ops o i listed cl=true)(v:zV):fL P n ops cl (listed.setIfInBounds i true) (la.setIfInBounds i true) E (cz fr o.dst v) (cz fa o.dst v):=by
  have hap:∀x∈E,∃of,ops[x.1]? =some of/\of.apart ops o=true:=λx hx=>
      cV mX (eT (h.mem x hx).1) (λe=>hi (e▸xbi hx)) (h.mem x hx).2
  have hsz:la[i]? =listed[i]? :=by rw[h.la i,xab hi]
  refine⟨λx hx=>⟨(h.mem x hx).1,?_⟩,h.nd,λk=>?_,λs hs=>?_,λx hx d hd=>?_,BE hs h.cl mX v⟩
  · have hne:i≠x.1:=λe=>hi (e▸xbi hx)
    rw[getD_set_ne true hne];exact(h.mem x hx).2
  · by_cases e:i=k
    · subst e
      rw[xab hi,xbv,xbv];simp only[xaS];have:i<la.size↔i<listed.size:=by
        constructor
        · intro hlt;rw[xbh hlt]at hsz;exact(xax.1 hsz.symm).1
        · intro hlt;rw[xbh hlt]at hsz;exact(xax.1 hsz).1
      by_cases hlt:i<la.size
      · rw[xae hlt,xae (this.1 hlt)]
      · rw[xab hlt,xab (λx=>hlt (this.2 x))]
    · rw[xaY e,xaY e];exact h.la k
  · cases hd:o.dst with
    |none=>exact h.out s hs
    |some d=>
      simp only[cz];cases Nat.beq s d
      · exact h.out s hs
      · rfl
  · obtain⟨of,E9,hap⟩:=hap x hx
    obtain⟨h1,h2,h3⟩:=Oper.apart_spec hap;have E8:of.dst=some d:=by simpa[cE,E9]using hd
    have:=h2 d E8;cases KH:o.dst with
    |none=>exact h.at_ x hx d hd
    |some d'=>
      have hne:Nat.beq d d'=false:=by
        cases hb:Nat.beq d d'
        · rfl
        · have e:=xap hb;subst e;exact absurd KH this
      simp only[cz,hne,xah];exact h.at_ x hx d hd
theorem fL.exec(h:fL P n ops cl listed la E fr fa){o:Oper}
   (hap:∀x∈E,∃of,ops[x.1]? =some of/\of.apart ops o=true)(hs:∀cs b,o.op≠.select cs b):execOp (ev fa) o=execOp (ev fr) o:=by
  refine execOp_congr o hs λx hx=>?_;cases x with
  |tmp t=>
    refine h.out t λy hy e=>?_;obtain⟨of,E9,hap⟩:=hap y hy;obtain⟨h1,_,_⟩:=Oper.apart_spec hap;refine h1 t (by simpa[cE,E9]using e) ?_;exact xac _ (List.mem_filterMap.2 ⟨.tmp t,by simpa using hx,rfl⟩)
  |const v=>rfl
  |global g=>rfl
  |func f=>rfl
theorem fL.early(h:fL P n ops cl listed la E fr fa){j b:Nat}{x:Mk}(hj:cR cl j=some x)(Ay:j∉E.map Prod.fst)(hun:listed.getD j true=false)
   {o:Oper}(ho:ops[j]? =some o):fL P n ops cl listed (la.setIfInBounds j true) ((j,b,x)::E) fr (cz fa o.dst (x.2 b)):=by
  obtain⟨o',fO⟩:=h.cl j x hj hun;have cB:=fO.op;rw[ho]at cB;cases cB;have Fu:∀y∈E,∃of,ops[y.1]? =some of/\of.apart ops o=true:=λy hy=>
    fO.Jq y.1 _ (h.mem y hy).1 (λe=>Ay (e▸xbi hy)) (h.mem y hy).2
  have Kp:j<la.size:=by
    have hl:=h.la j;rw[xab Ay]at hl;have h2:j<listed.size:=by
      rcases xcB j listed.size with h2|h2
      · exact h2
      · rw[xaj,xbC h2]at hun;simp at hun
    rw[xbh h2]at hl;exact(xax.1 hl).1
  refine⟨λy hy=>?_,?_,λk=>?_,λs hs=>?_,λy hy d hd=>?_,h.cl⟩
  · rcases xaf.1 hy with rfl|hy
    · exact⟨hj,hun⟩
    · exact h.mem y hy
  · rw[xaC,xaT];exact⟨Ay,h.nd⟩
  · by_cases e:j=k
    · subst e;rw[xae zI,xa9 Kp]
    · rw[xaY e,h.la k]
      by_cases hk:k∈E.map Prod.fst
      · rw[xae hk,xae (by rw[xaC];exact xbZ _ hk)]
      · rw[xab hk,xab]
        rw[xaC,xaf];rintro(h1|hk')
        · exact e h1.symm
        · exact hk hk'
  · have hne:=hs (j,b,x) zI
    simp only[cE,ho]at hne;rw[show cz fa o.dst (x.2 b) s=fa s from ?_]
    · exact h.out s λy hy=>hs y (by simp[hy])
    · cases hd:o.dst with
      |none=>rfl
      |some d=>
        rw[hd]at hne;have:Nat.beq s d=false:=by
          cases hb:Nat.beq s d
          · rfl
          · exact absurd (xb1 some (xap hb).symm) hne
        simp only[cz,this,xah]
  · rcases xaf.1 hy with rfl|hy
    · simp only[cE,ho]at hd
      rw[hd];simp[cz]
    · obtain⟨of,E9,hap⟩:=Fu y hy
      obtain⟨_,h2,_⟩:=Oper.apart_spec hap;have E8:of.dst=some d:=by simpa[cE,E9]using hd
      have:=h2 d E8;cases KH:o.dst with
      |none=>exact h.at_ y hy d hd
      |some d'=>
        have hne:Nat.beq d d'=false:=by
          cases hb:Nat.beq d d'
          · rfl
          · have e:=xap hb;subst e;exact absurd KH this
        simp only[cz,hne,xah];exact h.at_ y hy d hd
theorem fL.JN(hs:Region.noSelect ops=true){E1 E2:Early}{j b:Nat}{x:Mk}(h:fL P n ops cl listed la (E1++(j,b,x)::E2) fr fa){o:Oper}(ho:ops[j]? =some o)(mX:cN ops o j listed cl=true):
    fL P n ops cl (listed.setIfInBounds j true) la (E1++E2) (cz fr o.dst (x.2 b)) fa:=by
  have n3:=h.nd;rw[xaz,xaC]at n3;have Fi:j∉(E1++E2).map Prod.fst:=by
    have:=(xbo.nodup_iff.1 n3);rw[xaT]at this;rw[xaz];exact this.1
  have hsub:∀y,y∈E1++E2->y∈E1++(j,b,x)::E2:=λy hy=>by
    rcases xaw.1 hy with hy|hy<;>simp[hy]
  have Fj:j<listed.size:=by
    have h2:=(h.mem (j,b,x) zI).2;rcases xcB j listed.size with h3|h3
    · exact h3
    · simp only at h2;rw[xaj,xbC h3]at h2;simp at h2
  refine⟨λy hy=>⟨(h.mem y (hsub y hy)).1,?_⟩,?_,λk=>?_,λs hs=>?_,λy hy d hd=>h.at_ y (hsub y hy) d hd,BE hs h.cl mX _⟩
  · have hne:j≠y.1:=λe=>Fi (e▸xbi hy)
    rw[getD_set_ne true hne];exact(h.mem y (hsub y hy)).2
  · have:=(xbo.nodup_iff.1 n3)
    rw[xaT]at this;rw[xaz];exact this.2
  · have hk:=h.la k
    by_cases e:j=k
    · subst e
      rw[xae zI]at hk;rw[hk,xab Fi,xa9 Fj]
    · rw[xaY e,hk]
      have:k∈(E1++(j,b,x)::E2).map Prod.fst↔k∈(E1++E2).map Prod.fst:=by
        simp only[xaz,xaC,xaw,xaf];constructor
        · rintro(h|rfl|h)
          · exact .inl h
          · exact absurd rfl e
          · exact .inr h
        · rintro(h|h)
          · exact .inl h
          · exact .inr (.inr h)
      simp only[this]
  · by_cases e:cE ops j=some s
    · rw[h.at_ (j,b,x) zI s e]
      simp only[cE,ho]at e;rw[e];simp[cz]
    · rw[h.out s λy hy=>?_]
      · simp only[cE,ho]at e
        cases hd:o.dst with
        |none=>rfl
        |some d=>
          rw[hd]at e;have:Nat.beq s d=false:=by
            cases hb:Nat.beq s d
            · rfl
            · exact absurd (xb1 some (xap hb).symm) e
          simp only[cz,this,xah]
      · rcases xaw.1 hy with hy|hy
        · exact hs y (by simp[hy])
        · rcases xaf.1 hy with rfl|hy
          · exact e
          · exact hs y (by simp[hy])
theorem fL.Is(h:fL P n ops cl listed la E fr fa){i:Nat}{o:Oper}{x:Mk}(ho:ops[i]? =some o)(hd:cQ n o.dst=true)(hg:o.guard.isNone=true)(hp:mQ o.op=false)(hun:listed.getD i true=false)
   (hap:cN ops o i listed cl=true)(hno:cR cl i=none)(hm:o5 P o (ev fr) x):fL P n ops ((i,x)::cl) listed la E fr fa:=by
  have hne:∀j y,cR cl j=some y->j≠i:=λj y hj e=>by subst e;rw[hno]at hj;cases hj
  have hex:∀j y,cR cl j=some y->cR ((i,x)::cl) j=some y:=λj y hj=>by
    have:Nat.beq i j=false:=by
      cases hb:Nat.beq i j
      · rfl
      · exact absurd (xap hb).symm (hne j y hj)
    simp only[cR,this,xah];exact hj
  have Fp:∀j y,cR ((i,x)::cl) j=some y->(j=i/\y=x)\/(j≠i/\cR cl j=some y):=λj y hj=>by
    simp only[cR]at hj;cases hb:Nat.beq i j<;>simp only[hb,xal,xah]at hj
    · exact .inr ⟨λe=>by subst e;simp at hb,hj⟩
    · exact .inl ⟨(xap hb).symm,by simpa using hj.symm⟩
  refine⟨λy hy=>⟨hex _ _ (h.mem y hy).1,(h.mem y hy).2⟩,h.nd,h.la,h.out,h.at_,λj y hj hu=>?_⟩;rcases Fp j y hj with⟨rfl,rfl⟩|⟨Gg,I6⟩
  · refine⟨o,ho,hp,hd,hg,hm,λk z hk Gf Di=>?_⟩
    rcases Fp k z hk with⟨rfl,rfl⟩|⟨_,hk⟩
    · exact absurd rfl Gf
    · exact cV hap (eT hk) Gf Di
  · obtain⟨oj,hc⟩:=h.cl j y I6 hu
    refine⟨oj,hc.op,hc.qI,hc.dst,hc.gd,hc.makes,λk z hk Gf Di=>?_⟩;rcases Fp k z hk with⟨rfl,rfl⟩|⟨_,hk⟩
    · obtain⟨LY,h1,h2⟩:=cV hap (eT I6) Gg hu
      rw[hc.op]at h1;cases h1;exact⟨o,ho,sS h2⟩
    · exact hc.Jq k z hk Gf Di
end
theorem xp{E1 E2:Early}{y:Nat×Nat×Mk}:(Es (E1++y::E2)).Perm ((y.2.1,y.2.2.1)::Es (E1++E2)):=by
  unfold Es;rw[xaz,xaC,xaz];exact xbo
def cnt:List Bool->Nat
  | []=>0
  |b::r=>cond b 0 1+cnt r
theorem vN:∀(l:List Bool) (i:Nat),l[i]? =some false->cnt (l.set i true)+1=cnt l
  | [],i,h=>by simp at h
  |b::r,0,h=>by simp only[xb5,xao]at h;subst h;simp only[xcC,cnt,xal,xah];omega
  |b::r,i+1,h=>by
    simp only[List.getElem?_cons_succ]at h;have:=vN r i h;simp only[List.set_cons_succ,cnt];omega
theorem n7(n:Nat):cnt (List.replicate n false)=n:=by
  induction n with
  |zero=>rfl
  |succ n ih=>simp only[xb4,cnt,ih,xah];omega
theorem cX{a:Array Bool}{i:Nat}(h:a.getD i true=false):a[i]? =some false:=by
  rw[xaj]at h;cases hg:a[i]? with
  |none=>rw[hg]at h;simp at h
  |some b=>rw[hg]at h;simpa using h
theorem gW{a:Array Bool}{i fuel:Nat}(h:a.getD i true=false)(hf:cnt a.toList<=fuel):∃f,fuel=f+1/\cnt (a.setIfInBounds i true).toList<=f:=by
  have h1:=cX h;have h2:a.toList[i]? =some false:=by rw[xbc];exact h1
  have:=vN _ _ h2;refine⟨fuel-1,by omega,?_⟩;have:(a.setIfInBounds i true).toList=a.toList.set i true:=by simp
  rw[this];omega
theorem xG{listed:Array Bool}{l:uI}(h:BP listed l=true){f:Nat}(hf:f∈l.map Prod.fst):listed.getD f false=true:=by
  induction l with
  |nil=>simp at hf
  |cons x r ih=>
    simp only[BP,xam]at h;rw[xaC]at hf;rcases xaf.1 hf with rfl|hf
    · exact h.1
    · exact ih h.2 hf
theorem Dt{a:Array Bool}{i:Nat}(h:a.getD i false=true):a.getD i true=true:=by
  rw[xaj]at*;cases hg:a[i]? with
  |none=>rfl
  |some b=>rw[hg]at h;simpa using h
theorem cC{n:Nat}{ops:Array Oper}{R:Hp}{Xs:List Hp}{K:Fr->Hp->Prop}{Q:Exit->Act->World->Prop}(hs:Region.noSelect ops=true)(qa:R∈Xs)(yO:∀X∈Xs,aM R X)(n6:Fr)
   (hk:∀a w fr H,aY ds n a fr->Own g H w->cD ops.toList n6 fr->K fr H->Q .normal a w):
    ∀(fuel:Nat) (l:Hn) (cl:uI) (listed:Array Bool) (fr:Fr) (H:Hp),iz P g n ops R K l cl listed fr H->∀(E:Early) (la:Array Bool) (fa:Fr),cnt la.toList<=fuel->fL P n ops cl listed la E fr fa->cS .any ops la->
      ∀(a:Act) (w:World),aY ds n a fa->Own (g.add (Es E)) H w->((∃k ok,ops[k]? =some ok/\nW P ok.op=true/\la.getD k true=false)->Own g R w)->cD ops.toList n6 fr->
      cP P .any ops (jS Q) (ji P g Xs ops) fuel la a w
  |fuel,.e,cl,listed,fr,H,h=>by
    intro E la fa hfuel hE eu a w ha hw hR ho;unfold iz at h;cases hr:((Region.ready .any ops listed).isEmpty&&BP listed cl)<;>simp only[hr,xal,xah]at h;simp only[xam]at hr;have hr':Region.ready .any ops listed=[]:=by simpa using hr.1
    have Oz:E=[]:=by
      cases E with
      |nil=>rfl
      |cons x y=>
        have h1:=hE.mem x zI;have h2:=Dt (xG hr.2 (eT h1.1));rw[h1.2]at h2;cases h2
    subst Oz;have KE:fa=fr:=by funext s;exact hE.out s zI
    subst KE;refine cP.done (Q:=jS Q) ?_ (hk a w fa H ha hw ho h) fuel;rw[List.eq_nil_iff_forall_not_mem]at hr'⊢;intro k hk';refine hr' k ?_;rw[mem_ready]at hk'⊢;obtain⟨h1,o,h2,h3⟩:=hk';have hla:=λk=>hE.la k;simp only[xdv,xat,xaG]at hla;refine⟨?_,o,h2,λe he hb=>?_⟩
    · rw[xaj,<-hla,<-xaj];exact h1
    · rw[xaj,<-hla,<-xaj];exact h3 e he hb
  |fuel,.h m L T pa pb,cl,listed,fr,H,h=>by
    intro E la fa hfuel hE eu a w ha hw hR ho;have h0:=h;unfold iz at h;split at h<;>try exact h.elim
    rotate_left
    · cases h4:Nat.beq m 4<;>simp only[h4,xal,xah]at h
      obtain⟨R',IZ,pI,hk'⟩:=h;exact(cC (R:=R') (Xs:=R'::Xs) hs (.head _) (λX hX=>by
        rcases xaf.1 hX with rfl|hX
        · exact .refl _
        · exact pI.trans (yO X hX)) n6 hk fuel pa cl listed fr H hk' E la fa hfuel hE eu a w ha hw (λ_=>IZ _ _ (Own.cL.2 hw).left) ho).mono λj w w' hK X hX=>hK X (.tail _ hX)
    rename_i i;split at h<;>try exact h.elim
    rename_i o ic;cases h1:Nat.beq m 1<;>simp only[h1,xal,xah]at h
    case true=>
      cases hc:(cQ n o.dst&&o.guard.isNone&& !mQ o.op&& !listed.getD i true&&cN ops o i listed cl&& (match cR cl i with|none=>true|some _=>false))<;>simp only[hc,xal,xah]at h;simp only[xam,xbj]at hc;obtain⟨⟨⟨⟨⟨hd,hg⟩,hp⟩,hun⟩,hap⟩,hno⟩:=hc;have Ax:cR cl i=none:=by
        split at hno
        · assumption
        · cases hno
      obtain⟨x,hm,hk'⟩:=h.makes;exact cC hs qa yO n6 hk fuel pa _ listed fr H hk' E la fa hfuel (hE.Is ic hd hg hp hun hap Ax hm) eu a w ha hw hR ho
    have hmem:o∈ops.toList:=xcq.2 (Array.mem_of_getElem? ic);have hout:∀v,cD ops.toList n6 (cz fr o.dst v):=λv s hs'=>by
      rw[cZ,ho s hs'];have:∀l:List Oper,o∈l->aB l s=false->aB [({(default:Oper)with dst:=o.dst})] s=false:=by
        intro l;induction l with
        |nil=>intro h;simp at h
        |cons x y ih=>
          intro hm hi;rw[bI,xar]at hi;rcases xaf.1 hm with rfl|hm
          · exact hi.1
          · exact ih hm hi.2
      exact this _ hmem hs'
    cases hc:(cQ n o.dst&&cN ops o i listed cl&& (Region.ready .any ops listed).contains i)<;>simp only[hc,xal,xah]at h;simp only[xam]at hc;obtain⟨⟨hd,mX⟩,Kk⟩:=hc;have yL:i∈Region.ready .any ops listed:=by simpa using Kk
    have hun:=(mem_ready.1 yL).1;have hap:i∉E.map Prod.fst->∀x∈E,∃of,ops[x.1]? =some of/\of.apart ops o=true:=λhi x hx=>
      cV mX (eT (hE.mem x hx).1) (λe=>hi (e▸xbi hx)) (hE.mem x hx).2
    have hsel:∀cs b,o.op≠.select cs b:=λcs b=>Region.noSelect_spec hs i o cs b ic;have GK:∀j,j∈Region.ready .any ops la->j∉E.map Prod.fst/\listed.getD j true=false:=λj hj=>by
      have h1:=cX (mem_ready.1 hj).1;have h2:=hE.la j;by_cases Ay:j∈E.map Prod.fst
      · rw[xae Ay,h1]at h2;cases h2
      · rw[xab Ay,h1]at h2
        exact⟨Ay,by rw[xaj,<-h2];rfl⟩
    have early:∀f',fuel=f'+1->(∀j,la.getD j true=false->cnt (la.setIfInBounds j true).toList<=f')->∀j x,j∈Region.ready .any ops la->cR cl j=some x->
        wpOp P ops (jS Q) j (λa' w'=>ji P g Xs ops j w w'/\cP P .any ops (jS Q) (ji P g Xs ops) f' (la.setIfInBounds j true) a' w') a w:=by
      intro f' wZ ir j x hj I5;obtain⟨Ay,Fj⟩:=GK j hj;obtain⟨oj,fO⟩:=hE.cl j x I5 Fj;have eD:=fO.op;have pJ:=fO.qI;have NZ:=fO.gd;have KF:execOp (ev fa) oj=execOp (ev fr) oj:=hE.exec (λy hy=>fO.Jq y.1 _ (hE.mem y hy).1 (λe=>Ay (e▸xbi hy)) (hE.mem y hy).2) (λcs b=>Region.noSelect_spec hs j oj cs b eD);unfold wpOp;simp only[eD,e9 NZ,xaS];refine .inl ?_;unfold Oper.wp;rw[ha.eval,KF,fO.makes w];simp only[Oper.upon];have hal:∀{A:Hp},Own g A w->Own g A (w.alloc x.1):=λhA=>(hA.alloc x.1).tail;refine⟨λX _ LY gz=>⟨λhp=>?_,λ_=>⟨hal (Own.cL.2 hw).fi,λ_ h1=>hal h1⟩⟩,?_⟩
      · rw[eD]at gz;cases gz;rw[pJ]at hp;cases hp
      · have K6:=hE.early (b:=w.heap.size) I5 Ay Fj eD
        refine cC hs qa yO n6 hk f' (.h m [i] T pa pb) cl listed fr H h0 ((j,w.heap.size,x)::E) _ _ (ir j (mem_ready.1 hj).1) K6 (eu.step hj) _ _ (ha.put fO.dst _) ?_ ?_ ho
        · have h1:=hw.alloc x.1
          have h2:Own (g.add (Es E)) (H++[(w.heap.size,x.1)]) (w.alloc x.1):=h1.perm (by exact(xaK (l₁:=[(w.heap.size,x.1)]) (l₂:=H)));have h3:=Own.cL.1 h2;exact h3
        · rintro⟨k,ok,jW,n4,jG⟩
          refine hal (hR ⟨k,ok,jW,n4,de (mem_ready.1 hj).1 jG⟩)
    have iF:∀b,pg ops fr o=some b->i∉E.map Prod.fst->Region.wanted o (yielded ops a.tmps)=b:=by
      intro b hb mV;unfold pg at hb;unfold Region.wanted;split at hb
      · rename_i hg;simp only[hg];simpa using hb
      · rename_i j want hg
        simp only[hg];split at hb<;>try (cases hb;done)
        rename_i s fh;rw[fP ha fh];have iH:fa s=fr s:=hE.out s λy hy e=>by
          obtain⟨of,E9,hap⟩:=hap mV y hy;obtain⟨h1,_,_⟩:=Oper.apart_spec hap;refine h1 s (by simpa[cE,E9]using e) ?_;refine xaa _ ?_;rw[hg];unfold cE at fh;cases hj:ops[j]? with
          |none=>rw[hj]at fh;cases fh
          |some oj=>rw[hj]at fh;simp only at fh;simp[hj,fh]
        rw[iH];split at hb
        · rename_i c hc;rw[hc];simp only[xao]at hb;subst hb;cases c<;>cases want<;>rfl
        · rename_i c hc;rw[hc];simp only[xao]at hb;subst hb;cases want<;>rfl
        · cases hb
    split at h<;>try exact h.elim
    · -- not wanted
      rename_i Ap;cases gS:(Region.free .any ops listed i&& (match cR cl i with|none=>true|some _=>false))<;>simp only[gS,xal,xah]at h;simp only[xam]at gS;have Ax:cR cl i=none:=by
        have:=gS.2;split at this
        · assumption
        · cases this
      have mV:i∉E.map Prod.fst:=λhm=>by
        obtain⟨x,hx,e⟩:=xan.1 hm;have:=(hE.mem x hx).1;rw[e,Ax]at this;cases this
      have fZ:=hE.ready mV yL;have kz:=(mem_ready.1 fZ).1;obtain⟨f',rfl,ir⟩:=gW kz hfuel;have hfree:=kC (l':=la) gS.1 (λk hk=>hE.more hk);have xd:(Region.ready .any ops la).contains i=true:=by simpa using fZ
      refine cP.take eu (S0:=Own g []) ic hs hfree xd (λ_ _ _ h=>h) (λw hw X _ oj eD=>⟨λ_=>rfl,λ_=>⟨hw,λ_ h=>h⟩⟩) (λj oj w w' eD hj hno h0 hk=>?_) (.inr ⟨iF false Ap mV,rfl⟩) (Own.cL.2 hw).fi ?_
      · cases pJ:mQ oj.op
        · exact((hk R qa oj eD).2 pJ).1
        · rw[(hk R qa oj eD).1 pJ];exact h0
      · refine cC hs qa yO n6 hk f' pa cl _ _ H h E _ _ ir (hE.step hs ic mV mX _) (eu.step fZ) _ w (ha.put hd _) hw ?_ (hout _)
        rintro⟨k,ok,jW,n4,jG⟩;exact hR ⟨k,ok,jW,n4,de kz jG⟩
    rename_i Ap;have Ja:=iF true Ap;have Ek:∀v f' C6 a' w',(cond (Nat.beq m 0) (iz P g n ops R K pa cl (listed.setIfInBounds i true) (cz fr o.dst v) H)
                    (Br v (iz P g n ops R K pa cl (listed.setIfInBounds i true) (cz fr o.dst (.bool true)) H) (iz P g n ops R K pb cl (listed.setIfInBounds i true) (cz fr o.dst (.bool false)) H)))->
        cnt C6.toList<=f'->fL P n ops cl (listed.setIfInBounds i true) C6 E (cz fr o.dst v) (cz fa o.dst v)->cS .any ops C6->aY ds n a' (cz fa o.dst v)->Own (g.add (Es E)) H w'->
        ((∃k ok,ops[k]? =some ok/\nW P ok.op=true/\C6.getD k true=false)->Own g R w')->f'<fuel->cP P .any ops (jS Q) (ji P g Xs ops) f' C6 a' w':=by
      intro v f' C6 a' w' hv h1 h2 AI h3 h4 h5 hlt;cases hm:Nat.beq m 0<;>simp only[hm,xal,xah]at hv
      · obtain⟨b,rfl,HV,Jf⟩:=hv
        cases b
        · exact cC hs qa yO n6 hk f' pb cl _ _ H (Jf rfl) E C6 _ h1 h2 AI a' w' h3 h4 h5 (hout _)
        · exact cC hs qa yO n6 hk f' pa cl _ _ H (HV rfl) E C6 _ h1 h2 AI a' w' h3 h4 h5 (hout _)
      · exact cC hs qa yO n6 hk f' pa cl _ _ H hv E C6 _ h1 h2 AI a' w' h3 h4 h5 (hout _)
    cases h3:Nat.beq m 3<;>simp only[h3,xal,xah]at h
    case true=>
      cases gS:(wS o&&Region.free .any ops listed i)<;>simp only[gS,xal,xah]at h;simp only[xam]at gS;split at h<;>try exact h.elim
      rename_i b Hw;have qY:mQ o.op=true:=Ai gS.1;have mV:i∉E.map Prod.fst:=λhm=>by
        obtain⟨x,hx,e⟩:=xan.1 hm;have h2:=hE.mem x hx;obtain⟨o',fO⟩:=hE.cl _ _ h2.1 h2.2;have h3:=fO.op;rw[e,ic]at h3;cases h3;have:=fO.qI;rw[qY]at this;cases this
      have fZ:=hE.ready mV yL;have kz:=(mem_ready.1 fZ).1;obtain⟨f',rfl,ir⟩:=gW kz hfuel;have hfree:=kC (l':=la) gS.2 (λk hk=>hE.more hk);have xd:(Region.ready .any ops la).contains i=true:=by simpa using fZ
      have mS:∀w,ji P g Xs ops i w w:=λw X _ oj gz=>⟨λ_=>rfl,λhn=>(by rw[ic]at gz;cases gz;rw[qY]at hn;cases hn)⟩;have w4:=hE.exec (hap mV) hsel;refine cP.take eu (S0:=Own g []) ic hs hfree xd (λ_ _ _ h=>h) (λw _=>mS w) (λj oj w w' eD hj hno h0 hk=>?_) (.inl ⟨Ja mV,λw' hw'=>by rw[ha.eval,w4];exact Ae gS.1 Hw w'⟩) (Own.cL.2 hw).fi ?_
      · cases pJ:mQ oj.op
        · exact((hk R qa oj eD).2 pJ).1
        · rw[(hk R qa oj eD).1 pJ];exact h0
      · refine cC hs qa yO n6 hk f' pa cl _ _ H h E _ _ ir (hE.step hs ic mV mX _) (eu.step fZ) _ w (ha.put hd _) hw ?_ (hout _)
        rintro⟨k,ok,jW,n4,jG⟩;exact hR ⟨k,ok,jW,n4,de kz jG⟩
    cases qY:mQ o.op<;>simp only[qY,xal,xah]at h
    case true=>
      cases gS:(Region.free .any ops listed i)<;>simp only[gS,xal,xah]at h;have mV:i∉E.map Prod.fst:=λhm=>by
        obtain⟨x,hx,e⟩:=xan.1 hm;have h2:=hE.mem x hx;obtain⟨o',fO⟩:=hE.cl _ _ h2.1 h2.2;have h3:=fO.op;rw[e,ic]at h3;cases h3;have:=fO.qI;rw[qY]at this;cases this
      have fZ:=hE.ready mV yL;have kz:=(mem_ready.1 fZ).1;obtain⟨f',rfl,ir⟩:=gW kz hfuel;have hfree:=kC (l':=la) gS (λk hk=>hE.more hk);have xd:(Region.ready .any ops la).contains i=true:=by simpa using fZ
      have mS:∀w,ji P g Xs ops i w w:=λw X _ oj gz=>⟨λ_=>rfl,λhn=>(by rw[ic]at gz;cases gz;rw[qY]at hn;cases hn)⟩;have hst:=λv=>hE.step hs ic mV mX v;have w4:=hE.exec (hap mV) hsel;cases hn:Hf P o.op
      case true=>
        rw[qH hn (ev fr) R []]at h;obtain⟨v,hk',hr⟩:=fC h;refine cP.take eu (S0:=Own g []) ic hs hfree xd (λ_ _ _ h=>h) (λw _=>mS w) (λj oj w w' eD hj hno h0 hk=>?_) (.inl ⟨Ja mV,λw' hw'=>by rw[ha.eval,w4];exact hr w' hw'⟩) (Own.cL.2 hw).fi ?_
        · cases pJ:mQ oj.op
          · exact((hk R qa oj eD).2 pJ).1
          · rw[(hk R qa oj eD).1 pJ];exact h0
        · refine Ek v f' _ _ w hk' ir (hst v) (eu.step fZ) (ha.put hd v) hw ?_ zO
          rintro⟨k,ok,jW,n4,jG⟩;exact hR ⟨k,ok,jW,n4,de kz jG⟩
      case false=>
        obtain⟨v,hk',hr⟩:=fC h;have hrd:nW P o.op=true:=by simp[nW,qY,hn]
        have HZ:Own g R w:=hR ⟨i,o,ic,hrd,kz⟩;refine cP.take eu (S0:=Own g R) ic hs hfree xd (λ_ _ _ h=>h) (λw _=>mS w) (λj oj w w' eD hj hno h0 hk=>?_) (.inl ⟨Ja mV,λw' hw'=>by rw[ha.eval,w4];exact hr w' hw'⟩) HZ ?_
        · cases pJ:mQ oj.op
          · exact((hk R qa oj eD).2 pJ).2 (fV ic hrd hj hno) h0
          · rw[(hk R qa oj eD).1 pJ];exact h0
        · exact Ek v f' _ _ w hk' ir (hst v) (eu.step fZ) (ha.put hd v) hw (λ_=>HZ) zO
    case false=>
      cases gS:(Region.ready .any ops (marks cl i listed)==[i])<;>simp only[gS,xal,xah]at h;have hrd:=xcn.1 gS;by_cases mV:i∈E.map Prod.fst
      · obtain⟨⟨i',b,x⟩,hx,e⟩:=xan.1 mV
        simp only at e;subst e;have hex:cR cl i'=some x:=(hE.mem _ hx).1;simp only[hex]at h;obtain⟨E1,E2,rfl⟩:=xcD hx;have qW:Own (g.add (Es (E1++E2))) ((b,x.1)::H) w:=by
          have h1:=(Own.cL.2 hw).perm ((xcU H (xp (E1:=E1) (E2:=E2) (y:=(i',b,x)))).trans xbo);exact(Own.cL (A:=(b,x.1)::H)).1 h1
        have hb:b∉H.map Prod.fst:=by
          have:=qW.nd;rw[xaF,xaC,xaT,xaz,xaw]at this;exact λh=>this.1 (.inl h)
        exact cC hs qa yO n6 hk fuel pa cl _ _ _ (h b hb) (E1++E2) la fa hfuel (hE.JN hs ic mX) eu a w ha qW hR (hout _)
      · have fZ:=hE.ready mV yL
        have kz:=(mem_ready.1 fZ).1;obtain⟨f',rfl,ir⟩:=gW kz hfuel;have HT:∀j,la.getD j true=false->cnt (la.setIfInBounds j true).toList<=f':=λj hj=>by
          obtain⟨f2,h1,h2⟩:=gW hj hfuel;have:f2=f':=by omega
          subst this;exact h2
        have hst:=λv=>hE.step hs ic mV mX v;have w4:=hE.exec (hap mV) hsel;refine cP.all rfl (λe=>by rw[e]at fZ;simp at fZ) λj hj=>?_;by_cases Gg:j=i
        · subst Gg
          have qI:∀oj,ops[j]? =some oj->mQ oj.op=true->False:=λoj eD hp=>by rw[ic]at eD;cases eD;rw[qY]at hp;cases hp
          unfold wpOp;simp only[ic,Ja mV,xaS];refine .inl ?_;unfold Oper.wp;rw[ha.eval,w4];cases hex:cR cl j with
          |none=>
            simp only[hex]at h;have h:=h (Es E);refine(sk (mm fr) h w hw).upon (λv H' w' cB hb=>?_) (λch H' w' _ h0=>h0.elim);obtain⟨he,hk'⟩:=hb.of;have HY:kX P ops j=true->Own g R w':=λhn=>(Own.cL.2 (he (zG hn) _ _ cB)).left;refine⟨λX hX oj gz=>⟨λhp=>(qI oj gz hp).elim,λ_=>⟨(Own.cL.2 cB).fi,λhn _=>yO X hX _ _ (HY hn)⟩⟩,cC hs qa yO n6 hk f' pa cl _ _ H' hk' E _ _ ir (hst v) (eu.step fZ) _ w' (ha.put hd v) cB ?_ (hout v)⟩;rintro⟨k,ok,jW,n4,jG⟩;refine HY ?_;have Fh:j≠k:=λe=>by
              subst e;have h1:=cX kz;have hlt:=(xax.1 h1).1;rw[xaj,xa9 hlt]at jG;cases jG
            rw[getD_set_ne true Fh]at jG;refine fV jW n4 Fh λhw=>?_;rw[eu.ready fZ hw]at jG;cases jG
          |some x=>
            simp only[hex]at h;obtain⟨oj,fO⟩:=hE.cl j x hex hun;have eD:=fO.op;rw[ic]at eD;cases eD;rw[fO.makes w];simp only[Oper.upon];have hal:∀{A:Hp},Own g A w->Own g A (w.alloc x.1):=λhA=>(hA.alloc x.1).tail;refine⟨λX _ oj gz=>⟨λhp=>(qI oj gz hp).elim,λ_=>⟨hal (Own.cL.2 hw).fi,λ_ h1=>hal h1⟩⟩,?_⟩;refine cC hs qa yO n6 hk f' pa cl _ _ _ (h _ hw.fresh) E _ _ ir (hst _) (eu.step fZ) _ _ (ha.put hd _) (hw.alloc x.1) ?_ (hout _);rintro⟨k,ok,jW,n4,jG⟩;exact hal (hR ⟨k,ok,jW,n4,de kz jG⟩)
        · obtain⟨Ay,Fj⟩:=GK j hj
          cases HI:cR cl j with
          |some x=>exact early f' rfl HT j x hj HI
          |none=>
          refine absurd ?_ Gg;have I5:j∉cl.map Prod.fst:=λhm=>by
            obtain⟨x,hx⟩:=xm hm;rw[HI]at hx;cases hx
          have Mb:j∈Region.ready .any ops (marks cl i listed):=by
            obtain⟨_,oj,eD,aL⟩:=mem_ready.1 hj;rw[mem_ready];refine⟨?_,oj,eD,λe he hb=>?_⟩
            · rw[xaj,oE,xab (λh=>I5 h.1),<-xaj];exact Fj
            · have h1:=aL e he hb
              have h2:=hE.la e.on;rw[xaj]at h1⊢;rw[oE];by_cases hm:e.on∈E.map Prod.fst
              · obtain⟨x,hx,e2⟩:=xan.1 hm
                have Ee:=cX (hE.mem x hx).2;rw[e2]at Ee;have hlt:=(xax.1 Ee).1;rw[xae ⟨e2▸eT (hE.mem x hx).1,λe3=>mV (e3▸hm),hlt⟩];rfl
              · rw[xab hm]at h2
                split
                · rfl
                · rw[<-h2];exact h1
          rw[hrd]at Mb;simpa using Mb
  termination_by fuel l=>(fuel,SizeOf.sizeOf l)
def lT:Code->Nat->Bool
  | .region _ ops _,s=>aB ops.toList s
  | .seq a b,s=>lT a s||lT b s
  | .cond _ a b,s=>lT a s||lT b s
  | .block _ c,s=>lT c s
  | .loop c,s=>lT c s
  | .skip,_=>false
  | .ret,_=>false
  | .exit _,_=>false
  |_,_=>true
def CP(c:Code):zL->Bool
  | []=>true
  |s::r=> !lT c s&&CP c r
def m9(s:Nat):zL->Bool
  | []=>false
  |x::r=>Nat.beq s x||m9 s r
def CW:zL->List zV->Fr->Fr
  |l::L,v::vs,base=>λs=>cond (Nat.beq s l) v (CW L vs base s)
  |_,_,base=>base
def mix(L:zL)(vs:List zV)(I:zL)(fr gs:Fr):Fr:=CW L vs λs=>cond (m9 s I) (fr s) (gs s)
def r3(fr:Fr):zL->List zV
  | []=>[]
  |s::r=>fr s::r3 fr r
def nH:Nat->(List zV->Prop)->Prop
  |0,p=>p []
  |n+1,p=>∀v,nH n λvs=>p (v::vs)
theorem nH.intro{p:List zV->Prop}(h:∀vs,p vs):∀n,nH n p
  |0=>h _
  |n+1=>λv=>nH.intro (λvs=>h (v::vs)) n
theorem nH.elim{p:List zV->Prop}:∀{n:Nat},nH n p->∀vs:List zV,vs.length=n->p vs
  |0,h,vs,e=>by cases vs with|nil=>exact h|cons x y=>simp at e
  |n+1,h,vs,e=>by
    cases vs with
    |nil=>simp at e
    |cons x y=>exact nH.elim (h x) y (by simpa using e)
theorem sF(fr:Fr)(L:zL):(r3 fr L).length=L.length:=by induction L<;>simp[r3, *]
theorem mK{L I:zL}{fr fr':Fr}(h:∀s,m9 s I=true->fr' s=fr s):mix L (r3 fr' L) I fr fr'=fr':=by
  funext s
  unfold mix;induction L with
  |nil=>
    simp only[r3,CW];cases he:m9 s I
    · rfl
    · exact(h s he).symm
  |cons l L ih=>
    simp only[r3,CW];cases hb:Nat.beq s l
    · exact ih
    · have:=xap hb;subst this;rfl
theorem mH{c:Code}{I:zL}(h:CP c I=true):∀s,m9 s I=true->lT c s=false:=by
  induction I with
  |nil=>intro s hs;simp[m9]at hs
  |cons x r ih=>
    intro s hs;simp only[CP,xam,xbj]at h;simp only[m9,xby]at hs;rcases hs with hs|hs
    · rw[xap hs];exact h.1
    · exact ih h.2 s hs
def qk(next:Fr->Hp->Prop)(Q:Exit->Fr->Hp->Prop):Exit->Fr->Hp->Prop
  | .normal,fr,H=>next fr H
  |e,fr,H=>Q e fr H
def BH(id:Nat)(Q:Exit->Fr->Hp->Prop):Exit->Fr->Hp->Prop
  | .exit id',fr,H=>cond (Nat.beq id' id) (Q .normal fr H) (Q (.exit id') fr H)
  |e,fr,H=>Q e fr H
def JE(J:List zV->Hp->Prop)(vs:List zV)(H:Hp):Prop:=∃H',aM H H'/\J vs H'
def aR(I:List zV->Hp->Prop)(m:List zV->Hp->Nat)(vs':List zV)(H':Hp)(vs:List zV)(H:Hp):Prop:=∃dY,aM H' dY/\I vs' dY/\m vs' dY<m vs H
def Loop(L:zL)(vs:List zV)(H:Hp)(body:(List zV->Hp->Prop)->List zV->Hp->Prop):Prop:=
  ∃(I:List zV->Hp->Prop) (m:List zV->Hp->Nat),JE I vs H/\nH L.length λvs=>∀H',I vs H'->body (λvs' dY=>aR I m vs' dY vs H') vs H'
def IJ(k:Nat)(rest:List zV->Hp->Prop)(body:(List zV->Hp->Prop)->Prop):Prop:=
  ∀J:List zV->Hp->Prop,(nH k λvs=>∀H,rest vs H->J vs H)->body J
def DR(H:Hp)(body:Hp->Prop):Prop:=∃R,aM H R/\body R
def iV:Code->Nat->Option (Array Oper)
  | .region id ops _,k=>cond (Nat.beq id k) (some ops) none
  | .seq a b,k=>match iV a k with|some x=>some x|none=>iV b k
  | .cond _ a b,k=>match iV a k with|some x=>some x|none=>iV b k
  | .block _ c,k=>iV c k
  | .loop c,k=>iV c k
  |_,_=>none
def Ly(P:Program)(g:Gh)(id:Nat)(ops:Array Oper)(L:zL)(vs:List zV)(H:Hp)(K:Hp->Prop):Prop:=
  ∀a w,eO a.tmps.size ops.toList=true->(L.map λs=>a.tmps.getD s undef)=vs->Own g H w->
    (Code.region id ops true).wp P (λe a' w'=>e=.normal/\a'.defers=a.defers/\a'.tmps.size=a.tmps.size/\(∀s,aB ops.toList s=false->a'.tmps.getD s undef=a.tmps.getD s undef)/\∃H',Own g H' w'/\K H') a w
def Ni(f:Func)(r:Nat):Array Oper:=match f.body with|some c=>(match iV c r with|some ops=>ops|none=>#[])|none=>#[]
theorem Dv(fr:Fr)(L:zL):r3 fr L=L.map fr:=by induction L<;>simp[r3, *]
def den(P:Program)(g:Gh)(n:Nat):Code->Hn->(Exit->Fr->Hp->Prop)->Fr->Hp->Prop
  | .skip,_,Q,fr,H=>Q .normal fr H
  | .ret,_,Q,fr,H=>Q .ret fr H
  | .exit id,_,Q,fr,H=>Q (.exit id) fr H
  | .seq x y,hn,Q,fr,H=>
    match hn.m with
    |0=>den P g n x hn.a (qk (den P g n y hn.b Q) Q) fr H
    |_=>cond (CP x hn.I)
        (IJ hn.L.length (λvs H'=>∀gs,den P g n y hn.b Q (mix hn.L vs hn.I fr gs) H') λJ=>den P g n x hn.a (qk (λfr' H'=>JE J (r3 fr' hn.L) H') Q) fr H) False
  | .cond c x y,hn,Q,fr,H=>Br (ev fr c) (den P g n x hn.a Q fr H) (den P g n y hn.b Q fr H)
  | .block id c,hn,Q,fr,H=>den P g n c hn.a (BH id Q) fr H
  | .loop c,hn,Q,fr,H=>
    cond (CP c hn.I)
      (Loop hn.L (r3 fr hn.L) H λJ vs H'=>∀gs,den P g n c hn.a (qk (λfr' dY=>J (r3 fr' hn.L) dY) Q) (mix hn.L vs hn.I fr gs) H') False
  | .region id ops draw,hn,Q,fr,H=>
    cond draw
      (match hn.m with
      |0=>match hn.L with
       | []=>cond (P.follows .mixedOrders&&Region.lexB .any ops) (ct P g n ops true (ops.toList.length+1) true none [] ops.toList fr H (λ_ fr' H'=>Q .normal fr' H') (λ_ _=>False)) False
       |l=>cond (P.follows .mixedOrders&&Region.noSelect ops&&Nat.ble l.length ops.size)
          (DR H λR=>xy P g n ops R (λfr' H'=>Q .normal fr' H') l (Array.replicate ops.size false) fr H) False
      |9=>cond (eO n ops.toList) (Ly P g id ops hn.L (r3 fr hn.L) H λH'=>∀gs,Q .normal (kB ops.toList gs fr) H') False
      |_=>cond (P.follows .mixedOrders&&Region.noSelect ops)
          (DR H λR=>iz P g n ops R (λfr' H'=>Q .normal fr' H') hn.a [] (Array.replicate ops.size false) fr H) False)
      (ct P g n ops (match hn.I with| []=>false|_=>true) (ops.toList.length+1) false none [] ops.toList fr H (λ_ fr' H'=>Q .normal fr' H') (λch H'=>∀fr',Q (.panic ch) fr' H'))
  |_,_,_,_,_=>False
theorem qg{c:Code}{Q:Exit->Act->World->Prop}{a:Act}{w:World}(R:Act->World->Nat->Prop)(h₀:∃m,R a w m)
   (round:∀a w m,R a w m->c.wp P (Exit.then (λa' w'=>∃m',m'<m/\R a' w' m') Q) a w):(Code.loop c).wp P Q a w:=by
  intro b k cs;have key:∀n a w,R a w n->
      ∃e a' w',Q e a' w'/\Arrives P (lone (b.at a (.code c:: .inLoop c::k)) cs w) b k cs e a' w':=by
    intro n;induction n using Nat.strongRecOn with
    |_ n ih=>
      intro a w hI;obtain⟨e,a₁,w₁,hq,q5⟩:=round a w n hI b (.inLoop c::k) cs;cases e with
      |normal=>
        obtain⟨m',hlt,Ia⟩:=hq;obtain⟨e₂,a₂,w₂,Hv,Ds⟩:=ih m' hlt a₁ w₁ Ia;exact⟨e₂,a₂,w₂,Hv,.of_steps (Steps.trans q5 (.one step_inLoop)) Ds⟩
      |exit id=>exact⟨_,a₁,w₁,hq,.pass (x:=.inLoop c) rfl (λ_ _=>.inl zI) q5⟩
      |goto l=>exact⟨_,a₁,w₁,hq,.pass (x:=.inLoop c) rfl (λ_ _=>.inl zI) q5⟩
      |ret=>exact⟨_,a₁,w₁,hq,.pass (x:=.inLoop c) rfl (λ_ _=>.inl zI) q5⟩
      |panic ch=>exact⟨_,a₁,w₁,hq,.pass (x:=.inLoop c) rfl (λ_ _=>.inl zI) q5⟩
      |outgrown=>exact⟨_,a₁,w₁,hq,.pass (x:=.inLoop c) rfl (λ_ _=>.inl zI) q5⟩
  obtain⟨m,h₀⟩:=h₀;obtain⟨e,a',w',hq,q5⟩:=key m a w h₀;exact⟨e,a',w',hq,.of_steps (.one step_loop) q5⟩
def jE:Exit->Bool
  | .panic _=>true
  |_=>false
theorem eF{n:Nat}:∀(c:Code) (hn:Hn) (Q:Exit->Fr->Hp->Prop) (fr:Fr) (H:Hp),den P g n c hn Q fr H->∀(a:Act) (w:World),aY ds n a fr->Own g H w->c.wp P (λe a' w'=>∃fr' H',aY ds n a' fr'/\Own g H' w'/\(jE e=false->∀s,lT c s=false->fr' s=fr s)/\Q e fr' H') a w:=by
  intro c;induction c with
  |skip=>intro hn Q fr H h a w ha hw;exact wp_skip ⟨fr,H,ha,hw,λ_ _ _=>rfl,h⟩
  |ret=>intro hn Q fr H h a w ha hw;exact wp_ret ⟨fr,H,ha,hw,λ_ _ _=>rfl,h⟩
  |exit id=>intro hn Q fr H h a w ha hw;exact wp_exit ⟨fr,H,ha,hw,λ_ _ _=>rfl,h⟩
  |seq x y D9 D8=>
    intro hn Q fr H h a w ha hw;unfold den at h;have GZ:∀{Dw k9:Fr},(∀s,lT x s=false->Dw s=fr s)->(∀s,lT y s=false->k9 s=Dw s)->∀s,lT (.seq x y) s=false->k9 s=fr s:=λh1 h2 s hs=>by
      simp only[lT,xar]at hs;rw[h2 s hs.2,h1 s hs.1]
    have nT:∀{Dw:Fr},(∀s,lT x s=false->Dw s=fr s)->∀s,lT (.seq x y) s=false->Dw s=fr s:=λh1 s hs=>by
      simp only[lT,xar]at hs;exact h1 s hs.1
    split at h
    · refine wp_seq (wp_mono (D9 _ _ fr H h a w ha hw) ?_)
      rintro e a' w' ⟨fr',H',bT,hw',ho,hq⟩;cases e with
      |normal=>exact wp_mono (D8 _ _ fr' H' hq a' w' bT hw') λe2 a2 w2 ⟨k9,H2,g1,g2,g3,g4⟩=>⟨k9,H2,g1,g2,λhp=>GZ (ho rfl) (g3 hp),g4⟩
      |exit id=>exact⟨fr',H',bT,hw',λhp=>nT (ho hp),hq⟩
      |goto l=>exact⟨fr',H',bT,hw',λhp=>nT (ho hp),hq⟩
      |ret=>exact⟨fr',H',bT,hw',λhp=>nT (ho hp),hq⟩
      |panic ch=>exact⟨fr',H',bT,hw',λhp=>nT (ho hp),hq⟩
      |outgrown=>exact⟨fr',H',bT,hw',λhp=>nT (ho hp),hq⟩
    · cases hno:CP x hn.I<;>simp only[hno,xal,xah]at h
      have h':=h (λvs H'=>∀gs,den P g n y hn.b Q (mix hn.L vs hn.I fr gs) H') (nH.intro (λvs H' hh=>hh) _);refine wp_seq (wp_mono (D9 _ _ fr H h' a w ha hw) ?_);rintro e a' w' ⟨fr',H',bT,hw',ho,hq⟩;cases e with
      |normal=>
        obtain⟨Hj,hent,hq⟩:=hq;have I0:den P g n y hn.b Q fr' Hj:=by
          have:=hq fr';rwa [mK λs hs=>ho rfl s (mH hno s hs)]at this
        exact wp_mono (D8 _ _ fr' Hj I0 a' w' bT (hent _ _ hw')) λe2 a2 w2 ⟨k9,H2,g1,g2,g3,g4⟩=>⟨k9,H2,g1,g2,λhp=>GZ (ho rfl) (g3 hp),g4⟩
      |exit id=>exact⟨fr',H',bT,hw',λhp=>nT (ho hp),hq⟩
      |goto l=>exact⟨fr',H',bT,hw',λhp=>nT (ho hp),hq⟩
      |ret=>exact⟨fr',H',bT,hw',λhp=>nT (ho hp),hq⟩
      |panic ch=>exact⟨fr',H',bT,hw',λhp=>nT (ho hp),hq⟩
      |outgrown=>exact⟨fr',H',bT,hw',λhp=>nT (ho hp),hq⟩
  |cond c x y D9 D8=>
    intro hn Q fr H h a w ha hw;obtain⟨b,hb,ht,hf⟩:=h;refine wp_cond_split (t:=b) (by rw[ha.eval];exact hb) (λe=>?_) (λe=>?_)
    · exact wp_mono (D9 _ _ fr H (ht e) a w ha hw) λe2 a2 w2 ⟨k9,H2,g1,g2,g3,g4⟩=>⟨k9,H2,g1,g2,λhp s hs=>g3 hp s (by simp only[lT,xar]at hs;exact hs.1),g4⟩
    · exact wp_mono (D8 _ _ fr H (hf e) a w ha hw) λe2 a2 w2 ⟨k9,H2,g1,g2,g3,g4⟩=>⟨k9,H2,g1,g2,λhp s hs=>g3 hp s (by simp only[lT,xar]at hs;exact hs.2),g4⟩
  |block id c ih=>
    intro hn Q fr H h a w ha hw;refine wp_block (wp_mono (ih _ _ fr H h a w ha hw) ?_);rintro e a' w' ⟨fr',H',bT,hw',ho,hq⟩;cases e with
    |exit id'=>
      simp only[BH]at hq;cases hb:Nat.beq id' id<;>simp only[hb,xal,xah]at hq
      · have:id'≠id:=λe=>by subst e;simp at hb
        simp only[Exit.inBlock,this,xaG];exact⟨fr',H',bT,hw',ho,hq⟩
      · have:=xap hb
        simp only[Exit.inBlock,this,xaS];exact⟨fr',H',bT,hw',ho,hq⟩
    |normal=>exact⟨fr',H',bT,hw',ho,hq⟩
    |goto l=>exact⟨fr',H',bT,hw',ho,hq⟩
    |ret=>exact⟨fr',H',bT,hw',ho,hq⟩
    |panic ch=>exact⟨fr',H',bT,hw',ho,hq⟩
    |outgrown=>exact⟨fr',H',bT,hw',ho,hq⟩
  |loop c ih=>
    intro hn Q fr H h a w ha hw;unfold den at h;cases hno:CP c hn.I<;>simp only[hno,xal,xah]at h;obtain⟨I,m,⟨H0,HO,h0⟩,hr⟩:=h;refine qg (λa w k=>∃fr' H',aY ds n a fr'/\Own g H' w/\(∀s,lT c s=false->fr' s=fr s)/\I (r3 fr' hn.L) H'/\m (r3 fr' hn.L) H'=k) ⟨_,fr,H0,ha,HO _ _ hw,λ_ _=>rfl,h0,rfl⟩ ?_;rintro a w k ⟨Dw,H1,Oj,qW,I2,hI,rfl⟩;have hb:=hr.elim (r3 Dw hn.L) (sF _ _) H1 hI Dw;rw[mK λs hs=>I2 s (mH hno s hs)]at hb;refine wp_mono (ih _ _ Dw H1 hb a w Oj qW) ?_;rintro e a' w' ⟨fr',H',bT,hw',ho,hq⟩;have cB:jE e=false->∀s,lT c s=false->fr' s=fr s:=λhp s hs=>(ho hp s hs).trans (I2 s hs);cases e with
    |normal=>obtain⟨Hj,hent,E6,gP⟩:=hq;exact⟨_,gP,fr',Hj,bT,hent _ _ hw',cB rfl,E6,rfl⟩
    |exit id=>exact⟨fr',H',bT,hw',cB,hq⟩
    |goto l=>exact⟨fr',H',bT,hw',cB,hq⟩
    |ret=>exact⟨fr',H',bT,hw',cB,hq⟩
    |panic ch=>exact⟨fr',H',bT,hw',cB,hq⟩
    |outgrown=>exact⟨fr',H',bT,hw',cB,hq⟩
  |region id ops draw=>
    intro hn Q fr H h a w ha hw;unfold den at h;cases draw<;>simp only[xal,xah]at h
    case false=>
      refine wp_region_list ?_;have:=bc _ _ _ _ _ fr H _ _ h trivial (dG.nil fr) a w ha hw [] (λe a' w'=>∃fr' H',aY ds n a' fr'/\Own g H' w'/\(jE e=false->∀s,lT (.region id ops false) s=false->fr' s=fr s)/\Q e fr' H') ?_ ?_
      · simpa using this
      · intro a' w' iE fr' H' h1 h2 h3 _ h4
        exact⟨fr',H',h1,h2,λ_=>h3,h4⟩
      · intro ch a' w' fr' H' h1 h2 h3
        exact⟨fr',H',h1,h2,λhp=>by simp[jE]at hp,h3 fr'⟩
    case true=>
      split at h
      · split at h
        · cases hc:(P.follows .mixedOrders&&Region.lexB .any ops)<;>simp only[hc,xal,xah]at h
          simp only[xam]at hc;refine wp_region_quiet (C:=Own g H) hc.1 hc.2 hw.rz ?_;have:=bW _ none _ ops.toList fr H _ _ h trivial (dG.nil fr) a ha [] (λa'=>∀w',Own g H w'->∃fr' H',aY ds n a' fr'/\Own g H' w'/\(jE .normal=false->∀s,lT (.region id ops true) s=false->fr' s=fr s)/\Q .normal fr' H') ?_
          · simpa using this
          · intro a' iE fr' h1 h3 _ h4
            exact λw' hw'=>⟨fr',H,h1,hw',λ_=>h3,h4⟩
        · cases hc:(P.follows .mixedOrders&&Region.noSelect ops&&Nat.ble hn.L.length ops.size)<;>simp only[hc,xal,xah]at h
          simp only[xam]at hc;obtain⟨R,hR,h⟩:=h;refine wp_mono (Q:=jS λe a' w'=>∃fr' H',aY ds n a' fr'/\Own g H' w'/\(jE e=false->∀s,lT (.region id ops true) s=false->fr' s=fr s)/\Q e fr' H') ?_ ?_
          · refine wp_region_any hc.1.1 (cP.any (S:=vX P g R ops) ?_)
            exact jL hc.1.2 fr (λa w fr' H' h1 h2 h3 h4=>⟨fr',H',h1,h2,λ_=>h3,h4⟩) _ _ fr H h _ (xbn hc.2) (cS.none _ rfl) _ _ ha hw.rz (λ_=>(hR _ _ hw).rz) (cD.refl _ _)
          · intro e a w h
            cases e<;>first|exact h|exact h.elim
      · cases hc:eO n ops.toList<;>simp only[hc,xal,xah]at h
        refine wp_mono (h a w (by rw[ha.size];exact hc) (by rw[Dv];exact xbA λs _=>ha.get s) hw) ?_;rintro e a' w' ⟨rfl,hd,hs,ho,H',hw',hk⟩;refine⟨kB ops.toList (λs=>a'.tmps.getD s undef) fr,H',⟨hd.trans ha.defers,hs.trans ha.size,λs=>?_⟩,hw',λ_ s hs=>?_,hk _⟩
        · unfold kB
          cases hb:aB ops.toList s
          · rw[xah,ho s hb,ha.get]
          · rfl
        · unfold kB;simp only[lT]at hs;rw[hs,xah]
      · cases hc:(P.follows .mixedOrders&&Region.noSelect ops)<;>simp only[hc,xal,xah]at h
        simp only[xam]at hc;obtain⟨R,hR,h⟩:=h;refine wp_mono (Q:=jS λe a' w'=>∃fr' H',aY ds n a' fr'/\Own g H' w'/\(jE e=false->∀s,lT (.region id ops true) s=false->fr' s=fr s)/\Q e fr' H') ?_ ?_
        · refine wp_region_any hc.1 (cP.any (S:=ji P g [R] ops) ?_)
          refine cC (Xs:=[_]) hc.2 (.head _) (λX hX=>by rw[xaH.1 hX];exact .refl _) fr (λa w fr' H' h1 h2 h3 h4=>⟨fr',H',h1,h2,λ_=>h3,h4⟩) _ _ [] _ fr H h [] _ fr (by rw[Array.toList_replicate,n7];exact xak _) ⟨by simp,by simp,by simp,λ_ _=>rfl,by simp,λj x hx=>by simp[cR]at hx⟩ (cS.none _ rfl) _ _ ha hw.rz (λ_=>(hR _ _ hw).rz) (cD.refl _ _)
        · intro e a w h
          cases e<;>first|exact h|exact h.elim
  |label l=>intro hn Q fr H h;exact h.elim
  |goto l=>intro hn Q fr H h;exact h.elim
  |scope c _=>intro hn Q fr H h;exact h.elim
  |refuse s=>intro hn Q fr H h;exact h.elim
  |rangeFunc f ps as b _ _=>intro hn Q fr H h;exact h.elim
def dj(R:Ending->Hp->Prop):List PanicEntry->Hp->Prop:=λch H=>∀_:Fr,R (.panicked ch) H
def xL:List PanicEntry->Hp->Prop:=λ_ _=>False
def mE:Code->Nat->Option (Array Oper)
  | .region id ops _,k=>cond (Nat.beq id k) (some ops) none
  | .seq a b,k=>match mE a k with|some x=>some x|none=>mE b k
  | .cond _ a b,k=>match mE a k with|some x=>some x|none=>mE b k
  | .block _ c,k=>mE c k
  | .loop c,k=>mE c k
  |_,_=>none
def e6(f:Func)(r i:Nat):Oper:=match f.body with|some c=>(match mE c r with|some ops=>(match ops[i]? with|some o=>o|none=>default)|none=>default)|none=>default
def eP:List zV->Nat->Fr
  | [],_=>λ_=>undef
  |v::r,i=>λs=>cond (Nat.beq s i) v (eP r (i+1) s)
def iU(P:Program)(fr:Fr)(H:Hp):List ResultVar->(List zV->Prop)->Prop
  | [],k=>k []
  | .tmp t::r,k=>iU P fr H r λvs=>k (fr t::vs)
  | .cell a t::r,k=>match P.underlying t,bU P t with
    |some d,some n=>cond (bJ d) (az n H (fr a) λv=>iU P fr H r λvs=>k (v::vs)) (Ld H (fr a) λv=>iU P fr H r λvs=>k (v::vs))
    |_,_=>False
def mv:List zV->zV
  | [v]=>v
  |vs=>.tuple vs.toArray
def Ln(P:Program)(fn:Func)(R:Ending->Hp->Prop):Exit->Fr->Hp->Prop
  | .normal,fr,H=>iU P fr H fn.results.toList λvs=>R (.returned (mv vs)) H
  | .ret,fr,H=>iU P fr H fn.results.toList λvs=>R (.returned (mv vs)) H
  | .panic ch,_,H=>R (.panicked ch) H
  |_,_,_=>False
def sL(P:Program)(g:Gh)(fn:Func)(hn:Hn)(args:List zV)(H:Hp)(R:Ending->Hp->Prop):Prop:=
  match fn.body with
  |some c=>cond (Nat.ble args.length fn.ntmps) (den P g fn.ntmps c hn (Ln P fn R) (eP args 0) H) False
  |none=>False
theorem jb:∀(l:List zV) (i s:Nat),eP l i s=if s<i then undef else l.getD (s-i) undef
  | [],i,s=>by simp[eP]
  |v::r,i,s=>by
    simp only[eP,jb r (i+1) s];cases hb:Nat.beq s i
    · have hne:s≠i:=λe=>by subst e;simp at hb
      simp only[xah];by_cases h:s<i
      · rw[xae zO,xae h]
      · rw[xab zO,xab h,show s-i=(s-(i+1))+1 by omega]
        simp[List.getD]
    · have:=xap hb;subst this
      simp[List.getD]
def wy(fr:Fr):ResultVar->Sem zV
  | .tmp t=>pure (fr t)
  | .cell b t=>do loadVar t (<-asAddr (fr b))
theorem k6{fr:Fr}{H:Hp}{w:World}(hw:Own g H w){b:Tmp}{t:TypeId}{v:zV}{p:Addr}(hp:fr b=.pointer (some p))(h:(Instr.loadAt t (fr b)).run P w=.ok v w):(wy fr (.cell b t)).run P w=.ok v w:=by
  rw[hp]at h;simp only[wy,hp,asAddr];simpa[Instr.loadAt,Instr.sureAddr]using h
theorem jw{fr:Fr}{H:Hp}{w:World}(hw:Own g H w):∀(l:List ResultVar) (k:List zV->Prop),iU P fr H l k->
    ∃vs,(l.mapM (wy fr)).run P w=.ok vs w/\k vs
  | [],k,h=>⟨[],by simp,h⟩
  | .tmp t::r,k,h=>by
    obtain⟨vs,hr,hk⟩:=jw hw r _ h;refine⟨fr t::vs,?_,hk⟩;simp only[xdg,Sem.run_bind,Sem.run_pure,Result.andThen_ok,hr,wy]
  | .cell b t::r,k,h=>by
    unfold iU at h;split at h<;>try exact h.elim
    rename_i d m hd hm;obtain⟨i,hi,NV⟩:=aG hm;cases hag:bJ d<;>simp only[hag,xal,xah]at h
    · obtain⟨v,hk',hf⟩:=h.fix
      obtain⟨v2,pI,e⟩:=hf.run (P:=P) hw hd hag;subst e;obtain⟨bb,off,c,T,fz,u,hp,_⟩:=hf;obtain⟨vs,hr,hk⟩:=jw hw r _ hk';refine⟨v2::vs,?_,hk⟩;have:=k6 hw hp pI;simp only[xdg,Sem.run_bind,Result.andThen_ok,hr,Sem.run_pure,this]
    · obtain⟨v,hk',hf⟩:=h.fix
      obtain⟨v2,pI,e⟩:=hf.run (P:=P) hw hd hag hi NV;subst e;obtain⟨bb,off,c,T,fz,hp,_⟩:=hf;obtain⟨vs,hr,hk⟩:=jw hw r _ hk';refine⟨v2::vs,?_,hk⟩;have:=k6 hw hp pI;simp only[xdg,Sem.run_bind,Result.andThen_ok,hr,Sem.run_pure,this]
theorem df{fn:Func}{fr:Fr}{H:Hp}{n:Nat}{a:Act}{w:World}(ha:aY ds n a fr)(hw:Own g H w){k:List zV->Prop}(h:iU P fr H fn.results.toList k):
    ∃vs,(results fn a.tmps).run P w=.ok (mv vs) w/\k vs:=by
  obtain⟨vs,hr,hk⟩:=jw (P:=P) hw _ _ h;refine⟨vs,?_,hk⟩;have e:results fn a.tmps=(do let vs <-fn.results.mapM (wy fr);pure (if h:vs.size=1 then vs[0]else .tuple vs)):=by
    unfold results;congr 1;congr 1
    funext x
    cases x<;>simp only[wy,ha.get]
  rw[e,Array.mapM_eq_mapM_toList];simp only[Sem.run_bind,Sem.run_map,hr,Result.andThen_ok,Sem.run_pure];congr 1
  match vs with
  | []=>rfl
  | [v]=>rfl
  |a::b::r=>simp[mv]
theorem sK{f:FuncId}{fn:Func}{hn:Hn}{args:List zV}{H:Hp}{R:Ending->Hp->Prop}(hf:P.funcs[f]? =some fn)(h:sL P g fn hn args H R):aT P g f args.toArray H R:=by
  intro w hw;unfold sL at h;split at h<;>try exact h.elim
  rename_i c hc;cases hl:Nat.ble args.length fn.ntmps<;>simp only[hl,xal,xah]at h;have hle:=xbn hl;refine calls_of_wp hf hc (wp_mono (eF c hn _ _ H h _ w ⟨rfl,?_,?_⟩ hw) ?_)
  · simp;omega
  · intro s
    rw[jb,xaj,Array.getElem?_append];simp only[xce,xcv,xaG,xc3];by_cases hs:s<args.length
    · simp[hs,List.getD]
    · rw[xab hs]
      rw[xcA];have:args.getD s undef=undef:=by simp[List.getD,xaM (xcP hs)]
      rw[this];split<;>rfl
  · rintro e a' w' ⟨fr',H',bT,hw',_,hq⟩
    cases e with
    |normal=>obtain⟨vs,hr,hk⟩:=df bT hw' hq;exact⟨bT.defers,_,hr,H',hw',hk⟩
    |ret=>obtain⟨vs,hr,hk⟩:=df bT hw' hq;exact⟨bT.defers,_,hr,H',hw',hk⟩
    |panic ch=>exact⟨bT.defers,H',hw',hq⟩
    |exit id=>exact hq.elim
    |goto l=>exact hq.elim
    |outgrown=>exact hq.elim
end
end Go.Sx
namespace Go.Sx
open Go
section
variable {P:Program} {g:Gh} {H:Hp}
theorem Nil.ptr{a:Addr}{k:zV->Prop}(h:k (.pointer (some a))):Nil (.pointer (some a)) k:=⟨_,rfl,h⟩
theorem ag.mk{b o off:Nat}{k:zV->Prop}(h:k (.pointer (some ⟨b,o+off,none⟩))):ag off (.pointer (some ⟨b,o,none⟩)) k:=⟨b,o,rfl,h⟩
theorem Ld.mk{b off:Nat}{c:Array zV}{T:TypeId}{fz:Nat×Nat}{v:zV}{k:zV->Prop}(hm:(b,Obj.cells c T fz)∈H)(hc:c[off]? =some v)(h:k v):Ld H (.pointer (some ⟨b,off,none⟩)) k:=
 ⟨b,off,c,T,fz,v,rfl,hm,hc,h⟩
theorem az.mk{b off n:Nat}{c:Array zV}{T:TypeId}{fz:Nat×Nat}{vs:Array zV}{k:zV->Prop}(hm:(b,Obj.cells c T fz)∈H)(hs:off+n<=c.size)(hc:c.extract off (off+n)=vs)(h:k (.agg vs)):az n H (.pointer (some ⟨b,off,none⟩)) k:=
 ⟨b,off,c,T,fz,rfl,hm,hs,by rw[hc];exact h⟩
theorem St.mk{b off n:Nat}{c:Array zV}{T:TypeId}{x:zV}{c':Array zV}{H':Hp}{k:Hp->Prop}(hu:cm b (.cells c T zZ) (.cells c' T zZ) H H')(hx:x.cells.size=n)(hs:off+n<=c.size)
 (h1:∀v∈x.cells.toList,v.oneCell'=true)(hc:over c off x.cells.toList=c')(h:k H'):St n H (.pointer (some ⟨b,off,none⟩)) x k:=
 ⟨b,off,c,T,H',rfl,hx,hs,h1,by rw[hc];exact hu,h⟩
theorem JE.mk{J:List zV->Hp->Prop}{vs:List zV}(h:J vs H):JE J vs H:=⟨H,.refl _,h⟩
theorem JE.of{J:List zV->Hp->Prop}{vs:List zV}{H':Hp}(e:aM H H')(h:J vs H'):JE J vs H:=⟨H',e,h⟩
theorem aR.mk{I:List zV->Hp->Prop}{m:List zV->Hp->Nat}{vs' vs:List zV}{H0:Hp}(h:I vs' H)(hm:m vs' H<m vs H0):aR I m vs' H vs H0:=⟨H,.refl _,h,hm⟩
theorem aR.of{I:List zV->Hp->Prop}{m:List zV->Hp->Nat}{vs' vs:List zV}{H' H0:Hp}(e:aM H H')(h:I vs' H')(hm:m vs' H'<m vs H0):aR I m vs' H vs H0:=⟨H',e,h,hm⟩
theorem Br.mk{b:Bool}{t f:Prop}(h1:b=true->t)(h2:b=false->f):Br (.bool b) t f:=⟨b,rfl,h1,h2⟩
theorem Br.yes{t f:Prop}(h1:t):Br (.bool true) t f:=⟨true,rfl,λ_=>h1,λh=>by simp at h⟩
theorem Br.no{t f:Prop}(h1:f):Br (.bool false) t f:=⟨false,rfl,λh=>by simp at h,λ_=>h1⟩
theorem Br.Ex{b:Bool}{t f:Prop}(hb:b=true)(h1:t):Br (.bool b) t f:=by subst hb;exact Br.yes h1
theorem Br.JV{b:Bool}{t f:Prop}(hb:b=false)(h1:f):Br (.bool b) t f:=by subst hb;exact Br.no h1
theorem bL.mk{a:Bool}{want:Bool}{inner els k:Bool->Prop}(t:Bool)(h1:a=want->inner t)(h2:a= !want->els t)(h3:k t):bL (.bool a) want inner els k:=⟨a,t,rfl,h1,h2,h3⟩
theorem bL.and{a:Bool}{inner els k:Bool->Prop}(b:Bool)(h1:a=true->inner b)(h2:els false)(h3:k (a&&b)):bL (.bool a) true inner els k:=
 ⟨a,a&&b,rfl,λe=>by subst e;exact h1 rfl,λe=>by subst e;exact h2,h3⟩
theorem bL.or{a:Bool}{inner els k:Bool->Prop}(b:Bool)(h1:a=false->inner b)(h2:els true)(h3:k (a||b)):bL (.bool a) false inner els k:=
 ⟨a,a||b,rfl,λe=>by subst e;exact h1 rfl,λe=>by subst e;exact h2,h3⟩
theorem Split.go{a:Bool}{want:Bool}{k1 k2:Prop}(e:a=want)(h1:k1):Split (.bool a) want k1 k2:=⟨a,rfl,λ_=>h1,λe'=>by subst e;cases a<;>simp at e'⟩
theorem Split.zv{a:Bool}{want:Bool}{k1 k2:Prop}(e:a= !want)(h1:k2):Split (.bool a) want k1 k2:=⟨a,rfl,λe'=>by subst e';cases a<;>simp at e,λ_=>h1⟩
theorem bX.mk{t:Bool}{a b:zV}{k:zV->Prop}(h:k (cond t a b)):bX (.bool t) a b k:=⟨t,rfl,h⟩
theorem Un.not{b:Bool}{k:zV->Prop}(h:k (.bool !b)):Un .not (.bool b) k:=⟨_,rfl,h⟩
theorem Ext.mk{i:Nat}{vs:Array zV}{v:zV}{k:zV->Prop}(hv:vs[i]? =some v)(h:k v):Ext i (.tuple vs) k:=⟨vs,v,rfl,hv,h⟩
theorem bY.mk{a:Option Addr}{n c:Nat}{k:zV->Prop}(h:k (.int .i64 n)):bY (.slice a n c) k:=⟨a,n,c,rfl,h⟩
theorem bj.of{kd j:IntKind}{n m:Int}{k:zV->Prop}(e:kd.wrap n=m)(h:k (.int kd m)):bj kd (.int j n) k:=⟨j,n,rfl,by rw[e];exact h⟩
theorem qf.mk{off:Nat}{cs:Array zV}{v:zV}{k:zV->Prop}(hc:cs[off]? =some v)(h:k v):qf off (.agg cs) k:=⟨cs,v,rfl,hc,h⟩
theorem ai.mk{size b o n c:Nat}{kd:IntKind}{i:Int}{k:zV->Prop}(h0:0<=i)(h1:i<(n:Int))(h:k (.pointer (some ⟨b,o+i.toNat*size,none⟩))):ai size (.slice (some ⟨b,o,none⟩) n c) (.int kd i) k:=
 ⟨b,o,n,c,kd,i,rfl,rfl,h0,h1,h⟩
theorem ai.nat{size b o n c:Nat}{kd:IntKind}{j:Nat}{k:zV->Prop}(h1:j<n)(h:k (.pointer (some ⟨b,o+j*size,none⟩))):ai size (.slice (some ⟨b,o,none⟩) n c) (.int kd (j:Int)) k:=
 ai.mk (xbp j) zO (by simpa using h)
theorem ae.eql{kd:IntKind}{a b:Int}{k:zV->Prop}(h:k (.bool (a==b))):ae .num .eql (.int kd a) (.int kd b) k:=⟨_,by simp[eV,iq],h⟩
theorem ae.neq{kd:IntKind}{a b:Int}{k:zV->Prop}(h:k (.bool (a !=b))):ae .num .neq (.int kd a) (.int kd b) k:=⟨_,by simp[eV,iq],h⟩
theorem ae.lss{kd:IntKind}{a b:Int}{k:zV->Prop}(h:k (.bool (decide (a<b)))):ae .num .lss (.int kd a) (.int kd b) k:=⟨_,by simp[eV,iq],h⟩
theorem ae.leq{kd:IntKind}{a b:Int}{k:zV->Prop}(h:k (.bool (decide (a<=b)))):ae .num .leq (.int kd a) (.int kd b) k:=⟨_,by simp[eV,iq],h⟩
theorem ae.gtr{kd:IntKind}{a b:Int}{k:zV->Prop}(h:k (.bool (decide (b<a)))):ae .num .gtr (.int kd a) (.int kd b) k:=⟨_,by simp[eV,iq],h⟩
theorem ae.geq{kd:IntKind}{a b:Int}{k:zV->Prop}(h:k (.bool (decide (b<=a)))):ae .num .geq (.int kd a) (.int kd b) k:=⟨_,by simp[eV,iq],h⟩
theorem ae.add{kd:IntKind}{a b:Int}{k:zV->Prop}(h:k (.int kd (kd.wrap (a+b)))):ae .num .add (.int kd a) (.int kd b) k:=⟨_,by simp[eV,iq],h⟩
theorem ae.sub{kd:IntKind}{a b:Int}{k:zV->Prop}(h:k (.int kd (kd.wrap (a-b)))):ae .num .sub (.int kd a) (.int kd b) k:=⟨_,by simp[eV,iq],h⟩
theorem ae.mul{kd:IntKind}{a b:Int}{k:zV->Prop}(h:k (.int kd (kd.wrap (a*b)))):ae .num .mul (.int kd a) (.int kd b) k:=⟨_,by simp[eV,iq],h⟩
theorem wrap_i64{a:Int}(h: -9223372036854775808<=a/\a<=9223372036854775807):IntKind.i64.wrap a=a:=IntWalk.i64_in _ h
theorem ae.D0{kd:IntKind}{a b:Int}{c:Int}{k:zV->Prop}(hb0:b≠0)(e:a.tmod b=c)(h:k (.int kd c)):ae .num .rem (.int kd a) (.int kd b) k:=
 ⟨.int kd c,by simp[eV,iq,hb0,e],h⟩
theorem ae.bB{a:Addr}{k:zV->Prop}(h:k (.bool false)):ae .ptr .eql (.pointer (some a)) (.pointer none) k:=⟨.bool false,by simp[eV],h⟩
theorem ae.EP{k:zV->Prop}(h:k (.bool true)):ae .ptr .eql (.pointer none) (.pointer none) k:=⟨.bool true,by simp[eV],h⟩
theorem aM.DX(A B C:Hp):aM (A++(B++C)) (B++(A++C)):=.perm (by rw[<-xau,<-xau];exact xaK.append_right C)
def flat:List Hp->Hp
 | []=>[]
 | [a]=>a
 |a::b::r=>a++flat (b::r)
theorem kE:∀(l:List Hp),(flat l).Perm l.flatten
 | []=>.refl _
 | [a]=>by simp[flat]
 |a::b::r=>by
  simp only[flat,xbT];exact xcU _ (by simpa using kE (b::r))
theorem aM.GP(S T:List Hp)(h:S.Perm T):aM (flat S) (flat T):=
 .perm ((kE S).trans (h.flatten.trans (kE T).symm))
def rows(l:List (List zV)):Array zV:=l.flatten.toArray
theorem lp{k:Nat}:∀(l:List (List zV)) (i j:Nat),(∀r∈l,r.length=k)->j<k->l.flatten[i*k+j]? =(l[i]?).bind (·[j]?)
 | [],i,j,_,_=>by simp
 |r::l,0,j,h,hj=>by
  have:=h r zI;simp[xc4,this,hj]
 |r::l,i+1,j,h,hj=>by
  have hr:=h r zI;have ih:=lp l i j (λx hx=>h x (by simp[hx])) hj;rw[xbT,xbS (by rw[hr,xbe];omega),hr,show(i+1)*k+j-k=i*k+j by rw[xbe];omega,ih];simp
theorem bR{k:Nat}:∀(l:List (List zV)),(∀r∈l,r.length=k)->l.flatten.length=l.length*k
 | [],_=>by simp
 |r::l,h=>by
  have hr:=h r zI;rw[xbT,xaq,hr,bR l (λx hx=>h x (by simp[hx]))];simp[xbe];omega
theorem aS{k:Nat}{l:List (List zV)}(h:∀r∈l,r.length=k):(rows l).size=l.length*k:=by simp[rows,bR l h]
theorem dK{k:Nat}{l:List (List zV)}(h:∀r∈l,r.length=k){i j:Nat}(hj:j<k):(rows l)[i*k+j]? =(l[i]?).bind (·[j]?):=by
 simp only[rows,xcV];exact lp l i j h hj
theorem pw{k:Nat}{l:List (List zV)}(h:∀r∈l,r.length=k){i:Nat}{r:List zV}(hi:l[i]? =some r):(rows l).extract (i*k) (i*k+k)=r.toArray:=by
 have hr:=h r (xaJ hi);have hlt:=(xag.1 hi).1;apply xb8;apply xbM;intro j;by_cases hj:j<k
 ·have:=dK h (i:=i) hj;rw[xbc,Array.getElem?_extract];rw[xae (by rw[aS h];have:=xa7 k (xbU hlt);rw[xbe]at this;omega),this,hi];simp
 rw[xaM zP,xaM zP]
theorem fT:∀(vs:List zV) (c:List zV) (off:Nat),off+vs.length<=c.length->over c.toArray off vs=(c.take off++vs++c.drop (off+vs.length)).toArray
 | [],c,off,_=>by simp[over]
 |v::r,c,off,h=>by
  simp only[xai]at h;have hl:off<c.length:=by omega
  have:c.toArray.setIfInBounds off v=(c.set off v).toArray:=by simp
  rw[over,this,fT r (c.set off v) (off+1) (by simp only[xb9];omega)];congr 1;have e1:(c.set off v).take (off+1)=c.take off++[v]:=by
   rw[xcK,xae hl,List.take_append];simp[List.take_take,hl,xcw (xbR hl)]
  have e2:(c.set off v).drop (off+1+r.length)=c.drop (off+(v::r).length):=by
   rw[List.drop_set_of_lt zO];simp only[xai];rw[show off+1+r.length=off+(r.length+1)by omega]
  rw[e1,e2];simp
theorem qw{k:Nat}{l:List (List zV)}(h:∀r∈l,r.length=k){i:Nat}(hi:i<l.length){r:List zV}(hr:r.length=k):over (rows l) (i*k) r=rows (l.set i r):=by
 unfold rows;have hlen:=bR l h;have hle:i*k+k<=l.length*k:=by have:=xa7 k (xbU hi);rwa [xbe]at this
 rw[fT r l.flatten (i*k) (by rw[hlen,hr];exact hle)];congr 1;have e:l=l.take i++[l[i]]++l.drop (i+1):=by simp
 have hp:(l.take i).flatten.length=i*k:=by
  rw[bR _ (λx hx=>h x (xc5 hx))];simp[xcw (xbR hi)]
 have hm:l[i].length=k:=h _ (xaN hi);have e3:l.flatten=(l.take i).flatten++(l[i]++(l.drop (i+1)).flatten):=by
  rw[<-xbT,<-xbB,<-xaW hi,xcW]
 have e4:(l.set i r).flatten=(l.take i).flatten++(r++(l.drop (i+1)).flatten):=by
  rw[xcK,xae hi];simp[xbB]
 rw[e4,e3,<-hp,xdh,<-List.drop_drop,List.drop_left,hr,<-hm,List.drop_left];simp
end
end Go.Sx
namespace Go.Sx
open Go
section
variable {P:Program} {g:Gh}
theorem cm.ax{b:Nat}{o o':Obj}{C C':Hp}(h:cm b o o' C C')(A:Hp):cm b o o' (A++C) (A++C'):=by
 induction A with
 |nil=>exact h
 |cons x A ih=>exact .tail ih
def ay(T:TypeId)(k:Nat)(v:zV)(rs:List (List zV))(C:Hp):Prop:=
 (v=.slice none 0 0/\rs=[]/\C=[])\/
 ∃b aF,v=.slice (some ⟨b,0,none⟩) rs.length (rs.length+aF.length)/\C=[(b,.cells (rows (rs++aF)) T zZ)]/\(∀r∈rs++aF,r.length=k)
theorem ay.nil(T:TypeId)(k:Nat):ay T k (.slice none 0 0) [] []:=.inl ⟨rfl,rfl,rfl⟩
theorem ay.len{T:TypeId}{k:Nat}{v:zV}{rs:List (List zV)}{C:Hp}(h:ay T k v rs C):∃a c,v=.slice a rs.length c:=by
 rcases h with⟨rfl,rfl,rfl⟩|⟨b,aF,rfl,_⟩
 ·exact⟨_,_,rfl⟩
 exact⟨_,_,rfl⟩
theorem ay.c6{T:TypeId}{k:Nat}{v:zV}{rs:List (List zV)}{C:Hp}(h:ay T k v rs C){K:zV->Prop}(hk:K (.int .i64 rs.length)):bY v K:=by
 obtain⟨a,c,rfl⟩:=h.len;exact bY.mk hk
theorem jo{k:Nat}(z:List zV)(hz:z.length=k)(m:Nat):Builtin.zeroCells z.toArray m=rows (List.replicate m z):=by
 apply xb8;apply xbM;intro j;have aL:∀r∈List.replicate m z,r.length=k:=λr hr=>by rw[xbq hr,hz]
 by_cases hj:j<m*k
 ·have hk:0<k:=Nat.pos_of_ne_zero λe=>by simp[e]at hj
  have hd:j/k<m:=xc6 (by rw[xbf];exact hj);have hm:j%k<k:=xbG _ hk;have he:j/k*k+j%k=j:=by rw[xbf];exact xc7 j k
  have:=dK aL (i:=j/k) hm;rw[he]at this;rw[xbc,xbc,this];simp only[Builtin.zeroCells,xce,hz,xcI,hd,xaS,xcO];rw[Array.getElem?_map,Array.getElem?_range];simp[hj,hz,hm]
 rw[xaM,xaM]
 ·simp only[xbP,aS aL,xch];omega
 simp[Builtin.zeroCells,hz];omega
theorem cx(a b:List (List zV)):rows a++rows b=rows (a++b):=by simp[rows,xbB]
theorem ay.DG{elem k bytes:Nat}{zero:zV}{v:zV}{rs:List (List zV)}{C A B:Hp}(h:ay elem k v rs C){xb:Nat}{r:List zV}{xT:TypeId}{fz:Nat×Nat}{xc:Nat}
 (hx:(xb,Obj.cells r.toArray xT fz)∈A++(C++B))(hr:r.length=k)(h1:∀u∈r,u.oneCell'=true)(hz:∃z:List zV,zero.cells=z.toArray/\z.length=k)
 (hb:(rs.length+1)*bytes<=140737488355328)(mU:rs.length+1<=9223372036854775807){K:zV->Hp->Prop}
 (hk:∀v' C',ay elem k v' (rs++[r]) C'->K v' (A++(C'++B))):App P elem k bytes zero (A++(C++B)) v (.slice (some ⟨xb,0,none⟩) 1 xc) K:=by
 have vw:∀x∈[r],x.length=k:=λx hx=>by simp at hx;rw[hx];exact hr
 obtain⟨z,Hh,Da⟩:=hz;have hnews:Cells (A++(C++B)) (some ⟨xb,0,none⟩) (1*k) (rows [r]):=.inr ⟨rfl,_,_,_,hx,by simp[hr],by simp[rows];rw[<-hr,xb3]⟩;have hnone:∀u∈(rows [r]).toList,u.oneCell'=true:=by simpa[rows]using h1
 rcases h with⟨rfl,rfl,rfl⟩|⟨b,aF,rfl,rfl,aL⟩
 ·refine⟨none,0,0,some ⟨xb,0,none⟩,1,xc,#[],rows [r],rfl,rfl,rfl,hnews,by rw[aS vw];simp,by simp,hnone,λh=>by omega,λ_=>⟨hb,by omega,λc5 hn b KL=>?_⟩⟩;rw[show(#[]:Array zV)++rows [r]++Builtin.zeroCells zero.cells (c5-(0+1))=rows ([]++[r]++List.replicate (c5-1) z)by rw[Hh,jo z Da];simp only[xa1,xb7,xa2];rw[cx]];refine⟨_,aM.DX [(b,_)] A B,hk _ [(b,_)] (.inr ⟨b,List.replicate (c5-1) z,?_,rfl,?_⟩)⟩
  ·simp;omega
  intro x hx;rcases xaw.1 hx with hx|hx
  ·exact vw x hx
  rw[xbq hx,Da]
 have hsz:=aS aL;have iI:∀x∈rs,x.length=k:=λx hx=>aL x (by simp[hx]);have hold:rows rs=(rows (rs++aF)).extract 0 (0+rs.length*k):=by
  rw[<-cx];apply xb8;have:=aS iI;have h2:(rows rs).toList.length=rs.length*k:=by rw[xbP];exact this
  rw[Array.toList_extract,Array.toList_append,List.extract_eq_take_drop,List.drop_zero,xa1,xc3,<-h2,xdh]
 refine⟨some ⟨b,0,none⟩,rs.length,rs.length+aF.length,some ⟨xb,0,none⟩,1,xc,rows rs,rows [r],rfl,rfl,.inr ⟨rfl,_,elem,(0,0),by simp,?_,hold⟩,hnews,by rw[aS vw];simp,aS iI,hnone,λhfit=>?_,λhgrow=>⟨hb,by omega,λc5 hn b' KL=>?_⟩⟩
 ·rw[hsz];simp only[xaq,xa1];exact xa7 _ zO
 ·obtain⟨j0,Ah,rfl⟩:∃j0 Ah,aF=j0::Ah:=by cases aF with|nil=>exact absurd hfit (by simp only[xa5];omega)|cons a b=>exact⟨a,b,rfl⟩
  refine⟨_,elem,_,rfl,?_,((cm.head _).append B).ax A,hk _ [(b,_)] (.inr ⟨b,Ah,?_,?_,?_⟩)⟩
  ·rw[hsz];simp[xbe,xdF]
  ·simp;omega
  ·have e:(rows [r]).toList=r:=by simp[rows]
   rw[e,show(⟨b,0,none⟩:Addr).off+rs.length*k=rs.length*k by simp,qw aL zI hr];simp
  intro x hx;simp only[xau,xaF,xa2,xaw,xaf]at hx;rcases hx with hx|hx|hx
  ·exact iI x hx
  ·rw[hx];exact hr
  exact aL x (by simp[hx])
 refine⟨A++([(b',_)]++B),?_,hk _ [(b',_)] (.inr ⟨b',List.replicate (c5-(rs.length+1)) z,?_,rfl,?_⟩)⟩
 ·rw[Hh,jo z Da,cx,cx];exact λg w h=>(aM.GP [[_],A,[_],B] [[_],A,[_],B] ((xaK (l₁:=[_,A]) (l₂:=[_])).append_right [B]|>.trans (.cons _ (.swap _ _ _))) g w h).tail
 ·simp;omega
 intro x hx;rcases xaw.1 hx with hx|hx
 ·rcases xaw.1 hx with hx|hx
  ·exact iI x hx
  exact vw x hx
 rw[xbq hx,Da]
end
end Go.Sx
namespace Go.Sx
open Go
section
variable {P:Program} {g:Gh} {H:Hp}
theorem ay.pos{T:TypeId}{k:Nat}{v:zV}{rs:List (List zV)}{C:Hp}(h:ay T k v rs C)(hp:0<rs.length):
  ∃b aF,v=.slice (some ⟨b,0,none⟩) rs.length (rs.length+aF.length)/\C=[(b,.cells (rows (rs++aF)) T zZ)]/\(∀r∈rs++aF,r.length=k):=by
 rcases h with⟨_,rfl,_⟩|h
 ·simp at hp
 exact h
theorem ay.mk{T:TypeId}{k b:Nat}{rs aF:List (List zV)}(aL:∀r∈rs++aF,r.length=k):ay T k (.slice (some ⟨b,0,none⟩) rs.length (rs.length+aF.length)) rs [(b,.cells (rows (rs++aF)) T zZ)]:=
 .inr ⟨b,aF,rfl,rfl,aL⟩
theorem ay.mk'{T:TypeId}{k b n c:Nat}{rs aF:List (List zV)}(aL:∀r∈rs++aF,r.length=k)(hn:n=rs.length)(hc:c=rs.length+aF.length):ay T k (.slice (some ⟨b,0,none⟩) n c) rs [(b,.cells (rows (rs++aF)) T zZ)]:=by
 subst hn;subst hc;exact ay.mk aL
theorem az.row{b i k:Nat}{l:List (List zV)}{T:TypeId}{fz:Nat×Nat}{r:List zV}{K:zV->Prop}(hm:(b,Obj.cells (rows l) T fz)∈H)(aL:∀r∈l,r.length=k)(hi:l[i]? =some r)(h:K (.agg r.toArray)):
  az k H (.pointer (some ⟨b,0+i*k,none⟩)) K:=by
 have hlt:=(xag.1 hi).1;refine az.mk hm ?_ ?_ h
 ·rw[aS aL,xa1];have:=xa7 k (xbU hlt);rwa [xbe]at this
 rw[xa1];exact pw aL hi
theorem Ld.row{b i j k:Nat}{l:List (List zV)}{T:TypeId}{fz:Nat×Nat}{r:List zV}{v:zV}{K:zV->Prop}(hm:(b,Obj.cells (rows l) T fz)∈H)(aL:∀r∈l,r.length=k)(hi:l[i]? =some r)(hv:r[j]? =some v)(h:K v):
  Ld H (.pointer (some ⟨b,0+i*k+j,none⟩)) K:=by
 have hr:=aL r (xaJ hi);have hj:j<k:=by rw[<-hr];exact(xag.1 hv).1
 refine Ld.mk hm ?_ h;rw[xa1,dK aL hj,hi];exact hv
theorem Ld.GQ{b i:Nat}{l:List (List zV)}{T:TypeId}{fz:Nat×Nat}{v:zV}{K:zV->Prop}(hm:(b,Obj.cells (rows l) T fz)∈H)(aL:∀r∈l,r.length=1)(hi:l[i]? =some [v])(h:K v):
  Ld H (.pointer (some ⟨b,0+i*1,none⟩)) K:=by
 have:=Ld.row (j:=0) hm aL hi rfl h;simpa using this
theorem St.row{b i k:Nat}{l:List (List zV)}{T:TypeId}{r:List zV}{H':Hp}{K:Hp->Prop}(hu:cm b (.cells (rows l) T zZ) (.cells (rows (l.set i r)) T zZ) H H')(aL:∀r∈l,r.length=k)(hi:i<l.length)
 (hr:r.length=k)(h1:∀v∈r,v.oneCell'=true)(h:K H'):St k H (.pointer (some ⟨b,0+i*k,none⟩)) (.agg r.toArray) K:=by
 refine St.mk hu (by simp[Value.cells,hr]) ?_ (by simpa[Value.cells]using h1) ?_ h
 ·rw[aS aL,xa1];have:=xa7 k (xbU hi);rwa [xbe]at this
 simp only[Value.cells,xa1];exact qw aL hi hr
theorem nS{k:Nat}{l:List (List zV)}(h:∀r∈l,r.length=k){i j:Nat}{r:List zV}(hi:l[i]? =some r)(hj:j<k)(v:zV):(rows l).setIfInBounds (i*k+j) v=rows (l.set i (r.set j v)):=by
 have hr:=h r (xaJ hi);have hlt:=(xag.1 hi).1;have HX:∀x∈l.set i (r.set j v),x.length=k:=λx hx=>by
  rcases xcx hx with hx|hx
  ·exact h x hx
  rw[hx,xb9];exact hr
 have hk:0<k:=by omega
 apply xb8;apply xbM;intro m;rw[xbc,xbc,xbv];have hm:m%k<k:=xbG _ hk;have he:m/k*k+m%k=m:=by rw[xbf];exact xc7 m k
 have g1:=dK h (i:=m/k) hm;have g2:=dK HX (i:=m/k) hm;rw[he]at g1 g2;rw[g1,g2];by_cases e:i*k+j=m
 ·have e1:m/k=i:=by rw[<-e,xbf,Nat.mul_add_div hk,xcQ hj,xci]
  have e2:m%k=j:=by rw[<-e,xbf,Nat.mul_add_mod,xbb hj]
  rw[xae e,xae (by rw[aS h];have:=xa7 k (xbU hlt);rw[xbe]at this;omega),e1,e2];simp[hlt,hr,hj]
 rw[xab e];by_cases e1:m/k=i
 ·have e2:j≠m%k:=λe2=>e (by rw[e2,<-e1];exact he);rw[e1,hi];simp[hlt,e2]
 rw[xbw (λx=>e1 x.symm)]
theorem St.cell{b i j k:Nat}{l:List (List zV)}{T:TypeId}{r:List zV}{v:zV}{H':Hp}{K:Hp->Prop}(hu:cm b (.cells (rows l) T zZ) (.cells (rows (l.set i (r.set j v))) T zZ) H H')(aL:∀r∈l,r.length=k)
 (hi:l[i]? =some r)(hj:j<k)(h1:v.oneCell'=true)(h:K H'):St 1 H (.pointer (some ⟨b,0+i*k+j,none⟩)) v K:=by
 have hlt:=(xag.1 hi).1;have hc:v.cells=#[v]:=by cases v<;>first|rfl|(simp[Value.oneCell']at h1)
 refine St.mk hu (by simp[hc]) ?_ (by simp[hc,h1]) ?_ h
 ·rw[aS aL,xa1];have:=xa7 k (xbU hlt);rw[xbe]at this;omega
 simp only[hc,xa1,over];exact nS aL hi hj v
theorem St.one{b off:Nat}{c c':Array zV}{T:TypeId}{v:zV}{H':Hp}{K:Hp->Prop}(hu:cm b (.cells c T zZ) (.cells c' T zZ) H H')(h1:v.oneCell'=true)(hs:off<c.size)(hc:c.setIfInBounds off v=c')(h:K H'):
  St 1 H (.pointer (some ⟨b,off,none⟩)) v K:=by
 have hv:v.cells=#[v]:=by cases v<;>first|rfl|(simp[Value.oneCell']at h1)
 exact St.mk hu (by simp[hv]) zO (by simp[hv,h1]) (by simpa[hv,over]using hc) h
theorem St.whole{b n:Nat}{c:Array zV}{T:TypeId}{r:List zV}{H':Hp}{K:Hp->Prop}(hu:cm b (.cells c T zZ) (.cells r.toArray T zZ) H H')(hs:c.size=n)(hr:r.length=n)(h1:∀v∈r,v.oneCell'=true)(h:K H'):
  St n H (.pointer (some ⟨b,0,none⟩)) (.agg r.toArray) K:=by
 refine St.mk hu (by simp[Value.cells,hr]) zO (by simpa[Value.cells]using h1) ?_ h;have:=fT r c.toList 0 zP;rw[xbY]at this;simp only[Value.cells];rw[this];simp[xaO,hr,hs]
theorem az.whole{b n:Nat}{r:List zV}{T:TypeId}{fz:Nat×Nat}{K:zV->Prop}(hm:(b,Obj.cells r.toArray T fz)∈H)(hr:r.length=n)(h:K (.agg r.toArray)):az n H (.pointer (some ⟨b,0,none⟩)) K:=
 az.mk hm (by simp[hr]) (by simp;rw[<-hr,xb3]) h
theorem gg{α β:Type}(f:α->β):∀(l:List α) (i:Nat),(l.map f).eraseIdx i=(l.eraseIdx i).map f
 | [],_=>rfl
 |x::l,0=>rfl
 |x::l,i+1=>by simp[gg f l i]
end
end Go.Sx
namespace Go.Sx
open Go
section
variable {P:Program} {g:Gh} {H:Hp}
theorem m7(off:Nat):∀(r:List zV) (i:Nat) (c:Array zV),(r.zipIdx i).foldl (λcs (x:zV×Nat)=>cs.setIfInBounds (off+x.2) x.1) c=over c (off+i) r
 | [],i,c=>rfl
 |v::r,i,c=>by
  rw[List.zipIdx_cons,xdB,m7 off r (i+1)];rfl
theorem xk(off:Nat)(a c:Array zV):a.zipIdx.foldl (λcs (x:zV×Nat)=>cs.setIfInBounds (off+x.2) x.1) c=over c off a.toList:=by
 rw[<-Array.foldl_toList];have:a.zipIdx.toList=a.toList.zipIdx 0:=by simp
 rw[this,m7 off a.toList 0 c];rfl
def kV:List zV->Nat->List zV->List zV
 |c,_,[]=>c
 |c,off,v::r=>kV (c.set off v) (off+1) r
theorem eM:∀(r c:List zV) (off:Nat),over c.toArray off r=(kV c off r).toArray
 | [],c,off=>rfl
 |v::r,c,off=>by
  have:c.toArray.setIfInBounds off v=(c.set off v).toArray:=by simp
  rw[over,kV,this,eM r]
def fK(place:Nat->Option (Nat×Nat)):List zV->List (Nat×zV)->Option (List zV)
 |c,[]=>some c
 |c,(i,v)::r=>
  match place i with
  |none=>none
  |some (off,size)=>cond (Nat.beq v.cells.toList.length size&&Nat.ble (off+v.cells.toList.length) c.length) (fK place (kV c off v.cells.toList) r) none
theorem eS{place:Nat->Option (Nat×Nat)}:∀(r:List (Nat×zV)) (c cs:List zV),fK place c r=some cs->Instr.fill place c.toArray r=some cs.toArray
 | [],c,cs,h=>by simp only[fK,xao]at h;subst h;rfl
 |(i,v)::r,c,cs,h=>by
  simp only[fK]at h;simp only[Instr.fill];split at h
  ·simp at h
  rename_i off size hp;cases hc:(Nat.beq v.cells.toList.length size&&Nat.ble (off+v.cells.toList.length) c.length)<;>simp only[hc,xal,xah,reduceCtorEq]at h;simp only[xam]at hc;have h1:=xap hc.1;have h2:=xbn hc.2;have h3:v.cells.toList.length=v.cells.size:=xbP;have hsz:v.cells.size=size:=by rw[<-h3];exact h1
  have hle:off+v.cells.size<=c.length:=by rw[<-h3];exact h2
  simp only[hp];have AH:(decide (v.cells.size≠size)||decide (off+v.cells.size>c.toArray.size))=false:=by
   rw[xar];exact⟨by simp[hsz],by simp only[xce,xaU];omega⟩
  rw[AH];simp only[xas,xaG];rw[xk,eM];exact eS r _ cs h
def jx(P:Program):List Field->Option (List (Nat×Nat))
 | []=>some []
 |f::r=>match bU P f.type,jx P r with
  |some n,some l=>some ((f.offset,n)::l)
  |_,_=>none
def BG(P:Program)(t:TypeId)(parts:List (Nat×zV)):Option (List zV):=
 match P.underlying t,da P t with
 |some (.struct fs),some z=>match jx P fs.toList with
  |some pl=>fK (λi=>pl[i]?) z.cells.toList parts
  |none=>none
 |_,_=>none
theorem kT:∀(fs:List Field) (pl:List (Nat×Nat)),jx P fs=some pl->∀w,(fs.mapM λf=>(do pure (f.offset,<-sizeOf f.type):Sem (Nat×Nat))).run P w=.ok pl w
 | [],pl,h,w=>by simp only[jx,xao]at h;subst h;rfl
 |f::r,pl,h,w=>by
  simp only[jx]at h;split at h
  ·rename_i n l hn hl;simp only[xao]at h;subst h;obtain⟨i,hi,hin⟩:=aG hn;have ih:=kT r l hl w;simp only[xdg,Sem.run_bind,run_sizeOf hi,Result.andThen_ok,Sem.run_pure,hin,ih]
  simp at h
theorem Build.mk{t:TypeId}{parts:List (Nat×zV)}{cs:List zV}{k:zV->Prop}(hb:BG P t parts=some cs)(h:k (.agg cs.toArray)):Build P t parts k:=by
 refine⟨_,λw=>?_,h⟩;unfold BG at hb;split at hb
 ·rename_i fs z hu hz;split at hb
  ·rename_i pl vg;obtain⟨i,hi,pK⟩:=bP hz;have hf:=eS _ _ _ hb;have hp:=kT fs.toList pl vg w;simp only[Instr.build,Sem.run_bind,cK hi pK,Result.andThen_ok,run_underlying hu];have e2:((fs.mapM λf=>(do pure (f.offset,<-sizeOf f.type):Sem (Nat×Nat))).run P w)=.ok pl.toArray w:=by
    rw[Array.mapM_eq_mapM_toList];simp only[Sem.run_map,hp,Result.andThen_ok]
   rw[e2];show Sem.run P _ w=_;have e3:Instr.fill (λx=>pl.toArray[x]?) z.cells parts=some cs.toArray:=by
    simpa using hf
   simp only[e3];rfl
  simp at hb
 simp at hb
theorem ak.one{t e k:Nat}{z:zV}{r:List zV}{K:zV->Hp->Prop}(h1:P.underlying t=some (.slice e))(h2:bU P e=some k)(h3:da P e=some z)(hk:0<k/\k<=16777216)(hr:r.length=k)
 (h:∀b,K (.slice (some ⟨b,0,none⟩) 1 1) ((b,.cells r.toArray e zZ)::H)):ak P t 1 [(0,.agg r.toArray)] H K:=by
 refine⟨r.toArray,e,k,z,h1,h2,h3,by omega,?_,λb _=>h b⟩;have:((Array.range (1*k)).map (z.cells[· %z.cells.size]!))=(((Array.range (1*k)).map (z.cells[· %z.cells.size]!)).toList).toArray:=by rw[xbY]
 rw[this];generalize hc:((Array.range (1*k)).map (z.cells[· %z.cells.size]!)).toList=c;have hlen:c.length=k:=by rw[<-hc];simp
 refine eS _ _ _ ?_;simp only[fK,Value.cells];have hb:(Nat.beq r.toArray.toList.length k&&Nat.ble (0*k+r.toArray.toList.length) c.length)=true:=by simp[hr,hlen]
 rw[hb];simp only[xal,xao];have:=fT r c 0 zO;rw[eM]at this;have h5:kV c 0 r=List.take 0 c++r++List.drop (0+r.length) c:=by simpa using xb1 Array.toList this
 simp only[xdw];rw[h5];simp[xaO,hr,hlen]
end
end Go.Sx
namespace Go.Sx
open Go
section
variable {P:Program} {g:Gh} {H:Hp}
theorem cF.upto{size n c h:Nat}{a:Option Addr}{kd:IntKind}{k:zV->Prop}(hh:h<=c)(hk:k (.slice a h c)):cF size (.slice a n c) none (some (.int kd (h:Int))) k:=by
 refine⟨a,n,c,0,h,rfl,rfl,rfl,by omega,by omega,by omega,?_⟩;have:(if c=(0:Int).toNat then a else a.map (·.add ((0:Int).toNat*size)))=a:=by
  split
  ·rfl
  simp only[Int.toNat_zero,xdw];cases a with
  |none=>rfl
  |some x=>simp[Addr.add_zero']
 rw[this];simpa using hk
end
end Go.Sx
namespace Go.Sx
open Go
section
variable {P:Program} {g:Gh} {H:Hp}
inductive bf(C:Hp):Hp->(Hp->Hp)->Prop
 |here:bf C C (λX=>X)
 |left {A:Hp}:bf C (C++A) (λX=>X++A)
 |cons {x:Nat×Obj} {H:Hp} {c:Hp->Hp} (h:bf C H c):bf C (x::H) (λX=>x::c X)
 |app {A H:Hp} {c:Hp->Hp} (h:bf C H c):bf C (A++H) (λX=>A++c X)
theorem bf.spec{C H:Hp}{c:Hp->Hp}(h:bf C H c):H=c C/\∃F,∀X,(c X).Perm (X++F):=by
 induction h with
 |here=>exact⟨rfl,[],λX=>by simp⟩
 | @left A=>exact⟨rfl,A,λX=>.refl _⟩
 | @cons x H c h ih=>
  obtain⟨h1,F,h2⟩:=ih;exact⟨by rw[h1],x::F,λX=>(List.Perm.cons x (h2 X)).trans xbo.symm⟩
 | @app A H c h ih=>
  obtain⟨h1,F,h2⟩:=ih;refine⟨by rw[h1],A++F,λX=>(xcU A (h2 X)).trans ?_⟩;rw[<-xau,<-xau];exact xaK.append_right F
theorem bf.dF{C H:Hp}{c:Hp->Hp}(h:bf C H c){X Y:Hp}(e:aM X Y):aM (c X) (c Y):=by
 obtain⟨_,F,hp⟩:=h.spec;exact(aM.perm (hp X)).trans ((e.frame F).trans (.perm (hp Y).symm))
theorem aM.cons{x:Nat×Obj}{A B:Hp}(h:aM A B):aM (x::A) (x::B):=aM.cA h [x]
theorem aM.skip{x:Nat×Obj}{A B:Hp}(h:aM A B):aM (x::A) B:=aM.tail.trans h
theorem aM.cq{X A B:Hp}(h:aM A B):aM (X++A) B:=aM.right.trans h
theorem aM.assoc{A B C:Hp}:aM ((A++B)++C) (A++(B++C)):=λ_ _ h=>by rw[<-xau];exact h
theorem aT.frame{f:FuncId}{args:Array zV}{C F:Hp}{R:Ending->Hp->Prop}(h:∀g,aT P g f args C R):aT P g f args (C++F) (λe H'=>∃C',H'=C'++F/\R e C'):=by
 intro w hw;exact((h (g.add F)) w (Own.cL.1 hw)).mono λe w' ⟨H',ho,hr⟩=>⟨_,Own.cL.2 ho,H',rfl,hr⟩
theorem aT.hole{f:FuncId}{args:Array zV}{C H:Hp}{c:Hp->Hp}{R:Ending->Hp->Prop}(hh:bf C H c)(h:∀g,aT P g f args C R):aT P g f args H (λe H'=>∃C',H'=c C'/\R e C'):=by
 obtain⟨rfl,F,hp⟩:=hh.spec;exact((aT.frame (F:=F) h).pre (.perm (hp C))).post λe H' ⟨C',h1,h2⟩=>⟨c C',by rw[h1];exact .perm (hp C').symm,C',rfl,h2⟩
def Fc(P:Program)(f:FuncId)(args:Array zV)(C:Hp)(Q:zV->Hp->Prop):Prop:=
 ∀g,aT P g f args C (λe H'=>∃v dY,e=.returned v/\aM H' dY/\Q v dY)
def aZ(Q:zV->Hp->Prop):Ending->Hp->Prop:=λe H'=>∃v dY,e=.returned v/\aM H' dY/\Q v dY
theorem aZ.mk{Q:zV->Hp->Prop}{v:zV}{H dY:Hp}(he:aM H dY)(h:Q v dY):aZ Q (.returned v) H:=⟨v,dY,rfl,he,h⟩
theorem aZ.here{Q:zV->Hp->Prop}{v:zV}{H:Hp}(h:Q v H):aZ Q (.returned v) H:=⟨v,H,rfl,.refl _,h⟩
theorem Fc.mono{f:FuncId}{args:Array zV}{C:Hp}{Q Q':zV->Hp->Prop}(h:Fc P f args C Q)(hq:∀v H,Q v H->Q' v H):Fc P f args C Q':=
 λg=>(h g).mono λe H' ⟨v,dY,h1,h2,h3⟩=>⟨v,dY,h1,h2,hq _ _ h3⟩
def Rd(P:Program)(f:FuncId)(args:Array zV)(B:Hp)(Q:zV->Prop):Prop:=Fc P f args B (λv H=>H=B/\Q v)
theorem aa.fn{f:FuncId}{args:Array zV}{C H:Hp}{c:Hp->Hp}{Q:zV->Hp->Prop}{K:zV->Hp->Prop}{KP:List PanicEntry->Hp->Prop}(hh:bf C H c)(hc:Fc P f args C Q)
 (hk:∀v C',Q v C'->K v (c C')):aa P g f args H K KP:=
 (aT.hole hh hc).post λe H' ⟨C',h1,v,IL,h2,h3,h4⟩=>⟨c IL,by rw[h1];exact hh.dF h3,by subst h2;exact hk _ _ h4⟩
theorem aa.rd{f:FuncId}{args:Array zV}{B H:Hp}{c:Hp->Hp}{Q:zV->Prop}{K:zV->Hp->Prop}{KP:List PanicEntry->Hp->Prop}(hh:bf B H c)(hc:Rd P f args B Q)
 (hk:∀v,Q v->K v H):aa P g f args H K KP:=
 aa.fn hh hc λv C' ⟨h1,h2⟩=>by subst h1;rw[<-hh.spec.1];exact hk v h2
theorem bp.of{fv:zV}{args:Array zV}{K:zV->Hp->Prop}{KP:List PanicEntry->Hp->Prop}{f:FuncId}{first captured:Array zV}(hf:fv=.func (.func f) first captured)(hc:bE P f=true)
 (h:aa P g f (first++args++captured) H K KP):bp P g fv args H K KP:=⟨f,first,captured,hf,hc,h⟩
theorem DR.self{body:Hp->Prop}(h:body H):DR H body:=⟨H,.refl _,h⟩
theorem DR.of{R:Hp}{body:Hp->Prop}(e:aM H R)(h:body R):DR H body:=⟨R,e,h⟩
def At(B:Hp)(p:zV)(r:List zV):Prop:=∃b o c T fz,p=.pointer (some ⟨b,o,none⟩)/\(b,Obj.cells c T fz)∈B/\∀j v,r[j]? =some v->c[o+j]? =some v
theorem Ld.at{p v:zV}{r:List zV}{B:Hp}{k:zV->Prop}(h:At B p (v::r))(hs:∀x∈B,x∈H)(hk:k v):Ld H p k:=by
 obtain⟨b,o,c,T,fz,h1,h2,h3⟩:=h;exact⟨b,o,c,T,fz,v,h1,hs _ h2,by simpa using h3 0 v rfl,hk⟩
theorem ag.at{p:zV}{r:List zV}{B:Hp}{j:Nat}{k:zV->Prop}(h:At B p r)(hk:∀q,At B q (r.drop j)->k q):ag j p k:=by
 obtain⟨b,o,c,T,fz,h1,h2,h3⟩:=h;refine⟨b,o,h1,hk _ ⟨b,o+j,c,T,fz,rfl,h2,λi v hi=>?_⟩⟩;rw[List.getElem?_drop]at hi;rw[Nat.add_assoc];exact h3 _ _ hi
theorem az.at{p:zV}{r:List zV}{B:Hp}{n:Nat}{k:zV->Prop}(h:At B p r)(hn:r.length=n)(hp:0<n)(hs:∀x∈B,x∈H)(hk:k (.agg r.toArray)):az n H p k:=by
 obtain⟨b,o,c,T,fz,h1,h2,h3⟩:=h;have hsz:o+n<=c.size:=by
  have:=h3 (n-1) (r[n-1]' zO) (xad _);have:=(xax.1 this).1;omega
 refine⟨b,o,c,T,fz,h1,hs _ h2,hsz,?_⟩;have:c.extract o (o+n)=r.toArray:=by
  apply Array.ext
  ·simp;omega
  intro i I7 Eg;simp only[xce]at Eg;have:=h3 i r[i] (xad _);rw[xcX];have:=(xax.1 this).2;simpa using this
 rw[this];exact hk
def Sl(k:Nat)(B:Hp)(v:zV)(rs:List (List zV)):Prop:=
 (∀r∈rs,r.length=k)/\
 ((∃a cap,v=.slice a 0 cap/\rs=[])\/∃b o cap c T fz,v=.slice (some ⟨b,o,none⟩) rs.length cap/\rs.length<=cap/\(b,Obj.cells c T fz)∈B/\o+rs.length*k<=c.size/\∀i r,rs[i]? =some r->∀j v,r[j]? =some v->c[o+i*k+j]? =some v)
theorem Sl.mono{k:Nat}{B B':Hp}{v:zV}{rs:List (List zV)}(h:Sl k B v rs)(hs:∀x∈B,x∈B'):Sl k B' v rs:=by
 obtain⟨h0,h⟩:=h;refine⟨h0,?_⟩;rcases h with h|⟨b,o,cap,c,T,fz,h1,h2,h3,h4⟩
 ·exact .inl h
 exact .inr ⟨b,o,cap,c,T,fz,h1,h2,hs _ h3,h4⟩
theorem Sl.nil(k:Nat)(B:Hp):Sl k B (.slice none 0 0) []:=⟨by simp,.inl ⟨_,_,rfl,rfl⟩⟩
theorem Sl.shape{k:Nat}{B:Hp}{v:zV}{rs:List (List zV)}(h:Sl k B v rs):∃a cap,v=.slice a rs.length cap/\rs.length<=cap:=by
 rcases h.2 with⟨a,cap,rfl,rfl⟩|⟨b,o,cap,c,T,fz,h1,h2,_⟩
 ·exact⟨_,_,rfl,xaE _⟩
 exact⟨_,_,h1,h2⟩
theorem Sl.c6{k:Nat}{B:Hp}{v:zV}{rs:List (List zV)}(h:Sl k B v rs){K:zV->Prop}(hk:K (.int .i64 rs.length)):bY v K:=by
 obtain⟨a,c,rfl,_⟩:=h.shape;exact bY.mk hk
theorem ai.sl{k:Nat}{B:Hp}{v:zV}{rs:List (List zV)}{kd:IntKind}{i:Nat}{r:List zV}{K:zV->Prop}(h:Sl k B v rs)(hi:rs[i]? =some r)(hk:∀p,At B p r->K p):ai k v (.int kd (i:Int)) K:=by
 have hlt:=(xag.1 hi).1;rcases h.2 with⟨a,cap,rfl,rfl⟩|⟨b,o,cap,c,T,fz,h1,h2,h3,h4,h5⟩
 ·simp at hlt
 subst h1;refine ai.nat zO (hk _ ⟨b,_,c,T,fz,rfl,h3,λj v hj=>h5 i r hi j v hj⟩)
theorem Sl.cells{k:Nat}{B:Hp}{v:zV}{rs:List (List zV)}(h:Sl k B v rs):∃a cap,v=.slice a rs.length cap/\Cells B a (rs.length*k) (rows rs):=by
 rcases h.2 with⟨a,cap,rfl,rfl⟩|⟨b,o,cap,c,T,fz,h1,h2,h3,h4,h5⟩
 ·refine⟨a,cap,rfl,?_⟩;cases a with
  |none=>simp[Cells,rows]
  |some a=>exact .inl ⟨by simp,rfl⟩
 ·refine⟨_,cap,h1,.inr ⟨rfl,c,T,fz,h3,h4,?_⟩⟩;apply Array.ext
  ·rw[aS h.1];simp;omega
  intro i I7 Eg;rw[aS h.1]at I7;have hk:0<k:=Nat.pos_of_ne_zero λe=>by simp[e]at I7
  have hd:i/k<rs.length:=xc6 (by rw[xbf];exact I7);have hm:i%k<k:=xbG _ hk;have he:i/k*k+i%k=i:=by rw[xbf];exact xc7 i k
  have hr:=h.1 rs[i/k] (xaN hd);have g1:=dK h.1 (i:=i/k) hm;rw[he,xad hd,xcO,xad zO]at g1;have g2:=h5 (i/k) _ (xad hd) (i%k) _ (xad zO);rw[Nat.add_assoc,he]at g2;have e1:=(xax.1 g1).2;have e2:=(xax.1 g2).2;rw[xcX];exact e1.trans e2.symm
theorem Sl.dV{T:TypeId}{k:Nat}{v:zV}{rs:List (List zV)}{C:Hp}(h:ay T k v rs C)(hk:0<k):Sl k C v rs:=by
 rcases h with⟨rfl,rfl,rfl⟩|⟨b,aF,rfl,rfl,aL⟩
 ·exact Sl.nil _ _
 refine⟨λr hr=>aL r (by simp[hr]),.inr ⟨b,0,_,rows (rs++aF),T,(0,0),rfl,by omega,by simp,?_,λi r hi j v hj=>?_⟩⟩
 ·rw[aS aL,xaq,xa1];exact xa7 _ zO
 have hlt:=(xag.1 hi).1;have hr:=aL r (xac _ (xaJ hi));have Fk:j<k:=by rw[<-hr];exact(xag.1 hj).1
 rw[xa1,dK aL Fk,xaQ hlt,hi];exact hj
end
end Go.Sx
namespace Go.Sx
open Go
def cv:IntKind->Nat
 | .i8=>128| .i16=>32768| .i32=>2147483648| .i64=>9223372036854775808
 | .u8=>256| .u16=>65536| .u32=>4294967296| .u64=>18446744073709551616
theorem dk{kd:IntKind}{n:Nat}(h:n<cv kd):kd.wrap (n:Int)=n:=by
 cases kd<;>simp only[cv]at h<;>simp only[IntKind.wrap,IntKind.bits,IntKind.signed,Bool.false_and,xcr,xas,xaG,xaD];all_goals first
  |omega
  |(rw[xab zP];omega)
theorem wrap_u64(n:Int):IntKind.u64.wrap n=n%18446744073709551616:=by simp[IntKind.wrap,IntKind.bits,IntKind.signed]
theorem z7(kd:IntKind):cv kd<=2^kd.bits:=by cases kd<;>decide
def n9(a b:Nat):Nat:=a^^^(a&&&b)
theorem dm(a b j:Nat):(n9 a b).testBit j=(a.testBit j&& !b.testBit j):=by
 unfold n9;rw[Nat.testBit_xor,xbH];cases a.testBit j<;>cases b.testBit j<;>rfl
theorem vS(a b:Nat):n9 a b<=a:=by
 have:n9 a b=a&&&n9 a b:=by
  apply xa6;intro j;rw[xbH,dm];cases a.testBit j<;>simp
 rw[this];exact Nat.and_le_left
theorem bits_nat{kd:IntKind}{a b:Nat}(ha:a<cv kd)(hb:b<cv kd):
  bits .and kd a b=((a&&&b:Nat):Int)/\bits .or kd a b=((a|||b:Nat):Int)/\bits .xor kd a b=((a^^^b:Nat):Int)/\bits .andNot kd a b=((n9 a b:Nat):Int):=by
 have hl:=z7 kd;have h1:(BitVec.ofInt kd.bits (a:Int)).toNat=a:=by rw[BitVec.ofInt_natCast,BitVec.toNat_ofNat,xbb zO]
 have h2:(BitVec.ofInt kd.bits (b:Int)).toNat=b:=by rw[BitVec.ofInt_natCast,BitVec.toNat_ofNat,xbb zO]
 obtain⟨n,hn⟩:∃n,cv kd=2^n:=by cases kd<;>first|exact⟨7,rfl⟩|exact⟨15,rfl⟩|exact⟨31,rfl⟩|exact⟨63,rfl⟩|exact⟨8,rfl⟩|exact⟨16,rfl⟩|exact⟨32,rfl⟩|exact⟨64,rfl⟩
 rw[hn]at ha hb;refine⟨?_,?_,?_,?_⟩
 ·simp only[bits,BitVec.toNat_and,h1,h2];exact dk (by rw[hn];exact xbg Nat.and_le_left ha)
 ·simp only[bits,BitVec.toNat_or,h1,h2];exact dk (by rw[hn];exact Nat.or_lt_two_pow ha hb)
 ·simp only[bits,BitVec.toNat_xor,h1,h2];exact dk (by rw[hn];exact Nat.xor_lt_two_pow ha hb)
 simp only[bits];have:(BitVec.ofInt kd.bits (a:Int) &&& ~~~BitVec.ofInt kd.bits (b:Int)).toNat=n9 a b:=by
  apply xa6;intro j;rw[dm,<-BitVec.getLsbD,BitVec.getLsbD_and,BitVec.getLsbD_not,BitVec.getLsbD,BitVec.getLsbD,h1,h2];by_cases hj:j<kd.bits
  ·simp[hj]
  have:a.testBit j=false:=xcd (xbr ha (by rw[<-hn];exact xbs hl (xaI zD zO)));simp[this]
 rw[this];exact dk (by rw[hn];exact xbg (vS a b) ha)
section
variable {kd qU:IntKind} {a b:Nat} {k:zV->Prop}
theorem ae.Lu(ha:a<cv kd)(hb:b<cv kd)(h:k (.int kd ((a&&&b:Nat):Int))):ae .num .and (.int kd a) (.int kd b) k:=⟨_,by simp[eV,iq,(bits_nat ha hb).1],h⟩
theorem ae.zi(ha:a<cv kd)(h:k (.int kd ((a>>>b:Nat):Int))):ae .num .shr (.int kd a) (.int qU b) k:=by
 refine⟨_,?_,h⟩;have h0:¬((b:Int)<0):=by omega
 simp only[eV,h0,xaG,xao,Value.int.injEq,xdi,xbx];rw[Int.fdiv_eq_ediv_of_nonneg _ (Int.le_of_lt (Int.pow_pos zD)),xa8];have hl:=z7 kd;by_cases hb:b<=kd.bits
 ·rw[xcw hb];push_cast;rfl
 rw[Nat.min_eq_right zO];have h1:a/2^kd.bits=0:=xcQ zO;have h2:a/2^b=0:=xcQ (xbr zO (xaI zD (by omega:kd.bits<=b)));have:(a:Int) / (2^kd.bits:Int)=((a/2^kd.bits:Nat):Int):=by push_cast;rfl
 rw[this,h1,h2]
theorem ae.EI(h:k (.int .u64 (((a<<<b)%18446744073709551616:Nat):Int))):ae .num .shl (.int .u64 a) (.int qU b) k:=by
 refine⟨_,?_,h⟩;have h0:¬((b:Int)<0):=by omega
 simp only[eV,h0,xaG,xao,Value.int.injEq,xdi,xbx,IntKind.bits,wrap_u64];rw[Nat.shiftLeft_eq];by_cases hb:b<=64
 ·rw[xcw hb,Int.natCast_emod,Int.natCast_mul,Int.natCast_pow];rfl
 rw[Nat.min_eq_right zO];have h1:(a*2^b)%18446744073709551616=0:=by
  have:2^b=18446744073709551616*2^(b-64):=by rw[show(18446744073709551616:Nat)=2^64 by rfl,<-xct];congr 1;omega
  rw[this,Nat.mul_left_comm];exact Nat.mul_mod_right _ _
 rw[h1];exact Int.mul_emod_left _ _
theorem ae.iA(hr:a+b<cv kd)(h:k (.int kd ((a+b:Nat):Int))):ae .num .add (.int kd a) (.int kd b) k:=by
 refine ae.add ?_;have:((a:Int)+(b:Int))=((a+b:Nat):Int):=by push_cast;rfl
 rw[this,dk hr];exact h
theorem ae.ju(ha:a<cv kd)(hb:b<=a)(h:k (.int kd ((a-b:Nat):Int))):ae .num .sub (.int kd a) (.int kd b) k:=by
 refine ae.sub ?_;have:((a:Int) -(b:Int))=((a-b:Nat):Int):=by omega
 rw[this,dk zO];exact h
theorem ae.pA(hr:a*b<cv kd)(h:k (.int kd ((a*b:Nat):Int))):ae .num .mul (.int kd a) (.int kd b) k:=by
 refine ae.mul ?_;have:((a:Int)*(b:Int))=((a*b:Nat):Int):=by push_cast;rfl
 rw[this,dk hr];exact h
theorem ae.FI(ha:a<cv kd)(hb:b≠0)(h:k (.int kd ((a/b:Nat):Int))):ae .num .quo (.int kd a) (.int kd b) k:=by
 refine⟨_,?_,h⟩;have h0:¬((b:Int)=0):=by omega
 simp only[eV,iq,xaS,h0,xaG];have:(a:Int).tdiv b=((a/b:Nat):Int):=by rw[Int.tdiv_eq_ediv_of_nonneg zO];push_cast;rfl
 rw[this,dk (xbg (Nat.div_le_self _ _) ha)]
theorem ae.qd{x y:Int}(h:k (.bool (decide (x=y)))):ae .num .eql (.int kd x) (.int kd y) k:=ae.eql (by rw[show(x==y)=decide (x=y)from by cases hb:decide (x=y)<;>simp_all];exact h)
theorem ae.j7{x y:Int}(h:k (.bool (decide (x≠y)))):ae .num .neq (.int kd x) (.int kd y) k:=ae.neq (by rw[show(x !=y)=decide (x≠y)from by cases hb:decide (x=y)<;>simp_all];exact h)
theorem ae.bN(h:k (.bool (decide (a=b)))):ae .num .eql (.int kd a) (.int kd b) k:=ae.qd (by simpa[Int.natCast_inj]using h)
theorem ae.nM(h:k (.bool (decide (a≠b)))):ae .num .neq (.int kd a) (.int kd b) k:=ae.j7 (by simpa[Int.natCast_inj]using h)
theorem ae.fN(h:k (.bool (decide (a<b)))):ae .num .lss (.int kd a) (.int kd b) k:=ae.lss (by simpa[Int.ofNat_lt]using h)
theorem ae.ET(h:k (.bool (decide (a<=b)))):ae .num .leq (.int kd a) (.int kd b) k:=ae.leq (by simpa[Int.ofNat_le]using h)
theorem ae.mY(h:k (.bool (decide (b<a)))):ae .num .gtr (.int kd a) (.int kd b) k:=ae.gtr (by simpa[Int.ofNat_lt]using h)
theorem ae.n5(h:k (.bool (decide (b<=a)))):ae .num .geq (.int kd a) (.int kd b) k:=ae.geq (by simpa[Int.ofNat_le]using h)
theorem bj.nat(ha:a<cv kd)(h:k (.int kd (a:Int))):bj kd (.int qU a) k:=bj.of (dk ha) h
end
theorem Br.dec{p:Prop}[Decidable p]{t f:Prop}(h1:p->t)(h2:¬p->f):Br (.bool (decide p)) t f:=⟨_,rfl,λh=>h1 (by simpa using h),λh=>h2 (by simpa using h)⟩
theorem Br.Io{p:Prop}[Decidable p]{t f:Prop}(hp:p)(h1:t):Br (.bool (decide p)) t f:=Br.dec (λ_=>h1) λh=>absurd hp h
theorem Br.Ip{p:Prop}[Decidable p]{t f:Prop}(hp:¬p)(h1:f):Br (.bool (decide p)) t f:=Br.dec (λh=>absurd h hp) λ_=>h1
end Go.Sx
namespace cI
open Go.Sx
def wN(n:Nat):Nat:=max 1 (2^n/64)
def eR(n:Nat):Nat:=if 6<=n then 18446744073709551615 else 2^2^n-1
structure iO(n:Nat)(ws:zL):Prop where
 LZ:n<=16
 len:ws.length=wN n
 full:∀w∈ws,w<=eR n
instance (n:Nat)(ws:zL):Decidable (iO n ws):=decidable_of_iff (n<=16/\ws.length=wN n/\∀w∈ws,w<=eR n) ⟨λ⟨a,b,c⟩=>⟨a,b,c⟩,λ⟨a,b,c⟩=>⟨a,b,c⟩⟩
def bit(ws:zL)(x:Nat):Bool:=(ws.getD (x/64) 0).testBit (x%64)
def aK(x v:Nat)(b:Bool):Nat:=if b then x|||2^v else n9 x (2^v)
theorem DT{n:Nat}(h:6<=n):wN n=2^(n-6):=by
 unfold wN;have:2^n/64=2^(n-6):=by
  rw[show(64:Nat)=2^6 by rfl,Nat.pow_div h zD]
 rw[this];exact Nat.max_eq_right (xbI _)
theorem DS{n:Nat}(h:n<7):wN n=1:=by
 have:n=0\/n=1\/n=2\/n=3\/n=4\/n=5\/n=6:=by omega
 rcases this with rfl|rfl|rfl|rfl|rfl|rfl|rfl<;>rfl
theorem AX(n:Nat):eR n<18446744073709551616:=by
 unfold eR;split
 ·decide
 have h1:2^n<=32:=xaI (n:=2) zD (by omega:n<=5);have h2:2^2^n<=2^32:=xaI zD h1;omega
theorem iO.lt{n:Nat}{ws:zL}(h:iO n ws){w:Nat}(hw:w∈ws):w<18446744073709551616:=xbg (h.full w hw) (AX n)
theorem rQ{n w:Nat}(h:w<=eR n):w&&&eR n=w:=by
 unfold eR at*;split at h
 ·rename_i h6;rw[xae h6,show(18446744073709551615:Nat)=2^64-1 by rfl,xc8,xbb zO]
 rename_i h6;rw[xab h6,xc8,xbb];have:=xbI (2^n);omega
theorem fR(n j:Nat):(eR n).testBit j=decide (j<if 6<=n then 64 else 2^n):=by
 unfold eR;split
 ·rw[show(18446744073709551615:Nat)=2^64-1 by rfl,xdo]
 rw[xdo]
theorem qQ{n x:Nat}(h:x<2^n):x/64<wN n:=by
 by_cases h6:6<=n
 ·rw[DT h6];refine xc6 ?_;rw[show(64:Nat)=2^6 by rfl,<-xct];rwa [show 6+(n-6)=n by omega]
 have h1:2^n<=32:=xaI (n:=2) zD (by omega:n<=5);rw[DS zO];omega
theorem iO.ext{n:Nat}{a b:zL}(ha:iO n a)(hb:iO n b)(h:∀x,x<2^n->bit a x=bit b x):a=b:=by
 apply List.ext_getElem (by rw[ha.len,hb.len]);intro i h1 h2;apply xa6;intro j;have KE:=rQ (ha.full _ (xaN h1));have HN:=rQ (hb.full _ (xaN h2));by_cases hj:j<(if 6<=n then 64 else 2^n)
 ·have NR:j<64:=by
   split at hj
   ·exact hj
   have h1:2^n<=32:=xaI (n:=2) zD (by omega:n<=5);omega
  have hx:64*i+j<2^n:=by
   by_cases h6:6<=n
   ·have hi:i<2^(n-6):=by rw[<-DT h6,<-ha.len];exact h1
    have:2^n=64*2^(n-6):=by rw[show(64:Nat)=2^6 by rfl,<-xct];congr 1;omega
    omega
   have hi:i<1:=by rw[<-DS (show n<7 by omega),<-ha.len];exact h1
   rw[xab h6]at hj;omega
  have:=h _ hx;unfold bit at this;rw[show(64*i+j) /64=i by omega,show(64*i+j)%64=j by omega]at this;simpa[h1,h2]using this
 have hd:(eR n).testBit j=false:=by rw[fR];simpa using hj
 rw[<-KE,<-HN,xbH,xbH,hd];simp
def Bv(v:Nat):Nat->Nat
 |0=>0
 |j+1=>Bv v j|||(((j>>>v) &&&1)<<<j)
def mask(v:Nat):Nat:=Bv v 64
theorem sV(m:Nat):m&&&1=if m.testBit 0 then 1 else 0:=by
 rw[Nat.and_one_is_mod,Nat.testBit_zero];rcases Nat.mod_two_eq_zero_or_one m with h|h<;>simp[h]
theorem js(v:Nat):∀J k,(Bv v J).testBit k=(decide (k<J) &&k.testBit v)
 |0,k=>by simp[Bv]
 |J+1,k=>by
  rw[Bv,xdj,js v J k,sV,xbD,xci];by_cases e:k=J
  ·subst e;cases hb:k.testBit v<;>simp[xcY]
  have:((if(J.testBit v)=true then 1 else 0)<<<J).testBit k=false:=by
   rw[xcY];split
   ·by_cases hk:J<=k
    ·have h1:Nat.testBit 1 (k-J)=false:=xcd (Nat.one_lt_two_pow zO);simp[hk,h1]
    simp[hk]
   simp
  rw[this];have:(decide (k<J+1))=decide (k<J):=by simp;omega
  rw[this];simp
theorem dZ(v k:Nat):(mask v).testBit k=(decide (k<64) &&k.testBit v):=js v 64 k
def AP(ws:zL)(v:Nat)(b:Bool)(i:Nat):Nat:=
 if 6<=v then ws.getD (aK i (v-6) b) 0
 else if b then(ws.getD i 0&&&mask v)|||(ws.getD i 0&&&mask v)>>>2^v
 else n9 (ws.getD i 0) (mask v)|||(n9 (ws.getD i 0) (mask v)<<<2^v)%18446744073709551616
def l7(n:Nat)(ws:zL)(v:Nat)(b:Bool):zL:=(List.range (wN n)).map λi=>AP ws v b i&&&eR n
theorem pT{n v:Nat}{ws:zL}{b:Bool}(h:n<=16):iO n (l7 n ws v b):=by
 refine⟨h,by simp[l7],λw hw=>?_⟩;obtain⟨i,_,rfl⟩:=xan.1 hw;exact Nat.and_le_right
theorem aj(x v:Nat)(b:Bool)(k:Nat):(aK x v b).testBit k=if k=v then b else x.testBit k:=by
 unfold aK;cases b<;>simp only[xaS,xas,xaG]
 ·rw[dm,Nat.testBit_two_pow];by_cases e:k=v
  ·simp[e]
  simp[e,xbQ e]
 rw[xdj,Nat.testBit_two_pow];by_cases e:k=v
 ·simp[e]
 simp[e,xbQ e]
theorem Cy{x v n:Nat}{b:Bool}(hx:x<2^n)(hv:v<n):aK x v b<2^n:=by
 unfold aK;split
 ·exact Nat.or_lt_two_pow hx (Nat.pow_lt_pow_right zD hv)
 exact xbg (vS _ _) hx
theorem EH:∀v:Fin 6,∀j:Fin 64,(j.1.testBit v.1=true->aK j v true=j/\aK j v false=j-2^v.1/\2^v.1<=j.1/\(j.1+2^v.1).testBit v.1=false/\(j.1-2^v.1).testBit v.1=false)/\
  (j.1.testBit v.1=false->aK j v true=j.1+2^v.1/\j.1+2^v.1<64/\aK j v false=j/\(j.1+2^v.1).testBit v.1=true/\(2^v.1<=j.1->(j.1-2^v.1).testBit v.1=true)):=by decide+kernel
theorem iT{x v:Nat}{b:Bool}:(6<=v->aK x v b/64=aK (x/64) (v-6) b/\aK x v b%64=x%64)/\(v<6->aK x v b/64=x/64/\aK x v b%64=aK (x%64) v b):=by
 have B9:∀y:Nat,y/64=y>>>6:=λy=>by rw[xa8]
 have m64:∀y:Nat,y%64=y%2^6:=λy=>rfl;refine⟨λh=>⟨?_,?_⟩,λh=>⟨?_,?_⟩⟩<;>apply xa6<;>intro k
 ·rw[B9,B9,xbD,aj,aj,xbD];by_cases e:k=v-6
  ·rw[xae e,xae zO]
  rw[xab e,xab zO]
 ·rw[m64 (aK x v b),m64 x,xa4,xa4,aj];by_cases hk:k<6
  ·rw[xab zO]
  simp[hk]
 ·rw[B9,B9,xbD,aj,xbD,xab zO]
 rw[m64 (aK x v b),m64 x,xa4,aj,aj,xa4];by_cases e:k=v
 ·subst e;simp[h]
 simp[e]
theorem jO{n v x:Nat}{ws:zL}{b:Bool}(hf:iO n ws)(hv:v<n)(hx:x<2^n):bit (l7 n ws v b) x=bit ws (aK x v b):=by
 have hi:=qQ hx;unfold bit;have er:(l7 n ws v b).getD (x/64) 0=AP ws v b (x/64) &&&eR n:=by
  simp[l7,hi]
 rw[er,xbH,fR];have HN:decide (x%64<if 6<=n then 64 else 2^n)=true:=by
  rw[xaD];split
  ·exact xbG _ zD
  have h1:2^n<=32:=xaI (n:=2) zD (by omega:n<=5);omega
 rw[HN,Bool.and_true];unfold AP;by_cases h6:6<=v
 ·rw[xae h6,(iT.1 h6).1,(iT.1 h6).2]
 rw[xab h6];obtain⟨e1,e2⟩:=(iT (x:=x) (v:=v) (b:=b)).2 zO;rw[e1,e2];generalize hw:ws.getD (x/64) 0=w;have Ao:w<2^64:=by
  rw[<-hw];rw[xaA,xad (by rw[hf.len];exact hi)];exact hf.lt (xaN _)
 have hj:x%64<64:=xbG _ zD;generalize x%64=j at hj;obtain⟨s1,s2⟩:=EH ⟨v,by omega⟩ ⟨j,hj⟩;simp only at s1 s2;cases b
 ·simp only[xas,xaG];rw[show(18446744073709551616:Nat)=2^64 by rfl,xdj,xa4,xcY,dm,dm,dZ,dZ];cases hb:j.testBit v
  ·obtain⟨t1,t2,t3,t4,t5⟩:=s2 hb;rw[t3];by_cases hle:2^v<=j
   ·have:=t5 hle;have B9:j-2^v<64:=xbg (xc9 _ _) hj;simp[hj,this,B9]
   simp[hj,hle]
  obtain⟨t1,t2,t3,t4,t5⟩:=s1 hb;rw[t2];simp[hj,t3,t5]
 simp only[xaS];rw[xdj,xbH,xbD,xbH,dZ,dZ];cases hb:j.testBit v
 ·obtain⟨t1,t2,t3,t4,t5⟩:=s2 hb;rw[t1,xcE (2^v) j];simp[hj,t2,t4]
 obtain⟨t1,t2,t3,t4,t5⟩:=s1 hb;rw[t1,xcE (2^v) j];simp[hj,t4]
def dep(n:Nat)(ws:zL)(v:Nat):Bool:=decide (l7 n ws v false≠l7 n ws v true)
theorem fA(x v:Nat):aK x v (x.testBit v)=x:=by
 apply xa6;intro k;rw[aj];by_cases e:k=v
 ·rw[xae e,e]
 rw[xab e]
theorem DA{n v:Nat}{ws:zL}(hf:iO n ws)(hv:v<n):dep n ws v=true↔∃x,x<2^n/\bit ws (aK x v false)≠bit ws (aK x v true):=by
 constructor
 ·intro h;refine xaX λhno=>?_;have:l7 n ws v false=l7 n ws v true:=(pT hf.LZ).ext (pT hf.LZ) λx hx=>by
   rw[jO hf hv hx,jO hf hv hx];exact xaX λhne=>hno ⟨x,hx,hne⟩
  simp[dep,this]at h
 rintro⟨x,hx,hne⟩;simp only[dep,ne_eq,xaD];intro he;apply hne;rw[<-jO hf hv hx,<-jO hf hv hx,he]
end cI
namespace Go.Sx
open Go
inductive gB:Hp->Hp->Prop
 |refl (B:Hp):gB B B
 |cons {x:Nat×Obj} {B H:Hp} (h:gB B H):gB B (x::H)
 |app {N B H:Hp} (h:gB B H):gB B (N++H)
theorem gB.spec{B H:Hp}(h:gB B H):∃N,H=N++B:=by
 induction h with
 |refl=>exact⟨[],rfl⟩
 | @cons x B H h ih=>obtain⟨N,rfl⟩:=ih;exact⟨x::N,rfl⟩
 | @app M B H h ih=>obtain⟨N,rfl⟩:=ih;exact⟨M++N,by rw[xau]⟩
theorem gB.dF{B H:Hp}(h:gB B H):aM H B:=by
 obtain⟨N,rfl⟩:=h.spec;exact aM.right
section
variable {P:Program} {g:Gh} {H:Hp}
def Px(P:Program)(f:FuncId)(args:Array zV)(B:Hp)(Q:zV->Hp->Prop):Prop:=Fc P f args B (λv H=>gB B H/\Q v H)
theorem aa.pre{f:FuncId}{args:Array zV}{H':Hp}{K:zV->Hp->Prop}{KP:List PanicEntry->Hp->Prop}(he:aM H H')(h:aa P g f args H' K KP):aa P g f args H K KP:=aT.pre h he
theorem aM.swap{x y:Nat×Obj}{A:Hp}:aM (x::y::A) (y::x::A):=.perm (.swap _ _ _)
theorem MF.mk{Q:zV->Hp->Prop}{v:zV}{B H:Hp}(he:gB B H)(h:Q v H):aZ (λv H=>gB B H/\Q v H) (.returned v) H:=⟨v,H,rfl,.refl _,he,h⟩
theorem bS.mk{Q:zV->Prop}{v:zV}{B H:Hp}(he:aM H B)(h:Q v):aZ (λv H=>H=B/\Q v) (.returned v) H:=⟨v,B,rfl,he,rfl,h⟩
def aq(kd:IntKind)(l:List Int):Array zV:=(l.map λn=>Value.int kd n).toArray
theorem sB(kd:IntKind)(l:List Int)(i:Nat)(n:Int):(aq kd l).setIfInBounds i (.int kd n)=aq kd (l.set i n):=by
 simp[aq,xda]
@[simp] theorem Ea(kd:IntKind)(l:List Int):(aq kd l).size=l.length:=by simp[aq]
theorem wG(kd:IntKind)(n:Nat):madeCells (Value.cells (.int kd 0)) (n*1)=aq kd (List.replicate n 0):=by
 apply Array.ext
 ·simp[madeCells,aq]
 intro i h1 h2;simp[madeCells,aq,Value.cells,Nat.mod_one]
def e7(kd:IntKind)(B:Hp)(v:zV)(l:List Int):Prop:=Sl 1 B v (l.map λn=>[Value.int kd n])
theorem e7.mono{kd:IntKind}{B B':Hp}{v:zV}{l:List Int}(h:e7 kd B v l)(hs:∀x∈B,x∈B'):e7 kd B' v l:=Sl.mono h hs
theorem e7.c6{kd:IntKind}{B:Hp}{v:zV}{l:List Int}(h:e7 kd B v l){K:zV->Prop}(hk:K (.int .i64 l.length)):bY v K:=Sl.c6 h (by simpa using hk)
theorem e7.block{kd:IntKind}{B:Hp}{b cap:Nat}{l:List Int}{T:TypeId}{fz:Nat×Nat}(hm:(b,Obj.cells (aq kd l) T fz)∈B)(hc:l.length<=cap):e7 kd B (.slice (some ⟨b,0,none⟩) l.length cap) l:=by
 refine⟨by simp,.inr ⟨b,0,cap,_,T,fz,by simp,by simpa using hc,hm,by simp[aq],λi r hi j v hj=>?_⟩⟩;rw[xaB]at hi;cases hl:l[i]? with
 |none=>rw[hl]at hi;simp at hi
 |some n=>
  rw[hl]at hi;simp only[xba,xao]at hi;subst hi;cases j with
  |zero=>
   simp only[xb5,xao]at hj;subst hj;simp[aq,hl]
  |succ j=>simp at hj
theorem e7.at{kd qU:IntKind}{B:Hp}{v:zV}{l:List Int}(h:e7 kd B v l){i:Nat}{n:Int}(hi:l[i]? =some n){K:zV->Prop}(hk:∀p,At B p [.int kd n]->K p):ai 1 v (.int qU (i:Int)) K:=
 ai.sl h (by rw[xaB,hi];rfl) hk
theorem e7.ld{kd qU:IntKind}{B:Hp}{v:zV}{l:List Int}(h:e7 kd B v l){i:Nat}{n:Int}(hi:l[i]? =some n)(hs:∀x∈B,x∈H){K:zV->Prop}(hk:K (.int kd n)):ai 1 v (.int qU (i:Int)) (λp=>Ld H p K):=
 h.at hi λp hp=>Ld.at hp hs hk
theorem dJ.ints{T:TypeId}{kd kl:IntKind}{bytes n:Nat}{K:zV->Hp->Prop}(mU:n<=9223372036854775807)(hb:n*bytes<=281474976710656)
 (h:∀b,K (.slice (some ⟨b,0,none⟩) n n) ((b,.cells (aq kd (List.replicate n 0)) T zZ)::H)):dJ T 1 bytes (.int kd 0) H (.int kl n) (.int kl n) K:=
 ⟨kl,kl,n,n,rfl,rfl,xak _,by omega,hb,λb _=>by rw[wG];exact h b⟩
theorem St.ints{b i:Nat}{kd:IntKind}{l:List Int}{x:Int}{T:TypeId}{H':Hp}{K:Hp->Prop}(hu:cm b (.cells (aq kd l) T zZ) (.cells (aq kd (l.set i x)) T zZ) H H')(hi:i<l.length)(h:K H'):
  St 1 H (.pointer (some ⟨b,0+i*1,none⟩)) (.int kd x) K:=
 St.one (c:=aq kd l) (c':=aq kd (l.set i x)) hu rfl (by simpa using hi) (by rw[xa1,xb0];exact sB kd l i x) h
end
def dR:List zV->Nat->Nat
 | .int _ q::_,0=>q.toNat
 |_::r,i+1=>dR r i
 |_,_=>0
structure Tb where
 n:Int
 ws:zL
 deriving DecidableEq
def iw(ws:zL):List Int:=ws.map (Nat.cast:Nat->Int)
@[simp] theorem aQ(ws:zL):(iw ws).length=ws.length:=by simp[iw]
theorem gO{ws:zL}{i w:Nat}(h:ws[i]? =some w):(iw ws)[i]? =some (w:Int):=by simp[iw,h]
def TF(t:Tb):Prop:=0<=t.n/\cI.iO t.n.toNat t.ws
instance (t:Tb):Decidable (TF t):=by unfold TF;infer_instance
end Go.Sx
namespace Go.Sx
open Go Go.RowKit
section
variable {P:Program}
def whole(W:World):Hp:=(List.range W.heap.size).map λi=>(i,W.heap.getD i default)
theorem wA(W:World):Own ⟨W,[]⟩ (whole W) W:=by
 refine⟨rfl,rfl,rfl,?_,?_⟩
 ·have:(whole W).map Prod.fst=List.range W.heap.size:=by
   unfold whole;rw[xbJ];have:(Prod.fst∘λi=>(i,W.heap.getD i default))=id:=by funext i;rfl
   rw[this,List.map_id]
  rw[xaR,this];exact xcR
 intro x hx;rw[xaR]at hx;obtain⟨i,hi,rfl⟩:=xan.1 hx;have:=xaP.1 hi;simp[xaj,this]
theorem Own.below{W W':World}(h:Own ⟨W,[]⟩ (whole W) W'):Below W.heap.size W W':=by
 have hb:∀k,k<W.heap.size->W'.heap[k]? =W.heap[k]? :=λk hk=>by
  have:=h.has (k,W.heap.getD k default) (xan.2 ⟨k,xaP.2 hk,rfl⟩);simp only at this;rw[this];simp[xaj,hk]
 refine⟨h.os,h.tape,h.out,?_,hb⟩;rcases Nat.eq_zero_or_pos W.heap.size with h0|h0
 ·omega
 have:=hb (W.heap.size-1) zO;rw[show W.heap[W.heap.size-1]? =some (W.heap[W.heap.size-1]' zO)from xbh zO]at this;have:=(xax.1 this).1;omega
theorem wL{f:FuncId}{args:Array zV}{W:World}(h:aT P ⟨W,[]⟩ f args (whole W) (λe H'=>e=.returned (.bool true)/\aM H' (whole W))):
  Calls P f args W λe W'=>e=.returned (.bool true)/\Below W.heap.size W W':=
 (h W (wA W)).mono λe W' ⟨H',ho,he,hent⟩=>⟨he,(hent _ _ ho).below⟩
theorem EW{f:FuncId}{args:Array zV}{W:World}(h:Px P f args (whole W) (λv _=>v=.bool true)):
  Calls P f args W λe W'=>e=.returned (.bool true)/\Below W.heap.size W W':=
 wL ((h ⟨W,[]⟩).post λe H' ⟨v,C,he,hent,hg,hv⟩=>⟨H',.refl _,by rw[he,hv],hent.trans hg.dF⟩)
section
variable {H:Type} {enc:TypeId×zV->H}
open Go.ChangeShapes Go.WideShapes Go.ChangeAt Go.RowKit
theorem iC(hl:laidOutB P=true){W W':World}{sp:Nat->Bool}(hb:Below W.heap.size W W'):∀(ts:List TypeId) (vs:List zV) (ds:List (DataW H)) (ps:List MemPlace),
  (∀t∈ts,P.readableRec t=true/\t<P.types.size)->DataW.TrodAll enc P W 0 (λ_=>true) true ts vs ds ps->(∀x∈ps,x.block<W.heap.size)->(∀x∈ps,sp x.block=true)->DataW.TrodAll enc P W' 0 sp true ts vs ds ps
 | [],vs,ds,ps,_,h,_,_=>by
  obtain⟨rfl,rfl,rfl⟩:=trodAll_nil h;exact trodAll_mk0
 |t::ts,vs,ds,ps,hr,h,hlt,hsp=>by
  obtain⟨v,vs',d,ds',p,q,rfl,rfl,rfl,h0,h1⟩:=trodAll_cons h;have ht:=hr t zI;exact trodAll_cons_mk (WideElems.Trod_stays hl ht.1 ht.2 h0 (λx hx=>hb.same (hlt x (by simp[hx]))) (λx hx=>hsp x (by simp[hx])))
   (iC hl hb ts vs' ds' q (λt' h'=>hr t' (by simp[h'])) h1 (λx hx=>hlt x (by simp[hx])) (λx hx=>hsp x (by simp[hx])))
theorem Ab{f:Func}{s:ChangeSpec}{W W':World}{args:Array zV}{ds gs:List (DataW H)}{before:List MemPlace}{tb:TypeId}(hvars:s.vars=[])
 (hW:DataW.Whole enc P f.params.toList s.vars false W args.toList ds gs before)(hs:s.fn H (ds++gs)={results:=[.lit (.bool true)],args:=ds})(hb:Below W.heap.size W W')
 (hl:laidOutB P=true)(hr:∀t∈f.params.toList,P.readableRec t=true/\t<P.types.size)(NB:f.resultTypes=#[tb])(HU:P.underlying tb=some .bool):
  s.post enc P f false true false false W args (.bool true) W':=by
 have Jg:=hW;have hlt:=hW.lt;obtain⟨p,q,hA,hV,rfl,hfz,n3⟩:=hW;rw[hvars]at hV;obtain⟨rfl,rfl⟩:=trodVars_none hV;refine⟨ds,_,_,[],p,[],Jg,?_,?_,?_,World.keptBut_mono (λp hp=>⟨hp,?_⟩) (hb.frame (· ∈p++[])),λh=>by cases h⟩
 ·rw[hs,NB];exact trodAll_cons_mk (shut_bool HU _) trodAll_mk0
 ·rw[hs];exact iC hl hb _ _ _ _ hr hA (λx hx=>hlt x (by simp[hx])) (λx hx=>by simpa using hlt x (by simp[hx]))
 ·rw[hvars,hs];rfl
 right;simpa using hp
end
end
end Go.Sx
namespace Go.Sx
open Go
section
variable {P:Program} {g:Gh} {H:Hp}
theorem ay.My{T:TypeId}{v x:zV}{rs:List (List zV)}{C:Hp}(hs:ay T 1 v rs C){i:Nat}(hi:i<rs.length)(hr:rs[i]? =some [x])(hC:∀y∈C,y∈H){K:zV->Prop}(hk:K x):
  ai 1 v (.int .i64 (i:Int)) λp=>Ld H p K:=by
 obtain⟨b',aF,rfl,rfl,aL⟩:=hs.pos zO;refine ai.nat hi ?_;exact Ld.GQ (l:=rs++aF) (hC _ (List.Mem.head _)) aL (by rw[xaQ hi];exact hr) hk
theorem ay.JS{T:TypeId}{v x y:zV}{rs:List (List zV)}{C A B:Hp}(hs:ay T 1 v rs C){i:Nat}(hi:i<rs.length)(hr:rs[i]? =some [y])(h1:x.oneCell'=true){K:Hp->Prop}
 (hk:∀C',ay T 1 v (rs.set i [x]) C'->K (A++(C'++B))):ai 1 v (.int .i64 (i:Int)) λp=>St 1 (A++(C++B)) p x K:=by
 obtain⟨b',aF,rfl,rfl,aL⟩:=hs.pos zO;refine ai.nat hi ?_;refine St.cell (l:=rs++aF) (i:=i) (k:=1) (j:=0) (r:=[y]) (((cm.head _).append B).ax A) aL (by rw[xaQ hi];exact hr) zO h1 ?_;have e:(rs++aF).set i ([y].set 0 x)=rs.set i [x]++aF:=by rw[xdb _ _ hi];rfl
 rw[e];refine hk [(b',_)] (ay.mk' (aF:=aF) (λr hr'=>?_) zI zI);rcases xaw.1 hr' with hr'|hr'
 ·rcases xcx hr' with hr'|rfl
  ·exact aL r (by simp[hr'])
  rfl
 exact aL r (by simp[hr'])
end
end Go.Sx
namespace Go.Sx
open Go
section
variable {κ β:Type} [DecidableEq κ]
structure bh(ke:κ->zV)(vr:zV->β->Prop)(es:Array MapEntry)(ck:Nat)(m:List (κ×β)):Prop where
 len:es.size=m.length
 key:∀(i:Nat) (e:MapEntry) (x:κ×β),es[i]? =some e->m[i]? =some x->e.key=ke x.1/\vr e.val x.2
 nd:(m.map Prod.fst).Nodup
 born:(es.toList.map MapEntry.born).Nodup
 lt:∀e∈es.toList,e.born<ck
variable {ke:κ->zV} {vr:zV->β->Prop} {es:Array MapEntry} {ck:Nat} {m:List (κ×β)}
theorem bh.empty:bh ke vr #[] 0 []:=⟨rfl,by simp,by simp,by simp,by simp⟩
def bQ(m:List (κ×β))(k:κ)(x:β):List (κ×β):=if k∈m.map Prod.fst then m.map (λy=>if y.1=k then(k,x)else y)else m++[(k,x)]
def aN(m:List (κ×β))(k:κ):Option β:=(m.find? (λy=>y.1=k)).map Prod.snd
theorem gH{m:List (κ×β)}{k:κ}{x:β}(nd:(m.map Prod.fst).Nodup):aN m k=some x↔(k,x)∈m:=by
 induction m with
 |nil=>simp[aN]
 |cons y r ih=>
  rw[xaC,xaT]at nd;obtain⟨a,b⟩:=y;simp only[aN,xbz]at ih⊢;by_cases e:a=k
  ·subst e;simp only[decide_true,xba,xao,xaf,xcM,xdi];constructor
   ·intro h;exact .inl h.symm
   rintro(h|h)
   ·exact h.symm
   exact absurd (xan.2 ⟨_,h,rfl⟩) nd.1
  simp only[e,xc2,xaf,xcM,xbQ e,false_and,false_or];exact ih nd.2
theorem eC{m:List (κ×β)}{k:κ}:aN m k=none↔k∉m.map Prod.fst:=by
 simp only[aN,Option.map_eq_none_iff,xdp,xaD,xan,not_exists,not_and]
theorem bh.findNow{kd:TypeDesc}(hk:∀a b,Instr.sameNow kd (ke a) (ke b)=some (decide (a=b)))(h:bh ke vr es ck m)(k:κ):
  (∃(i:Nat) (x:β) (e:MapEntry),es[i]? =some e/\m[i]? =some (k,x)/\vr e.val x/\Instr.findNow kd (ke k) es.toList 0=some (some (i,e.val)))\/(k∉m.map Prod.fst/\Instr.findNow kd (ke k) es.toList 0=some none):=by
 have key:∀(l:List MapEntry) (q:List (κ×β)) (j:Nat),l.length=q.length->(∀(i:Nat) (e:MapEntry) (x:κ×β),l[i]? =some e->q[i]? =some x->e.key=ke x.1/\vr e.val x.2)->
   (∃(i:Nat) (x:β) (e:MapEntry),l[i]? =some e/\q[i]? =some (k,x)/\vr e.val x/\Instr.findNow kd (ke k) l j=some (some (j+i,e.val)))\/(k∉q.map Prod.fst/\Instr.findNow kd (ke k) l j=some none):=by
  intro l;induction l with
  |nil=>intro q j hl _;cases q with|nil=>exact .inr ⟨by simp,rfl⟩|cons a b=>simp at hl
  |cons e r ih=>
   intro q j hl hkey;cases q with
   |nil=>simp at hl
   |cons y q=>
    obtain⟨h1,h2⟩:=hkey 0 e y rfl rfl;simp only[Instr.findNow,h1,hk];by_cases e0:k=y.1
    ·subst e0;exact .inl ⟨0,y.2,e,rfl,rfl,h2,by simp⟩
    rw[xay e0];rcases ih q (j+1) (by simpa using hl) (λi e x h1 h2=>hkey (i+1) e x (by simpa using h1) (by simpa using h2))with⟨i,x,e',g1,g2,g3,g4⟩|⟨g1,g2⟩
    ·exact .inl ⟨i+1,x,e',by simpa using g1,by simpa using g2,g3,by simp only[g4];rw[show j+1+i=j+(i+1)by omega]⟩
    exact .inr ⟨by rw[xaC,xaf];rintro(h|h);exact e0 h;exact g1 h,by simpa using g2⟩
 have:=key es.toList m 0 (by simpa using h.len) (λi e x h1 h2=>h.key i e x (by simpa using h1) h2);rcases this with⟨i,x,e,g1,g2,g3,g4⟩|h2
 ·exact .inl ⟨i,x,e,by simpa using g1,g2,g3,by simpa using g4⟩
 exact .inr h2
theorem bh.vG{P:Program}{kt:TypeId}(hk:∀a b,vY P kt (ke a) (ke b) (decide (a=b)))(h:bh ke vr es ck m)(k:κ):
  (∃(i:Nat) (x:β) (e:MapEntry),es[i]? =some e/\m[i]? =some (k,x)/\vr e.val x/\gy P kt (ke k) es.toList 0 (some (i,e.val)))\/(k∉m.map Prod.fst/\gy P kt (ke k) es.toList 0 none):=by
 have key:∀(l:List MapEntry) (q:List (κ×β)) (j:Nat),l.length=q.length->(∀(i:Nat) (e:MapEntry) (x:κ×β),l[i]? =some e->q[i]? =some x->e.key=ke x.1/\vr e.val x.2)->
   (∃(i:Nat) (x:β) (e:MapEntry),l[i]? =some e/\q[i]? =some (k,x)/\vr e.val x/\gy P kt (ke k) l j (some (j+i,e.val)))\/(k∉q.map Prod.fst/\gy P kt (ke k) l j none):=by
  intro l;induction l with
  |nil=>intro q j hl _;cases q with|nil=>exact .inr ⟨by simp,rfl⟩|cons a b=>simp at hl
  |cons e r ih=>
   intro q j hl hkey;cases q with
   |nil=>simp at hl
   |cons y q=>
    obtain⟨h1,h2⟩:=hkey 0 e y rfl rfl;have hb:=hk k y.1;rw[<-h1]at hb;by_cases e0:k=y.1
    ·refine .inl ⟨0,y.2,e,rfl,by rw[e0];rfl,h2,?_⟩;exact⟨_,hb,λ_=>by simp,λh=>by simp[e0]at h⟩
    rcases ih q (j+1) (by simpa using hl) (λi e x h1 h2=>hkey (i+1) e x (by simpa using h1) (by simpa using h2))with⟨i,x,e',g1,g2,g3,g4⟩|⟨g1,g2⟩
    ·refine .inl ⟨i+1,x,e',by simpa using g1,by simpa using g2,g3,_,hb,λh=>by simp[e0]at h,λ_=>?_⟩;rw[show j+(i+1)=j+1+i by omega];exact g4
    exact .inr ⟨by rw[xaC,xaf];rintro(h|h);exact e0 h;exact g1 h,_,hb,λh=>by simp[e0]at h,λ_=>g2⟩
 have:=key es.toList m 0 (by simpa using h.len) (λi e x h1 h2=>h.key i e x (by simpa using h1) h2);rcases this with⟨i,x,e,g1,g2,g3,g4⟩|h2
 ·exact .inl ⟨i,x,e,by simpa using g1,g2,g3,by simpa using g4⟩
 exact .inr h2
theorem bh.put(h:bh ke vr es ck m){i:Nat}{k:κ}{y x:β}{val:zV}(hi:m[i]? =some (k,y))(hv:vr val x):bh ke vr (es.modify i λe=>{e with key:=ke k,val}) ck (bQ m k x):=by
 have hmem:k∈m.map Prod.fst:=xan.2 ⟨_,xaJ hi,rfl⟩;have hlt:=(xag.1 hi).1;have Hq:∀j z,m[j]? =some z->z.1=k->j=i:=λj z hj hz=>by
  have hj':=(xag.1 hj).1;have e1:(m.map Prod.fst)[j]? =some k:=by rw[xaB,hj];simp[hz]
  have e2:(m.map Prod.fst)[i]? =some k:=by rw[xaB,hi];rfl
  exact(List.getElem?_inj (by simpa using hj') h.nd).1 (e1.trans e2.symm)
 have hb:((es.modify i λe=>{e with key:=ke k,val}).toList.map MapEntry.born)=es.toList.map MapEntry.born:=by
  apply xbM;intro j;simp only[xaB,xbc,xcg];split
  ·cases es[j]? <;>rfl
  rfl
 refine⟨by simp[bQ,hmem,h.len],λj e z he hz=>?_,?_,by rw[hb];exact h.born,λe he=>?_⟩
 ·simp only[bQ,hmem,xaS,xaB]at hz;rw[xcg]at he;cases hm:m[j]? with
  |none=>rw[hm]at hz;simp at hz
  |some z0=>
   rw[hm]at hz;simp only[xba,xao]at hz;cases KG:es[j]? with
   |none=>rw[KG]at he;split at he<;>simp at he
   |some e0=>
    rw[KG]at he;by_cases ek:z0.1=k
    ·have:=Hq j z0 hm ek;subst this;rw[xae ek]at hz;subst hz;simp only[xaS,xba,xao]at he;subst he;exact⟨rfl,hv⟩
    rw[xab ek]at hz;subst hz;rw[xab (λe=>by subst e;rw[hi]at hm;cases hm;exact ek rfl)]at he;simp only[xao]at he;subst he;exact h.key j _ _ KG hm
 ·have:(bQ m k x).map Prod.fst=m.map Prod.fst:=by
   simp only[bQ,hmem,xaS,xbJ];apply xbA;intro z _;simp only[Function.comp];split
   ·rename_i hz;exact hz.symm
   rfl
  rw[this];exact h.nd
 have:e.born∈(es.modify i λe=>{e with key:=ke k,val}).toList.map MapEntry.born:=xbi he;rw[hb]at this;obtain⟨e0,h1,h2⟩:=xan.1 this;rw[<-h2];exact h.lt e0 h1
theorem bh.more(h:bh ke vr es ck m){k:κ}{x:β}{val:zV}(hk:k∉m.map Prod.fst)(hv:vr val x):bh ke vr (es.push {key:=ke k,val,born:=ck}) (ck+1) (bQ m k x):=by
 have hs:bQ m k x=m++[(k,x)]:=by unfold bQ;rw[xab hk]
 rw[hs];refine⟨by simp[h.len],λj e z he hz=>?_,?_,?_,λe he=>?_⟩
 ·by_cases hj:j<m.length
  ·rw[xaQ hj]at hz;rw[xcu,xab (by rw[h.len];omega)]at he;exact h.key j _ _ he hz
  have I6:=(xag.1 hz).1;simp only[xaq,xai,xa5]at I6;have:j=m.length:=by omega
  subst this;rw[xbS (xak _)]at hz;simp at hz;subst hz;rw[xcu,xae h.len.symm]at he;simp at he;subst he;exact⟨rfl,hv⟩
 ·rw[xaz,xbL];refine⟨h.nd,by simp,λa ha b hb=>?_⟩;simp at hb;subst hb;rintro rfl;exact hk ha
 ·rw[Array.toList_push,xaz,xbL];refine⟨h.born,by simp,λa ha b hb=>?_⟩;simp at hb;subst hb;obtain⟨e,he,rfl⟩:=xan.1 ha;have:=h.lt e he;omega
 rw[Array.toList_push,xaw]at he;rcases he with he|he
 ·have:=h.lt e he;omega
 simp at he;subst he;simp
variable {H:Hp} {b:Nat}
theorem bh.hit{kd:TypeDesc}{zero:zV}{ok:Bool}{k:κ}{x:β}{K:zV->Prop}(hk:∀a b,Instr.sameNow kd (ke a) (ke b)=some (decide (a=b)))(h:bh ke vr es ck m)(hm:(b,Obj.map es ck)∈H)(hx:aN m k=some x)
 (h1:∀v,vr v x->K (cond ok (.tuple #[v,.bool true]) v)):gp kd zero ok H (.map (some b)) (ke k) K:=by
 rcases h.findNow hk k with⟨i,y,e,g1,g2,g3,g4⟩|⟨g1,g2⟩
 ·have:aN m k=some y:=(gH h.nd).2 (xaJ g2);rw[hx]at this;cases this;exact⟨es,_,.inr ⟨b,ck,rfl,hm⟩,g4,h1 _ g3⟩
 rw[eC.2 g1]at hx;cases hx
theorem bh.so{kd:TypeDesc}{zero:zV}{ok:Bool}{k:κ}{K:zV->Prop}(hk:∀a b,Instr.sameNow kd (ke a) (ke b)=some (decide (a=b)))(h:bh ke vr es ck m)(hm:(b,Obj.map es ck)∈H)(hx:aN m k=none)
 (h1:K (cond ok (.tuple #[zero,.bool false]) zero)):gp kd zero ok H (.map (some b)) (ke k) K:=by
 rcases h.findNow hk k with⟨i,y,e,g1,g2,g3,g4⟩|⟨g1,g2⟩
 ·exact absurd (xan.2 ⟨_,xaJ g2,rfl⟩) (eC.1 hx)
 exact⟨es,_,.inr ⟨b,ck,rfl,hm⟩,g2,h1⟩
theorem bh.cz{kd:TypeDesc}{k:κ}{x:β}{val:zV}{K:Hp->Prop}(hk:∀a b,Instr.sameNow kd (ke a) (ke b)=some (decide (a=b)))(hb:∀a,Instr.sameBits 10000 (ke a) (ke a)=true)(h:bh ke vr es ck m)(hv:vr val x)
 (h1:∀es' dO,bh ke vr es' dO (bQ m k x)->∃H',cm b (.map es ck) (.map es' dO) H H'/\K H'):fm kd H (.map (some b)) (ke k) val K:=by
 rcases h.findNow hk k with⟨i,y,e,g1,g2,g3,g4⟩|⟨g1,g2⟩
 ·refine⟨b,es,ck,_,rfl,g4,λe' he'=>?_,by rw[h.len];exact(xag.1 g2).1,h1 _ _ (h.put g2 hv)⟩;rw[(h.key i e' _ he' g2).1];exact hb k
 exact⟨b,es,ck,_,rfl,g2,h1 _ _ (h.more g1 hv)⟩
theorem bh.Dk{P:Program}{kt:TypeId}{zero:zV}{ok:Bool}{k:κ}{x:β}{K:zV->Prop}(hk:∀a b,vY P kt (ke a) (ke b) (decide (a=b)))(hc:∀a,jl P kt (ke a))(h:bh ke vr es ck m)(hm:(b,Obj.map es ck)∈H)(hx:aN m k=some x)
 (h1:∀v,vr v x->K (cond ok (.tuple #[v,.bool true]) v)):gx P kt zero ok H (.map (some b)) (ke k) K:=by
 rcases h.vG hk k with⟨i,y,e,g1,g2,g3,g4⟩|⟨g1,g2⟩
 ·have:aN m k=some y:=(gH h.nd).2 (xaJ g2);rw[hx]at this;cases this;exact⟨es,_,.inr ⟨b,ck,rfl,hm⟩,hc k,g4,h1 _ g3⟩
 rw[eC.2 g1]at hx;cases hx
theorem bh.uZ{P:Program}{kt:TypeId}{zero:zV}{ok:Bool}{k:κ}{K:zV->Prop}(hk:∀a b,vY P kt (ke a) (ke b) (decide (a=b)))(hc:∀a,jl P kt (ke a))(h:bh ke vr es ck m)(hm:(b,Obj.map es ck)∈H)(hx:aN m k=none)
 (h1:K (cond ok (.tuple #[zero,.bool false]) zero)):gx P kt zero ok H (.map (some b)) (ke k) K:=by
 rcases h.vG hk k with⟨i,y,e,g1,g2,g3,g4⟩|⟨g1,g2⟩
 ·exact absurd (xan.2 ⟨_,xaJ g2,rfl⟩) (eC.1 hx)
 exact⟨es,_,.inr ⟨b,ck,rfl,hm⟩,hc k,g2,h1⟩
theorem bh.Cn{P:Program}{kt:TypeId}{k:κ}{x:β}{val:zV}{K:Hp->Prop}(hk:∀a b,vY P kt (ke a) (ke b) (decide (a=b)))(hc:∀a,jl P kt (ke a))(hb:∀a,Instr.sameBits 10000 (ke a) (ke a)=true)(h:bh ke vr es ck m)(hv:vr val x)
 (h1:∀es' dO,bh ke vr es' dO (bQ m k x)->∃H',cm b (.map es ck) (.map es' dO) H H'/\K H'):gm P kt H (.map (some b)) (ke k) val K:=by
 rcases h.vG hk k with⟨i,y,e,g1,g2,g3,g4⟩|⟨g1,g2⟩
 ·refine⟨b,es,ck,_,rfl,hc k,g4,λe' he'=>?_,by rw[h.len];exact(xag.1 g2).1,h1 _ _ (h.put g2 hv)⟩;rw[(h.key i e' _ he' g2).1];exact hb k
 exact⟨b,es,ck,_,rfl,hc k,g2,h1 _ _ (h.more g1 hv)⟩
end
end Go.Sx
namespace cI
abbrev Fs:=List (zL)
def add(l:Fs)(t:zL):Fs:=if t∈l then l else l++[t]
def iQ(L:Fs):Fs:=L.foldl add []
def given(n:Nat)(l:Fs)(v:Nat):Fs:=l.foldl (λacc t=>add (add acc (l7 n t v false)) (l7 n t v true)) []
def nodes(n:Nat)(l:Fs)(v:Nat):Fs:=l.filter λt=>dep n t v
def st(n:Nat)(L:Fs)(A:Nat):Nat->Fs
 |0=>iQ L
 |k+1=>if A.testBit k then given n (st n L A k) k else st n L A k
def lvl(n:Nat)(L:Fs)(A v:Nat):Nat:=(nodes n (st n L A n) v).length
theorem pB{l:Fs}{t x:zL}:x∈add l t↔x∈l\/x=t:=by
 unfold add;split
 ·constructor
  ·exact .inl
  rintro(h|rfl)<;>assumption
 simp
theorem kL{l:Fs}{t:zL}(h:l.Nodup):(add l t).Nodup:=by
 unfold add;split
 ·exact h
 rename_i hn;rw[xbL];exact⟨h,by simp,λa ha b hb=>by simp at hb;subst hb;rintro rfl;exact hn ha⟩
theorem fk{α:Type}(f:α->Fs->Fs)(g:α->zL->Prop)(hf:∀a l x,x∈f a l↔x∈l\/g a x):∀(L:List α) (acc:Fs) (x:zL),x∈L.foldl (λacc a=>f a acc) acc↔x∈acc\/∃a∈L,g a x
 | [],acc,x=>by simp
 |a::L,acc,x=>by
  rw[xdB,fk f g hf L,hf];simp only[xaf,exists_eq_or_imp,or_assoc]
theorem dS{α:Type}(f:α->Fs->Fs)(hf:∀a l,l.Nodup->(f a l).Nodup):∀(L:List α) (acc:Fs),acc.Nodup->(L.foldl (λacc a=>f a acc) acc).Nodup
 | [],acc,h=>h
 |a::L,acc,h=>dS f hf L _ (hf a acc h)
theorem iZ{L:Fs}{x:zL}:x∈iQ L↔x∈L:=by
 unfold iQ;have:=fk (λa l=>add l a) (λa x=>x=a) (λa l x=>pB) L [] x;rw[this];simp
theorem pn(L:Fs):(iQ L).Nodup:=dS (λa l=>add l a) (λa l h=>kL h) L [] zI
theorem kg{n v:Nat}{l:Fs}{x:zL}:x∈given n l v↔∃t∈l,∃b,x=l7 n t v b:=by
 unfold given;have:=fk (λt acc=>add (add acc (l7 n t v false)) (l7 n t v true)) (λt x=>∃b,x=l7 n t v b) (λt l x=>by
  rw[pB,pB];constructor
  ·rintro((h|h)|h)
   ·exact .inl h
   ·exact .inr ⟨false,h⟩
   exact .inr ⟨true,h⟩
  rintro(h|⟨b,h⟩)
  ·exact .inl (.inl h)
  cases b
  ·exact .inl (.inr h)
  exact .inr h) l [] x
 rw[this];simp
theorem q8(n:Nat)(l:Fs)(v:Nat):(given n l v).Nodup:=dS (λt acc=>add (add acc (l7 n t v false)) (l7 n t v true)) (λa l h=>kL (kL h)) l [] zI
theorem jh(l:Fs)(t:zL):(add l t).length<=l.length+1:=by unfold add;split<;>simp
theorem dD{α:Type}(f:α->Fs->Fs)(c:Nat)(hf:∀a l,(f a l).length<=l.length+c):∀(L:List α) (acc:Fs),(L.foldl (λacc a=>f a acc) acc).length<=acc.length+c*L.length
 | [],acc=>by simp
 |a::L,acc=>by
  have h1:=dD f c hf L (f a acc);have h2:=hf a acc;rw[xdB,xai,Nat.mul_succ];omega
end cI
namespace Go.Sx
open Go
section
variable {P:Program} {H:Hp}
theorem ak.int{t e:Nat}{kd:IntKind}{x:Int}{K:zV->Hp->Prop}(h1:P.underlying t=some (.slice e))(h2:bU P e=some 1)(h3:da P e=some (.int kd 0))
 (h:∀b,K (.slice (some ⟨b,0,none⟩) 1 1) ((b,.cells (aq kd [x]) e zZ)::H)):ak P t 1 [(0,.int kd x)] H K:=by
 refine⟨aq kd [x],e,1,_,h1,h2,h3,by decide,?_,λb _=>h b⟩;have e1:Array.range 1=#[0]:=rfl;simp[Instr.fill,Value.cells,aq,e1]
theorem ak.none{t e k:Nat}{z:zV}{K:zV->Hp->Prop}(h1:P.underlying t=some (.slice e))(h2:bU P e=some k)(h3:da P e=some z)
 (h:∀b,K (.slice (some ⟨b,0,none⟩) 0 0) ((b,.cells #[] e zZ)::H)):ak P t 0 [] H K:=by
 refine⟨_,e,k,z,h1,h2,h3,by simp,rfl,λb _=>?_⟩;have:((Array.range (0*k)).map λi=>z.cells[i%z.cells.size]!)=#[]:=by simp
 rw[this];exact h b
def ah(l:List UInt8):zV:=.string ⟨l.toArray⟩
theorem jv(a b:List UInt8):((⟨a.toArray⟩:ByteArray)==⟨b.toArray⟩)=decide (a=b):=by
 rw[beq_toListBytes,ByteArray.toList_eq,ByteArray.toList_eq];simp only[xde];rw[xcy];simp
theorem dw(a b:List UInt8):Instr.sameNow .string (ah a) (ah b)=some (decide (a=b)):=by
 show some _=some _;rw[jv]
theorem wo(a:List UInt8):Instr.sameBits 10000 (ah a) (ah a)=true:=by
 show((⟨a.toArray⟩:ByteArray)==⟨a.toArray⟩)=true;rw[jv];simp
theorem ae.za{a b:List UInt8}{k:zV->Prop}(h:k (.bool (decide (a≠b)))):ae .str .neq (ah a) (ah b) k:=by
 refine⟨_,rfl,?_⟩;have:(!((⟨a.toArray⟩:ByteArray).toList==(⟨b.toArray⟩:ByteArray).toList))=decide (a≠b):=by
  rw[<-beq_toListBytes,jv];simp
 rw[this];exact h
end
end Go.Sx
namespace Go.Sx
open Go
section
variable {P:Program} {g:Gh} {H:Hp}
theorem ay.apps{elem k bytes:Nat}{zero:zV}{v:zV}{rs:List (List zV)}{C A B:Hp}(h:ay elem k v rs C){xa:Option Addr}{xc:Nat}{r2:List (List zV)}
 (hx:Cells (A++(C++B)) xa (r2.length*k) (rows r2))(hr:∀r∈r2,r.length=k)(h1:∀r∈r2,∀u∈r,u.oneCell'=true)(hz:∃z:List zV,zero.cells=z.toArray/\z.length=k)
 (hb:(rs.length+r2.length)*bytes<=140737488355328)(mU:rs.length+r2.length<=9223372036854775807){K:zV->Hp->Prop}
 (hk:∀v' C',ay elem k v' (rs++r2) C'->K v' (A++(C'++B))):App P elem k bytes zero (A++(C++B)) v (.slice xa r2.length xc) K:=by
 obtain⟨z,Hh,Da⟩:=hz;have hnone:∀u∈(rows r2).toList,u.oneCell'=true:=by
  intro u hu;simp only[rows,List.mem_flatten]at hu;obtain⟨r,h2,h3⟩:=hu;exact h1 r h2 u h3
 rcases h with⟨rfl,rfl,rfl⟩|⟨b,aF,rfl,rfl,aL⟩
 ·refine⟨none,0,0,xa,r2.length,xc,#[],rows r2,rfl,rfl,rfl,hx,aS hr,by simp,hnone,λh=>?_,λ_=>⟨by simpa using hb,by simpa using mU,λc5 hn b KL=>?_⟩⟩
  ·have:r2=[]:=xbO zO;subst this;exact hk _ [] (.inl ⟨rfl,rfl,rfl⟩)
  rw[show(#[]:Array zV)++rows r2++Builtin.zeroCells zero.cells (c5-(0+r2.length))=rows ([]++r2++List.replicate (c5-r2.length) z)by rw[Hh,jo z Da];simp only[xa1,xb7,xa2];rw[cx]];refine⟨_,aM.DX [(b,_)] A B,hk _ [(b,_)] (.inr ⟨b,List.replicate (c5-r2.length) z,?_,rfl,?_⟩)⟩
  ·simp;omega
  intro x hx;rcases xaw.1 hx with hx|hx
  ·exact hr x hx
  rw[xbq hx,Da]
 have hsz:=aS aL;have iI:∀x∈rs,x.length=k:=λx hx=>aL x (by simp[hx]);have hold:rows rs=(rows (rs++aF)).extract 0 (0+rs.length*k):=by
  rw[<-cx];apply xb8;have:=aS iI;have h2:(rows rs).toList.length=rs.length*k:=by rw[xbP];exact this
  rw[Array.toList_extract,Array.toList_append,List.extract_eq_take_drop,List.drop_zero,xa1,xc3,<-h2,xdh]
 refine⟨some ⟨b,0,none⟩,rs.length,rs.length+aF.length,xa,r2.length,xc,rows rs,rows r2,rfl,rfl,.inr ⟨rfl,_,elem,(0,0),by simp,?_,hold⟩,hx,aS hr,aS iI,hnone,λhfit=>?_,λhgrow=>⟨hb,by omega,λc5 hn b' KL=>?_⟩⟩
 ·rw[hsz];simp only[xaq,xa1];exact xa7 _ zO
 ·obtain⟨j1,j2,rfl,hj⟩:∃j1 j2,aF=j1++j2/\j1.length=r2.length:=⟨aF.take r2.length,aF.drop r2.length,(xcW _ _).symm,by rw[xdx];omega⟩;have HW:∀x∈j1,x.length=k:=λx hx=>aL x (by simp[hx]);refine⟨_,elem,_,rfl,?_,((cm.head _).append B).ax A,hk _ [(b,_)] (.inr ⟨b,j2,?_,?_,?_⟩)⟩
  ·rw[hsz,xaq,xaq,hj,xdF,xdF];show 0+rs.length*k+r2.length*k<=_;omega
  ·simp;omega
  ·have e:(⟨b,0,none⟩:Addr).off+rs.length*k=rs.length*k:=by simp
   have l1:=bR rs iI;have l2:=bR j1 HW;have l3:=bR r2 hr;have e2:over (rows (rs++(j1++j2))) (rs.length*k) (rows r2).toList=rows (rs++r2++j2):=by
    unfold rows;rw[xbB,xbB,xde,fT _ _ _ (by rw[xaq,xaq,l1,l2,l3,hj];omega)];congr 1;rw[xbB,xbB,<-l1,xdh,l3,<-hj,<-l2,xcS,<-xau];simp[xcS]
   rw[e,e2]
  intro x hx;simp only[xau,xaw]at hx;rcases hx with hx|hx|hx
  ·exact iI x hx
  ·exact hr x hx
  exact aL x (by simp[hx])
 refine⟨A++([(b',_)]++B),?_,hk _ [(b',_)] (.inr ⟨b',List.replicate (c5-(rs.length+r2.length)) z,?_,rfl,?_⟩)⟩
 ·rw[Hh,jo z Da,cx,cx];exact λg w h=>(aM.GP [[_],A,[_],B] [[_],A,[_],B] ((xaK (l₁:=[_,A]) (l₂:=[_])).append_right [B]|>.trans (.cons _ (.swap _ _ _))) g w h).tail
 ·simp;omega
 intro x hx;rcases xaw.1 hx with hx|hx
 ·rcases xaw.1 hx with hx|hx
  ·exact iI x hx
  exact hr x hx
 rw[xbq hx,Da]
def aO(T:TypeId)(kd:IntKind)(v:zV)(l:List Int)(C:Hp):Prop:=ay T 1 v (l.map λn=>[Value.int kd n]) C
theorem aO.nil{T:TypeId}{kd:IntKind}:aO T kd (.slice none 0 0) [] []:=ay.nil _ _
theorem aO.c6{T:TypeId}{kd:IntKind}{v:zV}{l:List Int}{C:Hp}(h:aO T kd v l C){K:zV->Prop}(hk:K (.int .i64 l.length)):bY v K:=ay.c6 h (by simpa using hk)
theorem aO.ints{T:TypeId}{kd:IntKind}{v:zV}{l:List Int}{C:Hp}(h:aO T kd v l C):e7 kd C v l:=Sl.dV h zD
theorem aO.app{T:TypeId}{kd:IntKind}{v:zV}{l:List Int}{C A B:Hp}{bytes:Nat}(h:aO T kd v l C){xb xc:Nat}{x:Int}{xT:TypeId}{fz:Nat×Nat}(hx:(xb,Obj.cells (aq kd [x]) xT fz)∈A++(C++B))
 (hb:(l.length+1)*bytes<=140737488355328)(hm:l.length+1<=9223372036854775807){K:zV->Hp->Prop}(hk:∀v' C',aO T kd v' (l++[x]) C'->K v' (A++(C'++B))):App P T 1 bytes (.int kd 0) (A++(C++B)) v (.slice (some ⟨xb,0,none⟩) 1 xc) K:=
 ay.DG (r:=[.int kd x]) h hx rfl (by simp[Value.oneCell']) ⟨[.int kd 0],rfl,rfl⟩ (by simpa using hb) (by simpa using hm) λv' C' ho=>hk v' C' (by unfold aO;simpa using ho)
theorem aO.apps{T:TypeId}{kd:IntKind}{v x:zV}{l l2:List Int}{C A B:Hp}{bytes:Nat}(h:aO T kd v l C)(hx:e7 kd (A++(C++B)) x l2)
 (hb:(l.length+l2.length)*bytes<=140737488355328)(hm:l.length+l2.length<=9223372036854775807){K:zV->Hp->Prop}(hk:∀v' C',aO T kd v' (l++l2) C'->K v' (A++(C'++B))):App P T 1 bytes (.int kd 0) (A++(C++B)) v x K:=by
 obtain⟨a,cap,rfl,hc⟩:=Sl.cells hx;exact ay.apps h hc zI (by simp[Value.oneCell']) ⟨[.int kd 0],rfl,rfl⟩ (by simpa using hb) (by simpa using hm) λv' C' ho=>hk v' C' (by unfold aO;rw[xaz];exact ho)
theorem ak.Hg{t e:Nat}{kd:IntKind}{x y z:Int}{K:zV->Hp->Prop}(h1:P.underlying t=some (.slice e))(h2:bU P e=some 1)(h3:da P e=some (.int kd 0))
 (h:∀b,K (.slice (some ⟨b,0,Option.none⟩) 3 3) ((b,.cells (aq kd [x,y,z]) e zZ)::H)):ak P t 3 [(0,.int kd x),(1,.int kd y),(2,.int kd z)] H K:=by
 refine⟨aq kd [x,y,z],e,1,_,h1,h2,h3,by decide,?_,λb _=>h b⟩;have e1:Array.range (3*1)=#[0,1,2]:=rfl;simp[Instr.fill,Value.cells,aq,e1]
end
end Go.Sx
namespace Go.Sx
open Go
section
variable {P:Program}
theorem rL{e:TypeId}{i:TypeInfo}(hi:P.info? e=some i)(hs:i.size=1):P.cellsOf e=1:=by simp[Program.cellsOf,hi,hs]
theorem jy{e:TypeId}{q:IntKind}(hu:P.underlying e=some (.int q)){l:List Int}{j:Nat}{x:Int}(h:l[j]? =some x)(w:World):(part e (aq q l) j).run P w=.ok (.int q x) w:=by
 simp[part,isAgg,run_underlying hu,aq,h]
theorem jK{e:TypeId}{q:IntKind}(hu:P.underlying e=some (.int q))(hc:P.cellsOf e=1)(d:Nat)(l l':List Int)(w:World):∀is:zL,(∀i∈is,i<l.length/\i<l'.length)->
  (Op.eqItems (d+1) e (P.cellsOf e) (aq q l) (aq q l') is).run P w=.ok (is.all λi=>l[i]? ==l'[i]?) w
 | [],_=>by simp[Op.eqItems]
 |i::is,h=>by
  obtain⟨h1,h2⟩:=h i zI;have g1:l[i]? =some l[i]:=xad h1;have g2:l'[i]? =some l'[i]:=xad h2;have p1:=jy (P:=P) hu g1 w;have p2:=jy (P:=P) hu g2 w;have p3:(Op.equalIn (d+1) e (.int q l[i]) (.int q l'[i])).run P w=.ok (l[i]==l'[i]) w:=by
   simp only[Op.equalIn,Sem.run_bind,run_underlying hu,Result.andThen_ok,xaS,Sem.run_pure]
  have ih:=jK hu hc d l l' w is λj hj=>h j (by simp[hj]);simp only[Op.eqItems,hc,xb0,Sem.run_bind,p1,p2,p3,Result.andThen_ok]at ih⊢;rw[List.all_cons,g1,g2];cases hb:(l[i]==l'[i])
  ·simp[hb]
  simp[hb,ih]
theorem vY.array{t e:TypeId}{q:IntKind}{n:Nat}(ht:P.underlying t=some (.array n e))(hu:P.underlying e=some (.int q))(hz:bU P e=some 1)(l l':List Int)(h1:l.length=n)(h2:l'.length=n):
  vY P t (.agg (aq q l)) (.agg (aq q l')) (decide (l=l')):=by
 obtain⟨i,hi,hs⟩:=aG hz;have hc:=rL hi hs;intro w;show(Op.equalIn (9998+1+1) t _ _).run P w=_;rw[run_equalIn_array w (9998+1) _ _ ht hi,jK hu hc 9998 l l' w _ (λj hj=>by have:=xaP.1 hj;omega)];congr 1;rw[xcy];simp only[xb2,xaP,xaD,xcn];constructor
 ·intro h;apply xbM;intro j;by_cases hj:j<n
  ·exact h j hj
  rw[xaM zO,xaM zO]
 rintro rfl j _;rfl
theorem jl.array{t e:TypeId}{q:IntKind}{n:Nat}(ht:P.underlying t=some (.array n e))(hu:P.underlying e=some (.int q))(hz:bU P e=some 1)(l:List Int)(h1:l.length=n):jl P t (.agg (aq q l)):=by
 obtain⟨i,hi,hs⟩:=aG hz;intro b w;have gen:∀d,(Instr.checkKey b (d+1+1) t (.agg (aq q l))).run P w=.ok () w:=by
  intro d;have p2:∀x:Int,(Instr.checkKey b (d+1) e (.int q x)).run P w=.ok () w:=λx=>by
   simp only[Instr.checkKey,Sem.run_bind,run_underlying hu,Result.andThen_ok,Sem.run_pure]
  unfold Instr.checkKey;simp only[Sem.run_bind,run_underlying ht,Result.andThen_ok];simp only[Std.Legacy.Range.forIn_eq_forIn_range',Std.Legacy.Range.size,xc3,Nat.add_one_sub_one,Nat.div_one];have key:∀is:zL,(∀j∈is,j<l.length)->(forIn is PUnit.unit λj (_:PUnit)=>(do
     Instr.checkKey b (d+1) e (<-part e (aq q l) (j*(<-sizeOf e)))
     pure (ForInStep.yield PUnit.unit):Sem (ForInStep PUnit))).run P w=.ok PUnit.unit w:=by
   intro is;induction is with
   |nil=>intro _;simp
   |cons j is ih=>
    intro h;have p1:=jy (P:=P) hu (xad (h j zI)) w;simp only[xdA,Sem.run_bind,run_sizeOf hi,Result.andThen_ok,hs,xb0,p1,p2,Sem.run_pure];exact ih λk hk=>h k (by simp[hk])
  have:=key (List.range' 0 n) (λj hj=>by have:=List.mem_range'_1.1 hj;omega);rw[this];rfl
 exact gen 9998
end
end Go.Sx
namespace Go.Sx
open Go
section
variable {P:Program} {g:Gh} {H:Hp}
def nt(P:Program)(t:TypeId)(x y:zV):Prop:=
 (∃q a b,P.underlying t=some (.int q)/\x=.int q a/\y=.int q b)\/(∃a b,P.underlying t=some .bool/\x=.bool a/\y=.bool b)
theorem nt.eq{t:TypeId}{x y:zV}(h:nt P t x y)(d:Nat)(w:World):∃b,(Op.equalIn (d+1) t x y).run P w=.ok b w/\(b=true↔x=y):=by
 rcases h with⟨q,a,b,hu,rfl,rfl⟩|⟨a,b,hu,rfl,rfl⟩
 ·exact⟨a==b,by simp[Op.equalIn,run_underlying hu],by simp⟩
 exact⟨a==b,by simp[Op.equalIn,run_underlying hu],by simp⟩
theorem iY{t:TypeId}{xs:Array zV}{o:Nat}{x:zV}(hu:(∃q,P.underlying t=some (.int q))\/P.underlying t=some .bool)(h:xs[o]? =some x)(w:World):(part t xs o).run P w=.ok x w:=by
 rcases hu with⟨q,hu⟩|hu<;>simp[part,isAgg,run_underlying hu,h]
theorem iM(d:Nat)(xs ys:Array zV)(w:World):∀fs:List Field,(∀f∈fs,f.name≠ "_" /\∃x y,xs[f.offset]? =some x/\ys[f.offset]? =some y/\nt P f.type x y)->
  ∃b,(Op.eqFields (d+1) xs ys fs).run P w=.ok b w/\(b=true↔∀f∈fs,xs[f.offset]? =ys[f.offset]?)
 | [],_=>⟨true,by simp[Op.eqFields],by simp⟩
 |f::fs,h=>by
  obtain⟨hn,x,y,hx,hy,hp⟩:=h f zI;obtain⟨b',ih,hb'⟩:=iM d xs ys w fs λg hg=>h g (by simp[hg]);have hu:(∃q,P.underlying f.type=some (.int q))\/P.underlying f.type=some .bool:=by
   rcases hp with⟨q,_,_,hu,_⟩|⟨_,_,hu,_⟩
   ·exact .inl ⟨q,hu⟩
   exact .inr hu
  obtain⟨b,hr,hb⟩:=hp.eq d w;have p1:=iY hu hx w;have p2:=iY hu hy w;cases b with
  |false=>
   refine⟨false,by simp[Op.eqFields,hn,p1,p2,hr],?_⟩;simp only[xas,xaf,forall_eq_or_imp,false_iff,hx,hy,xao];exact λhh=>absurd (hb.2 hh.1) zD
  |true=>
   refine⟨b',by simp[Op.eqFields,hn,p1,p2,hr,ih],?_⟩;rw[hb'];simp only[xaf,forall_eq_or_imp,hx,hy,xao,hb.1 rfl,xdi]
theorem vY.flat{t:TypeId}{fs:Array Field}(ht:P.underlying t=some (.struct fs))(hp:P.stoodInHeld t=false){xs ys:Array zV}{p:Prop}[Decidable p]
 (h:∀f∈fs.toList,f.name≠ "_" /\∃x y,xs[f.offset]? =some x/\ys[f.offset]? =some y/\nt P f.type x y)(he:(∀f∈fs.toList,xs[f.offset]? =ys[f.offset]?)↔p):vY P t (.agg xs) (.agg ys) (decide p):=by
 have e:P.fieldsOf t=fs:=by simp[Program.fieldsOf,ht]
 intro w;show(Op.equalIn (9998+1+1) t _ _).run P w=_;rw[run_equalIn_struct w (9998+1) t xs ys (by rw[e];exact ht) hp,e];obtain⟨b,hr,hb⟩:=iM (P:=P) 9998 xs ys w fs.toList h;rw[hr];congr 1;rw[xcy,hb,he,xaD]
theorem jl.flat{t:TypeId}{fs:Array Field}(ht:P.underlying t=some (.struct fs)){xs:Array zV}
 (h:∀f∈fs.toList,f.name≠ "_" /\∃x,xs[f.offset]? =some x/\nt P f.type x x):jl P t (.agg xs):=by
 intro b w;have gen:∀d,(Instr.checkKey b (d+1+1) t (.agg xs)).run P w=.ok () w:=by
  intro d;unfold Instr.checkKey;simp only[Sem.run_bind,run_underlying ht,Result.andThen_ok];rw[<-Array.forIn_toList];clear ht;generalize fs.toList=l at h;induction l with
  |nil=>simp
  |cons f l ih=>
   obtain⟨hn,x,hx,hp⟩:=h f zI;have hu:(∃q,P.underlying f.type=some (.int q))\/P.underlying f.type=some .bool:=by
    rcases hp with⟨q,_,_,hu,_⟩|⟨_,_,hu,_⟩
    ·exact .inl ⟨q,hu⟩
    exact .inr hu
   have p1:=iY hu hx w;have p2:(Instr.checkKey b (d+1) f.type x).run P w=.ok () w:=by
    rcases hp with⟨q,a,_,hu,rfl,_⟩|⟨a,_,hu,rfl,_⟩
    ·simp only[Instr.checkKey,Sem.run_bind,run_underlying hu,Result.andThen_ok,Sem.run_pure]
    simp only[Instr.checkKey,Sem.run_bind,run_underlying hu,Result.andThen_ok,Sem.run_pure]
   have:=ih λg hg=>h g (by simp[hg]);simp only[xdA,Sem.run_bind];simp[hn,p1,p2];simpa using this
 exact gen 9998
theorem iD(n:Nat){xs:Array zV}(h:∀x∈xs.toList,(∃q a,x=.int q a)\/∃a,x=.bool a):Instr.sameBits (n+1+1) (.agg xs) (.agg xs)=true:=by
 simp only[Instr.sameBits,beq_self_eq_true,xcr,xb2];intro x hx;obtain⟨a,b⟩:=x;have h1:=List.of_mem_zip hx;have e:a=b:=by
  obtain⟨i,hi,he⟩:=xdc.1 hx;simp at he;exact he.1.symm.trans he.2
 subst e;rcases h a h1.1 with⟨q,z,rfl⟩|⟨z,rfl⟩<;>simp[Instr.sameBits]
end
section
variable {κ:Type} [DecidableEq κ] {β:Type} {ke:κ->zV} {vr:zV->β->Prop} {es:Array MapEntry} {ck b:Nat} {m:List (κ×β)} {P:Program} {H:Hp}
def nV(m:List (κ×β))(k:κ):List (κ×β):=m.filter λy=>¬y.1=k
theorem oC{k k':κ}:aN (nV m k) k'=if k'=k then none else aN m k':=by
 unfold aN nV;rw[List.find?_filter];by_cases e:k'=k
 ·rw[xae e];rw[xdp.2]
  ·rfl
  intro x _;simp;intro h1 h2;exact h1 (h2.trans e)
 rw[xab e];congr 1;congr 1
 funext y
 by_cases e2:y.1=k'
 ·have:¬y.1=k:=λe3=>e (e2.symm.trans e3);simp[e2,this,e]
 simp[e2]
theorem bA{k k':κ}{x:β}:aN (bQ m k x) k'=if k'=k then some x else aN m k':=by
 unfold aN bQ;by_cases hk:k∈m.map Prod.fst
 ·rw[xae hk];by_cases e:k'=k
  ·subst e;rw[xae rfl];induction m with
   |nil=>simp at hk
   |cons y m ih=>
    rw[xaC,xbz];by_cases ey:y.1=k'
    ·simp[ey]
    rw[xab ey];simp only[ey,xc2];rw[ih];rw[xaC]at hk;rcases xaf.1 hk with h|h
    ·exact absurd h.symm ey
    simpa using h
  rw[xab e];have:∀l:List (κ×β),(List.find? (λy=>decide (y.1=k')) (l.map λy=>if y.1=k then(k,x)else y)).map Prod.snd=(List.find? (λy=>decide (y.1=k')) l).map Prod.snd:=by
   intro l;induction l with
   |nil=>rfl
   |cons y l ih=>
    rw[xaC,xbz,xbz];by_cases ey:y.1=k
    ·have h1:decide (k=k')=false:=by simpa using λh=>e h.symm
     have h2:decide (y.1=k')=false:=by rw[ey];exact h1
     simp only[xae ey,h1,h2];exact ih
    simp only[xab ey];cases decide (y.1=k')with
    |true=>rfl
    |false=>exact ih
  exact this m
 rw[xab hk];rw[List.find?_append];by_cases e:k'=k
 ·subst e;have:List.find? (λy=>decide (y.1=k')) m=none:=by
   rw[xdp];intro y hy;simp;intro h;exact hk (xan.2 ⟨y,hy,h⟩)
  simp[this]
 have:¬k=k':=λh=>e h.symm;rw[xab e];cases List.find? (λy=>decide (y.1=k')) m<;>simp[this]
theorem sq(nd:(m.map Prod.fst).Nodup){i:Nat}{k:κ}{y:β}(hi:m[i]? =some (k,y)):nV m k=m.eraseIdx i:=by
 unfold nV;induction m generalizing i with
 |nil=>simp at hi
 |cons z m ih=>
  rw[xaC,xaT]at nd;cases i with
  |zero=>
   simp at hi;subst hi;rw[List.eraseIdx_cons_zero,List.filter_cons_of_neg zI];rw[List.filter_eq_self];intro w hw;simp only[decide_not,xbj,xaU];intro e;exact nd.1 (xan.2 ⟨w,hw,e⟩)
  |succ i=>
   simp at hi;have hz:¬z.1=k:=λe=>nd.1 (xan.2 ⟨_,xaJ hi,e.symm⟩);rw[List.eraseIdx_cons_succ,List.filter_cons_of_pos (by simpa using hz),ih nd.2 hi]
omit [DecidableEq κ] in
theorem bh.less(h:bh ke vr es ck m)(i:Nat):bh ke vr (es.eraseIdxIfInBounds i) ck (m.eraseIdx i):=by
 have hl:(es.eraseIdxIfInBounds i).toList=es.toList.eraseIdx i:=by
  unfold Array.eraseIdxIfInBounds;split
  ·simp
  rename_i hh;rw[List.eraseIdx_of_length_le (by simpa using hh)]
 refine⟨?_,λj e x he hx=>?_,?_,?_,λe he=>?_⟩
 ·have:=xb1 List.length hl;rw[xbP,List.length_eraseIdx]at this;rw[this,List.length_eraseIdx,xbP,h.len]
 ·rw[<-xbc,hl,List.getElem?_eraseIdx]at he;rw[List.getElem?_eraseIdx]at hx;split at he
  ·rename_i hh;rw[xae hh]at hx;exact h.key j e x (by simpa using he) hx
  rename_i hh;rw[xab hh]at hx;exact h.key (j+1) e x (by simpa using he) hx
 ·rw[<-gg];exact h.nd.sublist (List.eraseIdx_sublist _ _)
 ·rw[hl,<-gg];exact h.born.sublist (List.eraseIdx_sublist _ _)
 rw[hl]at he;exact h.lt e (List.mem_of_mem_eraseIdx he)
theorem bh.Lp{P:Program}{kt:TypeId}{k:κ}{K:Hp->Prop}(hk:∀a b,vY P kt (ke a) (ke b) (decide (a=b)))(hc:∀a,jl P kt (ke a))(h:bh ke vr es ck m)(hm:(b,Obj.map es ck)∈H)
 (h1:∀es',bh ke vr es' ck (nV m k)->∃H',cm b (.map es ck) (.map es' ck) H H'/\K H'):jT P kt H (.map (some b)) (ke k) K:=by
 refine⟨hc k,.inr ?_⟩;rcases h.vG hk k with⟨i,y,e,g1,g2,g3,g4⟩|⟨g1,g2⟩
 ·refine⟨b,es,ck,_,rfl,g4,?_⟩;have:=h.less i;rw[<-sq h.nd g2]at this;exact h1 _ this
 refine⟨b,es,ck,_,rfl,g2,hm,?_⟩;have e:nV m k=m:=by
  unfold nV;rw[List.filter_eq_self];intro w hw;simp only[decide_not,xbj,xaU];intro e;exact g1 (xan.2 ⟨w,hw,e⟩)
 obtain⟨H',hu,hK⟩:=h1 es (by rw[e];exact h);have:∀{H H':Hp},cm b (.map es ck) (.map es ck) H H'->H'=H:=by
  intro H H' hu;generalize ho:Obj.map es ck=o at hu;induction hu with
  |head R=>rfl
  |tail _ ih=>rw[ih]
 rw[this hu]at hK;exact hK
end
section
variable {P:Program} {H:Hp}
theorem ay.u7{T:TypeId}{k:Nat}{v:zV}{rs:List (List zV)}{C:Hp}(hs:ay T k v rs C){i:Nat}{kd:IntKind}{r:List zV}(hr:rs[i]? =some r)(hC:∀y∈C,y∈H){K:zV->Prop}(hk:K (.agg r.toArray)):
  ai k v (.int kd (i:Int)) λp=>az k H p K:=by
 have hi:=(xag.1 hr).1;obtain⟨b',aF,rfl,rfl,aL⟩:=hs.pos zO;exact ai.nat hi (az.row (hC _ (List.Mem.head _)) aL (by rw[xaQ hi];exact hr) hk)
theorem ay.EV{T:TypeId}{k:Nat}{v x:zV}{rs:List (List zV)}{C:Hp}(hs:ay T k v rs C){i j:Nat}{kd:IntKind}{r:List zV}(hr:rs[i]? =some r)(hj:r[j]? =some x)(hC:∀y∈C,y∈H){K:zV->Prop}(hk:K x):
  ai k v (.int kd (i:Int)) λp=>ag j p λq=>Ld H q K:=by
 have hi:=(xag.1 hr).1;obtain⟨b',aF,rfl,rfl,aL⟩:=hs.pos zO;exact ai.nat hi (ag.mk (Ld.row (hC _ (List.Mem.head _)) aL (by rw[xaQ hi];exact hr) hj hk))
theorem ay.F6{T:TypeId}{v x:zV}{rs:List (List zV)}{C:Hp}(hs:ay T 1 v rs C){i:Nat}{kd:IntKind}(hr:rs[i]? =some [x])(hC:∀y∈C,y∈H){K:zV->Prop}(hk:K x):
  ai 1 v (.int kd (i:Int)) λp=>Ld H p K:=by
 have hi:=(xag.1 hr).1;obtain⟨b',aF,rfl,rfl,aL⟩:=hs.pos zO;exact ai.nat hi (Ld.GQ (l:=rs++aF) (hC _ (List.Mem.head _)) aL (by rw[xaQ hi];exact hr) hk)
theorem ay.EU{T:TypeId}{k n:Nat}{v:zV}{rs:List (List zV)}{C:Hp}(hs:ay T k v rs C){i:Nat}{kd:IntKind}{r:List zV}(hr:rs[i]? =some r)(hn:0<n/\n<=k)(hC:∀y∈C,y∈H){K:zV->Prop}(hk:K (.agg (r.take n).toArray)):
  ai k v (.int kd (i:Int)) λp=>ag 0 p λq=>az n H q K:=by
 have hi:=(xag.1 hr).1;obtain⟨b',aF,rfl,rfl,aL⟩:=hs.pos zO;have PD:r.length=k:=aL r (xac _ (xaJ hr));refine ai.nat hi (ag.mk ?_);have Oi:At H (.pointer (some ⟨b',0+i*k+0,none⟩)) (r.take n):=⟨b',_,_,_,_,rfl,hC _ (List.Mem.head _),λj x hj=>by
  have Fi:j<n:=by have:=(xag.1 hj).1;simp at this;omega
  rw[List.getElem?_take,xae Fi]at hj;rw[xci,xa1,dK aL zO,xaQ hi,hr];exact hj⟩
 exact az.at Oi zP hn.1 (λ_ h=>h) hk
theorem ay.zo{T:TypeId}{k:Nat}{v:zV}{rs:List (List zV)}{C A B:Hp}(hs:ay T k v rs C){i:Nat}{kd:IntKind}{xs:List zV}(hi:i<rs.length)(hx:xs.length=k)(h1:∀x∈xs,x.oneCell'=true){K:Hp->Prop}
 (hk:∀C',ay T k v (rs.set i xs) C'->K (A++(C'++B))):ai k v (.int kd (i:Int)) λp=>St k (A++(C++B)) p (.agg xs.toArray) K:=by
 obtain⟨b',aF,rfl,rfl,aL⟩:=hs.pos zO;refine ai.nat hi (St.row (l:=rs++aF) (((cm.head _).append B).ax A) aL zP hx h1 ?_);have e:(rs++aF).set i xs=rs.set i xs++aF:=by rw[xdb _ _ hi]
 rw[e];refine hk [(b',_)] (ay.mk' (aF:=aF) (λy hy=>?_) zI zI);rcases xaw.1 hy with hy|hy
 ·rcases xcx hy with hy|rfl
  ·exact aL y (xac _ hy)
  exact hx
 exact aL y (xaa _ hy)
theorem aO.ld{T:TypeId}{kd qU:IntKind}{v:zV}{l:List Int}{C:Hp}(hs:aO T kd v l C){i:Nat}{x:Int}(hx:l[i]? =some x)(hC:∀y∈C,y∈H){K:zV->Prop}(hk:K (.int kd x)):ai 1 v (.int qU (i:Int)) λp=>Ld H p K:=
 ay.F6 hs (x:=.int kd x) (by simp[hx]) hC hk
theorem aO.put{T:TypeId}{kd qU:IntKind}{v:zV}{l:List Int}{C A B:Hp}(hs:aO T kd v l C){i:Nat}{x:Int}(hi:i<l.length){K:Hp->Prop}
 (hk:∀C',aO T kd v (l.set i x) C'->K (A++(C'++B))):ai 1 v (.int qU (i:Int)) λp=>St 1 (A++(C++B)) p (.int kd x) K:=by
 have hi':i<(l.map λn=>[Value.int kd n]).length:=by simpa using hi
 obtain⟨b',aF,rfl,rfl,aL⟩:=ay.pos hs zO;refine ai.nat hi' ?_;refine St.cell (l:=l.map (λn=>[Value.int kd n])++aF) (i:=i) (k:=1) (j:=0) (r:=[.int kd l[i]]) (((cm.head _).append B).ax A) aL (by rw[xaQ hi'];simp[hi]) zO rfl ?_;have e:(l.map (λn=>[Value.int kd n])++aF).set i ([Value.int kd l[i]].set 0 (.int kd x))=(l.set i x).map (λn=>[Value.int kd n])++aF:=by
  rw[xdb _ _ hi',xda];rfl
 rw[e];refine hk [(b',_)] (ay.mk' (aF:=aF) (λr hr'=>?_) zI zI);rcases xaw.1 hr' with hr'|hr'
 ·obtain⟨y,_,rfl⟩:=xan.1 hr';rfl
 exact aL r (xaa _ hr')
theorem aM.nil{H:Hp}:aM H []:=λ_ _ h=>h.fi
theorem ay.cut{T:TypeId}{k i:Nat}{v:zV}{rs:List (List zV)}{C:Hp}(hs:ay T k v rs C)(hi:i<=rs.length){kd:IntKind}{K:zV->Prop}(hk:∀v',ay T k v' (rs.take i) C->K v'):
  cF k v none (some (.int kd (i:Int))) K:=by
 by_cases hp:0<rs.length
 ·obtain⟨b',aF,rfl,rfl,aL⟩:=hs.pos hp;refine cF.upto zO (hk _ ?_);have e:rs++aF=rs.take i++(rs.drop i++aF):=by rw[<-xau,xcW]
  rw[e]at aL⊢;exact ay.mk' aL zP zP
 obtain rfl:rs=[]:=xbO zO;obtain rfl:i=0:=by simpa using hi
 obtain⟨a,c,rfl⟩:=hs.len;exact cF.upto (xaE _) (hk _ (by simpa using hs))
theorem aO.cut{T:TypeId}{kd qU:IntKind}{i:Nat}{v:zV}{l:List Int}{C:Hp}(hs:aO T kd v l C)(hi:i<=l.length){K:zV->Prop}(hk:∀v',aO T kd v' (l.take i) C->K v'):
  cF 1 v none (some (.int qU (i:Int))) K:=
 ay.cut hs (by simpa using hi) λv' h=>hk v' (by unfold aO;rw[List.map_take];exact h)
end
end Go.Sx
