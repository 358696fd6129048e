import Derived.WalkKit
import Derived.Still
import Derived.KernelRfl
import Derived.Deep.Quiet
import Derived.OrdersHeld
import Derived.ProofKit
import Derived.OpenShut
import Derived.Below
import Derived.ChangeKeysEq
set_option linter.unusedVariables false
set_option linter.unusedSimpArgs false
set_option linter.unusedSectionVars false
theorem zM{α:Type _}{x:α}{l:List α}(h:x∈l:=by repeat (first|assumption|exact List.Mem.head _|apply List.Mem.tail|apply List.mem_append_right)):x∈l:=h
theorem zS{α:Type _}{A B:List α}(h:∀x∈A,x∈B:=by intro _ h;repeat (first|exact h|apply List.mem_cons_of_mem|apply List.mem_append_right)):∀x∈A,x∈B:=h
theorem zO{p:Prop}(h:p:=by omega):p:=h
theorem zI{p:Prop}(h:p:=by simp):p:=h
theorem zD{p:Prop}(h:p:=by decide):p:=h
theorem zK{p:Prop}(h:p:=by kernel_rfl):p:=h
theorem zP{p:Prop}(h:p:=by simp;omega):p:=h
theorem zC{p:Prop}(h:p:=by intro c h;cases h):p:=h
abbrev zL:=List Nat
abbrev zV:=Go.Value
abbrev zZ:Nat×Nat:=(0,0)
set_option linter.defProp false
def xaa:=@List.mem_append_right
def xab:=@List.getElem?_eq_getElem
def xac:=@List.mem_append_left
def xad:=@if_neg
def xae:=@if_pos
def xaf:=@List.mem_cons
def xag:=@List.getElem?_eq_some_iff
def xah:=@List.getD_eq_getElem?_getD
def xai:=@List.length_append
def xaj:=@List.append_assoc
def xak:=@Nat.le_refl
def xal:=@List.mem_append
def xam:=@cond_false
def xan:=@Array.getD_eq_getD_getElem?
def xao:=@List.not_mem_nil
def xap:=@Option.some.injEq
def xaq:=@List.mem_map
def xar:=@List.length_cons
def xas:=@decide_eq_false
def xat:=@List.getElem?_map
def xau:=@List.cons.injEq
def xav:=@Nat.pow_le_pow_right
def xaw:=@cond_true
def xax:=@List.mem_of_getElem?
def xay:=@Bool.and_eq_true
def xaz:=@List.length_map
def xaA:=@decide_eq_true
def xaB:=@List.getElem_mem
def xaC:=@Nat.eq_of_beq_eq_true
def xaD:=@Bool.or_eq_false_iff
def xaE:=@Bool.false_eq_true
def xaF:=@List.getElem?_eq_none
def xaG:=@List.map_append
def xaH:=@List.getElem?_append_left
def xaI:=@Classical.byContradiction
def xaJ:=@Array.getElem?_eq_some_iff
def xaK:=@Nat.zero_le
def xaL:=@List.mem_singleton
def xaM:=@List.map_cons
def xaN:=@List.cons_append
def xaO:=@decide_eq_true_eq
def xaP:=@List.append_nil
def xaQ:=@or_false
def xaR:=@Nat.lt_of_le_of_lt
def xaS:=@if_false
def xaT:=@List.length_range
def xaU:=@List.getElem?_append_right
def xaV:=@List.mem_range
def xaW:=@List.nil_append
def xaX:=@List.count_append
def xaY:=@and_true
def xaZ:=@Nat.mod_lt
def xa0:=@if_true
def xa1:=@Nat.zero_add
def xa2:=@Nat.lt_of_lt_of_le
def xa3:=@Nat.eq_of_testBit_eq
def xa4:=@Nat.mul_le_mul_right
def xa5:=@Nat.testBit_mod_two_pow
def xa6:=@List.perm_middle
def xa7:=@List.take_succ_eq_append_getElem
def xa8:=@List.drop_eq_getElem_cons
def xa9:=@Nat.shiftRight_eq_div_pow
def xba:=@Array.getElem?_toList
def xbb:=@List.nodup_append
def xbc:=@Nat.one_shiftLeft
def xbd:=@List.nodup_cons
def xbe:=@List.length_nil
def xbf:=@List.mem_map_of_mem
def xbg:=@List.mem_iff_getElem
def xbh:=@List.take_length
def xbi:=@List.perm_append_comm
def xbj:=@Array.getElem?_setIfInBounds_ne
def xbk:=@List.take_append_drop
def xbl:=@decide_eq_false_iff_not
def xbm:=@Array.getElem?_eq_getElem
def xbn:=@Option.map_some
def xbo:=@List.ext_getElem?
def xbp:=@Ne.symm
def xbq:=@List.mem_cons_self
def xbr:=@Nat.succ_mul
def xbs:=@Array.getElem?_modify
def xbt:=@Option.some.inj
def xbu:=@List.flatten_append
def xbv:=@Nat.mod_eq_of_lt
def xbw:=@List.length_take
def xbx:=@Bool.not_eq_true'
def xby:=@List.take_add_one
def xbz:=@List.mem_cons_of_mem
def xbA:=@List.getElem?_set_ne
def xbB:=@List.count_singleton
def xbC:=@Nat.testBit_shiftRight
def xbD:=@List.getElem?_set_self
def xbE:=@Nat.one_le_two_pow
def xbF:=@Array.getElem?_setIfInBounds_self_of_lt
def xbG:=@List.length_set
def xbH:=@List.Perm.append_left
def xbI:=@Nat.testBit_and
def xbJ:=@Nat.testBit_lt_two_pow
def xbK:=@of_decide_eq_true
def xbL:=@congrArg
def xbM:=@List.eq_of_mem_replicate
def xbN:=@Nat.le_trans
def xbO:=@Bool.decide_or
def xbP:=@List.length_singleton
def xbQ:=@Nat.add_sub_cancel
def xbR:=@List.getElem?_cons_zero
def xbS:=@Nat.add_zero
def xbT:=@Nat.sub_self
def xbU:=@List.getElem?_set
def xbV:=@List.map_congr_left
def xbW:=@Array.length_toList
def xbX:=@Bool.or_eq_true
def xbY:=@Nat.le_of_ble_eq_true
def xbZ:=@List.set_append_right
def xb0:=@Array.getElem?_setIfInBounds
def xb1:=@true_and
def xb2:=@List.pairwise_map
def xb3:=@Nat.and_le_left
def xb4:=@Nat.two_pow_pos
def xb5:=@Nat.testBit_two_pow
def xb6:=@Nat.mul_one
def xb7:=@Array.getElem?_eq_none
def xb8:=@Nat.le_of_lt
def xb9:=@Nat.mul_comm
def xca:=@List.any_eq_true
def xcb:=@List.filter_cons
def xcc:=@Nat.zero_testBit
def xcd:=@List.getElem?_toArray
def xce:=@List.count_pos_iff
def xcf:=@List.mem_or_eq_of_mem_set
def xcg:=@Nat.not_lt_zero
def xch:=@Nat.min_eq_left
def xci:=@List.mem_of_mem_take
def xcj:=@List.mem_filter
def xck:=@List.count_cons
def xcl:=@List.flatten_cons
def xcm:=@Nat.succ_le_of_lt
def xcn:=@Nat.or_lt_two_pow
def xco:=@Int.toNat_natCast
def xcp:=@Nat.shiftRight_le
def xcq:=@List.eq_nil_of_length_eq_zero
def xcr:=@List.length_eq_zero_iff
def xcs:=@List.nodup_range
def xct:=@List.length_drop
def xcu:=@List.map_nil
def xcv:=@List.set_cons_zero
def xcw:=@Nat.testBit_two_pow_sub_one
def xcx:=@List.map_map
def xcy:=@List.filter_append
def xcz:=@List.length_replicate
def xcA:=@Bool.eq_iff_iff
def xcB:=@Classical.choose_spec
def xcC:=@List.range_succ
def xcD:=@List.size_toArray
def xcE:=@Array.toArray_toList
def xcF:=@Array.mem_toList_iff
def xcG:=@Nat.pow_lt_pow_right
def xcH:=@List.set_append_left
def xcI:=@List.set_eq_take_append_cons_drop
def xcJ:=@Nat.testBit_or
def xcK:=@Nat.mul_le_mul
def xcL:=@Array.getElem?_replicate
def xcM:=@Nat.le_of_not_lt
def xcN:=@Nat.and_le_right
def xcO:=@List.replicate_succ
def xcP:=@List.getElem?_range
def xcQ:=@List.perm_iff_count
def xcR:=@Prod.mk.injEq
def xcS:=@Array.empty_append
def xcT:=@List.append_of_mem
def xcU:=@Int.natCast_nonneg
def xcV:=@Option.isSome_none
def xcW:=@Option.map_none
def xcX:=@Array.getElem?_extract
def xcY:=@List.filter_eq_nil_iff
def xcZ:=@List.take_of_length_le
def xc0:=@Nat.lt_trichotomy
def xc1:=@Nat.add_comm
def xc2:=@List.length_filter_le
def xc3:=@List.dropLast_concat_getLast
def xc4:=@Nat.pow_succ
def xc5:=@beq_iff_eq
def xc6:=@List.all_eq_true
def xc7:=@Array.ext'
def xc8:=@Nat.shiftLeft_eq
def xc9:=@List.drop_length
def xda:=@List.count_le_length
def xdb:=@Iff.rfl
def xdc:=@Array.getElem?_push
def xdd:=@List.filter_eq_self
def xde:=@Decidable.byContradiction
def xdf:=@List.take_left'
def xdg:=@Array.append_empty
def xdh:=@Nat.lt_or_ge
def xdi:=@Nat.sub_zero
def xdj:=@List.map_set
def xdk:=@Option.isSome_iff_exists
def xdl:=@Nat.lt_succ_iff_lt_or_eq
def xdm:=@Nat.shiftRight_add
def xdn:=@List.take_left
def xdo:=@List.count_nil
def xdp:=@List.getElem?_replicate
def xdq:=@Array.getElem?_setIfInBounds_self
def xdr:=@List.drop_eq_nil_of_le
def xds:=@Option.map_eq_some_iff
def xdt:=@Nat.add_assoc
def xdu:=@Bool.true_and
def xdv:=@Array.toList_map
def xdw:=@Nat.div_eq_of_lt
def xdx:=@List.drop_append
def xdy:=@Nat.testBit_eq_decide_div_mod_eq
def xdz:=@Array.getElem?_append
def xdA:=@Nat.testBit_shiftLeft
def xdB:=@List.getElem?_append
def xdC:=@Nat.div_lt_of_lt_mul
def xdD:=@List.foldl_cons
def xdE:=@Nat.and_two_pow_sub_one_eq_mod
def xdF:=@List.find?_cons
def xdG:=@Bool.decide_and
def xdH:=@List.toList_toArray
def xdI:=@List.length_pos_iff
def xdJ:=@List.mapM_cons
def xdK:=@Nat.testBit_two_pow_sub_succ
def xdL:=@Nat.pow_add
def xdM:=@Nat.and_one_is_mod
def xdN:=@List.find?_eq_none
def xdO:=@List.count_eq_zero
def xdP:=@Bool.or_false
def xdQ:=@Bool.and_true
def xdR:=@Array.toList_push
def xdS:=@List.flatMap_cons
def xdT:=@List.take_sublist
def xdU:=@dif_pos
def xdV:=@Array.mem_filter
def xdW:=@Option.bind_some
def xdX:=@List.take_append
def xdY:=@Nat.min_eq_right
def xdZ:=@decide_eq_decide
def xd0:=@Array.map_empty
def xd1:=@List.forIn_cons
def xd2:=@Nat.div_add_mod
def xd3:=@Int.natCast_inj
def xd4:=@List.of_mem_zip
def xd5:=@Nat.one_mul
def xd6:=@Nat.mod_one
abbrev zX:ByteArray:=ByteArray.mk #[0,1,2,2,3,3,3,3,4,4,4,4,4,4,4,4,5,5,5,5,5,5,5,5,5,5,5,5,5,5,5,5,6,6,6,6,6,6,6,6,6,6,6,6,6,6,6,6,6,6,6,6,6,6,6,6,6,6,6,6,6,6,6,6,7,7,7,7,7,7,7,7,7,7,7,7,7,7,7,7,7,7,7,7,7,7,7,7,7,7,7,7,7,7,7,7,7,7,7,7,7,7,7,7,7,7,7,7,7,7,7,7,7,7,7,7,7,7,7,7,7,7,7,7,7,7,7,7,8,8,8,8,8,8,8,8,8,8,8,8,8,8,8,8,8,8,8,8,8,8,8,8,8,8,8,8,8,8,8,8,8,8,8,8,8,8,8,8,8,8,8,8,8,8,8,8,8,8,8,8,8,8,8,8,8,8,8,8,8,8,8,8,8,8,8,8,8,8,8,8,8,8,8,8,8,8,8,8,8,8,8,8,8,8,8,8,8,8,8,8,8,8,8,8,8,8,8,8,8,8,8,8,8,8,8,8,8,8,8,8,8,8,8,8,8,8,8,8,8,8,8,8,8,8,8,8]
namespace Go.Sx
open Go
abbrev Hp:=List (Nat×Obj)
structure Gh where
 w:World
 fr:Hp
def Gh.add(g:Gh)(F:Hp):Gh:=⟨g.w,F++g.fr⟩
structure Own(g:Gh)(H:Hp)(w:World):Prop where
 os:w.os=g.w.os
 out:w.output=g.w.output
 tape:w.tape=g.w.tape
 nd:((H++g.fr).map Prod.fst).Nodup
 tV:∀x,x∈H++g.fr->w.heap[x.1]? =some x.2
theorem Own.has{g:Gh}{H:Hp}{w:World}(h:Own g H w)(x:Nat×Obj)(hx:x∈H):w.heap[x.1]? =some x.2:=h.tV x (xac _ hx)
theorem Own.perm{g:Gh}{H H':Hp}{w:World}(h:Own g H w)(p:H.Perm H'):Own g H' w:=
 ⟨h.os,h.out,h.tape,((p.append_right _).map _).nodup_iff.1 h.nd,λx hx=>h.tV x ((p.append_right _).mem_iff.2 hx)⟩
theorem Own.right{g:Gh}{A B:Hp}{w:World}(h:Own g (A++B) w):Own g B w:=
 ⟨h.os,h.out,h.tape,by have:=h.nd;rw[xaj,xaG]at this;exact(xbb.1 this).2.1,λx hx=>h.tV x (by rw[xaj];exact xaa _ hx)⟩
theorem Own.left{g:Gh}{A B:Hp}{w:World}(h:Own g (A++B) w):Own g A w:=Own.right (A:=B) (h.perm xbi)
theorem Own.tail{g:Gh}{x:Nat×Obj}{B:Hp}{w:World}(h:Own g (x::B) w):Own g B w:=Own.right (A:=[x]) h
theorem Own.dP{g:Gh}{A F:Hp}{w:World}:Own g (A++F) w↔Own (g.add F) A w:=by
 constructor
 ·intro h;exact⟨h.os,h.out,h.tape,by have:=h.nd;rw[xaj]at this;exact this,λx hx=>h.tV x (by rw[xaj];exact hx)⟩
 intro h;exact⟨h.os,h.out,h.tape,by have:=h.nd;rw[xaj];exact this,λx hx=>h.tV x (by rw[xaj]at hx;exact hx)⟩
def aG(H H':Hp):Prop:=∀g w,Own g H w->Own g H' w
theorem aG.refl(H:Hp):aG H H:=λ_ _ h=>h
theorem aG.trans{A B C:Hp}(h:aG A B)(h':aG B C):aG A C:=λg w x=>h' g w (h g w x)
theorem aG.perm{A B:Hp}(p:A.Perm B):aG A B:=λ_ _ h=>h.perm p
theorem aG.right{A B:Hp}:aG (A++B) B:=λ_ _ h=>h.right
theorem aG.left{A B:Hp}:aG (A++B) A:=λ_ _ h=>h.left
theorem aG.tail{x:Nat×Obj}{B:Hp}:aG (x::B) B:=λ_ _ h=>h.tail
theorem aG.frame{A B:Hp}(h:aG A B)(F:Hp):aG (A++F) (B++F):=λ_ _ o=>Own.dP.2 (h _ _ (Own.dP.1 o))
theorem aG.cM{A B:Hp}(h:aG A B)(F:Hp):aG (F++A) (F++B):=(aG.perm xbi).trans ((h.frame F).trans (.perm xbi))
inductive cT(b:Nat)(o o':Obj):Hp->Hp->Prop
 |head (R:Hp):cT b o o' ((b,o)::R) ((b,o')::R)
 |tail {x:Nat×Obj} {R R':Hp} (h:cT b o o' R R'):cT b o o' (x::R) (x::R')
theorem cT.mem{b:Nat}{o o':Obj}{H H':Hp}(h:cT b o o' H H'):(b,o)∈H:=by
 induction h with
 |head R=>simp
 |tail _ ih=>simp[ih]
theorem cT.keys{b:Nat}{o o':Obj}{H H':Hp}(h:cT b o o' H H'):H'.map Prod.fst=H.map Prod.fst:=by
 induction h with
 |head R=>simp
 |tail _ ih=>simp[ih]
theorem cT.FD{b:Nat}{o o':Obj}{H H':Hp}(h:cT b o o' H H')(nd:(H.map Prod.fst).Nodup):∀x∈H',x=(b,o')\/(x∈H/\x.1≠b):=by
 induction h with
 |head R=>
  intro x hx;rcases xaf.1 hx with rfl|hx
  ·exact .inl rfl
  refine .inr ⟨by simp[hx],λe=>?_⟩;simp only[xaM,xbd]at nd;exact nd.1 (e▸xbf hx)
 | @tail y R R' h ih=>
  intro x hx;simp only[xaM,xbd]at nd;rcases xaf.1 hx with rfl|hx
  ·refine .inr ⟨by simp,λe=>?_⟩;exact nd.1 (e▸xbf (f:=Prod.fst) h.mem)
  rcases ih nd.2 x hx with h1|h1
  ·exact .inl h1
  exact .inr ⟨by simp[h1.1],h1.2⟩
theorem cT.append{b:Nat}{o o':Obj}{C C':Hp}(h:cT b o o' C C')(B:Hp):cT b o o' (C++B) (C'++B):=by
 induction h with
 |head R=>exact .head _
 |tail _ ih=>exact .tail ih
theorem Own.bJ{g:Gh}{H H':Hp}{w w':World}{b:Nat}{o o':Obj}(h:Own g H w)(u:cT b o o' H H')
 (hos:w'.os=w.os)(hout:w'.output=w.output)(Ke:w'.tape=w.tape)
 (hb:w'.heap[b]? =some o')(hr:∀c,c≠b->w'.heap[c]? =w.heap[c]?):Own g H' w':=
 ⟨hos.trans h.os,hout.trans h.out,Ke.trans h.tape,by rw[(u.append g.fr).keys];exact h.nd,λx hx=>by
  rcases(u.append g.fr).FD h.nd x hx with rfl|⟨h1,h2⟩
  ·exact hb
  rw[hr _ h2];exact h.tV x h1⟩
theorem Own.same{g:Gh}{H:Hp}{w w':World}(h:Own g H w)(hos:w'.os=w.os)(hout:w'.output=w.output)(Ke:w'.tape=w.tape)
 (hr:∀(c:Nat) (o:Obj),w.heap[c]? =some o->w'.heap[c]? =some o):Own g H w':=
 ⟨hos.trans h.os,hout.trans h.out,Ke.trans h.tape,h.nd,λx hx=>hr _ _ (h.tV x hx)⟩
theorem Own.drew{g:Gh}{H:Hp}{w:World}(h:Own g H w):Own g H w.drew:=h.same rfl rfl rfl λ_ _ h=>h
theorem Own.u3{g:Gh}{H:Hp}{w:World}(h:Own g H w):Own g H {w with drawn:=w.drawn+1}:=h.drew
theorem Own.Xr{g:Gh}{H:Hp}{w:World}(h:Own g H w){x:Nat×Obj}(hx:x∈H++g.fr):x.1<w.heap.size:=by
 have:=h.tV x hx;exact(xaJ.1 this).1
theorem Own.lt{g:Gh}{H:Hp}{w:World}(h:Own g H w){x:Nat×Obj}(hx:x∈H):x.1<w.heap.size:=h.Xr (xac _ hx)
theorem Own.Ll{g:Gh}{H:Hp}{w:World}(h:Own g H w):w.heap.size∉(H++g.fr).map Prod.fst:=by
 intro hm;obtain⟨x,hx,e⟩:=xaq.1 hm;have:=h.Xr hx;omega
theorem Own.fresh{g:Gh}{H:Hp}{w:World}(h:Own g H w):w.heap.size∉H.map Prod.fst:=λhm=>h.Ll (by rw[xaG];exact xac _ hm)
theorem Own.alloc{g:Gh}{H:Hp}{w:World}(h:Own g H w)(o:Obj):Own g ((w.heap.size,o)::H) (w.alloc o):=by
 refine⟨h.os,h.out,h.tape,?_,?_⟩
 ·rw[xaN,xaM,xbd];exact⟨h.Ll,h.nd⟩
 intro x hx;rw[xaN]at hx;rcases xaf.1 hx with rfl|hx
 ·show(w.heap.push o)[w.heap.size]? =some o;rw[xdc,xae rfl]
 have:=h.tV x hx;have hl:=h.Xr hx;show(w.heap.push o)[x.1]? =some x.2;rw[xdc,xad zO];exact this
theorem Own.cell{g:Gh}{H:Hp}{w:World}(h:Own g H w){b:Nat}{c:Array zV}{T:TypeId}{fz:Nat×Nat}(hm:(b,Obj.cells c T fz)∈H)(off:Nat):
  w.cell? ⟨b,off,none⟩=c[off]? :=by
 have:=h.has _ hm;simp only[World.cell?];simp only at this;rw[this];rfl
theorem Own.frozen{g:Gh}{H:Hp}{w:World}(h:Own g H w){b:Nat}{c:Array zV}{T:TypeId}(hm:(b,Obj.cells c T zZ)∈H)(off:Nat)(sp:Option Nat):
  w.frozen? ⟨b,off,sp⟩=false:=by
 have:=h.has _ hm;simp only at this;simp[World.frozen?,this]
theorem Own.shape{g:Gh}{H:Hp}{w:World}(h:Own g H w){b:Nat}{c:Array zV}{T:TypeId}{fz:Nat×Nat}(hm:(b,Obj.cells c T fz)∈H):
  w.shape? b=some (T,c.size):=by
 have:=h.has _ hm;simp only at this;simp[World.shape?,this]
def over(c:Array zV)(off:Nat):List zV->Array zV
 | []=>c
 |v::r=>over (c.setIfInBounds off v) (off+1) r
theorem Own.setCell{g:Gh}{H:Hp}{w:World}(h:Own g H w){b:Nat}{c:Array zV}{T:TypeId}{fz:Nat×Nat}{H':Hp}(off:Nat)(v:zV)
 (u:cT b (.cells c T fz) (.cells (c.setIfInBounds off v) T fz) H H'):Own g H' (w.setCell ⟨b,off,none⟩ v):=by
 refine h.bJ u rfl rfl rfl ?_ ?_
 ·have:=h.has _ u.mem;simp only at this;simp[World.setCell,xbs,this]
 intro d hd;simp only[World.setCell];rw[xbs,xad (λe=>hd (Eq.symm e))]
theorem cT.re{b:Nat}{o o':Obj}{H H':Hp}(u:cT b o o' H H')(o₁:Obj):∃H₁,cT b o o₁ H H₁/\cT b o₁ o' H₁ H':=by
 induction u with
 |head R=>exact⟨_,.head R,.head R⟩
 |tail _ ih=>obtain⟨H₁,u1,u2⟩:=ih;exact⟨_,.tail u1,.tail u2⟩
theorem eU{P:Program}{g:Gh}{b:Nat}{T:TypeId}(off:Nat):∀(l:List zV) (i:Nat) (c:Array zV) (H H':Hp) (w:World),Own g H w->
  cT b (.cells c T zZ) (.cells (over c (off+i) l) T zZ) H H'->(∀v∈l,v.oneCell'=true)->off+i+l.length<=c.size->
  ∃w',(storeCells ⟨b,off,none⟩ l i).run P w=.ok () w'/\Own g H' w'
 | [],i,c,H,H',w,h,u,_,_=>by
  refine⟨w,rfl,?_⟩;exact h.bJ u rfl rfl rfl (h.has _ u.mem) λ_ _=>rfl
 |v::r,i,c,H,H',w,h,u,h1,hs=>by
  obtain⟨H₁,u1,u2⟩:=u.re (.cells (c.setIfInBounds (off+i) v) T zZ);have gD:=h.setCell (off+i) v u1;simp only[xar]at hs;obtain⟨w',hr,ho⟩:=eU (P:=P) off r (i+1) (c.setIfInBounds (off+i) v) H₁ H' _ gD (by simpa[over,xdt]using u2) (λx hx=>h1 x (by simp[hx])) zP;refine⟨w',?_,ho⟩;have hc:w.cell? ⟨b,off+i,none⟩=some c[off+i]:=by
   rw[h.cell u.mem,xbm]
  have hf:=h.frozen u.mem (off+i) none;have ha:Addr.add ⟨b,off,none⟩ i=⟨b,off+i,none⟩:=Addr.add_lit _ _ _;simp only[storeCells,Sem.run_bind,ha,run_store P w _ v .plain (h1 v zI),hc,hf,xaE,xaS,Result.andThen_ok,hr]
theorem iM{P:Program}{g:Gh}{H:Hp}{w:World}(h:Own g H w){b:Nat}{c:Array zV}{T:TypeId}{fz:Nat×Nat}(hm:(b,Obj.cells c T fz)∈H)
 (off n:Nat)(hs:off+n<=c.size):(loadCells ⟨b,off,none⟩ n).run P w=.ok (c.extract off (off+n)) w:=by
 have hl:((c.extract off (off+n)).toList).length=n:=by simp;omega
 have:=run_loadCells_list (P:=P) w ⟨b,off,none⟩ (c.extract off (off+n)).toList (λj v hj=>by
  rw[Addr.add_lit,h.cell hm];have P2:j<n:=by
   have:=(xag.1 hj).1;omega
  rw[xba,xcX]at hj;rw[xae zO]at hj;exact hj)
 rw[hl]at this;exact this
end Go.Sx
namespace Go.Sx
open Go
abbrev Fr:=Nat->zV
def bJ(fr:Fr)(d:Option Nat)(v:zV):Fr:=
 match d with
 |none=>fr
 |some d=>λs=>cond (Nat.beq s d) v (fr s)
def ev(fr:Fr):Operand->zV
 | .tmp t=>fr t
 | .const v=>v
 | .global g=>.pointer (some ⟨g,0,none⟩)
 | .func f=>.func (.func f) #[] #[]
def c6(n:Nat):Option Nat->Bool
 |none=>true
 |some d=>Nat.blt d n
structure bD(ds:List Deferred)(n:Nat)(a:Act)(fr:Fr):Prop where
 defers:a.defers=ds
 size:a.tmps.size=n
 get:∀s,a.tmps.getD s undef=fr s
theorem bD.eval{ds:List Deferred}{n:Nat}{a:Act}{fr:Fr}(h:bD ds n a fr):a.eval=ev fr:=by
 funext x
 cases x<;>simp only[Act.eval,ev];exact h.get _
theorem bD.put{ds:List Deferred}{n:Nat}{a:Act}{fr:Fr}(h:bD ds n a fr){d:Option Nat}(hd:c6 n d=true)(v:zV):bD ds n (a.put d v) (bJ fr d v):=by
 cases d with
 |none=>exact h
 |some d=>
  have hlt:d<n:=by simpa[c6,Nat.blt_eq]using hd
  refine⟨h.defers,by simp[Act.put,h.size],λs=>?_⟩;simp only[Act.put,bJ];have hs:=h.size;by_cases e:s=d
  ·subst e;simp[hs,hlt]
  have e':d≠s:=λx=>e x.symm;have hb:Nat.beq s d=false:=by
   cases hh:Nat.beq s d
   ·rfl
   exact absurd (xaC hh) e
  rw[hb];simp only[xam];have:=h.get s;simpa[xan,xbj e']using this
def aR(P:Program)(g:Gh)(f:FuncId)(args:Array zV)(H:Hp)(R:Ending->Hp->Prop):Prop:=
 ∀w,Own g H w->Calls P f args w λe w'=>∃H',Own g H' w'/\R e H'
theorem aR.mono{P:Program}{g:Gh}{f:FuncId}{args:Array zV}{H:Hp}{R R':Ending->Hp->Prop}(h:aR P g f args H R)(hr:∀e H',R e H'->R' e H'):
  aR P g f args H R':=λw hw=>(h w hw).mono λe w' ⟨H',o,r⟩=>⟨H',o,hr _ _ r⟩
theorem aR.pre{P:Program}{g:Gh}{f:FuncId}{args:Array zV}{H H':Hp}{R:Ending->Hp->Prop}(h:aR P g f args H' R)(he:aG H H'):
  aR P g f args H R:=λw hw=>h w (he _ _ hw)
theorem aR.post{P:Program}{g:Gh}{f:FuncId}{args:Array zV}{H:Hp}{R R':Ending->Hp->Prop}(h:aR P g f args H R)
 (hr:∀e H',R e H'->∃gp,aG H' gp/\R' e gp):aR P g f args H R':=λw hw=>(h w hw).mono λe w' ⟨H',o,r⟩=>
 let ⟨gp,en,r'⟩:=hr _ _ r;⟨gp,en _ _ o,r'⟩
def VU(K:zV->Hp->Prop)(KP:List PanicEntry->Hp->Prop):Ending->Hp->Prop
 | .returned v,H=>K v H
 | .panicked ch,H=>KP ch H
 | .outgrown,_=>False
def mq(P:Program)(g:Gh)(K:zV->Hp->Prop)(KP:List PanicEntry->Hp->Prop):Result Next->Prop
 | .ok (.value v) w=>∃H,Own g H w/\K v H
 | .ok .skip w=>∃H,Own g H w/\K undef H
 | .ok (.enter f args) w=>Calls P f args w λe w'=>∃H,Own g H w'/\VU K KP e H
 | .halt (.panic v) w=>∃H,Own g H w/\KP [{v,recovered:=false}] H
 |_=>False
def dF(P:Program)(g:Gh)(o:Oper)(ρ:Operand->zV)(H:Hp)(K:zV->Hp->Prop)(KP:List PanicEntry->Hp->Prop):Prop:=
 ∀w,Own g H w->mq P g K KP ((execOp ρ o).run P w)
def By(H:Hp)(o:Obj)(k:Nat->Hp->Prop):Prop:=∀b,b∉H.map Prod.fst->k b ((b,o)::H)
def aB(c a b:zV)(k:zV->Prop):Prop:=∃t,c=.bool t/\k (cond t a b)
def Ld(H:Hp)(p:zV)(k:zV->Prop):Prop:=
 ∃b off c T fz v,p=.pointer (some ⟨b,off,none⟩)/\(b,Obj.cells c T fz)∈H/\c[off]? =some v/\k v
def av(n:Nat)(H:Hp)(p:zV)(k:zV->Prop):Prop:=
 ∃b off c T fz,p=.pointer (some ⟨b,off,none⟩)/\(b,Obj.cells c T fz)∈H/\off+n<=c.size/\k (.agg (c.extract off (off+n)))
def St(n:Nat)(H:Hp)(p x:zV)(k:Hp->Prop):Prop:=
 ∃b off c T H',p=.pointer (some ⟨b,off,none⟩)/\x.cells.size=n/\off+n<=c.size/\(∀v∈x.cells.toList,v.oneCell'=true)/\
  cT b (.cells c T zZ) (.cells (over c off x.cells.toList) T zZ) H H'/\k H'
inductive BK|num|bool|ptr|slice|map|func|str|other
def wR:TypeDesc->BK
 | .bool=>.bool
 | .int _=>.num
 | .pointer _=>.ptr
 | .slice _=>.slice
 | .map _ _=>.map
 | .func _ _ _=>.func
 | .string=>.str
 |_=>.other
def jy(op:BinOp)(k:IntKind)(a b:Int):Option zV:=
 match op with
 | .add=>some (.int k (k.wrap (a+b)))
 | .sub=>some (.int k (k.wrap (a-b)))
 | .mul=>some (.int k (k.wrap (a*b)))
 | .quo=>if b=0 then none else some (.int k (k.wrap (a.tdiv b)))
 | .rem=>if b=0 then none else some (.int k (a.tmod b))
 | .and=>some (.int k (bits .and k a b))
 | .or=>some (.int k (bits .or k a b))
 | .xor=>some (.int k (bits .xor k a b))
 | .andNot=>some (.int k (bits .andNot k a b))
 | .eql=>some (.bool (a==b))
 | .neq=>some (.bool (a !=b))
 | .lss=>some (.bool (decide (a<b)))
 | .leq=>some (.bool (decide (a<=b)))
 | .gtr=>some (.bool (decide (b<a)))
 | .geq=>some (.bool (decide (b<=a)))
 |_=>none
def fD(kd:BK)(op:BinOp)(x y:zV):Option zV:=
 match x with
 | .int k a=>
  match y with
  | .int k' b=>
   match op with
   | .shl=>if b<0 then none else some (.int k (k.wrap (a*2^(min b.toNat k.bits))))
   | .shr=>if b<0 then none else some (.int k (a.fdiv (2^(min b.toNat k.bits))))
   |op=>if k=k' then jy op k a b else none
  |_=>none
 | .bool a=>
  match kd,op,y with
  | .bool,.eql,.bool b=>some (.bool (a==b))
  | .bool,.neq,.bool b=>some (.bool (!(a==b)))
  |_,_,_=>none
 | .string a=>
  match op,y with
  | .eql,.string b=>some (.bool (a.toList==b.toList))
  | .neq,.string b=>some (.bool (!(a.toList==b.toList)))
  | .add,.string b=>if a.size+b.size<=9223372036854775807 then some (.string (a++b))else none
  |_,_=>none
 | .pointer a=>
  match kd,op,y with
  | .ptr,.eql,.pointer b=>if a.isNone\/b.isNone then some (.bool (a.isNone&&b.isNone))else none
  | .ptr,.neq,.pointer b=>if a.isNone\/b.isNone then some (.bool (!(a.isNone&&b.isNone)))else none
  |_,_,_=>none
 | .slice a n c=>
  match kd,op,y with
  | .slice,.eql,.slice b _ _=>if a.isNone\/b.isNone then some (.bool (a.isNone&&b.isNone))else none
  | .slice,.neq,.slice b _ _=>if a.isNone\/b.isNone then some (.bool (!(a.isNone&&b.isNone)))else none
  |_,_,_=>none
 | .map a=>
  match kd,op,y with
  | .map,.eql,.map b=>if a.isNone\/b.isNone then some (.bool (a.isNone&&b.isNone))else none
  | .map,.neq,.map b=>if a.isNone\/b.isNone then some (.bool (!(a.isNone&&b.isNone)))else none
  |_,_,_=>none
 |_=>none
def ae(kd:BK)(op:BinOp)(x y:zV)(k:zV->Prop):Prop:=∃v,fD kd op x y=some v/\k v
def V6(op:UnOp)(x:zV):Option zV:=
 match op,x with
 | .neg,.int k n=>some (.int k (k.wrap (0-n)))
 | .not,.bool b=>some (.bool !b)
 | .xor,.int k n=>some (.int k (bits .xor k (if k.signed then-1 else k.max) n))
 |_,_=>none
def Un(op:UnOp)(x:zV)(k:zV->Prop):Prop:=∃v,V6 op x=some v/\k v
def aO(kd:IntKind)(x:zV)(k:zV->Prop):Prop:=∃j n,x=.int j n/\k (.int kd (kd.wrap n))
def ah(off:Nat)(x:zV)(k:zV->Prop):Prop:=∃b o,x=.pointer (some ⟨b,o,none⟩)/\k (.pointer (some ⟨b,o+off,none⟩))
def Iz(off:Nat)(x:zV)(k:zV->Prop):Prop:=∃cs v,x=.agg cs/\cs[off]? =some v/\k v
def Pk(off n:Nat)(x:zV)(k:zV->Prop):Prop:=∃cs,x=.agg cs/\k (.agg (cs.extract off (off+n)))
def aj(size:Nat)(x ix:zV)(k:zV->Prop):Prop:=
 ∃b o n c kd i,x=.slice (some ⟨b,o,none⟩) n c/\ix=.int kd i/\0<=i/\i<(n:Int)/\k (.pointer (some ⟨b,o+i.toNat*size,none⟩))
def gm(len size:Nat)(x ix:zV)(k:zV->Prop):Prop:=
 ∃b o kd i,x=.pointer (some ⟨b,o,none⟩)/\ix=.int kd i/\0<=i/\i<(len:Int)/\k (.pointer (some ⟨b,o+i.toNat*size,none⟩))
def NL:Option zV->Option Int
 |none=>some 0
 |some (.int _ n)=>some n
 |_=>none
def F3(len:Nat):Option zV->Option Int
 |none=>some len
 |some (.int _ n)=>some n
 |_=>none
def dD(size:Nat)(x:zV)(lo hi:Option zV)(k:zV->Prop):Prop:=
 ∃a n c l h,x=.slice a n c/\NL lo=some l/\F3 n hi=some h/\0<=l/\l<=h/\h<=(c:Int)/\
  k (.slice (if c=l.toNat then a else a.map (·.add (l.toNat*size))) (h.toNat-l.toNat) (c-l.toNat))
def Ext(i:Nat)(x:zV)(k:zV->Prop):Prop:=∃vs v,x=.tuple vs/\vs[i]? =some v/\k v
def aX(x:zV)(k:zV->Prop):Prop:=∃a n c,x=.slice a n c/\k (.int .i64 n)
def zv(H:Hp)(x:zV)(k:zV->Prop):Prop:=
 ∃m,x=.map m/\((m=none/\k (.int .i64 0))\/∃b es clock,m=some b/\(b,Obj.map es clock)∈H/\k (.int .i64 es.size))
def Cells(H:Hp)(base:Option Addr)(n:Nat)(cs:Array zV):Prop:=
 match base with
 |none=>cs=#[]
 |some a=>(n=0/\cs=#[])\/(a.spot=none/\∃c T fz,(a.block,Obj.cells c T fz)∈H/\a.off+n<=c.size/\cs=c.extract a.off (a.off+n))
def App(P:Program)(elem size bytes:Nat)(zero:zV)(H:Hp)(s x:zV)(k:zV->Hp->Prop):Prop:=
 ∃base n cap xb m xc olds news,s=.slice base n cap/\x=.slice xb m xc/\Cells H base (n*size) olds/\Cells H xb (m*size) news/\
  news.size=m*size/\olds.size=n*size/\(∀v∈news.toList,v.oneCell'=true)/\
  (n+m<=cap->match base with
   |none=>k (.slice none (n+m) cap) H
   |some a=>∃c T H',a.spot=none/\a.off+n*size+m*size<=c.size/\cT a.block (.cells c T zZ) (.cells (over c (a.off+n*size) news.toList) T zZ) H H'/\k (.slice (some a) (n+m) cap) H')/\
  (cap<n+m->(n+m)*bytes<=140737488355328/\(n+m:Nat)<=9223372036854775807/\∀eV,n+m<=eV->
   By H (.cells (olds++news++Builtin.zeroCells zero.cells (eV-(n+m))) elem zZ) λb H'=>∃gp,aG H' gp/\k (.slice (some ⟨b,0,none⟩) (n+m) eV) gp)
def cW(elem size bytes:Nat)(zero:zV)(H:Hp)(l c:zV)(k:zV->Hp->Prop):Prop:=
 ∃kl kc ln cn,l=.int kl (ln:Nat)/\c=.int kc (cn:Nat)/\ln<=cn/\(cn:Int)<=9223372036854775807/\cn*bytes<=281474976710656/\
  By H (.cells (madeCells zero.cells (cn*size)) elem zZ) λb H'=>k (.slice (some ⟨b,0,none⟩) ln cn) H'
def ni(H:Hp)(k:zV->Hp->Prop):Prop:=By H (.map #[] 0) λb H'=>k (.map (some b)) H'
def EP(H:Hp)(m:zV)(es:Array MapEntry):Prop:=(m=.map none/\es=#[])\/∃b clock,m=.map (some b)/\(b,Obj.map es clock)∈H
def qP(kd:TypeDesc)(zero:zV)(ok:Bool)(H:Hp)(m key:zV)(k:zV->Prop):Prop:=
 ∃es r,EP H m es/\Instr.findNow kd key es.toList 0=some r/\
  k (match r with
   |some (_,v)=>cond ok (.tuple #[v,.bool true]) v
   |none=>cond ok (.tuple #[zero,.bool false]) zero)
def fF(kd:TypeDesc)(H:Hp)(m key val:zV)(k:Hp->Prop):Prop:=
 ∃b es clock r,m=.map (some b)/\Instr.findNow kd key es.toList 0=some r/\
  match r with
  |some (i,_)=>(∀e,es[i]? =some e->Instr.sameBits 10000 e.key key=true)/\i<es.size/\∃H',cT b (.map es clock) (.map (es.modify i λe=>{e with key,val}) clock) H H'/\k H'
  |none=>∃H',cT b (.map es clock) (.map (es.push {key,val,born:=clock}) (clock+1)) H H'/\k H'
def tg(kd:TypeDesc)(H:Hp)(m key:zV)(k:Hp->Prop):Prop:=
 (m=.map none/\k H)\/∃b es clock r,m=.map (some b)/\Instr.findNow kd key es.toList 0=some r/\
  match r with
  |some (i,_)=>∃H',cT b (.map es clock) (.map (es.eraseIdxIfInBounds i) clock) H H'/\k H'
  |none=>(b,Obj.map es clock)∈H/\k H
def bg(P:Program)(f:FuncId):Bool:=
 match P.funcs[f]? with
 |none=>false
 |some fn=> !(fn.name== "runtime.NumGoroutine") &&fn.body.isSome
def aa(P:Program)(g:Gh)(f:FuncId)(args:Array zV)(H:Hp)(K:zV->Hp->Prop)(KP:List PanicEntry->Hp->Prop):Prop:=
 aR P g f args H (VU K KP)
def bQ(P:Program)(g:Gh)(fv:zV)(args:Array zV)(H:Hp)(K:zV->Hp->Prop)(KP:List PanicEntry->Hp->Prop):Prop:=
 ∃f first captured,fv=.func (.func f) first captured/\bg P f=true/\aa P g f (first++args++captured) H K KP
def zz(P:Program)(kt:TypeId)(x y:zV)(b:Bool):Prop:=∀w,(Op.equal kt x y).run P w=.ok b w
def kP(P:Program)(kt:TypeId)(x:zV):Prop:=∀e w,(Instr.checkKey e 10000 kt x).run P w=.ok () w
def kJ(P:Program)(kt:TypeId)(key:zV):List MapEntry->Nat->Option (Nat×zV)->Prop
 | [],_,r=>r=none
 |e::es,i,r=>∃b,zz P kt key e.key b/\(b=true->r=some (i,e.val))/\(b=false->kJ P kt key es (i+1) r)
def iZ(P:Program)(kt:TypeId)(zero:zV)(ok:Bool)(H:Hp)(m key:zV)(k:zV->Prop):Prop:=
 ∃es r,EP H m es/\kP P kt key/\kJ P kt key es.toList 0 r/\
  k (match r with
   |some (_,v)=>cond ok (.tuple #[v,.bool true]) v
   |none=>cond ok (.tuple #[zero,.bool false]) zero)
def gS(P:Program)(kt:TypeId)(H:Hp)(m key val:zV)(k:Hp->Prop):Prop:=
 ∃b es clock r,m=.map (some b)/\kP P kt key/\kJ P kt key es.toList 0 r/\
  match r with
  |some (i,_)=>(∀e,es[i]? =some e->Instr.sameBits 10000 e.key key=true)/\i<es.size/\∃H',cT b (.map es clock) (.map (es.modify i λe=>{e with key,val}) clock) H H'/\k H'
  |none=>∃H',cT b (.map es clock) (.map (es.push {key,val,born:=clock}) (clock+1)) H H'/\k H'
def o6(P:Program)(kt:TypeId)(H:Hp)(m key:zV)(k:Hp->Prop):Prop:=
 kP P kt key/\((m=.map none/\k H)\/∃b es clock r,m=.map (some b)/\kJ P kt key es.toList 0 r/\
  match r with
  |some (i,_)=>∃H',cT b (.map es clock) (.map (es.eraseIdxIfInBounds i) clock) H H'/\k H'
  |none=>(b,Obj.map es clock)∈H/\k H)
def Tn(H:Hp)(x:zV)(k:zV->Hp->Prop):Prop:=
 (x=.map none/\By H (.mapIter none 0 #[] 0) λb H'=>k (.pointer (some ⟨b,0,none⟩)) H')\/
 ∃m es clock,x=.map (some m)/\(m,Obj.map es clock)∈H/\By H (.mapIter (some m) clock #[] clock) λb H'=>k (.pointer (some ⟨b,0,none⟩)) H'
def Si(H:Hp)(it:zV)(k:zV->Hp->Prop):Prop:=
 ∃b mo since seen last,it=.pointer (some ⟨b,0,none⟩)/\(b,Obj.mapIter mo since seen last)∈H/\
  match mo with
  |none=>k (.tuple #[.bool false]) H
  |some m=>∃es clock,(m,Obj.map es clock)∈H/\(∀e∈es.toList,e.born<since/\e.born<last)/\
   (∀e∈es.toList,e.born∉seen->∃H',cT b (.mapIter (some m) since seen last) (.mapIter (some m) since (seen.push e.born) clock) H H'/\k (.tuple #[.bool true,e.key,e.val]) H')/\
   ((∀e∈es.toList,e.born∈seen)->k (.tuple #[.bool false]) H)
def Il(H:Hp)(it:zV)(k:zV->Prop):Prop:=
 ∃b m since seen stamp clock es e,it=.pointer (some ⟨b,0,none⟩)/\(b,Obj.mapIter (some m) since seen clock)∈H/\seen.back?=some stamp/\(m,Obj.map es clock)∈H/\es.find? (·.born==stamp)=some e/\k (.tuple #[e.key,e.val])
def Pj(x y:zV)(k:zV->Prop):Prop:=∃kd a b,x=.int kd a/\y=.int kd b/\k (.int kd (if b>a then b else a))
def Bz(x y:zV)(k:zV->Prop):Prop:=∃kd a b,x=.int kd a/\y=.int kd b/\k (.int kd (if b<a then b else a))
def gB(H:Hp)(x:zV)(k:zV->Prop):Prop:=
 ∃base n c,∃bs:List UInt8,x=.slice base n c/\Cells H base n ((bs.map λb=>Value.int .u8 b.toNat).toArray)/\bs.length=n/\k (.string ⟨bs.toArray⟩)
def Qn(x i:zV)(k:zV->Prop):Prop:=∃s kd j b,x=.string s/\i=.int kd j/\0<=j/\s[j.toNat]? =some b/\k (.int .u8 b.toNat)
def dR(x:zV)(k:zV->Prop):Prop:=∃s,x=.string s/\k (.int .i64 s.size)
def plainKey:TypeDesc->Bool
 | .int _| .string| .bool=>true
 |_=>false
def ct:TypeDesc->Bool
 | .struct _| .array _ _=>true
 |_=>false
end Go.Sx
namespace Go.Sx
open Go
section
variable {P:Program} {g:Gh} {H:Hp} {K:zV->Hp->Prop} {KP:List PanicEntry->Hp->Prop}
theorem dw{t:TypeId}{i:TypeInfo}{z:zV}(hi:P.info? t=some i)(hz:i.zero=some z)(w:World):(zeroValue t).run P w=.ok z w:=by
 simp[zeroValue,typeInfo,hi,hz]
theorem my{t:TypeId}{d:TypeDesc}(hd:P.underlying t=some d)(w:World):(isAgg t).run P w=.ok (ct d) w:=by
 simp only[isAgg,Sem.run_bind,run_underlying hd,Result.andThen_ok];cases d<;>rfl
theorem run_sizeOf{t:TypeId}{i:TypeInfo}(hi:P.info? t=some i)(w:World):(sizeOf t).run P w=.ok i.size w:=by
 simp[sizeOf,typeInfo,hi]
theorem Ld.run{p:zV}{k:zV->Prop}(h:Ld H p k){w:World}(hw:Own g H w){t:TypeId}{d:TypeDesc}(hd:P.underlying t=some d)(ha:ct d=false):
  ∃v,(Instr.loadAt t p).run P w=.ok v w/\k v:=by
 obtain⟨b,off,c,T,fz,v,rfl,hm,hc,hk⟩:=h;refine⟨v,?_,hk⟩;have:=hw.cell hm off;rw[hc]at this;simp only[Instr.loadAt,Instr.sureAddr,loadVar,Sem.run_bind,Sem.run_pure,Result.andThen_ok,my hd,ha,Sem.run_ite,xaE,xaS,run_load,this]
theorem av.run{n:Nat}{p:zV}{k:zV->Prop}(h:av n H p k){w:World}(hw:Own g H w){t:TypeId}{d:TypeDesc}(hd:P.underlying t=some d)(ha:ct d=true)
 {i:TypeInfo}(hi:P.info? t=some i)(hn:i.size=n):
  ∃v,(Instr.loadAt t p).run P w=.ok v w/\k v:=by
 obtain⟨b,off,c,T,fz,rfl,hm,hs,hk⟩:=h;refine⟨_,?_,hk⟩;simp only[Instr.loadAt,Instr.sureAddr,loadVar,Sem.run_bind,Sem.run_pure,Result.andThen_ok,my hd,ha,Sem.run_ite,xa0,run_sizeOf hi,hn,iM hw hm off n hs]
theorem St.run{n:Nat}{p x:zV}{k:Hp->Prop}(h:St n H p x k){w:World}(hw:Own g H w){t:TypeId}{i:TypeInfo}(hi:P.info? t=some i)(hn:i.size=n):
  ∃w' H',(Instr.storeAt t p x).run P w=.ok () w'/\Own g H' w'/\k H':=by
 obtain⟨b,off,c,T,H',rfl,hx,hs,hv,hu,hk⟩:=h;obtain⟨w',hr,ho⟩:=eU (P:=P) off x.cells.toList 0 c H H' w hw (by simpa using hu) hv zP;refine⟨w',H',?_,ho,hk⟩;simp only[Instr.storeAt,Instr.sureAddr,storeVar,Sem.run_bind,Sem.run_pure,Result.andThen_ok,run_sizeOf hi,hn,hx,ne_eq,not_true,xaS,hr]
theorem JX{op:BinOp}{k:IntKind}{a b:Int}{v:zV}{t:TypeId}(h:jy op k a b=some v)(w:World)(hs:op≠.shl/\op≠.shr):
  (binOp op t (.int k a) (.int k b)).run P w=.ok v w:=by
 cases op<;>simp[jy]at h hs<;>try subst h
 case quo=> 
  obtain⟨h0,rfl⟩:=h;simp[binOp,Op.intDiv,h0]
 case rem=>
  obtain⟨h0,rfl⟩:=h;simp[binOp,Op.intDiv,h0]
 all_goals first
  |simp[binOp,Op.intArith];done
  |simp[binOp,Op.intCmp];done
  |(simp only[binOp_and,binOp_or,binOp_xor,binOp_andNot,intBits_and,intBits_or,intBits_xor,intBits_andNot];rfl)
theorem gJ{t:TypeId}{x y:zV}{r:Result Bool}{w:World}(h:∀d,(Op.equalIn (d+1) t x y).run P w=r):(Op.equal t x y).run P w=r:=h 9999
theorem run_eql_bool{t:TypeId}(hd:P.underlying t=some .bool)(a b:Bool)(w:World):(Op.equal t (.bool a) (.bool b)).run P w=.ok (a==b) w:=
 gJ λd=>by simp[Op.equalIn,run_underlying hd]
theorem xB{t e:TypeId}(hd:P.underlying t=some (.pointer e))(a b:Option Addr)(hab:a.isNone\/b.isNone)(w:World):(Op.equal t (.pointer a) (.pointer b)).run P w=.ok (a.isNone&&b.isNone) w:=
 gJ λd=>by cases a<;>cases b<;>simp at hab<;>simp[Op.equalIn,run_underlying hd]
theorem tI{t e:TypeId}(hd:P.underlying t=some (.slice e))(a b:Option Addr)(n c n' c':Nat)(hab:a.isNone\/b.isNone)(w:World):(Op.equal t (.slice a n c) (.slice b n' c')).run P w=.ok (a.isNone&&b.isNone) w:=
 gJ λd=>by cases a<;>cases b<;>simp at hab<;>simp[Op.equalIn,run_underlying hd]
theorem xC{t e f:TypeId}(hd:P.underlying t=some (.map e f))(a b:Option Nat)(hab:a.isNone\/b.isNone)(w:World):(Op.equal t (.map a) (.map b)).run P w=.ok (a.isNone&&b.isNone) w:=
 gJ λd=>by cases a<;>cases b<;>simp at hab<;>simp[Op.equalIn,run_underlying hd]
theorem LY{kd:BK}{op:BinOp}{x y v:zV}{t:TypeId}{d:TypeDesc}(hd:P.underlying t=some d)(hk:wR d=kd)(h:fD kd op x y=some v)(w:World):
  (binOp op t x y).run P w=.ok v w:=by
 cases x<;>simp only[fD]at h<;>try (simp at h;done)
 case int k a=>
  cases y<;>simp only at h<;>try (simp at h;done)
  rename_i k' b;by_cases hs:op=.shl
  ·subst hs;simp only at h;split at h
   ·simp at h
   simp only[xap]at h;subst h;rename_i hb;simp[binOp,Op.shift,hb]
  by_cases hs':op=.shr
  ·subst hs';simp only at h;split at h
   ·simp at h
   simp only[xap]at h;subst h;rename_i hb;simp[binOp,Op.shift,hb]
  have h2:(if k=k' then jy op k a b else none)=some v:=by
   cases op<;>first|exact h|exact absurd rfl hs|exact absurd rfl hs'
  split at h2
  ·rename_i e;subst e;exact JX h2 w ⟨hs,hs'⟩
  simp at h2
 case bool a=>
  split at h<;>simp only[xap,reduceCtorEq]at h;all_goals
   subst h;have:d=.bool:=by cases d<;>simp_all[wR]
   subst this;simp[binOp,run_eql_bool hd]
 case string a=>
  split at h
  ·simp only[xap]at h;subst h;first|rfl|(simp only[binOp,Op.stringOp];rfl)
  ·simp only[xap]at h;subst h;first|rfl|(simp only[binOp,Op.stringOp];rfl)
  ·split at h<;>simp only[xap,reduceCtorEq]at h;subst h;rename_i b hb;have:¬(((a.size+b.size:Nat):Int)>IntKind.i64.max):=by
    have:IntKind.i64.max=9223372036854775807:=rfl;omega
   simp only[binOp,Op.stringOp,xad this];rfl
  simp at h
 case pointer a=>
  split at h<;>try (simp at h;done)
  all_goals
   have:∃e,d=.pointer e:=by cases d<;>simp_all[wR]
   obtain⟨e,rfl⟩:=this;split at h<;>simp only[xap,reduceCtorEq]at h;subst h;rename_i bb hab;simp[binOp,xB hd _ _ hab]
 case slice a n c=>
  split at h<;>try (simp at h;done)
  all_goals
   have:∃e,d=.slice e:=by cases d<;>simp_all[wR]
   obtain⟨e,rfl⟩:=this;split at h<;>simp only[xap,reduceCtorEq]at h;subst h;rename_i bb _ _ hab;simp[binOp,tI hd _ _ _ _ _ _ hab]
 case map a=>
  split at h<;>try (simp at h;done)
  all_goals
   have:∃e f,d=.map e f:=by cases d<;>simp_all[wR]
   obtain⟨e,f,rfl⟩:=this;split at h<;>simp only[xap,reduceCtorEq]at h;subst h;rename_i bb hab;simp[binOp,xC hd _ _ hab]
theorem Bo{kd:BK}{op:BinOp}{x y v:zV}{t:TypeId}{ox oy:Operand}(h:fD kd op x y=some v):eqGuard op t ox oy x y=pure ():=by
 cases x<;>simp[fD]at h<;>cases op<;>rfl
theorem ae.run{kd:BK}{op:BinOp}{x y:zV}{k:zV->Prop}(h:ae kd op x y k)(w:World){t:TypeId}{d:TypeDesc}{ox oy:Operand}(hd:P.underlying t=some d)(hk:wR d=kd):
  ∃v,(do eqGuard op t ox oy x y;binOp op t x y:Sem zV).run P w=.ok v w/\k v:=by
 obtain⟨v,hv,hkv⟩:=h;refine⟨v,?_,hkv⟩;rw[Sem.run_bind,Bo hv];simp only[Sem.run_pure,Result.andThen_ok];exact LY hd hk hv w
theorem Un.run{op:UnOp}{x:zV}{k:zV->Prop}(h:Un op x k)(w:World):∃v,(Op.unary op x).run P w=.ok v w/\k v:=by
 obtain⟨v,hv,hk⟩:=h;refine⟨v,?_,hk⟩;cases op<;>cases x<;>simp[V6]at hv<;>subst hv;all_goals first|(simp[Op.unary,Op.intArith];done)|rfl
theorem aO.run{kd:IntKind}{x:zV}{k:zV->Prop}(h:aO kd x k)(w:World){src dst:TypeId}{ds dd:TypeDesc}(hs:P.underlying src=some ds)(hd:P.underlying dst=some dd)(hk:dd=.int kd):
  ∃v,(convert src dst x).run P w=.ok v w/\k v:=by
 obtain⟨j,n,rfl,hkv⟩:=h;subst hk;refine⟨_,?_,hkv⟩;simp only[convert,Sem.run_bind,run_underlying hs,run_underlying hd,Result.andThen_ok];cases ds<;>rfl
theorem ah.run{off:Nat}{x:zV}{k:zV->Prop}(h:ah off x k)(w:World){s:TypeId}{fs:Array Field}{f:Nat}{fl:Field}{i:TypeInfo}(hs:P.underlying s=some (.struct fs))(hf:fs[f]? =some fl)
 (hi:P.info? fl.type=some i)(h0:i.size≠0)(ho:fl.offset=off):∃v,(Instr.fieldAt s x f).run P w=.ok v w/\k v:=by
 obtain⟨b,o,rfl,hk⟩:=h;refine⟨_,?_,hk⟩;subst ho;simp[Instr.fieldAt,run_underlying hs,hf,Instr.sureAddr,fieldPlace,run_sizeOf hi,h0,Addr.add_lit]
theorem Iz.run{off:Nat}{x:zV}{k:zV->Prop}(h:Iz off x k)(w:World){s:TypeId}{fs:Array Field}{f:Nat}{fl:Field}{d:TypeDesc}(hs:P.underlying s=some (.struct fs))(hf:fs[f]? =some fl)
 (hd:P.underlying fl.type=some d)(ha:ct d=false)(ho:fl.offset=off):∃v,(Instr.field s x f).run P w=.ok v w/\k v:=by
 obtain⟨cs,v,rfl,hc,hk⟩:=h;refine⟨v,?_,hk⟩;subst ho;simp[Instr.field,run_underlying hs,hf,asAgg,part,my hd,ha,hc]
theorem Pk.run{off n:Nat}{x:zV}{k:zV->Prop}(h:Pk off n x k)(w:World){s:TypeId}{fs:Array Field}{f:Nat}{fl:Field}{d:TypeDesc}{i:TypeInfo}(hs:P.underlying s=some (.struct fs))(hf:fs[f]? =some fl)
 (hd:P.underlying fl.type=some d)(ha:ct d=true)(hi:P.info? fl.type=some i)(hn:i.size=n)(ho:fl.offset=off):∃v,(Instr.field s x f).run P w=.ok v w/\k v:=by
 obtain⟨cs,rfl,hk⟩:=h;refine⟨_,?_,hk⟩;subst ho;subst hn;simp[Instr.field,run_underlying hs,hf,asAgg,part,my hd,ha,run_sizeOf hi]
theorem aj.run{size:Nat}{x ix:zV}{k:zV->Prop}(h:aj size x ix k)(w:World){t e:TypeId}{i:TypeInfo}(ht:P.underlying t=some (.slice e))(hi:P.info? e=some i)(hn:i.size=size):
  ∃v,(Instr.indexAt t x ix).run P w=.ok v w/\k v:=by
 obtain⟨b,o,n,c,kd,j,rfl,rfl,h0,h1,hk⟩:=h;refine⟨_,?_,hk⟩;subst hn;simp[Instr.indexAt,run_underlying ht,asIntOf,h0,h1,run_sizeOf hi,Addr.add_lit]
theorem gm.run{len size:Nat}{x ix:zV}{k:zV->Prop}(h:gm len size x ix k)(w:World){t e:TypeId}{i:TypeInfo}(ht:P.underlying t=some (.array len e))(hi:P.info? e=some i)(hn:i.size=size):
  ∃v,(Instr.indexAt t x ix).run P w=.ok v w/\k v:=by
 obtain⟨b,o,kd,j,rfl,rfl,h0,h1,hk⟩:=h;refine⟨_,?_,hk⟩;subst hn;simp[Instr.indexAt,run_underlying ht,asIntOf,h0,h1,run_sizeOf hi,Addr.add_lit,Instr.sureAddr]
theorem dD.run{size:Nat}{x:zV}{lo hi:Option zV}{k:zV->Prop}(h:dD size x lo hi k)(w:World){t e:TypeId}{i:TypeInfo}(ht:P.underlying t=some (.slice e))(hi':P.info? e=some i)(hn:i.size=size):
  ∃v,(Instr.sliceAt t x lo hi none).run P w=.ok v w/\k v:=by
 obtain⟨a,n,c,l,hh,rfl,hl,mQ,h0,h1,h2,hk⟩:=h;refine⟨_,?_,hk⟩;subst hn;have bl:∀(kk:IntKind) (z:Int) (y:Nat) (cd:BoundsCode),0<=z->z<=y->(Instr.sliceBound (.int kk z) y cd).run P w=.ok z.toNat w:=by
  intro kk z y cd a1 a2;simp[Instr.sliceBound,asIntOf,a1,a2]
 have fU:∀(m l:Nat),(if m=l then a else a.map (·.add (l*i.size)))=(if m=l then a else a.map λx=>x.add (l*i.size)):=λ_ _=>rfl;have e1:l<=((hh.toNat:Nat):Int):=by omega
 cases lo with
 |none=>
  simp only[NL,xap]at hl;subst hl;cases hi with
  |none=>
   simp only[F3,xap]at mQ;subst mQ;simp[Instr.sliceAt,run_underlying ht,Instr.slice,Instr.sliceBounds,run_sizeOf hi']
  |some v=>
   cases v<;>simp only[F3,reduceCtorEq,xap]at mQ;subst mQ;simp[Instr.sliceAt,run_underlying ht,Instr.slice,Instr.sliceBounds,run_sizeOf hi',bl _ _ c .sliceAcap zO h2]
 |some vl=>
  cases vl<;>simp only[NL,reduceCtorEq,xap]at hl;subst hl;cases hi with
  |none=>
   simp only[F3,xap]at mQ;subst mQ;have:=bl ‹_› _ n .sliceB h0 h1;simp[Instr.sliceAt,run_underlying ht,Instr.slice,Instr.sliceBounds,run_sizeOf hi',this]
  |some v=>
   cases v<;>simp only[F3,reduceCtorEq,xap]at mQ;subst mQ;rename_i k1 n1 k2 n2;have b1:=bl k2 n2 c .sliceAcap zO h2;have b2:=bl k1 n1 n2.toNat .sliceB h0 zO;simp[Instr.sliceAt,run_underlying ht,Instr.slice,Instr.sliceBounds,run_sizeOf hi',b1,b2]
theorem Ext.run{i:Nat}{x:zV}{k:zV->Prop}(h:Ext i x k)(w:World):∃v,(Instr.extract x i).run P w=.ok v w/\k v:=by
 obtain⟨vs,v,rfl,hv,hk⟩:=h;exact⟨v,by simp[Instr.extract,hv],hk⟩
theorem aX.run{x:zV}{k:zV->Prop}(h:aX x k)(w:World){t e ty:TypeId}(ht:P.underlying t=some (.slice e)):∃v,(Builtin.len_ #[t] ty #[x]).run P w=.ok v w/\k v:=by
 obtain⟨a,n,c,rfl,hk⟩:=h;exact⟨_,by simp[Builtin.len_,run_underlying ht,goInt],hk⟩
theorem aP{w:World}(hw:Own g H w){b:Nat}{es:Array MapEntry}{clock:Nat}(hm:(b,Obj.map es clock)∈H):(getObj b).run P w=.ok (.map es clock) w:=by
 have:=hw.has _ hm;simp only at this;simp[getObj,Sem.run,this]
theorem zv.run{x:zV}{k:zV->Prop}(h:zv H x k){w:World}(hw:Own g H w){t e e' ty:TypeId}(ht:P.underlying t=some (.map e e')):∃v,(Builtin.len_ #[t] ty #[x]).run P w=.ok v w/\k v:=by
 obtain⟨m,rfl,⟨rfl,hk⟩|⟨b,es,clock,rfl,hm,hk⟩⟩:=h
 ·exact⟨_,by simp[Builtin.len_,run_underlying ht,goInt],hk⟩
 exact⟨_,by simp[Builtin.len_,run_underlying ht,goInt,aP hw hm],hk⟩
end
end Go.Sx
namespace Go.Sx
open Go
section
variable {P:Program} {g:Gh} {H:Hp} {K:zV->Hp->Prop} {KP:List PanicEntry->Hp->Prop}
theorem Cells.run{w:World}(hw:Own g H w){base:Option Addr}{size n cap:Nat}{cs:Array zV}(h:Cells H base (n*size) cs):
  (Builtin.firstCells size n (.slice base n cap)).run P w=.ok cs w:=by
 cases base with
 |none=>simp only[Cells]at h;subst h;simp[Builtin.firstCells]
 |some a=>
  rcases h with⟨hn,rfl⟩|⟨h0,c,T,fz,hm,hs,rfl⟩
  ·simp only[Builtin.firstCells,hn];rfl
  obtain⟨b,o,sp⟩:=a;simp only at h0 hm hs;subst h0;simp only[Builtin.firstCells,iM hw hm _ _ hs]
theorem App.run{elem size bytes:Nat}{zero:zV}{s x:zV}{k:zV->Hp->Prop}(h:App P elem size bytes zero H s x k){w:World}(hw:Own g H w){t t' ty:TypeId}{i:TypeInfo}
 (ht:P.underlying t=some (.slice elem))(ht':∃e,P.underlying t'=some (.slice e))(hi:P.info? elem=some i)(hz:i.zero=some zero)(hn:i.size=size)(hb:i.bytes=bytes):
  ∃v w' H',(Builtin.append_ #[t,t'] ty #[s,x]).run P w=.ok v w'/\Own g H' w'/\k v H':=by
 obtain⟨base,n,cap,xb,m,xc,olds,news,rfl,rfl,hco,UX,hsn,hso,hone,hfit,hgrow⟩:=h;obtain⟨e',ht'⟩:=ht';subst hn;subst hb;by_cases hc:n+m<=cap
 ·have hk:=hfit hc;have hnew:=Cells.run (P:=P) (cap:=xc) hw UX;cases base with
  |none=>
   refine⟨_,w,H,?_,hw,hk⟩;simp[Builtin.append_,run_underlying ht,run_underlying ht',run_sizeOf hi,Builtin.lenOf,hc,hnew]
  |some a=>
   obtain⟨c,T,H',h0,hs,hu,hk⟩:=hk;obtain⟨b,o,sp⟩:=a;simp only at h0 hu hs;subst h0;obtain⟨w',hr,ho⟩:=eU (P:=P) (o+n*i.size) news.toList 0 c H H' w hw (by simpa using hu) hone zP;refine⟨_,w',H',?_,ho,hk⟩;simp[Builtin.append_,run_underlying ht,run_underlying ht',run_sizeOf hi,Builtin.lenOf,hc,hnew,Addr.add_lit,hr]
 obtain⟨YC,h63,hk⟩:=hgrow zO;have gD:=hw.drew;have hnew:=Cells.run (P:=P) (cap:=xc) gD UX;have hold:=Cells.run (P:=P) (cap:=cap) gD hco;have hnx:Builtin.nextslicecap (n+m) cap*i.bytes<=281474976710656:=growslice_fits zO YC;have Zj:¬(281474976710656<Builtin.nextslicecap (n+m) cap*i.bytes):=by omega
 have Zi:¬(9223372036854775807<((n:Int)+(m:Int))):=by omega
 obtain⟨gp,hent,hkk⟩:=hk (grownCap w (n+m) cap elem) (by simp only[grownCap,Question.cut];omega) _ gD.fresh;refine⟨_,_,_,?_,hent _ _ (gD.alloc _),hkk⟩;simp[Builtin.append_,run_underlying ht,run_underlying ht',sizeOf,typeInfo,zeroValue,hi,hz,Builtin.lenOf,hc,Zi,Zj,Question.forced,hnew,hold,newRow,grownCap]
theorem cW.run{elem size bytes:Nat}{zero:zV}{l c:zV}{k:zV->Hp->Prop}(h:cW elem size bytes zero H l c k){w:World}(hw:Own g H w){t:TypeId}{i:TypeInfo}
 (ht:P.underlying t=some (.slice elem))(hi:P.info? elem=some i)(hz:i.zero=some zero)(hn:i.size=size)(hb:i.bytes=bytes):
  ∃v w' H',(Instr.makeSlice t l c).run P w=.ok v w'/\Own g H' w'/\k v H':=by
 obtain⟨kl,kc,ln,cn,rfl,rfl,hlc,cO,hby,hk⟩:=h;subst hn;subst hb;refine⟨_,_,_,?_,hw.alloc _,hk _ hw.fresh⟩;have e1:IntKind.i64.wrap (ln:Int)=ln:=IntWalk.i64_in _ zO;have e2:IntKind.i64.wrap (cn:Int)=cn:=IntWalk.i64_in _ zO;have e3:¬((i.bytes:Int)*(cn:Int)>281474976710656):=by
  have:((cn*i.bytes:Nat):Int)<=281474976710656:=by omega
  rw[Int.mul_comm];push_cast at this;omega
 have e4:¬((cn:Int)<ln):=by omega
 by_cases h0:cn*i.size=0
 ·simp[Instr.makeSlice,run_underlying ht,asInt,asIntOf,typeInfo,hi,e1,e2,e3,e4,sizeOf,zeroValue,hz,newRow,madeCells,h0,show¬((cn:Int)<0)from by omega,show¬((ln:Int)<0)from by omega];have:Array.range 0=#[]:=rfl;simp[this]
 simp[Instr.makeSlice,run_underlying ht,asInt,asIntOf,typeInfo,hi,e1,e2,e3,e4,sizeOf,zeroValue,hz,newRow,madeCells,h0,show¬((cn:Int)<0)from by omega,show¬((ln:Int)<0)from by omega]
theorem EP.run{m:zV}{es:Array MapEntry}(h:EP H m es){w:World}(hw:Own g H w):
  (m=.map none/\es=#[])\/∃b clock,m=.map (some b)/\(getObj b).run P w=.ok (.map es clock) w:=by
 rcases h with h|⟨b,clock,hm,hb⟩
 ·exact .inl h
 exact .inr ⟨b,clock,hm,aP hw hb⟩
theorem run_checkKey(e:Bool){t:TypeId}{d:TypeDesc}(hd:P.underlying t=some d)(hp:plainKey d=true)(v:zV)(w:World):(Instr.checkKey e 10000 t v).run P w=.ok () w:=by
 have:∀n,(Instr.checkKey e (n+1) t v).run P w=.ok () w:=λn=>by
  simp only[Instr.checkKey,Sem.run_bind,run_underlying hd,Result.andThen_ok];cases d<;>first|(simp[plainKey]at hp;done)|rfl
 exact this 9999
theorem run_findKey{t:TypeId}{d:TypeDesc}(hd:P.underlying t=some d){key:zV}{es:List MapEntry}{r:Option (Nat×zV)}(h:Instr.findNow d key es 0=some r)(w:World):
  (Instr.findKey t key es).run P w=.ok r w:=by
 simp[Instr.findKey,run_underlying hd,h]
theorem qP.run{kd:TypeDesc}{zero:zV}{ok:Bool}{m key:zV}{k:zV->Prop}(h:qP kd zero ok H m key k){w:World}(hw:Own g H w){t kt e:TypeId}{i:TypeInfo}
 (ht:P.underlying t=some (.map kt e))(hk:P.underlying kt=some kd)(hp:plainKey kd=true)(hi:P.info? e=some i)(hz:i.zero=some zero):
  ∃v,(Instr.lookup t m key ok).run P w=.ok v w/\k v:=by
 obtain⟨es,r,hm,hf,hkv⟩:=h;have dX:=λb=>run_checkKey (P:=P) b hk hp key w;have oz:=run_findKey (P:=P) hk hf w;refine⟨_,?_,hkv⟩;rcases hm.run (P:=P) hw with⟨rfl,rfl⟩|⟨b,clock,rfl,hg⟩
 ·cases r with
  |none=>cases ok<;>simp[Instr.lookup,run_underlying ht,dX,oz,dw hi hz]
  |some x=>obtain⟨j,v⟩:=x;cases ok<;>simp[Instr.lookup,run_underlying ht,dX,oz]
 ·cases r with
  |none=>cases ok<;>simp[Instr.lookup,run_underlying ht,dX,oz,dw hi hz,hg]
  |some x=>obtain⟨j,v⟩:=x;cases ok<;>simp[Instr.lookup,run_underlying ht,dX,oz,hg]
theorem bC{w:World}(hw:Own g H w){b:Nat}{es:Array MapEntry}{clock:Nat}(es':Array MapEntry)(clock':Nat){H':Hp}(hu:cT b (.map es clock) (.map es' clock') H H'):
  ∃w',(setObj b (.map es' clock')).run P w=.ok () w'/\Own g H' w':=by
 have hm:=hw.has _ hu.mem;simp only at hm;refine⟨{w with heap:=w.heap.setIfInBounds b (.map es' clock')},by simp[setObj,Sem.run,hm],?_⟩;have hlt:=hw.lt hu.mem;refine hw.bJ hu rfl rfl rfl ?_ ?_
 ·simp only at hlt;simp[hlt]
 intro c hc;rw[xb0,xad (λe=>hc (Eq.symm e))]
theorem fF.run{kd:TypeDesc}{m key val:zV}{k:Hp->Prop}(h:fF kd H m key val k){w:World}(hw:Own g H w){t kt e:TypeId}
 (ht:P.underlying t=some (.map kt e))(hk:P.underlying kt=some kd)(hp:plainKey kd=true):
  ∃w' H',(Instr.mapUpdate t m key val).run P w=.ok () w'/\Own g H' w'/\k H':=by
 obtain⟨b,es,clock,r,rfl,hf,hr⟩:=h;have dX:=λb=>run_checkKey (P:=P) b hk hp key w;have oz:=run_findKey (P:=P) hk hf w;cases r with
 |none=>
  obtain⟨H',hu,hkk⟩:=hr;obtain⟨w',hs,ho⟩:=bC (P:=P) hw _ _ hu;refine⟨w',H',?_,ho,hkk⟩;simp[Instr.mapUpdate,run_underlying ht,aP hw hu.mem,dX,oz,hs]
 |some x=>
  obtain⟨j,v⟩:=x;obtain⟨hsame,hj,H',hu,hkk⟩:=hr;obtain⟨w',hs,ho⟩:=bC (P:=P) hw _ _ hu;refine⟨w',H',?_,ho,hkk⟩;have XN:=hsame es[j] (xbm hj);simp[Instr.mapUpdate,run_underlying ht,aP hw hu.mem,dX,oz,hj,Instr.keyThatStays,XN,hs]
theorem tg.run{kd:TypeDesc}{m key:zV}{k:Hp->Prop}(h:tg kd H m key k){w:World}(hw:Own g H w){t kt e ty:TypeId}{as:Array TypeId}(has:as[0]? =some t)
 (ht:P.underlying t=some (.map kt e))(hk:P.underlying kt=some kd)(hp:plainKey kd=true):
  ∃w' H',(Builtin.delete_ as ty #[m,key]).run P w=.ok (.tuple #[]) w'/\Own g H' w'/\k H':=by
 have dX:=λb=>run_checkKey (P:=P) b hk hp key w;rcases h with⟨rfl,hkk⟩|⟨b,es,clock,r,rfl,hf,hr⟩
 ·exact⟨w,H,by simp[Builtin.delete_,has,run_underlying ht,dX],hw,hkk⟩
 have oz:=run_findKey (P:=P) hk hf w;cases r with
 |none=>
  obtain⟨hm,hkk⟩:=hr;have hu:∃H',cT b (.map es clock) (.map es clock) H H'/\H'=H:=by
   clear hkk hf oz hw;induction H with
   |nil=>simp at hm
   |cons x R ih=>
    rcases xaf.1 hm with e|hm'
    ·subst e;exact⟨_,.head _,rfl⟩
    obtain⟨H',u,rfl⟩:=ih hm';exact⟨_,.tail u,rfl⟩
  obtain⟨H',hu,rfl⟩:=hu;obtain⟨w',hs,ho⟩:=bC (P:=P) hw _ _ hu;exact⟨w',_,by simp[Builtin.delete_,has,run_underlying ht,aP hw hm,dX,oz,hs],ho,hkk⟩
 |some x=>
  obtain⟨j,v⟩:=x;obtain⟨H',hu,hkk⟩:=hr;obtain⟨w',hs,ho⟩:=bC (P:=P) hw _ _ hu;exact⟨w',_,by simp[Builtin.delete_,has,run_underlying ht,aP hw hu.mem,dX,oz,hs],ho,hkk⟩
theorem yV{kd:TypeDesc}(h:ct kd=true)(key:zV)(es:List MapEntry)(i:Nat):Instr.findNow kd key es i=if es=[]then some none else none:=by
 cases es with
 |nil=>rfl
 |cons e r=>
  simp only[Instr.findNow,reduceCtorEq,xaS];cases kd<;>simp[ct]at h<;>rfl
theorem kY{kt:TypeId}{key:zV}:∀{es:List MapEntry} {i:Nat} {r:Option (Nat×zV)},kJ P kt key es i r->∀w,(Instr.findAsking kt key es i).run P w=.ok r w
 | [],i,r,h,w=>by simp only[kJ]at h;subst h;rfl
 |e::es,i,r,h,w=>by
  obtain⟨b,he,h1,h2⟩:=h;simp only[Instr.findAsking,Sem.run_bind,he w,Result.andThen_ok];cases b
  ·simp only[xaE,xaS];exact kY (h2 rfl) w
  simp only[xa0,h1 rfl,Sem.run_pure]
theorem fm{t:TypeId}{d:TypeDesc}(hd:P.underlying t=some d)(ha:ct d=true){key:zV}{es:List MapEntry}{r:Option (Nat×zV)}(h:kJ P t key es 0 r)(w:World):
  (Instr.findKey t key es).run P w=.ok r w:=by
 simp only[Instr.findKey,Sem.run_bind,run_underlying hd,Result.andThen_ok,yV ha];cases es with
 |nil=>simp only[kJ]at h;subst h;simp
 |cons e es=>simp only[reduceCtorEq,xaS];exact kY h w
theorem iZ.run{zero:zV}{ok:Bool}{m key:zV}{k:zV->Prop}{t kt e:TypeId}{kd:TypeDesc}(h:iZ P kt zero ok H m key k){w:World}(hw:Own g H w){i:TypeInfo}
 (ht:P.underlying t=some (.map kt e))(hk:P.underlying kt=some kd)(hp:ct kd=true)(hi:P.info? e=some i)(hz:i.zero=some zero):
  ∃v,(Instr.lookup t m key ok).run P w=.ok v w/\k v:=by
 obtain⟨es,r,hm,hc,hf,hkv⟩:=h;have dX:=λb=>hc b w;have oz:=fm (P:=P) hk hp hf w;refine⟨_,?_,hkv⟩;rcases hm.run (P:=P) hw with⟨rfl,rfl⟩|⟨b,clock,rfl,hg⟩
 ·cases r with
  |none=>cases ok<;>simp[Instr.lookup,run_underlying ht,dX,oz,dw hi hz]
  |some x=>obtain⟨j,v⟩:=x;cases ok<;>simp[Instr.lookup,run_underlying ht,dX,oz]
 ·cases r with
  |none=>cases ok<;>simp[Instr.lookup,run_underlying ht,dX,oz,dw hi hz,hg]
  |some x=>obtain⟨j,v⟩:=x;cases ok<;>simp[Instr.lookup,run_underlying ht,dX,oz,hg]
theorem gS.run{m key val:zV}{k:Hp->Prop}{t kt e:TypeId}{kd:TypeDesc}(h:gS P kt H m key val k){w:World}(hw:Own g H w)
 (ht:P.underlying t=some (.map kt e))(hk:P.underlying kt=some kd)(hp:ct kd=true):
  ∃w' H',(Instr.mapUpdate t m key val).run P w=.ok () w'/\Own g H' w'/\k H':=by
 obtain⟨b,es,clock,r,rfl,hc,hf,hr⟩:=h;have dX:=λb=>hc b w;have oz:=fm (P:=P) hk hp hf w;cases r with
 |none=>
  obtain⟨H',hu,hkk⟩:=hr;obtain⟨w',hs,ho⟩:=bC (P:=P) hw _ _ hu;refine⟨w',H',?_,ho,hkk⟩;simp[Instr.mapUpdate,run_underlying ht,aP hw hu.mem,dX,oz,hs]
 |some x=>
  obtain⟨j,v⟩:=x;obtain⟨hsame,hj,H',hu,hkk⟩:=hr;obtain⟨w',hs,ho⟩:=bC (P:=P) hw _ _ hu;refine⟨w',H',?_,ho,hkk⟩;have XN:=hsame es[j] (xbm hj);simp[Instr.mapUpdate,run_underlying ht,aP hw hu.mem,dX,oz,hj,Instr.keyThatStays,XN,hs]
theorem cT.same{b:Nat}{o:Obj}{H:Hp}(hm:(b,o)∈H):cT b o o H H:=by
 induction H with
 |nil=>simp at hm
 |cons x R ih=>
  rcases xaf.1 hm with e|hm'
  ·subst e;exact .head _
  exact .tail (ih hm')
theorem o6.run{m key:zV}{k:Hp->Prop}{t kt e ty:TypeId}{kd:TypeDesc}{as:Array TypeId}(h:o6 P kt H m key k){w:World}(hw:Own g H w)(has:as[0]? =some t)
 (ht:P.underlying t=some (.map kt e))(hk:P.underlying kt=some kd)(hp:ct kd=true):
  ∃w' H',(Builtin.delete_ as ty #[m,key]).run P w=.ok (.tuple #[]) w'/\Own g H' w'/\k H':=by
 obtain⟨hc,h⟩:=h;have dX:=λb=>hc b w;rcases h with⟨rfl,hkk⟩|⟨b,es,clock,r,rfl,hf,hr⟩
 ·exact⟨w,H,by simp[Builtin.delete_,has,run_underlying ht,dX],hw,hkk⟩
 have oz:=fm (P:=P) hk hp hf w;cases r with
 |none=>
  obtain⟨hm,hkk⟩:=hr;obtain⟨w',hs,ho⟩:=bC (P:=P) hw _ _ (cT.same hm);exact⟨w',_,by simp[Builtin.delete_,has,run_underlying ht,aP hw hm,dX,oz,hs],ho,hkk⟩
 |some x=>
  obtain⟨j,v⟩:=x;obtain⟨H',hu,hkk⟩:=hr;obtain⟨w',hs,ho⟩:=bC (P:=P) hw _ _ hu;exact⟨w',_,by simp[Builtin.delete_,has,run_underlying ht,aP hw hu.mem,dX,oz,hs],ho,hkk⟩
theorem Tn.run{x:zV}{k:zV->Hp->Prop}(h:Tn H x k){w:World}(hw:Own g H w){t kt e:TypeId}(ht:P.underlying t=some (.map kt e)):
  ∃v w' H',(Instr.range t x).run P w=.ok v w'/\Own g H' w'/\k v H':=by
 rcases h with⟨rfl,hk⟩|⟨m,es,clock,rfl,hm,hk⟩
 ·refine⟨_,_,_,?_,hw.alloc _,hk _ hw.fresh⟩;simp[Instr.range,run_underlying ht]
 refine⟨_,_,_,?_,hw.alloc _,hk _ hw.fresh⟩;simp[Instr.range,run_underlying ht,aP hw hm]
theorem kC{w:World}(hw:Own g H w){b:Nat}{mo:Option Nat}{since last:Nat}{seen:Array Nat}(hm:(b,Obj.mapIter mo since seen last)∈H):(getObj b).run P w=.ok (.mapIter mo since seen last) w:=by
 have:=hw.has _ hm;simp only at this;simp[getObj,Sem.run,this]
theorem qH{w:World}(hw:Own g H w){b:Nat}{mo Xp:Option Nat}{since last since' last':Nat}{seen seen':Array Nat}{H':Hp}(hu:cT b (.mapIter mo since seen last) (.mapIter Xp since' seen' last') H H'):
  ∃w',(setObj b (.mapIter Xp since' seen' last')).run P w=.ok () w'/\Own g H' w':=by
 have hm:=hw.has _ hu.mem;simp only at hm;refine⟨{w with heap:=w.heap.setIfInBounds b (.mapIter Xp since' seen' last')},by simp[setObj,Sem.run,hm],?_⟩;have hlt:=hw.lt hu.mem;refine hw.bJ hu rfl rfl rfl ?_ ?_
 ·simp only at hlt;simp[hlt]
 intro c hc;rw[xb0,xad (λe=>hc (Eq.symm e))]
theorem Il.run{it:zV}{k:zV->Prop}(h:Il H it k){w:World}(hw:Own g H w):∃v,(Instr.entry it).run P w=.ok v w/\k v:=by
 obtain⟨b,m,since,seen,stamp,clock,es,e,rfl,hb,hs,hm,hf,hk⟩:=h;refine⟨_,?_,hk⟩;simp[Instr.entry,kC (P:=P) hw hb,hs,aP (P:=P) hw hm,hf]
theorem qI(n:Nat)(hn:0<n){w:World}:∃i w',(choose (.mapNext n)).run P w=.ok i w'/\i<n/\(w'=w\/w'=w.drew):=by
 by_cases h:n<=1
 ·exact⟨0,w,by simp[choose,Sem.run,Question.forced,h],hn,.inl rfl⟩
 exact⟨_,_,by simp only[choose,Sem.run,Question.forced,h,decide_false,xaE,xaS];rfl,xaZ _ hn,.inr rfl⟩
theorem Si.run{it:zV}{k:zV->Hp->Prop}(h:Si H it k){w:World}(hw:Own g H w){ty:TypeId}:
  ∃v w' H',(Instr.next it false ty).run P w=.ok v w'/\Own g H' w'/\k v H':=by
 obtain⟨b,mo,since,seen,last,rfl,hb,h⟩:=h;have hgi:=kC (P:=P) hw hb;cases mo with
 |none=>exact⟨_,w,H,by simp[Instr.next,hgi],hw,h⟩
 |some m=>
  obtain⟨es,clock,hm,KN,Ut,Up⟩:=h;have hgm:=aP (P:=P) hw hm;have Ux:(!seen.isEmpty&& !es.isEmpty&&es.all (λe=>decide (e.born≥last)))=false:=by
   cases he:es.isEmpty
   ·have hne:es≠#[]:=by intro e;rw[e]at he;simp at he
    have:es.all (λe=>decide (e.born≥last))=false:=by
     rw[<-Bool.not_eq_true,Array.all_eq_true];intro aI;have h0:0<es.size:=Array.size_pos_iff.2 hne;have:=aI 0 h0;have h2:=(KN es[0] zI).2;simp only[ge_iff_le,xaO]at this;omega
    rw[this];simp
   simp
  have hold:((es.filter λe=> !seen.contains e.born).filter λe=>decide (e.born<since))=es.filter λe=> !seen.contains e.born:=by
   rw[Array.filter_eq_self];intro e he;have:=(xdV.1 he).1;exact xaA (KN e (by simpa using this)).1
  have hnew:((es.filter λe=> !seen.contains e.born).filter λe=>decide (e.born≥since))=#[]:=by
   rw[Array.filter_eq_empty_iff];intro e he;have:=(xdV.1 he).1;have:=(KN e (by simpa using this)).1;simp only[ge_iff_le,xaO];omega
  generalize hleft:(es.filter λe=> !seen.contains e.born)=left at hold hnew;have hrun:∀(rest:Sem zV),(Instr.next (.pointer (some ⟨b,0,none⟩)) false ty).run P w=((choose (.mapNext (((if left.isEmpty then#[none]else#[])++left.map some).size))).run P w).andThen λi w=>(Sem.run P (match((if left.isEmpty then#[none]else#[])++left.map some)[i]? with
    |some (some e)=>do setObj b (.mapIter (some m) since (seen.push e.born) clock);pure (.tuple #[.bool true,e.key,e.val])
    |some none=>pure (.tuple #[.bool false])
    |none=>stuck "Next: no such candidate" :Sem zV) w):=by
   intro _;simp only[Instr.next,Sem.run_bind,hgi,Result.andThen_ok,hgm,Ux,xaE,xaS,hleft,hold,hnew,xdg,Sem.run_pure];rfl
  rw[hrun (pure undef)];by_cases RM:left=#[]
  ·subst RM;simp only[Array.isEmpty_empty,xa0,xd0,xdg];refine⟨_,w,H,?_,hw,Up λe he=>?_⟩
   ·simp[choose,Sem.run,Question.forced]
   have:=Array.filter_eq_empty_iff.1 hleft e (by simpa using he);simpa using this
  have hne:left.isEmpty=false:=by simpa using RM
  have hpos:0<left.size:=Array.size_pos_iff.2 RM;simp only[hne,xaE,xaS,xcS,Array.size_map];obtain⟨i,w1,hc,hi,gD⟩:=qI (P:=P) (w:=w) left.size hpos;rw[hc];simp only[Result.andThen_ok];have fM:(left.map some)[i]? =some (some left[i]):=by simp[hi]
  simp only[fM];have hmem:left[i]∈es.filter λe=> !seen.contains e.born:=by rw[hleft];exact Array.getElem_mem hi
  obtain⟨MM,SS⟩:=xdV.1 hmem;obtain⟨H',hu,hk⟩:=Ut left[i] (by simpa using MM) (by simpa using SS);have Ec:Own g H w1:=by rcases gD with rfl|rfl;exact hw;exact hw.drew
  obtain⟨w2,hs,yo⟩:=qH (P:=P) Ec hu;exact⟨_,w2,H',by simp[hs],yo,hk⟩
end
end Go.Sx
namespace Go.Sx
open Go
section
variable {P:Program} {g:Gh} {H:Hp} {K:zV->Hp->Prop} {KP:List PanicEntry->Hp->Prop}
def VR(x:zV):Option zV:=
 match x with
 | .pointer (some a)=>some (.pointer (some a))
 | .func (.func f) a b=>some (.func (.func f) a b)
 | .iface t v=>some (.iface t v)
 |_=>none
def Nil(x:zV)(k:zV->Prop):Prop:=∃v,VR x=some v/\k v
def PMk(fn:Fn)(a b:List zV)(k:zV->Prop):Prop:=k (.func fn a.toArray b.toArray)
def Build(P:Program)(t:TypeId)(parts:List (Nat×zV))(k:zV->Prop):Prop:=∃v,(∀w,(Instr.build t parts.toArray).run P w=.ok v w)/\k v
def bS(P:Program)(g:Gh)(o:Oper)(ρ:Operand->zV)(H:Hp)(k:zV->Prop):Prop:=
 ∃v,(∀w,Own g H w->(execOp ρ o).run P w=.ok (.value v) w)/\k v
def D7:Operand->Bool
 | .const _=>true
 |_=>false
def Tf(d:TypeDesc)(x y:Operand):BK:=
 match wR d with
 | .ptr=>cond (D7 x||D7 y) .ptr .other
 |k=>k
theorem Se{d:TypeDesc}{x y:Operand}(h:Tf d x y=.other->False):wR d=Tf d x y:=by
 unfold Tf at h⊢;cases hb:wR d<;>simp only[hb]at h⊢;cases hc:(D7 x||D7 y)<;>simp only[hc,xaw,xam]at h⊢;exact(h trivial).elim
def cy(P:Program)(t:TypeId):Option Nat:=match P.info? t with|some i=>some i.size|none=>none
def dG(P:Program)(t:TypeId):Option zV:=match P.info? t with|some i=>i.zero|none=>none
def sQ(P:Program)(t:TypeId):Option Nat:=match P.info? t with|some i=>some i.bytes|none=>none
def z9(P:Program)(g:Gh)(o:Oper)(ρ:Operand->zV)(H:Hp)(k:zV->Prop):Prop:=
 match o.op with
 | .move x=>k (ρ x)
 | .assign x=>k (ρ x)
 | .pick c a b=>aB (ρ c) (ρ a) (ρ b) k
 | .load t a=>
  match P.underlying t,cy P t with
  |some d,some n=>cond (ct d) (av n H (ρ a) k) (Ld H (ρ a) k)
  |_,_=>False
 | .nilCheck x=>Nil (ρ x) k
 | .binOp op t x y _=>
  match P.underlying t with
  |some d=>match Tf d x y with
   | .other=>bS P g o ρ H k
   |bk=>ae bk op (ρ x) (ρ y) k
  |none=>False
 | .unOp op _ x=>Un op (ρ x) k
 | .convert s d x=>
  match P.underlying s,P.underlying d with
  |some _,some (.int kd)=>aO kd (ρ x) k
  |some (.slice e),some .string=>match P.underlying e with
   |some (.int .u8)=>gB H (ρ x) k
   |_=>bS P g o ρ H k
  |_,_=>bS P g o ρ H k
 | .index t x i=>
  match P.underlying t with
  |some .string=>Qn (ρ x) (ρ i) k
  |_=>bS P g o ρ H k
 | .fieldAddr s x f=>
  match P.underlying s with
  |some (.struct fs)=>match fs[f]? with
   |some fl=>match cy P fl.type with
    |some (_+1)=>ah fl.offset (ρ x) k
    |_=>False
   |none=>False
  |_=>False
 | .field s x f=>
  match P.underlying s with
  |some (.struct fs)=>match fs[f]? with
   |some fl=>match P.underlying fl.type,cy P fl.type with
    |some d,some n=>cond (ct d) (Pk fl.offset n (ρ x) k) (Iz fl.offset (ρ x) k)
    |_,_=>False
   |none=>False
  |_=>False
 | .indexAddr t x i=>
  match P.underlying t with
  |some (.slice e)=>match cy P e with
   |some n=>aj n (ρ x) (ρ i) k
   |none=>False
  |some (.array len e)=>match cy P e with
   |some n=>gm len n (ρ x) (ρ i) k
   |none=>False
  |_=>False
 | .slice t x lo hi none=>
  match P.underlying t with
  |some (.slice e)=>match cy P e with
   |some n=>dD n (ρ x) (lo.map ρ) (hi.map ρ) k
   |none=>False
  |_=>bS P g o ρ H k
 | .extract t i=>Ext i (ρ t) k
 | .lookup t m key ok=>
  match P.underlying t with
  |some (.map kt e)=>match P.underlying kt,dG P e with
   |some kd,some z=>cond (plainKey kd) (qP kd z ok H (ρ m) (ρ key) k) (cond (ct kd) (iZ P kt z ok H (ρ m) (ρ key) k) (bS P g o ρ H k))
   |_,_=>False
  |_=>False
 | .makeFunc fn a b=>PMk fn (a.toList.map ρ) (b.toList.map ρ) k
 | .build t parts=>Build P t (parts.toList.map λp=>(p.1,ρ p.2)) k
 | .makeInterface t x=>
  match P.underlying t with
  |some (.interface _)=>False
  |some _=>k (.iface t (ρ x))
  |none=>False
 | .call c=>
  match c.callee with
  | .builtin .len=>
   match c.args.toList,c.argTypes.toList with
   | [x],[t]=>match P.underlying t with
    |some (.slice _)=>aX (ρ x) k
    |some (.map _ _)=>zv H (ρ x) k
    |some .string=>dR (ρ x) k
    |_=>bS P g o ρ H k
   |_,_=>False
  | .builtin .max=>match c.args.toList,c.argTypes.toList with
   | [x,y],[t,_]=>match P.underlying t with
    |some (.int _)=>Pj (ρ x) (ρ y) k
    |_=>bS P g o ρ H k
   |_,_=>bS P g o ρ H k
  | .builtin .min=>match c.args.toList,c.argTypes.toList with
   | [x,y],[t,_]=>match P.underlying t with
    |some (.int _)=>Bz (ρ x) (ρ y) k
    |_=>bS P g o ρ H k
   |_,_=>bS P g o ρ H k
  | .builtin _=>bS P g o ρ H k
  |_=>False
 |_=>bS P g o ρ H k
theorem mapList{α β:Type}(f:α->β)(a:Array α):(a.toList.map f).toArray=a.map f:=by rw[<-xdv,xcE]
theorem VO{α:Type}{a:Array α}{x:α}(h:a.toList=[x]):a=#[x]:=by cases a;simp_all
theorem zl{α:Type}{a:Array α}{x y:α}(h:a.toList=[x,y]):a=#[x,y]:=by cases a;simp_all
theorem Ld.fix{p:zV}{k:zV->Prop}(h:Ld H p k):∃v,k v/\Ld H p (· =v):=by
 obtain⟨b,off,c,T,fz,v,h1,h2,h3,hk⟩:=h;exact⟨v,hk,b,off,c,T,fz,v,h1,h2,h3,rfl⟩
theorem av.fix{n:Nat}{p:zV}{k:zV->Prop}(h:av n H p k):∃v,k v/\av n H p (· =v):=by
 obtain⟨b,off,c,T,fz,h1,h2,h3,hk⟩:=h;exact⟨_,hk,b,off,c,T,fz,h1,h2,h3,rfl⟩
theorem qP.fix{kd:TypeDesc}{zero:zV}{ok:Bool}{m key:zV}{k:zV->Prop}(h:qP kd zero ok H m key k):∃v,k v/\qP kd zero ok H m key (· =v):=by
 obtain⟨es,r,h1,h2,hk⟩:=h;exact⟨_,hk,es,r,h1,h2,rfl⟩
theorem zv.fix{x:zV}{k:zV->Prop}(h:zv H x k):∃v,k v/\zv H x (· =v):=by
 obtain⟨m,h1,⟨h2,hk⟩|⟨b,es,clock,h2,h3,hk⟩⟩:=h
 ·exact⟨_,hk,m,h1,.inl ⟨h2,rfl⟩⟩
 exact⟨_,hk,m,h1,.inr ⟨b,es,clock,h2,h3,rfl⟩⟩
theorem iZ.fix{kt:TypeId}{zero:zV}{ok:Bool}{m key:zV}{k:zV->Prop}(h:iZ P kt zero ok H m key k):∃v,k v/\iZ P kt zero ok H m key (· =v):=by
 obtain⟨es,r,h1,h2,h3,hk⟩:=h;exact⟨_,hk,es,r,h1,h2,h3,rfl⟩
theorem Bj{F:zV->ByteArray->Sem (ForInStep ByteArray)}(hF:∀(b:UInt8) s,F (.int .u8 b.toNat) s=pure (.yield (s.push b))){l:List UInt8}(s:ByteArray)(w:World):
  (forIn (l.map λb=>Value.int .u8 b.toNat) s F).run P w=.ok (⟨s.data++l.toArray⟩:ByteArray) w:=by
 induction l generalizing s with
 |nil=>simp
 |cons b r ih=>
  simp only[xaM,xd1,hF,Sem.run_bind,Sem.run_pure,Result.andThen_ok];rw[ih];congr 1;simp[ByteArray.push]
theorem gB.run{x:zV}{k:zV->Prop}(h:gB H x k){w:World}(hw:Own g H w):∃v,(Conv.bytesToString x).run P w=.ok v w/\k v:=by
 obtain⟨base,n,c,bs,rfl,hc,hn,hk⟩:=h;refine⟨_,?_,hk⟩;cases base with
 |none=>
  simp only[Cells]at hc;have:bs=[]:=by simpa using xbL Array.size hc
  subst this;rfl
 |some a=>
  have:=Cells.run (P:=P) (size:=1) (cap:=c) hw (by rw[xb6];exact hc);simp only[Builtin.firstCells,xb6]at this;simp only[Conv.bytesToString,Sem.run_bind,this,Result.andThen_ok];rw[List.forIn_toArray,Bj (P:=P) (l:=bs) (λb s=>by simp)];have e:ByteArray.empty.data=#[]:=rfl;simp[e]
theorem gB.fix{x:zV}{k:zV->Prop}(h:gB H x k):∃v,k v/\gB H x (· =v):=by
 obtain⟨base,n,c,bs,h1,h2,h3,hk⟩:=h;exact⟨_,hk,base,n,c,bs,h1,h2,h3,rfl⟩
def Reads(P:Program)(g:Gh)(o:Oper)(ρ:Operand->zV)(H:Hp)(k:zV->Prop):Prop:=
 ∃v,k v/\∀w,Own g H w->(execOp ρ o).run P w=.ok (.value v) w
theorem Reads.mk{o:Oper}{ρ:Operand->zV}{k:zV->Prop}{s:Sem zV}(he:execOp ρ o=(do pure (.value (<-s))))(h:∃v,k v/\∀w,Own g H w->s.run P w=.ok v w):Reads P g o ρ H k:=by
 obtain⟨v,hk,hr⟩:=h;refine⟨v,hk,λw hw=>?_⟩;rw[he];simp only[Sem.run_bind,hr w hw,Result.andThen_ok,Sem.run_pure]
theorem bS.reads{o:Oper}{ρ:Operand->zV}{k:zV->Prop}(h:bS P g o ρ H k):Reads P g o ρ H k:=let ⟨v,h1,h2⟩:=h;⟨v,h2,h1⟩
theorem SA{s:Sem zV}{k:zV->Prop}{C:(zV->Prop)->Prop}(Yr:∃v,k v/\C (· =v))(hrun:∀(k:zV->Prop),C k->∀w,Own g H w->∃v,s.run P w=.ok v w/\k v):
  ∃v,k v/\∀w,Own g H w->s.run P w=.ok v w:=by
 obtain⟨v,hk,hc⟩:=Yr;refine⟨v,hk,λw hw=>?_⟩;obtain⟨u,hr,rfl⟩:=hrun _ hc w hw;exact hr
theorem aV{t:TypeId}{n:Nat}(h:cy P t=some n):∃i,P.info? t=some i/\i.size=n:=by
 unfold cy at h;split at h
 ·rename_i i hi;exact⟨i,hi,by simpa using h⟩
 simp at h
theorem cz{t:TypeId}{z:zV}(h:dG P t=some z):∃i,P.info? t=some i/\i.zero=some z:=by
 unfold dG at h;split at h
 ·rename_i i hi;exact⟨i,hi,by simpa using h⟩
 simp at h
theorem jt{o:Oper}{ρ:Operand->zV}{k:zV->Prop}(h:z9 P g o ρ H k):Reads P g o ρ H k:=by
 obtain⟨dst,op,type,pos,after,guard⟩:=o;cases op<;>simp only[z9]at h
 case move x=>exact⟨_,h,λw _=>rfl⟩
 case assign x=>exact⟨_,h,λw _=>rfl⟩
 case pick c a b=>
  obtain⟨t,hc,hk⟩:=h;refine⟨_,hk,λw _=>?_⟩;cases t<;>simp[execOp,hc,asBool]
 case load t a=>
  split at h
  ·rename_i d n hd hn;obtain⟨i,hi,hin⟩:=aV hn;refine Reads.mk (s:=Instr.loadAt t (ρ a)) rfl ?_;cases ha:ct d<;>simp only[ha,xaw,xam]at h
   ·exact SA h.fix λk hk w hw=>hk.run hw hd ha
   exact SA h.fix λk hk w hw=>hk.run hw hd ha hi hin
  exact h.elim
 case nilCheck x=>
  obtain⟨v,hv,hk⟩:=h;refine⟨v,hk,λw _=>?_⟩;unfold VR at hv;simp only[execOp];split at hv<;>simp only[xap,reduceCtorEq]at hv<;>subst hv<;>simp_all
 case binOp op t x y yt=>
  split at h
  ·rename_i d hd;split at h
   ·exact h.reads
   rename_i hbk;refine Reads.mk (s:=do eqGuard op t x y (ρ x) (ρ y);binOp op t (ρ x) (ρ y)) rfl ?_;obtain⟨v,hv,hk⟩:=h;exact⟨v,hk,λw _=>by
    obtain⟨u,hr,rfl⟩:=ae.run (P:=P) (k:=(· =v)) ⟨v,hv,rfl⟩ w (ox:=x) (oy:=y) hd (Se hbk);exact hr⟩
  exact h.elim
 case unOp op t x=>
  obtain⟨v,hv,hk⟩:=h;refine Reads.mk (s:=Op.unary op (ρ x)) rfl ⟨v,hk,λw _=>?_⟩;obtain⟨u,hr,rfl⟩:=Un.run (P:=P) (k:=(· =v)) ⟨v,hv,rfl⟩ w;exact hr
 case convert s d x=>
  split at h
  ·rename_i ds kd hs hd;obtain⟨j,n,hx,hk⟩:=h;refine Reads.mk (s:=Go.convert s d (ρ x)) rfl ⟨_,hk,λw _=>?_⟩;obtain⟨u,hr,rfl⟩:=aO.run (P:=P) (kd:=kd) (k:=(· =_)) ⟨j,n,hx,rfl⟩ w hs hd rfl;exact hr
  ·rename_i e hs hd;split at h
   ·rename_i he;refine Reads.mk (s:=Go.convert s d (ρ x)) rfl ?_;have:∀w,(Go.convert s d (ρ x)).run P w=(Conv.bytesToString (ρ x)).run P w:=λw=>by
     obtain⟨base,n,c,bs,hx,_⟩:=h;simp only[Go.convert,Sem.run_bind,run_underlying hs,run_underlying hd,Result.andThen_ok,hx,run_underlying he]
    simp only[this];exact SA h.fix λk hk w hw=>hk.run hw
   exact h.reads
  exact h.reads
 case index t x i=>
  split at h
  ·rename_i ht;obtain⟨s,kd,j,b,hx,hi,h0,hb,hk⟩:=h;refine Reads.mk (s:=Instr.index t (ρ x) (ρ i)) rfl ⟨_,hk,λw _=>?_⟩;simp[Instr.index,run_underlying ht,hx,hi,asIntOf,h0,hb]
  exact h.reads
 case fieldAddr s x f=>
  split at h<;>try exact h.elim
  rename_i fs hs;split at h<;>try exact h.elim
  rename_i fl hf;split at h<;>try exact h.elim
  rename_i m hm;obtain⟨i,hi,hin⟩:=aV hm;obtain⟨b,o,hx,hk⟩:=h;refine Reads.mk (s:=Instr.fieldAt s (ρ x) f) rfl ⟨_,hk,λw _=>?_⟩;obtain⟨u,hr,rfl⟩:=ah.run (P:=P) (k:=(· =_)) ⟨b,o,hx,rfl⟩ w hs hf hi zO rfl;exact hr
 case field s x f=>
  split at h<;>try exact h.elim
  rename_i fs hs;split at h<;>try exact h.elim
  rename_i fl hf;split at h<;>try exact h.elim
  rename_i d n hd hn;obtain⟨i,hi,hin⟩:=aV hn;refine Reads.mk (s:=Instr.field s (ρ x) f) rfl ?_;cases ha:ct d<;>simp only[ha,xaw,xam]at h
  ·obtain⟨cs,v,hx,hv,hk⟩:=h;refine⟨v,hk,λw _=>?_⟩;obtain⟨u,hr,rfl⟩:=Iz.run (P:=P) (k:=(· =v)) ⟨cs,v,hx,hv,rfl⟩ w hs hf hd ha rfl;exact hr
  obtain⟨cs,hx,hk⟩:=h;refine⟨_,hk,λw _=>?_⟩;obtain⟨u,hr,rfl⟩:=Pk.run (P:=P) (k:=(· =_)) ⟨cs,hx,rfl⟩ w hs hf hd ha hi hin rfl;exact hr
 case indexAddr t x ix=>
  refine Reads.mk (s:=Instr.indexAt t (ρ x) (ρ ix)) rfl ?_;split at h
  ·rename_i e ht;split at h<;>try exact h.elim
   rename_i n hn;obtain⟨i,hi,hin⟩:=aV hn;obtain⟨b,o,n',c,kd,j,hx,Yd,h0,h1,hk⟩:=h;refine⟨_,hk,λw _=>?_⟩;obtain⟨u,hr,rfl⟩:=aj.run (P:=P) (k:=(· =_)) ⟨b,o,n',c,kd,j,hx,Yd,h0,h1,rfl⟩ w ht hi hin;exact hr
  ·rename_i len e ht;split at h<;>try exact h.elim
   rename_i n hn;obtain⟨i,hi,hin⟩:=aV hn;obtain⟨b,o,kd,j,hx,Yd,h0,h1,hk⟩:=h;refine⟨_,hk,λw _=>?_⟩;obtain⟨u,hr,rfl⟩:=gm.run (P:=P) (k:=(· =_)) ⟨b,o,kd,j,hx,Yd,h0,h1,rfl⟩ w ht hi hin;exact hr
  exact h.elim
 case slice t x lo hi mx=>
  cases mx with
  |some m=>simp only at h;exact h.reads
  |none=>
   simp only at h;split at h
   ·rename_i e ht;split at h<;>try exact h.elim
    rename_i n hn;obtain⟨i,hi',hin⟩:=aV hn;obtain⟨a,n',c,l,hh,hx,hl,mQ,h0,h1,h2,hk⟩:=h;refine Reads.mk (s:=Instr.sliceAt t (ρ x) (lo.map ρ) (hi.map ρ) none) rfl ⟨_,hk,λw _=>?_⟩;obtain⟨u,hr,rfl⟩:=dD.run (P:=P) (k:=(· =_)) ⟨a,n',c,l,hh,hx,hl,mQ,h0,h1,h2,rfl⟩ w ht hi' hin;exact hr
   exact h.reads
 case extract t i=>
  obtain⟨vs,v,hx,hv,hk⟩:=h;refine Reads.mk (s:=Instr.extract (ρ t) i) rfl ⟨v,hk,λw _=>?_⟩;obtain⟨u,hr,rfl⟩:=Ext.run (P:=P) (k:=(· =v)) ⟨vs,v,hx,hv,rfl⟩ w;exact hr
 case lookup t m key ok=>
  split at h<;>try exact h.elim
  rename_i kt e ht;split at h<;>try exact h.elim
  rename_i kd z yw hz;obtain⟨i,hi,tT⟩:=cz hz;cases hp:plainKey kd<;>simp only[hp,xaw,xam]at h
  ·cases pJ:ct kd<;>simp only[pJ,xaw,xam]at h
   ·exact h.reads
   exact Reads.mk (s:=Instr.lookup t (ρ m) (ρ key) ok) rfl (SA h.fix λk hk w hw=>hk.run hw ht yw pJ hi tT)
  exact Reads.mk (s:=Instr.lookup t (ρ m) (ρ key) ok) rfl (SA h.fix λk hk w hw=>hk.run hw ht yw hp hi tT)
 case makeFunc fn a b=>
  refine⟨_,h,λw _=>?_⟩;simp[execOp,Instr.makeFunc,mapList]
 case build t parts=>
  obtain⟨v,hr,hk⟩:=h;refine Reads.mk (s:=Instr.build t (parts.map λ(i,x)=>(i,ρ x))) rfl ⟨v,hk,λw _=>?_⟩;have:=hr w;rw[mapList (λp:Nat×Operand=>(p.1,ρ p.2)) parts]at this;exact this
 case makeInterface t x=>
  split at h
  ·exact h.elim
  ·rename_i d Ry hd;refine Reads.mk (s:=Instr.makeInterface t (ρ x)) rfl ⟨_,h,λw _=>?_⟩;simp only[Instr.makeInterface,Sem.run_bind,run_underlying hd,Result.andThen_ok];cases d<;>first|rfl|exact absurd hd (Ry _)
  exact h.elim
 case call c=>
  obtain⟨callee,args,argTypes⟩:=c;cases callee with
  |value f=>simp only at h
  |invoke r m=>simp only at h
  |builtin b=>
   cases b<;>simp only at h<;>try exact h.reads
   case max=>
    split at h<;>try exact h.reads
    rename_i x y t t' hx ht;split at h<;>try exact h.reads
    have hx:=zl hx;have ht:=zl ht;subst hx;subst ht;obtain⟨kd,a,b,h1,h2,hk⟩:=h;refine Reads.mk (s:=Builtin.max_ #[t,t'] type #[ρ x,ρ y]) (by simp[execOp,resolve,invoke,builtin,bind,Sem.bind];rfl) ⟨_,hk,λw _=>?_⟩;simp[Builtin.max_,Builtin.max2,h1,h2]
   case min=>
    split at h<;>try exact h.reads
    rename_i x y t t' hx ht;split at h<;>try exact h.reads
    have hx:=zl hx;have ht:=zl ht;subst hx;subst ht;obtain⟨kd,a,b,h1,h2,hk⟩:=h;refine Reads.mk (s:=Builtin.min_ #[t,t'] type #[ρ x,ρ y]) (by simp[execOp,resolve,invoke,builtin,bind,Sem.bind];rfl) ⟨_,hk,λw _=>?_⟩;simp[Builtin.min_,Builtin.min2,h1,h2]
   split at h<;>try exact h.elim
   rename_i x t hx ht;have hx:=VO hx;have ht:=VO ht;subst hx;subst ht;split at h
   ·rename_i e hd;refine Reads.mk (s:=Builtin.len_ #[t] type #[ρ x]) (by simp[execOp,resolve,invoke,builtin,bind,Sem.bind];rfl) ?_;obtain⟨a,n,c,hx,hk⟩:=h;refine⟨_,hk,λw _=>?_⟩;obtain⟨u,hr,rfl⟩:=aX.run (P:=P) (k:=(· =_)) ⟨a,n,c,hx,rfl⟩ w (ty:=type) hd;exact hr
   ·rename_i e e' hd;refine Reads.mk (s:=Builtin.len_ #[t] type #[ρ x]) (by simp[execOp,resolve,invoke,builtin,bind,Sem.bind];rfl) ?_;exact SA h.fix λk hk w hw=>hk.run hw hd
   ·rename_i hd;refine Reads.mk (s:=Builtin.len_ #[t] type #[ρ x]) (by simp[execOp,resolve,invoke,builtin,bind,Sem.bind];rfl) ?_;obtain⟨s,hx,hk⟩:=h;exact⟨_,hk,λw _=>by simp[Builtin.len_,run_underlying hd,hx,goInt]⟩
   exact h.reads
 all_goals exact h.reads
def valOf(o:Oper)(ρ:Operand->zV)(v:zV):Prop:=
 match o.op with
 | .move x=>v=ρ x
 | .assign x=>v=ρ x
 | .pick c a b=>∀t,ρ c=.bool t->v=cond t (ρ a) (ρ b)
 |_=>True
theorem mA{o:Oper}{ρ:Operand->zV}{k:zV->Prop}(h:z9 P g o ρ H k):∃v,k v/\(∀w,Own g H w->(execOp ρ o).run P w=.ok (.value v) w)/\valOf o ρ v:=by
 obtain⟨dst,op,type,pos,after,guard⟩:=o;cases op
 case move x=>exact⟨_,h,λw _=>rfl,rfl⟩
 case assign x=>exact⟨_,h,λw _=>rfl,rfl⟩
 case pick c a b=>
  obtain⟨t,hc,hk⟩:=h;refine⟨_,hk,λw _=>?_,λt' ht'=>?_⟩
  ·cases t<;>simp[execOp,hc,asBool]
  rw[hc]at ht';simp only[Value.bool.injEq]at ht';subst ht';rfl
 all_goals
  obtain⟨v,hk,hr⟩:=jt h;exact⟨v,hk,hr,trivial⟩
end
end Go.Sx
namespace Go.Sx
open Go
section
variable {P:Program} {g:Gh} {H:Hp} {K:zV->Hp->Prop} {KP:List PanicEntry->Hp->Prop}
def ai(P:Program)(t len:Nat)(parts:List (Nat×zV))(H:Hp)(k:zV->Hp->Prop):Prop:=
 ∃cs,(∃e n z,P.underlying t=some (.slice e)/\cy P e=some n/\dG P e=some z/\len*n<=2^24/\
   Instr.fill (λi=>some (i*n,n)) ((Array.range (len*n)).map (z.cells[· %z.cells.size]!)) parts=some cs/\
   By H (.cells cs e zZ) λb H'=>k (.slice (some ⟨b,0,none⟩) len len) H')
def MF(P:Program)(g:Gh)(o:Oper)(ρ:Operand->zV)(H:Hp)(K:zV->Hp->Prop)(KP:List PanicEntry->Hp->Prop):Prop:=
 match o.op with
 | .alloc t=>match dG P t with
  |some z=>By H (.cells z.cells t zZ) λb H'=>K (.pointer (some ⟨b,0,none⟩)) H'
  |none=>False
 | .box t x=>By H (.cells (ρ x).cells t zZ) λb H'=>K (.pointer (some ⟨b,0,none⟩)) H'
 | .store t a x=>match cy P t with
  |some n=>St n H (ρ a) (ρ x) λH'=>K undef H'
  |none=>False
 | .buildSlice t len parts=>ai P t len (parts.toList.map λp=>(p.1,ρ p.2)) H K
 | .makeMap _ none=>ni H K
 | .makeSlice t l c=>match P.underlying t with
  |some (.slice e)=>match cy P e,sQ P e,dG P e with
   |some n,some b,some z=>cW e n b z H (ρ l) (ρ c) K
   |_,_,_=>False
  |_=>False
 | .mapUpdate t m key x=>match P.underlying t with
  |some (.map kt _)=>match P.underlying kt with
   |some kd=>cond (plainKey kd) (fF kd H (ρ m) (ρ key) (ρ x) λH'=>K undef H') (cond (ct kd) (gS P kt H (ρ m) (ρ key) (ρ x) λH'=>K undef H') (dF P g o ρ H K KP))
   |none=>False
  |_=>False
 | .insert t m key x=>match P.underlying t with
  |some (.map kt _)=>match P.underlying kt with
   |some kd=>cond (plainKey kd) (fF kd H (ρ m) (ρ key) (ρ x) λH'=>K undef H') (cond (ct kd) (gS P kt H (ρ m) (ρ key) (ρ x) λH'=>K undef H') (dF P g o ρ H K KP))
   |none=>False
  |_=>False
 | .range t x=>match P.underlying t with
  |some (.map _ _)=>Tn H (ρ x) K
  |_=>dF P g o ρ H K KP
 | .next it false=>Si H (ρ it) K
 | .entry it=>Il H (ρ it) λv=>K v H
 | .call c=>
  match c.callee with
  | .value (.func f)=>cond (bg P f) (aa P g f (c.args.toList.map ρ).toArray H K KP) (dF P g o ρ H K KP)
  | .value f=>bQ P g (ρ f) (c.args.toList.map ρ).toArray H K KP
  | .builtin .append=>
   match c.args.toList,c.argTypes.toList with
   | [s,x],[t,t']=>match P.underlying t,P.underlying t' with
    |some (.slice e),some (.slice _)=>match cy P e,sQ P e,dG P e with
     |some n,some b,some z=>App P e n b z H (ρ s) (ρ x) K
     |_,_,_=>False
    |_,_=>dF P g o ρ H K KP
   |_,_=>False
  | .builtin .delete=>
   match c.args.toList,c.argTypes.toList with
   | [m,key],[t,_]=>match P.underlying t with
    |some (.map kt _)=>match P.underlying kt with
     |some kd=>cond (plainKey kd) (tg kd H (ρ m) (ρ key) λH'=>K (.tuple #[]) H') (cond (ct kd) (o6 P kt H (ρ m) (ρ key) λH'=>K (.tuple #[]) H') (dF P g o ρ H K KP))
     |none=>False
    |_=>False
   |_,_=>dF P g o ρ H K KP
  |_=>dF P g o ρ H K KP
 |_=>dF P g o ρ H K KP
theorem l9{t:TypeId}{n:Nat}(h:sQ P t=some n):∃i,P.info? t=some i/\i.bytes=n:=by
 unfold sQ at h;split at h
 ·rename_i i hi;exact⟨i,hi,by simpa using h⟩
 simp at h
theorem dF.ofValue{o:Oper}{ρ:Operand->zV}{s:Sem zV}(he:execOp ρ o=(do pure (.value (<-s))))(h:∀w,Own g H w->∃v w' H',s.run P w=.ok v w'/\Own g H' w'/\K v H'):dF P g o ρ H K KP:=by
 intro w hw;obtain⟨v,w',H',hr,ho,hk⟩:=h w hw;rw[he];simp only[Sem.run_bind,hr,Result.andThen_ok,Sem.run_pure];exact⟨H',ho,hk⟩
theorem dF.pB{o:Oper}{ρ:Operand->zV}{s:Sem Unit}(he:execOp ρ o=(do s;pure .skip))(h:∀w,Own g H w->∃w' H',s.run P w=.ok () w'/\Own g H' w'/\K undef H'):dF P g o ρ H K KP:=by
 intro w hw;obtain⟨w',H',hr,ho,hk⟩:=h w hw;rw[he];simp only[Sem.run_bind,hr,Result.andThen_ok,Sem.run_pure];exact⟨H',ho,hk⟩
theorem dn{f:FuncId}(h:bg P f=true)(args:Array zV)(w:World):(callFunc f args).run P w=.ok (.enter f args) w:=by
 unfold bg at h;split at h
 ·simp at h
 rename_i fn hf;simp only[xay,xbx]at h;obtain⟨h1,h2⟩:=h;have h3:fn.body.isNone=false:=by cases hb:fn.body<;>simp_all
 simp only[callFunc,Sem.run_bind,run_program,Result.andThen_ok,hf,show(fn.name== "runtime.NumGoroutine")=false from h1,h3,xaE,xaS];rfl
theorem bQ.op{o:Oper}{c:Call}{ρ:Operand->zV}{x:Operand}(ho:o.op=.call c)(hc:c.callee=.value x)(h:bQ P g (ρ x) (c.args.toList.map ρ).toArray H K KP):dF P g o ρ H K KP:=by
 obtain⟨f,first,captured,hf,fU,P9⟩:=h;rw[mapList]at P9;intro w hw;have hr:(execOp ρ o).run P w=.ok (.enter f (first++c.args.map ρ++captured)) w:=by
  simp only[execOp,ho,resolve,hc,Deferred.ofValue,hf,invoke];show(callFunc f (first++c.args.map ρ++captured)).run P w=_;exact dn fU _ w
 rw[hr];exact P9 w hw
theorem rS{o:Oper}{ρ:Operand->zV}(hρ:∀f,ρ (.func f)=.func (.func f) #[] #[])(h:MF P g o ρ H K KP):dF P g o ρ H K KP:=by
 unfold MF at h;split at h
 case h_1 t hop=>
  split at h
  ·rename_i z hz;obtain⟨i,hi,tT⟩:=cz hz;refine dF.ofValue (s:=Instr.alloc t true (.tuple #[])) (by simp only[execOp,hop]) λw hw=>⟨_,_,_,?_,hw.alloc _,h _ hw.fresh⟩;simp[Instr.alloc,dw hi tT,newVar,newRow]
  exact h.elim
 case h_2 t x hop=>
  refine dF.ofValue (s:=Instr.box t (ρ x)) (by simp only[execOp,hop]) λw hw=>⟨_,_,_,?_,hw.alloc _,h _ hw.fresh⟩;simp[Instr.box,newVar,newRow]
 case h_3 t a x hop=>
  split at h
  ·rename_i n hn;obtain⟨i,hi,hin⟩:=aV hn;exact dF.pB (s:=Instr.storeAt t (ρ a) (ρ x)) (by simp only[execOp,hop]) λw hw=>h.run hw hi hin
  exact h.elim
 case h_4 t len parts hop=>
  obtain⟨cs,e,n,z,ht,hn,hz,hl,hf,hk⟩:=h;obtain⟨i,hi,hin⟩:=aV hn;obtain⟨i',hi',tT⟩:=cz hz;have:i'=i:=xbt (hi'.symm.trans hi);subst this;subst hin;refine dF.ofValue (s:=Instr.buildSlice t len (parts.map λ(i,x)=>(i,ρ x))) (by simp only[execOp,hop]) λw hw=>⟨_,_,_,?_,hw.alloc _,hk _ hw.fresh⟩;have hl':¬(len*i'.size>2^24):=by omega
  have mP:(parts.map λ(x:Nat×Operand)=>(x.1,ρ x.2)).toList=parts.toList.map λp=>(p.1,ρ p.2):=by rw[xdv]
  by_cases h0:len*i'.size=0
  ·simp only[Instr.buildSlice,Sem.run_bind,run_underlying ht,Result.andThen_ok,run_sizeOf hi,hl',xaS,h0,xa0,Sem.run_pure];rw[h0]at hf;have Ru:Array.range 0=#[]:=rfl;simp only[Ru,xd0,List.map_toArray,xcu]at hf⊢;rw[mP,hf];simp[newRow]
  simp only[Instr.buildSlice,Sem.run_bind,run_underlying ht,Result.andThen_ok,run_sizeOf hi,hl',xaS,h0,dw hi tT,Sem.run_pure];simp[hf,newRow]
 case h_5 t hop=>
  refine dF.ofValue (s:=Instr.makeMap t none) (by simp only[execOp,hop];rfl) λw hw=>⟨_,_,_,?_,hw.alloc _,h _ hw.fresh⟩;simp[Instr.makeMap]
 case h_6 t l c hop=>
  split at h<;>try exact h.elim
  rename_i e ht;split at h<;>try exact h.elim
  rename_i n b z hn hb hz;obtain⟨i,hi,hin⟩:=aV hn;obtain⟨i',hi',tT⟩:=cz hz;obtain⟨i2,Ed,uR⟩:=l9 hb;have e1:i'=i:=xbt (hi'.symm.trans hi);have e2:i2=i:=xbt (Ed.symm.trans hi);subst e1;subst e2;exact dF.ofValue (s:=Instr.makeSlice t (ρ l) (ρ c)) (by simp only[execOp,hop]) λw hw=>h.run hw ht hi tT hin uR
 case h_7 t m key x hop=>
  split at h<;>try exact h.elim
  rename_i kt e ht;split at h<;>try exact h.elim
  rename_i kd yw;cases hp:plainKey kd<;>simp only[hp,xaw,xam]at h
  ·cases pJ:ct kd<;>simp only[pJ,xaw,xam]at h
   ·exact h
   exact dF.pB (s:=Instr.mapUpdate t (ρ m) (ρ key) (ρ x)) (by simp only[execOp,hop]) λw hw=>h.run hw ht yw pJ
  exact dF.pB (s:=Instr.mapUpdate t (ρ m) (ρ key) (ρ x)) (by simp only[execOp,hop]) λw hw=>h.run hw ht yw hp
 case h_8 t m key x hop=>
  split at h<;>try exact h.elim
  rename_i kt e ht;split at h<;>try exact h.elim
  rename_i kd yw;cases hp:plainKey kd<;>simp only[hp,xaw,xam]at h
  ·cases pJ:ct kd<;>simp only[pJ,xaw,xam]at h
   ·exact h
   exact dF.pB (s:=Instr.mapUpdate t (ρ m) (ρ key) (ρ x)) (by simp only[execOp,hop]) λw hw=>h.run hw ht yw pJ
  exact dF.pB (s:=Instr.mapUpdate t (ρ m) (ρ key) (ρ x)) (by simp only[execOp,hop]) λw hw=>h.run hw ht yw hp
 case h_9 t x hop=>
  split at h
  ·rename_i kt e ht;exact dF.ofValue (s:=Instr.range t (ρ x)) (by simp only[execOp,hop]) λw hw=>h.run hw ht
  exact h
 case h_10 it hop=>
  exact dF.ofValue (s:=Instr.next (ρ it) false o.type) (by simp only[execOp,hop]) λw hw=>h.run hw
 case h_11 it hop=>
  exact dF.ofValue (s:=Instr.entry (ρ it)) (by simp only[execOp,hop]) λw hw=>let ⟨v,hr,hk⟩:=h.run hw;⟨v,w,H,hr,hw,hk⟩
 case h_12 c hop=>
  split at h
  ·rename_i f hc;cases fU:bg P f<;>simp only[fU,xaw,xam]at h
   ·exact h
   rw[mapList]at h;intro w hw;have hr:(execOp ρ o).run P w=.ok (.enter f (c.args.map ρ)) w:=by
    simp only[execOp,hop,resolve,hc,Deferred.ofValue,hρ,invoke];show(callFunc f ((#[]++c.args.map ρ)++ #[])).run P w=_;rw[xcS,xdg];exact dn fU _ w
   rw[hr];exact h w hw
  ·rename_i x _ hc;exact bQ.op hop hc h
  ·rename_i hc;split at h<;>try exact h.elim
   rename_i s x t t' hx ht;have hx:=zl hx;have ht:=zl ht;split at h
   ·rename_i e e' hd cV;split at h<;>try exact h.elim
    rename_i n b z hn hb hz;obtain⟨i,hi,hin⟩:=aV hn;obtain⟨i',hi',tT⟩:=cz hz;obtain⟨i2,Ed,uR⟩:=l9 hb;have e1:i'=i:=xbt (hi'.symm.trans hi);have e2:i2=i:=xbt (Ed.symm.trans hi);subst e1;subst e2;refine dF.ofValue (s:=Builtin.append_ #[t,t'] o.type #[ρ s,ρ x]) ?_ λw hw=>h.run hw hd ⟨_,cV⟩ hi tT hin uR;simp only[execOp,hop,resolve,hc,hx,ht,invoke,builtin];simp[bind,Sem.bind];rfl
   exact h
  ·rename_i hc;split at h
   ·rename_i m key t t' hx ht;have hx:=zl hx;have ht:=zl ht;split at h<;>try exact h.elim
    rename_i kt e hd;split at h<;>try exact h.elim
    rename_i kd yw;cases hp:plainKey kd<;>simp only[hp,xaw,xam]at h
    ·cases pJ:ct kd<;>simp only[pJ,xaw,xam]at h
     ·exact h
     refine dF.ofValue (s:=Builtin.delete_ #[t,t'] o.type #[ρ m,ρ key]) ?_ λw hw=>?_
     ·simp only[execOp,hop,resolve,hc,hx,ht,invoke,builtin];simp[bind,Sem.bind];rfl
     obtain⟨w',H',hr,ho,hk⟩:=h.run (P:=P) hw (as:=#[t,t']) (ty:=o.type) rfl hd yw pJ;exact⟨_,w',H',hr,ho,hk⟩
    refine dF.ofValue (s:=Builtin.delete_ #[t,t'] o.type #[ρ m,ρ key]) ?_ λw hw=>?_
    ·simp only[execOp,hop,resolve,hc,hx,ht,invoke,builtin];simp[bind,Sem.bind];rfl
    obtain⟨w',H',hr,ho,hk⟩:=h.run (P:=P) hw (as:=#[t,t']) (ty:=o.type) rfl hd yw hp;exact⟨_,w',H',hr,ho,hk⟩
   exact h
  exact h
 all_goals exact h
end
end Go.Sx
namespace Go.Sx
open Go
section
variable {P:Program} {g:Gh} {ds:List Deferred}
def sk:Op->Bool
 | .move _| .assign _| .pick .. | .load .. | .nilCheck _| .binOp .. | .unOp .. | .convert .. | .fieldAddr .. | .field .. | .indexAddr .. | .index .. | .slice .. | .extract .. | .lookup .. | .makeFunc .. | .build .. | .makeInterface ..
 | .typeAssert .. =>true
 | .call c=>match c.callee with
  | .builtin .len| .builtin .cap| .builtin .min| .builtin .max=>true
  |_=>false
 |_=>false
def Qq(P:Program)(g:Gh)(f:FuncId)(args:Array zV)(H:Hp)(k:zV->Prop):Prop:=
 ∃v,aR P g f args H (λe H'=>e=.returned v/\H'=H)/\k v
def Xi(P:Program)(g:Gh)(o:Oper)(ρ:Operand->zV)(H:Hp)(k:zV->Prop):Prop:=
 match o.op with
 | .call c=>match c.callee with
  | .value (.func f)=>cond (bg P f) (Qq P g f (c.args.toList.map ρ).toArray H k) False
  | .value x=>∃f first captured,ρ x=.func (.func f) first captured/\bg P f=true/\Qq P g f (first++(c.args.toList.map ρ).toArray++captured) H k
  |_=>False
 |_=>False
def bU:Option (Nat×Bool)->Option (Nat×Bool)->Bool
 |none,none=>true
 |some (i,a),some (j,b)=>Nat.beq i j&& (a==b)
 |_,_=>false
theorem gI{x y:Option (Nat×Bool)}(h:bU x y=true):x=y:=by
 cases x with
 |none=>cases y<;>simp_all[bU]
 |some a=>
  obtain⟨i,a⟩:=a;cases y with
  |none=>simp[bU]at h
  |some b=>
   obtain⟨j,b⟩:=b;simp only[bU,xay,xc5]at h;rw[xaC h.1,h.2]
def fI(cur:Option (Nat×Bool)):List Oper->List Oper
 | []=>[]
 |o::r=>cond (bU o.guard cur) [] (o::fI cur r)
def gF(cur:Option (Nat×Bool)):List Oper->List Oper
 | []=>[]
 |o::r=>cond (bU o.guard cur) (o::r) (gF cur r)
theorem qe(cur:Option (Nat×Bool))(l:List Oper):fI cur l++gF cur l=l:=by
 induction l with
 |nil=>rfl
 |cons o r ih=>simp only[fI,gF];cases bU o.guard cur<;>simp[ih]
def qg:List Oper->Fr->Fr
 | [],fr=>fr
 |o::r,fr=>qg r (bJ fr o.dst undef)
def aQ:List Oper->Nat->Bool
 | [],_=>false
 |o::r,s=>(match o.dst with|some d=>Nat.beq s d|none=>false)||aQ r s
def gu(n:Nat):List Oper->Bool
 | []=>true
 |o::r=>c6 n o.dst&&gu n r
def pO(G:List Oper)(gs fr:Fr):Fr:=λs=>cond (aQ G s) (gs s) (fr s)
def nB(p:Oper)(fr:Fr):zV:=
 match p.op with
 | .pick c a b=>match ev fr c with
  | .bool t=>cond t (ev fr a) (ev fr b)
  |_=>undef
 |_=>undef
def pH(p:Oper):Bool:=match p.op with| .pick .. =>true|_=>false
def dB(ops:Array Oper)(j:Nat):Option Nat:=match ops[j]? with|some oj=>oj.dst|none=>none
def kW(ops:Array Oper)(s:Nat)(want:Bool):zL->List Oper->Bool
 |_,[]=>true
 |seen,o::r=>
  (match o.guard with
  |none=>false
  |some (j,w)=>match dB ops j with
   |none=>false
   |some t=>(Nat.beq t s&& (w==want))||seen.any (Nat.beq t)) &&
  kW ops s want (match o.dst with|some d=>d::seen|none=>seen) r
def dr(v:zV)(want:Bool)(inner els k:Bool->Prop):Prop:=∃a t:Bool,v=.bool a/\(a=want->inner t)/\(a= !want->els t)/\k t
def Split(v:zV)(want:Bool)(k1 k2:Prop):Prop:=∃a:Bool,v=.bool a/\(a=want->k1)/\(a= !want->k2)
def jw:List (Nat×Bool)->Nat->Option Bool
 | [],_=>none
 |(t,b)::r,s=>cond (Nat.beq t s) (some b) (jw r s)
def kD:List (Nat×Bool)->Option Nat->List (Nat×Bool)
 |kn,none=>kn
 | [],some _=>[]
 |(t,b)::r,some d=>cond (Nat.beq t d) (kD r (some d)) ((t,b)::kD r (some d))
def j6:List (Nat×Bool)->List Oper->List (Nat×Bool)
 |kn,[]=>kn
 |kn,o::r=>j6 (kD kn o.dst) r
def om(kn:List (Nat×Bool)):Operand->Option Bool
 | .const (.bool b)=>some b
 | .tmp t=>jw kn t
 |_=>none
def Rf(kn:List (Nat×Bool))(o:Oper):Option Bool:=
 match o.op with
 | .move x=>om kn x
 | .assign x=>om kn x
 | .pick c a b=>match om kn c with
  |some true=>om kn a
  |some false=>om kn b
  |none=>none
 |_=>none
def Re(kn:List (Nat×Bool))(o:Oper):List (Nat×Bool):=
 match Rf kn o,o.dst with
 |some b,some d=>(d,b)::kD kn (some d)
 |_,d=>kD kn d
def fR(kn:List (Nat×Bool))(fr:Fr):Prop:=∀s b,jw kn s=some b->fr s=.bool b
theorem fR.nil(fr:Fr):fR [] fr:=λs b h=>by simp[jw]at h
theorem uK{kn:List (Nat×Bool)}{d s:Nat}{b:Bool}(h:jw (kD kn (some d)) s=some b):s≠d/\jw kn s=some b:=by
 induction kn with
 |nil=>simp[kD,jw]at h
 |cons x r ih=>
  obtain⟨t,c⟩:=x;simp only[kD]at h;cases hb:Nat.beq t d<;>simp only[hb,xaw,xam]at h
  ·simp only[jw]at h⊢;cases hs:Nat.beq t s<;>simp only[hs,xaw,xam]at h⊢
   ·exact ih h
   refine⟨λe=>?_,h⟩;have:=xaC hs;subst this;subst e;simp at hb
  have h':=ih h;refine⟨h'.1,?_⟩;simp only[jw];have:=xaC hb;subst this;cases hs:Nat.beq t s
  ·exact h'.2
  exact absurd (xaC hs).symm h'.1
theorem fR.del{kn:List (Nat×Bool)}{fr:Fr}(h:fR kn fr)(d:Option Nat)(v:zV):fR (kD kn d) (bJ fr d v):=by
 cases d with
 |none=>cases kn<;>exact h
 |some d=>
  intro s b hs;obtain⟨h1,h2⟩:=uK hs;simp only[bJ];cases hb:Nat.beq s d
  ·exact h s b h2
  exact absurd (xaC hb) h1
theorem fR.put{kn:List (Nat×Bool)}{fr:Fr}(h:fR kn fr){s:Nat}{b:Bool}(hs:fr s=.bool b):fR ((s,b)::kn) fr:=by
 intro t c ht;simp only[jw]at ht;cases hb:Nat.beq s t<;>simp only[hb,xaw,xam]at ht
 ·exact h t c ht
 have:=xaC hb;subst this;simp only[xap]at ht;subst ht;exact hs
theorem jv{kn:List (Nat×Bool)}{fr:Fr}(h:fR kn fr){x:Operand}{b:Bool}(hx:om kn x=some b):ev fr x=.bool b:=by
 cases x with
 |tmp t=>exact h t b hx
 |const v=>cases v<;>simp[om]at hx;subst hx;rfl
 |global g=>simp[om]at hx
 |func f=>simp[om]at hx
theorem NP{kn:List (Nat×Bool)}{fr:Fr}(h:fR kn fr){o:Oper}{v:zV}(hv:valOf o (ev fr) v){b:Bool}(hb:Rf kn o=some b):v=.bool b:=by
 unfold Rf at hb;unfold valOf at hv;split at hb
 ·rename_i x hop;rw[hop]at hv;exact hv.trans (jv h hb)
 ·rename_i x hop;rw[hop]at hv;exact hv.trans (jv h hb)
 ·rename_i c a b' hop;rw[hop]at hv;split at hb
  ·rename_i hc;rw[hv _ (jv h hc)];exact jv h hb
  ·rename_i hc;rw[hv _ (jv h hc)];exact jv h hb
  simp at hb
 simp at hb
theorem fR.up{kn:List (Nat×Bool)}{fr:Fr}(h:fR kn fr){o:Oper}{v:zV}(hv:valOf o (ev fr) v):fR (Re kn o) (bJ fr o.dst v):=by
 unfold Re;split
 ·rename_i b d hb hd;rw[hd];exact(h.del (some d) v).put (by simp[bJ,NP h hv hb])
 exact h.del _ _
theorem fR.VH{kn:List (Nat×Bool)}{fr fr':Fr}:∀(l:List Oper),fR kn fr->(∀s,aQ l s=false->fr' s=fr s)->fR (j6 kn l) fr':=by
 intro l;have key:∀(l:List Oper) (kn:List (Nat×Bool)) (s:Nat) (b:Bool),jw (j6 kn l) s=some b->aQ l s=false/\jw kn s=some b:=by
  intro l;induction l with
  |nil=>intro kn s b h;exact⟨rfl,h⟩
  |cons o r ih=>
   intro kn s b h;simp only[j6]at h;obtain⟨h1,h2⟩:=ih _ s b h;simp only[aQ,h1,xdP];cases hd:o.dst with
   |none=>rw[hd]at h2;exact⟨rfl,by cases kn<;>exact h2⟩
   |some d=>
    rw[hd]at h2;obtain⟨h3,h4⟩:=uK h2;refine⟨?_,h4⟩;cases hb:Nat.beq s d
    ·exact hb
    exact absurd (xaC hb) h3
 intro h ho s b hs;obtain⟨h1,h2⟩:=key l kn s b hs;rw[ho s h1];exact h s b h2
def df(P:Program)(g:Gh)(n:Nat)(ops:Array Oper)(gq:Bool):Nat->Bool->Option (Nat×Bool)->List (Nat×Bool)->List Oper->Fr->Hp->(List (Nat×Bool)->Fr->Hp->Prop)->(List PanicEntry->Hp->Prop)->Prop
 |0,_,_,_,_,_,_,_,_=>False
 |_+1,_,_,kn,[],fr,H,K,_=>K kn fr H
 |f+1,q,cur,kn,o::r,fr,H,K,KP=>
  cond (bU o.guard cur)
   (cond (c6 n o.dst)
    (cond (sk o.op) (z9 P g o (ev fr) H λv=>df P g n ops gq f q cur (Re kn o) r (bJ fr o.dst v) H K KP)
     (cond q (Xi P g o (ev fr) H λv=>df P g n ops gq f q cur (kD kn o.dst) r (bJ fr o.dst v) H K KP)
      (MF P g o (ev fr) H (λv H'=>df P g n ops gq f q cur (kD kn o.dst) r (bJ fr o.dst v) H' K KP) KP))) False)
   (match o.guard with
   |none=>False
   |some (j,want)=>
    match dB ops j with
    |none=>False
    |some s=>
     cond (c6 n (some s) &&gu n (fI cur (o::r)) && !aQ (fI cur (o::r)) s&&kW ops s want [] (fI cur (o::r)))
     (match jw kn s with
     |some b=>cond (b==want)
       (df P g n ops gq f q o.guard kn (fI cur (o::r)) fr H (λmX fr' H'=>df P g n ops gq f q cur mX (gF cur (o::r)) fr' H' K KP) KP)
       (df P g n ops gq f q cur (j6 kn (fI cur (o::r))) (gF cur (o::r)) (qg (fI cur (o::r)) fr) H K KP)
     |none=>
     cond (q||gq)
      (match gF cur (o::r)with
      | []=>False
      |p::r'=>
       cond (pH p&&c6 n p.dst)
       (dr (fr s) want
        (λt=>df P g n ops gq f true o.guard ((s,want)::kn) (fI cur (o::r)) (bJ fr (some s) (.bool want)) H (λ_ fr' H'=>H'=H/\nB p fr'=.bool t) (λ_ _=>False))
        (λt=>nB p (qg (fI cur (o::r)) (bJ fr (some s) (.bool !want)))=.bool t)
        (λt=>∀gs,df P g n ops gq f q cur (kD (j6 kn (fI cur (o::r))) p.dst) r' (bJ (pO (fI cur (o::r)) gs fr) p.dst (.bool t)) H K KP)) False)
      (Split (fr s) want
       (df P g n ops gq f q o.guard ((s,want)::kn) (fI cur (o::r)) (bJ fr (some s) (.bool want)) H (λmX fr' H'=>df P g n ops gq f q cur mX (gF cur (o::r)) fr' H' K KP) KP)
       (df P g n ops gq f q cur ((s, !want)::j6 kn (fI cur (o::r))) (gF cur (o::r)) (qg (fI cur (o::r)) (bJ fr (some s) (.bool !want))) H K KP))) False)
theorem jl{fr:Fr}{s:Nat}{v:zV}(h:fr s=v):bJ fr (some s) v=fr:=by
 funext x
 simp only[bJ];cases hb:Nat.beq x s
 ·rfl
 have:=xaC hb;subst this;simp[h]
theorem eS{fr:Fr}{d:Option Nat}{v:zV}{s:Nat}(h:aQ [({(default:Oper)with dst:=d})] s=false):bJ fr d v s=fr s:=by
 cases d with
 |none=>rfl
 |some d=>simp only[aQ,xdP]at h;simp only[bJ,h,xam]
theorem cu{o:Oper}{r:List Oper}{s:Nat}:aQ (o::r) s=(aQ [({(default:Oper)with dst:=o.dst})] s||aQ r s):=by
 simp[aQ]
theorem bK{a b:List Oper}{s:Nat}:aQ (a++b) s=(aQ a s||aQ b s):=by
 induction a with
 |nil=>simp[aQ]
 |cons o r ih=>simp only[xaN,aQ,ih,Bool.or_assoc]
def dy(l:List Oper)(fr fr':Fr):Prop:=∀s,aQ l s=false->fr' s=fr s
def jK(ops:Array Oper)(cur:Option (Nat×Bool))(l:List Oper)(fr:Fr):Prop:=
 match cur with
 |none=>True
 |some (j,want)=>∃s,dB ops j=some s/\fr s=.bool want/\aQ l s=false
theorem jK.tail{ops:Array Oper}{cur:Option (Nat×Bool)}{o:Oper}{r:List Oper}{fr fr':Fr}(h:jK ops cur (o::r) fr)(he:∀s,aQ [({(default:Oper)with dst:=o.dst})] s=false->fr' s=fr s):jK ops cur r fr':=by
 unfold jK at*;split
 ·trivial
 obtain⟨s,h1,h2,h3⟩:=h;rw[cu,xaD]at h3;exact⟨s,h1,(he s h3.1).trans h2,h3.2⟩
theorem jP{n:Nat}{ops:Array Oper}{a:Act}{fr:Fr}(h:bD ds n a fr){j s:Nat}(hs:dB ops j=some s):yielded ops a.tmps j=match fr s with| .bool b=>some b|_=>none:=by
 unfold dB at hs;split at hs
 ·rename_i oj hj;have hg:=h.get s;rw[xan]at hg;simp only[yielded,hj,xdW,hs];cases ht:a.tmps[s]? with
  |none=>rw[ht]at hg;simp only[Option.getD_none]at hg;rw[<-hg];rfl
  |some v=>rw[ht]at hg;simp only[Option.getD_some]at hg;rw[<-hg];cases v<;>rfl
 ·simp at hs
theorem jK.wanted{n:Nat}{ops:Array Oper}{cur:Option (Nat×Bool)}{l:List Oper}{fr:Fr}(h:jK ops cur l fr){o:Oper}(ho:o.guard=cur){a:Act}(ha:bD ds n a fr):Region.wanted o (yielded ops a.tmps)=true:=by
 unfold jK at h;unfold Region.wanted;rw[ho];split at h
 ·rfl
 obtain⟨s,h1,h2,_⟩:=h;simp only[jP ha h1,h2,beq_self_eq_true]
theorem nA{p:Oper}{fr:Fr}{t:Bool}(hp:pH p=true)(h:nB p fr=.bool t)(w:World):(execOp (ev fr) p).run P w=.ok (.value (.bool t)) w:=by
 unfold pH at hp;split at hp<;>try (simp at hp;done)
 rename_i c a b hop;simp only[nB,hop]at h;split at h
 ·rename_i t' hc;simp only[execOp,hop,hc,asBool];cases t'<;>simp only[xaw,xam]at h<;>simp[h]
 simp[undef]at h
theorem mv{n:Nat}{ops:Array Oper}{Q:Exit->Act->World->Prop}{s:Nat}{want:Bool}{w:World}{rest:List Oper}:∀(l:List Oper) (seen:zL) (fr:Fr) (a:Act),gu n l=true->aQ l s=false->kW ops s want seen l=true->
  fr s=.bool (!want)->(∀t∈seen,fr t=undef)->bD ds n a fr->(∀a',bD ds n a' (qg l fr)->wpList P ops Q rest a' w)->wpList P ops Q (l++rest) a w
 | [],_,fr,a,_,_,_,_,_,ha,hk=>hk a ha
 |o::r,seen,fr,a,hd,hi,hs,hf,sq,ha,hk=>by
  simp only[gu,xay]at hd;rw[cu,xaD]at hi;simp only[kW,xay]at hs;obtain⟨hs1,mZ⟩:=hs;have Us:Region.wanted o (yielded ops a.tmps)=false:=by
   unfold Region.wanted;split at hs1
   ·simp at hs1
   rename_i j w' hg;rw[hg];split at hs1
   ·simp at hs1
   rename_i t ht;simp only[jP ha ht];simp only[xbX,xay,xc5]at hs1;rcases hs1 with⟨h1,rfl⟩|h1
   ·have:=xaC h1;subst this;rw[hf];cases w'<;>rfl
   obtain⟨u,hu,hb⟩:=xca.1 h1;have:=xaC hb;subst this;rw[sq _ hu];rfl
  simp only[xaN,wpList,Us,xaE,xaS];refine mv r _ (bJ fr o.dst undef) _ hd.2 hi.2 mZ ?_ ?_ (ha.put hd.1 undef) (λa' h'=>hk a' h')
  ·rw[eS hi.1,hf]
  intro t ht;cases KG:o.dst with
  |none=>rw[KG]at ht;exact sq t ht
  |some d=>
   rw[KG]at ht;simp only[bJ];cases hb:Nat.beq t d
   ·simp only[xam];rcases xaf.1 ht with rfl|ht
    ·simp at hb
    exact sq t ht
   rfl
theorem nt{n:Nat}{ops:Array Oper}{C:World->Prop}{Q:Act->Prop}{s:Nat}{want:Bool}{rest:List Oper}:∀(l:List Oper) (seen:zL) (fr:Fr) (a:Act),gu n l=true->aQ l s=false->kW ops s want seen l=true->
  fr s=.bool (!want)->(∀t∈seen,fr t=undef)->bD ds n a fr->(∀a',bD ds n a' (qg l fr)->wpQuiet P ops C Q rest a')->wpQuiet P ops C Q (l++rest) a
 | [],_,fr,a,_,_,_,_,_,ha,hk=>hk a ha
 |o::r,seen,fr,a,hd,hi,hs,hf,sq,ha,hk=>by
  simp only[gu,xay]at hd;rw[cu,xaD]at hi;simp only[kW,xay]at hs;obtain⟨hs1,mZ⟩:=hs;have Us:Region.wanted o (yielded ops a.tmps)=false:=by
   unfold Region.wanted;split at hs1
   ·simp at hs1
   rename_i j w' hg;rw[hg];split at hs1
   ·simp at hs1
   rename_i t ht;simp only[jP ha ht];simp only[xbX,xay,xc5]at hs1;rcases hs1 with⟨h1,rfl⟩|h1
   ·have:=xaC h1;subst this;rw[hf];cases w'<;>rfl
   obtain⟨u,hu,hb⟩:=xca.1 h1;have:=xaC hb;subst this;rw[sq _ hu];rfl
  simp only[xaN,wpQuiet,Us,xaE,xaS];refine nt r _ (bJ fr o.dst undef) _ hd.2 hi.2 mZ ?_ ?_ (ha.put hd.1 undef) (λa' h'=>hk a' h')
  ·rw[eS hi.1,hf]
  intro t ht;cases KG:o.dst with
  |none=>rw[KG]at ht;exact sq t ht
  |some d=>
   rw[KG]at ht;simp only[bJ];cases hb:Nat.beq t d
   ·simp only[xam];rcases xaf.1 ht with rfl|ht
    ·simp at hb
    exact sq t ht
   rfl
theorem cD:∀(l:List Oper) (fr:Fr),dy l fr (qg l fr)
 | [],fr=>λs _=>rfl
 |o::r,fr=>λs hs=>by
  rw[cu,xaD]at hs;rw[qg,cD r _ s hs.2,eS hs.1]
end
end Go.Sx
namespace Go.Sx
open Go
section
variable {P:Program} {g:Gh} {ds:List Deferred}
theorem mH(fr:Fr):∀f,ev fr (.func f)=.func (.func f) #[] #[]:=λ_=>rfl
theorem DU{o:Oper}{fr:Fr}{H:Hp}{k:zV->Prop}(h:Xi P g o (ev fr) H k):
  ∃v f args,(∀w,(execOp (ev fr) o).run P w=.ok (.enter f args) w)/\aR P g f args H (λe H'=>e=.returned v/\H'=H)/\k v:=by
 unfold Xi at h;split at h<;>try exact h.elim
 rename_i c hop;split at h<;>try exact h.elim
 ·rename_i f hc;cases fU:bg P f<;>simp only[fU,xaw,xam]at h;obtain⟨v,hs,hk⟩:=h;rw[mapList]at hs;refine⟨v,f,_,λw=>?_,hs,hk⟩;simp only[execOp,hop,resolve,hc,Deferred.ofValue,mH,invoke];show(callFunc f ((#[]++c.args.map (ev fr))++ #[])).run P w=_;rw[xcS,xdg];exact dn fU _ w
 rename_i x _ hc;obtain⟨f,first,captured,hf,fU,v,hs,hk⟩:=h;rw[mapList]at hs;refine⟨v,f,_,λw=>?_,hs,hk⟩;simp only[execOp,hop,resolve,hc,Deferred.ofValue,hf,invoke];show(callFunc f (first++c.args.map (ev fr)++captured)).run P w=_;exact dn fU _ w
theorem mq.upon{o:Oper}{a:Act}{K:zV->Hp->Prop}{KP:List PanicEntry->Hp->Prop}{next:Act->World->Prop}{Q:Exit->Act->World->Prop}{r:Result Next}
 (h:mq P g K KP r)(hn:∀v H' w',Own g H' w'->K v H'->next (a.put o.dst v) w')(hp:∀ch H' w',Own g H' w'->KP ch H'->Q (.panic ch) a w'):o.upon P a next Q r:=by
 cases r with
 |ok n w'=>
  cases n<;>simp only[mq]at h<;>simp only[Oper.upon]
  case value v=>obtain⟨H',ho,hk⟩:=h;exact hn _ _ _ ho hk
  case skip=>obtain⟨H',ho,hk⟩:=h;exact hn _ _ _ ho hk
  case enter f args=>
   refine h.mono λe w'' ⟨H',ho,hk⟩=>?_;cases e with
   |returned v=>exact hn _ _ _ ho hk
   |panicked ch=>exact hp _ _ _ ho hk
   |outgrown=>exact hk.elim
 |halt x w'=>
  cases x<;>simp only[mq]at h
  case panic v=>obtain⟨H',ho,hk⟩:=h;exact hp _ _ _ ho hk
theorem dy.refl(l:List Oper)(fr:Fr):dy l fr fr:=λ_ _=>rfl
theorem dy.cons{o:Oper}{r:List Oper}{fr fr':Fr}{v:zV}(h:dy r (bJ fr o.dst v) fr'):dy (o::r) fr fr':=λs hs=>by
 rw[cu,xaD]at hs;rw[h s hs.2,eS hs.1]
theorem bO{n:Nat}{ops:Array Oper}{gq:Bool}:∀(f:Nat) (q:Bool) (cur:Option (Nat×Bool)) (kn:List (Nat×Bool)) (l:List Oper) (fr:Fr) (H:Hp) (K:List (Nat×Bool)->Fr->Hp->Prop) (KP:List PanicEntry->Hp->Prop),
  df P g n ops gq f q cur kn l fr H K KP->jK ops cur l fr->fR kn fr->∀(a:Act) (w:World),bD ds n a fr->Own g H w->∀(rest:List Oper) (Q:Exit->Act->World->Prop),
  (∀a' w' mX fr' H',bD ds n a' fr'->Own g H' w'->dy l fr fr'->fR mX fr'->K mX fr' H'->wpList P ops Q rest a' w')->
  (∀ch a' w' fr' H',bD ds n a' fr'->Own g H' w'->KP ch H'->Q (.panic ch) a' w')->wpList P ops Q (l++rest) a w
 |0,_,_,_,_,_,_,_,_,h=>h.elim
 |f+1,q,cur,kn,[],fr,H,K,KP,h=>λ_ hkn a w ha hw rest Q hk _=>hk a w kn fr H ha hw (dy.refl _ _) hkn h
 |f+1,q,cur,kn,o::r,fr,H,K,KP,h=>by
  intro gw hkn a w ha hw rest Q hk hp;unfold df at h;cases PY:bU o.guard cur<;>simp only[PY,xaw,xam]at h
  case true=>
   have hg:=gI PY;have mY:=gw.wanted hg ha;cases hd:c6 n o.dst<;>simp only[hd,xaw,xam]at h;simp only[xaN,wpList,mY,xa0];refine .inl ?_;unfold Oper.wp;rw[ha.eval];cases yx:sk o.op<;>simp only[yx,xaw,xam]at h
   case true=>
    obtain⟨v,hk',hr,hv⟩:=mA h;rw[hr w hw];exact bO f q cur _ r _ H K KP hk' (gw.tail λs hs=>eS hs) (hkn.up hv) _ w (ha.put hd v) hw rest Q (λa' w' mX fr' H' h1 h2 h3 h5 h4=>hk a' w' mX fr' H' h1 h2 h3.cons h5 h4) hp
   case false=>
    cases q<;>simp only[xaw,xam]at h
    case true=>
     obtain⟨v,f',args,hr,hs,hk'⟩:=DU h;rw[hr w];refine(hs w hw).mono λe w'' ⟨H',ho,he,hH⟩=>?_;subst he;subst hH;exact bO f true cur _ r _ H' K KP hk' (gw.tail λs hs=>eS hs) (hkn.del _ _) _ w'' (ha.put hd v) ho rest Q (λa' w' mX fr' H' h1 h2 h3 h5 h4=>hk a' w' mX fr' H' h1 h2 h3.cons h5 h4) hp
    case false=>
     refine(rS (mH fr) h w hw).upon (λv H' w' ho hk'=>?_) (λch H' w' ho hk'=>hp ch a w' fr H' ha ho hk');exact bO f false cur _ r _ H' K KP hk' (gw.tail λs hs=>eS hs) (hkn.del _ _) _ w' (ha.put hd v) ho rest Q (λa' w' mX fr' H' h1 h2 h3 h5 h4=>hk a' w' mX fr' H' h1 h2 h3.cons h5 h4) hp
  case false=>
   split at h<;>try exact h.elim
   rename_i j want SM;split at h<;>try exact h.elim
   rename_i s iS;generalize hG:fI cur (o::r)=G at h;generalize hR:gF cur (o::r)=R at h;have El:G++R=o::r:=by rw[<-hG,<-hR];exact qe _ _
   cases dX:(c6 n (some s) &&gu n G&& !aQ G s&&kW ops s want [] G)<;>simp only[dX,xaw,xam]at h;simp only[xay,xbx]at dX;obtain⟨⟨⟨hds,SU⟩,Iq⟩,PX⟩:=dX;rw[<-El,xaj];have aaB:∀fr',dy G fr fr'->∀s,aQ (o::r) s=false->fr' s=fr s:=λfr' ho s hs=>by
    rw[<-El,bK,xaD]at hs;exact ho s hs.1
   have lR:∀fr',dy G fr fr'->jK ops cur R fr':=λfr' ho=>by
    unfold jK at gw⊢;split
    ·trivial
    obtain⟨t,h1,h2,h3⟩:=gw;have xg:=h3;rw[<-El,bK,xaD]at xg;exact⟨t,h1,(ho t xg.1).trans h2,xg.2⟩
   have F0:∀fr',dy G fr fr'->fR (j6 kn G) fr':=λfr' ho=>hkn.VH G ho;split at h
   ·rename_i b hb;have kR:=hkn s b hb;cases On:(b==want)<;>simp only[On,xaw,xam]at h
    ·have mR:b= !want:=by cases b<;>cases want<;>simp_all
     subst mR;refine mv G [] fr a SU Iq PX kR (λt ht=>by simp at ht) ha λa' cL=>?_;refine bO f q cur _ R _ H K KP h (lR _ (cD G fr)) (F0 _ (cD G fr)) a' w cL hw rest Q (λa2 w2 AQ qs H2 k1 k2 k3 k5 k4=>hk a2 w2 AQ qs H2 k1 k2 ?_ k5 k4) hp;intro x hx;have hx':=hx;rw[<-El,bK,xaD]at hx';rw[k3 x hx'.2,cD G fr x hx'.1]
    have mR:b=want:=by cases b<;>cases want<;>simp_all
    subst mR;refine bO f q o.guard kn G fr H _ KP h ?_ hkn a w ha hw (R++rest) Q ?_ hp
    ·rw[SM];exact⟨s,iS,kR,Iq⟩
    intro a' w' mX fr' H' g1 g2 g3 g5 g4;refine bO f q cur mX R fr' H' K KP g4 (lR fr' g3) g5 a' w' g1 g2 rest Q (λa2 w2 AQ qs H2 k1 k2 k3 k5 k4=>hk a2 w2 AQ qs H2 k1 k2 ?_ k5 k4) hp;intro x hx;have hx':=hx;rw[<-El,bK,xaD]at hx';rw[k3 x hx'.2,g3 x hx'.1]
   rename_i RC;cases hqq:(q||gq)<;>simp only[hqq,xaw,xam]at h
   case true=>
    split at h<;>try exact h.elim
    rename_i p r' ;have XW:bU p.guard cur=true:=by
     have:∀l:List Oper,gF cur l=p::r'->bU p.guard cur=true:=by
      intro l;induction l with
      |nil=>intro e;simp[gF]at e
      |cons x y ih=>
       intro e;simp only[gF]at e;cases hx:bU x.guard cur<;>simp only[hx,xaw,xam]at e
       ·exact ih e
       simp only[xau]at e;rw[<-e.1];exact hx
     exact this _ hR
    cases hpk:(pH p&&c6 n p.dst)<;>simp only[hpk,xaw,xam]at h;simp only[xay]at hpk;obtain⟨b,t,kR,h1,h2,h3⟩:=h;have lP:∀(a':Act) (w':World) (fr':Fr),bD ds n a' fr'->Own g H w'->dy G fr fr'->nB p fr'=.bool t->wpList P ops Q (p::r'++rest) a' w':=by
     intro a' w' fr' cL hw' ho Ui;have mY:=(lR fr' ho).wanted (gI XW) cL;simp only[xaN,wpList,mY,xa0];refine .inl ?_;unfold Oper.wp;rw[cL.eval,nA hpk.1 Ui w'];have Ky:pO G fr' fr=fr':=by
      funext x
      simp only[pO];cases hx:aQ G x
      ·exact(ho x hx).symm
      rfl
     have xg:=h3 fr';rw[Ky]at xg;refine bO f q cur _ r' _ H K KP xg ((lR fr' ho).tail λs hs=>eS hs) ((F0 fr' ho).del _ _) _ w' (cL.put hpk.2 _) hw' rest Q (λa2 w2 AQ qs H2 g1 g2 g3 g5 g4=>hk a2 w2 AQ qs H2 g1 g2 ?_ g5 g4) hp;intro x hx;have hx':=hx;rw[<-El,bK,xaD,cu,xaD]at hx';rw[g3 x hx'.2.2,eS hx'.2.1,ho x hx'.1]
    by_cases On:b=want
    ·subst On;have yG:=h1 rfl;rw[jl kR]at yG;refine bO f true o.guard _ G fr H _ _ yG ?_ (hkn.put kR) a w ha hw (p::r'++rest) Q ?_ ?_
     ·rw[SM];exact⟨s,iS,kR,Iq⟩
     ·intro a' w' mX fr' H' g1 g2 g3 _ ⟨g4,g5⟩;subst g4;exact lP a' w' fr' g1 g2 g3 g5
     intro _ _ _ _ _ _ _ h0;exact h0.elim
    have mR:b= !want:=by cases b<;>cases want<;>simp_all
    have kF:=h2 mR;subst mR;rw[jl kR]at kF;refine mv G [] fr a SU Iq PX kR (λt ht=>by simp at ht) ha λa' cL=>?_;exact lP a' w _ cL hw (cD G fr) kF
   case false=>
    obtain⟨b,kR,h1,h2⟩:=h;by_cases On:b=want
    ·subst On;have yG:=h1 rfl;rw[jl kR]at yG;refine bO f q o.guard _ G fr H _ KP yG ?_ (hkn.put kR) a w ha hw (R++rest) Q ?_ hp
     ·rw[SM];exact⟨s,iS,kR,Iq⟩
     intro a' w' mX fr' H' g1 g2 g3 g5 g4;refine bO f q cur mX R fr' H' K KP g4 (lR fr' g3) g5 a' w' g1 g2 rest Q (λa2 w2 AQ qs H2 k1 k2 k3 k5 k4=>hk a2 w2 AQ qs H2 k1 k2 ?_ k5 k4) hp;intro x hx;have hx':=hx;rw[<-El,bK,xaD]at hx';rw[k3 x hx'.2,g3 x hx'.1]
    have mR:b= !want:=by cases b<;>cases want<;>simp_all
    have kF:=h2 mR;subst mR;rw[jl kR]at kF;refine mv G [] fr a SU Iq PX kR (λt ht=>by simp at ht) ha λa' cL=>?_;refine bO f q cur _ R _ H K KP kF (lR _ (cD G fr)) ((F0 _ (cD G fr)).put (by rw[cD G fr s Iq,kR])) a' w cL hw rest Q (λa2 w2 AQ qs H2 k1 k2 k3 k5 k4=>hk a2 w2 AQ qs H2 k1 k2 ?_ k5 k4) hp;intro x hx;have hx':=hx;rw[<-El,bK,xaD]at hx';rw[k3 x hx'.2,cD G fr x hx'.1]
theorem cQ{n:Nat}{ops:Array Oper}{gq:Bool}:∀(f:Nat) (cur:Option (Nat×Bool)) (kn:List (Nat×Bool)) (l:List Oper) (fr:Fr) (H:Hp) (K:List (Nat×Bool)->Fr->Hp->Prop) (KP:List PanicEntry->Hp->Prop),
  df P g n ops gq f true cur kn l fr H K KP->jK ops cur l fr->fR kn fr->∀(a:Act),bD ds n a fr->∀(rest:List Oper) (Q:Act->Prop),
  (∀a' mX fr',bD ds n a' fr'->dy l fr fr'->fR mX fr'->K mX fr' H->wpQuiet P ops (Own g H) Q rest a')->wpQuiet P ops (Own g H) Q (l++rest) a
 |0,_,_,_,_,_,_,_,h=>h.elim
 |f+1,cur,kn,[],fr,H,K,KP,h=>λ_ hkn a ha rest Q hk=>hk a kn fr ha (dy.refl _ _) hkn h
 |f+1,cur,kn,o::r,fr,H,K,KP,h=>by
  intro gw hkn a ha rest Q hk;unfold df at h;cases PY:bU o.guard cur<;>simp only[PY,xaw,xam]at h
  case true=>
   have hg:=gI PY;have mY:=gw.wanted hg ha;cases hd:c6 n o.dst<;>simp only[hd,xaw,xam]at h;simp only[xaN,wpQuiet,mY,xa0];cases yx:sk o.op<;>simp only[yx,xaw,xam]at h
   case true=>
    obtain⟨v,hk',hr,hv⟩:=mA h;refine⟨v,λw hw=>?_,?_⟩
    ·unfold Oper.quietAt;rw[ha.eval,hr w hw];exact⟨rfl,rfl⟩
    exact cQ f cur _ r _ H K KP hk' (gw.tail λs hs=>eS hs) (hkn.up hv) _ (ha.put hd v) rest Q (λa' mX fr' h1 h3 h5 h4=>hk a' mX fr' h1 h3.cons h5 h4)
   case false=>
    obtain⟨v,f',args,hr,hs,hk'⟩:=DU h;refine⟨v,λw hw=>?_,?_⟩
    ·unfold Oper.quietAt;rw[ha.eval,hr w];refine⟨rfl,(hs w hw).mono λe w'' ⟨H',ho,he,hH⟩=>?_⟩;subst hH;exact⟨he,ho⟩
    exact cQ f cur _ r _ H K KP hk' (gw.tail λs hs=>eS hs) (hkn.del _ _) _ (ha.put hd v) rest Q (λa' mX fr' h1 h3 h5 h4=>hk a' mX fr' h1 h3.cons h5 h4)
  case false=>
   split at h<;>try exact h.elim
   rename_i j want SM;split at h<;>try exact h.elim
   rename_i s iS;generalize hG:fI cur (o::r)=G at h;generalize hR:gF cur (o::r)=R at h;have El:G++R=o::r:=by rw[<-hG,<-hR];exact qe _ _
   cases dX:(c6 n (some s) &&gu n G&& !aQ G s&&kW ops s want [] G)<;>simp only[dX,xaw,xam]at h;simp only[xay,xbx]at dX;obtain⟨⟨⟨hds,SU⟩,Iq⟩,PX⟩:=dX;rw[<-El,xaj];have lR:∀fr',dy G fr fr'->jK ops cur R fr':=λfr' ho=>by
    unfold jK at gw⊢;split
    ·trivial
    obtain⟨t,h1,h2,h3⟩:=gw;have xg:=h3;rw[<-El,bK,xaD]at xg;exact⟨t,h1,(ho t xg.1).trans h2,xg.2⟩
   have F0:∀fr',dy G fr fr'->fR (j6 kn G) fr':=λfr' ho=>hkn.VH G ho;split at h
   ·rename_i b hb;have kR:=hkn s b hb;cases On:(b==want)<;>simp only[On,xaw,xam]at h
    ·have mR:b= !want:=by cases b<;>cases want<;>simp_all
     subst mR;refine nt G [] fr a SU Iq PX kR (λt ht=>by simp at ht) ha λa' cL=>?_;refine cQ f cur _ R _ H K KP h (lR _ (cD G fr)) (F0 _ (cD G fr)) a' cL rest Q (λa2 AQ qs k1 k3 k5 k4=>hk a2 AQ qs k1 ?_ k5 k4);intro x hx;have hx':=hx;rw[<-El,bK,xaD]at hx';rw[k3 x hx'.2,cD G fr x hx'.1]
    have mR:b=want:=by cases b<;>cases want<;>simp_all
    subst mR;refine cQ f o.guard kn G fr H _ KP h ?_ hkn a ha (R++rest) Q ?_
    ·rw[SM];exact⟨s,iS,kR,Iq⟩
    intro a' mX fr' g1 g3 g5 g4;refine cQ f cur mX R fr' H K KP g4 (lR fr' g3) g5 a' g1 rest Q (λa2 AQ qs k1 k3 k5 k4=>hk a2 AQ qs k1 ?_ k5 k4);intro x hx;have hx':=hx;rw[<-El,bK,xaD]at hx';rw[k3 x hx'.2,g3 x hx'.1]
   rename_i RC;simp only[Bool.true_or,xaw]at h;split at h<;>try exact h.elim
   rename_i p r' ;have XW:bU p.guard cur=true:=by
    have:∀l:List Oper,gF cur l=p::r'->bU p.guard cur=true:=by
     intro l;induction l with
     |nil=>intro e;simp[gF]at e
     |cons x y ih=>
      intro e;simp only[gF]at e;cases hx:bU x.guard cur<;>simp only[hx,xaw,xam]at e
      ·exact ih e
      simp only[xau]at e;rw[<-e.1];exact hx
    exact this _ hR
   cases hpk:(pH p&&c6 n p.dst)<;>simp only[hpk,xaw,xam]at h;simp only[xay]at hpk;obtain⟨b,t,kR,h1,h2,h3⟩:=h;have lP:∀(a':Act) (fr':Fr),bD ds n a' fr'->dy G fr fr'->nB p fr'=.bool t->wpQuiet P ops (Own g H) Q (p::r'++rest) a':=by
    intro a' fr' cL ho Ui;have mY:=(lR fr' ho).wanted (gI XW) cL;simp only[xaN,wpQuiet,mY,xa0];refine⟨.bool t,λw hw=>?_,?_⟩
    ·unfold Oper.quietAt;rw[cL.eval,nA hpk.1 Ui w];exact⟨rfl,rfl⟩
    have Ky:pO G fr' fr=fr':=by
     funext x
     simp only[pO];cases hx:aQ G x
     ·exact(ho x hx).symm
     rfl
    have xg:=h3 fr';rw[Ky]at xg;refine cQ f cur _ r' _ H K KP xg ((lR fr' ho).tail λs hs=>eS hs) ((F0 fr' ho).del _ _) _ (cL.put hpk.2 _) rest Q (λa2 AQ qs g1 g3 g5 g4=>hk a2 AQ qs g1 ?_ g5 g4);intro x hx;have hx':=hx;rw[<-El,bK,xaD,cu,xaD]at hx';rw[g3 x hx'.2.2,eS hx'.2.1,ho x hx'.1]
   by_cases On:b=want
   ·subst On;have yG:=h1 rfl;rw[jl kR]at yG;refine cQ f o.guard _ G fr H _ _ yG ?_ (hkn.put kR) a ha (p::r'++rest) Q ?_
    ·rw[SM];exact⟨s,iS,kR,Iq⟩
    intro a' mX fr' g1 g3 _ ⟨_,g5⟩;exact lP a' fr' g1 g3 g5
   have mR:b= !want:=by cases b<;>cases want<;>simp_all
   have kF:=h2 mR;subst mR;rw[jl kR]at kF;refine nt G [] fr a SU Iq PX kR (λt ht=>by simp at ht) ha λa' cL=>?_;exact lP a' _ cL (cD G fr) kF
end
end Go.Sx
namespace Go.Sx
open Go
section
variable {P:Program} {ops:Array Oper} {Q:Exit->Act->World->Prop} {md:Region.Mode} {S:Nat->World->World->Prop} {S0:World->Prop}
def cC(P:Program)(md:Region.Mode)(ops:Array Oper)(Q:Exit->Act->World->Prop)(S:Nat->World->World->Prop):Nat->Array Bool->Act->World->Prop
 |0,listed,a,w=>Region.ready md ops listed=[]/\Q .normal a w
 |n+1,listed,a,w=>(Region.ready md ops listed=[]->Q .normal a w)/\
  ∀i∈Region.ready md ops listed,wpOp P ops Q i (λa' w'=>S i w w'/\cC P md ops Q S n (listed.setIfInBounds i true) a' w') a w
theorem cC.any:∀{n:Nat} {listed:Array Bool} {a:Act} {w:World},cC P md ops Q S n listed a w->wpAny P md ops Q n listed a w
 |0,_,_,_,h=>h
 |_+1,_,_,_,h=>⟨h.1,λi hi=>wpOp_mono (λ_ _ h'=>h'.2.any) (h.2 i hi)⟩
theorem cC.mono{S':Nat->World->World->Prop}(hS:∀j w w',S j w w'->S' j w w'):∀{n:Nat} {listed:Array Bool} {a:Act} {w:World},cC P md ops Q S n listed a w->cC P md ops Q S' n listed a w
 |0,_,_,_,h=>h
 |_+1,_,_,_,h=>⟨h.1,λi hi=>wpOp_mono (λ_ _ h'=>⟨hS _ _ _ h'.1,h'.2.mono hS⟩) (h.2 i hi)⟩
def JA(md:Region.Mode)(ops:Array Oper)(i j:Nat):Prop:=∀oj,ops[j]? =some oj->∀e∈oj.after,Region.binds md e=true->e.on≠i
def dU(md:Region.Mode)(ops:Array Oper)(listed:Array Bool):Prop:=∀j oj,ops[j]? =some oj->listed.getD j true=true->∀e∈oj.after,Region.binds md e=true->listed.getD e.on true=true
inductive mg(md:Region.Mode)(ops:Array Oper)(i:Nat):Nat->Prop
 |one {j:Nat} {oj:Oper} {e:Edge}:ops[j]? =some oj->e∈oj.after->Region.binds md e=true->e.on=i->mg md ops i j
 |more {j:Nat} {oj:Oper} {e:Edge}:ops[j]? =some oj->e∈oj.after->Region.binds md e=true->mg md ops i e.on->mg md ops i j
theorem wD{a:Array Bool}{i:Nat}(h:a.getD i false=true):a.getD i true=true:=by
 rw[xan]at*;cases hg:a[i]? with
 |none=>rfl
 |some b=>rw[hg]at h;simpa using h
theorem qq{a:Array Bool}{i k:Nat}(h:a.getD k true=true):(a.setIfInBounds i true).getD k true=true:=by
 by_cases e:i=k
 ·subst e;rw[xan,xdq];split<;>rfl
 rw[getD_set_ne true e];exact h
theorem dU.waits{listed:Array Bool}(hc:dU md ops listed){i j:Nat}(h:mg md ops i j):listed.getD j true=true->listed.getD i true=true:=by
 induction h with
 |one h1 h2 h3 h4=>intro h;rw[<-h4];exact hc _ _ h1 h _ h2 h3
 |more h1 h2 h3 _ ih=>intro h;exact ih (hc _ _ h1 h _ h2 h3)
theorem dU.ready{listed:Array Bool}(hc:dU md ops listed){i j:Nat}(hj:j∈Region.ready md ops listed)(h:mg md ops i j):listed.getD i true=true:=by
 obtain⟨_,oj,gE,aI⟩:=mem_ready.1 hj;cases h with
 |one h1 h2 h3 h4=>rw[gE]at h1;cases h1;rw[<-h4];exact wD (aI _ h2 h3)
 |more h1 h2 h3 h4=>rw[gE]at h1;cases h1;exact hc.waits h4 (wD (aI _ h2 h3))
theorem dU.step{listed:Array Bool}(hc:dU md ops listed){j:Nat}(hj:j∈Region.ready md ops listed):dU md ops (listed.setIfInBounds j true):=by
 intro k ok hk hl e he hb;by_cases Of:j=k
 ·subst Of;obtain⟨_,oj,gE,aI⟩:=mem_ready.1 hj;rw[hk]at gE;cases gE;exact qq (wD (aI e he hb))
 rw[getD_set_ne true Of]at hl;exact qq (hc k ok hk hl e he hb)
theorem dU.none(n:Nat)(h:ops.size=n):dU md ops (Array.replicate n false):=by
 intro j oj hj hl;exfalso;have hlt:=(xaJ.1 hj).1;rw[xan,xcL,xae zO]at hl;cases hl
theorem cC.first{i:Nat}{oi:Oper}{v:zV}(hi:ops[i]? =some oi)(hsel:Region.noSelect ops=true)(hQ:∀c a w,Q (.panic c) (a.put oi.dst v) w->Q (.panic c) a w)
 (WB:∀w,S0 w->S i w w)(hS:∀j oj w w',ops[j]? =some oj->j≠i->¬mg md ops i j->S0 w->S j w w'->S0 w'):∀(n:Nat) (listed:Array Bool) (a:Act) (w:World),dU md ops listed->
   (∀j oj,ops[j]? =some oj->j≠i->listed.getD j true=false->JA md ops i j->oi.apart ops oj=true)->i∈Region.ready md ops listed->YieldsIf P ops S0 oi v a->S0 w->
   cC P md ops Q S n (listed.setIfInBounds i true) (a.put oi.dst v) w->cC P md ops Q S (n+1) listed a w:=by
 have ZV:=Region.noSelect_spec hsel;intro n;induction n with
 |zero=>
  intro listed a w hc hfree hr hy h0 h;refine⟨λe=>absurd hr (by rw[e];simp),λj hj=>?_⟩;by_cases e:j=i
  ·rw[e];exact hy.wpOp hi h0 ⟨WB _ h0,h⟩
  exact absurd (ready_mono hj e) (by rw[h.1];simp)
 |succ n ih=>
  intro listed a w hc hfree hr hy h0 h;refine⟨λe=>absurd hr (by rw[e];simp),λj hj=>?_⟩;by_cases e:j=i
  ·rw[e];exact hy.wpOp hi h0 ⟨WB _ h0,h⟩
  obtain⟨hun,oj,gE,aI⟩:=mem_ready.1 hj;have hno:JA md ops i j:=λo ho x hx hb he=>by
   rw[gE]at ho;cases ho;have h1:=aI x hx hb;have h2:=(mem_ready.1 hr).1;rw[he]at h1;rw[xan]at h1 h2;cases hg:listed[i]? with
   |none=>rw[hg]at h1;simp at h1
   |some y=>rw[hg]at h1 h2;simp at h1 h2;rw[h2]at h1;cases h1
  have Us:¬mg md ops i j:=λhw=>by
   have h1:=hc.ready hj hw;rw[(mem_ready.1 hr).1]at h1;cases h1
  refine wpOp_mono ?_ (wpOp_putIf gE (hfree j oj gE e hun hno) (λcs b=>ZV i oi cs b hi) (λcs b=>ZV j oj cs b gE) hQ hy (h.2 j (ready_mono hj e)));rintro a' w' ⟨hy',hs',ym⟩;refine⟨hs',ih _ _ _ (hc.step hj) (λk ok hk RF NY yp=>hfree k ok hk RF ?_ yp) (ready_mono hr (xbp e)) hy' (hS j oj w w' gE e Us h0 hs') (by rw[Array.setIfInBounds_comm _ _ e];exact ym)⟩;by_cases Of:j=k
  ·rw[<-Of];exact hun
  rw[<-NY,getD_set_ne true Of]
theorem cC.take{i:Nat}{oi:Oper}{v:zV}{n:Nat}{listed:Array Bool}{a:Act}{w:World}(hc:dU md ops listed)(hi:ops[i]? =some oi)(hsel:Region.noSelect ops=true)(hf:Region.free md ops listed i=true)
 (hr:(Region.ready md ops listed).contains i=true)(hQ:∀c a w,Q (.panic c) (a.put oi.dst v) w->Q (.panic c) a w)(WB:∀w,S0 w->S i w w)(hS:∀j oj w w',ops[j]? =some oj->j≠i->¬mg md ops i j->S0 w->S j w w'->S0 w')
 (hy:YieldsIf P ops S0 oi v a)(h0:S0 w)(h:cC P md ops Q S n (listed.setIfInBounds i true) (a.put oi.dst v) w):cC P md ops Q S (n+1) listed a w:=
 cC.first hi hsel hQ WB hS n listed a w hc (λj oj h1 h2 h3 h4=>Region.free_spec hi hf j oj h1 h2 h3 (h4 oj h1)) (by simpa using hr) hy h0 h
theorem cC.all{rs:zL}{n:Nat}{listed:Array Bool}{a:Act}{w:World}(hr:Region.ready md ops listed=rs)(hne:rs≠[])
 (h:∀i∈rs,wpOp P ops Q i (λa' w'=>S i w w'/\cC P md ops Q S n (listed.setIfInBounds i true) a' w') a w):cC P md ops Q S (n+1) listed a w:=
 ⟨λh0=>absurd (hr▸h0) hne,hr▸h⟩
theorem cC.done{listed:Array Bool}{a:Act}{w:World}(hr:Region.ready md ops listed=[])(h:Q .normal a w):∀n,cC P md ops Q S n listed a w
 |0=>⟨hr,h⟩
 |_+1=>⟨λ_=>h,by rw[hr];simp⟩
def Xj(j:Oper)(i:Nat):Bool:=j.after.toList.any λe=>Nat.beq e.on i&&Region.binds .any e
def T7(P:Program):Op->Bool
 | .move _| .assign _| .pick .. | .nilCheck _| .fieldAddr .. | .field .. | .indexAddr .. | .unOp .. =>true
 | .slice t _ _ _ none=>match P.underlying t with|some (.slice _)=>true|_=>false
 | .binOp _ t x y _=>match P.underlying t with
  |some d=>match Tf d x y with| .other=>false|_=>true
  |none=>true
 |_=>false
theorem xM{g:Gh}{o:Oper}(h:T7 P o.op=true)(ρ:Operand->zV)(H H':Hp)(k:zV->Prop):z9 P g o ρ H k=z9 P g o ρ H' k:=by
 obtain⟨d,op,t,p,a,gd⟩:=o;cases op<;>first|rfl|(simp only[T7]at h;first|cases h|skip)
 case binOp op t x y z=>
  simp only[z9];cases hu:P.underlying t with
  |none=>rfl
  |some d=>
   simp only[hu]at h;cases hb:Tf d x y<;>simp only[hb]at h⊢;cases h
 case slice t x lo hi m=>
  cases m with
  |none=>
   simp only[z9];cases hu:P.underlying t with
   |none=>simp[hu]at h
   |some d=>cases d<;>first|rfl|(exfalso;simp[hu]at h)
  |some m=>cases h
def tN(P:Program)(o:Op):Bool:=sk o&& !T7 P o
def DW(P:Program)(ops:Array Oper)(j:Nat):Bool:=match ops[j]? with
 |some oj=>(List.range ops.size).any λi=>match ops[i]? with|some oi=>tN P oi.op&& !Xj oj i&& !Nat.beq i j|none=>false
 |none=>true
def nk(ops:Array Oper)(i:Nat):Nat->Nat->Bool
 |0,_=>false
 |n+1,j=>match ops[j]? with
  |some oj=>oj.after.toList.any λe=>Region.binds .any e&& (Nat.beq e.on i||nk ops i n e.on)
  |none=>false
theorem p9{i:Nat}:∀{n j:Nat},nk ops i n j=true->mg .any ops i j
 |0,j,h=>by simp[nk]at h
 |n+1,j,h=>by
  unfold nk at h;split at h
  ·rename_i oj gE;obtain⟨e,he,h2⟩:=xca.1 h;simp only[xay,xbX]at h2;rcases h2.2 with h3|h3
   ·exact .one gE (xcF.1 he) h2.1 (xaC h3)
   exact .more gE (xcF.1 he) h2.1 (p9 h3)
  cases h
def qm(P:Program)(ops:Array Oper)(j:Nat):Bool:=(List.range ops.size).any λi=>match ops[i]? with|some oi=>tN P oi.op&& !nk ops i 6 j&& !Nat.beq i j|none=>false
def ES(P:Program)(g:Gh)(R:Hp)(ops:Array Oper)(j:Nat)(w w':World):Prop:=∀oj,ops[j]? =some oj->(sk oj.op=true->w'=w)/\(sk oj.op=false->Own g [] w'/\(qm P ops j=true->Own g R w->Own g R w'))
def nQ(P:Program)(g:Gh)(Xs:List Hp)(ops:Array Oper)(j:Nat)(w w':World):Prop:=∀X∈Xs,ES P g X ops j w w'
theorem j3{i j:Nat}{oi:Oper}(hi:ops[i]? =some oi)(hp:tN P oi.op=true)(hne:j≠i)(h:¬mg .any ops i j):qm P ops j=true:=by
 unfold qm;rw[xca];refine⟨i,xaV.2 (xaJ.1 hi).1,?_⟩;simp only[hi,hp,xdu,xay,xbx];refine⟨?_,?_⟩
 ·cases hb:nk ops i 6 j
  ·rfl
  exact absurd (p9 hb) h
 cases hb:Nat.beq i j
 ·rfl
 exact absurd (xaC hb).symm hne
theorem rW{j:Nat}(h:qm P ops j=true):DW P ops j=true:=by
 unfold qm at h;obtain⟨i,hi,h2⟩:=xca.1 h;unfold DW;split
 ·rename_i oj gE;refine xca.2 ⟨i,hi,?_⟩;split at h2
  ·rename_i oi mF;simp only[xay,xbx]at h2⊢;refine⟨⟨h2.1.1,?_⟩,h2.2⟩;cases hb:Xj oj i
   ·rfl
   have h3:=h2.1.2;unfold nk at h3;simp only[gE]at h3;unfold Xj at hb;obtain⟨e,he,h4⟩:=xca.1 hb;rw[<-Bool.not_eq_true,xca]at h3;refine absurd ⟨e,he,?_⟩ h3;simp only[xay,xbX]at h4⊢;exact⟨h4.2,.inl h4.1⟩
  cases h2
 rfl
end
end Go.Sx
namespace Go.Sx
open Go
section
variable {P:Program} {g:Gh} {ds:List Deferred}
def EW(b:Bool)(p q:Prop):Prop:=cond b (p/\q) q
theorem EW.of{b:Bool}{p q:Prop}(h:EW b p q):(b=true->p)/\q:=by
  cases b
  · exact⟨λe=>(by cases e),h⟩
  · exact⟨λ_=>h.1,h.2⟩
def JC(P:Program)(ops:Array Oper)(T:zL)(i:Nat):Bool:=cond T.isEmpty (DW P ops i) (qm P ops i)
theorem JB{ops:Array Oper}{T:zL}{i:Nat}(h:qm P ops i=true):JC P ops T i=true:=by
  unfold JC;cases T.isEmpty
  · exact h
  · exact rW h
def Gy(P:Program)(g:Gh)(n:Nat)(ops:Array Oper)(R:Hp)(K:Fr->Hp->Prop):zL->Array Bool->Fr->Hp->Prop
  | [],listed,fr,H=>cond (Region.ready .any ops listed).isEmpty (K fr H) False
  |i::r,listed,fr,H=>
    match ops[i]? with
    |none=>False
    |some o=>
      cond (c6 n o.dst&&o.guard.isNone)
        (cond (sk o.op)
          (cond (Region.free .any ops listed i&& (Region.ready .any ops listed).contains i)
            (z9 P g o (ev fr) R λv=>Gy P g n ops R K r (listed.setIfInBounds i true) (bJ fr o.dst v) H) False)
          (cond (Region.ready .any ops listed==[i])
            (MF P g o (ev fr) H (λv H'=>EW (DW P ops i) (aG H' R) (Gy P g n ops R K r (listed.setIfInBounds i true) (bJ fr o.dst v) H')) (λ_ _=>False)) False)) False
def o5(Q:Exit->Act->World->Prop):Exit->Act->World->Prop
  | .panic _,_,_=>False
  |e,a,w=>Q e a w
theorem iK{o:Oper}(h:o.guard.isNone=true)(y:Nat->Option Bool):Region.wanted o y=true:=by
  unfold Region.wanted;cases hg:o.guard<;>simp_all
theorem Own.jU{g:Gh}{H:Hp}{w:World}(h:Own g H w):Own g [] w:=Own.right (A:=H) (B:=[]) (by simpa using h)
theorem e7{listed:Array Bool}{i k:Nat}(hun:listed.getD i true=false)(h:(listed.setIfInBounds i true).getD k true=false):listed.getD k true=false:=by
  by_cases e:i=k
  · rw[<-e];exact hun
  · rwa [getD_set_ne true e]at h
theorem oJ{n:Nat}{ops:Array Oper}{R:Hp}{K:Fr->Hp->Prop}{Q:Exit->Act->World->Prop}(hs:Region.noSelect ops=true)(tZ:Fr)
   (hk:∀a w fr H,bD ds n a fr->Own g H w->dy ops.toList tZ fr->K fr H->Q .normal a w):
    ∀(l:zL) (listed:Array Bool) (fr:Fr) (H:Hp),Gy P g n ops R K l listed fr H->∀(fuel:Nat),l.length<=fuel->dU .any ops listed->∀(a:Act) (w:World),bD ds n a fr->Own g H w->((∃k ok,ops[k]? =some ok/\tN P ok.op=true/\listed.getD k true=false)->Own g R w)->dy ops.toList tZ fr->
      cC P .any ops (o5 Q) (ES P g R ops) fuel listed a w
  | [],listed,fr,H,h=>by
    intro fuel _ gO a w ha hw hR ho;unfold Gy at h;cases hr:(Region.ready .any ops listed).isEmpty<;>simp only[hr,xaw,xam]at h;exact cC.done (Q:=o5 Q) (by simpa using hr) (hk a w fr H ha hw ho h) fuel
  |i::r,listed,fr,H,h=>by
    intro fuel hfuel gO a w ha hw hR ho;unfold Gy at h;split at h<;>try exact h.elim
    rename_i o mF;have hmem:o∈ops.toList:=xcF.2 (Array.mem_of_getElem? mF);have hout:∀v,dy ops.toList tZ (bJ fr o.dst v):=λv s hs'=>by
      rw[eS,ho s hs'];have:∀l:List Oper,o∈l->aQ l s=false->aQ [({(default:Oper)with dst:=o.dst})] s=false:=by
        intro l;induction l with
        |nil=>intro h;simp at h
        |cons x y ih=>
          intro hm hi;rw[cu,xaD]at hi;rcases xaf.1 hm with rfl|hm
          · exact hi.1
          · exact ih hm hi.2
      exact this _ hmem hs'
    cases hc:(c6 n o.dst&&o.guard.isNone)<;>simp only[hc,xaw,xam]at h;simp only[xay]at hc;obtain⟨fuel,rfl⟩:∃f,fuel=f+1:=⟨fuel-1,by simp only[xar]at hfuel;omega⟩;have A2:r.length<=fuel:=by simp only[xar]at hfuel;omega
    cases yx:sk o.op<;>simp only[yx,xaw,xam]at h
    case true=>
      cases iU:(Region.free .any ops listed i&& (Region.ready .any ops listed).contains i)<;>simp only[iU,xaw,xam]at h;simp only[xay]at iU;have hun:=(mem_ready.1 (by simpa using iU.2:i∈Region.ready .any ops listed)).1;have jz:∀w,ES P g R ops i w w:=λw oj kL=>⟨λ_=>rfl,λhn=>(by rw[mF]at kL;cases kL;rw[yx]at hn;cases hn)⟩;cases hn:T7 P o.op
      case true=>
        rw[xM hn (ev fr) R []]at h;obtain⟨v,hk',hr⟩:=jt h;refine cC.take gO (S0:=Own g []) mF hs iU.1 iU.2 (λ_ _ _ h=>h) (λw _=>jz w) (λj oj w w' gE hj hno h0 hk=>?_) (.inl ⟨iK hc.2 _,λw' hw'=>by rw[ha.eval];exact hr w' hw'⟩) hw.jU ?_
        · cases wv:sk oj.op
          · exact((hk oj gE).2 wv).1
          · rw[(hk oj gE).1 wv];exact h0
        · refine oJ hs tZ hk r _ _ H hk' fuel A2 (gO.step (by simpa using iU.2)) _ w (ha.put hc.1 v) hw ?_ (hout v)
          rintro⟨k,ok,iT,q7,nW⟩;exact hR ⟨k,ok,iT,q7,e7 hun nW⟩
      case false=>
        obtain⟨v,hk',hr⟩:=jt h;have hrd:tN P o.op=true:=by simp[tN,yx,hn]
        have Vb:Own g R w:=hR ⟨i,o,mF,hrd,hun⟩;refine cC.take gO (S0:=Own g R) mF hs iU.1 iU.2 (λ_ _ _ h=>h) (λw _=>jz w) (λj oj w w' gE hj hno h0 hk=>?_) (.inl ⟨iK hc.2 _,λw' hw'=>by rw[ha.eval];exact hr w' hw'⟩) Vb ?_
        · cases wv:sk oj.op
          · exact((hk oj gE).2 wv).2 (j3 mF hrd hj hno) h0
          · rw[(hk oj gE).1 wv];exact h0
        · exact oJ hs tZ hk r _ _ H hk' fuel A2 (gO.step (by simpa using iU.2)) _ w (ha.put hc.1 v) hw (λ_=>Vb) (hout v)
    case false=>
      cases iU:(Region.ready .any ops listed==[i])<;>simp only[iU,xaw,xam]at h;have hrd:=xc5.1 iU;have Ad:i∈Region.ready .any ops listed:=by rw[hrd];simp
      refine cC.all hrd zI λj hj=>?_;simp only[xaL]at hj;subst hj;unfold wpOp;simp only[mF,iK hc.2,xa0];refine .inl ?_;unfold Oper.wp;rw[ha.eval];refine(rS (mH fr) h w hw).upon (λv H' w' cg hb=>?_) (λch H' w' _ h0=>h0.elim);obtain⟨he,hk'⟩:=hb.of;refine⟨λoj kL=>⟨λhp=>(by rw[mF]at kL;cases kL;rw[yx]at hp;cases hp),λ_=>⟨cg.jU,λhn _=>he (rW hn) _ _ cg⟩⟩,oJ hs tZ hk r _ _ H' hk' fuel A2 (gO.step Ad) _ w' (ha.put hc.1 v) cg ?_ (hout v)⟩;rintro⟨k,ok,iT,q7,nW⟩;refine he (rW ?_) _ _ cg;have RF:j≠k:=λe=>by
        subst e;rw[xan,xdq]at nW;have:=(mem_ready.1 Ad).1;rw[xan]at this;split at nW
        · simp at nW
        · rename_i hlt;rw[xb7 zO]at this;simp at this
      rw[getD_set_ne true RF]at nW;refine j3 iT q7 RF λhw=>?_;rw[gO.ready Ad hw]at nW;cases nW
abbrev Mk:=Obj×(Nat->zV)
def Mp(elem size bytes:Nat)(zero:zV)(l c:zV)(k:Mk->Prop):Prop:=
  ∃kl kc ln cn,l=.int kl (ln:Nat)/\c=.int kc (cn:Nat)/\ln<=cn/\(cn:Int)<=9223372036854775807/\cn*bytes<=281474976710656/\
    k (.cells (madeCells zero.cells (cn*size)) elem (0,0),λb=>.slice (some ⟨b,0,none⟩) ln cn)
def MB(P:Program)(t len:Nat)(parts:List (Nat×zV))(k:Mk->Prop):Prop:=
  ∃cs e n z,P.underlying t=some (.slice e)/\cy P e=some n/\dG P e=some z/\len*n<=2^24/\
      Instr.fill (λi=>some (i*n,n)) ((Array.range (len*n)).map (z.cells[· %z.cells.size]!)) parts=some cs/\k (.cells cs e (0,0),λb=>.slice (some ⟨b,0,none⟩) len len)
def Claim(P:Program)(o:Oper)(ρ:Operand->zV)(k:Mk->Prop):Prop:=
  match o.op with
  | .alloc t=>match dG P t with
    |some z=>k (.cells z.cells t (0,0),λb=>.pointer (some ⟨b,0,none⟩))
    |none=>False
  | .makeMap _ none=>k (.map #[] 0,λb=>.map (some b))
  | .makeSlice t l c=>match P.underlying t with
    |some (.slice e)=>match cy P e,sQ P e,dG P e with
      |some n,some b,some z=>Mp e n b z (ρ l) (ρ c) k
      |_,_,_=>False
    |_=>False
  | .buildSlice t len parts=>MB P t len (parts.toList.map λp=>(p.1,ρ p.2)) k
  |_=>False
def vq(P:Program)(o:Oper)(ρ:Operand->zV)(x:Mk):Prop:=∀w,(execOp ρ o).run P w=.ok (.value (x.2 w.heap.size)) (w.alloc x.1)
theorem Claim.makes{o:Oper}{ρ:Operand->zV}{k:Mk->Prop}(h:Claim P o ρ k):∃x,vq P o ρ x/\k x:=by
  unfold Claim at h;split at h
  · rename_i t hop
    split at h<;>try exact h.elim
    rename_i z hz;obtain⟨i,hi,tT⟩:=cz hz;refine⟨_,λw=>?_,h⟩;simp only[execOp,hop];simp[Instr.alloc,dw hi tT,newVar,newRow]
  · rename_i t hop
    refine⟨_,λw=>?_,h⟩;simp only[execOp,hop];simp[Instr.makeMap]
  · rename_i t l c hop
    split at h<;>try exact h.elim
    rename_i e ht;split at h<;>try exact h.elim
    rename_i n b z hn hb hz;obtain⟨i,hi,hin⟩:=aV hn;obtain⟨i',hi',tT⟩:=cz hz;obtain⟨i2,Ed,uR⟩:=l9 hb;have e1:i'=i:=xbt (hi'.symm.trans hi);have e2:i2=i:=xbt (Ed.symm.trans hi);subst e1;subst e2;obtain⟨kl,kc,ln,cn,hl,hc,hlc,cO,hby,hk⟩:=h;subst hin;subst uR;refine⟨_,λw=>?_,hk⟩;have e1:IntKind.i64.wrap (ln:Int)=ln:=IntWalk.i64_in _ zO;have e2:IntKind.i64.wrap (cn:Int)=cn:=IntWalk.i64_in _ zO;have e3:¬((i2.bytes:Int)*(cn:Int)>281474976710656):=by
      have:((cn*i2.bytes:Nat):Int)<=281474976710656:=by omega
      rw[Int.mul_comm];push_cast at this;omega
    have e4:¬((cn:Int)<ln):=by omega
    simp only[execOp,hop];by_cases h0:cn*i2.size=0
    · simp[Instr.makeSlice,run_underlying ht,asInt,asIntOf,typeInfo,hi,hl,hc,e1,e2,e3,e4,sizeOf,zeroValue,tT,newRow,madeCells,h0,show¬((cn:Int)<0)from by omega,show¬((ln:Int)<0)from by omega]
      have:Array.range 0=#[]:=rfl;simp[this]
    · simp[Instr.makeSlice,run_underlying ht,asInt,asIntOf,typeInfo,hi,hl,hc,e1,e2,e3,e4,sizeOf,zeroValue,tT,newRow,madeCells,h0,show¬((cn:Int)<0)from by omega,show¬((ln:Int)<0)from by omega]
  · rename_i t len parts hop
    obtain⟨cs,e,n,z,ht,hn,hz,hl,hf,hk⟩:=h;obtain⟨i,hi,hin⟩:=aV hn;obtain⟨i',hi',tT⟩:=cz hz;have:i'=i:=xbt (hi'.symm.trans hi);subst this;subst hin;refine⟨_,λw=>?_,hk⟩;have hl':¬(len*i'.size>2^24):=by omega
    have mP:(parts.map λ(x:Nat×Operand)=>(x.1,ρ x.2)).toList=parts.toList.map λp=>(p.1,ρ p.2):=by rw[xdv]
    by_cases h0:len*i'.size=0
    · simp only[execOp,hop,Instr.buildSlice,Sem.run_bind,run_underlying ht,Result.andThen_ok,run_sizeOf hi,hl',xaS,h0,xa0,Sem.run_pure]
      rw[h0]at hf;have Ru:Array.range 0=#[]:=rfl;simp only[Ru,xd0,List.map_toArray,xcu]at hf⊢;rw[mP,hf];simp[newRow]
    · simp only[execOp,hop,Instr.buildSlice,Sem.run_bind,run_underlying ht,Result.andThen_ok,run_sizeOf hi,hl',xaS,h0,dw hi tT,Sem.run_pure]
      simp[hf,newRow]
  · exact h.elim
abbrev Dv:=List (Nat×Mk)
def marks:Dv->Nat->Array Bool->Array Bool
  | [],_,l=>l
  |x::r,i,l=>marks r i (cond (Nat.beq x.1 i) l (l.setIfInBounds x.1 true))
def dQ(ops:Array Oper)(o:Oper)(i:Nat)(listed:Array Bool):Dv->Bool
  | []=>true
  |x::r=>(Nat.beq x.1 i||listed.getD x.1 true||(match ops[x.1]? with|some of=>of.apart ops o|none=>false)) &&dQ ops o i listed r
def eu:Dv->Nat->Option Mk
  | [],_=>none
  |x::r,i=>cond (Nat.beq x.1 i) (some x.2) (eu r i)
def Mf(listed:Array Bool):Dv->Bool
  | []=>true
  |x::r=>listed.getD x.1 false&&Mf listed r
inductive Hn
  |e
  |h(m:Nat)(L I:zL)(a b:Hn)
def Hn.m:Hn->Nat| .e=>0| .h m _ _ _ _=>m
def Hn.L:Hn->zL| .e=>[]| .h _ L _ _ _=>L
def Hn.I:Hn->zL| .e=>[]| .h _ _ I _ _=>I
def Hn.a:Hn->Hn| .e=>.e| .h _ _ _ a _=>a
def Hn.b:Hn->Hn| .e=>.e| .h _ _ _ _ b=>b
def Br(v:zV)(t f:Prop):Prop:=∃b,v=.bool b/\(b=true->t)/\(b=false->f)
def Rg(p:Oper)(fr:Fr):zV:=
  match p.op with
  | .move x=>ev fr x
  | .assign x=>ev fr x
  |_=>nB p fr
def FQ(p:Oper):Bool:=match p.op with| .pick .. =>true| .move _=>true| .assign _=>true|_=>false
theorem JO{p:Oper}{fr:Fr}{t:Bool}(hp:FQ p=true)(h:Rg p fr=.bool t)(w:World):(execOp (ev fr) p).run P w=.ok (.value (.bool t)) w:=by
  unfold FQ at hp;unfold Rg at h;split at h
  · rename_i x hop;simp only[execOp,hop,h];rfl
  · rename_i x hop;simp only[execOp,hop,h];rfl
  · rename_i h1 h2
    split at hp
    · rename_i hop;exact nA (by unfold pH;rw[hop]) h w
    · rename_i x hop;exact absurd hop (h1 x)
    · rename_i x hop;exact absurd hop (h2 x)
    · cases hp
theorem JV{p:Oper}(hp:FQ p=true):sk p.op=true:=by
  unfold FQ at hp;split at hp<;>first|(rename_i hop;rw[hop];rfl)|cases hp
def vB(ops:Array Oper)(fr:Fr)(o:Oper):Option Bool:=
  match o.guard with
  |none=>some true
  |some (j,want)=>match dB ops j with
    |none=>none
    |some s=>match fr s with
      | .bool b=>some (b==want)
      | .tuple _=>some false
      |_=>none
def mT(P:Program)(g:Gh)(n:Nat)(ops:Array Oper)(R:Hp)(K:Fr->Hp->Prop):Hn->Dv->Array Bool->Fr->Hp->Prop
  | .e,cl,listed,fr,H=>cond ((Region.ready .any ops listed).isEmpty&&Mf listed cl) (K fr H) False
  | .h m L T pa pb,cl,listed,fr,H=>
    match L with
    | [i]=>
      match ops[i]? with
      |none=>False
      |some o=>
        cond (Nat.beq m 1)
          (cond (c6 n o.dst&&o.guard.isNone&& !sk o.op&& !listed.getD i true&&dQ ops o i listed cl&& (match eu cl i with|none=>true|some _=>false))
            (Claim P o (ev fr) λx=>mT P g n ops R K pa ((i,x)::cl) listed fr H) False)
          (cond (c6 n o.dst&&dQ ops o i listed cl&& (Region.ready .any ops listed).contains i)
            (match vB ops fr o with
            |none=>False
            |some false=>cond (Region.free .any ops listed i&& (match eu cl i with|none=>true|some _=>false)) (mT P g n ops R K pa cl (listed.setIfInBounds i true) (bJ fr o.dst undef) H) False
            |some true=>
              cond (Nat.beq m 3) (cond (FQ o&&Region.free .any ops listed i) (match Rg o fr with
                | .bool b=>mT P g n ops R K pa cl (listed.setIfInBounds i true) (bJ fr o.dst (.bool b)) H
                |_=>False) False)
              (cond (sk o.op)
                (cond (Region.free .any ops listed i)
                  (z9 P g o (ev fr) R λv=>cond (Nat.beq m 0) (mT P g n ops R K pa cl (listed.setIfInBounds i true) (bJ fr o.dst v) H)
                    (Br v (mT P g n ops R K pa cl (listed.setIfInBounds i true) (bJ fr o.dst (.bool true)) H) (mT P g n ops R K pb cl (listed.setIfInBounds i true) (bJ fr o.dst (.bool false)) H))) False)
                (cond (Region.ready .any ops (marks cl i listed)==[i])
                  (match eu cl i with
                    |some x=>By H x.1 λb H'=>mT P g n ops R K pa cl (listed.setIfInBounds i true) (bJ fr o.dst (x.2 b)) H'
                    |none=>∀F,MF P (g.add F) o (ev fr) H (λv H'=>EW (JC P ops T i) (aG H' R) (mT P g n ops R K pa cl (listed.setIfInBounds i true) (bJ fr o.dst v) H')) (λ_ _=>False)) False))) False)
    | []=>cond (Nat.beq m 4) (∃R',aG H R'/\aG R' R/\mT P g n ops R' K pa cl listed fr H) False
    |_=>False
theorem Lz{cl:Dv}{i:Nat}{x:Mk}(h:eu cl i=some x):(i,x)∈cl:=by
  induction cl with
  |nil=>simp[eu]at h
  |cons y r ih=>
    simp only[eu]at h;cases hb:Nat.beq y.1 i<;>simp only[hb,xaw,xam]at h
    · exact xbz _ (ih h)
    · have:=xaC hb
      simp only[xap]at h;subst this;subst h;exact xbq
theorem Gr{cl:Dv}{i:Nat}(h:i∈cl.map Prod.fst):∃x,eu cl i=some x:=by
  induction cl with
  |nil=>simp at h
  |cons y r ih=>
    simp only[eu];cases hb:Nat.beq y.1 i
    · simp only[xam]
      rw[xaM,xaf]at h;rcases h with h|h
      · subst h;simp at hb
      · exact ih h
    · exact⟨_,rfl⟩
theorem iA{cl:Dv}{i:Nat}{x:Mk}(h:eu cl i=some x):i∈cl.map Prod.fst:=xaq.2 ⟨_,Lz h,rfl⟩
theorem uE{l:Dv}{i:Nat}{b:Array Bool}{k:Nat}:(marks l i b)[k]? =if k∈l.map Prod.fst/\k≠i/\k<b.size then some true else b[k]? :=by
  induction l generalizing b with
  |nil=>simp[marks]
  |cons y r ih=>
    simp only[marks];cases hy:Nat.beq y.1 i
    · have hne:y.1≠i:=λe=>by rw[e]at hy;simp at hy
      simp only[xam,ih,Array.size_setIfInBounds];by_cases hk:k∈r.map Prod.fst/\k≠i/\k<b.size
      · rw[xae hk,xae ⟨by rw[xaM];exact xbz _ hk.1,hk.2⟩]
      · rw[xad hk]
        by_cases e:y.1=k
        · subst e
          by_cases hlt:y.1<b.size
          · rw[xae ⟨by simp,hne,hlt⟩,xbF hlt]
          · rw[xad (λh=>hlt h.2.2),xb7 zP,xb7 zO]
        · rw[xbj e,xad]
          rintro⟨h1,h2⟩;rw[xaM,xaf]at h1;rcases h1 with h1|h1
          · exact e h1.symm
          · exact hk ⟨h1,h2⟩
    · have he:=xaC hy
      simp only[xaw,ih];by_cases hk:k∈r.map Prod.fst/\k≠i/\k<b.size
      · rw[xae hk,xae ⟨by rw[xaM];exact xbz _ hk.1,hk.2⟩]
      · rw[xad hk,xad]
        rintro⟨h1,h2,h3⟩;rw[xaM,xaf]at h1;rcases h1 with h1|h1
        · exact h2 (h1.trans he)
        · exact hk ⟨h1,h2,h3⟩
theorem eO{ops:Array Oper}{o:Oper}{i:Nat}{listed:Array Bool}{l:Dv}(h:dQ ops o i listed l=true){f:Nat}(hf:f∈l.map Prod.fst)(hne:f≠i)(hun:listed.getD f true=false):
    ∃of,ops[f]? =some of/\of.apart ops o=true:=by
  induction l with
  |nil=>simp at hf
  |cons x r ih=>
    simp only[dQ,xay,xbX]at h;rw[xaM]at hf;rcases xaf.1 hf with rfl|hf
    · rcases h.1 with(h1|h1)|h1
      · exact absurd (xaC h1) hne
      · rw[hun]at h1;simp at h1
      · split at h1
        · rename_i of ho;exact⟨of,ho,h1⟩
        · simp at h1
    · exact ih h.2 hf
theorem Bu{ops:Array Oper}{x y:Oper}(h:x.apart ops y=true):y.apart ops x=true:=by
  unfold Oper.apart at*;cases hx:x.dst<;>cases hy:y.dst<;>simp_all;exact λe=>h.1.2 e.symm
theorem pQ{ops:Array Oper}{l l':Array Bool}{i:Nat}(h:Region.free .any ops l i=true)(hm:∀k,l.getD k true=true->l'.getD k true=true):Region.free .any ops l' i=true:=by
  unfold Region.free at*;split at h
  · simp at h
  · rename_i oi mF
    rw[xc6]at h⊢;intro j hj;have:=h j hj;simp only[xbX]at this⊢;rcases this with(h1|h1)|h1
    · exact .inl (.inl h1)
    · exact .inl (.inr (hm j h1))
    · exact .inr h1
abbrev Early:=List (Nat×Nat×Mk)
def Qk(E:Early):Hp:=E.map λx=>(x.2.1,x.2.2.1)
structure Su(P:Program)(n:Nat)(ops:Array Oper)(listed:Array Bool)(cl:Dv)(fr:Fr)(j:Nat)(x:Mk)(o:Oper):Prop where
  op:ops[j]? =some o
  xP:sk o.op=false
  dst:c6 n o.dst=true
  gd:o.guard.isNone=true
  makes:vq P o (ev fr) x
  WK:∀k y,eu cl k=some y->k≠j->listed.getD k true=false->∃ok,ops[k]? =some ok/\ok.apart ops o=true
structure jJ(P:Program)(n:Nat)(ops:Array Oper)(cl:Dv)(listed la:Array Bool)(E:Early)(fr fa:Fr):Prop where
  mem:∀x∈E,eu cl x.1=some x.2.2/\listed.getD x.1 true=false
  nd:(E.map Prod.fst).Nodup
  la:∀k,la[k]? =if k∈E.map Prod.fst then some true else listed[k]?
  out:∀s,(∀x∈E,dB ops x.1≠some s)->fa s=fr s
  at_:∀x∈E,∀d,dB ops x.1=some d->fa d=x.2.2.2 x.2.1
  cl:∀j x,eu cl j=some x->listed.getD j true=false->∃o,Su P n ops listed cl fr j x o
section
variable {n:Nat} {ops:Array Oper} {cl:Dv} {listed la:Array Bool} {E:Early} {fr fa:Fr}
theorem jJ.more(h:jJ P n ops cl listed la E fr fa){k:Nat}{b:Bool}(hk:listed.getD k b=true):la.getD k b=true:=by
  have:=h.la k;rw[xan]at hk⊢;rw[this];split
  · rfl
  · exact hk
theorem jJ.ready(h:jJ P n ops cl listed la E fr fa){i:Nat}(hi:i∉E.map Prod.fst)(hr:i∈Region.ready .any ops listed):i∈Region.ready .any ops la:=by
  rw[mem_ready]at hr⊢;obtain⟨h1,o,ho,aI⟩:=hr;refine⟨?_,o,ho,λe he hb=>h.more (aI e he hb)⟩;have:=h.la i;rw[xan]at h1⊢;rw[this,xad hi];exact h1
theorem Po{i k:Nat}(h:(listed.setIfInBounds i true).getD k true=false):i≠k/\listed.getD k true=false:=by
  by_cases e:i=k
  · subst e
    rw[xan]at h;rcases xdh i listed.size with hl|hl
    · rw[xbF hl]at h;cases h
    · rw[xb7 (by simpa using hl)]at h;cases h
  · exact⟨e,by rwa [getD_set_ne true e]at h⟩
theorem vq.congr{o o':Oper}{x:Mk}{v:zV}(h:vq P o (ev fr) x)(hs:∀cs b,o.op≠.select cs b)(hap:o.apart ops o'=true):vq P o (ev (bJ fr o'.dst v)) x:=by
  have e:execOp (ev (bJ fr o'.dst v)) o=execOp (ev fr) o:=by
    refine execOp_congr o hs λy hy=>?_;cases y with
    |tmp t=>
      obtain⟨_,_,h3⟩:=Oper.apart_spec hap;cases hd:o'.dst with
      |none=>rfl
      |some d=>
        have:=h3 d hd;have hne:Nat.beq t d=false:=by
          cases hb:Nat.beq t d
          · rfl
          · have e:=xaC hb;subst e
            refine absurd ?_ this;exact xac _ (List.mem_filterMap.2 ⟨Operand.tmp t,by simpa using hy,rfl⟩)
        simp only[ev,bJ,hne,xam]
    |const v=>rfl
    |global g=>rfl
    |func f=>rfl
  intro w;rw[e];exact h w
theorem LO(hs:Region.noSelect ops=true)(fU:∀j x,eu cl j=some x->listed.getD j true=false->∃o,Su P n ops listed cl fr j x o){i:Nat}{o:Oper}(hap:dQ ops o i listed cl=true)(v:zV):
    ∀j x,eu cl j=some x->(listed.setIfInBounds i true).getD j true=false->∃oj,Su P n ops (listed.setIfInBounds i true) cl (bJ fr o.dst v) j x oj:=by
  intro j x hx hun;obtain⟨hne,NY⟩:=Po hun;obtain⟨oj,h⟩:=fU j x hx NY;obtain⟨ZW,cg,YE⟩:=eO hap (iA hx) (xbp hne) NY;rw[h.op]at cg;cases cg;exact⟨oj,h.op,h.xP,h.dst,h.gd,h.makes.congr (λcs b=>Region.noSelect_spec hs j oj cs b h.op) YE,λk y hk SO Kq=>h.WK k y hk SO (Po Kq).2⟩
theorem jJ.step(hs:Region.noSelect ops=true)(h:jJ P n ops cl listed la E fr fa){i:Nat}{o:Oper}(mF:ops[i]? =some o)(hi:i∉E.map Prod.fst)
   (sC:dQ ops o i listed cl=true)(v:zV):jJ P n ops cl (listed.setIfInBounds i true) (la.setIfInBounds i true) E (bJ fr o.dst v) (bJ fa o.dst v):=by
  have hap:∀x∈E,∃of,ops[x.1]? =some of/\of.apart ops o=true:=λx hx=>
      eO sC (iA (h.mem x hx).1) (λe=>hi (e▸xbf hx)) (h.mem x hx).2
  have hsz:la[i]? =listed[i]? :=by rw[h.la i,xad hi]
  refine⟨λx hx=>⟨(h.mem x hx).1,?_⟩,h.nd,λk=>?_,λs hs=>?_,λx hx d hd=>?_,LO hs h.cl sC v⟩
  · have hne:i≠x.1:=λe=>hi (e▸xbf hx)
    rw[getD_set_ne true hne];exact(h.mem x hx).2
  · by_cases e:i=k
    · subst e
      rw[xad hi,xb0,xb0];simp only[xa0];have:i<la.size↔i<listed.size:=by
        constructor
        · intro hlt;rw[xbm hlt]at hsz;exact(xaJ.1 hsz.symm).1
        · intro hlt;rw[xbm hlt]at hsz;exact(xaJ.1 hsz).1
      by_cases hlt:i<la.size
      · rw[xae hlt,xae (this.1 hlt)]
      · rw[xad hlt,xad (λx=>hlt (this.2 x))]
    · rw[xbj e,xbj e];exact h.la k
  · cases hd:o.dst with
    |none=>exact h.out s hs
    |some d=>
      simp only[bJ];cases Nat.beq s d
      · exact h.out s hs
      · rfl
  · obtain⟨of,Rw,hap⟩:=hap x hx
    obtain⟨h1,h2,h3⟩:=Oper.apart_spec hap;have Rv:of.dst=some d:=by simpa[dB,Rw]using hd
    have:=h2 d Rv;cases Yx:o.dst with
    |none=>exact h.at_ x hx d hd
    |some d'=>
      have hne:Nat.beq d d'=false:=by
        cases hb:Nat.beq d d'
        · rfl
        · have e:=xaC hb;subst e;exact absurd Yx this
      simp only[bJ,hne,xam];exact h.at_ x hx d hd
theorem jJ.exec(h:jJ P n ops cl listed la E fr fa){o:Oper}
   (hap:∀x∈E,∃of,ops[x.1]? =some of/\of.apart ops o=true)(hs:∀cs b,o.op≠.select cs b):execOp (ev fa) o=execOp (ev fr) o:=by
  refine execOp_congr o hs λx hx=>?_;cases x with
  |tmp t=>
    refine h.out t λy hy e=>?_;obtain⟨of,Rw,hap⟩:=hap y hy;obtain⟨h1,_,_⟩:=Oper.apart_spec hap;refine h1 t (by simpa[dB,Rw]using e) ?_;exact xac _ (List.mem_filterMap.2 ⟨.tmp t,by simpa using hx,rfl⟩)
  |const v=>rfl
  |global g=>rfl
  |func f=>rfl
theorem jJ.early(h:jJ P n ops cl listed la E fr fa){j b:Nat}{x:Mk}(hj:eu cl j=some x)(Kr:j∉E.map Prod.fst)(hun:listed.getD j true=false)
   {o:Oper}(ho:ops[j]? =some o):jJ P n ops cl listed (la.setIfInBounds j true) ((j,b,x)::E) fr (bJ fa o.dst (x.2 b)):=by
  obtain⟨o',fU⟩:=h.cl j x hj hun;have cg:=fU.op;rw[ho]at cg;cases cg;have RS:∀y∈E,∃of,ops[y.1]? =some of/\of.apart ops o=true:=λy hy=>
    fU.WK y.1 _ (h.mem y hy).1 (λe=>Kr (e▸xbf hy)) (h.mem y hy).2
  have X5:j<la.size:=by
    have hl:=h.la j;rw[xad Kr]at hl;have h2:j<listed.size:=by
      rcases xdh j listed.size with h2|h2
      · exact h2
      · rw[xan,xb7 h2]at hun;simp at hun
    rw[xbm h2]at hl;exact(xaJ.1 hl).1
  refine⟨λy hy=>?_,?_,λk=>?_,λs hs=>?_,λy hy d hd=>?_,h.cl⟩
  · rcases xaf.1 hy with rfl|hy
    · exact⟨hj,hun⟩
    · exact h.mem y hy
  · rw[xaM,xbd];exact⟨Kr,h.nd⟩
  · by_cases e:j=k
    · subst e;rw[xae zI,xbF X5]
    · rw[xbj e,h.la k]
      by_cases hk:k∈E.map Prod.fst
      · rw[xae hk,xae (by rw[xaM];exact xbz _ hk)]
      · rw[xad hk,xad]
        rw[xaM,xaf];rintro(h1|hk')
        · exact e h1.symm
        · exact hk hk'
  · have hne:=hs (j,b,x) zI
    simp only[dB,ho]at hne;rw[show bJ fa o.dst (x.2 b) s=fa s from ?_]
    · exact h.out s λy hy=>hs y (by simp[hy])
    · cases hd:o.dst with
      |none=>rfl
      |some d=>
        rw[hd]at hne;have:Nat.beq s d=false:=by
          cases hb:Nat.beq s d
          · rfl
          · exact absurd (xbL some (xaC hb).symm) hne
        simp only[bJ,this,xam]
  · rcases xaf.1 hy with rfl|hy
    · simp only[dB,ho]at hd
      rw[hd];simp[bJ]
    · obtain⟨of,Rw,hap⟩:=RS y hy
      obtain⟨_,h2,_⟩:=Oper.apart_spec hap;have Rv:of.dst=some d:=by simpa[dB,Rw]using hd
      have:=h2 d Rv;cases Yx:o.dst with
      |none=>exact h.at_ y hy d hd
      |some d'=>
        have hne:Nat.beq d d'=false:=by
          cases hb:Nat.beq d d'
          · rfl
          · have e:=xaC hb;subst e;exact absurd Yx this
        simp only[bJ,hne,xam];exact h.at_ y hy d hd
theorem jJ.vE(hs:Region.noSelect ops=true){E1 E2:Early}{j b:Nat}{x:Mk}(h:jJ P n ops cl listed la (E1++(j,b,x)::E2) fr fa){o:Oper}(ho:ops[j]? =some o)(sC:dQ ops o j listed cl=true):
    jJ P n ops cl (listed.setIfInBounds j true) la (E1++E2) (bJ fr o.dst (x.2 b)) fa:=by
  have iu:=h.nd;rw[xaG,xaM]at iu;have P2:j∉(E1++E2).map Prod.fst:=by
    have:=(xa6.nodup_iff.1 iu);rw[xbd]at this;rw[xaG];exact this.1
  have hsub:∀y,y∈E1++E2->y∈E1++(j,b,x)::E2:=λy hy=>by
    rcases xal.1 hy with hy|hy<;>simp[hy]
  have Oe:j<listed.size:=by
    have h2:=(h.mem (j,b,x) zI).2;rcases xdh j listed.size with h3|h3
    · exact h3
    · simp only at h2;rw[xan,xb7 h3]at h2;simp at h2
  refine⟨λy hy=>⟨(h.mem y (hsub y hy)).1,?_⟩,?_,λk=>?_,λs hs=>?_,λy hy d hd=>h.at_ y (hsub y hy) d hd,LO hs h.cl sC _⟩
  · have hne:j≠y.1:=λe=>P2 (e▸xbf hy)
    rw[getD_set_ne true hne];exact(h.mem y (hsub y hy)).2
  · have:=(xa6.nodup_iff.1 iu)
    rw[xbd]at this;rw[xaG];exact this.2
  · have hk:=h.la k
    by_cases e:j=k
    · subst e
      rw[xae zI]at hk;rw[hk,xad P2,xbF Oe]
    · rw[xbj e,hk]
      have:k∈(E1++(j,b,x)::E2).map Prod.fst↔k∈(E1++E2).map Prod.fst:=by
        simp only[xaG,xaM,xal,xaf];constructor
        · rintro(h|rfl|h)
          · exact .inl h
          · exact absurd rfl e
          · exact .inr h
        · rintro(h|h)
          · exact .inl h
          · exact .inr (.inr h)
      simp only[this]
  · by_cases e:dB ops j=some s
    · rw[h.at_ (j,b,x) zI s e]
      simp only[dB,ho]at e;rw[e];simp[bJ]
    · rw[h.out s λy hy=>?_]
      · simp only[dB,ho]at e
        cases hd:o.dst with
        |none=>rfl
        |some d=>
          rw[hd]at e;have:Nat.beq s d=false:=by
            cases hb:Nat.beq s d
            · rfl
            · exact absurd (xbL some (xaC hb).symm) e
          simp only[bJ,this,xam]
      · rcases xal.1 hy with hy|hy
        · exact hs y (by simp[hy])
        · rcases xaf.1 hy with rfl|hy
          · exact e
          · exact hs y (by simp[hy])
theorem jJ.VJ(h:jJ P n ops cl listed la E fr fa){i:Nat}{o:Oper}{x:Mk}(ho:ops[i]? =some o)(hd:c6 n o.dst=true)(hg:o.guard.isNone=true)(hp:sk o.op=false)(hun:listed.getD i true=false)
   (hap:dQ ops o i listed cl=true)(hno:eu cl i=none)(hm:vq P o (ev fr) x):jJ P n ops ((i,x)::cl) listed la E fr fa:=by
  have hne:∀j y,eu cl j=some y->j≠i:=λj y hj e=>by subst e;rw[hno]at hj;cases hj
  have hex:∀j y,eu cl j=some y->eu ((i,x)::cl) j=some y:=λj y hj=>by
    have:Nat.beq i j=false:=by
      cases hb:Nat.beq i j
      · rfl
      · exact absurd (xaC hb).symm (hne j y hj)
    simp only[eu,this,xam];exact hj
  have RL:∀j y,eu ((i,x)::cl) j=some y->(j=i/\y=x)\/(j≠i/\eu cl j=some y):=λj y hj=>by
    simp only[eu]at hj;cases hb:Nat.beq i j<;>simp only[hb,xaw,xam]at hj
    · exact .inr ⟨λe=>by subst e;simp at hb,hj⟩
    · exact .inl ⟨(xaC hb).symm,by simpa using hj.symm⟩
  refine⟨λy hy=>⟨hex _ _ (h.mem y hy).1,(h.mem y hy).2⟩,h.nd,h.la,h.out,h.at_,λj y hj hu=>?_⟩;rcases RL j y hj with⟨rfl,rfl⟩|⟨Og,Wn⟩
  · refine⟨o,ho,hp,hd,hg,hm,λk z hk SO Kq=>?_⟩
    rcases RL k z hk with⟨rfl,rfl⟩|⟨_,hk⟩
    · exact absurd rfl SO
    · exact eO hap (iA hk) SO Kq
  · obtain⟨oj,hc⟩:=h.cl j y Wn hu
    refine⟨oj,hc.op,hc.xP,hc.dst,hc.gd,hc.makes,λk z hk SO Kq=>?_⟩;rcases RL k z hk with⟨rfl,rfl⟩|⟨_,hk⟩
    · obtain⟨ZW,h1,h2⟩:=eO hap (iA Wn) Og hu
      rw[hc.op]at h1;cases h1;exact⟨o,ho,Bu h2⟩
    · exact hc.WK k z hk SO Kq
end
theorem Gu{E1 E2:Early}{y:Nat×Nat×Mk}:(Qk (E1++y::E2)).Perm ((y.2.1,y.2.2.1)::Qk (E1++E2)):=by
  unfold Qk;rw[xaG,xaM,xaG];exact xa6
def cnt:List Bool->Nat
  | []=>0
  |b::r=>cond b 0 1+cnt r
theorem Ez:∀(l:List Bool) (i:Nat),l[i]? =some false->cnt (l.set i true)+1=cnt l
  | [],i,h=>by simp at h
  |b::r,0,h=>by simp only[xbR,xap]at h;subst h;simp only[xcv,cnt,xaw,xam];omega
  |b::r,i+1,h=>by
    simp only[List.getElem?_cons_succ]at h;have:=Ez r i h;simp only[List.set_cons_succ,cnt];omega
theorem ua(n:Nat):cnt (List.replicate n false)=n:=by
  induction n with
  |zero=>rfl
  |succ n ih=>simp only[xcO,cnt,ih,xam];omega
theorem eR{a:Array Bool}{i:Nat}(h:a.getD i true=false):a[i]? =some false:=by
  rw[xan]at h;cases hg:a[i]? with
  |none=>rw[hg]at h;simp at h
  |some b=>rw[hg]at h;simpa using h
theorem l8{a:Array Bool}{i fuel:Nat}(h:a.getD i true=false)(hf:cnt a.toList<=fuel):∃f,fuel=f+1/\cnt (a.setIfInBounds i true).toList<=f:=by
  have h1:=eR h;have h2:a.toList[i]? =some false:=by rw[xba];exact h1
  have:=Ez _ _ h2;refine⟨fuel-1,by omega,?_⟩;have:(a.setIfInBounds i true).toList=a.toList.set i true:=by simp
  rw[this];omega
theorem GI{listed:Array Bool}{l:Dv}(h:Mf listed l=true){f:Nat}(hf:f∈l.map Prod.fst):listed.getD f false=true:=by
  induction l with
  |nil=>simp at hf
  |cons x r ih=>
    simp only[Mf,xay]at h;rw[xaM]at hf;rcases xaf.1 hf with rfl|hf
    · exact h.1
    · exact ih h.2 hf
theorem OI{a:Array Bool}{i:Nat}(h:a.getD i false=true):a.getD i true=true:=by
  rw[xan]at*;cases hg:a[i]? with
  |none=>rfl
  |some b=>rw[hg]at h;simpa using h
theorem dx{n:Nat}{ops:Array Oper}{R:Hp}{Xs:List Hp}{K:Fr->Hp->Prop}{Q:Exit->Act->World->Prop}(hs:Region.noSelect ops=true)(xf:R∈Xs)(Is:∀X∈Xs,aG R X)(tZ:Fr)
   (hk:∀a w fr H,bD ds n a fr->Own g H w->dy ops.toList tZ fr->K fr H->Q .normal a w):
    ∀(fuel:Nat) (l:Hn) (cl:Dv) (listed:Array Bool) (fr:Fr) (H:Hp),mT P g n ops R K l cl listed fr H->∀(E:Early) (la:Array Bool) (fa:Fr),cnt la.toList<=fuel->jJ P n ops cl listed la E fr fa->dU .any ops la->
      ∀(a:Act) (w:World),bD ds n a fa->Own (g.add (Qk E)) H w->((∃k ok,ops[k]? =some ok/\tN P ok.op=true/\la.getD k true=false)->Own g R w)->dy ops.toList tZ fr->
      cC P .any ops (o5 Q) (nQ P g Xs ops) fuel la a w
  |fuel,.e,cl,listed,fr,H,h=>by
    intro E la fa hfuel hE gO a w ha hw hR ho;unfold mT at h;cases hr:((Region.ready .any ops listed).isEmpty&&Mf listed cl)<;>simp only[hr,xaw,xam]at h;simp only[xay]at hr;have hr':Region.ready .any ops listed=[]:=by simpa using hr.1
    have hE0:E=[]:=by
      cases E with
      |nil=>rfl
      |cons x y=>
        have h1:=hE.mem x zI;have h2:=OI (GI hr.2 (iA h1.1));rw[h1.2]at h2;cases h2
    subst hE0;have Yu:fa=fr:=by funext s;exact hE.out s zI
    subst Yu;refine cC.done (Q:=o5 Q) ?_ (hk a w fa H ha hw ho h) fuel;rw[List.eq_nil_iff_forall_not_mem]at hr'⊢;intro k hk';refine hr' k ?_;rw[mem_ready]at hk'⊢;obtain⟨h1,o,h2,h3⟩:=hk';have hla:=λk=>hE.la k;simp only[xcu,xao,xaS]at hla;refine⟨?_,o,h2,λe he hb=>?_⟩
    · rw[xan,<-hla,<-xan];exact h1
    · rw[xan,<-hla,<-xan];exact h3 e he hb
  |fuel,.h m L T pa pb,cl,listed,fr,H,h=>by
    intro E la fa hfuel hE gO a w ha hw hR ho;have h0:=h;unfold mT at h;split at h<;>try exact h.elim
    rotate_left
    · cases h4:Nat.beq m 4<;>simp only[h4,xaw,xam]at h
      obtain⟨R',Ea,wu,hk'⟩:=h;exact(dx (R:=R') (Xs:=R'::Xs) hs (.head _) (λX hX=>by
        rcases xaf.1 hX with rfl|hX
        · exact .refl _
        · exact wu.trans (Is X hX)) tZ hk fuel pa cl listed fr H hk' E la fa hfuel hE gO a w ha hw (λ_=>Ea _ _ (Own.dP.2 hw).left) ho).mono λj w w' hK X hX=>hK X (.tail _ hX)
    rename_i i;split at h<;>try exact h.elim
    rename_i o mF;cases h1:Nat.beq m 1<;>simp only[h1,xaw,xam]at h
    case true=>
      cases hc:(c6 n o.dst&&o.guard.isNone&& !sk o.op&& !listed.getD i true&&dQ ops o i listed cl&& (match eu cl i with|none=>true|some _=>false))<;>simp only[hc,xaw,xam]at h;simp only[xay,xbx]at hc;obtain⟨⟨⟨⟨⟨hd,hg⟩,hp⟩,hun⟩,hap⟩,hno⟩:=hc;have yp:eu cl i=none:=by
        split at hno
        · assumption
        · cases hno
      obtain⟨x,hm,hk'⟩:=h.makes;exact dx hs xf Is tZ hk fuel pa _ listed fr H hk' E la fa hfuel (hE.VJ mF hd hg hp hun hap yp hm) gO a w ha hw hR ho
    have hmem:o∈ops.toList:=xcF.2 (Array.mem_of_getElem? mF);have hout:∀v,dy ops.toList tZ (bJ fr o.dst v):=λv s hs'=>by
      rw[eS,ho s hs'];have:∀l:List Oper,o∈l->aQ l s=false->aQ [({(default:Oper)with dst:=o.dst})] s=false:=by
        intro l;induction l with
        |nil=>intro h;simp at h
        |cons x y ih=>
          intro hm hi;rw[cu,xaD]at hi;rcases xaf.1 hm with rfl|hm
          · exact hi.1
          · exact ih hm hi.2
      exact this _ hmem hs'
    cases hc:(c6 n o.dst&&dQ ops o i listed cl&& (Region.ready .any ops listed).contains i)<;>simp only[hc,xaw,xam]at h;simp only[xay]at hc;obtain⟨⟨hd,sC⟩,XR⟩:=hc;have Ad:i∈Region.ready .any ops listed:=by simpa using XR
    have hun:=(mem_ready.1 Ad).1;have hap:i∉E.map Prod.fst->∀x∈E,∃of,ops[x.1]? =some of/\of.apart ops o=true:=λhi x hx=>
      eO sC (iA (hE.mem x hx).1) (λe=>hi (e▸xbf hx)) (hE.mem x hx).2
    have hsel:∀cs b,o.op≠.select cs b:=λcs b=>Region.noSelect_spec hs i o cs b mF;have Ty:∀j,j∈Region.ready .any ops la->j∉E.map Prod.fst/\listed.getD j true=false:=λj hj=>by
      have h1:=eR (mem_ready.1 hj).1;have h2:=hE.la j;by_cases Kr:j∈E.map Prod.fst
      · rw[xae Kr,h1]at h2;cases h2
      · rw[xad Kr,h1]at h2
        exact⟨Kr,by rw[xan,<-h2];rfl⟩
    have early:∀f',fuel=f'+1->(∀j,la.getD j true=false->cnt (la.setIfInBounds j true).toList<=f')->∀j x,j∈Region.ready .any ops la->eu cl j=some x->
        wpOp P ops (o5 Q) j (λa' w'=>nQ P g Xs ops j w w'/\cC P .any ops (o5 Q) (nQ P g Xs ops) f' (la.setIfInBounds j true) a' w') a w:=by
      intro f' wy kM j x hj Wm;obtain⟨Kr,Oe⟩:=Ty j hj;obtain⟨oj,fU⟩:=hE.cl j x Wm Oe;have gE:=fU.op;have wv:=fU.xP;have hgj:=fU.gd;have Yw:execOp (ev fa) oj=execOp (ev fr) oj:=hE.exec (λy hy=>fU.WK y.1 _ (hE.mem y hy).1 (λe=>Kr (e▸xbf hy)) (hE.mem y hy).2) (λcs b=>Region.noSelect_spec hs j oj cs b gE);unfold wpOp;simp only[gE,iK hgj,xa0];refine .inl ?_;unfold Oper.wp;rw[ha.eval,Yw,fU.makes w];simp only[Oper.upon];have hal:∀{A:Hp},Own g A w->Own g A (w.alloc x.1):=λhA=>(hA.alloc x.1).tail;refine⟨λX _ ZW kL=>⟨λhp=>?_,λ_=>⟨hal (Own.dP.2 hw).jU,λ_ h1=>hal h1⟩⟩,?_⟩
      · rw[gE]at kL;cases kL;rw[wv]at hp;cases hp
      · have MQ:=hE.early (b:=w.heap.size) Wm Kr Oe gE
        refine dx hs xf Is tZ hk f' (.h m [i] T pa pb) cl listed fr H h0 ((j,w.heap.size,x)::E) _ _ (kM j (mem_ready.1 hj).1) MQ (gO.step hj) _ _ (ha.put fU.dst _) ?_ ?_ ho
        · have h1:=hw.alloc x.1
          have h2:Own (g.add (Qk E)) (H++[(w.heap.size,x.1)]) (w.alloc x.1):=h1.perm (by exact(xbi (l₁:=[(w.heap.size,x.1)]) (l₂:=H)));have h3:=Own.dP.1 h2;exact h3
        · rintro⟨k,ok,iT,q7,nW⟩
          refine hal (hR ⟨k,ok,iT,q7,e7 (mem_ready.1 hj).1 nW⟩)
    have mY:∀b,vB ops fr o=some b->i∉E.map Prod.fst->Region.wanted o (yielded ops a.tmps)=b:=by
      intro b hb sA;unfold vB at hb;unfold Region.wanted;split at hb
      · rename_i hg;simp only[hg];simpa using hb
      · rename_i j want hg
        simp only[hg];split at hb<;>try (cases hb;done)
        rename_i s iS;rw[jP ha iS];have kR:fa s=fr s:=hE.out s λy hy e=>by
          obtain⟨of,Rw,hap⟩:=hap sA y hy;obtain⟨h1,_,_⟩:=Oper.apart_spec hap;refine h1 s (by simpa[dB,Rw]using e) ?_;refine xaa _ ?_;rw[hg];unfold dB at iS;cases hj:ops[j]? with
          |none=>rw[hj]at iS;cases iS
          |some oj=>rw[hj]at iS;simp only at iS;simp[hj,iS]
        rw[kR];split at hb
        · rename_i c hc;rw[hc];simp only[xap]at hb;subst hb;cases c<;>cases want<;>rfl
        · rename_i c hc;rw[hc];simp only[xap]at hb;subst hb;cases want<;>rfl
        · cases hb
    split at h<;>try exact h.elim
    · -- not wanted
      rename_i XE;cases iU:(Region.free .any ops listed i&& (match eu cl i with|none=>true|some _=>false))<;>simp only[iU,xaw,xam]at h;simp only[xay]at iU;have yp:eu cl i=none:=by
        have:=iU.2;split at this
        · assumption
        · cases this
      have sA:i∉E.map Prod.fst:=λhm=>by
        obtain⟨x,hx,e⟩:=xaq.1 hm;have:=(hE.mem x hx).1;rw[e,yp]at this;cases this
      have j8:=hE.ready sA Ad;have pI:=(mem_ready.1 j8).1;obtain⟨f',rfl,kM⟩:=l8 pI hfuel;have hfree:=pQ (l':=la) iU.1 (λk hk=>hE.more hk);have F6:(Region.ready .any ops la).contains i=true:=by simpa using j8
      refine cC.take gO (S0:=Own g []) mF hs hfree F6 (λ_ _ _ h=>h) (λw hw X _ oj gE=>⟨λ_=>rfl,λ_=>⟨hw,λ_ h=>h⟩⟩) (λj oj w w' gE hj hno h0 hk=>?_) (.inr ⟨mY false XE sA,rfl⟩) (Own.dP.2 hw).jU ?_
      · cases wv:sk oj.op
        · exact((hk R xf oj gE).2 wv).1
        · rw[(hk R xf oj gE).1 wv];exact h0
      · refine dx hs xf Is tZ hk f' pa cl _ _ H h E _ _ kM (hE.step hs mF sA sC _) (gO.step j8) _ w (ha.put hd _) hw ?_ (hout _)
        rintro⟨k,ok,iT,q7,nW⟩;exact hR ⟨k,ok,iT,q7,e7 pI nW⟩
    rename_i XE;have Wq:=mY true XE;have P6:∀v f' JN a' w',(cond (Nat.beq m 0) (mT P g n ops R K pa cl (listed.setIfInBounds i true) (bJ fr o.dst v) H)
                    (Br v (mT P g n ops R K pa cl (listed.setIfInBounds i true) (bJ fr o.dst (.bool true)) H) (mT P g n ops R K pb cl (listed.setIfInBounds i true) (bJ fr o.dst (.bool false)) H)))->
        cnt JN.toList<=f'->jJ P n ops cl (listed.setIfInBounds i true) JN E (bJ fr o.dst v) (bJ fa o.dst v)->dU .any ops JN->bD ds n a' (bJ fa o.dst v)->Own (g.add (Qk E)) H w'->
        ((∃k ok,ops[k]? =some ok/\tN P ok.op=true/\JN.getD k true=false)->Own g R w')->f'<fuel->cC P .any ops (o5 Q) (nQ P g Xs ops) f' JN a' w':=by
      intro v f' JN a' w' hv h1 h2 KL h3 h4 h5 hlt;cases hm:Nat.beq m 0<;>simp only[hm,xaw,xam]at hv
      · obtain⟨b,rfl,hb1,hb2⟩:=hv
        cases b
        · exact dx hs xf Is tZ hk f' pb cl _ _ H (hb2 rfl) E JN _ h1 h2 KL a' w' h3 h4 h5 (hout _)
        · exact dx hs xf Is tZ hk f' pa cl _ _ H (hb1 rfl) E JN _ h1 h2 KL a' w' h3 h4 h5 (hout _)
      · exact dx hs xf Is tZ hk f' pa cl _ _ H hv E JN _ h1 h2 KL a' w' h3 h4 h5 (hout _)
    cases h3:Nat.beq m 3<;>simp only[h3,xaw,xam]at h
    case true=>
      cases iU:(FQ o&&Region.free .any ops listed i)<;>simp only[iU,xaw,xam]at h;simp only[xay]at iU;split at h<;>try exact h.elim
      rename_i b Ui;have yx:sk o.op=true:=JV iU.1;have sA:i∉E.map Prod.fst:=λhm=>by
        obtain⟨x,hx,e⟩:=xaq.1 hm;have h2:=hE.mem x hx;obtain⟨o',fU⟩:=hE.cl _ _ h2.1 h2.2;have h3:=fU.op;rw[e,mF]at h3;cases h3;have:=fU.xP;rw[yx]at this;cases this
      have j8:=hE.ready sA Ad;have pI:=(mem_ready.1 j8).1;obtain⟨f',rfl,kM⟩:=l8 pI hfuel;have hfree:=pQ (l':=la) iU.2 (λk hk=>hE.more hk);have F6:(Region.ready .any ops la).contains i=true:=by simpa using j8
      have jz:∀w,nQ P g Xs ops i w w:=λw X _ oj kL=>⟨λ_=>rfl,λhn=>(by rw[mF]at kL;cases kL;rw[yx]at hn;cases hn)⟩;have F4:=hE.exec (hap sA) hsel;refine cC.take gO (S0:=Own g []) mF hs hfree F6 (λ_ _ _ h=>h) (λw _=>jz w) (λj oj w w' gE hj hno h0 hk=>?_) (.inl ⟨Wq sA,λw' hw'=>by rw[ha.eval,F4];exact JO iU.1 Ui w'⟩) (Own.dP.2 hw).jU ?_
      · cases wv:sk oj.op
        · exact((hk R xf oj gE).2 wv).1
        · rw[(hk R xf oj gE).1 wv];exact h0
      · refine dx hs xf Is tZ hk f' pa cl _ _ H h E _ _ kM (hE.step hs mF sA sC _) (gO.step j8) _ w (ha.put hd _) hw ?_ (hout _)
        rintro⟨k,ok,iT,q7,nW⟩;exact hR ⟨k,ok,iT,q7,e7 pI nW⟩
    cases yx:sk o.op<;>simp only[yx,xaw,xam]at h
    case true=>
      cases iU:(Region.free .any ops listed i)<;>simp only[iU,xaw,xam]at h;have sA:i∉E.map Prod.fst:=λhm=>by
        obtain⟨x,hx,e⟩:=xaq.1 hm;have h2:=hE.mem x hx;obtain⟨o',fU⟩:=hE.cl _ _ h2.1 h2.2;have h3:=fU.op;rw[e,mF]at h3;cases h3;have:=fU.xP;rw[yx]at this;cases this
      have j8:=hE.ready sA Ad;have pI:=(mem_ready.1 j8).1;obtain⟨f',rfl,kM⟩:=l8 pI hfuel;have hfree:=pQ (l':=la) iU (λk hk=>hE.more hk);have F6:(Region.ready .any ops la).contains i=true:=by simpa using j8
      have jz:∀w,nQ P g Xs ops i w w:=λw X _ oj kL=>⟨λ_=>rfl,λhn=>(by rw[mF]at kL;cases kL;rw[yx]at hn;cases hn)⟩;have hst:=λv=>hE.step hs mF sA sC v;have F4:=hE.exec (hap sA) hsel;cases hn:T7 P o.op
      case true=>
        rw[xM hn (ev fr) R []]at h;obtain⟨v,hk',hr⟩:=jt h;refine cC.take gO (S0:=Own g []) mF hs hfree F6 (λ_ _ _ h=>h) (λw _=>jz w) (λj oj w w' gE hj hno h0 hk=>?_) (.inl ⟨Wq sA,λw' hw'=>by rw[ha.eval,F4];exact hr w' hw'⟩) (Own.dP.2 hw).jU ?_
        · cases wv:sk oj.op
          · exact((hk R xf oj gE).2 wv).1
          · rw[(hk R xf oj gE).1 wv];exact h0
        · refine P6 v f' _ _ w hk' kM (hst v) (gO.step j8) (ha.put hd v) hw ?_ zO
          rintro⟨k,ok,iT,q7,nW⟩;exact hR ⟨k,ok,iT,q7,e7 pI nW⟩
      case false=>
        obtain⟨v,hk',hr⟩:=jt h;have hrd:tN P o.op=true:=by simp[tN,yx,hn]
        have Vb:Own g R w:=hR ⟨i,o,mF,hrd,pI⟩;refine cC.take gO (S0:=Own g R) mF hs hfree F6 (λ_ _ _ h=>h) (λw _=>jz w) (λj oj w w' gE hj hno h0 hk=>?_) (.inl ⟨Wq sA,λw' hw'=>by rw[ha.eval,F4];exact hr w' hw'⟩) Vb ?_
        · cases wv:sk oj.op
          · exact((hk R xf oj gE).2 wv).2 (j3 mF hrd hj hno) h0
          · rw[(hk R xf oj gE).1 wv];exact h0
        · exact P6 v f' _ _ w hk' kM (hst v) (gO.step j8) (ha.put hd v) hw (λ_=>Vb) zO
    case false=>
      cases iU:(Region.ready .any ops (marks cl i listed)==[i])<;>simp only[iU,xaw,xam]at h;have hrd:=xc5.1 iU;by_cases sA:i∈E.map Prod.fst
      · obtain⟨⟨i',b,x⟩,hx,e⟩:=xaq.1 sA
        simp only at e;subst e;have hex:eu cl i'=some x:=(hE.mem _ hx).1;simp only[hex]at h;obtain⟨E1,E2,rfl⟩:=xcT hx;have gD:Own (g.add (Qk (E1++E2))) ((b,x.1)::H) w:=by
          have h1:=(Own.dP.2 hw).perm ((xbH H (Gu (E1:=E1) (E2:=E2) (y:=(i',b,x)))).trans xa6);exact(Own.dP (A:=(b,x.1)::H)).1 h1
        have hb:b∉H.map Prod.fst:=by
          have:=gD.nd;rw[xaN,xaM,xbd,xaG,xal]at this;exact λh=>this.1 (.inl h)
        exact dx hs xf Is tZ hk fuel pa cl _ _ _ (h b hb) (E1++E2) la fa hfuel (hE.vE hs mF sC) gO a w ha gD hR (hout _)
      · have j8:=hE.ready sA Ad
        have pI:=(mem_ready.1 j8).1;obtain⟨f',rfl,kM⟩:=l8 pI hfuel;have UW:∀j,la.getD j true=false->cnt (la.setIfInBounds j true).toList<=f':=λj hj=>by
          obtain⟨f2,h1,h2⟩:=l8 hj hfuel;have:f2=f':=by omega
          subst this;exact h2
        have hst:=λv=>hE.step hs mF sA sC v;have F4:=hE.exec (hap sA) hsel;refine cC.all rfl (λe=>by rw[e]at j8;simp at j8) λj hj=>?_;by_cases Og:j=i
        · subst Og
          have xP:∀oj,ops[j]? =some oj->sk oj.op=true->False:=λoj gE hp=>by rw[mF]at gE;cases gE;rw[yx]at hp;cases hp
          unfold wpOp;simp only[mF,Wq sA,xa0];refine .inl ?_;unfold Oper.wp;rw[ha.eval,F4];cases hex:eu cl j with
          |none=>
            simp only[hex]at h;have h:=h (Qk E);refine(rS (mH fr) h w hw).upon (λv H' w' cg hb=>?_) (λch H' w' _ h0=>h0.elim);obtain⟨he,hk'⟩:=hb.of;have Va:qm P ops j=true->Own g R w':=λhn=>(Own.dP.2 (he (JB hn) _ _ cg)).left;refine⟨λX hX oj kL=>⟨λhp=>(xP oj kL hp).elim,λ_=>⟨(Own.dP.2 cg).jU,λhn _=>Is X hX _ _ (Va hn)⟩⟩,dx hs xf Is tZ hk f' pa cl _ _ H' hk' E _ _ kM (hst v) (gO.step j8) _ w' (ha.put hd v) cg ?_ (hout v)⟩;rintro⟨k,ok,iT,q7,nW⟩;refine Va ?_;have RF:j≠k:=λe=>by
              subst e;have h1:=eR pI;have hlt:=(xaJ.1 h1).1;rw[xan,xbF hlt]at nW;cases nW
            rw[getD_set_ne true RF]at nW;refine j3 iT q7 RF λhw=>?_;rw[gO.ready j8 hw]at nW;cases nW
          |some x=>
            simp only[hex]at h;obtain⟨oj,fU⟩:=hE.cl j x hex hun;have gE:=fU.op;rw[mF]at gE;cases gE;rw[fU.makes w];simp only[Oper.upon];have hal:∀{A:Hp},Own g A w->Own g A (w.alloc x.1):=λhA=>(hA.alloc x.1).tail;refine⟨λX _ oj kL=>⟨λhp=>(xP oj kL hp).elim,λ_=>⟨hal (Own.dP.2 hw).jU,λ_ h1=>hal h1⟩⟩,?_⟩;refine dx hs xf Is tZ hk f' pa cl _ _ _ (h _ hw.fresh) E _ _ kM (hst _) (gO.step j8) _ _ (ha.put hd _) (hw.alloc x.1) ?_ (hout _);rintro⟨k,ok,iT,q7,nW⟩;exact hal (hR ⟨k,ok,iT,q7,e7 pI nW⟩)
        · obtain⟨Kr,Oe⟩:=Ty j hj
          cases UD:eu cl j with
          |some x=>exact early f' rfl UW j x hj UD
          |none=>
          refine absurd ?_ Og;have Wm:j∉cl.map Prod.fst:=λhm=>by
            obtain⟨x,hx⟩:=Gr hm;rw[UD]at hx;cases hx
          have hjm:j∈Region.ready .any ops (marks cl i listed):=by
            obtain⟨_,oj,gE,aI⟩:=mem_ready.1 hj;rw[mem_ready];refine⟨?_,oj,gE,λe he hb=>?_⟩
            · rw[xan,uE,xad (λh=>Wm h.1),<-xan];exact Oe
            · have h1:=aI e he hb
              have h2:=hE.la e.on;rw[xan]at h1⊢;rw[uE];by_cases hm:e.on∈E.map Prod.fst
              · obtain⟨x,hx,e2⟩:=xaq.1 hm
                have qL:=eR (hE.mem x hx).2;rw[e2]at qL;have hlt:=(xaJ.1 qL).1;rw[xae ⟨e2▸iA (hE.mem x hx).1,λe3=>sA (e3▸hm),hlt⟩];rfl
              · rw[xad hm]at h2
                split
                · rfl
                · rw[<-h2];exact h1
          rw[hrd]at hjm;simpa using hjm
  termination_by fuel l=>(fuel,SizeOf.sizeOf l)
def qK:Code->Nat->Bool
  | .region _ ops _,s=>aQ ops.toList s
  | .seq a b,s=>qK a s||qK b s
  | .cond _ a b,s=>qK a s||qK b s
  | .block _ c,s=>qK c s
  | .loop c,s=>qK c s
  | .skip,_=>false
  | .ret,_=>false
  | .exit _,_=>false
  |_,_=>true
def ND(c:Code):zL->Bool
  | []=>true
  |s::r=> !qK c s&&ND c r
def sL(s:Nat):zL->Bool
  | []=>false
  |x::r=>Nat.beq s x||sL s r
def NG:zL->List zV->Fr->Fr
  |l::L,v::vs,base=>λs=>cond (Nat.beq s l) v (NG L vs base s)
  |_,_,base=>base
def mix(L:zL)(vs:List zV)(I:zL)(fr gs:Fr):Fr:=NG L vs λs=>cond (sL s I) (fr s) (gs s)
def Ag(fr:Fr):zL->List zV
  | []=>[]
  |s::r=>fr s::Ag fr r
def tA:Nat->(List zV->Prop)->Prop
  |0,p=>p []
  |n+1,p=>∀v,tA n λvs=>p (v::vs)
theorem tA.intro{p:List zV->Prop}(h:∀vs,p vs):∀n,tA n p
  |0=>h _
  |n+1=>λv=>tA.intro (λvs=>h (v::vs)) n
theorem tA.elim{p:List zV->Prop}:∀{n:Nat},tA n p->∀vs:List zV,vs.length=n->p vs
  |0,h,vs,e=>by cases vs with|nil=>exact h|cons x y=>simp at e
  |n+1,h,vs,e=>by
    cases vs with
    |nil=>simp at e
    |cons x y=>exact tA.elim (h x) y (by simpa using e)
theorem A7(fr:Fr)(L:zL):(Ag fr L).length=L.length:=by induction L<;>simp[Ag, *]
theorem rX{L I:zL}{fr fr':Fr}(h:∀s,sL s I=true->fr' s=fr s):mix L (Ag fr' L) I fr fr'=fr':=by
  funext s
  unfold mix;induction L with
  |nil=>
    simp only[Ag,NG];cases he:sL s I
    · rfl
    · exact(h s he).symm
  |cons l L ih=>
    simp only[Ag,NG];cases hb:Nat.beq s l
    · exact ih
    · have:=xaC hb;subst this;rfl
theorem rV{c:Code}{I:zL}(h:ND c I=true):∀s,sL s I=true->qK c s=false:=by
  induction I with
  |nil=>intro s hs;simp[sL]at hs
  |cons x r ih=>
    intro s hs;simp only[ND,xay,xbx]at h;simp only[sL,xbX]at hs;rcases hs with hs|hs
    · rw[xaC hs];exact h.1
    · exact ih h.2 s hs
def xw(next:Fr->Hp->Prop)(Q:Exit->Fr->Hp->Prop):Exit->Fr->Hp->Prop
  | .normal,fr,H=>next fr H
  |e,fr,H=>Q e fr H
def LX(id:Nat)(Q:Exit->Fr->Hp->Prop):Exit->Fr->Hp->Prop
  | .exit id',fr,H=>cond (Nat.beq id' id) (Q .normal fr H) (Q (.exit id') fr H)
  |e,fr,H=>Q e fr H
def JE(J:List zV->Hp->Prop)(vs:List zV)(H:Hp):Prop:=∃H',aG H H'/\J vs H'
def az(I:List zV->Hp->Prop)(m:List zV->Hp->Nat)(vs':List zV)(H':Hp)(vs:List zV)(H:Hp):Prop:=∃gp,aG H' gp/\I vs' gp/\m vs' gp<m vs H
def Loop(L:zL)(vs:List zV)(H:Hp)(body:(List zV->Hp->Prop)->List zV->Hp->Prop):Prop:=
  ∃(I:List zV->Hp->Prop) (m:List zV->Hp->Nat),JE I vs H/\tA L.length λvs=>∀H',I vs H'->body (λvs' gp=>az I m vs' gp vs H') vs H'
def VW(k:Nat)(rest:List zV->Hp->Prop)(body:(List zV->Hp->Prop)->Prop):Prop:=
  ∀J:List zV->Hp->Prop,(tA k λvs=>∀H,rest vs H->J vs H)->body J
def DR(H:Hp)(body:Hp->Prop):Prop:=∃R,aG H R/\body R
def ny:Code->Nat->Option (Array Oper)
  | .region id ops _,k=>cond (Nat.beq id k) (some ops) none
  | .seq a b,k=>match ny a k with|some x=>some x|none=>ny b k
  | .cond _ a b,k=>match ny a k with|some x=>some x|none=>ny b k
  | .block _ c,k=>ny c k
  | .loop c,k=>ny c k
  |_,_=>none
def Sh(P:Program)(g:Gh)(id:Nat)(ops:Array Oper)(L:zL)(vs:List zV)(H:Hp)(K:Hp->Prop):Prop:=
  ∀a w,gu a.tmps.size ops.toList=true->(L.map λs=>a.tmps.getD s undef)=vs->Own g H w->
    (Code.region id ops true).wp P (λe a' w'=>e=.normal/\a'.defers=a.defers/\a'.tmps.size=a.tmps.size/\(∀s,aQ ops.toList s=false->a'.tmps.getD s undef=a.tmps.getD s undef)/\∃H',Own g H' w'/\K H') a w
def mM(f:Func)(r:Nat):Array Oper:=match f.body with|some c=>(match ny c r with|some ops=>ops|none=>#[])|none=>#[]
theorem OP(fr:Fr)(L:zL):Ag fr L=L.map fr:=by induction L<;>simp[Ag, *]
def den(P:Program)(g:Gh)(n:Nat):Code->Hn->(Exit->Fr->Hp->Prop)->Fr->Hp->Prop
  | .skip,_,Q,fr,H=>Q .normal fr H
  | .ret,_,Q,fr,H=>Q .ret fr H
  | .exit id,_,Q,fr,H=>Q (.exit id) fr H
  | .seq x y,hn,Q,fr,H=>
    match hn.m with
    |0=>den P g n x hn.a (xw (den P g n y hn.b Q) Q) fr H
    |_=>cond (ND x hn.I)
        (VW hn.L.length (λvs H'=>∀gs,den P g n y hn.b Q (mix hn.L vs hn.I fr gs) H') λJ=>den P g n x hn.a (xw (λfr' H'=>JE J (Ag fr' hn.L) H') Q) fr H) False
  | .cond c x y,hn,Q,fr,H=>Br (ev fr c) (den P g n x hn.a Q fr H) (den P g n y hn.b Q fr H)
  | .block id c,hn,Q,fr,H=>den P g n c hn.a (LX id Q) fr H
  | .loop c,hn,Q,fr,H=>
    cond (ND c hn.I)
      (Loop hn.L (Ag fr hn.L) H λJ vs H'=>∀gs,den P g n c hn.a (xw (λfr' gp=>J (Ag fr' hn.L) gp) Q) (mix hn.L vs hn.I fr gs) H') False
  | .region id ops draw,hn,Q,fr,H=>
    cond draw
      (match hn.m with
      |0=>match hn.L with
       | []=>cond (P.follows .mixedOrders&&Region.lexB .any ops) (df P g n ops true (ops.toList.length+1) true none [] ops.toList fr H (λ_ fr' H'=>Q .normal fr' H') (λ_ _=>False)) False
       |l=>cond (P.follows .mixedOrders&&Region.noSelect ops&&Nat.ble l.length ops.size)
          (DR H λR=>Gy P g n ops R (λfr' H'=>Q .normal fr' H') l (Array.replicate ops.size false) fr H) False
      |9=>cond (gu n ops.toList) (Sh P g id ops hn.L (Ag fr hn.L) H λH'=>∀gs,Q .normal (pO ops.toList gs fr) H') False
      |_=>cond (P.follows .mixedOrders&&Region.noSelect ops)
          (DR H λR=>mT P g n ops R (λfr' H'=>Q .normal fr' H') hn.a [] (Array.replicate ops.size false) fr H) False)
      (df P g n ops (match hn.I with| []=>false|_=>true) (ops.toList.length+1) false none [] ops.toList fr H (λ_ fr' H'=>Q .normal fr' H') (λch H'=>∀fr',Q (.panic ch) fr' H'))
  |_,_,_,_,_=>False
theorem xj{c:Code}{Q:Exit->Act->World->Prop}{a:Act}{w:World}(R:Act->World->Nat->Prop)(h₀:∃m,R a w m)
   (round:∀a w m,R a w m->c.wp P (Exit.then (λa' w'=>∃m',m'<m/\R a' w' m') Q) a w):(Code.loop c).wp P Q a w:=by
  intro b k cs;have key:∀n a w,R a w n->
      ∃e a' w',Q e a' w'/\Arrives P (lone (b.at a (.code c:: .inLoop c::k)) cs w) b k cs e a' w':=by
    intro n;induction n using Nat.strongRecOn with
    |_ n ih=>
      intro a w hI;obtain⟨e,a₁,w₁,hq,yC⟩:=round a w n hI b (.inLoop c::k) cs;cases e with
      |normal=>
        obtain⟨m',hlt,Vr⟩:=hq;obtain⟨e₂,a₂,w₂,Uh,Oo⟩:=ih m' hlt a₁ w₁ Vr;exact⟨e₂,a₂,w₂,Uh,.of_steps (Steps.trans yC (.one step_inLoop)) Oo⟩
      |exit id=>exact⟨_,a₁,w₁,hq,.pass (x:=.inLoop c) rfl (λ_ _=>.inl zI) yC⟩
      |goto l=>exact⟨_,a₁,w₁,hq,.pass (x:=.inLoop c) rfl (λ_ _=>.inl zI) yC⟩
      |ret=>exact⟨_,a₁,w₁,hq,.pass (x:=.inLoop c) rfl (λ_ _=>.inl zI) yC⟩
      |panic ch=>exact⟨_,a₁,w₁,hq,.pass (x:=.inLoop c) rfl (λ_ _=>.inl zI) yC⟩
      |outgrown=>exact⟨_,a₁,w₁,hq,.pass (x:=.inLoop c) rfl (λ_ _=>.inl zI) yC⟩
  obtain⟨m,h₀⟩:=h₀;obtain⟨e,a',w',hq,yC⟩:=key m a w h₀;exact⟨e,a',w',hq,.of_steps (.one step_loop) yC⟩
def oq:Exit->Bool
  | .panic _=>true
  |_=>false
theorem gY{n:Nat}:∀(c:Code) (hn:Hn) (Q:Exit->Fr->Hp->Prop) (fr:Fr) (H:Hp),den P g n c hn Q fr H->∀(a:Act) (w:World),bD ds n a fr->Own g H w->c.wp P (λe a' w'=>∃fr' H',bD ds n a' fr'/\Own g H' w'/\(oq e=false->∀s,qK c s=false->fr' s=fr s)/\Q e fr' H') a w:=by
  intro c;induction c with
  |skip=>intro hn Q fr H h a w ha hw;exact wp_skip ⟨fr,H,ha,hw,λ_ _ _=>rfl,h⟩
  |ret=>intro hn Q fr H h a w ha hw;exact wp_ret ⟨fr,H,ha,hw,λ_ _ _=>rfl,h⟩
  |exit id=>intro hn Q fr H h a w ha hw;exact wp_exit ⟨fr,H,ha,hw,λ_ _ _=>rfl,h⟩
  |seq x y PS PR=>
    intro hn Q fr H h a w ha hw;unfold den at h;have TT:∀{OQ qs:Fr},(∀s,qK x s=false->OQ s=fr s)->(∀s,qK y s=false->qs s=OQ s)->∀s,qK (.seq x y) s=false->qs s=fr s:=λh1 h2 s hs=>by
      simp only[qK,xaD]at hs;rw[h2 s hs.2,h1 s hs.1]
    have tK:∀{OQ:Fr},(∀s,qK x s=false->OQ s=fr s)->∀s,qK (.seq x y) s=false->OQ s=fr s:=λh1 s hs=>by
      simp only[qK,xaD]at hs;exact h1 s hs.1
    split at h
    · refine wp_seq (wp_mono (PS _ _ fr H h a w ha hw) ?_)
      rintro e a' w' ⟨fr',H',cL,hw',ho,hq⟩;cases e with
      |normal=>exact wp_mono (PR _ _ fr' H' hq a' w' cL hw') λe2 a2 w2 ⟨qs,H2,g1,g2,g3,g4⟩=>⟨qs,H2,g1,g2,λhp=>TT (ho rfl) (g3 hp),g4⟩
      |exit id=>exact⟨fr',H',cL,hw',λhp=>tK (ho hp),hq⟩
      |goto l=>exact⟨fr',H',cL,hw',λhp=>tK (ho hp),hq⟩
      |ret=>exact⟨fr',H',cL,hw',λhp=>tK (ho hp),hq⟩
      |panic ch=>exact⟨fr',H',cL,hw',λhp=>tK (ho hp),hq⟩
      |outgrown=>exact⟨fr',H',cL,hw',λhp=>tK (ho hp),hq⟩
    · cases hno:ND x hn.I<;>simp only[hno,xaw,xam]at h
      have h':=h (λvs H'=>∀gs,den P g n y hn.b Q (mix hn.L vs hn.I fr gs) H') (tA.intro (λvs H' hh=>hh) _);refine wp_seq (wp_mono (PS _ _ fr H h' a w ha hw) ?_);rintro e a' w' ⟨fr',H',cL,hw',ho,hq⟩;cases e with
      |normal=>
        obtain⟨Hj,hent,hq⟩:=hq;have Wk:den P g n y hn.b Q fr' Hj:=by
          have:=hq fr';rwa [rX λs hs=>ho rfl s (rV hno s hs)]at this
        exact wp_mono (PR _ _ fr' Hj Wk a' w' cL (hent _ _ hw')) λe2 a2 w2 ⟨qs,H2,g1,g2,g3,g4⟩=>⟨qs,H2,g1,g2,λhp=>TT (ho rfl) (g3 hp),g4⟩
      |exit id=>exact⟨fr',H',cL,hw',λhp=>tK (ho hp),hq⟩
      |goto l=>exact⟨fr',H',cL,hw',λhp=>tK (ho hp),hq⟩
      |ret=>exact⟨fr',H',cL,hw',λhp=>tK (ho hp),hq⟩
      |panic ch=>exact⟨fr',H',cL,hw',λhp=>tK (ho hp),hq⟩
      |outgrown=>exact⟨fr',H',cL,hw',λhp=>tK (ho hp),hq⟩
  |cond c x y PS PR=>
    intro hn Q fr H h a w ha hw;obtain⟨b,hb,ht,hf⟩:=h;refine wp_cond_split (t:=b) (by rw[ha.eval];exact hb) (λe=>?_) (λe=>?_)
    · exact wp_mono (PS _ _ fr H (ht e) a w ha hw) λe2 a2 w2 ⟨qs,H2,g1,g2,g3,g4⟩=>⟨qs,H2,g1,g2,λhp s hs=>g3 hp s (by simp only[qK,xaD]at hs;exact hs.1),g4⟩
    · exact wp_mono (PR _ _ fr H (hf e) a w ha hw) λe2 a2 w2 ⟨qs,H2,g1,g2,g3,g4⟩=>⟨qs,H2,g1,g2,λhp s hs=>g3 hp s (by simp only[qK,xaD]at hs;exact hs.2),g4⟩
  |block id c ih=>
    intro hn Q fr H h a w ha hw;refine wp_block (wp_mono (ih _ _ fr H h a w ha hw) ?_);rintro e a' w' ⟨fr',H',cL,hw',ho,hq⟩;cases e with
    |exit id'=>
      simp only[LX]at hq;cases hb:Nat.beq id' id<;>simp only[hb,xaw,xam]at hq
      · have:id'≠id:=λe=>by subst e;simp at hb
        simp only[Exit.inBlock,this,xaS];exact⟨fr',H',cL,hw',ho,hq⟩
      · have:=xaC hb
        simp only[Exit.inBlock,this,xa0];exact⟨fr',H',cL,hw',ho,hq⟩
    |normal=>exact⟨fr',H',cL,hw',ho,hq⟩
    |goto l=>exact⟨fr',H',cL,hw',ho,hq⟩
    |ret=>exact⟨fr',H',cL,hw',ho,hq⟩
    |panic ch=>exact⟨fr',H',cL,hw',ho,hq⟩
    |outgrown=>exact⟨fr',H',cL,hw',ho,hq⟩
  |loop c ih=>
    intro hn Q fr H h a w ha hw;unfold den at h;cases hno:ND c hn.I<;>simp only[hno,xaw,xam]at h;obtain⟨I,m,⟨H0,UR,h0⟩,hr⟩:=h;refine xj (λa w k=>∃fr' H',bD ds n a fr'/\Own g H' w/\(∀s,qK c s=false->fr' s=fr s)/\I (Ag fr' hn.L) H'/\m (Ag fr' hn.L) H'=k) ⟨_,fr,H0,ha,UR _ _ hw,λ_ _=>rfl,h0,rfl⟩ ?_;rintro a w k ⟨OQ,H1,Ei,gD,Ec,hI,rfl⟩;have hb:=hr.elim (Ag OQ hn.L) (A7 _ _) H1 hI OQ;rw[rX λs hs=>Ec s (rV hno s hs)]at hb;refine wp_mono (ih _ _ OQ H1 hb a w Ei gD) ?_;rintro e a' w' ⟨fr',H',cL,hw',ho,hq⟩;have cg:oq e=false->∀s,qK c s=false->fr' s=fr s:=λhp s hs=>(ho hp s hs).trans (Ec s hs);cases e with
    |normal=>obtain⟨Hj,hent,XT,SJ⟩:=hq;exact⟨_,SJ,fr',Hj,cL,hent _ _ hw',cg rfl,XT,rfl⟩
    |exit id=>exact⟨fr',H',cL,hw',cg,hq⟩
    |goto l=>exact⟨fr',H',cL,hw',cg,hq⟩
    |ret=>exact⟨fr',H',cL,hw',cg,hq⟩
    |panic ch=>exact⟨fr',H',cL,hw',cg,hq⟩
    |outgrown=>exact⟨fr',H',cL,hw',cg,hq⟩
  |region id ops draw=>
    intro hn Q fr H h a w ha hw;unfold den at h;cases draw<;>simp only[xaw,xam]at h
    case false=>
      refine wp_region_list ?_;have:=bO _ _ _ _ _ fr H _ _ h trivial (fR.nil fr) a w ha hw [] (λe a' w'=>∃fr' H',bD ds n a' fr'/\Own g H' w'/\(oq e=false->∀s,qK (.region id ops false) s=false->fr' s=fr s)/\Q e fr' H') ?_ ?_
      · simpa using this
      · intro a' w' mX fr' H' h1 h2 h3 _ h4
        exact⟨fr',H',h1,h2,λ_=>h3,h4⟩
      · intro ch a' w' fr' H' h1 h2 h3
        exact⟨fr',H',h1,h2,λhp=>by simp[oq]at hp,h3 fr'⟩
    case true=>
      split at h
      · split at h
        · cases hc:(P.follows .mixedOrders&&Region.lexB .any ops)<;>simp only[hc,xaw,xam]at h
          simp only[xay]at hc;refine wp_region_quiet (C:=Own g H) hc.1 hc.2 hw.u3 ?_;have:=cQ _ none _ ops.toList fr H _ _ h trivial (fR.nil fr) a ha [] (λa'=>∀w',Own g H w'->∃fr' H',bD ds n a' fr'/\Own g H' w'/\(oq .normal=false->∀s,qK (.region id ops true) s=false->fr' s=fr s)/\Q .normal fr' H') ?_
          · simpa using this
          · intro a' mX fr' h1 h3 _ h4
            exact λw' hw'=>⟨fr',H,h1,hw',λ_=>h3,h4⟩
        · cases hc:(P.follows .mixedOrders&&Region.noSelect ops&&Nat.ble hn.L.length ops.size)<;>simp only[hc,xaw,xam]at h
          simp only[xay]at hc;obtain⟨R,hR,h⟩:=h;refine wp_mono (Q:=o5 λe a' w'=>∃fr' H',bD ds n a' fr'/\Own g H' w'/\(oq e=false->∀s,qK (.region id ops true) s=false->fr' s=fr s)/\Q e fr' H') ?_ ?_
          · refine wp_region_any hc.1.1 (cC.any (S:=ES P g R ops) ?_)
            exact oJ hc.1.2 fr (λa w fr' H' h1 h2 h3 h4=>⟨fr',H',h1,h2,λ_=>h3,h4⟩) _ _ fr H h _ (xbY hc.2) (dU.none _ rfl) _ _ ha hw.u3 (λ_=>(hR _ _ hw).u3) (dy.refl _ _)
          · intro e a w h
            cases e<;>first|exact h|exact h.elim
      · cases hc:gu n ops.toList<;>simp only[hc,xaw,xam]at h
        refine wp_mono (h a w (by rw[ha.size];exact hc) (by rw[OP];exact xbV λs _=>ha.get s) hw) ?_;rintro e a' w' ⟨rfl,hd,hs,ho,H',hw',hk⟩;refine⟨pO ops.toList (λs=>a'.tmps.getD s undef) fr,H',⟨hd.trans ha.defers,hs.trans ha.size,λs=>?_⟩,hw',λ_ s hs=>?_,hk _⟩
        · unfold pO
          cases hb:aQ ops.toList s
          · rw[xam,ho s hb,ha.get]
          · rfl
        · unfold pO;simp only[qK]at hs;rw[hs,xam]
      · cases hc:(P.follows .mixedOrders&&Region.noSelect ops)<;>simp only[hc,xaw,xam]at h
        simp only[xay]at hc;obtain⟨R,hR,h⟩:=h;refine wp_mono (Q:=o5 λe a' w'=>∃fr' H',bD ds n a' fr'/\Own g H' w'/\(oq e=false->∀s,qK (.region id ops true) s=false->fr' s=fr s)/\Q e fr' H') ?_ ?_
        · refine wp_region_any hc.1 (cC.any (S:=nQ P g [R] ops) ?_)
          refine dx (Xs:=[_]) hc.2 (.head _) (λX hX=>by rw[xaL.1 hX];exact .refl _) fr (λa w fr' H' h1 h2 h3 h4=>⟨fr',H',h1,h2,λ_=>h3,h4⟩) _ _ [] _ fr H h [] _ fr (by rw[Array.toList_replicate,ua];exact xak _) ⟨by simp,by simp,by simp,λ_ _=>rfl,by simp,λj x hx=>by simp[eu]at hx⟩ (dU.none _ rfl) _ _ ha hw.u3 (λ_=>(hR _ _ hw).u3) (dy.refl _ _)
        · intro e a w h
          cases e<;>first|exact h|exact h.elim
  |label l=>intro hn Q fr H h;exact h.elim
  |goto l=>intro hn Q fr H h;exact h.elim
  |scope c _=>intro hn Q fr H h;exact h.elim
  |refuse s=>intro hn Q fr H h;exact h.elim
  |rangeFunc f ps as b _ _=>intro hn Q fr H h;exact h.elim
def cK(R:Ending->Hp->Prop):List PanicEntry->Hp->Prop:=λch H=>∀_:Fr,R (.panicked ch) H
def iE:List PanicEntry->Hp->Prop:=λ_ _=>False
def rK:Code->Nat->Option (Array Oper)
  | .region id ops _,k=>cond (Nat.beq id k) (some ops) none
  | .seq a b,k=>match rK a k with|some x=>some x|none=>rK b k
  | .cond _ a b,k=>match rK a k with|some x=>some x|none=>rK b k
  | .block _ c,k=>rK c k
  | .loop c,k=>rK c k
  |_,_=>none
def bY(f:Func)(r i:Nat):Oper:=match f.body with|some c=>(match rK c r with|some ops=>(match ops[i]? with|some o=>o|none=>default)|none=>default)|none=>default
def eX:List zV->Nat->Fr
  | [],_=>λ_=>undef
  |v::r,i=>λs=>cond (Nat.beq s i) v (eX r (i+1) s)
def nx(P:Program)(fr:Fr)(H:Hp):List ResultVar->(List zV->Prop)->Prop
  | [],k=>k []
  | .tmp t::r,k=>nx P fr H r λvs=>k (fr t::vs)
  | .cell a t::r,k=>match P.underlying t,cy P t with
    |some d,some n=>cond (ct d) (av n H (fr a) λv=>nx P fr H r λvs=>k (v::vs)) (Ld H (fr a) λv=>nx P fr H r λvs=>k (v::vs))
    |_,_=>False
def rD:List zV->zV
  | [v]=>v
  |vs=>.tuple vs.toArray
def Zt(P:Program)(fn:Func)(R:Ending->Hp->Prop):Exit->Fr->Hp->Prop
  | .normal,fr,H=>nx P fr H fn.results.toList λvs=>R (.returned (rD vs)) H
  | .ret,fr,H=>nx P fr H fn.results.toList λvs=>R (.returned (rD vs)) H
  | .panic ch,_,H=>R (.panicked ch) H
  |_,_,_=>False
def Be(P:Program)(g:Gh)(fn:Func)(hn:Hn)(args:List zV)(H:Hp)(R:Ending->Hp->Prop):Prop:=
  match fn.body with
  |some c=>cond (Nat.ble args.length fn.ntmps) (den P g fn.ntmps c hn (Zt P fn R) (eX args 0) H) False
  |none=>False
theorem j7:∀(l:List zV) (i s:Nat),eX l i s=if s<i then undef else l.getD (s-i) undef
  | [],i,s=>by simp[eX]
  |v::r,i,s=>by
    simp only[eX,j7 r (i+1) s];cases hb:Nat.beq s i
    · have hne:s≠i:=λe=>by subst e;simp at hb
      simp only[xam];by_cases h:s<i
      · rw[xae zO,xae h]
      · rw[xad zO,xad h,show s-i=(s-(i+1))+1 by omega]
        simp[List.getD]
    · have:=xaC hb;subst this
      simp[List.getD]
def Fu(fr:Fr):ResultVar->Sem zV
  | .tmp t=>pure (fr t)
  | .cell b t=>do loadVar t (<-asAddr (fr b))
theorem qn{fr:Fr}{H:Hp}{w:World}(hw:Own g H w){b:Tmp}{t:TypeId}{v:zV}{p:Addr}(hp:fr b=.pointer (some p))(h:(Instr.loadAt t (fr b)).run P w=.ok v w):(Fu fr (.cell b t)).run P w=.ok v w:=by
  rw[hp]at h;simp only[Fu,hp,asAddr];simpa[Instr.loadAt,Instr.sureAddr]using h
theorem n7{fr:Fr}{H:Hp}{w:World}(hw:Own g H w):∀(l:List ResultVar) (k:List zV->Prop),nx P fr H l k->
    ∃vs,(l.mapM (Fu fr)).run P w=.ok vs w/\k vs
  | [],k,h=>⟨[],by simp,h⟩
  | .tmp t::r,k,h=>by
    obtain⟨vs,hr,hk⟩:=n7 hw r _ h;refine⟨fr t::vs,?_,hk⟩;simp only[xdJ,Sem.run_bind,Sem.run_pure,Result.andThen_ok,hr,Fu]
  | .cell b t::r,k,h=>by
    unfold nx at h;split at h<;>try exact h.elim
    rename_i d m hd hm;obtain⟨i,hi,him⟩:=aV hm;cases hag:ct d<;>simp only[hag,xaw,xam]at h
    · obtain⟨v,hk',hf⟩:=h.fix
      obtain⟨v2,wu,e⟩:=hf.run (P:=P) hw hd hag;subst e;obtain⟨bb,off,c,T,fz,u,hp,_⟩:=hf;obtain⟨vs,hr,hk⟩:=n7 hw r _ hk';refine⟨v2::vs,?_,hk⟩;have:=qn hw hp wu;simp only[xdJ,Sem.run_bind,Result.andThen_ok,hr,Sem.run_pure,this]
    · obtain⟨v,hk',hf⟩:=h.fix
      obtain⟨v2,wu,e⟩:=hf.run (P:=P) hw hd hag hi him;subst e;obtain⟨bb,off,c,T,fz,hp,_⟩:=hf;obtain⟨vs,hr,hk⟩:=n7 hw r _ hk';refine⟨v2::vs,?_,hk⟩;have:=qn hw hp wu;simp only[xdJ,Sem.run_bind,Result.andThen_ok,hr,Sem.run_pure,this]
theorem e9{fn:Func}{fr:Fr}{H:Hp}{n:Nat}{a:Act}{w:World}(ha:bD ds n a fr)(hw:Own g H w){k:List zV->Prop}(h:nx P fr H fn.results.toList k):
    ∃vs,(results fn a.tmps).run P w=.ok (rD vs) w/\k vs:=by
  obtain⟨vs,hr,hk⟩:=n7 (P:=P) hw _ _ h;refine⟨vs,?_,hk⟩;have e:results fn a.tmps=(do let vs <-fn.results.mapM (Fu fr);pure (if h:vs.size=1 then vs[0]else .tuple vs)):=by
    unfold results;congr 1;congr 1
    funext x
    cases x<;>simp only[Fu,ha.get]
  rw[e,Array.mapM_eq_mapM_toList];simp only[Sem.run_bind,Sem.run_map,hr,Result.andThen_ok,Sem.run_pure];congr 1
  match vs with
  | []=>rfl
  | [v]=>rfl
  |a::b::r=>simp[rD]
theorem Bd{f:FuncId}{fn:Func}{hn:Hn}{args:List zV}{H:Hp}{R:Ending->Hp->Prop}(hf:P.funcs[f]? =some fn)(h:Be P g fn hn args H R):aR P g f args.toArray H R:=by
  intro w hw;unfold Be at h;split at h<;>try exact h.elim
  rename_i c hc;cases hl:Nat.ble args.length fn.ntmps<;>simp only[hl,xaw,xam]at h;have hle:=xbY hl;refine calls_of_wp hf hc (wp_mono (gY c hn _ _ H h _ w ⟨rfl,?_,?_⟩ hw) ?_)
  · simp;omega
  · intro s
    rw[j7,xan,xdz];simp only[xcD,xcg,xaS,xdi];by_cases hs:s<args.length
    · simp[hs,List.getD]
    · rw[xad hs]
      rw[xcL];have:args.getD s undef=undef:=by simp[List.getD,xaF (xcM hs)]
      rw[this];split<;>rfl
  · rintro e a' w' ⟨fr',H',cL,hw',_,hq⟩
    cases e with
    |normal=>obtain⟨vs,hr,hk⟩:=e9 cL hw' hq;exact⟨cL.defers,_,hr,H',hw',hk⟩
    |ret=>obtain⟨vs,hr,hk⟩:=e9 cL hw' hq;exact⟨cL.defers,_,hr,H',hw',hk⟩
    |panic ch=>exact⟨cL.defers,H',hw',hq⟩
    |exit id=>exact hq.elim
    |goto l=>exact hq.elim
    |outgrown=>exact hq.elim
end
end Go.Sx
namespace Go.Sx
open Go
section
variable {P:Program} {g:Gh} {H:Hp}
theorem Nil.ptr{a:Addr}{k:zV->Prop}(h:k (.pointer (some a))):Nil (.pointer (some a)) k:=⟨_,rfl,h⟩
theorem ah.mk{b o off:Nat}{k:zV->Prop}(h:k (.pointer (some ⟨b,o+off,none⟩))):ah off (.pointer (some ⟨b,o,none⟩)) k:=⟨b,o,rfl,h⟩
theorem Ld.mk{b off:Nat}{c:Array zV}{T:TypeId}{fz:Nat×Nat}{v:zV}{k:zV->Prop}(hm:(b,Obj.cells c T fz)∈H)(hc:c[off]? =some v)(h:k v):Ld H (.pointer (some ⟨b,off,none⟩)) k:=
 ⟨b,off,c,T,fz,v,rfl,hm,hc,h⟩
theorem av.mk{b off n:Nat}{c:Array zV}{T:TypeId}{fz:Nat×Nat}{vs:Array zV}{k:zV->Prop}(hm:(b,Obj.cells c T fz)∈H)(hs:off+n<=c.size)(hc:c.extract off (off+n)=vs)(h:k (.agg vs)):av n H (.pointer (some ⟨b,off,none⟩)) k:=
 ⟨b,off,c,T,fz,rfl,hm,hs,by rw[hc];exact h⟩
theorem St.mk{b off n:Nat}{c:Array zV}{T:TypeId}{x:zV}{c':Array zV}{H':Hp}{k:Hp->Prop}(hu:cT b (.cells c T zZ) (.cells c' T zZ) H H')(hx:x.cells.size=n)(hs:off+n<=c.size)
 (h1:∀v∈x.cells.toList,v.oneCell'=true)(hc:over c off x.cells.toList=c')(h:k H'):St n H (.pointer (some ⟨b,off,none⟩)) x k:=
 ⟨b,off,c,T,H',rfl,hx,hs,h1,by rw[hc];exact hu,h⟩
theorem JE.mk{J:List zV->Hp->Prop}{vs:List zV}(h:J vs H):JE J vs H:=⟨H,.refl _,h⟩
theorem JE.of{J:List zV->Hp->Prop}{vs:List zV}{H':Hp}(e:aG H H')(h:J vs H'):JE J vs H:=⟨H',e,h⟩
theorem az.mk{I:List zV->Hp->Prop}{m:List zV->Hp->Nat}{vs' vs:List zV}{H0:Hp}(h:I vs' H)(hm:m vs' H<m vs H0):az I m vs' H vs H0:=⟨H,.refl _,h,hm⟩
theorem az.of{I:List zV->Hp->Prop}{m:List zV->Hp->Nat}{vs' vs:List zV}{H' H0:Hp}(e:aG H H')(h:I vs' H')(hm:m vs' H'<m vs H0):az I m vs' H vs H0:=⟨H',e,h,hm⟩
theorem Br.mk{b:Bool}{t f:Prop}(h1:b=true->t)(h2:b=false->f):Br (.bool b) t f:=⟨b,rfl,h1,h2⟩
theorem Br.yes{t f:Prop}(h1:t):Br (.bool true) t f:=⟨true,rfl,λ_=>h1,λh=>by simp at h⟩
theorem Br.no{t f:Prop}(h1:f):Br (.bool false) t f:=⟨false,rfl,λh=>by simp at h,λ_=>h1⟩
theorem Br.WZ{b:Bool}{t f:Prop}(hb:b=true)(h1:t):Br (.bool b) t f:=by subst hb;exact Br.yes h1
theorem Br.ZX{b:Bool}{t f:Prop}(hb:b=false)(h1:f):Br (.bool b) t f:=by subst hb;exact Br.no h1
theorem dr.mk{a:Bool}{want:Bool}{inner els k:Bool->Prop}(t:Bool)(h1:a=want->inner t)(h2:a= !want->els t)(h3:k t):dr (.bool a) want inner els k:=⟨a,t,rfl,h1,h2,h3⟩
theorem dr.and{a:Bool}{inner els k:Bool->Prop}(b:Bool)(h1:a=true->inner b)(h2:els false)(h3:k (a&&b)):dr (.bool a) true inner els k:=
 ⟨a,a&&b,rfl,λe=>by subst e;exact h1 rfl,λe=>by subst e;exact h2,h3⟩
theorem dr.or{a:Bool}{inner els k:Bool->Prop}(b:Bool)(h1:a=false->inner b)(h2:els true)(h3:k (a||b)):dr (.bool a) false inner els k:=
 ⟨a,a||b,rfl,λe=>by subst e;exact h1 rfl,λe=>by subst e;exact h2,h3⟩
theorem Split.go{a:Bool}{want:Bool}{k1 k2:Prop}(e:a=want)(h1:k1):Split (.bool a) want k1 k2:=⟨a,rfl,λ_=>h1,λe'=>by subst e;cases a<;>simp at e'⟩
theorem Split.QK{a:Bool}{want:Bool}{k1 k2:Prop}(e:a= !want)(h1:k2):Split (.bool a) want k1 k2:=⟨a,rfl,λe'=>by subst e';cases a<;>simp at e,λ_=>h1⟩
theorem aB.mk{t:Bool}{a b:zV}{k:zV->Prop}(h:k (cond t a b)):aB (.bool t) a b k:=⟨t,rfl,h⟩
theorem Un.not{b:Bool}{k:zV->Prop}(h:k (.bool !b)):Un .not (.bool b) k:=⟨_,rfl,h⟩
theorem Ext.mk{i:Nat}{vs:Array zV}{v:zV}{k:zV->Prop}(hv:vs[i]? =some v)(h:k v):Ext i (.tuple vs) k:=⟨vs,v,rfl,hv,h⟩
theorem aX.mk{a:Option Addr}{n c:Nat}{k:zV->Prop}(h:k (.int .i64 n)):aX (.slice a n c) k:=⟨a,n,c,rfl,h⟩
theorem aO.of{kd j:IntKind}{n m:Int}{k:zV->Prop}(e:kd.wrap n=m)(h:k (.int kd m)):aO kd (.int j n) k:=⟨j,n,rfl,by rw[e];exact h⟩
theorem Iz.mk{off:Nat}{cs:Array zV}{v:zV}{k:zV->Prop}(hc:cs[off]? =some v)(h:k v):Iz off (.agg cs) k:=⟨cs,v,rfl,hc,h⟩
theorem aj.mk{size b o n c:Nat}{kd:IntKind}{i:Int}{k:zV->Prop}(h0:0<=i)(h1:i<(n:Int))(h:k (.pointer (some ⟨b,o+i.toNat*size,none⟩))):aj size (.slice (some ⟨b,o,none⟩) n c) (.int kd i) k:=
 ⟨b,o,n,c,kd,i,rfl,rfl,h0,h1,h⟩
theorem aj.nat{size b o n c:Nat}{kd:IntKind}{j:Nat}{k:zV->Prop}(h1:j<n)(h:k (.pointer (some ⟨b,o+j*size,none⟩))):aj size (.slice (some ⟨b,o,none⟩) n c) (.int kd (j:Int)) k:=
 aj.mk (xcU j) zO (by simpa using h)
theorem ae.eql{kd:IntKind}{a b:Int}{k:zV->Prop}(h:k (.bool (a==b))):ae .num .eql (.int kd a) (.int kd b) k:=⟨_,by simp[fD,jy],h⟩
theorem ae.neq{kd:IntKind}{a b:Int}{k:zV->Prop}(h:k (.bool (a !=b))):ae .num .neq (.int kd a) (.int kd b) k:=⟨_,by simp[fD,jy],h⟩
theorem ae.lss{kd:IntKind}{a b:Int}{k:zV->Prop}(h:k (.bool (decide (a<b)))):ae .num .lss (.int kd a) (.int kd b) k:=⟨_,by simp[fD,jy],h⟩
theorem ae.leq{kd:IntKind}{a b:Int}{k:zV->Prop}(h:k (.bool (decide (a<=b)))):ae .num .leq (.int kd a) (.int kd b) k:=⟨_,by simp[fD,jy],h⟩
theorem ae.gtr{kd:IntKind}{a b:Int}{k:zV->Prop}(h:k (.bool (decide (b<a)))):ae .num .gtr (.int kd a) (.int kd b) k:=⟨_,by simp[fD,jy],h⟩
theorem ae.geq{kd:IntKind}{a b:Int}{k:zV->Prop}(h:k (.bool (decide (b<=a)))):ae .num .geq (.int kd a) (.int kd b) k:=⟨_,by simp[fD,jy],h⟩
theorem ae.add{kd:IntKind}{a b:Int}{k:zV->Prop}(h:k (.int kd (kd.wrap (a+b)))):ae .num .add (.int kd a) (.int kd b) k:=⟨_,by simp[fD,jy],h⟩
theorem ae.sub{kd:IntKind}{a b:Int}{k:zV->Prop}(h:k (.int kd (kd.wrap (a-b)))):ae .num .sub (.int kd a) (.int kd b) k:=⟨_,by simp[fD,jy],h⟩
theorem ae.mul{kd:IntKind}{a b:Int}{k:zV->Prop}(h:k (.int kd (kd.wrap (a*b)))):ae .num .mul (.int kd a) (.int kd b) k:=⟨_,by simp[fD,jy],h⟩
theorem wrap_i64{a:Int}(h: -9223372036854775808<=a/\a<=9223372036854775807):IntKind.i64.wrap a=a:=IntWalk.i64_in _ h
theorem ae.I5{a b:Int}{c:Int}{k:zV->Prop}(e:a-b=c)(hb: -9223372036854775808<=c/\c<=9223372036854775807)(h:k (.int .i64 c)):ae .num .sub (.int .i64 a) (.int .i64 b) k:=
 ae.sub (by rw[e,wrap_i64 hb];exact h)
theorem ae.Pu{kd:IntKind}{a b:Int}{c:Int}{k:zV->Prop}(hb0:b≠0)(e:a.tmod b=c)(h:k (.int kd c)):ae .num .rem (.int kd a) (.int kd b) k:=
 ⟨.int kd c,by simp[fD,jy,hb0,e],h⟩
theorem ae.bf{a:Addr}{k:zV->Prop}(h:k (.bool false)):ae .ptr .eql (.pointer (some a)) (.pointer none) k:=⟨.bool false,by simp[fD],h⟩
theorem ae.vQ{a:Addr}{k:zV->Prop}(h:k (.bool true)):ae .ptr .neq (.pointer (some a)) (.pointer none) k:=⟨.bool true,by simp[fD],h⟩
theorem aG.Pr(A B C:Hp):aG (A++(B++C)) (B++(A++C)):=.perm (by rw[<-xaj,<-xaj];exact xbi.append_right C)
def flat:List Hp->Hp
 | []=>[]
 | [a]=>a
 |a::b::r=>a++flat (b::r)
theorem pS:∀(l:List Hp),(flat l).Perm l.flatten
 | []=>.refl _
 | [a]=>by simp[flat]
 |a::b::r=>by
  simp only[flat,xcl];exact xbH _ (by simpa using pS (b::r))
theorem aG.TK(S T:List Hp)(h:S.Perm T):aG (flat S) (flat T):=
 .perm ((pS S).trans (h.flatten.trans (pS T).symm))
def rows(l:List (List zV)):Array zV:=l.flatten.toArray
theorem qu{k:Nat}:∀(l:List (List zV)) (i j:Nat),(∀r∈l,r.length=k)->j<k->l.flatten[i*k+j]? =(l[i]?).bind (·[j]?)
 | [],i,j,_,_=>by simp
 |r::l,0,j,h,hj=>by
  have:=h r zI;simp[xdB,this,hj]
 |r::l,i+1,j,h,hj=>by
  have hr:=h r zI;have ih:=qu l i j (λx hx=>h x (by simp[hx])) hj;rw[xcl,xaU (by rw[hr,xbr];omega),hr,show(i+1)*k+j-k=i*k+j by rw[xbr];omega,ih];simp
theorem cG{k:Nat}:∀(l:List (List zV)),(∀r∈l,r.length=k)->l.flatten.length=l.length*k
 | [],_=>by simp
 |r::l,h=>by
  have hr:=h r zI;rw[xcl,xai,hr,cG l (λx hx=>h x (by simp[hx]))];simp[xbr];omega
theorem aZ{k:Nat}{l:List (List zV)}(h:∀r∈l,r.length=k):(rows l).size=l.length*k:=by simp[rows,cG l h]
theorem fY{k:Nat}{l:List (List zV)}(h:∀r∈l,r.length=k){i j:Nat}(hj:j<k):(rows l)[i*k+j]? =(l[i]?).bind (·[j]?):=by
 simp only[rows,xcd];exact qu l i j h hj
theorem vL{k:Nat}{l:List (List zV)}(h:∀r∈l,r.length=k){i:Nat}{r:List zV}(hi:l[i]? =some r):(rows l).extract (i*k) (i*k+k)=r.toArray:=by
 have hr:=h r (xax hi);have hlt:=(xag.1 hi).1;apply xc7;apply xbo;intro j;by_cases hj:j<k
 ·have:=fY h (i:=i) hj;rw[xba,xcX];rw[xae (by rw[aZ h];have:=xa4 k (xcm hlt);rw[xbr]at this;omega),this,hi];simp
 rw[xaF zP,xaF zP]
theorem jZ:∀(vs:List zV) (c:List zV) (off:Nat),off+vs.length<=c.length->over c.toArray off vs=(c.take off++vs++c.drop (off+vs.length)).toArray
 | [],c,off,_=>by simp[over]
 |v::r,c,off,h=>by
  simp only[xar]at h;have hl:off<c.length:=by omega
  have:c.toArray.setIfInBounds off v=(c.set off v).toArray:=by simp
  rw[over,this,jZ r (c.set off v) (off+1) (by simp only[xbG];omega)];congr 1;have e1:(c.set off v).take (off+1)=c.take off++[v]:=by
   rw[xcI,xae hl,xdX];simp[List.take_take,hl,xch (xb8 hl)]
  have e2:(c.set off v).drop (off+1+r.length)=c.drop (off+(v::r).length):=by
   rw[List.drop_set_of_lt zO];simp only[xar];rw[show off+1+r.length=off+(r.length+1)by omega]
  rw[e1,e2];simp
theorem xD{k:Nat}{l:List (List zV)}(h:∀r∈l,r.length=k){i:Nat}(hi:i<l.length){r:List zV}(hr:r.length=k):over (rows l) (i*k) r=rows (l.set i r):=by
 unfold rows;have hlen:=cG l h;have hle:i*k+k<=l.length*k:=by have:=xa4 k (xcm hi);rwa [xbr]at this
 rw[jZ r l.flatten (i*k) (by rw[hlen,hr];exact hle)];congr 1;have e:l=l.take i++[l[i]]++l.drop (i+1):=by simp
 have hp:(l.take i).flatten.length=i*k:=by
  rw[cG _ (λx hx=>h x (xci hx))];simp[xch (xb8 hi)]
 have hm:l[i].length=k:=h _ (xaB hi);have e3:l.flatten=(l.take i).flatten++(l[i]++(l.drop (i+1)).flatten):=by
  rw[<-xcl,<-xbu,<-xa8 hi,xbk]
 have e4:(l.set i r).flatten=(l.take i).flatten++(r++(l.drop (i+1)).flatten):=by
  rw[xcI,xae hi];simp[xbu]
 rw[e4,e3,<-hp,xdn,<-List.drop_drop,List.drop_left,hr,<-hm,List.drop_left];simp
end
end Go.Sx
namespace Go.Sx
open Go
section
variable {P:Program} {g:Gh}
theorem cT.bB{b:Nat}{o o':Obj}{C C':Hp}(h:cT b o o' C C')(A:Hp):cT b o o' (A++C) (A++C'):=by
 induction A with
 |nil=>exact h
 |cons x A ih=>exact .tail ih
def aH(T:TypeId)(k:Nat)(v:zV)(rs:List (List zV))(C:Hp):Prop:=
 (v=.slice none 0 0/\rs=[]/\C=[])\/
 ∃b aC,v=.slice (some ⟨b,0,none⟩) rs.length (rs.length+aC.length)/\C=[(b,.cells (rows (rs++aC)) T zZ)]/\(∀r∈rs++aC,r.length=k)
theorem aH.nil(T:TypeId)(k:Nat):aH T k (.slice none 0 0) [] []:=.inl ⟨rfl,rfl,rfl⟩
theorem aH.len{T:TypeId}{k:Nat}{v:zV}{rs:List (List zV)}{C:Hp}(h:aH T k v rs C):∃a c,v=.slice a rs.length c:=by
 rcases h with⟨rfl,rfl,rfl⟩|⟨b,aC,rfl,_⟩
 ·exact⟨_,_,rfl⟩
 exact⟨_,_,rfl⟩
theorem aH.bH{T:TypeId}{k:Nat}{v:zV}{rs:List (List zV)}{C:Hp}(h:aH T k v rs C){K:zV->Prop}(hk:K (.int .i64 rs.length)):aX v K:=by
 obtain⟨a,c,rfl⟩:=h.len;exact aX.mk hk
theorem kS{k:Nat}(z:List zV)(hz:z.length=k)(m:Nat):Builtin.zeroCells z.toArray m=rows (List.replicate m z):=by
 apply xc7;apply xbo;intro j;have aI:∀r∈List.replicate m z,r.length=k:=λr hr=>by rw[xbM hr,hz]
 by_cases hj:j<m*k
 ·have hk:0<k:=Nat.pos_of_ne_zero λe=>by simp[e]at hj
  have hd:j/k<m:=xdC (by rw[xb9];exact hj);have hm:j%k<k:=xaZ _ hk;have he:j/k*k+j%k=j:=by rw[xb9];exact xd2 j k
  have:=fY aI (i:=j/k) hm;rw[he]at this;rw[xba,xba,this];simp only[Builtin.zeroCells,xcD,hz,xdp,hd,xa0,xdW];rw[Array.getElem?_map,Array.getElem?_range];simp[hj,hz,hm]
 rw[xaF,xaF]
 ·simp only[xbW,aZ aI,xcz];omega
 simp[Builtin.zeroCells,hz];omega
theorem cq(a b:List (List zV)):rows a++rows b=rows (a++b):=by simp[rows,xbu]
theorem aH.Ma{elem k bytes:Nat}{zero:zV}{v:zV}{rs:List (List zV)}{C A B:Hp}(h:aH elem k v rs C){xb:Nat}{r:List zV}{xT:TypeId}{fz:Nat×Nat}{xc:Nat}
 (hx:(xb,Obj.cells r.toArray xT fz)∈A++(C++B))(hr:r.length=k)(h1:∀u∈r,u.oneCell'=true)(hz:∃z:List zV,zero.cells=z.toArray/\z.length=k)
 (hb:(rs.length+1)*bytes<=140737488355328)(cO:rs.length+1<=9223372036854775807){K:zV->Hp->Prop}
 (hk:∀v' C',aH elem k v' (rs++[r]) C'->K v' (A++(C'++B))):App P elem k bytes zero (A++(C++B)) v (.slice (some ⟨xb,0,none⟩) 1 xc) K:=by
 have Eh:∀x∈[r],x.length=k:=λx hx=>by simp at hx;rw[hx];exact hr
 obtain⟨z,Ua,NW⟩:=hz;have hnews:Cells (A++(C++B)) (some ⟨xb,0,none⟩) (1*k) (rows [r]):=.inr ⟨rfl,_,_,_,hx,by simp[hr],by simp[rows];rw[<-hr,xbh]⟩;have hnone:∀u∈(rows [r]).toList,u.oneCell'=true:=by simpa[rows]using h1
 rcases h with⟨rfl,rfl,rfl⟩|⟨b,aC,rfl,rfl,aI⟩
 ·refine⟨none,0,0,some ⟨xb,0,none⟩,1,xc,#[],rows [r],rfl,rfl,rfl,hnews,by rw[aZ Eh];simp,by simp,hnone,λh=>by omega,λ_=>⟨hb,by omega,λeV hn b YA=>?_⟩⟩;rw[show(#[]:Array zV)++rows [r]++Builtin.zeroCells zero.cells (eV-(0+1))=rows ([]++[r]++List.replicate (eV-1) z)by rw[Ua,kS z NW];simp only[xa1,xcS,xaW];rw[cq]];refine⟨_,aG.Pr [(b,_)] A B,hk _ [(b,_)] (.inr ⟨b,List.replicate (eV-1) z,?_,rfl,?_⟩)⟩
  ·simp;omega
  intro x hx;rcases xal.1 hx with hx|hx
  ·exact Eh x hx
  rw[xbM hx,NW]
 have hsz:=aZ aI;have m6:∀x∈rs,x.length=k:=λx hx=>aI x (by simp[hx]);have hold:rows rs=(rows (rs++aC)).extract 0 (0+rs.length*k):=by
  rw[<-cq];apply xc7;have:=aZ m6;have h2:(rows rs).toList.length=rs.length*k:=by rw[xbW];exact this
  rw[Array.toList_extract,Array.toList_append,List.extract_eq_take_drop,List.drop_zero,xa1,xdi,<-h2,xdn]
 refine⟨some ⟨b,0,none⟩,rs.length,rs.length+aC.length,some ⟨xb,0,none⟩,1,xc,rows rs,rows [r],rfl,rfl,.inr ⟨rfl,_,elem,(0,0),by simp,?_,hold⟩,hnews,by rw[aZ Eh];simp,aZ m6,hnone,λhfit=>?_,λhgrow=>⟨hb,by omega,λeV hn b' YA=>?_⟩⟩
 ·rw[hsz];simp only[xai,xa1];exact xa4 _ zO
 ·obtain⟨j0,JQ,rfl⟩:∃j0 JQ,aC=j0::JQ:=by cases aC with|nil=>exact absurd hfit (by simp only[xbe];omega)|cons a b=>exact⟨a,b,rfl⟩
  refine⟨_,elem,_,rfl,?_,((cT.head _).append B).bB A,hk _ [(b,_)] (.inr ⟨b,JQ,?_,?_,?_⟩)⟩
  ·rw[hsz];simp[xbr,Nat.add_mul]
  ·simp;omega
  ·have e:(rows [r]).toList=r:=by simp[rows]
   rw[e,show(⟨b,0,none⟩:Addr).off+rs.length*k=rs.length*k by simp,xD aI zI hr];simp
  intro x hx;simp only[xaj,xaN,xaW,xal,xaf]at hx;rcases hx with hx|hx|hx
  ·exact m6 x hx
  ·rw[hx];exact hr
  exact aI x (by simp[hx])
 refine⟨A++([(b',_)]++B),?_,hk _ [(b',_)] (.inr ⟨b',List.replicate (eV-(rs.length+1)) z,?_,rfl,?_⟩)⟩
 ·rw[Ua,kS z NW,cq,cq];exact λg w h=>(aG.TK [[_],A,[_],B] [[_],A,[_],B] ((xbi (l₁:=[_,A]) (l₂:=[_])).append_right [B]|>.trans (.cons _ (.swap _ _ _))) g w h).tail
 ·simp;omega
 intro x hx;rcases xal.1 hx with hx|hx
 ·rcases xal.1 hx with hx|hx
  ·exact m6 x hx
  exact Eh x hx
 rw[xbM hx,NW]
end
end Go.Sx
namespace Go.Sx
open Go
section
variable {P:Program} {g:Gh} {H:Hp}
theorem aH.pos{T:TypeId}{k:Nat}{v:zV}{rs:List (List zV)}{C:Hp}(h:aH T k v rs C)(hp:0<rs.length):
  ∃b aC,v=.slice (some ⟨b,0,none⟩) rs.length (rs.length+aC.length)/\C=[(b,.cells (rows (rs++aC)) T zZ)]/\(∀r∈rs++aC,r.length=k):=by
 rcases h with⟨_,rfl,_⟩|h
 ·simp at hp
 exact h
theorem aH.mk{T:TypeId}{k b:Nat}{rs aC:List (List zV)}(aI:∀r∈rs++aC,r.length=k):aH T k (.slice (some ⟨b,0,none⟩) rs.length (rs.length+aC.length)) rs [(b,.cells (rows (rs++aC)) T zZ)]:=
 .inr ⟨b,aC,rfl,rfl,aI⟩
theorem aH.mk'{T:TypeId}{k b n c:Nat}{rs aC:List (List zV)}(aI:∀r∈rs++aC,r.length=k)(hn:n=rs.length)(hc:c=rs.length+aC.length):aH T k (.slice (some ⟨b,0,none⟩) n c) rs [(b,.cells (rows (rs++aC)) T zZ)]:=by
 subst hn;subst hc;exact aH.mk aI
theorem av.row{b i k:Nat}{l:List (List zV)}{T:TypeId}{fz:Nat×Nat}{r:List zV}{K:zV->Prop}(hm:(b,Obj.cells (rows l) T fz)∈H)(aI:∀r∈l,r.length=k)(hi:l[i]? =some r)(h:K (.agg r.toArray)):
  av k H (.pointer (some ⟨b,0+i*k,none⟩)) K:=by
 have hlt:=(xag.1 hi).1;refine av.mk hm ?_ ?_ h
 ·rw[aZ aI,xa1];have:=xa4 k (xcm hlt);rwa [xbr]at this
 rw[xa1];exact vL aI hi
theorem Ld.row{b i j k:Nat}{l:List (List zV)}{T:TypeId}{fz:Nat×Nat}{r:List zV}{v:zV}{K:zV->Prop}(hm:(b,Obj.cells (rows l) T fz)∈H)(aI:∀r∈l,r.length=k)(hi:l[i]? =some r)(hv:r[j]? =some v)(h:K v):
  Ld H (.pointer (some ⟨b,0+i*k+j,none⟩)) K:=by
 have hr:=aI r (xax hi);have hj:j<k:=by rw[<-hr];exact(xag.1 hv).1
 refine Ld.mk hm ?_ h;rw[xa1,fY aI hj,hi];exact hv
theorem Ld.TL{b i:Nat}{l:List (List zV)}{T:TypeId}{fz:Nat×Nat}{v:zV}{K:zV->Prop}(hm:(b,Obj.cells (rows l) T fz)∈H)(aI:∀r∈l,r.length=1)(hi:l[i]? =some [v])(h:K v):
  Ld H (.pointer (some ⟨b,0+i*1,none⟩)) K:=by
 have:=Ld.row (j:=0) hm aI hi rfl h;simpa using this
theorem St.row{b i k:Nat}{l:List (List zV)}{T:TypeId}{r:List zV}{H':Hp}{K:Hp->Prop}(hu:cT b (.cells (rows l) T zZ) (.cells (rows (l.set i r)) T zZ) H H')(aI:∀r∈l,r.length=k)(hi:i<l.length)
 (hr:r.length=k)(h1:∀v∈r,v.oneCell'=true)(h:K H'):St k H (.pointer (some ⟨b,0+i*k,none⟩)) (.agg r.toArray) K:=by
 refine St.mk hu (by simp[Value.cells,hr]) ?_ (by simpa[Value.cells]using h1) ?_ h
 ·rw[aZ aI,xa1];have:=xa4 k (xcm hi);rwa [xbr]at this
 simp only[Value.cells,xa1];exact xD aI hi hr
theorem mW{k:Nat}{l:List (List zV)}(h:∀r∈l,r.length=k){i j:Nat}{r:List zV}(hi:l[i]? =some r)(hj:j<k)(v:zV):(rows l).setIfInBounds (i*k+j) v=rows (l.set i (r.set j v)):=by
 have hr:=h r (xax hi);have hlt:=(xag.1 hi).1;have U5:∀x∈l.set i (r.set j v),x.length=k:=λx hx=>by
  rcases xcf hx with hx|hx
  ·exact h x hx
  rw[hx,xbG];exact hr
 have hk:0<k:=by omega
 apply xc7;apply xbo;intro m;rw[xba,xba,xb0];have hm:m%k<k:=xaZ _ hk;have he:m/k*k+m%k=m:=by rw[xb9];exact xd2 m k
 have g1:=fY h (i:=m/k) hm;have g2:=fY U5 (i:=m/k) hm;rw[he]at g1 g2;rw[g1,g2];by_cases e:i*k+j=m
 ·have e1:m/k=i:=by rw[<-e,xb9,Nat.mul_add_div hk,xdw hj,xbS]
  have e2:m%k=j:=by rw[<-e,xb9,Nat.mul_add_mod,xbv hj]
  rw[xae e,xae (by rw[aZ h];have:=xa4 k (xcm hlt);rw[xbr]at this;omega),e1,e2];simp[hlt,hr,hj]
 rw[xad e];by_cases e1:m/k=i
 ·have e2:j≠m%k:=λe2=>e (by rw[e2,<-e1];exact he);rw[e1,hi];simp[hlt,e2]
 rw[xbA (λx=>e1 x.symm)]
theorem St.cell{b i j k:Nat}{l:List (List zV)}{T:TypeId}{r:List zV}{v:zV}{H':Hp}{K:Hp->Prop}(hu:cT b (.cells (rows l) T zZ) (.cells (rows (l.set i (r.set j v))) T zZ) H H')(aI:∀r∈l,r.length=k)
 (hi:l[i]? =some r)(hj:j<k)(h1:v.oneCell'=true)(h:K H'):St 1 H (.pointer (some ⟨b,0+i*k+j,none⟩)) v K:=by
 have hlt:=(xag.1 hi).1;have hc:v.cells=#[v]:=by cases v<;>first|rfl|(simp[Value.oneCell']at h1)
 refine St.mk hu (by simp[hc]) ?_ (by simp[hc,h1]) ?_ h
 ·rw[aZ aI,xa1];have:=xa4 k (xcm hlt);rw[xbr]at this;omega
 simp only[hc,xa1,over];exact mW aI hi hj v
theorem St.one{b off:Nat}{c c':Array zV}{T:TypeId}{v:zV}{H':Hp}{K:Hp->Prop}(hu:cT b (.cells c T zZ) (.cells c' T zZ) H H')(h1:v.oneCell'=true)(hs:off<c.size)(hc:c.setIfInBounds off v=c')(h:K H'):
  St 1 H (.pointer (some ⟨b,off,none⟩)) v K:=by
 have hv:v.cells=#[v]:=by cases v<;>first|rfl|(simp[Value.oneCell']at h1)
 exact St.mk hu (by simp[hv]) zO (by simp[hv,h1]) (by simpa[hv,over]using hc) h
theorem St.whole{b n:Nat}{c:Array zV}{T:TypeId}{r:List zV}{H':Hp}{K:Hp->Prop}(hu:cT b (.cells c T zZ) (.cells r.toArray T zZ) H H')(hs:c.size=n)(hr:r.length=n)(h1:∀v∈r,v.oneCell'=true)(h:K H'):
  St n H (.pointer (some ⟨b,0,none⟩)) (.agg r.toArray) K:=by
 refine St.mk hu (by simp[Value.cells,hr]) zO (by simpa[Value.cells]using h1) ?_ h;have:=jZ r c.toList 0 zP;rw[xcE]at this;simp only[Value.cells];rw[this];simp[xdr,hr,hs]
theorem av.whole{b n:Nat}{r:List zV}{T:TypeId}{fz:Nat×Nat}{K:zV->Prop}(hm:(b,Obj.cells r.toArray T fz)∈H)(hr:r.length=n)(h:K (.agg r.toArray)):av n H (.pointer (some ⟨b,0,none⟩)) K:=
 av.mk hm (by simp[hr]) (by simp;rw[<-hr,xbh]) h
theorem kg{α β:Type}(f:α->β):∀(l:List α) (i:Nat),(l.map f).eraseIdx i=(l.eraseIdx i).map f
 | [],_=>rfl
 |x::l,0=>rfl
 |x::l,i+1=>by simp[kg f l i]
end
end Go.Sx
namespace Go.Sx
open Go
section
variable {P:Program} {g:Gh} {H:Hp}
theorem sI(off:Nat):∀(r:List zV) (i:Nat) (c:Array zV),(r.zipIdx i).foldl (λcs (x:zV×Nat)=>cs.setIfInBounds (off+x.2) x.1) c=over c (off+i) r
 | [],i,c=>rfl
 |v::r,i,c=>by
  rw[List.zipIdx_cons,xdD,sI off r (i+1)];rfl
theorem Gn(off:Nat)(a c:Array zV):a.zipIdx.foldl (λcs (x:zV×Nat)=>cs.setIfInBounds (off+x.2) x.1) c=over c off a.toList:=by
 rw[<-Array.foldl_toList];have:a.zipIdx.toList=a.toList.zipIdx 0:=by simp
 rw[this,sI off a.toList 0 c];rfl
def qk:List zV->Nat->List zV->List zV
 |c,_,[]=>c
 |c,off,v::r=>qk (c.set off v) (off+1) r
theorem ij:∀(r c:List zV) (off:Nat),over c.toArray off r=(qk c off r).toArray
 | [],c,off=>rfl
 |v::r,c,off=>by
  have:c.toArray.setIfInBounds off v=(c.set off v).toArray:=by simp
  rw[over,qk,this,ij r]
def jF(place:Nat->Option (Nat×Nat)):List zV->List (Nat×zV)->Option (List zV)
 |c,[]=>some c
 |c,(i,v)::r=>
  match place i with
  |none=>none
  |some (off,size)=>cond (Nat.beq v.cells.toList.length size&&Nat.ble (off+v.cells.toList.length) c.length) (jF place (qk c off v.cells.toList) r) none
theorem iz{place:Nat->Option (Nat×Nat)}:∀(r:List (Nat×zV)) (c cs:List zV),jF place c r=some cs->Instr.fill place c.toArray r=some cs.toArray
 | [],c,cs,h=>by simp only[jF,xap]at h;subst h;rfl
 |(i,v)::r,c,cs,h=>by
  simp only[jF]at h;simp only[Instr.fill];split at h
  ·simp at h
  rename_i off size hp;cases hc:(Nat.beq v.cells.toList.length size&&Nat.ble (off+v.cells.toList.length) c.length)<;>simp only[hc,xaw,xam,reduceCtorEq]at h;simp only[xay]at hc;have h1:=xaC hc.1;have h2:=xbY hc.2;have h3:v.cells.toList.length=v.cells.size:=xbW;have hsz:v.cells.size=size:=by rw[<-h3];exact h1
  have hle:off+v.cells.size<=c.length:=by rw[<-h3];exact h2
  simp only[hp];have KJ:(decide (v.cells.size≠size)||decide (off+v.cells.size>c.toArray.size))=false:=by
   rw[xaD];exact⟨by simp[hsz],by simp only[xcD,xbl];omega⟩
  rw[KJ];simp only[xaE,xaS];rw[Gn,ij];exact iz r _ cs h
def n8(P:Program):List Field->Option (List (Nat×Nat))
 | []=>some []
 |f::r=>match cy P f.type,n8 P r with
  |some n,some l=>some ((f.offset,n)::l)
  |_,_=>none
def LU(P:Program)(t:TypeId)(parts:List (Nat×zV)):Option (List zV):=
 match P.underlying t,dG P t with
 |some (.struct fs),some z=>match n8 P fs.toList with
  |some pl=>jF (λi=>pl[i]?) z.cells.toList parts
  |none=>none
 |_,_=>none
theorem qi:∀(fs:List Field) (pl:List (Nat×Nat)),n8 P fs=some pl->∀w,(fs.mapM λf=>(do pure (f.offset,<-sizeOf f.type):Sem (Nat×Nat))).run P w=.ok pl w
 | [],pl,h,w=>by simp only[n8,xap]at h;subst h;rfl
 |f::r,pl,h,w=>by
  simp only[n8]at h;split at h
  ·rename_i n l hn hl;simp only[xap]at h;subst h;obtain⟨i,hi,hin⟩:=aV hn;have ih:=qi r l hl w;simp only[xdJ,Sem.run_bind,run_sizeOf hi,Result.andThen_ok,Sem.run_pure,hin,ih]
  simp at h
theorem Build.mk{t:TypeId}{parts:List (Nat×zV)}{cs:List zV}{k:zV->Prop}(hb:LU P t parts=some cs)(h:k (.agg cs.toArray)):Build P t parts k:=by
 refine⟨_,λw=>?_,h⟩;unfold LU at hb;split at hb
 ·rename_i fs z hu hz;split at hb
  ·rename_i pl mP;obtain⟨i,hi,tT⟩:=cz hz;have hf:=iz _ _ _ hb;have hp:=qi fs.toList pl mP w;simp only[Instr.build,Sem.run_bind,dw hi tT,Result.andThen_ok,run_underlying hu];have e2:((fs.mapM λf=>(do pure (f.offset,<-sizeOf f.type):Sem (Nat×Nat))).run P w)=.ok pl.toArray w:=by
    rw[Array.mapM_eq_mapM_toList];simp only[Sem.run_map,hp,Result.andThen_ok]
   rw[e2];show Sem.run P _ w=_;have e3:Instr.fill (λx=>pl.toArray[x]?) z.cells parts=some cs.toArray:=by
    simpa using hf
   simp only[e3];rfl
  simp at hb
 simp at hb
theorem ai.one{t e k:Nat}{z:zV}{r:List zV}{K:zV->Hp->Prop}(h1:P.underlying t=some (.slice e))(h2:cy P e=some k)(h3:dG P e=some z)(hk:0<k/\k<=16777216)(hr:r.length=k)
 (h:∀b,K (.slice (some ⟨b,0,none⟩) 1 1) ((b,.cells r.toArray e zZ)::H)):ai P t 1 [(0,.agg r.toArray)] H K:=by
 refine⟨r.toArray,e,k,z,h1,h2,h3,by omega,?_,λb _=>h b⟩;have:((Array.range (1*k)).map (z.cells[· %z.cells.size]!))=(((Array.range (1*k)).map (z.cells[· %z.cells.size]!)).toList).toArray:=by rw[xcE]
 rw[this];generalize hc:((Array.range (1*k)).map (z.cells[· %z.cells.size]!)).toList=c;have hlen:c.length=k:=by rw[<-hc];simp
 refine iz _ _ _ ?_;simp only[jF,Value.cells];have hb:(Nat.beq r.toArray.toList.length k&&Nat.ble (0*k+r.toArray.toList.length) c.length)=true:=by simp[hr,hlen]
 rw[hb];simp only[xaw,xap];have:=jZ r c 0 zO;rw[ij]at this;have h5:qk c 0 r=List.take 0 c++r++List.drop (0+r.length) c:=by simpa using xbL Array.toList this
 simp only[Nat.zero_mul];rw[h5];simp[xdr,hr,hlen]
end
end Go.Sx
namespace Go.Sx
open Go
section
variable {P:Program} {g:Gh} {H:Hp}
theorem dD.upto{size n c h:Nat}{a:Option Addr}{kd:IntKind}{k:zV->Prop}(hh:h<=c)(hk:k (.slice a h c)):dD size (.slice a n c) none (some (.int kd (h:Int))) k:=by
 refine⟨a,n,c,0,h,rfl,rfl,rfl,by omega,by omega,by omega,?_⟩;have:(if c=(0:Int).toNat then a else a.map (·.add ((0:Int).toNat*size)))=a:=by
  split
  ·rfl
  simp only[Int.toNat_zero,Nat.zero_mul];cases a with
  |none=>rfl
  |some x=>simp[Addr.add_zero']
 rw[this];simpa using hk
end
end Go.Sx
namespace Go.Sx
open Go
section
variable {P:Program} {g:Gh} {H:Hp}
inductive aU(C:Hp):Hp->(Hp->Hp)->Prop
 |here:aU C C (λX=>X)
 |left {A:Hp}:aU C (C++A) (λX=>X++A)
 |cons {x:Nat×Obj} {H:Hp} {c:Hp->Hp} (h:aU C H c):aU C (x::H) (λX=>x::c X)
 |app {A H:Hp} {c:Hp->Hp} (h:aU C H c):aU C (A++H) (λX=>A++c X)
theorem aU.spec{C H:Hp}{c:Hp->Hp}(h:aU C H c):H=c C/\∃F,∀X,(c X).Perm (X++F):=by
 induction h with
 |here=>exact⟨rfl,[],λX=>by simp⟩
 | @left A=>exact⟨rfl,A,λX=>.refl _⟩
 | @cons x H c h ih=>
  obtain⟨h1,F,h2⟩:=ih;exact⟨by rw[h1],x::F,λX=>(List.Perm.cons x (h2 X)).trans xa6.symm⟩
 | @app A H c h ih=>
  obtain⟨h1,F,h2⟩:=ih;refine⟨by rw[h1],A++F,λX=>(xbH A (h2 X)).trans ?_⟩;rw[<-xaj,<-xaj];exact xbi.append_right F
theorem aU.cS{C H:Hp}{c:Hp->Hp}(h:aU C H c){X Y:Hp}(e:aG X Y):aG (c X) (c Y):=by
 obtain⟨_,F,hp⟩:=h.spec;exact(aG.perm (hp X)).trans ((e.frame F).trans (.perm (hp Y).symm))
theorem aG.cons{x:Nat×Obj}{A B:Hp}(h:aG A B):aG (x::A) (x::B):=aG.cM h [x]
theorem aG.skip{x:Nat×Obj}{A B:Hp}(h:aG A B):aG (x::A) B:=aG.tail.trans h
theorem aG.eE{X A B:Hp}(h:aG A B):aG (X++A) B:=aG.right.trans h
theorem aG.assoc{A B C:Hp}:aG ((A++B)++C) (A++(B++C)):=λ_ _ h=>by rw[<-xaj];exact h
theorem aR.frame{f:FuncId}{args:Array zV}{C F:Hp}{R:Ending->Hp->Prop}(h:∀g,aR P g f args C R):aR P g f args (C++F) (λe H'=>∃C',H'=C'++F/\R e C'):=by
 intro w hw;exact((h (g.add F)) w (Own.dP.1 hw)).mono λe w' ⟨H',ho,hr⟩=>⟨_,Own.dP.2 ho,H',rfl,hr⟩
theorem aR.hole{f:FuncId}{args:Array zV}{C H:Hp}{c:Hp->Hp}{R:Ending->Hp->Prop}(hh:aU C H c)(h:∀g,aR P g f args C R):aR P g f args H (λe H'=>∃C',H'=c C'/\R e C'):=by
 obtain⟨rfl,F,hp⟩:=hh.spec;exact((aR.frame (F:=F) h).pre (.perm (hp C))).post λe H' ⟨C',h1,h2⟩=>⟨c C',by rw[h1];exact .perm (hp C').symm,C',rfl,h2⟩
def Fc(P:Program)(f:FuncId)(args:Array zV)(C:Hp)(Q:zV->Hp->Prop):Prop:=
 ∀g,aR P g f args C (λe H'=>∃v gp,e=.returned v/\aG H' gp/\Q v gp)
def aN(Q:zV->Hp->Prop):Ending->Hp->Prop:=λe H'=>∃v gp,e=.returned v/\aG H' gp/\Q v gp
theorem aN.mk{Q:zV->Hp->Prop}{v:zV}{H gp:Hp}(he:aG H gp)(h:Q v gp):aN Q (.returned v) H:=⟨v,gp,rfl,he,h⟩
theorem aN.here{Q:zV->Hp->Prop}{v:zV}{H:Hp}(h:Q v H):aN Q (.returned v) H:=⟨v,H,rfl,.refl _,h⟩
theorem Fc.mono{f:FuncId}{args:Array zV}{C:Hp}{Q Q':zV->Hp->Prop}(h:Fc P f args C Q)(hq:∀v H,Q v H->Q' v H):Fc P f args C Q':=
 λg=>(h g).mono λe H' ⟨v,gp,h1,h2,h3⟩=>⟨v,gp,h1,h2,hq _ _ h3⟩
def Rd(P:Program)(f:FuncId)(args:Array zV)(B:Hp)(Q:zV->Prop):Prop:=Fc P f args B (λv H=>H=B/\Q v)
theorem aa.fn{f:FuncId}{args:Array zV}{C H:Hp}{c:Hp->Hp}{Q:zV->Hp->Prop}{K:zV->Hp->Prop}{KP:List PanicEntry->Hp->Prop}(hh:aU C H c)(hc:Fc P f args C Q)
 (hk:∀v C',Q v C'->K v (c C')):aa P g f args H K KP:=
 (aR.hole hh hc).post λe H' ⟨C',h1,v,V2,h2,h3,h4⟩=>⟨c V2,by rw[h1];exact hh.cS h3,by subst h2;exact hk _ _ h4⟩
theorem aa.rd{f:FuncId}{args:Array zV}{B H:Hp}{c:Hp->Hp}{Q:zV->Prop}{K:zV->Hp->Prop}{KP:List PanicEntry->Hp->Prop}(hh:aU B H c)(hc:Rd P f args B Q)
 (hk:∀v,Q v->K v H):aa P g f args H K KP:=
 aa.fn hh hc λv C' ⟨h1,h2⟩=>by subst h1;rw[<-hh.spec.1];exact hk v h2
theorem bQ.of{fv:zV}{args:Array zV}{K:zV->Hp->Prop}{KP:List PanicEntry->Hp->Prop}{f:FuncId}{first captured:Array zV}(hf:fv=.func (.func f) first captured)(hc:bg P f=true)
 (h:aa P g f (first++args++captured) H K KP):bQ P g fv args H K KP:=⟨f,first,captured,hf,hc,h⟩
theorem DR.self{body:Hp->Prop}(h:body H):DR H body:=⟨H,.refl _,h⟩
theorem DR.of{R:Hp}{body:Hp->Prop}(e:aG H R)(h:body R):DR H body:=⟨R,e,h⟩
def At(B:Hp)(p:zV)(r:List zV):Prop:=∃b o c T fz,p=.pointer (some ⟨b,o,none⟩)/\(b,Obj.cells c T fz)∈B/\∀j v,r[j]? =some v->c[o+j]? =some v
theorem At.block{b:Nat}{l:List zV}{T:TypeId}{fz:Nat×Nat}{B:Hp}(h:(b,Obj.cells l.toArray T fz)∈B):At B (.pointer (some ⟨b,0,none⟩)) l:=
 ⟨b,0,_,T,fz,rfl,h,λj v hj=>by simpa using hj⟩
theorem Ld.at{p v:zV}{r:List zV}{B:Hp}{k:zV->Prop}(h:At B p (v::r))(hs:∀x∈B,x∈H)(hk:k v):Ld H p k:=by
 obtain⟨b,o,c,T,fz,h1,h2,h3⟩:=h;exact⟨b,o,c,T,fz,v,h1,hs _ h2,by simpa using h3 0 v rfl,hk⟩
theorem ah.at{p:zV}{r:List zV}{B:Hp}{j:Nat}{k:zV->Prop}(h:At B p r)(hk:∀q,At B q (r.drop j)->k q):ah j p k:=by
 obtain⟨b,o,c,T,fz,h1,h2,h3⟩:=h;refine⟨b,o,h1,hk _ ⟨b,o+j,c,T,fz,rfl,h2,λi v hi=>?_⟩⟩;rw[List.getElem?_drop]at hi;rw[xdt];exact h3 _ _ hi
theorem av.at{p:zV}{r:List zV}{B:Hp}{n:Nat}{k:zV->Prop}(h:At B p r)(hn:r.length=n)(hp:0<n)(hs:∀x∈B,x∈H)(hk:k (.agg r.toArray)):av n H p k:=by
 obtain⟨b,o,c,T,fz,h1,h2,h3⟩:=h;have hsz:o+n<=c.size:=by
  have:=h3 (n-1) (r[n-1]' zO) (xab _);have:=(xaJ.1 this).1;omega
 refine⟨b,o,c,T,fz,h1,hs _ h2,hsz,?_⟩;have:c.extract o (o+n)=r.toArray:=by
  apply Array.ext
  ·simp;omega
  intro i UG Ed;simp only[xcD]at Ed;have:=h3 i r[i] (xab _);rw[Array.getElem_extract];have:=(xaJ.1 this).2;simpa using this
 rw[this];exact hk
def Sl(k:Nat)(B:Hp)(v:zV)(rs:List (List zV)):Prop:=
 (∀r∈rs,r.length=k)/\
 ((∃a cap,v=.slice a 0 cap/\rs=[])\/∃b o cap c T fz,v=.slice (some ⟨b,o,none⟩) rs.length cap/\rs.length<=cap/\(b,Obj.cells c T fz)∈B/\o+rs.length*k<=c.size/\∀i r,rs[i]? =some r->∀j v,r[j]? =some v->c[o+i*k+j]? =some v)
theorem Sl.mono{k:Nat}{B B':Hp}{v:zV}{rs:List (List zV)}(h:Sl k B v rs)(hs:∀x∈B,x∈B'):Sl k B' v rs:=by
 obtain⟨h0,h⟩:=h;refine⟨h0,?_⟩;rcases h with h|⟨b,o,cap,c,T,fz,h1,h2,h3,h4⟩
 ·exact .inl h
 exact .inr ⟨b,o,cap,c,T,fz,h1,h2,hs _ h3,h4⟩
theorem Sl.nil(k:Nat)(B:Hp):Sl k B (.slice none 0 0) []:=⟨by simp,.inl ⟨_,_,rfl,rfl⟩⟩
theorem Sl.shape{k:Nat}{B:Hp}{v:zV}{rs:List (List zV)}(h:Sl k B v rs):∃a cap,v=.slice a rs.length cap/\rs.length<=cap:=by
 rcases h.2 with⟨a,cap,rfl,rfl⟩|⟨b,o,cap,c,T,fz,h1,h2,_⟩
 ·exact⟨_,_,rfl,xaK _⟩
 exact⟨_,_,h1,h2⟩
theorem Sl.bH{k:Nat}{B:Hp}{v:zV}{rs:List (List zV)}(h:Sl k B v rs){K:zV->Prop}(hk:K (.int .i64 rs.length)):aX v K:=by
 obtain⟨a,c,rfl,_⟩:=h.shape;exact aX.mk hk
theorem aj.sl{k:Nat}{B:Hp}{v:zV}{rs:List (List zV)}{kd:IntKind}{i:Nat}{r:List zV}{K:zV->Prop}(h:Sl k B v rs)(hi:rs[i]? =some r)(hk:∀p,At B p r->K p):aj k v (.int kd (i:Int)) K:=by
 have hlt:=(xag.1 hi).1;rcases h.2 with⟨a,cap,rfl,rfl⟩|⟨b,o,cap,c,T,fz,h1,h2,h3,h4,h5⟩
 ·simp at hlt
 subst h1;refine aj.nat zO (hk _ ⟨b,_,c,T,fz,rfl,h3,λj v hj=>h5 i r hi j v hj⟩)
theorem Sl.cells{k:Nat}{B:Hp}{v:zV}{rs:List (List zV)}(h:Sl k B v rs):∃a cap,v=.slice a rs.length cap/\Cells B a (rs.length*k) (rows rs):=by
 rcases h.2 with⟨a,cap,rfl,rfl⟩|⟨b,o,cap,c,T,fz,h1,h2,h3,h4,h5⟩
 ·refine⟨a,cap,rfl,?_⟩;cases a with
  |none=>simp[Cells,rows]
  |some a=>exact .inl ⟨by simp,rfl⟩
 ·refine⟨_,cap,h1,.inr ⟨rfl,c,T,fz,h3,h4,?_⟩⟩;apply Array.ext
  ·rw[aZ h.1];simp;omega
  intro i UG Ed;rw[aZ h.1]at UG;have hk:0<k:=Nat.pos_of_ne_zero λe=>by simp[e]at UG
  have hd:i/k<rs.length:=xdC (by rw[xb9];exact UG);have hm:i%k<k:=xaZ _ hk;have he:i/k*k+i%k=i:=by rw[xb9];exact xd2 i k
  have hr:=h.1 rs[i/k] (xaB hd);have g1:=fY h.1 (i:=i/k) hm;rw[he,xab hd,xdW,xab zO]at g1;have g2:=h5 (i/k) _ (xab hd) (i%k) _ (xab zO);rw[xdt,he]at g2;have e1:=(xaJ.1 g1).2;have e2:=(xaJ.1 g2).2;rw[Array.getElem_extract];exact e1.trans e2.symm
theorem Sl.iO{T:TypeId}{k:Nat}{v:zV}{rs:List (List zV)}{C:Hp}(h:aH T k v rs C)(hk:0<k):Sl k C v rs:=by
 rcases h with⟨rfl,rfl,rfl⟩|⟨b,aC,rfl,rfl,aI⟩
 ·exact Sl.nil _ _
 refine⟨λr hr=>aI r (by simp[hr]),.inr ⟨b,0,_,rows (rs++aC),T,(0,0),rfl,by omega,by simp,?_,λi r hi j v hj=>?_⟩⟩
 ·rw[aZ aI,xai,xa1];exact xa4 _ zO
 have hlt:=(xag.1 hi).1;have hr:=aI r (xac _ (xax hi));have Of:j<k:=by rw[<-hr];exact(xag.1 hj).1
 rw[xa1,fY aI Of,xaH hlt,hi];exact hj
end
end Go.Sx
namespace Go.Sx
open Go
def bM:IntKind->Nat
 | .i8=>128| .i16=>32768| .i32=>2147483648| .i64=>9223372036854775808
 | .u8=>256| .u16=>65536| .u32=>4294967296| .u64=>18446744073709551616
theorem eC{kd:IntKind}{n:Nat}(h:n<bM kd):kd.wrap (n:Int)=n:=by
 cases kd<;>simp only[bM]at h<;>simp only[IntKind.wrap,IntKind.bits,IntKind.signed,Bool.false_and,xdu,xaE,xaS,xaO];all_goals first
  |omega
  |(rw[xad zP];omega)
theorem wrap_u64(n:Int):IntKind.u64.wrap n=n%18446744073709551616:=by simp[IntKind.wrap,IntKind.bits,IntKind.signed]
theorem JK(kd:IntKind):bM kd<=2^kd.bits:=by cases kd<;>decide
def nM(a b:Nat):Nat:=a^^^(a&&&b)
theorem dj(a b j:Nat):(nM a b).testBit j=(a.testBit j&& !b.testBit j):=by
 unfold nM;rw[Nat.testBit_xor,xbI];cases a.testBit j<;>cases b.testBit j<;>rfl
theorem oW(a b:Nat):nM a b<=a:=by
 have:nM a b=a&&&nM a b:=by
  apply xa3;intro j;rw[xbI,dj];cases a.testBit j<;>simp
 rw[this];exact xb3
theorem bits_nat{kd:IntKind}{a b:Nat}(ha:a<bM kd)(hb:b<bM kd):
  bits .and kd a b=((a&&&b:Nat):Int)/\bits .or kd a b=((a|||b:Nat):Int)/\bits .xor kd a b=((a^^^b:Nat):Int)/\bits .andNot kd a b=((nM a b:Nat):Int):=by
 have hl:=JK kd;have h1:(BitVec.ofInt kd.bits (a:Int)).toNat=a:=by rw[BitVec.ofInt_natCast,BitVec.toNat_ofNat,xbv zO]
 have h2:(BitVec.ofInt kd.bits (b:Int)).toNat=b:=by rw[BitVec.ofInt_natCast,BitVec.toNat_ofNat,xbv zO]
 obtain⟨n,hn⟩:∃n,bM kd=2^n:=by cases kd<;>first|exact⟨7,rfl⟩|exact⟨15,rfl⟩|exact⟨31,rfl⟩|exact⟨63,rfl⟩|exact⟨8,rfl⟩|exact⟨16,rfl⟩|exact⟨32,rfl⟩|exact⟨64,rfl⟩
 rw[hn]at ha hb;refine⟨?_,?_,?_,?_⟩
 ·simp only[bits,BitVec.toNat_and,h1,h2];exact eC (by rw[hn];exact xaR xb3 ha)
 ·simp only[bits,BitVec.toNat_or,h1,h2];exact eC (by rw[hn];exact xcn ha hb)
 ·simp only[bits,BitVec.toNat_xor,h1,h2];exact eC (by rw[hn];exact Nat.xor_lt_two_pow ha hb)
 simp only[bits];have:(BitVec.ofInt kd.bits (a:Int) &&& ~~~BitVec.ofInt kd.bits (b:Int)).toNat=nM a b:=by
  apply xa3;intro j;rw[dj,<-BitVec.getLsbD,BitVec.getLsbD_and,BitVec.getLsbD_not,BitVec.getLsbD,BitVec.getLsbD,h1,h2];by_cases hj:j<kd.bits
  ·simp[hj]
  have:a.testBit j=false:=xbJ (xa2 ha (by rw[<-hn];exact xbN hl (xav zD zO)));simp[this]
 rw[this];exact eC (by rw[hn];exact xaR (oW a b) ha)
section
variable {kd tM:IntKind} {a b:Nat} {k:zV->Prop}
theorem ae.oX(ha:a<bM kd)(hb:b<bM kd)(h:k (.int kd ((a&&&b:Nat):Int))):ae .num .and (.int kd a) (.int kd b) k:=⟨_,by simp[fD,jy,(bits_nat ha hb).1],h⟩
theorem ae.SC(ha:a<bM kd)(hb:b<bM kd)(h:k (.int kd ((a|||b:Nat):Int))):ae .num .or (.int kd a) (.int kd b) k:=⟨_,by simp[fD,jy,(bits_nat ha hb).2.1],h⟩
theorem ae.Qt(ha:a<bM kd)(hb:b<bM kd)(h:k (.int kd ((a^^^b:Nat):Int))):ae .num .xor (.int kd a) (.int kd b) k:=⟨_,by simp[fD,jy,(bits_nat ha hb).2.2.1],h⟩
theorem ae.Md(ha:a<bM kd)(hb:b<bM kd)(h:k (.int kd ((nM a b:Nat):Int))):ae .num .andNot (.int kd a) (.int kd b) k:=⟨_,by simp[fD,jy,(bits_nat ha hb).2.2.2],h⟩
theorem ae.pg(ha:a<bM kd)(h:k (.int kd ((a>>>b:Nat):Int))):ae .num .shr (.int kd a) (.int tM b) k:=by
 refine⟨_,?_,h⟩;have h0:¬((b:Int)<0):=by omega
 simp only[fD,h0,xaS,xap,Value.int.injEq,xb1,xco];rw[Int.fdiv_eq_ediv_of_nonneg _ (Int.le_of_lt (Int.pow_pos zD)),xa9];have hl:=JK kd;by_cases hb:b<=kd.bits
 ·rw[xch hb];push_cast;rfl
 rw[xdY zO];have h1:a/2^kd.bits=0:=xdw zO;have h2:a/2^b=0:=xdw (xa2 zO (xav zD (by omega:kd.bits<=b)));have:(a:Int) / (2^kd.bits:Int)=((a/2^kd.bits:Nat):Int):=by push_cast;rfl
 rw[this,h1,h2]
theorem ae.Au(hb:b<=kd.bits)(hr:a<<<b<bM kd)(h:k (.int kd ((a<<<b:Nat):Int))):ae .num .shl (.int kd a) (.int tM b) k:=by
 refine⟨_,?_,h⟩;have h0:¬((b:Int)<0):=by omega
 simp only[fD,h0,xaS,xap,Value.int.injEq,xb1,xco,xch hb];rw[<-eC hr,xc8];push_cast;rfl
theorem ae.As(h:k (.int .u64 (((a<<<b)%18446744073709551616:Nat):Int))):ae .num .shl (.int .u64 a) (.int tM b) k:=by
 refine⟨_,?_,h⟩;have h0:¬((b:Int)<0):=by omega
 simp only[fD,h0,xaS,xap,Value.int.injEq,xb1,xco,IntKind.bits,wrap_u64];rw[xc8];by_cases hb:b<=64
 ·rw[xch hb,Int.natCast_emod,Int.natCast_mul,Int.natCast_pow];rfl
 rw[xdY zO];have h1:(a*2^b)%18446744073709551616=0:=by
  have:2^b=18446744073709551616*2^(b-64):=by rw[show(18446744073709551616:Nat)=2^64 by rfl,<-xdL];congr 1;omega
  rw[this,Nat.mul_left_comm];exact Nat.mul_mod_right _ _
 rw[h1];exact Int.mul_emod_left _ _
theorem ae.zq(hr:a+b<bM kd)(h:k (.int kd ((a+b:Nat):Int))):ae .num .add (.int kd a) (.int kd b) k:=by
 refine ae.add ?_;have:((a:Int)+(b:Int))=((a+b:Nat):Int):=by push_cast;rfl
 rw[this,eC hr];exact h
theorem ae.tH(ha:a<bM kd)(hb:b<=a)(h:k (.int kd ((a-b:Nat):Int))):ae .num .sub (.int kd a) (.int kd b) k:=by
 refine ae.sub ?_;have:((a:Int) -(b:Int))=((a-b:Nat):Int):=by omega
 rw[this,eC zO];exact h
theorem ae.TV(hr:a*b<bM kd)(h:k (.int kd ((a*b:Nat):Int))):ae .num .mul (.int kd a) (.int kd b) k:=by
 refine ae.mul ?_;have:((a:Int)*(b:Int))=((a*b:Nat):Int):=by push_cast;rfl
 rw[this,eC hr];exact h
theorem ae.A9(ha:a<bM kd)(hb:b≠0)(h:k (.int kd ((a/b:Nat):Int))):ae .num .quo (.int kd a) (.int kd b) k:=by
 refine⟨_,?_,h⟩;have h0:¬((b:Int)=0):=by omega
 simp only[fD,jy,xa0,h0,xaS];have:(a:Int).tdiv b=((a/b:Nat):Int):=by rw[Int.tdiv_eq_ediv_of_nonneg zO];push_cast;rfl
 rw[this,eC (xaR (Nat.div_le_self _ _) ha)]
theorem ae.Xo(hb:b≠0)(h:k (.int kd ((a%b:Nat):Int))):ae .num .rem (.int kd a) (.int kd b) k:=by
 refine⟨_,?_,h⟩;have h0:¬((b:Int)=0):=by omega
 simp only[fD,jy,xa0,h0,xaS];have:(a:Int).tmod b=((a%b:Nat):Int):=by rw[Int.tmod_eq_emod_of_nonneg zO];push_cast;rfl
 rw[this]
theorem ae.kH{x y:Int}(h:k (.bool (decide (x=y)))):ae .num .eql (.int kd x) (.int kd y) k:=ae.eql (by rw[show(x==y)=decide (x=y)from by cases hb:decide (x=y)<;>simp_all];exact h)
theorem ae.dz{x y:Int}(h:k (.bool (decide (x≠y)))):ae .num .neq (.int kd x) (.int kd y) k:=ae.neq (by rw[show(x !=y)=decide (x≠y)from by cases hb:decide (x=y)<;>simp_all];exact h)
theorem ae.bA(h:k (.bool (decide (a=b)))):ae .num .eql (.int kd a) (.int kd b) k:=ae.kH (by simpa[xd3]using h)
theorem ae.nU(h:k (.bool (decide (a≠b)))):ae .num .neq (.int kd a) (.int kd b) k:=ae.dz (by simpa[xd3]using h)
theorem ae.fe(h:k (.bool (decide (a<b)))):ae .num .lss (.int kd a) (.int kd b) k:=ae.lss (by simpa[Int.ofNat_lt]using h)
theorem ae.wZ(h:k (.bool (decide (a<=b)))):ae .num .leq (.int kd a) (.int kd b) k:=ae.leq (by simpa[Int.ofNat_le]using h)
theorem ae.kG(h:k (.bool (decide (b<a)))):ae .num .gtr (.int kd a) (.int kd b) k:=ae.gtr (by simpa[Int.ofNat_lt]using h)
theorem ae.pN(h:k (.bool (decide (b<=a)))):ae .num .geq (.int kd a) (.int kd b) k:=ae.geq (by simpa[Int.ofNat_le]using h)
theorem aO.nat(ha:a<bM kd)(h:k (.int kd (a:Int))):aO kd (.int tM a) k:=aO.of (eC ha) h
theorem aO.ZA(h:k (.int .u8 ((a%256:Nat):Int))):aO .u8 (.int tM a) k:=aO.of (by simp[IntKind.wrap,IntKind.bits,IntKind.signed]) h
theorem Un.Xn(ha:a<18446744073709551616)(h:k (.int .u64 (((18446744073709551616-a)%18446744073709551616:Nat):Int))):Un .neg (.int .u64 a) k:=by
 refine⟨_,?_,h⟩;simp only[V6,wrap_u64,xap,Value.int.injEq,xb1];omega
theorem Un.EY(ha:a<18446744073709551616)(h:k (.int .u64 ((18446744073709551615-a:Nat):Int))):Un .xor (.int .u64 a) k:=by
 refine⟨_,?_,h⟩;have e:(if IntKind.u64.signed=true then(-1:Int)else IntKind.u64.max)=((18446744073709551615:Nat):Int):=by decide
 simp only[V6,e,(bits_nat (kd:=.u64) (a:=18446744073709551615) (b:=a) zD ha).2.2.1,xap,Value.int.injEq,xb1];congr 1;have:18446744073709551615^^^a=18446744073709551615-a:=by
  have tY:a<2^64:=ha;rw[show(18446744073709551615:Nat)=2^64-1 by rfl];apply xa3;intro j;rw[Nat.testBit_xor,show 2^64-1-a=2^64-(a+1)by omega,xdK tY,xcw];by_cases hj:j<64
  ·simp[hj]
  simp[hj];exact xbJ (xa2 tY (xav zD zO))
 exact this
end
theorem Br.dec{p:Prop}[Decidable p]{t f:Prop}(h1:p->t)(h2:¬p->f):Br (.bool (decide p)) t f:=⟨_,rfl,λh=>h1 (by simpa using h),λh=>h2 (by simpa using h)⟩
theorem Br.R9{p:Prop}[Decidable p]{t f:Prop}(hp:p)(h1:t):Br (.bool (decide p)) t f:=Br.dec (λ_=>h1) λh=>absurd hp h
theorem Br.OX{p:Prop}[Decidable p]{t f:Prop}(hp:¬p)(h1:f):Br (.bool (decide p)) t f:=Br.dec (λh=>absurd h hp) λ_=>h1
end Go.Sx
namespace ax
open Go.Sx
def wN(n:Nat):Nat:=max 1 (2^n/64)
def cU(n:Nat):Nat:=if 6<=n then 18446744073709551615 else 2^2^n-1
structure dZ(n:Nat)(ws:zL):Prop where
 Ac:n<=16
 len:ws.length=wN n
 full:∀w∈ws,w<=cU n
instance (n:Nat)(ws:zL):Decidable (dZ n ws):=decidable_of_iff (n<=16/\ws.length=wN n/\∀w∈ws,w<=cU n) ⟨λ⟨a,b,c⟩=>⟨a,b,c⟩,λ⟨a,b,c⟩=>⟨a,b,c⟩⟩
def bit(ws:zL)(x:Nat):Bool:=(ws.getD (x/64) 0).testBit (x%64)
def ay(x v:Nat)(b:Bool):Nat:=if b then x|||2^v else nM x (2^v)
theorem Qw(n:Nat):0<wN n:=Nat.le_max_left _ _
theorem Dz{n:Nat}(h:6<=n):wN n=2^(n-6):=by
 unfold wN;have:2^n/64=2^(n-6):=by
  rw[show(64:Nat)=2^6 by rfl,Nat.pow_div h zD]
 rw[this];exact Nat.max_eq_right (xb4 _)
theorem Dy{n:Nat}(h:n<7):wN n=1:=by
 have:n=0\/n=1\/n=2\/n=3\/n=4\/n=5\/n=6:=by omega
 rcases this with rfl|rfl|rfl|rfl|rfl|rfl|rfl<;>rfl
theorem rz{n:Nat}(h:n<=16):wN n<=1024:=by
 by_cases h6:6<=n
 ·rw[Dz h6];exact xav zD (by omega:n-6<=10)
 rw[Dy zO];decide
theorem oC(n:Nat):cU n<18446744073709551616:=by
 unfold cU;split
 ·decide
 have h1:2^n<=32:=xav (n:=2) zD (by omega:n<=5);have h2:2^2^n<=2^32:=xav zD h1;omega
theorem dZ.lt{n:Nat}{ws:zL}(h:dZ n ws){w:Nat}(hw:w∈ws):w<18446744073709551616:=xaR (h.full w hw) (oC n)
theorem sW{n w:Nat}(h:w<=cU n):w&&&cU n=w:=by
 unfold cU at*;split at h
 ·rename_i h6;rw[xae h6,show(18446744073709551615:Nat)=2^64-1 by rfl,xdE,xbv zO]
 rename_i h6;rw[xad h6,xdE,xbv];have:=xb4 (2^n);omega
theorem jR(n j:Nat):(cU n).testBit j=decide (j<if 6<=n then 64 else 2^n):=by
 unfold cU;split
 ·rw[show(18446744073709551615:Nat)=2^64-1 by rfl,xcw]
 rw[xcw]
theorem xW{n x:Nat}(h:x<2^n):x/64<wN n:=by
 by_cases h6:6<=n
 ·rw[Dz h6];refine xdC ?_;rw[show(64:Nat)=2^6 by rfl,<-xdL];rwa [show 6+(n-6)=n by omega]
 have h1:2^n<=32:=xav (n:=2) zD (by omega:n<=5);rw[Dy zO];omega
theorem dZ.ext{n:Nat}{a b:zL}(ha:dZ n a)(hb:dZ n b)(h:∀x,x<2^n->bit a x=bit b x):a=b:=by
 apply List.ext_getElem (by rw[ha.len,hb.len]);intro i h1 h2;apply xa3;intro j;have Yu:=sW (ha.full _ (xaB h1));have UP:=sW (hb.full _ (xaB h2));by_cases hj:j<(if 6<=n then 64 else 2^n)
 ·have acF:j<64:=by
   split at hj
   ·exact hj
   have h1:2^n<=32:=xav (n:=2) zD (by omega:n<=5);omega
  have hx:64*i+j<2^n:=by
   by_cases h6:6<=n
   ·have hi:i<2^(n-6):=by rw[<-Dz h6,<-ha.len];exact h1
    have:2^n=64*2^(n-6):=by rw[show(64:Nat)=2^6 by rfl,<-xdL];congr 1;omega
    omega
   have hi:i<1:=by rw[<-Dy (show n<7 by omega),<-ha.len];exact h1
   rw[xad h6]at hj;omega
  have:=h _ hx;unfold bit at this;rw[show(64*i+j) /64=i by omega,show(64*i+j)%64=j by omega]at this;simpa[h1,h2]using this
 have hd:(cU n).testBit j=false:=by rw[jR];simpa using hj
 rw[<-Yu,<-UP,xbI,xbI,hd];simp
def wM(v:Nat):Nat->Nat
 |0=>0
 |j+1=>wM v j|||(((j>>>v) &&&1)<<<j)
def mask(v:Nat):Nat:=wM v 64
theorem fO(m:Nat):m&&&1=if m.testBit 0 then 1 else 0:=by
 rw[xdM,Nat.testBit_zero];rcases Nat.mod_two_eq_zero_or_one m with h|h<;>simp[h]
theorem nX(v:Nat):∀J k,(wM v J).testBit k=(decide (k<J) &&k.testBit v)
 |0,k=>by simp[wM]
 |J+1,k=>by
  rw[wM,xcJ,nX v J k,fO,xbC,xbS];by_cases e:k=J
  ·subst e;cases hb:k.testBit v<;>simp[xdA]
  have:((if(J.testBit v)=true then 1 else 0)<<<J).testBit k=false:=by
   rw[xdA];split
   ·by_cases hk:J<=k
    ·have h1:Nat.testBit 1 (k-J)=false:=xbJ (Nat.one_lt_two_pow zO);simp[hk,h1]
    simp[hk]
   simp
  rw[this];have:(decide (k<J+1))=decide (k<J):=by simp;omega
  rw[this];simp
theorem wL(v:Nat):∀J,wM v J<2^J
 |0=>by simp[wM]
 |J+1=>by
  have h1:=wL v J;have h2:((J>>>v) &&&1)<<<J<2^(J+1):=by
   rw[fO,xc8];split
   ·rw[xd5];exact xcG zD zO
   rw[Nat.zero_mul];exact xb4 _
  exact xcn (xa2 h1 (xav zD zO)) h2
theorem fj(v k:Nat):(mask v).testBit k=(decide (k<64) &&k.testBit v):=nX v 64 k
theorem iP(v:Nat):mask v<18446744073709551616:=wL v 64
def oB(ws:zL)(v:Nat)(b:Bool)(i:Nat):Nat:=
 if 6<=v then ws.getD (ay i (v-6) b) 0
 else if b then(ws.getD i 0&&&mask v)|||(ws.getD i 0&&&mask v)>>>2^v
 else nM (ws.getD i 0) (mask v)|||(nM (ws.getD i 0) (mask v)<<<2^v)%18446744073709551616
def jg(n:Nat)(ws:zL)(v:Nat)(b:Bool):zL:=(List.range (wN n)).map λi=>oB ws v b i&&&cU n
theorem fV{n v:Nat}{ws:zL}{b:Bool}(h:n<=16):dZ n (jg n ws v b):=by
 refine⟨h,by simp[jg],λw hw=>?_⟩;obtain⟨i,_,rfl⟩:=xaq.1 hw;exact xcN
theorem ak(x v:Nat)(b:Bool)(k:Nat):(ay x v b).testBit k=if k=v then b else x.testBit k:=by
 unfold ay;cases b<;>simp only[xa0,xaE,xaS]
 ·rw[dj,xb5];by_cases e:k=v
  ·simp[e]
  simp[e,xbp e]
 rw[xcJ,xb5];by_cases e:k=v
 ·simp[e]
 simp[e,xbp e]
theorem Nn{x v n:Nat}{b:Bool}(hx:x<2^n)(hv:v<n):ay x v b<2^n:=by
 unfold ay;split
 ·exact xcn hx (xcG zD hv)
 exact xaR (oW _ _) hx
theorem QG:∀v:Fin 6,∀j:Fin 64,(j.1.testBit v.1=true->ay j v true=j/\ay j v false=j-2^v.1/\2^v.1<=j.1/\(j.1+2^v.1).testBit v.1=false/\(j.1-2^v.1).testBit v.1=false)/\
  (j.1.testBit v.1=false->ay j v true=j.1+2^v.1/\j.1+2^v.1<64/\ay j v false=j/\(j.1+2^v.1).testBit v.1=true/\(2^v.1<=j.1->(j.1-2^v.1).testBit v.1=true)):=by decide+kernel
theorem nv{x v:Nat}{b:Bool}:(6<=v->ay x v b/64=ay (x/64) (v-6) b/\ay x v b%64=x%64)/\(v<6->ay x v b/64=x/64/\ay x v b%64=ay (x%64) v b):=by
 have tY:∀y:Nat,y/64=y>>>6:=λy=>by rw[xa9]
 have m64:∀y:Nat,y%64=y%2^6:=λy=>rfl;refine⟨λh=>⟨?_,?_⟩,λh=>⟨?_,?_⟩⟩<;>apply xa3<;>intro k
 ·rw[tY,tY,xbC,ak,ak,xbC];by_cases e:k=v-6
  ·rw[xae e,xae zO]
  rw[xad e,xad zO]
 ·rw[m64 (ay x v b),m64 x,xa5,xa5,ak];by_cases hk:k<6
  ·rw[xad zO]
  simp[hk]
 ·rw[tY,tY,xbC,ak,xbC,xad zO]
 rw[m64 (ay x v b),m64 x,xa5,ak,ak,xa5];by_cases e:k=v
 ·subst e;simp[h]
 simp[e]
theorem oU{n v x:Nat}{ws:zL}{b:Bool}(hf:dZ n ws)(hv:v<n)(hx:x<2^n):bit (jg n ws v b) x=bit ws (ay x v b):=by
 have hi:=xW hx;unfold bit;have fM:(jg n ws v b).getD (x/64) 0=oB ws v b (x/64) &&&cU n:=by
  simp[jg,hi]
 rw[fM,xbI,jR];have UP:decide (x%64<if 6<=n then 64 else 2^n)=true:=by
  rw[xaO];split
  ·exact xaZ _ zD
  have h1:2^n<=32:=xav (n:=2) zD (by omega:n<=5);omega
 rw[UP,xdQ];unfold oB;by_cases h6:6<=v
 ·rw[xae h6,(nv.1 h6).1,(nv.1 h6).2]
 rw[xad h6];obtain⟨e1,e2⟩:=(nv (x:=x) (v:=v) (b:=b)).2 zO;rw[e1,e2];generalize hw:ws.getD (x/64) 0=w;have Wf:w<2^64:=by
  rw[<-hw];rw[xah,xab (by rw[hf.len];exact hi)];exact hf.lt (xaB _)
 have hj:x%64<64:=xaZ _ zD;generalize x%64=j at hj;obtain⟨s1,s2⟩:=QG ⟨v,by omega⟩ ⟨j,hj⟩;simp only at s1 s2;cases b
 ·simp only[xaE,xaS];rw[show(18446744073709551616:Nat)=2^64 by rfl,xcJ,xa5,xdA,dj,dj,fj,fj];cases hb:j.testBit v
  ·obtain⟨t1,t2,t3,t4,t5⟩:=s2 hb;rw[t3];by_cases hle:2^v<=j
   ·have:=t5 hle;have tY:j-2^v<64:=xaR (Nat.sub_le _ _) hj;simp[hj,this,tY]
   simp[hj,hle]
  obtain⟨t1,t2,t3,t4,t5⟩:=s1 hb;rw[t2];simp[hj,t3,t5]
 simp only[xa0];rw[xcJ,xbI,xbC,xbI,fj,fj];cases hb:j.testBit v
 ·obtain⟨t1,t2,t3,t4,t5⟩:=s2 hb;rw[t1,xc1 (2^v) j];simp[hj,t2,t4]
 obtain⟨t1,t2,t3,t4,t5⟩:=s1 hb;rw[t1,xc1 (2^v) j];simp[hj,t4]
def dep(n:Nat)(ws:zL)(v:Nat):Bool:=decide (jg n ws v false≠jg n ws v true)
theorem jr(x v:Nat):ay x v (x.testBit v)=x:=by
 apply xa3;intro k;rw[ak];by_cases e:k=v
 ·rw[xae e,e]
 rw[xad e]
theorem OW{n v:Nat}{ws:zL}(hf:dZ n ws)(hv:v<n):dep n ws v=true↔∃x,x<2^n/\bit ws (ay x v false)≠bit ws (ay x v true):=by
 constructor
 ·intro h;refine xaI λhno=>?_;have:jg n ws v false=jg n ws v true:=(fV hf.Ac).ext (fV hf.Ac) λx hx=>by
   rw[oU hf hv hx,oU hf hv hx];exact xaI λhne=>hno ⟨x,hx,hne⟩
  simp[dep,this]at h
 rintro⟨x,hx,hne⟩;simp only[dep,ne_eq,xaO];intro he;apply hne;rw[<-oU hf hv hx,<-oU hf hv hx,he]
end ax
namespace Go.Sx
open Go
inductive bh:Hp->Hp->Prop
 |refl (B:Hp):bh B B
 |cons {x:Nat×Obj} {B H:Hp} (h:bh B H):bh B (x::H)
 |app {N B H:Hp} (h:bh B H):bh B (N++H)
theorem bh.spec{B H:Hp}(h:bh B H):∃N,H=N++B:=by
 induction h with
 |refl=>exact⟨[],rfl⟩
 | @cons x B H h ih=>obtain⟨N,rfl⟩:=ih;exact⟨x::N,rfl⟩
 | @app M B H h ih=>obtain⟨N,rfl⟩:=ih;exact⟨M++N,by rw[xaj]⟩
theorem bh.sub{B H:Hp}(h:bh B H):∀x∈B,x∈H:=by
 obtain⟨N,rfl⟩:=h.spec;exact λx hx=>xaa _ hx
theorem bh.cS{B H:Hp}(h:bh B H):aG H B:=by
 obtain⟨N,rfl⟩:=h.spec;exact aG.right
theorem bh.trans{A B C:Hp}(h:bh A B)(h':bh B C):bh A C:=by
 obtain⟨N,rfl⟩:=h'.spec;exact .app h
section
variable {P:Program} {g:Gh} {H:Hp}
def Px(P:Program)(f:FuncId)(args:Array zV)(B:Hp)(Q:zV->Hp->Prop):Prop:=Fc P f args B (λv H=>bh B H/\Q v H)
theorem aa.px{f:FuncId}{args:Array zV}{B H:Hp}{c:Hp->Hp}{Q:zV->Hp->Prop}{K:zV->Hp->Prop}{KP:List PanicEntry->Hp->Prop}(hh:aU B H c)(hc:Px P f args B Q)
 (hk:∀v N,Q v (N++B)->K v (c (N++B))):aa P g f args H K KP:=
 aa.fn hh hc λv C' ⟨h1,h2⟩=>by obtain⟨N,rfl⟩:=h1.spec;exact hk v N h2
theorem aa.pre{f:FuncId}{args:Array zV}{H':Hp}{K:zV->Hp->Prop}{KP:List PanicEntry->Hp->Prop}(he:aG H H')(h:aa P g f args H' K KP):aa P g f args H K KP:=aR.pre h he
theorem aG.swap{x y:Nat×Obj}{A:Hp}:aG (x::y::A) (y::x::A):=.perm (.swap _ _ _)
theorem Aj.mk{Q:zV->Hp->Prop}{v:zV}{B H:Hp}(he:bh B H)(h:Q v H):aN (λv H=>bh B H/\Q v H) (.returned v) H:=⟨v,H,rfl,.refl _,he,h⟩
theorem bX.mk{Q:zV->Prop}{v:zV}{B H:Hp}(he:aG H B)(h:Q v):aN (λv H=>H=B/\Q v) (.returned v) H:=⟨v,B,rfl,he,rfl,h⟩
def au(kd:IntKind)(l:List Int):Array zV:=(l.map λn=>Value.int kd n).toArray
theorem AU(kd:IntKind)(l:List Int)(i:Nat)(n:Int):(au kd l).setIfInBounds i (.int kd n)=au kd (l.set i n):=by
 simp[au,xdj]
@[simp] theorem PT(kd:IntKind)(l:List Int):(au kd l).size=l.length:=by simp[au]
theorem FH(kd:IntKind)(n:Nat):madeCells (Value.cells (.int kd 0)) (n*1)=au kd (List.replicate n 0):=by
 apply Array.ext
 ·simp[madeCells,au]
 intro i h1 h2;simp[madeCells,au,Value.cells,xd6]
def cR(kd:IntKind)(B:Hp)(v:zV)(l:List Int):Prop:=Sl 1 B v (l.map λn=>[Value.int kd n])
theorem cR.mono{kd:IntKind}{B B':Hp}{v:zV}{l:List Int}(h:cR kd B v l)(hs:∀x∈B,x∈B'):cR kd B' v l:=Sl.mono h hs
theorem cR.bH{kd:IntKind}{B:Hp}{v:zV}{l:List Int}(h:cR kd B v l){K:zV->Prop}(hk:K (.int .i64 l.length)):aX v K:=Sl.bH h (by simpa using hk)
theorem cR.block{kd:IntKind}{B:Hp}{b cap:Nat}{l:List Int}{T:TypeId}{fz:Nat×Nat}(hm:(b,Obj.cells (au kd l) T fz)∈B)(hc:l.length<=cap):cR kd B (.slice (some ⟨b,0,none⟩) l.length cap) l:=by
 refine⟨by simp,.inr ⟨b,0,cap,_,T,fz,by simp,by simpa using hc,hm,by simp[au],λi r hi j v hj=>?_⟩⟩;rw[xat]at hi;cases hl:l[i]? with
 |none=>rw[hl]at hi;simp at hi
 |some n=>
  rw[hl]at hi;simp only[xbn,xap]at hi;subst hi;cases j with
  |zero=>
   simp only[xbR,xap]at hj;subst hj;simp[au,hl]
  |succ j=>simp at hj
theorem cR.at{kd tM:IntKind}{B:Hp}{v:zV}{l:List Int}(h:cR kd B v l){i:Nat}{n:Int}(hi:l[i]? =some n){K:zV->Prop}(hk:∀p,At B p [.int kd n]->K p):aj 1 v (.int tM (i:Int)) K:=
 aj.sl h (by rw[xat,hi];rfl) hk
theorem cR.ld{kd tM:IntKind}{B:Hp}{v:zV}{l:List Int}(h:cR kd B v l){i:Nat}{n:Int}(hi:l[i]? =some n)(hs:∀x∈B,x∈H){K:zV->Prop}(hk:K (.int kd n)):aj 1 v (.int tM (i:Int)) (λp=>Ld H p K):=
 h.at hi λp hp=>Ld.at hp hs hk
theorem cW.ints{T:TypeId}{kd kl:IntKind}{bytes n:Nat}{K:zV->Hp->Prop}(cO:n<=9223372036854775807)(hb:n*bytes<=281474976710656)
 (h:∀b,K (.slice (some ⟨b,0,none⟩) n n) ((b,.cells (au kd (List.replicate n 0)) T zZ)::H)):cW T 1 bytes (.int kd 0) H (.int kl n) (.int kl n) K:=
 ⟨kl,kl,n,n,rfl,rfl,xak _,by omega,hb,λb _=>by rw[FH];exact h b⟩
theorem St.ints{b i:Nat}{kd:IntKind}{l:List Int}{x:Int}{T:TypeId}{H':Hp}{K:Hp->Prop}(hu:cT b (.cells (au kd l) T zZ) (.cells (au kd (l.set i x)) T zZ) H H')(hi:i<l.length)(h:K H'):
  St 1 H (.pointer (some ⟨b,0+i*1,none⟩)) (.int kd x) K:=
 St.one (c:=au kd l) (c':=au kd (l.set i x)) hu rfl (by simpa using hi) (by rw[xa1,xb6];exact AU kd l i x) h
end
def bL:List zV->Nat->Nat
 | .int _ q::_,0=>q.toNat
 |_::r,i+1=>bL r i
 |_,_=>0
structure Tb where
 n:Int
 ws:zL
 deriving DecidableEq
def iw(ws:zL):List Int:=ws.map (Nat.cast:Nat->Int)
@[simp] theorem ag(ws:zL):(iw ws).length=ws.length:=by simp[iw]
theorem cc{ws:zL}{i w:Nat}(h:ws[i]? =some w):(iw ws)[i]? =some (w:Int):=by simp[iw,h]
def Words(B:Hp)(s:zV)(ws:zL):Prop:=cR .u64 B s (iw ws)/\∀w∈ws,w<18446744073709551616
theorem Words.mono{B B':Hp}{v:zV}{ws:zL}(h:Words B v ws)(hs:∀x∈B,x∈B'):Words B' v ws:=⟨h.1.mono hs,h.2⟩
theorem Words.block{B:Hp}{b cap:Nat}{ws:zL}{T:TypeId}{fz:Nat×Nat}(hm:(b,Obj.cells (au .u64 (iw ws)) T fz)∈B)(hc:ws.length<=cap)(hw:∀w∈ws,w<18446744073709551616):Words B (.slice (some ⟨b,0,none⟩) ws.length cap) ws:=by
 have:=cR.block (cap:=cap) hm (by simpa using hc);rw[ag]at this;exact⟨this,hw⟩
def Bx(B:Hp)(v:zV)(t:Tb):Prop:=∃s,v=.agg #[.int .i64 t.n,s]/\Words B s t.ws
theorem Bx.mono{B B':Hp}{v:zV}{t:Tb}(h:Bx B v t)(hs:∀x∈B,x∈B'):Bx B' v t:=let ⟨s,h1,h2⟩:=h;⟨s,h1,h2.mono hs⟩
def zu(B:Hp)(r:List zV)(t:Tb):Prop:=∃s,r=[.int .i64 t.n,s]/\Words B s t.ws
theorem zu.mono{B B':Hp}{r:List zV}{t:Tb}(h:zu B r t)(hs:∀x∈B,x∈B'):zu B' r t:=let ⟨s,h1,h2⟩:=h;⟨s,h1,h2.mono hs⟩
def p6{α:Type}(p:List zV->α->Prop)(rs:List (List zV))(l:List α):Prop:=rs.length=l.length/\∀(i:Nat) (r:List zV) (x:α),rs[i]? =some r->l[i]? =some x->p r x
theorem p6.nil{α:Type}{p:List zV->α->Prop}:p6 p [] []:=⟨rfl,by simp⟩
theorem p6.get{α:Type}{p:List zV->α->Prop}{rs:List (List zV)}{l:List α}(h:p6 p rs l){i:Nat}{x:α}(hx:l[i]? =some x):∃r,rs[i]? =some r/\p r x:=by
 have hlt:=(xag.1 hx).1;have:i<rs.length:=by rw[h.1];exact hlt
 exact⟨rs[i],xab this,h.2 i _ _ (xab this) hx⟩
theorem p6.mono{α:Type}{p q:List zV->α->Prop}{rs:List (List zV)}{l:List α}(h:p6 p rs l)(hpq:∀r x,p r x->q r x):p6 q rs l:=⟨h.1,λi r x h1 h2=>hpq _ _ (h.2 i r x h1 h2)⟩
def gA(B:Hp)(v:zV)(ts:List Tb):Prop:=∃rs,Sl 2 B v rs/\p6 (zu B) rs ts
theorem gA.mono{B B':Hp}{v:zV}{ts:List Tb}(h:gA B v ts)(hs:∀x∈B,x∈B'):gA B' v ts:=let ⟨rs,h1,h2⟩:=h;⟨rs,h1.mono hs,h2.mono λ_ _ h=>h.mono hs⟩
theorem gA.bH{B:Hp}{v:zV}{ts:List Tb}(h:gA B v ts){K:zV->Prop}(hk:K (.int .i64 ts.length)):aX v K:=by
 obtain⟨rs,h1,h2⟩:=h;refine h1.bH ?_;have:=h2.1;rw[this];exact hk
theorem gA.ld{B H:Hp}{v:zV}{ts:List Tb}{kd:IntKind}(h:gA B v ts){i:Nat}{t:Tb}(hi:ts[i]? =some t)(hs:∀x∈B,x∈H){K:zV->Prop}(hk:∀s,Words B s t.ws->K (.agg #[.int .i64 t.n,s])):aj 2 v (.int kd (i:Int)) (λp=>av 2 H p K):=by
 obtain⟨rs,h1,h2⟩:=h;obtain⟨r,hr,s,rfl,hw⟩:=h2.get hi;exact aj.sl h1 hr λp hp=>av.at hp rfl zD hs (hk s hw)
theorem gA.Xt{B H:Hp}{v:zV}{ts:List Tb}{kd:IntKind}(h:gA B v ts){i:Nat}{t:Tb}(hi:ts[i]? =some t)(hs:∀x∈B,x∈H){K:zV->Prop}(hk:K (.int .i64 t.n)):aj 2 v (.int kd (i:Int)) (λp=>ah 0 p (λq=>Ld H q K)):=by
 obtain⟨rs,h1,h2⟩:=h;obtain⟨r,hr,s,rfl,hw⟩:=h2.get hi;exact aj.sl h1 hr λp hp=>ah.at hp λq hq=>Ld.at hq hs hk
theorem gA.one{B:Hp}{b cap:Nat}{t:Tb}{s:zV}{T:TypeId}{fz:Nat×Nat}(hm:(b,Obj.cells #[.int .i64 t.n,s] T fz)∈B)(hw:Words B s t.ws):gA B (.slice (some ⟨b,0,none⟩) 1 (cap+1)) [t]:=by
 refine⟨[[.int .i64 t.n,s]],⟨by simp,.inr ⟨b,0,cap+1,_,T,fz,rfl,by simp,hm,by simp,λi r hi j v hj=>?_⟩⟩,rfl,λi r x h1 h2=>?_⟩
 ·cases i with
  |zero=>simp at hi;subst hi;simpa using hj
  |succ i=>simp at hi
 ·cases i with
  |zero=>simp at h1 h2;subst h1;subst h2;exact⟨s,rfl,hw⟩
  |succ i=>simp at h1
def TF(t:Tb):Prop:=0<=t.n/\ax.dZ t.n.toNat t.ws
instance (t:Tb):Decidable (TF t):=by unfold TF;infer_instance
end Go.Sx
namespace Go.Sx
open Go Go.RowKit
section
variable {P:Program}
def whole(W:World):Hp:=(List.range W.heap.size).map λi=>(i,W.heap.getD i default)
theorem ux(W:World):Own ⟨W,[]⟩ (whole W) W:=by
 refine⟨rfl,rfl,rfl,?_,?_⟩
 ·have:(whole W).map Prod.fst=List.range W.heap.size:=by
   unfold whole;rw[xcx];have:(Prod.fst∘λi=>(i,W.heap.getD i default))=id:=by funext i;rfl
   rw[this,List.map_id]
  rw[xaP,this];exact xcs
 intro x hx;rw[xaP]at hx;obtain⟨i,hi,rfl⟩:=xaq.1 hx;have:=xaV.1 hi;simp[xan,this]
theorem uC{W:World}{b:Nat}{o:Obj}(h:W.heap[b]? =some o):(b,o)∈whole W:=by
 have hlt:=(xaJ.1 h).1;exact xaq.2 ⟨b,xaV.2 hlt,by simp[xan,h]⟩
theorem Own.below{W W':World}(h:Own ⟨W,[]⟩ (whole W) W'):Below W.heap.size W W':=by
 have hb:∀k,k<W.heap.size->W'.heap[k]? =W.heap[k]? :=λk hk=>by
  have:=h.has (k,W.heap.getD k default) (xaq.2 ⟨k,xaV.2 hk,rfl⟩);simp only at this;rw[this];simp[xan,hk]
 refine⟨h.os,h.tape,h.out,?_,hb⟩;rcases Nat.eq_zero_or_pos W.heap.size with h0|h0
 ·omega
 have:=hb (W.heap.size-1) zO;rw[show W.heap[W.heap.size-1]? =some (W.heap[W.heap.size-1]' zO)from xbm zO]at this;have:=(xaJ.1 this).1;omega
theorem FJ{f:FuncId}{args:Array zV}{W:World}(h:aR P ⟨W,[]⟩ f args (whole W) (λe H'=>e=.returned (.bool true)/\aG H' (whole W))):
  Calls P f args W λe W'=>e=.returned (.bool true)/\Below W.heap.size W W':=
 (h W (ux W)).mono λe W' ⟨H',ho,he,hent⟩=>⟨he,(hent _ _ ho).below⟩
theorem Ra{f:FuncId}{args:Array zV}{W:World}(h:Px P f args (whole W) (λv _=>v=.bool true)):
  Calls P f args W λe W'=>e=.returned (.bool true)/\Below W.heap.size W W':=
 FJ ((h ⟨W,[]⟩).post λe H' ⟨v,C,he,hent,hg,hv⟩=>⟨H',.refl _,by rw[he,hv],hent.trans hg.cS⟩)
section
variable {H:Type} {enc:TypeId×zV->H}
open Go.ChangeShapes Go.WideShapes Go.ChangeAt Go.RowKit
theorem mV(hl:laidOutB P=true){W W':World}{sp:Nat->Bool}(hb:Below W.heap.size W W'):∀(ts:List TypeId) (vs:List zV) (ds:List (DataW H)) (ps:List MemPlace),
  (∀t∈ts,P.readableRec t=true/\t<P.types.size)->DataW.TrodAll enc P W 0 (λ_=>true) true ts vs ds ps->(∀x∈ps,x.block<W.heap.size)->(∀x∈ps,sp x.block=true)->DataW.TrodAll enc P W' 0 sp true ts vs ds ps
 | [],vs,ds,ps,_,h,_,_=>by
  obtain⟨rfl,rfl,rfl⟩:=trodAll_nil h;exact trodAll_mk0
 |t::ts,vs,ds,ps,hr,h,hlt,hsp=>by
  obtain⟨v,vs',d,ds',p,q,rfl,rfl,rfl,h0,h1⟩:=trodAll_cons h;have ht:=hr t zI;exact trodAll_cons_mk (WideElems.Trod_stays hl ht.1 ht.2 h0 (λx hx=>hb.same (hlt x (by simp[hx]))) (λx hx=>hsp x (by simp[hx])))
   (mV hl hb ts vs' ds' q (λt' h'=>hr t' (by simp[h'])) h1 (λx hx=>hlt x (by simp[hx])) (λx hx=>hsp x (by simp[hx])))
theorem JM{f:Func}{s:ChangeSpec}{W W':World}{args:Array zV}{ds gs:List (DataW H)}{before:List MemPlace}{tb:TypeId}(hvars:s.vars=[])
 (hW:DataW.Whole enc P f.params.toList s.vars false W args.toList ds gs before)(hs:s.fn H (ds++gs)={results:=[.lit (.bool true)],args:=ds})(hb:Below W.heap.size W W')
 (hl:laidOutB P=true)(hr:∀t∈f.params.toList,P.readableRec t=true/\t<P.types.size)(hrt:f.resultTypes=#[tb])(U1:P.underlying tb=some .bool):
  s.post enc P f false true false false W args (.bool true) W':=by
 have Wx:=hW;have hlt:=hW.lt;obtain⟨p,q,hA,hV,rfl,hfz,iu⟩:=hW;rw[hvars]at hV;obtain⟨rfl,rfl⟩:=trodVars_none hV;refine⟨ds,_,_,[],p,[],Wx,?_,?_,?_,World.keptBut_mono (λp hp=>⟨hp,?_⟩) (hb.frame (· ∈p++[])),λh=>by cases h⟩
 ·rw[hs,hrt];exact trodAll_cons_mk (shut_bool U1 _) trodAll_mk0
 ·rw[hs];exact mV hl hb _ _ _ _ hr hA (λx hx=>hlt x (by simp[hx])) (λx hx=>by simpa using hlt x (by simp[hx]))
 ·rw[hvars,hs];rfl
 right;simpa using hp
end
end
end Go.Sx
namespace Go.Sx
open Go
section
variable {P:Program} {g:Gh} {H:Hp}
theorem aH.aaV{T:TypeId}{v x:zV}{rs:List (List zV)}{C:Hp}(hs:aH T 1 v rs C){i:Nat}(hi:i<rs.length)(hr:rs[i]? =some [x])(hC:∀y∈C,y∈H){K:zV->Prop}(hk:K x):
  aj 1 v (.int .i64 (i:Int)) λp=>Ld H p K:=by
 obtain⟨b',aC,rfl,rfl,aI⟩:=hs.pos zO;refine aj.nat hi ?_;exact Ld.TL (l:=rs++aC) (hC _ (List.Mem.head _)) aI (by rw[xaH hi];exact hr) hk
theorem aH.Xh{T:TypeId}{v x y:zV}{rs:List (List zV)}{C A B:Hp}(hs:aH T 1 v rs C){i:Nat}(hi:i<rs.length)(hr:rs[i]? =some [y])(h1:x.oneCell'=true){K:Hp->Prop}
 (hk:∀C',aH T 1 v (rs.set i [x]) C'->K (A++(C'++B))):aj 1 v (.int .i64 (i:Int)) λp=>St 1 (A++(C++B)) p x K:=by
 obtain⟨b',aC,rfl,rfl,aI⟩:=hs.pos zO;refine aj.nat hi ?_;refine St.cell (l:=rs++aC) (i:=i) (k:=1) (j:=0) (r:=[y]) (((cT.head _).append B).bB A) aI (by rw[xaH hi];exact hr) zO h1 ?_;have e:(rs++aC).set i ([y].set 0 x)=rs.set i [x]++aC:=by rw[xcH _ _ hi];rfl
 rw[e];refine hk [(b',_)] (aH.mk' (aC:=aC) (λr hr'=>?_) zI zI);rcases xal.1 hr' with hr'|hr'
 ·rcases xcf hr' with hr'|rfl
  ·exact aI r (by simp[hr'])
  rfl
 exact aI r (by simp[hr'])
end
end Go.Sx
namespace Go.Sx
open Go
section
variable {κ β:Type} [DecidableEq κ]
structure aM(ke:κ->zV)(vr:zV->β->Prop)(es:Array MapEntry)(ck:Nat)(m:List (κ×β)):Prop where
 len:es.size=m.length
 key:∀(i:Nat) (e:MapEntry) (x:κ×β),es[i]? =some e->m[i]? =some x->e.key=ke x.1/\vr e.val x.2
 nd:(m.map Prod.fst).Nodup
 born:(es.toList.map MapEntry.born).Nodup
 lt:∀e∈es.toList,e.born<ck
variable {ke:κ->zV} {vr:zV->β->Prop} {es:Array MapEntry} {ck:Nat} {m:List (κ×β)}
theorem aM.empty:aM ke vr #[] 0 []:=⟨rfl,by simp,by simp,by simp,by simp⟩
theorem aM.mono{DA:zV->β->Prop}(h:aM ke vr es ck m)(hv:∀v x,vr v x->DA v x):aM ke DA es ck m:=⟨h.len,λi e x h1 h2=>⟨(h.key i e x h1 h2).1,hv _ _ (h.key i e x h1 h2).2⟩,h.nd,h.born,h.lt⟩
def gf(m:List (κ×β))(k:κ)(x:β):List (κ×β):=if k∈m.map Prod.fst then m.map (λy=>if y.1=k then(k,x)else y)else m++[(k,x)]
def c8(m:List (κ×β))(k:κ):Option β:=(m.find? (λy=>y.1=k)).map Prod.snd
theorem fo{m:List (κ×β)}{k:κ}{x:β}(nd:(m.map Prod.fst).Nodup):c8 m k=some x↔(k,x)∈m:=by
 induction m with
 |nil=>simp[c8]
 |cons y r ih=>
  rw[xaM,xbd]at nd;obtain⟨a,b⟩:=y;simp only[c8,xdF]at ih⊢;by_cases e:a=k
  ·subst e;simp only[decide_true,xbn,xap,xaf,xcR,xb1];constructor
   ·intro h;exact .inl h.symm
   rintro(h|h)
   ·exact h.symm
   exact absurd (xaq.2 ⟨_,h,rfl⟩) nd.1
  simp only[e,decide_false,xaf,xcR,xbp e,false_and,false_or];exact ih nd.2
theorem fK{m:List (κ×β)}{k:κ}:c8 m k=none↔k∉m.map Prod.fst:=by
 simp only[c8,Option.map_eq_none_iff,xdN,xaO,xaq,not_exists,not_and]
theorem aM.findNow{kd:TypeDesc}(hk:∀a b,Instr.sameNow kd (ke a) (ke b)=some (decide (a=b)))(h:aM ke vr es ck m)(k:κ):
  (∃(i:Nat) (x:β) (e:MapEntry),es[i]? =some e/\m[i]? =some (k,x)/\vr e.val x/\Instr.findNow kd (ke k) es.toList 0=some (some (i,e.val)))\/(k∉m.map Prod.fst/\Instr.findNow kd (ke k) es.toList 0=some none):=by
 have key:∀(l:List MapEntry) (q:List (κ×β)) (j:Nat),l.length=q.length->(∀(i:Nat) (e:MapEntry) (x:κ×β),l[i]? =some e->q[i]? =some x->e.key=ke x.1/\vr e.val x.2)->
   (∃(i:Nat) (x:β) (e:MapEntry),l[i]? =some e/\q[i]? =some (k,x)/\vr e.val x/\Instr.findNow kd (ke k) l j=some (some (j+i,e.val)))\/(k∉q.map Prod.fst/\Instr.findNow kd (ke k) l j=some none):=by
  intro l;induction l with
  |nil=>intro q j hl _;cases q with|nil=>exact .inr ⟨by simp,rfl⟩|cons a b=>simp at hl
  |cons e r ih=>
   intro q j hl hkey;cases q with
   |nil=>simp at hl
   |cons y q=>
    obtain⟨h1,h2⟩:=hkey 0 e y rfl rfl;simp only[Instr.findNow,h1,hk];by_cases e0:k=y.1
    ·subst e0;exact .inl ⟨0,y.2,e,rfl,rfl,h2,by simp⟩
    rw[xas e0];rcases ih q (j+1) (by simpa using hl) (λi e x h1 h2=>hkey (i+1) e x (by simpa using h1) (by simpa using h2))with⟨i,x,e',g1,g2,g3,g4⟩|⟨g1,g2⟩
    ·exact .inl ⟨i+1,x,e',by simpa using g1,by simpa using g2,g3,by simp only[g4];rw[show j+1+i=j+(i+1)by omega]⟩
    exact .inr ⟨by rw[xaM,xaf];rintro(h|h);exact e0 h;exact g1 h,by simpa using g2⟩
 have:=key es.toList m 0 (by simpa using h.len) (λi e x h1 h2=>h.key i e x (by simpa using h1) h2);rcases this with⟨i,x,e,g1,g2,g3,g4⟩|h2
 ·exact .inl ⟨i,x,e,by simpa using g1,g2,g3,by simpa using g4⟩
 exact .inr h2
theorem aM.yU{P:Program}{kt:TypeId}(hk:∀a b,zz P kt (ke a) (ke b) (decide (a=b)))(h:aM ke vr es ck m)(k:κ):
  (∃(i:Nat) (x:β) (e:MapEntry),es[i]? =some e/\m[i]? =some (k,x)/\vr e.val x/\kJ P kt (ke k) es.toList 0 (some (i,e.val)))\/(k∉m.map Prod.fst/\kJ P kt (ke k) es.toList 0 none):=by
 have key:∀(l:List MapEntry) (q:List (κ×β)) (j:Nat),l.length=q.length->(∀(i:Nat) (e:MapEntry) (x:κ×β),l[i]? =some e->q[i]? =some x->e.key=ke x.1/\vr e.val x.2)->
   (∃(i:Nat) (x:β) (e:MapEntry),l[i]? =some e/\q[i]? =some (k,x)/\vr e.val x/\kJ P kt (ke k) l j (some (j+i,e.val)))\/(k∉q.map Prod.fst/\kJ P kt (ke k) l j none):=by
  intro l;induction l with
  |nil=>intro q j hl _;cases q with|nil=>exact .inr ⟨by simp,rfl⟩|cons a b=>simp at hl
  |cons e r ih=>
   intro q j hl hkey;cases q with
   |nil=>simp at hl
   |cons y q=>
    obtain⟨h1,h2⟩:=hkey 0 e y rfl rfl;have hb:=hk k y.1;rw[<-h1]at hb;by_cases e0:k=y.1
    ·refine .inl ⟨0,y.2,e,rfl,by rw[e0];rfl,h2,?_⟩;exact⟨_,hb,λ_=>by simp,λh=>by simp[e0]at h⟩
    rcases ih q (j+1) (by simpa using hl) (λi e x h1 h2=>hkey (i+1) e x (by simpa using h1) (by simpa using h2))with⟨i,x,e',g1,g2,g3,g4⟩|⟨g1,g2⟩
    ·refine .inl ⟨i+1,x,e',by simpa using g1,by simpa using g2,g3,_,hb,λh=>by simp[e0]at h,λ_=>?_⟩;rw[show j+(i+1)=j+1+i by omega];exact g4
    exact .inr ⟨by rw[xaM,xaf];rintro(h|h);exact e0 h;exact g1 h,_,hb,λh=>by simp[e0]at h,λ_=>g2⟩
 have:=key es.toList m 0 (by simpa using h.len) (λi e x h1 h2=>h.key i e x (by simpa using h1) h2);rcases this with⟨i,x,e,g1,g2,g3,g4⟩|h2
 ·exact .inl ⟨i,x,e,by simpa using g1,g2,g3,by simpa using g4⟩
 exact .inr h2
theorem aM.put(h:aM ke vr es ck m){i:Nat}{k:κ}{y x:β}{val:zV}(hi:m[i]? =some (k,y))(hv:vr val x):aM ke vr (es.modify i λe=>{e with key:=ke k,val}) ck (gf m k x):=by
 have hmem:k∈m.map Prod.fst:=xaq.2 ⟨_,xax hi,rfl⟩;have hlt:=(xag.1 hi).1;have Uc:∀j z,m[j]? =some z->z.1=k->j=i:=λj z hj hz=>by
  have hj':=(xag.1 hj).1;have e1:(m.map Prod.fst)[j]? =some k:=by rw[xat,hj];simp[hz]
  have e2:(m.map Prod.fst)[i]? =some k:=by rw[xat,hi];rfl
  exact(List.getElem?_inj (by simpa using hj') h.nd).1 (e1.trans e2.symm)
 have hb:((es.modify i λe=>{e with key:=ke k,val}).toList.map MapEntry.born)=es.toList.map MapEntry.born:=by
  apply xbo;intro j;simp only[xat,xba,xbs];split
  ·cases es[j]? <;>rfl
  rfl
 refine⟨by simp[gf,hmem,h.len],λj e z he hz=>?_,?_,by rw[hb];exact h.born,λe he=>?_⟩
 ·simp only[gf,hmem,xa0,xat]at hz;rw[xbs]at he;cases hm:m[j]? with
  |none=>rw[hm]at hz;simp at hz
  |some z0=>
   rw[hm]at hz;simp only[xbn,xap]at hz;cases UQ:es[j]? with
   |none=>rw[UQ]at he;split at he<;>simp at he
   |some e0=>
    rw[UQ]at he;by_cases ek:z0.1=k
    ·have:=Uc j z0 hm ek;subst this;rw[xae ek]at hz;subst hz;simp only[xa0,xbn,xap]at he;subst he;exact⟨rfl,hv⟩
    rw[xad ek]at hz;subst hz;rw[xad (λe=>by subst e;rw[hi]at hm;cases hm;exact ek rfl)]at he;simp only[xap]at he;subst he;exact h.key j _ _ UQ hm
 ·have:(gf m k x).map Prod.fst=m.map Prod.fst:=by
   simp only[gf,hmem,xa0,xcx];apply xbV;intro z _;simp only[Function.comp];split
   ·rename_i hz;exact hz.symm
   rfl
  rw[this];exact h.nd
 have:e.born∈(es.modify i λe=>{e with key:=ke k,val}).toList.map MapEntry.born:=xbf he;rw[hb]at this;obtain⟨e0,h1,h2⟩:=xaq.1 this;rw[<-h2];exact h.lt e0 h1
theorem aM.more(h:aM ke vr es ck m){k:κ}{x:β}{val:zV}(hk:k∉m.map Prod.fst)(hv:vr val x):aM ke vr (es.push {key:=ke k,val,born:=ck}) (ck+1) (gf m k x):=by
 have hs:gf m k x=m++[(k,x)]:=by unfold gf;rw[xad hk]
 rw[hs];refine⟨by simp[h.len],λj e z he hz=>?_,?_,?_,λe he=>?_⟩
 ·by_cases hj:j<m.length
  ·rw[xaH hj]at hz;rw[xdc,xad (by rw[h.len];omega)]at he;exact h.key j _ _ he hz
  have Wn:=(xag.1 hz).1;simp only[xai,xar,xbe]at Wn;have:j=m.length:=by omega
  subst this;rw[xaU (xak _)]at hz;simp at hz;subst hz;rw[xdc,xae h.len.symm]at he;simp at he;subst he;exact⟨rfl,hv⟩
 ·rw[xaG,xbb];refine⟨h.nd,by simp,λa ha b hb=>?_⟩;simp at hb;subst hb;rintro rfl;exact hk ha
 ·rw[xdR,xaG,xbb];refine⟨h.born,by simp,λa ha b hb=>?_⟩;simp at hb;subst hb;obtain⟨e,he,rfl⟩:=xaq.1 ha;have:=h.lt e he;omega
 rw[xdR,xal]at he;rcases he with he|he
 ·have:=h.lt e he;omega
 simp at he;subst he;simp
variable {H:Hp} {b:Nat}
theorem aM.hit{kd:TypeDesc}{zero:zV}{ok:Bool}{k:κ}{x:β}{K:zV->Prop}(hk:∀a b,Instr.sameNow kd (ke a) (ke b)=some (decide (a=b)))(h:aM ke vr es ck m)(hm:(b,Obj.map es ck)∈H)(hx:c8 m k=some x)
 (h1:∀v,vr v x->K (cond ok (.tuple #[v,.bool true]) v)):qP kd zero ok H (.map (some b)) (ke k) K:=by
 rcases h.findNow hk k with⟨i,y,e,g1,g2,g3,g4⟩|⟨g1,g2⟩
 ·have:c8 m k=some y:=(fo h.nd).2 (xax g2);rw[hx]at this;cases this;exact⟨es,_,.inr ⟨b,ck,rfl,hm⟩,g4,h1 _ g3⟩
 rw[fK.2 g1]at hx;cases hx
theorem aM.AM{kd:TypeDesc}{zero:zV}{ok:Bool}{k:κ}{K:zV->Prop}(hk:∀a b,Instr.sameNow kd (ke a) (ke b)=some (decide (a=b)))(h:aM ke vr es ck m)(hm:(b,Obj.map es ck)∈H)(hx:c8 m k=none)
 (h1:K (cond ok (.tuple #[zero,.bool false]) zero)):qP kd zero ok H (.map (some b)) (ke k) K:=by
 rcases h.findNow hk k with⟨i,y,e,g1,g2,g3,g4⟩|⟨g1,g2⟩
 ·exact absurd (xaq.2 ⟨_,xax g2,rfl⟩) (fK.1 hx)
 exact⟨es,_,.inr ⟨b,ck,rfl,hm⟩,g2,h1⟩
theorem aM.bJ{kd:TypeDesc}{k:κ}{x:β}{val:zV}{K:Hp->Prop}(hk:∀a b,Instr.sameNow kd (ke a) (ke b)=some (decide (a=b)))(hb:∀a,Instr.sameBits 10000 (ke a) (ke a)=true)(h:aM ke vr es ck m)(hv:vr val x)
 (h1:∀es' cm,aM ke vr es' cm (gf m k x)->∃H',cT b (.map es ck) (.map es' cm) H H'/\K H'):fF kd H (.map (some b)) (ke k) val K:=by
 rcases h.findNow hk k with⟨i,y,e,g1,g2,g3,g4⟩|⟨g1,g2⟩
 ·refine⟨b,es,ck,_,rfl,g4,λe' he'=>?_,by rw[h.len];exact(xag.1 g2).1,h1 _ _ (h.put g2 hv)⟩;rw[(h.key i e' _ he' g2).1];exact hb k
 exact⟨b,es,ck,_,rfl,g2,h1 _ _ (h.more g1 hv)⟩
theorem aM.F1{P:Program}{kt:TypeId}{zero:zV}{ok:Bool}{k:κ}{x:β}{K:zV->Prop}(hk:∀a b,zz P kt (ke a) (ke b) (decide (a=b)))(hc:∀a,kP P kt (ke a))(h:aM ke vr es ck m)(hm:(b,Obj.map es ck)∈H)(hx:c8 m k=some x)
 (h1:∀v,vr v x->K (cond ok (.tuple #[v,.bool true]) v)):iZ P kt zero ok H (.map (some b)) (ke k) K:=by
 rcases h.yU hk k with⟨i,y,e,g1,g2,g3,g4⟩|⟨g1,g2⟩
 ·have:c8 m k=some y:=(fo h.nd).2 (xax g2);rw[hx]at this;cases this;exact⟨es,_,.inr ⟨b,ck,rfl,hm⟩,hc k,g4,h1 _ g3⟩
 rw[fK.2 g1]at hx;cases hx
theorem aM.uA{P:Program}{kt:TypeId}{zero:zV}{ok:Bool}{k:κ}{K:zV->Prop}(hk:∀a b,zz P kt (ke a) (ke b) (decide (a=b)))(hc:∀a,kP P kt (ke a))(h:aM ke vr es ck m)(hm:(b,Obj.map es ck)∈H)(hx:c8 m k=none)
 (h1:K (cond ok (.tuple #[zero,.bool false]) zero)):iZ P kt zero ok H (.map (some b)) (ke k) K:=by
 rcases h.yU hk k with⟨i,y,e,g1,g2,g3,g4⟩|⟨g1,g2⟩
 ·exact absurd (xaq.2 ⟨_,xax g2,rfl⟩) (fK.1 hx)
 exact⟨es,_,.inr ⟨b,ck,rfl,hm⟩,hc k,g2,h1⟩
theorem aM.IN{P:Program}{kt:TypeId}{k:κ}{x:β}{val:zV}{K:Hp->Prop}(hk:∀a b,zz P kt (ke a) (ke b) (decide (a=b)))(hc:∀a,kP P kt (ke a))(hb:∀a,Instr.sameBits 10000 (ke a) (ke a)=true)(h:aM ke vr es ck m)(hv:vr val x)
 (h1:∀es' cm,aM ke vr es' cm (gf m k x)->∃H',cT b (.map es ck) (.map es' cm) H H'/\K H'):gS P kt H (.map (some b)) (ke k) val K:=by
 rcases h.yU hk k with⟨i,y,e,g1,g2,g3,g4⟩|⟨g1,g2⟩
 ·refine⟨b,es,ck,_,rfl,hc k,g4,λe' he'=>?_,by rw[h.len];exact(xag.1 g2).1,h1 _ _ (h.put g2 hv)⟩;rw[(h.key i e' _ he' g2).1];exact hb k
 exact⟨b,es,ck,_,rfl,hc k,g2,h1 _ _ (h.more g1 hv)⟩
theorem aM.Q1(h:aM ke vr es ck m)(hm:(b,Obj.map es ck)∈H){K:zV->Prop}(hk:K (.int .i64 m.length)):zv H (.map (some b)) K:=⟨_,rfl,.inr ⟨b,es,ck,rfl,hm,by rw[h.len];exact hk⟩⟩
def cB(es:Array MapEntry)(m:List (κ×β))(seen:Array Nat):List (κ×β):=((es.toList.zip m).filter λp=> !seen.contains p.1.born).map Prod.snd
omit [DecidableEq κ] in
theorem nr(h:aM ke vr es ck m):cB es m #[]=m:=by
 unfold cB;rw[xdd.2 zI,<-List.unzip_snd,List.unzip_zip];simpa using h.len
omit [DecidableEq κ] in
theorem xq(h:aM ke vr es ck m){seen:Array Nat}{i:Nat}{e:MapEntry}{x:κ×β}(he:es[i]? =some e)(hx:m[i]? =some x)(hs:e.born∉seen):(cB es m seen).Perm (x::cB es m (seen.push e.born)):=by
 unfold cB;have hz:(es.toList.zip m)[i]? =some (e,x):=by rw[List.getElem?_zip_eq_some];exact⟨by simpa using he,hx⟩
 obtain⟨A,C,hAC,hlen⟩:∃A C,es.toList.zip m=A++(e,x)::C/\A.length=i:=by
  obtain⟨hlt,hg⟩:=xag.1 hz;exact⟨(es.toList.zip m).take i,(es.toList.zip m).drop (i+1),by rw[<-hg,List.getElem_cons_drop,xbk],by simp only[xbw];omega⟩
 have Yo:(es.toList.zip m).map (λp=>p.1.born)=es.toList.map MapEntry.born:=by
  have:(es.toList.zip m).map Prod.fst=es.toList:=by rw[<-List.unzip_fst,List.unzip_zip];simpa using h.len
  rw[show(λp:MapEntry×(κ×β)=>p.1.born)=MapEntry.born∘Prod.fst from rfl,<-xcx,this]
 have iu:=h.born;rw[<-Yo,hAC,xaG,xaM]at iu;have Uv:=xa6.nodup_iff.1 iu;rw[xbd,<-xaG]at Uv;have hne:∀p∈A++C,p.1.born≠e.born:=λp hp e0=>Uv.1 (xaq.2 ⟨p,hp,e0⟩);have P7:∀L:List (MapEntry×(κ×β)),(∀p∈L,p.1.born≠e.born)->(L.filter λp=> !(seen.push e.born).contains p.1.born)=L.filter λp=> !seen.contains p.1.born:=λL hL=>by
  apply List.filter_congr;intro p hp;have:=hL p hp;simp[Array.mem_push,this]
 rw[hAC,xcy,xcy,xcb,xcb];rw[xae (by simpa using hs),xad zI,P7 A λp hp=>hne p (xac _ hp),P7 C λp hp=>hne p (xaa _ hp)];rw[xaG,xaG,xaM];exact xa6
omit [DecidableEq κ] in
theorem aM.next{bi bm:Nat}{seen:Array Nat}{K:zV->Hp->Prop}(h:aM ke vr es ck m)(hm:(bm,Obj.map es ck)∈H)(hi:(bi,Obj.mapIter (some bm) ck seen ck)∈H)
 (h1:∀e x seen',e∈es.toList->e.key=ke x.1->vr e.val x.2->(cB es m seen).Perm (x::cB es m seen')->seen'.back?=some e.born->es.find? (·.born==e.born)=some e->
   ∃H',cT bi (.mapIter (some bm) ck seen ck) (.mapIter (some bm) ck seen' ck) H H'/\K (.tuple #[.bool true,e.key,e.val]) H')
 (h2:cB es m seen=[]->K (.tuple #[.bool false]) H):Si H (.pointer (some ⟨bi,0,none⟩)) K:=by
 refine⟨bi,some bm,ck,seen,ck,rfl,hi,es,ck,hm,λe he=>⟨h.lt e he,h.lt e he⟩,λe he hs=>?_,λaI=>h2 ?_⟩
 ·obtain⟨i,hi',rfl⟩:=xbg.1 he;have Ed:i<m.length:=by rw[<-h.len];simpa using hi'
  have g1:es[i]? =some es.toList[i]:=by rw[<-xba];exact xab hi'
  have g2:m[i]? =some m[i]:=xab Ed;obtain⟨k1,k2⟩:=h.key i _ _ g1 g2;refine h1 _ m[i] _ he k1 k2 (xq h g1 g2 hs) zI ?_;rw[<-Array.find?_toList];have iu:=h.born;rw[List.find?_eq_some_iff_append];refine⟨by simp,es.toList.take i,es.toList.drop (i+1),by rw[List.getElem_cons_drop,xbk],λa ha=>?_⟩;simp only[xbx,beq_eq_false_iff_ne,ne_eq];intro e0;obtain⟨j,hj,rfl⟩:=xbg.1 ha;simp only[xbw]at hj;rw[List.getElem_take]at e0;have:=(List.getElem_inj (by simpa using h.born) (xs:=es.toList.map MapEntry.born) (i:=j) (j:=i) (h₀:=by rw[xaz];omega) (h₁:=by rw[xaz];exact hi')).1 (by simpa using e0);omega
 unfold cB;rw[xcY.2,xcu];intro p hp;have:=aI p.1 (xd4 hp).1;simpa using this
end
end Go.Sx
namespace ax
def jh(w:Nat):List UInt8:=(List.range 8).map λi=>UInt8.ofNat (w>>>(8*i))
def fH(ws:zL):List UInt8:=ws.flatMap jh
theorem eM(w:Nat):(jh w).length=8:=by simp[jh]
theorem qo:∀l:zL,(fH l).length=8*l.length
 | []=>rfl
 |x::l=>by rw[fH,xdS,xai,eM];have:=qo l;unfold fH at this;rw[this,xar];omega
theorem Bk{a b:Nat}(ha:a<18446744073709551616)(hb:b<18446744073709551616)(h:jh a=jh b):a=b:=by
 apply xa3;intro j;by_cases hj:j<64
 ·have hi:j/8<8:=by omega
  have h1:=xbL (λl=>l[j/8]?) h;simp only[jh,xat,xcP hi,xbn,xap]at h1;have h2:=xbL UInt8.toNat h1;simp only[UInt8.toNat_ofNat']at h2;have h3:=xbL (λx=>x.testBit (j%8)) h2;simp only[xa5,xbC]at h3;rw[show 8*(j/8)+j%8=j by omega]at h3;have:decide (j%8<8)=true:=by simp;omega
  simpa[this]using h3
 rw[xbJ (xa2 ha (xav (n:=2) zD (by omega:64<=j))),xbJ (xa2 hb (xav (n:=2) zD (by omega:64<=j)))]
theorem yc:∀{a b:zL},(∀w∈a,w<18446744073709551616)->(∀w∈b,w<18446744073709551616)->fH a=fH b->a=b
 | [],[],_,_,_=>rfl
 | [],y::b,_,_,h=>by have:=xbL List.length h;simp[fH,eM]at this;omega
 |x::a,[],_,_,h=>by have:=xbL List.length h;simp[fH,eM]at this
 |x::a,y::b,ha,hb,h=>by
  simp only[fH,xdS]at h;obtain⟨h1,h2⟩:=List.append_inj h (by rw[eM,eM]);rw[Bk (ha x zI) (hb y zI) h1,yc (λw hw=>ha w (by simp[hw])) (λw hw=>hb w (by simp[hw])) h2]
theorem dZ.key_inj{n:Nat}{a b:zL}(ha:dZ n a)(hb:dZ n b)(h:fH a=fH b):a=b:=yc (λw hw=>ha.lt hw) (λw hw=>hb.lt hw) h
abbrev Fs:=List (zL)
def add(l:Fs)(t:zL):Fs:=if t∈l then l else l++[t]
def kV(L:Fs):Fs:=L.foldl add []
def given(n:Nat)(l:Fs)(v:Nat):Fs:=l.foldl (λacc t=>add (add acc (jg n t v false)) (jg n t v true)) []
def nodes(n:Nat)(l:Fs)(v:Nat):Fs:=l.filter λt=>dep n t v
def st(n:Nat)(L:Fs)(A:Nat):Nat->Fs
 |0=>kV L
 |k+1=>if A.testBit k then given n (st n L A k) k else st n L A k
def lvl(n:Nat)(L:Fs)(A v:Nat):Nat:=(nodes n (st n L A n) v).length
theorem vW{l:Fs}{t x:zL}:x∈add l t↔x∈l\/x=t:=by
 unfold add;split
 ·constructor
  ·exact .inl
  rintro(h|rfl)<;>assumption
 simp
theorem pX{l:Fs}{t:zL}(h:l.Nodup):(add l t).Nodup:=by
 unfold add;split
 ·exact h
 rename_i hn;rw[xbb];exact⟨h,by simp,λa ha b hb=>by simp at hb;subst hb;rintro rfl;exact hn ha⟩
theorem je{α:Type}(f:α->Fs->Fs)(g:α->zL->Prop)(hf:∀a l x,x∈f a l↔x∈l\/g a x):∀(L:List α) (acc:Fs) (x:zL),x∈L.foldl (λacc a=>f a acc) acc↔x∈acc\/∃a∈L,g a x
 | [],acc,x=>by simp
 |a::L,acc,x=>by
  rw[xdD,je f g hf L,hf];simp only[xaf,exists_eq_or_imp,or_assoc]
theorem gx{α:Type}(f:α->Fs->Fs)(hf:∀a l,l.Nodup->(f a l).Nodup):∀(L:List α) (acc:Fs),acc.Nodup->(L.foldl (λacc a=>f a acc) acc).Nodup
 | [],acc,h=>h
 |a::L,acc,h=>gx f hf L _ (hf a acc h)
theorem dk{L:Fs}{x:zL}:x∈kV L↔x∈L:=by
 unfold kV;have:=je (λa l=>add l a) (λa x=>x=a) (λa l x=>vW) L [] x;rw[this];simp
theorem jQ(L:Fs):(kV L).Nodup:=gx (λa l=>add l a) (λa l h=>pX h) L [] zI
theorem mC{n v:Nat}{l:Fs}{x:zL}:x∈given n l v↔∃t∈l,∃b,x=jg n t v b:=by
 unfold given;have:=je (λt acc=>add (add acc (jg n t v false)) (jg n t v true)) (λt x=>∃b,x=jg n t v b) (λt l x=>by
  rw[vW,vW];constructor
  ·rintro((h|h)|h)
   ·exact .inl h
   ·exact .inr ⟨false,h⟩
   exact .inr ⟨true,h⟩
  rintro(h|⟨b,h⟩)
  ·exact .inl (.inl h)
  cases b
  ·exact .inl (.inr h)
  exact .inr h) l [] x
 rw[this];simp
theorem yN(n:Nat)(l:Fs)(v:Nat):(given n l v).Nodup:=gx (λt acc=>add (add acc (jg n t v false)) (jg n t v true)) (λa l h=>pX (pX h)) l [] zI
theorem n9{a b:Fs}(ha:a.Nodup)(hb:b.Nodup)(h:∀x,x∈a↔x∈b):a.Perm b:=(List.perm_ext_iff_of_nodup ha hb).2 h
theorem rU{n v:Nat}{a b:Fs}(h:a.Perm b):(nodes n a v).length=(nodes n b v).length:=(h.filter _).length_eq
theorem nN(l:Fs)(t:zL):(add l t).length<=l.length+1:=by unfold add;split<;>simp
theorem fN{α:Type}(f:α->Fs->Fs)(c:Nat)(hf:∀a l,(f a l).length<=l.length+c):∀(L:List α) (acc:Fs),(L.foldl (λacc a=>f a acc) acc).length<=acc.length+c*L.length
 | [],acc=>by simp
 |a::L,acc=>by
  have h1:=fN f c hf L (f a acc);have h2:=hf a acc;rw[xdD,xar,Nat.mul_succ];omega
end ax
namespace Go.Sx
open Go
section
variable {P:Program} {H:Hp}
theorem ai.int{t e:Nat}{kd:IntKind}{x:Int}{K:zV->Hp->Prop}(h1:P.underlying t=some (.slice e))(h2:cy P e=some 1)(h3:dG P e=some (.int kd 0))
 (h:∀b,K (.slice (some ⟨b,0,none⟩) 1 1) ((b,.cells (au kd [x]) e zZ)::H)):ai P t 1 [(0,.int kd x)] H K:=by
 refine⟨au kd [x],e,1,_,h1,h2,h3,by decide,?_,λb _=>h b⟩;have e1:Array.range 1=#[0]:=rfl;simp[Instr.fill,Value.cells,au,e1]
theorem ai.none{t e k:Nat}{z:zV}{K:zV->Hp->Prop}(h1:P.underlying t=some (.slice e))(h2:cy P e=some k)(h3:dG P e=some z)
 (h:∀b,K (.slice (some ⟨b,0,none⟩) 0 0) ((b,.cells #[] e zZ)::H)):ai P t 0 [] H K:=by
 refine⟨_,e,k,z,h1,h2,h3,by simp,rfl,λb _=>?_⟩;have:((Array.range (0*k)).map λi=>z.cells[i%z.cells.size]!)=#[]:=by simp
 rw[this];exact h b
def cf(l:List UInt8):List (List zV):=l.map λb=>[Value.int .u8 b.toNat]
theorem po(l:List UInt8):rows (cf l)=(l.map λb=>Value.int .u8 b.toNat).toArray:=by
 unfold rows cf;congr 1;induction l with
 |nil=>rfl
 |cons b r ih=>simp[ih]
theorem gB.own{T:TypeId}{v:zV}{l:List UInt8}{C:Hp}(h:aH T 1 v (cf l) C)(hs:∀x∈C,x∈H){K:zV->Prop}(hk:K (.string ⟨l.toArray⟩)):gB H v K:=by
 obtain⟨a,cap,h1,h2⟩:=((Sl.iO h zD).mono hs).cells;refine⟨a,_,cap,l,h1,?_,by simp[cf],hk⟩;rw[po,xb6]at h2;exact h2
def bI(l:List UInt8):zV:=.string ⟨l.toArray⟩
theorem nZ(a b:List UInt8):((⟨a.toArray⟩:ByteArray)==⟨b.toArray⟩)=decide (a=b):=by
 rw[beq_toListBytes,ByteArray.toList_eq,ByteArray.toList_eq];simp only[xdH];rw[xcA];simp
theorem I8(a b:List UInt8):Instr.sameNow .string (bI a) (bI b)=some (decide (a=b)):=by
 show some _=some _;rw[nZ]
theorem Ff(a:List UInt8):Instr.sameBits 10000 (bI a) (bI a)=true:=by
 show((⟨a.toArray⟩:ByteArray)==⟨a.toArray⟩)=true;rw[nZ];simp
theorem ae.TD{a b:List UInt8}{k:zV->Prop}(h:k (.bool (decide (a≠b)))):ae .str .neq (bI a) (bI b) k:=by
 refine⟨_,rfl,?_⟩;have:(!((⟨a.toArray⟩:ByteArray).toList==(⟨b.toArray⟩:ByteArray).toList))=decide (a≠b):=by
  rw[<-beq_toListBytes,nZ];simp
 rw[this];exact h
def fi(n:Nat)(B:Hp)(es:Array MapEntry)(ck:Nat)(m:List (List UInt8×zL)):Prop:=
 aM bI (λv ws=>Bx B v ⟨n,ws⟩) es ck m/\∀x∈m,x.1=ax.fH x.2/\ax.dZ n x.2
theorem fi.mono{n:Nat}{B B':Hp}{es:Array MapEntry}{ck:Nat}{m:List (List UInt8×zL)}(h:fi n B es ck m)(hs:∀x∈B,x∈B'):fi n B' es ck m:=⟨h.1.mono λ_ _ h=>h.mono hs,h.2⟩
theorem fi.empty(n:Nat)(B:Hp):fi n B #[] 0 []:=⟨aM.empty,by simp⟩
def vG(m:List (List UInt8×zL))(ws:zL):List (List UInt8×zL):=gf m (ax.fH ws) ws
theorem fi.nodup{n:Nat}{B:Hp}{es:Array MapEntry}{ck:Nat}{m:List (List UInt8×zL)}(h:fi n B es ck m):(m.map Prod.snd).Nodup:=by
 have h1:=h.1.nd;have e:m.map Prod.fst=(m.map Prod.snd).map ax.fH:=by
  rw[xcx];apply xbV;intro x hx;exact(h.2 x hx).1
 rw[e]at h1;exact List.Pairwise.of_map ax.fH (λa b hne e=>hne (by rw[e])) h1
theorem o9{n:Nat}{m:List (List UInt8×zL)}{ws:zL}(hm:∀x∈m,x.1=ax.fH x.2/\ax.dZ n x.2)(hf:ax.dZ n ws):∀x,x∈(vG m ws).map Prod.snd↔x∈m.map Prod.snd\/x=ws:=by
 intro x;unfold vG gf;split
 ·rename_i hk;obtain⟨y,hy,hky⟩:=xaq.1 hk;have hyw:y.2=ws:=(hm y hy).2.key_inj hf (by rw[<-(hm y hy).1,hky]);have:(m.map λy=>if y.1=ax.fH ws then(ax.fH ws,ws)else y)=m:=by
   conv=>rhs;rw[<-List.map_id m]
   apply xbV;intro z hz;split
   ·rename_i hzk;have:z.2=ws:=(hm z hz).2.key_inj hf (by rw[<-(hm z hz).1,hzk]);simp only[id];rw[<-hzk,<-this]
   rfl
  rw[this];constructor
  ·exact .inl
  rintro(h|rfl)
  ·exact h
  exact xaq.2 ⟨y,hy,hyw⟩
 simp
theorem M7{n:Nat}{m:List (List UInt8×zL)}{ws:zL}(hm:∀x∈m,x.1=ax.fH x.2/\ax.dZ n x.2)(hf:ax.dZ n ws):∀x∈vG m ws,x.1=ax.fH x.2/\ax.dZ n x.2:=by
 intro x hx;unfold vG gf at hx;split at hx
 ·obtain⟨y,hy,rfl⟩:=xaq.1 hx;split
  ·exact⟨rfl,hf⟩
  exact hm y hy
 rcases xal.1 hx with hx|hx
 ·exact hm x hx
 simp at hx;subst hx;exact⟨rfl,hf⟩
theorem fi.bJ{n:Nat}{B:Hp}{es:Array MapEntry}{ck b:Nat}{m:List (List UInt8×zL)}{ws:zL}{val:zV}{K:Hp->Prop}(h:fi n B es ck m)(hv:Bx B val ⟨n,ws⟩)(hf:ax.dZ n ws)
 (h1:∀es' cm,fi n B es' cm (vG m ws)->∃H',cT b (.map es ck) (.map es' cm) H H'/\K H'):fF .string H (.map (some b)) (bI (ax.fH ws)) val K:=
 aM.bJ I8 Ff h.1 hv λes' cm he=>h1 es' cm ⟨he,M7 h.2 hf⟩
end
end Go.Sx
namespace Go.Sx
open Go
section
variable {P:Program} {g:Gh} {H:Hp}
theorem aH.apps{elem k bytes:Nat}{zero:zV}{v:zV}{rs:List (List zV)}{C A B:Hp}(h:aH elem k v rs C){xa:Option Addr}{xc:Nat}{r2:List (List zV)}
 (hx:Cells (A++(C++B)) xa (r2.length*k) (rows r2))(hr:∀r∈r2,r.length=k)(h1:∀r∈r2,∀u∈r,u.oneCell'=true)(hz:∃z:List zV,zero.cells=z.toArray/\z.length=k)
 (hb:(rs.length+r2.length)*bytes<=140737488355328)(cO:rs.length+r2.length<=9223372036854775807){K:zV->Hp->Prop}
 (hk:∀v' C',aH elem k v' (rs++r2) C'->K v' (A++(C'++B))):App P elem k bytes zero (A++(C++B)) v (.slice xa r2.length xc) K:=by
 obtain⟨z,Ua,NW⟩:=hz;have hnone:∀u∈(rows r2).toList,u.oneCell'=true:=by
  intro u hu;simp only[rows,List.mem_flatten]at hu;obtain⟨r,h2,h3⟩:=hu;exact h1 r h2 u h3
 rcases h with⟨rfl,rfl,rfl⟩|⟨b,aC,rfl,rfl,aI⟩
 ·refine⟨none,0,0,xa,r2.length,xc,#[],rows r2,rfl,rfl,rfl,hx,aZ hr,by simp,hnone,λh=>?_,λ_=>⟨by simpa using hb,by simpa using cO,λeV hn b YA=>?_⟩⟩
  ·have:r2=[]:=xcq zO;subst this;exact hk _ [] (.inl ⟨rfl,rfl,rfl⟩)
  rw[show(#[]:Array zV)++rows r2++Builtin.zeroCells zero.cells (eV-(0+r2.length))=rows ([]++r2++List.replicate (eV-r2.length) z)by rw[Ua,kS z NW];simp only[xa1,xcS,xaW];rw[cq]];refine⟨_,aG.Pr [(b,_)] A B,hk _ [(b,_)] (.inr ⟨b,List.replicate (eV-r2.length) z,?_,rfl,?_⟩)⟩
  ·simp;omega
  intro x hx;rcases xal.1 hx with hx|hx
  ·exact hr x hx
  rw[xbM hx,NW]
 have hsz:=aZ aI;have m6:∀x∈rs,x.length=k:=λx hx=>aI x (by simp[hx]);have hold:rows rs=(rows (rs++aC)).extract 0 (0+rs.length*k):=by
  rw[<-cq];apply xc7;have:=aZ m6;have h2:(rows rs).toList.length=rs.length*k:=by rw[xbW];exact this
  rw[Array.toList_extract,Array.toList_append,List.extract_eq_take_drop,List.drop_zero,xa1,xdi,<-h2,xdn]
 refine⟨some ⟨b,0,none⟩,rs.length,rs.length+aC.length,xa,r2.length,xc,rows rs,rows r2,rfl,rfl,.inr ⟨rfl,_,elem,(0,0),by simp,?_,hold⟩,hx,aZ hr,aZ m6,hnone,λhfit=>?_,λhgrow=>⟨hb,by omega,λeV hn b' YA=>?_⟩⟩
 ·rw[hsz];simp only[xai,xa1];exact xa4 _ zO
 ·obtain⟨j1,j2,rfl,hj⟩:∃j1 j2,aC=j1++j2/\j1.length=r2.length:=⟨aC.take r2.length,aC.drop r2.length,(xbk _ _).symm,by rw[xbw];omega⟩;have U4:∀x∈j1,x.length=k:=λx hx=>aI x (by simp[hx]);refine⟨_,elem,_,rfl,?_,((cT.head _).append B).bB A,hk _ [(b,_)] (.inr ⟨b,j2,?_,?_,?_⟩)⟩
  ·rw[hsz,xai,xai,hj,Nat.add_mul,Nat.add_mul];show 0+rs.length*k+r2.length*k<=_;omega
  ·simp;omega
  ·have e:(⟨b,0,none⟩:Addr).off+rs.length*k=rs.length*k:=by simp
   have l1:=cG rs m6;have l2:=cG j1 U4;have l3:=cG r2 hr;have e2:over (rows (rs++(j1++j2))) (rs.length*k) (rows r2).toList=rows (rs++r2++j2):=by
    unfold rows;rw[xbu,xbu,xdH,jZ _ _ _ (by rw[xai,xai,l1,l2,l3,hj];omega)];congr 1;rw[xbu,xbu,<-l1,xdn,l3,<-hj,<-l2,xdx,<-xaj];simp[xdx]
   rw[e,e2]
  intro x hx;simp only[xaj,xal]at hx;rcases hx with hx|hx|hx
  ·exact m6 x hx
  ·exact hr x hx
  exact aI x (by simp[hx])
 refine⟨A++([(b',_)]++B),?_,hk _ [(b',_)] (.inr ⟨b',List.replicate (eV-(rs.length+r2.length)) z,?_,rfl,?_⟩)⟩
 ·rw[Ua,kS z NW,cq,cq];exact λg w h=>(aG.TK [[_],A,[_],B] [[_],A,[_],B] ((xbi (l₁:=[_,A]) (l₂:=[_])).append_right [B]|>.trans (.cons _ (.swap _ _ _))) g w h).tail
 ·simp;omega
 intro x hx;rcases xal.1 hx with hx|hx
 ·rcases xal.1 hx with hx|hx
  ·exact m6 x hx
  exact hr x hx
 rw[xbM hx,NW]
def aL(T:TypeId)(kd:IntKind)(v:zV)(l:List Int)(C:Hp):Prop:=aH T 1 v (l.map λn=>[Value.int kd n]) C
theorem aL.nil{T:TypeId}{kd:IntKind}:aL T kd (.slice none 0 0) [] []:=aH.nil _ _
theorem aL.bH{T:TypeId}{kd:IntKind}{v:zV}{l:List Int}{C:Hp}(h:aL T kd v l C){K:zV->Prop}(hk:K (.int .i64 l.length)):aX v K:=aH.bH h (by simpa using hk)
theorem aL.ints{T:TypeId}{kd:IntKind}{v:zV}{l:List Int}{C:Hp}(h:aL T kd v l C):cR kd C v l:=Sl.iO h zD
theorem aL.app{T:TypeId}{kd:IntKind}{v:zV}{l:List Int}{C A B:Hp}{bytes:Nat}(h:aL T kd v l C){xb xc:Nat}{x:Int}{xT:TypeId}{fz:Nat×Nat}(hx:(xb,Obj.cells (au kd [x]) xT fz)∈A++(C++B))
 (hb:(l.length+1)*bytes<=140737488355328)(hm:l.length+1<=9223372036854775807){K:zV->Hp->Prop}(hk:∀v' C',aL T kd v' (l++[x]) C'->K v' (A++(C'++B))):App P T 1 bytes (.int kd 0) (A++(C++B)) v (.slice (some ⟨xb,0,none⟩) 1 xc) K:=
 aH.Ma (r:=[.int kd x]) h hx rfl (by simp[Value.oneCell']) ⟨[.int kd 0],rfl,rfl⟩ (by simpa using hb) (by simpa using hm) λv' C' ho=>hk v' C' (by unfold aL;simpa using ho)
theorem aL.apps{T:TypeId}{kd:IntKind}{v x:zV}{l l2:List Int}{C A B:Hp}{bytes:Nat}(h:aL T kd v l C)(hx:cR kd (A++(C++B)) x l2)
 (hb:(l.length+l2.length)*bytes<=140737488355328)(hm:l.length+l2.length<=9223372036854775807){K:zV->Hp->Prop}(hk:∀v' C',aL T kd v' (l++l2) C'->K v' (A++(C'++B))):App P T 1 bytes (.int kd 0) (A++(C++B)) v x K:=by
 obtain⟨a,cap,rfl,hc⟩:=Sl.cells hx;exact aH.apps h hc zI (by simp[Value.oneCell']) ⟨[.int kd 0],rfl,rfl⟩ (by simpa using hb) (by simpa using hm) λv' C' ho=>hk v' C' (by unfold aL;rw[xaG];exact ho)
theorem ai.T9{t e:Nat}{kd:IntKind}{x y z:Int}{K:zV->Hp->Prop}(h1:P.underlying t=some (.slice e))(h2:cy P e=some 1)(h3:dG P e=some (.int kd 0))
 (h:∀b,K (.slice (some ⟨b,0,Option.none⟩) 3 3) ((b,.cells (au kd [x,y,z]) e zZ)::H)):ai P t 3 [(0,.int kd x),(1,.int kd y),(2,.int kd z)] H K:=by
 refine⟨au kd [x,y,z],e,1,_,h1,h2,h3,by decide,?_,λb _=>h b⟩;have e1:Array.range (3*1)=#[0,1,2]:=rfl;simp[Instr.fill,Value.cells,au,e1]
end
end Go.Sx
namespace Go.Sx
open Go
section
variable {P:Program}
theorem ze{e:TypeId}{i:TypeInfo}(hi:P.info? e=some i)(hs:i.size=1):P.cellsOf e=1:=by simp[Program.cellsOf,hi,hs]
theorem oa{e:TypeId}{q:IntKind}(hu:P.underlying e=some (.int q)){l:List Int}{j:Nat}{x:Int}(h:l[j]? =some x)(w:World):(part e (au q l) j).run P w=.ok (.int q x) w:=by
 simp[part,isAgg,run_underlying hu,au,h]
theorem oI{e:TypeId}{q:IntKind}(hu:P.underlying e=some (.int q))(hc:P.cellsOf e=1)(d:Nat)(l l':List Int)(w:World):∀is:zL,(∀i∈is,i<l.length/\i<l'.length)->
  (Op.eqItems (d+1) e (P.cellsOf e) (au q l) (au q l') is).run P w=.ok (is.all λi=>l[i]? ==l'[i]?) w
 | [],_=>by simp[Op.eqItems]
 |i::is,h=>by
  obtain⟨h1,h2⟩:=h i zI;have g1:l[i]? =some l[i]:=xab h1;have g2:l'[i]? =some l'[i]:=xab h2;have p1:=oa (P:=P) hu g1 w;have p2:=oa (P:=P) hu g2 w;have p3:(Op.equalIn (d+1) e (.int q l[i]) (.int q l'[i])).run P w=.ok (l[i]==l'[i]) w:=by
   simp only[Op.equalIn,Sem.run_bind,run_underlying hu,Result.andThen_ok,xa0,Sem.run_pure]
  have ih:=oI hu hc d l l' w is λj hj=>h j (by simp[hj]);simp only[Op.eqItems,hc,xb6,Sem.run_bind,p1,p2,p3,Result.andThen_ok]at ih⊢;rw[List.all_cons,g1,g2];cases hb:(l[i]==l'[i])
  ·simp[hb]
  simp[hb,ih]
theorem zz.array{t e:TypeId}{q:IntKind}{n:Nat}(ht:P.underlying t=some (.array n e))(hu:P.underlying e=some (.int q))(hz:cy P e=some 1)(l l':List Int)(h1:l.length=n)(h2:l'.length=n):
  zz P t (.agg (au q l)) (.agg (au q l')) (decide (l=l')):=by
 obtain⟨i,hi,hs⟩:=aV hz;have hc:=ze hi hs;intro w;show(Op.equalIn (9998+1+1) t _ _).run P w=_;rw[run_equalIn_array w (9998+1) _ _ ht hi,oI hu hc 9998 l l' w _ (λj hj=>by have:=xaV.1 hj;omega)];congr 1;rw[xcA];simp only[xc6,xaV,xaO,xc5];constructor
 ·intro h;apply xbo;intro j;by_cases hj:j<n
  ·exact h j hj
  rw[xaF zO,xaF zO]
 rintro rfl j _;rfl
theorem kP.array{t e:TypeId}{q:IntKind}{n:Nat}(ht:P.underlying t=some (.array n e))(hu:P.underlying e=some (.int q))(hz:cy P e=some 1)(l:List Int)(h1:l.length=n):kP P t (.agg (au q l)):=by
 obtain⟨i,hi,hs⟩:=aV hz;intro b w;have gen:∀d,(Instr.checkKey b (d+1+1) t (.agg (au q l))).run P w=.ok () w:=by
  intro d;have p2:∀x:Int,(Instr.checkKey b (d+1) e (.int q x)).run P w=.ok () w:=λx=>by
   simp only[Instr.checkKey,Sem.run_bind,run_underlying hu,Result.andThen_ok,Sem.run_pure]
  unfold Instr.checkKey;simp only[Sem.run_bind,run_underlying ht,Result.andThen_ok];simp only[Std.Legacy.Range.forIn_eq_forIn_range',Std.Legacy.Range.size,xdi,Nat.add_one_sub_one,Nat.div_one];have key:∀is:zL,(∀j∈is,j<l.length)->(forIn is PUnit.unit λj (_:PUnit)=>(do
     Instr.checkKey b (d+1) e (<-part e (au q l) (j*(<-sizeOf e)))
     pure (ForInStep.yield PUnit.unit):Sem (ForInStep PUnit))).run P w=.ok PUnit.unit w:=by
   intro is;induction is with
   |nil=>intro _;simp
   |cons j is ih=>
    intro h;have p1:=oa (P:=P) hu (xab (h j zI)) w;simp only[xd1,Sem.run_bind,run_sizeOf hi,Result.andThen_ok,hs,xb6,p1,p2,Sem.run_pure];exact ih λk hk=>h k (by simp[hk])
  have:=key (List.range' 0 n) (λj hj=>by have:=List.mem_range'_1.1 hj;omega);rw[this];rfl
 exact gen 9998
end
end Go.Sx
