import Derived.WalkKit
import Derived.Still
import Derived.KernelRfl
import Derived.Deep.Quiet
import Derived.OrdersHeld
import Derived.ProofKit
import Derived.OpenShut
import Derived.Below
set_option linter.unusedVariables false
set_option linter.unusedSimpArgs false
set_option linter.unusedSectionVars false
theorem zM{α:Type _}{x:α}{l:List α}(h:x∈l:=by repeat (first|assumption|exact List.Mem.head _|apply List.Mem.tail|apply List.mem_append_right)):x∈l:=h
theorem zS{α:Type _}{A B:List α}(h:∀x∈A,x∈B:=by intro _ h;repeat (first|exact h|apply List.mem_cons_of_mem|apply List.mem_append_right)):∀x∈A,x∈B:=h
namespace Go.Sx
open Go
abbrev Hp:=List (Nat×Obj)
structure Gh where
 w:World
 fr:Hp
def Gh.add(g:Gh)(F:Hp):Gh:=⟨g.w,F++g.fr⟩
structure Own(g:Gh)(H:Hp)(w:World):Prop where
 os:w.os=g.w.os
 out:w.output=g.w.output
 tape:w.tape=g.w.tape
 nd:((H++g.fr).map Prod.fst).Nodup
 lC:∀x,x∈H++g.fr→w.heap[x.1]? =some x.2
theorem Own.has{g:Gh}{H:Hp}{w:World}(h:Own g H w)(x:Nat×Obj)(hx:x∈H):w.heap[x.1]? =some x.2:=h.lC x (List.mem_append_left _ hx)
theorem Own.perm{g:Gh}{H H':Hp}{w:World}(h:Own g H w)(p:H.Perm H'):Own g H' w:=
 ⟨h.os,h.out,h.tape,((p.append_right _).map _).nodup_iff.1 h.nd,fun x hx=>h.lC x ((p.append_right _).mem_iff.2 hx)⟩
theorem Own.right{g:Gh}{A B:Hp}{w:World}(h:Own g (A++B) w):Own g B w:=
 ⟨h.os,h.out,h.tape,by have:=h.nd;rw[List.append_assoc,List.map_append]at this;exact(List.nodup_append.1 this).2.1,fun x hx=>h.lC x (by rw[List.append_assoc];exact List.mem_append_right _ hx)⟩
theorem Own.left{g:Gh}{A B:Hp}{w:World}(h:Own g (A++B) w):Own g A w:=Own.right (A:=B) (h.perm List.perm_append_comm)
theorem Own.tail{g:Gh}{x:Nat×Obj}{B:Hp}{w:World}(h:Own g (x::B) w):Own g B w:=Own.right (A:=[x]) h
theorem Own.cD{g:Gh}{A F:Hp}{w:World}:Own g (A++F) w↔Own (g.add F) A w:=by
 constructor
 ·intro h;exact⟨h.os,h.out,h.tape,by have:=h.nd;rw[List.append_assoc]at this;exact this,fun x hx=>h.lC x (by rw[List.append_assoc];exact hx)⟩
 ·intro h;exact⟨h.os,h.out,h.tape,by have:=h.nd;rw[List.append_assoc];exact this,fun x hx=>h.lC x (by rw[List.append_assoc]at hx;exact hx)⟩
def aM(H H':Hp):Prop:=∀g w,Own g H w→Own g H' w
theorem aM.refl(H:Hp):aM H H:=fun _ _ h=>h
theorem aM.trans{A B C:Hp}(h:aM A B)(h':aM B C):aM A C:=fun g w x=>h' g w (h g w x)
theorem aM.perm{A B:Hp}(p:A.Perm B):aM A B:=fun _ _ h=>h.perm p
theorem aM.right{A B:Hp}:aM (A++B) B:=fun _ _ h=>h.right
theorem aM.tail{x:Nat×Obj}{B:Hp}:aM (x::B) B:=fun _ _ h=>h.tail
theorem aM.frame{A B:Hp}(h:aM A B)(F:Hp):aM (A++F) (B++F):=fun _ _ o=>Own.cD.2 (h _ _ (Own.cD.1 o))
theorem aM.mh{A B:Hp}(h:aM A B)(F:Hp):aM (F++A) (F++B):=(aM.perm List.perm_append_comm).trans ((h.frame F).trans (.perm List.perm_append_comm))
inductive br(b:Nat)(o o':Obj):Hp→Hp→Prop
 |head (R:Hp):br b o o' ((b,o)::R) ((b,o')::R)
 |tail {x:Nat×Obj} {R R':Hp} (h:br b o o' R R'):br b o o' (x::R) (x::R')
theorem br.mem{b:Nat}{o o':Obj}{H H':Hp}(h:br b o o' H H'):(b,o)∈H:=by
 induction h with
 |head R=>simp
 |tail _ ih=>simp[ih]
theorem br.keys{b:Nat}{o o':Obj}{H H':Hp}(h:br b o o' H H'):H'.map Prod.fst=H.map Prod.fst:=by
 induction h with
 |head R=>simp
 |tail _ ih=>simp[ih]
theorem br.pC{b:Nat}{o o':Obj}{H H':Hp}(h:br b o o' H H')(nd:(H.map Prod.fst).Nodup):∀x∈H',x=(b,o')∨(x∈H∧x.1≠b):=by
 induction h with
 |head R=>
  intro x hx
  rcases List.mem_cons.1 hx with rfl|hx
  ·exact .inl rfl
  ·refine .inr ⟨by simp[hx],fun e=>?_⟩
   simp only[List.map_cons,List.nodup_cons]at nd
   exact nd.1 (e▸List.mem_map_of_mem hx)
 | @tail y R R' h ih=>
  intro x hx
  simp only[List.map_cons,List.nodup_cons]at nd
  rcases List.mem_cons.1 hx with rfl|hx
  ·refine .inr ⟨by simp,fun e=>?_⟩
   exact nd.1 (e▸List.mem_map_of_mem (f:=Prod.fst) h.mem)
  ·rcases ih nd.2 x hx with h1|h1
   ·exact .inl h1
   ·exact .inr ⟨by simp[h1.1],h1.2⟩
theorem br.append{b:Nat}{o o':Obj}{C C':Hp}(h:br b o o' C C')(B:Hp):br b o o' (C++B) (C'++B):=by
 induction h with
 |head R=>exact .head _
 |tail _ ih=>exact .tail ih
theorem Own.bF{g:Gh}{H H':Hp}{w w':World}{b:Nat}{o o':Obj}(h:Own g H w)(u:br b o o' H H')
 (hos:w'.os=w.os)(hout:w'.output=w.output)(rm:w'.tape=w.tape)
 (hb:w'.heap[b]? =some o')(hr:∀c,c≠b→w'.heap[c]? =w.heap[c]?):Own g H' w':=
 ⟨hos.trans h.os,hout.trans h.out,rm.trans h.tape,by rw[(u.append g.fr).keys];exact h.nd,fun x hx=>by
  rcases(u.append g.fr).pC h.nd x hx with rfl|⟨h1,h2⟩
  ·exact hb
  ·rw[hr _ h2];exact h.lC x h1⟩
theorem Own.same{g:Gh}{H:Hp}{w w':World}(h:Own g H w)(hos:w'.os=w.os)(hout:w'.output=w.output)(rm:w'.tape=w.tape)
 (hr:∀(c:Nat) (o:Obj),w.heap[c]? =some o→w'.heap[c]? =some o):Own g H w':=
 ⟨hos.trans h.os,hout.trans h.out,rm.trans h.tape,h.nd,fun x hx=>hr _ _ (h.lC x hx)⟩
theorem Own.drew{g:Gh}{H:Hp}{w:World}(h:Own g H w):Own g H w.drew:=h.same rfl rfl rfl fun _ _ h=>h
theorem Own.mR{g:Gh}{H:Hp}{w:World}(h:Own g H w):Own g H {w with drawn:=w.drawn+1}:=h.drew
theorem Own.Aj{g:Gh}{H:Hp}{w:World}(h:Own g H w){x:Nat×Obj}(hx:x∈H++g.fr):x.1<w.heap.size:=by
 have:=h.lC x hx
 exact(Array.getElem?_eq_some_iff.1 this).1
theorem Own.lt{g:Gh}{H:Hp}{w:World}(h:Own g H w){x:Nat×Obj}(hx:x∈H):x.1<w.heap.size:=h.Aj (List.mem_append_left _ hx)
theorem Own.rM{g:Gh}{H:Hp}{w:World}(h:Own g H w):w.heap.size∉(H++g.fr).map Prod.fst:=by
 intro hm
 obtain⟨x,hx,e⟩:=List.mem_map.1 hm
 have:=h.Aj hx
 omega
theorem Own.fresh{g:Gh}{H:Hp}{w:World}(h:Own g H w):w.heap.size∉H.map Prod.fst:=fun hm=>h.rM (by rw[List.map_append];exact List.mem_append_left _ hm)
theorem Own.alloc{g:Gh}{H:Hp}{w:World}(h:Own g H w)(o:Obj):Own g ((w.heap.size,o)::H) (w.alloc o):=by
 refine⟨h.os,h.out,h.tape,?_,?_⟩
 ·rw[List.cons_append,List.map_cons,List.nodup_cons];exact⟨h.rM,h.nd⟩
 ·intro x hx
  rw[List.cons_append]at hx
  rcases List.mem_cons.1 hx with rfl|hx
  ·show(w.heap.push o)[w.heap.size]? =some o
   rw[Array.getElem?_push,if_pos rfl]
  ·have:=h.lC x hx
   have hl:=h.Aj hx
   show(w.heap.push o)[x.1]? =some x.2
   rw[Array.getElem?_push,if_neg (by omega)]
   exact this
theorem Own.cell{g:Gh}{H:Hp}{w:World}(h:Own g H w){b:Nat}{c:Array Value}{T:TypeId}{fz:Nat×Nat}(hm:(b,Obj.cells c T fz)∈H)(off:Nat):
  w.cell? ⟨b,off,none⟩=c[off]? :=by
 have:=h.has _ hm
 simp only[World.cell?]
 simp only at this
 rw[this]
 rfl
theorem Own.frozen{g:Gh}{H:Hp}{w:World}(h:Own g H w){b:Nat}{c:Array Value}{T:TypeId}(hm:(b,Obj.cells c T (0,0))∈H)(off:Nat)(sp:Option Nat):
  w.frozen? ⟨b,off,sp⟩=false:=by
 have:=h.has _ hm
 simp only at this
 simp[World.frozen?,this]
def ep(c:Array Value)(off:Nat):List Value→Array Value
 | []=>c
 |v::r=>ep (c.setIfInBounds off v) (off+1) r
theorem Own.setCell{g:Gh}{H:Hp}{w:World}(h:Own g H w){b:Nat}{c:Array Value}{T:TypeId}{fz:Nat×Nat}{H':Hp}(off:Nat)(v:Value)
 (u:br b (.cells c T fz) (.cells (c.setIfInBounds off v) T fz) H H'):Own g H' (w.setCell ⟨b,off,none⟩ v):=by
 refine h.bF u rfl rfl rfl ?_ ?_
 ·have:=h.has _ u.mem
  simp only at this
  simp[World.setCell,Array.getElem?_modify,this]
 ·intro d hd
  simp only[World.setCell]
  rw[Array.getElem?_modify,if_neg (fun e=>hd (Eq.symm e))]
theorem br.re{b:Nat}{o o':Obj}{H H':Hp}(u:br b o o' H H')(o₁:Obj):∃H₁,br b o o₁ H H₁∧br b o₁ o' H₁ H':=by
 induction u with
 |head R=>exact⟨_,.head R,.head R⟩
 |tail _ ih=>obtain⟨H₁,u1,u2⟩:=ih;exact⟨_,.tail u1,.tail u2⟩
theorem cg{P:Program}{g:Gh}{b:Nat}{T:TypeId}(off:Nat):∀(l:List Value) (i:Nat) (c:Array Value) (H H':Hp) (w:World),Own g H w→
  br b (.cells c T (0,0)) (.cells (ep c (off+i) l) T (0,0)) H H'→(∀v∈l,v.oneCell'=true)→off+i+l.length≤c.size→
  ∃w',(storeCells ⟨b,off,none⟩ l i).run P w=.ok () w'∧Own g H' w'
 | [],i,c,H,H',w,h,u,_,_=>by
  refine⟨w,rfl,?_⟩
  exact h.bF u rfl rfl rfl (h.has _ u.mem) fun _ _=>rfl
 |v::r,i,c,H,H',w,h,u,h1,hs=>by
  obtain⟨H₁,u1,u2⟩:=u.re (.cells (c.setIfInBounds (off+i) v) T (0,0))
  have lp:=h.setCell (off+i) v u1
  simp only[List.length_cons]at hs
  obtain⟨w',hr,ho⟩:=cg (P:=P) off r (i+1) (c.setIfInBounds (off+i) v) H₁ H' _ lp (by simpa[ep,Nat.add_assoc]using u2) (fun x hx=>h1 x (by simp[hx])) (by simp;omega)
  refine⟨w',?_,ho⟩
  have hc:w.cell? ⟨b,off+i,none⟩=some c[off+i]:=by
   rw[h.cell u.mem,Array.getElem?_eq_getElem]
  have hf:=h.frozen u.mem (off+i) none
  have ha:Addr.add ⟨b,off,none⟩ i=⟨b,off+i,none⟩:=Addr.add_lit _ _ _
  simp only[storeCells,Sem.run_bind,ha,run_store P w _ v .plain (h1 v (by simp)),hc,hf,Bool.false_eq_true,if_false,Result.andThen_ok,hr]
theorem dB{P:Program}{g:Gh}{H:Hp}{w:World}(h:Own g H w){b:Nat}{c:Array Value}{T:TypeId}{fz:Nat×Nat}(hm:(b,Obj.cells c T fz)∈H)
 (off n:Nat)(hs:off+n≤c.size):(loadCells ⟨b,off,none⟩ n).run P w=.ok (c.extract off (off+n)) w:=by
 have hl:((c.extract off (off+n)).toList).length=n:=by simp;omega
 have:=run_loadCells_list (P:=P) w ⟨b,off,none⟩ (c.extract off (off+n)).toList (fun j v hj=>by
  rw[Addr.add_lit,h.cell hm]
  have AL:j<n:=by
   have:=(List.getElem?_eq_some_iff.1 hj).1
   omega
  rw[Array.getElem?_toList,Array.getElem?_extract]at hj
  rw[if_pos (by omega)]at hj
  exact hj)
 rw[hl]at this
 exact this
end Go.Sx
namespace Go.Sx
open Go
abbrev Fr:=Nat→Value
def bF(fr:Fr)(d:Option Nat)(v:Value):Fr:=
 match d with
 |none=>fr
 |some d=>fun s=>cond (Nat.beq s d) v (fr s)
def ev(fr:Fr):Operand→Value
 | .tmp t=>fr t
 | .const v=>v
 | .global g=>.pointer (some ⟨g,0,none⟩)
 | .func f=>.func (.func f) #[] #[]
def cu(n:Nat):Option Nat→Bool
 |none=>true
 |some d=>Nat.blt d n
structure bc(ds:List Deferred)(n:Nat)(a:Act)(fr:Fr):Prop where
 defers:a.defers=ds
 size:a.tmps.size=n
 get:∀s,a.tmps.getD s undef=fr s
theorem bc.eval{ds:List Deferred}{n:Nat}{a:Act}{fr:Fr}(h:bc ds n a fr):a.eval=ev fr:=by
 funext x
 cases x<;>simp only[Act.eval,ev]
 exact h.get _
theorem bc.put{ds:List Deferred}{n:Nat}{a:Act}{fr:Fr}(h:bc ds n a fr){d:Option Nat}(hd:cu n d=true)(v:Value):bc ds n (a.put d v) (bF fr d v):=by
 cases d with
 |none=>exact h
 |some d=>
  have hlt:d<n:=by simpa[cu,Nat.blt_eq]using hd
  refine⟨h.defers,by simp[Act.put,h.size],fun s=>?_⟩
  simp only[Act.put,bF]
  have hs:=h.size
  by_cases e:s=d
  ·subst e;simp[hs,hlt]
  ·have e':d≠s:=fun x=>e x.symm
   have hb:Nat.beq s d=false:=by
    cases hh:Nat.beq s d
    ·rfl
    ·exact absurd (Nat.eq_of_beq_eq_true hh) e
   rw[hb]
   simp only[cond_false]
   have:=h.get s
   simpa[Array.getD_eq_getD_getElem?,Array.getElem?_setIfInBounds_ne e']using this
def aj(P:Program)(g:Gh)(f:FuncId)(args:Array Value)(H:Hp)(R:Ending→Hp→Prop):Prop:=
 ∀w,Own g H w→Calls P f args w fun e w'=>∃H',Own g H' w'∧R e H'
theorem aj.mono{P:Program}{g:Gh}{f:FuncId}{args:Array Value}{H:Hp}{R R':Ending→Hp→Prop}(h:aj P g f args H R)(hr:∀e H',R e H'→R' e H'):
  aj P g f args H R':=fun w hw=>(h w hw).mono fun e w' ⟨H',o,r⟩=>⟨H',o,hr _ _ r⟩
theorem aj.pre{P:Program}{g:Gh}{f:FuncId}{args:Array Value}{H H':Hp}{R:Ending→Hp→Prop}(h:aj P g f args H' R)(he:aM H H'):
  aj P g f args H R:=fun w hw=>h w (he _ _ hw)
theorem aj.post{P:Program}{g:Gh}{f:FuncId}{args:Array Value}{H:Hp}{R R':Ending→Hp→Prop}(h:aj P g f args H R)
 (hr:∀e H',R e H'→∃gu,aM H' gu∧R' e gu):aj P g f args H R':=fun w hw=>(h w hw).mono fun e w' ⟨H',o,r⟩=>
 let ⟨gu,en,r'⟩:=hr _ _ r;⟨gu,en _ _ o,r'⟩
def yB(K:Value→Hp→Prop)(KP:List PanicEntry→Hp→Prop):Ending→Hp→Prop
 | .returned v,H=>K v H
 | .panicked ch,H=>KP ch H
 | .outgrown,_=>False
def m4(P:Program)(g:Gh)(K:Value→Hp→Prop)(KP:List PanicEntry→Hp→Prop):Result Next→Prop
 | .ok (.value v) w=>∃H,Own g H w∧K v H
 | .ok .skip w=>∃H,Own g H w∧K undef H
 | .ok (.enter f args) w=>Calls P f args w fun e w'=>∃H,Own g H w'∧yB K KP e H
 | .halt (.panic v) w=>∃H,Own g H w∧KP [{v,recovered:=false}] H
 |_=>False
def gm(P:Program)(g:Gh)(o:Oper)(ρ:Operand→Value)(H:Hp)(K:Value→Hp→Prop)(KP:List PanicEntry→Hp→Prop):Prop:=
 ∀w,Own g H w→m4 P g K KP ((execOp ρ o).run P w)
def dx(H:Hp)(o:Obj)(k:Nat→Hp→Prop):Prop:=∀b,b∉H.map Prod.fst→k b ((b,o)::H)
def aA(c a b:Value)(k:Value→Prop):Prop:=∃t,c=.bool t∧k (cond t a b)
def Ld(H:Hp)(p:Value)(k:Value→Prop):Prop:=
 ∃b off c T fz v,p=.pointer (some ⟨b,off,none⟩)∧(b,Obj.cells c T fz)∈H∧c[off]? =some v∧k v
def aO(n:Nat)(H:Hp)(p:Value)(k:Value→Prop):Prop:=
 ∃b off c T fz,p=.pointer (some ⟨b,off,none⟩)∧(b,Obj.cells c T fz)∈H∧off+n≤c.size∧k (.agg (c.extract off (off+n)))
def St(n:Nat)(H:Hp)(p x:Value)(k:Hp→Prop):Prop:=
 ∃b off c T H',p=.pointer (some ⟨b,off,none⟩)∧x.cells.size=n∧off+n≤c.size∧(∀v∈x.cells.toList,v.oneCell'=true)∧
  br b (.cells c T (0,0)) (.cells (ep c off x.cells.toList) T (0,0)) H H'∧k H'
inductive BK|num|bool|ptr|slice|map|func|str|other
def lJ:TypeDesc→BK
 | .bool=>.bool
 | .int _=>.num
 | .pointer _=>.ptr
 | .slice _=>.slice
 | .map _ _=>.map
 | .func _ _ _=>.func
 | .string=>.str
 |_=>.other
def eR(op:BinOp)(k:IntKind)(a b:Int):Option Value:=
 match op with
 | .add=>some (.int k (k.wrap (a+b)))
 | .sub=>some (.int k (k.wrap (a-b)))
 | .mul=>some (.int k (k.wrap (a*b)))
 | .quo=>if b=0 then none else some (.int k (k.wrap (a.tdiv b)))
 | .rem=>if b=0 then none else some (.int k (a.tmod b))
 | .and=>some (.int k (bits .and k a b))
 | .or=>some (.int k (bits .or k a b))
 | .xor=>some (.int k (bits .xor k a b))
 | .andNot=>some (.int k (bits .andNot k a b))
 | .eql=>some (.bool (a==b))
 | .neq=>some (.bool (a !=b))
 | .lss=>some (.bool (decide (a<b)))
 | .leq=>some (.bool (decide (a≤b)))
 | .gtr=>some (.bool (decide (b<a)))
 | .geq=>some (.bool (decide (b≤a)))
 |_=>none
def cT(kd:BK)(op:BinOp)(x y:Value):Option Value:=
 match x with
 | .int k a=>
  match y with
  | .int k' b=>
   match op with
   | .shl=>if b<0 then none else some (.int k (k.wrap (a*2^(min b.toNat k.bits))))
   | .shr=>if b<0 then none else some (.int k (a.fdiv (2^(min b.toNat k.bits))))
   |op=>if k=k' then eR op k a b else none
  |_=>none
 | .bool a=>
  match kd,op,y with
  | .bool,.eql,.bool b=>some (.bool (a==b))
  | .bool,.neq,.bool b=>some (.bool (!(a==b)))
  |_,_,_=>none
 | .string a=>
  match op,y with
  | .eql,.string b=>some (.bool (a.toList==b.toList))
  | .neq,.string b=>some (.bool (!(a.toList==b.toList)))
  |_,_=>none
 | .pointer a=>
  match kd,op,y with
  | .ptr,.eql,.pointer b=>if a.isNone∨b.isNone then some (.bool (a.isNone&&b.isNone))else none
  | .ptr,.neq,.pointer b=>if a.isNone∨b.isNone then some (.bool (!(a.isNone&&b.isNone)))else none
  |_,_,_=>none
 | .slice a n c=>
  match kd,op,y with
  | .slice,.eql,.slice b _ _=>if a.isNone∨b.isNone then some (.bool (a.isNone&&b.isNone))else none
  | .slice,.neq,.slice b _ _=>if a.isNone∨b.isNone then some (.bool (!(a.isNone&&b.isNone)))else none
  |_,_,_=>none
 | .map a=>
  match kd,op,y with
  | .map,.eql,.map b=>if a.isNone∨b.isNone then some (.bool (a.isNone&&b.isNone))else none
  | .map,.neq,.map b=>if a.isNone∨b.isNone then some (.bool (!(a.isNone&&b.isNone)))else none
  |_,_,_=>none
 |_=>none
def aa(kd:BK)(op:BinOp)(x y:Value)(k:Value→Prop):Prop:=∃v,cT kd op x y=some v∧k v
def z8(op:UnOp)(x:Value):Option Value:=
 match op,x with
 | .neg,.int k n=>some (.int k (k.wrap (0-n)))
 | .not,.bool b=>some (.bool !b)
 | .xor,.int k n=>some (.int k (bits .xor k (if k.signed then-1 else k.max) n))
 |_,_=>none
def Un(op:UnOp)(x:Value)(k:Value→Prop):Prop:=∃v,z8 op x=some v∧k v
def bg(kd:IntKind)(x:Value)(k:Value→Prop):Prop:=∃j n,x=.int j n∧k (.int kd (kd.wrap n))
def ae(off:Nat)(x:Value)(k:Value→Prop):Prop:=∃b o,x=.pointer (some ⟨b,o,none⟩)∧k (.pointer (some ⟨b,o+off,none⟩))
def sD(off:Nat)(x:Value)(k:Value→Prop):Prop:=∃cs v,x=.agg cs∧cs[off]? =some v∧k v
def tG(off n:Nat)(x:Value)(k:Value→Prop):Prop:=∃cs,x=.agg cs∧k (.agg (cs.extract off (off+n)))
def ak(size:Nat)(x ix:Value)(k:Value→Prop):Prop:=
 ∃b o n c kd i,x=.slice (some ⟨b,o,none⟩) n c∧ix=.int kd i∧0≤i∧i<(n:Int)∧k (.pointer (some ⟨b,o+i.toNat*size,none⟩))
def m9(len size:Nat)(x ix:Value)(k:Value→Prop):Prop:=
 ∃b o kd i,x=.pointer (some ⟨b,o,none⟩)∧ix=.int kd i∧0≤i∧i<(len:Int)∧k (.pointer (some ⟨b,o+i.toNat*size,none⟩))
def sV:Option Value→Option Int
 |none=>some 0
 |some (.int _ n)=>some n
 |_=>none
def pM(len:Nat):Option Value→Option Int
 |none=>some len
 |some (.int _ n)=>some n
 |_=>none
def e5(size:Nat)(x:Value)(lo hi:Option Value)(k:Value→Prop):Prop:=
 ∃a n c l h,x=.slice a n c∧sV lo=some l∧pM n hi=some h∧0≤l∧l≤h∧h≤(c:Int)∧
  k (.slice (if c=l.toNat then a else a.map (·.add (l.toNat*size))) (h.toNat-l.toNat) (c-l.toNat))
def Ext(i:Nat)(x:Value)(k:Value→Prop):Prop:=∃vs v,x=.tuple vs∧vs[i]? =some v∧k v
def aB(x:Value)(k:Value→Prop):Prop:=∃a n c,x=.slice a n c∧k (.int .i64 n)
def p7(H:Hp)(x:Value)(k:Value→Prop):Prop:=
 ∃m,x=.map m∧((m=none∧k (.int .i64 0))∨∃b es clock,m=some b∧(b,Obj.map es clock)∈H∧k (.int .i64 es.size))
def Cells(H:Hp)(base:Option Addr)(n:Nat)(cs:Array Value):Prop:=
 match base with
 |none=>cs=#[]
 |some a=>(n=0∧cs=#[])∨(a.spot=none∧∃c T fz,(a.block,Obj.cells c T fz)∈H∧a.off+n≤c.size∧cs=c.extract a.off (a.off+n))
def App(P:Program)(elem size bytes:Nat)(zero:Value)(H:Hp)(s x:Value)(k:Value→Hp→Prop):Prop:=
 ∃base n cap xb m xc olds news,s=.slice base n cap∧x=.slice xb m xc∧Cells H base (n*size) olds∧Cells H xb (m*size) news∧
  news.size=m*size∧olds.size=n*size∧(∀v∈news.toList,v.oneCell'=true)∧
  (n+m≤cap→match base with
   |none=>k (.slice none (n+m) cap) H
   |some a=>∃c T H',a.spot=none∧a.off+n*size+m*size≤c.size∧br a.block (.cells c T (0,0)) (.cells (ep c (a.off+n*size) news.toList) T (0,0)) H H'∧k (.slice (some a) (n+m) cap) H')∧
  (cap<n+m→(n+m)*bytes≤140737488355328∧(n+m:Nat)≤9223372036854775807∧∀cj,n+m≤cj→
   dx H (.cells (olds++news++Builtin.zeroCells zero.cells (cj-(n+m))) elem (0,0)) fun b H'=>∃gu,aM H' gu∧k (.slice (some ⟨b,0,none⟩) (n+m) cj) gu)
def c8(elem size bytes:Nat)(zero:Value)(H:Hp)(l c:Value)(k:Value→Hp→Prop):Prop:=
 ∃kl kc ln cn,l=.int kl (ln:Nat)∧c=.int kc (cn:Nat)∧ln≤cn∧(cn:Int)≤9223372036854775807∧cn*bytes≤281474976710656∧
  dx H (.cells (madeCells zero.cells (cn*size)) elem (0,0)) fun b H'=>k (.slice (some ⟨b,0,none⟩) ln cn) H'
def jW(H:Hp)(k:Value→Hp→Prop):Prop:=dx H (.map #[] 0) fun b H'=>k (.map (some b)) H'
def o3(H:Hp)(m:Value)(es:Array MapEntry):Prop:=(m=.map none∧es=#[])∨∃b clock,m=.map (some b)∧(b,Obj.map es clock)∈H
def e9(kd:TypeDesc)(zero:Value)(ok:Bool)(H:Hp)(m key:Value)(k:Value→Prop):Prop:=
 ∃es r,o3 H m es∧Instr.findNow kd key es.toList 0=some r∧
  k (match r with
   |some (_,v)=>cond ok (.tuple #[v,.bool true]) v
   |none=>cond ok (.tuple #[zero,.bool false]) zero)
def cM(kd:TypeDesc)(H:Hp)(m key val:Value)(k:Hp→Prop):Prop:=
 ∃b es clock r,m=.map (some b)∧Instr.findNow kd key es.toList 0=some r∧
  match r with
  |some (i,_)=>(∀e,es[i]? =some e→Instr.sameBits 10000 e.key key=true)∧i<es.size∧∃H',br b (.map es clock) (.map (es.modify i fun e=>{e with key,val}) clock) H H'∧k H'
  |none=>∃H',br b (.map es clock) (.map (es.push {key,val,born:=clock}) (clock+1)) H H'∧k H'
def jX(kd:TypeDesc)(H:Hp)(m key:Value)(k:Hp→Prop):Prop:=
 (m=.map none∧k H)∨∃b es clock r,m=.map (some b)∧Instr.findNow kd key es.toList 0=some r∧
  match r with
  |some (i,_)=>∃H',br b (.map es clock) (.map (es.eraseIdxIfInBounds i) clock) H H'∧k H'
  |none=>(b,Obj.map es clock)∈H∧k H
def bX(P:Program)(f:FuncId):Bool:=
 match P.funcs[f]? with
 |none=>false
 |some fn=> !(fn.name== "runtime.NumGoroutine") &&fn.body.isSome
def ai(P:Program)(g:Gh)(f:FuncId)(args:Array Value)(H:Hp)(K:Value→Hp→Prop)(KP:List PanicEntry→Hp→Prop):Prop:=
 aj P g f args H (yB K KP)
def iR(P:Program)(g:Gh)(fv:Value)(args:Array Value)(H:Hp)(K:Value→Hp→Prop)(KP:List PanicEntry→Hp→Prop):Prop:=
 ∃f first captured,fv=.func (.func f) first captured∧bX P f=true∧ai P g f (first++args++captured) H K KP
def tI(P:Program)(kt:TypeId)(x y:Value)(b:Bool):Prop:=∀w,(Op.equal kt x y).run P w=.ok b w
def kx(P:Program)(kt:TypeId)(x:Value):Prop:=∀e w,(Instr.checkKey e 10000 kt x).run P w=.ok () w
def eC(P:Program)(kt:TypeId)(key:Value):List MapEntry→Nat→Option (Nat×Value)→Prop
 | [],_,r=>r=none
 |e::es,i,r=>∃b,tI P kt key e.key b∧(b=true→r=some (i,e.val))∧(b=false→eC P kt key es (i+1) r)
def gQ(P:Program)(kt:TypeId)(zero:Value)(ok:Bool)(H:Hp)(m key:Value)(k:Value→Prop):Prop:=
 ∃es r,o3 H m es∧kx P kt key∧eC P kt key es.toList 0 r∧
  k (match r with
   |some (_,v)=>cond ok (.tuple #[v,.bool true]) v
   |none=>cond ok (.tuple #[zero,.bool false]) zero)
def fo(P:Program)(kt:TypeId)(H:Hp)(m key val:Value)(k:Hp→Prop):Prop:=
 ∃b es clock r,m=.map (some b)∧kx P kt key∧eC P kt key es.toList 0 r∧
  match r with
  |some (i,_)=>(∀e,es[i]? =some e→Instr.sameBits 10000 e.key key=true)∧i<es.size∧∃H',br b (.map es clock) (.map (es.modify i fun e=>{e with key,val}) clock) H H'∧k H'
  |none=>∃H',br b (.map es clock) (.map (es.push {key,val,born:=clock}) (clock+1)) H H'∧k H'
def lO(P:Program)(kt:TypeId)(H:Hp)(m key:Value)(k:Hp→Prop):Prop:=
 kx P kt key∧((m=.map none∧k H)∨∃b es clock r,m=.map (some b)∧eC P kt key es.toList 0 r∧
  match r with
  |some (i,_)=>∃H',br b (.map es clock) (.map (es.eraseIdxIfInBounds i) clock) H H'∧k H'
  |none=>(b,Obj.map es clock)∈H∧k H)
def zq(H:Hp)(x:Value)(k:Value→Hp→Prop):Prop:=
 (x=.map none∧dx H (.mapIter none 0 #[] 0) fun b H'=>k (.pointer (some ⟨b,0,none⟩)) H')∨
 ∃m es clock,x=.map (some m)∧(m,Obj.map es clock)∈H∧dx H (.mapIter (some m) clock #[] clock) fun b H'=>k (.pointer (some ⟨b,0,none⟩)) H'
def yx(H:Hp)(it:Value)(k:Value→Hp→Prop):Prop:=
 ∃b mo since seen last,it=.pointer (some ⟨b,0,none⟩)∧(b,Obj.mapIter mo since seen last)∈H∧
  match mo with
  |none=>k (.tuple #[.bool false]) H
  |some m=>∃es clock,(m,Obj.map es clock)∈H∧(∀e∈es.toList,e.born<since∧e.born<last)∧
   (∀e∈es.toList,e.born∉seen→∃H',br b (.mapIter (some m) since seen last) (.mapIter (some m) since (seen.push e.born) clock) H H'∧k (.tuple #[.bool true,e.key,e.val]) H')∧
   ((∀e∈es.toList,e.born∈seen)→k (.tuple #[.bool false]) H)
def tJ(H:Hp)(it:Value)(k:Value→Prop):Prop:=
 ∃b m since seen stamp clock es e,it=.pointer (some ⟨b,0,none⟩)∧(b,Obj.mapIter (some m) since seen clock)∈H∧seen.back?=some stamp∧(m,Obj.map es clock)∈H∧es.find? (·.born==stamp)=some e∧k (.tuple #[e.key,e.val])
def yz(x y:Value)(k:Value→Prop):Prop:=∃kd a b,x=.int kd a∧y=.int kd b∧k (.int kd (if b>a then b else a))
def By(x y:Value)(k:Value→Prop):Prop:=∃kd a b,x=.int kd a∧y=.int kd b∧k (.int kd (if b<a then b else a))
def dO(H:Hp)(x:Value)(k:Value→Prop):Prop:=
 ∃base n c,∃bs:List UInt8,x=.slice base n c∧Cells H base n ((bs.map fun b=>Value.int .u8 b.toNat).toArray)∧bs.length=n∧k (.string ⟨bs.toArray⟩)
def uv(x i:Value)(k:Value→Prop):Prop:=∃s kd j b,x=.string s∧i=.int kd j∧0≤j∧s[j.toNat]? =some b∧k (.int .u8 b.toNat)
def vA(x:Value)(k:Value→Prop):Prop:=∃s,x=.string s∧k (.int .i64 s.size)
def plainKey:TypeDesc→Bool
 | .int _| .string| .bool=>true
 |_=>false
def aV:TypeDesc→Bool
 | .struct _| .array _ _=>true
 |_=>false
end Go.Sx
namespace Go.Sx
open Go
section
variable {P:Program} {g:Gh} {H:Hp} {K:Value→Hp→Prop} {KP:List PanicEntry→Hp→Prop}
theorem bV{t:TypeId}{i:TypeInfo}{z:Value}(hi:P.info? t=some i)(hz:i.zero=some z)(w:World):(zeroValue t).run P w=.ok z w:=by
 simp[zeroValue,typeInfo,hi,hz]
theorem fg{t:TypeId}{d:TypeDesc}(hd:P.underlying t=some d)(w:World):(isAgg t).run P w=.ok (aV d) w:=by
 simp only[isAgg,Sem.run_bind,run_underlying hd,Result.andThen_ok]
 cases d<;>rfl
theorem run_sizeOf{t:TypeId}{i:TypeInfo}(hi:P.info? t=some i)(w:World):(sizeOf t).run P w=.ok i.size w:=by
 simp[sizeOf,typeInfo,hi]
theorem Ld.run{p:Value}{k:Value→Prop}(h:Ld H p k){w:World}(hw:Own g H w){t:TypeId}{d:TypeDesc}(hd:P.underlying t=some d)(ha:aV d=false):
  ∃v,(Instr.loadAt t p).run P w=.ok v w∧k v:=by
 obtain⟨b,off,c,T,fz,v,rfl,hm,hc,hk⟩:=h
 refine⟨v,?_,hk⟩
 have:=hw.cell hm off
 rw[hc]at this
 simp only[Instr.loadAt,Instr.sureAddr,loadVar,Sem.run_bind,Sem.run_pure,Result.andThen_ok,fg hd,ha,Sem.run_ite,Bool.false_eq_true,if_false,run_load,this]
theorem aO.run{n:Nat}{p:Value}{k:Value→Prop}(h:aO n H p k){w:World}(hw:Own g H w){t:TypeId}{d:TypeDesc}(hd:P.underlying t=some d)(ha:aV d=true)
 {i:TypeInfo}(hi:P.info? t=some i)(hn:i.size=n):
  ∃v,(Instr.loadAt t p).run P w=.ok v w∧k v:=by
 obtain⟨b,off,c,T,fz,rfl,hm,hs,hk⟩:=h
 refine⟨_,?_,hk⟩
 simp only[Instr.loadAt,Instr.sureAddr,loadVar,Sem.run_bind,Sem.run_pure,Result.andThen_ok,fg hd,ha,Sem.run_ite,if_true,run_sizeOf hi,hn,dB hw hm off n hs]
theorem St.run{n:Nat}{p x:Value}{k:Hp→Prop}(h:St n H p x k){w:World}(hw:Own g H w){t:TypeId}{i:TypeInfo}(hi:P.info? t=some i)(hn:i.size=n):
  ∃w' H',(Instr.storeAt t p x).run P w=.ok () w'∧Own g H' w'∧k H':=by
 obtain⟨b,off,c,T,H',rfl,hx,hs,hv,hu,hk⟩:=h
 obtain⟨w',hr,ho⟩:=cg (P:=P) off x.cells.toList 0 c H H' w hw (by simpa using hu) hv (by simp;omega)
 refine⟨w',H',?_,ho,hk⟩
 simp only[Instr.storeAt,Instr.sureAddr,storeVar,Sem.run_bind,Sem.run_pure,Result.andThen_ok,run_sizeOf hi,hn,hx,ne_eq,not_true,if_false,hr]
theorem ri{op:BinOp}{k:IntKind}{a b:Int}{v:Value}{t:TypeId}(h:eR op k a b=some v)(w:World)(hs:op≠.shl∧op≠.shr):
  (binOp op t (.int k a) (.int k b)).run P w=.ok v w:=by
 cases op<;>simp[eR]at h hs<;>try subst h
 case quo=> 
  obtain⟨h0,rfl⟩:=h
  simp[binOp,Op.intDiv,h0]
 case rem=>
  obtain⟨h0,rfl⟩:=h
  simp[binOp,Op.intDiv,h0]
 all_goals first
  |simp[binOp,Op.intArith];done
  |simp[binOp,Op.intCmp];done
  |(simp only[binOp_and,binOp_or,binOp_xor,binOp_andNot,intBits_and,intBits_or,intBits_xor,intBits_andNot];rfl)
theorem cZ{t:TypeId}{x y:Value}{r:Result Bool}{w:World}(h:∀d,(Op.equalIn (d+1) t x y).run P w=r):(Op.equal t x y).run P w=r:=h 9999
theorem run_eql_bool{t:TypeId}(hd:P.underlying t=some .bool)(a b:Bool)(w:World):(Op.equal t (.bool a) (.bool b)).run P w=.ok (a==b) w:=
 cZ fun d=>by simp[Op.equalIn,run_underlying hd]
theorem l8{t e:TypeId}(hd:P.underlying t=some (.pointer e))(a b:Option Addr)(hab:a.isNone∨b.isNone)(w:World):(Op.equal t (.pointer a) (.pointer b)).run P w=.ok (a.isNone&&b.isNone) w:=
 cZ fun d=>by cases a<;>cases b<;>simp at hab<;>simp[Op.equalIn,run_underlying hd]
theorem j7{t e:TypeId}(hd:P.underlying t=some (.slice e))(a b:Option Addr)(n c n' c':Nat)(hab:a.isNone∨b.isNone)(w:World):(Op.equal t (.slice a n c) (.slice b n' c')).run P w=.ok (a.isNone&&b.isNone) w:=
 cZ fun d=>by cases a<;>cases b<;>simp at hab<;>simp[Op.equalIn,run_underlying hd]
theorem l9{t e f:TypeId}(hd:P.underlying t=some (.map e f))(a b:Option Nat)(hab:a.isNone∨b.isNone)(w:World):(Op.equal t (.map a) (.map b)).run P w=.ok (a.isNone&&b.isNone) w:=
 cZ fun d=>by cases a<;>cases b<;>simp at hab<;>simp[Op.equalIn,run_underlying hd]
theorem rV{kd:BK}{op:BinOp}{x y v:Value}{t:TypeId}{d:TypeDesc}(hd:P.underlying t=some d)(hk:lJ d=kd)(h:cT kd op x y=some v)(w:World):
  (binOp op t x y).run P w=.ok v w:=by
 cases x<;>simp only[cT]at h<;>try (simp at h;done)
 case int k a=>
  cases y<;>simp only at h<;>try (simp at h;done)
  rename_i k' b
  by_cases hs:op=.shl
  ·subst hs
   simp only at h
   split at h
   ·simp at h
   ·simp only[Option.some.injEq]at h;subst h;rename_i hb;simp[binOp,Op.shift,hb]
  by_cases hs':op=.shr
  ·subst hs'
   simp only at h
   split at h
   ·simp at h
   ·simp only[Option.some.injEq]at h;subst h;rename_i hb;simp[binOp,Op.shift,hb]
  have h2:(if k=k' then eR op k a b else none)=some v:=by
   cases op<;>first|exact h|exact absurd rfl hs|exact absurd rfl hs'
  split at h2
  ·rename_i e;subst e;exact ri h2 w ⟨hs,hs'⟩
  ·simp at h2
 case bool a=>
  split at h<;>simp only[Option.some.injEq,reduceCtorEq]at h
  all_goals
   subst h
   have:d=.bool:=by cases d<;>simp_all[lJ]
   subst this
   simp[binOp,run_eql_bool hd]
 case string a=>
  split at h<;>simp only[Option.some.injEq,reduceCtorEq]at h
  all_goals
   subst h
   first|rfl|(simp only[binOp,Op.stringOp];rfl)
 case pointer a=>
  split at h<;>try (simp at h;done)
  all_goals
   have:∃e,d=.pointer e:=by cases d<;>simp_all[lJ]
   obtain⟨e,rfl⟩:=this
   split at h<;>simp only[Option.some.injEq,reduceCtorEq]at h
   subst h
   rename_i bb hab
   simp[binOp,l8 hd _ _ hab]
 case slice a n c=>
  split at h<;>try (simp at h;done)
  all_goals
   have:∃e,d=.slice e:=by cases d<;>simp_all[lJ]
   obtain⟨e,rfl⟩:=this
   split at h<;>simp only[Option.some.injEq,reduceCtorEq]at h
   subst h
   rename_i bb _ _ hab
   simp[binOp,j7 hd _ _ _ _ _ _ hab]
 case map a=>
  split at h<;>try (simp at h;done)
  all_goals
   have:∃e f,d=.map e f:=by cases d<;>simp_all[lJ]
   obtain⟨e,f,rfl⟩:=this
   split at h<;>simp only[Option.some.injEq,reduceCtorEq]at h
   subst h
   rename_i bb hab
   simp[binOp,l9 hd _ _ hab]
theorem nO{kd:BK}{op:BinOp}{x y v:Value}{t:TypeId}{ox oy:Operand}(h:cT kd op x y=some v):eqGuard op t ox oy x y=pure ():=by
 cases x<;>simp[cT]at h<;>cases op<;>rfl
theorem aa.run{kd:BK}{op:BinOp}{x y:Value}{k:Value→Prop}(h:aa kd op x y k)(w:World){t:TypeId}{d:TypeDesc}{ox oy:Operand}(hd:P.underlying t=some d)(hk:lJ d=kd):
  ∃v,(do eqGuard op t ox oy x y;binOp op t x y:Sem Value).run P w=.ok v w∧k v:=by
 obtain⟨v,hv,hkv⟩:=h
 refine⟨v,?_,hkv⟩
 rw[Sem.run_bind,nO hv]
 simp only[Sem.run_pure,Result.andThen_ok]
 exact rV hd hk hv w
theorem Un.run{op:UnOp}{x:Value}{k:Value→Prop}(h:Un op x k)(w:World):∃v,(Op.unary op x).run P w=.ok v w∧k v:=by
 obtain⟨v,hv,hk⟩:=h
 refine⟨v,?_,hk⟩
 cases op<;>cases x<;>simp[z8]at hv<;>subst hv
 all_goals first|(simp[Op.unary,Op.intArith];done)|rfl
theorem bg.run{kd:IntKind}{x:Value}{k:Value→Prop}(h:bg kd x k)(w:World){src dst:TypeId}{ds dd:TypeDesc}(hs:P.underlying src=some ds)(hd:P.underlying dst=some dd)(hk:dd=.int kd):
  ∃v,(convert src dst x).run P w=.ok v w∧k v:=by
 obtain⟨j,n,rfl,hkv⟩:=h
 subst hk
 refine⟨_,?_,hkv⟩
 simp only[convert,Sem.run_bind,run_underlying hs,run_underlying hd,Result.andThen_ok]
 cases ds<;>rfl
theorem ae.run{off:Nat}{x:Value}{k:Value→Prop}(h:ae off x k)(w:World){s:TypeId}{fs:Array Field}{f:Nat}{fl:Field}{i:TypeInfo}(hs:P.underlying s=some (.struct fs))(hf:fs[f]? =some fl)
 (hi:P.info? fl.type=some i)(h0:i.size≠0)(ho:fl.offset=off):∃v,(Instr.fieldAt s x f).run P w=.ok v w∧k v:=by
 obtain⟨b,o,rfl,hk⟩:=h
 refine⟨_,?_,hk⟩
 subst ho
 simp[Instr.fieldAt,run_underlying hs,hf,Instr.sureAddr,fieldPlace,run_sizeOf hi,h0,Addr.add_lit]
theorem sD.run{off:Nat}{x:Value}{k:Value→Prop}(h:sD off x k)(w:World){s:TypeId}{fs:Array Field}{f:Nat}{fl:Field}{d:TypeDesc}(hs:P.underlying s=some (.struct fs))(hf:fs[f]? =some fl)
 (hd:P.underlying fl.type=some d)(ha:aV d=false)(ho:fl.offset=off):∃v,(Instr.field s x f).run P w=.ok v w∧k v:=by
 obtain⟨cs,v,rfl,hc,hk⟩:=h
 refine⟨v,?_,hk⟩
 subst ho
 simp[Instr.field,run_underlying hs,hf,asAgg,part,fg hd,ha,hc]
theorem tG.run{off n:Nat}{x:Value}{k:Value→Prop}(h:tG off n x k)(w:World){s:TypeId}{fs:Array Field}{f:Nat}{fl:Field}{d:TypeDesc}{i:TypeInfo}(hs:P.underlying s=some (.struct fs))(hf:fs[f]? =some fl)
 (hd:P.underlying fl.type=some d)(ha:aV d=true)(hi:P.info? fl.type=some i)(hn:i.size=n)(ho:fl.offset=off):∃v,(Instr.field s x f).run P w=.ok v w∧k v:=by
 obtain⟨cs,rfl,hk⟩:=h
 refine⟨_,?_,hk⟩
 subst ho;subst hn
 simp[Instr.field,run_underlying hs,hf,asAgg,part,fg hd,ha,run_sizeOf hi]
theorem ak.run{size:Nat}{x ix:Value}{k:Value→Prop}(h:ak size x ix k)(w:World){t e:TypeId}{i:TypeInfo}(ht:P.underlying t=some (.slice e))(hi:P.info? e=some i)(hn:i.size=size):
  ∃v,(Instr.indexAt t x ix).run P w=.ok v w∧k v:=by
 obtain⟨b,o,n,c,kd,j,rfl,rfl,h0,h1,hk⟩:=h
 refine⟨_,?_,hk⟩
 subst hn
 simp[Instr.indexAt,run_underlying ht,asIntOf,h0,h1,run_sizeOf hi,Addr.add_lit]
theorem m9.run{len size:Nat}{x ix:Value}{k:Value→Prop}(h:m9 len size x ix k)(w:World){t e:TypeId}{i:TypeInfo}(ht:P.underlying t=some (.array len e))(hi:P.info? e=some i)(hn:i.size=size):
  ∃v,(Instr.indexAt t x ix).run P w=.ok v w∧k v:=by
 obtain⟨b,o,kd,j,rfl,rfl,h0,h1,hk⟩:=h
 refine⟨_,?_,hk⟩
 subst hn
 simp[Instr.indexAt,run_underlying ht,asIntOf,h0,h1,run_sizeOf hi,Addr.add_lit,Instr.sureAddr]
theorem e5.run{size:Nat}{x:Value}{lo hi:Option Value}{k:Value→Prop}(h:e5 size x lo hi k)(w:World){t e:TypeId}{i:TypeInfo}(ht:P.underlying t=some (.slice e))(hi':P.info? e=some i)(hn:i.size=size):
  ∃v,(Instr.sliceAt t x lo hi none).run P w=.ok v w∧k v:=by
 obtain⟨a,n,c,l,hh,rfl,hl,sy,h0,h1,h2,hk⟩:=h
 refine⟨_,?_,hk⟩
 subst hn
 have bl:∀(kk:IntKind) (z:Int) (y:Nat) (cd:BoundsCode),0≤z→z≤y→(Instr.sliceBound (.int kk z) y cd).run P w=.ok z.toNat w:=by
  intro kk z y cd a1 a2
  simp[Instr.sliceBound,asIntOf,a1,a2]
 have fw:∀(m l:Nat),(if m=l then a else a.map (·.add (l*i.size)))=(if m=l then a else a.map fun x=>x.add (l*i.size)):=fun _ _=>rfl
 have e1:l≤((hh.toNat:Nat):Int):=by omega
 cases lo with
 |none=>
  simp only[sV,Option.some.injEq]at hl
  subst hl
  cases hi with
  |none=>
   simp only[pM,Option.some.injEq]at sy
   subst sy
   simp[Instr.sliceAt,run_underlying ht,Instr.slice,Instr.sliceBounds,run_sizeOf hi']
  |some v=>
   cases v<;>simp only[pM,reduceCtorEq,Option.some.injEq]at sy
   subst sy
   simp[Instr.sliceAt,run_underlying ht,Instr.slice,Instr.sliceBounds,run_sizeOf hi',bl _ _ c .sliceAcap (by omega) h2]
 |some vl=>
  cases vl<;>simp only[sV,reduceCtorEq,Option.some.injEq]at hl
  subst hl
  cases hi with
  |none=>
   simp only[pM,Option.some.injEq]at sy
   subst sy
   have:=bl ‹_› _ n .sliceB h0 h1
   simp[Instr.sliceAt,run_underlying ht,Instr.slice,Instr.sliceBounds,run_sizeOf hi',this]
  |some v=>
   cases v<;>simp only[pM,reduceCtorEq,Option.some.injEq]at sy
   subst sy
   rename_i k1 n1 k2 n2
   have b1:=bl k2 n2 c .sliceAcap (by omega) h2
   have b2:=bl k1 n1 n2.toNat .sliceB h0 (by omega)
   simp[Instr.sliceAt,run_underlying ht,Instr.slice,Instr.sliceBounds,run_sizeOf hi',b1,b2]
theorem Ext.run{i:Nat}{x:Value}{k:Value→Prop}(h:Ext i x k)(w:World):∃v,(Instr.extract x i).run P w=.ok v w∧k v:=by
 obtain⟨vs,v,rfl,hv,hk⟩:=h
 exact⟨v,by simp[Instr.extract,hv],hk⟩
theorem aB.run{x:Value}{k:Value→Prop}(h:aB x k)(w:World){t e ty:TypeId}(ht:P.underlying t=some (.slice e)):∃v,(Builtin.len_ #[t] ty #[x]).run P w=.ok v w∧k v:=by
 obtain⟨a,n,c,rfl,hk⟩:=h
 exact⟨_,by simp[Builtin.len_,run_underlying ht,goInt],hk⟩
theorem aF{w:World}(hw:Own g H w){b:Nat}{es:Array MapEntry}{clock:Nat}(hm:(b,Obj.map es clock)∈H):(getObj b).run P w=.ok (.map es clock) w:=by
 have:=hw.has _ hm
 simp only at this
 simp[getObj,Sem.run,this]
theorem p7.run{x:Value}{k:Value→Prop}(h:p7 H x k){w:World}(hw:Own g H w){t e e' ty:TypeId}(ht:P.underlying t=some (.map e e')):∃v,(Builtin.len_ #[t] ty #[x]).run P w=.ok v w∧k v:=by
 obtain⟨m,rfl,⟨rfl,hk⟩|⟨b,es,clock,rfl,hm,hk⟩⟩:=h
 ·exact⟨_,by simp[Builtin.len_,run_underlying ht,goInt],hk⟩
 ·exact⟨_,by simp[Builtin.len_,run_underlying ht,goInt,aF hw hm],hk⟩
end
end Go.Sx
namespace Go.Sx
open Go
section
variable {P:Program} {g:Gh} {H:Hp} {K:Value→Hp→Prop} {KP:List PanicEntry→Hp→Prop}
theorem Cells.run{w:World}(hw:Own g H w){base:Option Addr}{size n cap:Nat}{cs:Array Value}(h:Cells H base (n*size) cs):
  (Builtin.firstCells size n (.slice base n cap)).run P w=.ok cs w:=by
 cases base with
 |none=>simp only[Cells]at h;subst h;simp[Builtin.firstCells]
 |some a=>
  rcases h with⟨hn,rfl⟩|⟨h0,c,T,fz,hm,hs,rfl⟩
  ·simp only[Builtin.firstCells,hn];rfl
  obtain⟨b,o,sp⟩:=a
  simp only at h0 hm hs;subst h0
  simp only[Builtin.firstCells,dB hw hm _ _ hs]
theorem App.run{elem size bytes:Nat}{zero:Value}{s x:Value}{k:Value→Hp→Prop}(h:App P elem size bytes zero H s x k){w:World}(hw:Own g H w){t t' ty:TypeId}{i:TypeInfo}
 (ht:P.underlying t=some (.slice elem))(ht':∃e,P.underlying t'=some (.slice e))(hi:P.info? elem=some i)(hz:i.zero=some zero)(hn:i.size=size)(hb:i.bytes=bytes):
  ∃v w' H',(Builtin.append_ #[t,t'] ty #[s,x]).run P w=.ok v w'∧Own g H' w'∧k v H':=by
 obtain⟨base,n,cap,xb,m,xc,olds,news,rfl,rfl,EN,CX,Gg,Gf,hone,hfit,hgrow⟩:=h
 obtain⟨e',ht'⟩:=ht'
 subst hn;subst hb
 by_cases hc:n+m≤cap
 ·have hk:=hfit hc
  have hnew:=Cells.run (P:=P) (cap:=xc) hw CX
  cases base with
  |none=>
   refine⟨_,w,H,?_,hw,hk⟩
   simp[Builtin.append_,run_underlying ht,run_underlying ht',run_sizeOf hi,Builtin.lenOf,hc,hnew]
  |some a=>
   obtain⟨c,T,H',h0,hs,hu,hk⟩:=hk
   obtain⟨b,o,sp⟩:=a
   simp only at h0 hu hs;subst h0
   obtain⟨w',hr,ho⟩:=cg (P:=P) (o+n*i.size) news.toList 0 c H H' w hw (by simpa using hu) hone (by simp;omega)
   refine⟨_,w',H',?_,ho,hk⟩
   simp[Builtin.append_,run_underlying ht,run_underlying ht',run_sizeOf hi,Builtin.lenOf,hc,hnew,Addr.add_lit,hr]
 ·obtain⟨A0,h63,hk⟩:=hgrow (by omega)
  have lp:=hw.drew
  have hnew:=Cells.run (P:=P) (cap:=xc) lp CX
  have hold:=Cells.run (P:=P) (cap:=cap) lp EN
  have Gk:Builtin.nextslicecap (n+m) cap*i.bytes≤281474976710656:=growslice_fits (by omega) A0
  have Ba:¬(281474976710656<Builtin.nextslicecap (n+m) cap*i.bytes):=by omega
  have A9:¬(9223372036854775807<((n:Int)+(m:Int))):=by omega
  obtain⟨gu,lz,hkk⟩:=hk (grownCap w (n+m) cap elem) (by simp only[grownCap,Question.cut];omega) _ lp.fresh
  refine⟨_,_,_,?_,lz _ _ (lp.alloc _),hkk⟩
  ·simp[Builtin.append_,run_underlying ht,run_underlying ht',sizeOf,typeInfo,zeroValue,hi,hz,Builtin.lenOf,hc,A9,Ba,Question.forced,hnew,hold,newRow,grownCap]
theorem c8.run{elem size bytes:Nat}{zero:Value}{l c:Value}{k:Value→Hp→Prop}(h:c8 elem size bytes zero H l c k){w:World}(hw:Own g H w){t:TypeId}{i:TypeInfo}
 (ht:P.underlying t=some (.slice elem))(hi:P.info? elem=some i)(hz:i.zero=some zero)(hn:i.size=size)(hb:i.bytes=bytes):
  ∃v w' H',(Instr.makeSlice t l c).run P w=.ok v w'∧Own g H' w'∧k v H':=by
 obtain⟨kl,kc,ln,cn,rfl,rfl,hlc,bR,hby,hk⟩:=h
 subst hn;subst hb
 refine⟨_,_,_,?_,hw.alloc _,hk _ hw.fresh⟩
 have e1:IntKind.i64.wrap (ln:Int)=ln:=IntWalk.i64_in _ (by omega)
 have e2:IntKind.i64.wrap (cn:Int)=cn:=IntWalk.i64_in _ (by omega)
 have e3:¬((i.bytes:Int)*(cn:Int)>281474976710656):=by
  have:((cn*i.bytes:Nat):Int)≤281474976710656:=by omega
  rw[Int.mul_comm];push_cast at this;omega
 have e4:¬((cn:Int)<ln):=by omega
 by_cases h0:cn*i.size=0
 ·simp[Instr.makeSlice,run_underlying ht,asInt,asIntOf,typeInfo,hi,e1,e2,e3,e4,sizeOf,zeroValue,hz,newRow,madeCells,h0,show¬((cn:Int)<0)from by omega,show¬((ln:Int)<0)from by omega]
  have:Array.range 0=#[]:=rfl
  simp[this]
 ·simp[Instr.makeSlice,run_underlying ht,asInt,asIntOf,typeInfo,hi,e1,e2,e3,e4,sizeOf,zeroValue,hz,newRow,madeCells,h0,show¬((cn:Int)<0)from by omega,show¬((ln:Int)<0)from by omega]
theorem o3.run{m:Value}{es:Array MapEntry}(h:o3 H m es){w:World}(hw:Own g H w):
  (m=.map none∧es=#[])∨∃b clock,m=.map (some b)∧(getObj b).run P w=.ok (.map es clock) w:=by
 rcases h with h|⟨b,clock,hm,hb⟩
 ·exact .inl h
 ·exact .inr ⟨b,clock,hm,aF hw hb⟩
theorem run_checkKey(e:Bool){t:TypeId}{d:TypeDesc}(hd:P.underlying t=some d)(hp:plainKey d=true)(v:Value)(w:World):(Instr.checkKey e 10000 t v).run P w=.ok () w:=by
 have:∀n,(Instr.checkKey e (n+1) t v).run P w=.ok () w:=fun n=>by
  simp only[Instr.checkKey,Sem.run_bind,run_underlying hd,Result.andThen_ok]
  cases d<;>first|(simp[plainKey]at hp;done)|rfl
 exact this 9999
theorem run_findKey{t:TypeId}{d:TypeDesc}(hd:P.underlying t=some d){key:Value}{es:List MapEntry}{r:Option (Nat×Value)}(h:Instr.findNow d key es 0=some r)(w:World):
  (Instr.findKey t key es).run P w=.ok r w:=by
 simp[Instr.findKey,run_underlying hd,h]
theorem e9.run{kd:TypeDesc}{zero:Value}{ok:Bool}{m key:Value}{k:Value→Prop}(h:e9 kd zero ok H m key k){w:World}(hw:Own g H w){t kt e:TypeId}{i:TypeInfo}
 (ht:P.underlying t=some (.map kt e))(hk:P.underlying kt=some kd)(hp:plainKey kd=true)(hi:P.info? e=some i)(hz:i.zero=some zero):
  ∃v,(Instr.lookup t m key ok).run P w=.ok v w∧k v:=by
 obtain⟨es,r,hm,hf,hkv⟩:=h
 have cm:=fun b=>run_checkKey (P:=P) b hk hp key w
 have gI:=run_findKey (P:=P) hk hf w
 refine⟨_,?_,hkv⟩
 rcases hm.run (P:=P) hw with⟨rfl,rfl⟩|⟨b,clock,rfl,hg⟩
 ·cases r with
  |none=>cases ok<;>simp[Instr.lookup,run_underlying ht,cm,gI,bV hi hz]
  |some x=>obtain⟨j,v⟩:=x;cases ok<;>simp[Instr.lookup,run_underlying ht,cm,gI]
 ·cases r with
  |none=>cases ok<;>simp[Instr.lookup,run_underlying ht,cm,gI,bV hi hz,hg]
  |some x=>obtain⟨j,v⟩:=x;cases ok<;>simp[Instr.lookup,run_underlying ht,cm,gI,hg]
theorem aT{w:World}(hw:Own g H w){b:Nat}{es:Array MapEntry}{clock:Nat}(es':Array MapEntry)(clock':Nat){H':Hp}(hu:br b (.map es clock) (.map es' clock') H H'):
  ∃w',(setObj b (.map es' clock')).run P w=.ok () w'∧Own g H' w':=by
 have hm:=hw.has _ hu.mem
 simp only at hm
 refine⟨{w with heap:=w.heap.setIfInBounds b (.map es' clock')},by simp[setObj,Sem.run,hm],?_⟩
 have hlt:=hw.lt hu.mem
 refine hw.bF hu rfl rfl rfl ?_ ?_
 ·simp only at hlt;simp[hlt]
 ·intro c hc;rw[Array.getElem?_setIfInBounds,if_neg (fun e=>hc (Eq.symm e))]
theorem cM.run{kd:TypeDesc}{m key val:Value}{k:Hp→Prop}(h:cM kd H m key val k){w:World}(hw:Own g H w){t kt e:TypeId}
 (ht:P.underlying t=some (.map kt e))(hk:P.underlying kt=some kd)(hp:plainKey kd=true):
  ∃w' H',(Instr.mapUpdate t m key val).run P w=.ok () w'∧Own g H' w'∧k H':=by
 obtain⟨b,es,clock,r,rfl,hf,hr⟩:=h
 have cm:=fun b=>run_checkKey (P:=P) b hk hp key w
 have gI:=run_findKey (P:=P) hk hf w
 cases r with
 |none=>
  obtain⟨H',hu,hkk⟩:=hr
  obtain⟨w',hs,ho⟩:=aT (P:=P) hw _ _ hu
  refine⟨w',H',?_,ho,hkk⟩
  simp[Instr.mapUpdate,run_underlying ht,aF hw hu.mem,cm,gI,hs]
 |some x=>
  obtain⟨j,v⟩:=x
  obtain⟨hsame,hj,H',hu,hkk⟩:=hr
  obtain⟨w',hs,ho⟩:=aT (P:=P) hw _ _ hu
  refine⟨w',H',?_,ho,hkk⟩
  have Ar:=hsame es[j] (Array.getElem?_eq_getElem hj)
  simp[Instr.mapUpdate,run_underlying ht,aF hw hu.mem,cm,gI,hj,Instr.keyThatStays,Ar,hs]
theorem jX.run{kd:TypeDesc}{m key:Value}{k:Hp→Prop}(h:jX kd H m key k){w:World}(hw:Own g H w){t kt e ty:TypeId}{as:Array TypeId}(has:as[0]? =some t)
 (ht:P.underlying t=some (.map kt e))(hk:P.underlying kt=some kd)(hp:plainKey kd=true):
  ∃w' H',(Builtin.delete_ as ty #[m,key]).run P w=.ok (.tuple #[]) w'∧Own g H' w'∧k H':=by
 have cm:=fun b=>run_checkKey (P:=P) b hk hp key w
 rcases h with⟨rfl,hkk⟩|⟨b,es,clock,r,rfl,hf,hr⟩
 ·exact⟨w,H,by simp[Builtin.delete_,has,run_underlying ht,cm],hw,hkk⟩
 ·have gI:=run_findKey (P:=P) hk hf w
  cases r with
  |none=>
   obtain⟨hm,hkk⟩:=hr
   have hu:∃H',br b (.map es clock) (.map es clock) H H'∧H'=H:=by
    clear hkk hf gI hw
    induction H with
    |nil=>simp at hm
    |cons x R ih=>
     rcases List.mem_cons.1 hm with e|hm'
     ·subst e;exact⟨_,.head _,rfl⟩
     ·obtain⟨H',u,rfl⟩:=ih hm';exact⟨_,.tail u,rfl⟩
   obtain⟨H',hu,rfl⟩:=hu
   obtain⟨w',hs,ho⟩:=aT (P:=P) hw _ _ hu
   exact⟨w',_,by simp[Builtin.delete_,has,run_underlying ht,aF hw hm,cm,gI,hs],ho,hkk⟩
  |some x=>
   obtain⟨j,v⟩:=x
   obtain⟨H',hu,hkk⟩:=hr
   obtain⟨w',hs,ho⟩:=aT (P:=P) hw _ _ hu
   exact⟨w',_,by simp[Builtin.delete_,has,run_underlying ht,aF hw hu.mem,cm,gI,hs],ho,hkk⟩
theorem mP{kd:TypeDesc}(h:aV kd=true)(key:Value)(es:List MapEntry)(i:Nat):Instr.findNow kd key es i=if es=[]then some none else none:=by
 cases es with
 |nil=>rfl
 |cons e r=>
  simp only[Instr.findNow,reduceCtorEq,if_false]
  cases kd<;>simp[aV]at h<;>rfl
theorem eM{kt:TypeId}{key:Value}:∀{es:List MapEntry} {i:Nat} {r:Option (Nat×Value)},eC P kt key es i r→∀w,(Instr.findAsking kt key es i).run P w=.ok r w
 | [],i,r,h,w=>by simp only[eC]at h;subst h;rfl
 |e::es,i,r,h,w=>by
  obtain⟨b,he,h1,h2⟩:=h
  simp only[Instr.findAsking,Sem.run_bind,he w,Result.andThen_ok]
  cases b
  ·simp only[Bool.false_eq_true,if_false];exact eM (h2 rfl) w
  ·simp only[if_true,h1 rfl,Sem.run_pure]
theorem ej{t:TypeId}{d:TypeDesc}(hd:P.underlying t=some d)(ha:aV d=true){key:Value}{es:List MapEntry}{r:Option (Nat×Value)}(h:eC P t key es 0 r)(w:World):
  (Instr.findKey t key es).run P w=.ok r w:=by
 simp only[Instr.findKey,Sem.run_bind,run_underlying hd,Result.andThen_ok,mP ha]
 cases es with
 |nil=>simp only[eC]at h;subst h;simp
 |cons e es=>simp only[reduceCtorEq,if_false];exact eM h w
theorem gQ.run{zero:Value}{ok:Bool}{m key:Value}{k:Value→Prop}{t kt e:TypeId}{kd:TypeDesc}(h:gQ P kt zero ok H m key k){w:World}(hw:Own g H w){i:TypeInfo}
 (ht:P.underlying t=some (.map kt e))(hk:P.underlying kt=some kd)(hp:aV kd=true)(hi:P.info? e=some i)(hz:i.zero=some zero):
  ∃v,(Instr.lookup t m key ok).run P w=.ok v w∧k v:=by
 obtain⟨es,r,hm,hc,hf,hkv⟩:=h
 have cm:=fun b=>hc b w
 have gI:=ej (P:=P) hk hp hf w
 refine⟨_,?_,hkv⟩
 rcases hm.run (P:=P) hw with⟨rfl,rfl⟩|⟨b,clock,rfl,hg⟩
 ·cases r with
  |none=>cases ok<;>simp[Instr.lookup,run_underlying ht,cm,gI,bV hi hz]
  |some x=>obtain⟨j,v⟩:=x;cases ok<;>simp[Instr.lookup,run_underlying ht,cm,gI]
 ·cases r with
  |none=>cases ok<;>simp[Instr.lookup,run_underlying ht,cm,gI,bV hi hz,hg]
  |some x=>obtain⟨j,v⟩:=x;cases ok<;>simp[Instr.lookup,run_underlying ht,cm,gI,hg]
theorem fo.run{m key val:Value}{k:Hp→Prop}{t kt e:TypeId}{kd:TypeDesc}(h:fo P kt H m key val k){w:World}(hw:Own g H w)
 (ht:P.underlying t=some (.map kt e))(hk:P.underlying kt=some kd)(hp:aV kd=true):
  ∃w' H',(Instr.mapUpdate t m key val).run P w=.ok () w'∧Own g H' w'∧k H':=by
 obtain⟨b,es,clock,r,rfl,hc,hf,hr⟩:=h
 have cm:=fun b=>hc b w
 have gI:=ej (P:=P) hk hp hf w
 cases r with
 |none=>
  obtain⟨H',hu,hkk⟩:=hr
  obtain⟨w',hs,ho⟩:=aT (P:=P) hw _ _ hu
  refine⟨w',H',?_,ho,hkk⟩
  simp[Instr.mapUpdate,run_underlying ht,aF hw hu.mem,cm,gI,hs]
 |some x=>
  obtain⟨j,v⟩:=x
  obtain⟨hsame,hj,H',hu,hkk⟩:=hr
  obtain⟨w',hs,ho⟩:=aT (P:=P) hw _ _ hu
  refine⟨w',H',?_,ho,hkk⟩
  have Ar:=hsame es[j] (Array.getElem?_eq_getElem hj)
  simp[Instr.mapUpdate,run_underlying ht,aF hw hu.mem,cm,gI,hj,Instr.keyThatStays,Ar,hs]
theorem br.same{b:Nat}{o:Obj}{H:Hp}(hm:(b,o)∈H):br b o o H H:=by
 induction H with
 |nil=>simp at hm
 |cons x R ih=>
  rcases List.mem_cons.1 hm with e|hm'
  ·subst e;exact .head _
  ·exact .tail (ih hm')
theorem lO.run{m key:Value}{k:Hp→Prop}{t kt e ty:TypeId}{kd:TypeDesc}{as:Array TypeId}(h:lO P kt H m key k){w:World}(hw:Own g H w)(has:as[0]? =some t)
 (ht:P.underlying t=some (.map kt e))(hk:P.underlying kt=some kd)(hp:aV kd=true):
  ∃w' H',(Builtin.delete_ as ty #[m,key]).run P w=.ok (.tuple #[]) w'∧Own g H' w'∧k H':=by
 obtain⟨hc,h⟩:=h
 have cm:=fun b=>hc b w
 rcases h with⟨rfl,hkk⟩|⟨b,es,clock,r,rfl,hf,hr⟩
 ·exact⟨w,H,by simp[Builtin.delete_,has,run_underlying ht,cm],hw,hkk⟩
 ·have gI:=ej (P:=P) hk hp hf w
  cases r with
  |none=>
   obtain⟨hm,hkk⟩:=hr
   obtain⟨w',hs,ho⟩:=aT (P:=P) hw _ _ (br.same hm)
   exact⟨w',_,by simp[Builtin.delete_,has,run_underlying ht,aF hw hm,cm,gI,hs],ho,hkk⟩
  |some x=>
   obtain⟨j,v⟩:=x
   obtain⟨H',hu,hkk⟩:=hr
   obtain⟨w',hs,ho⟩:=aT (P:=P) hw _ _ hu
   exact⟨w',_,by simp[Builtin.delete_,has,run_underlying ht,aF hw hu.mem,cm,gI,hs],ho,hkk⟩
theorem zq.run{x:Value}{k:Value→Hp→Prop}(h:zq H x k){w:World}(hw:Own g H w){t kt e:TypeId}(ht:P.underlying t=some (.map kt e)):
  ∃v w' H',(Instr.range t x).run P w=.ok v w'∧Own g H' w'∧k v H':=by
 rcases h with⟨rfl,hk⟩|⟨m,es,clock,rfl,hm,hk⟩
 ·refine⟨_,_,_,?_,hw.alloc _,hk _ hw.fresh⟩
  simp[Instr.range,run_underlying ht]
 ·refine⟨_,_,_,?_,hw.alloc _,hk _ hw.fresh⟩
  simp[Instr.range,run_underlying ht,aF hw hm]
theorem ez{w:World}(hw:Own g H w){b:Nat}{mo:Option Nat}{since last:Nat}{seen:Array Nat}(hm:(b,Obj.mapIter mo since seen last)∈H):(getObj b).run P w=.ok (.mapIter mo since seen last) w:=by
 have:=hw.has _ hm
 simp only at this
 simp[getObj,Sem.run,this]
theorem iS{w:World}(hw:Own g H w){b:Nat}{mo Ah:Option Nat}{since last since' last':Nat}{seen seen':Array Nat}{H':Hp}(hu:br b (.mapIter mo since seen last) (.mapIter Ah since' seen' last') H H'):
  ∃w',(setObj b (.mapIter Ah since' seen' last')).run P w=.ok () w'∧Own g H' w':=by
 have hm:=hw.has _ hu.mem
 simp only at hm
 refine⟨{w with heap:=w.heap.setIfInBounds b (.mapIter Ah since' seen' last')},by simp[setObj,Sem.run,hm],?_⟩
 have hlt:=hw.lt hu.mem
 refine hw.bF hu rfl rfl rfl ?_ ?_
 ·simp only at hlt;simp[hlt]
 ·intro c hc;rw[Array.getElem?_setIfInBounds,if_neg (fun e=>hc (Eq.symm e))]
theorem tJ.run{it:Value}{k:Value→Prop}(h:tJ H it k){w:World}(hw:Own g H w):∃v,(Instr.entry it).run P w=.ok v w∧k v:=by
 obtain⟨b,m,since,seen,stamp,clock,es,e,rfl,hb,hs,hm,hf,hk⟩:=h
 refine⟨_,?_,hk⟩
 simp[Instr.entry,ez (P:=P) hw hb,hs,aF (P:=P) hw hm,hf]
theorem iT(n:Nat)(hn:0<n){w:World}:∃i w',(choose (.mapNext n)).run P w=.ok i w'∧i<n∧(w'=w∨w'=w.drew):=by
 by_cases h:n≤1
 ·exact⟨0,w,by simp[choose,Sem.run,Question.forced,h],hn,.inl rfl⟩
 ·exact⟨_,_,by simp only[choose,Sem.run,Question.forced,h,decide_false,Bool.false_eq_true,if_false];rfl,Nat.mod_lt _ hn,.inr rfl⟩
theorem yx.run{it:Value}{k:Value→Hp→Prop}(h:yx H it k){w:World}(hw:Own g H w){ty:TypeId}:
  ∃v w' H',(Instr.next it false ty).run P w=.ok v w'∧Own g H' w'∧k v H':=by
 obtain⟨b,mo,since,seen,last,rfl,hb,h⟩:=h
 have CQ:=ez (P:=P) hw hb
 cases mo with
 |none=>exact⟨_,w,H,by simp[Instr.next,CQ],hw,h⟩
 |some m=>
  obtain⟨es,clock,hm,rJ,iL,xo⟩:=h
  have EH:=aF (P:=P) hw hm
  have xA:(!seen.isEmpty&& !es.isEmpty&&es.all (fun e=>decide (e.born≥last)))=false:=by
   cases he:es.isEmpty
   ·have hne:es≠#[]:=by intro e;rw[e]at he;simp at he
    have:es.all (fun e=>decide (e.born≥last))=false:=by
     rw[←Bool.not_eq_true,Array.all_eq_true]
     intro an
     have h0:0<es.size:=Array.size_pos_iff.2 hne
     have:=an 0 h0
     have h2:=(rJ es[0] (by simp)).2
     simp only[ge_iff_le,decide_eq_true_eq]at this
     omega
    rw[this];simp
   ·simp
  have hold:((es.filter fun e=> !seen.contains e.born).filter fun e=>decide (e.born<since))=es.filter fun e=> !seen.contains e.born:=by
   rw[Array.filter_eq_self]
   intro e he
   have:=(Array.mem_filter.1 he).1
   exact decide_eq_true (rJ e (by simpa using this)).1
  have hnew:((es.filter fun e=> !seen.contains e.born).filter fun e=>decide (e.born≥since))=#[]:=by
   rw[Array.filter_eq_empty_iff]
   intro e he
   have:=(Array.mem_filter.1 he).1
   have:=(rJ e (by simpa using this)).1
   simp only[ge_iff_le,decide_eq_true_eq];omega
  generalize hleft:(es.filter fun e=> !seen.contains e.born)=left at hold hnew
  have hrun:∀(rest:Sem Value),(Instr.next (.pointer (some ⟨b,0,none⟩)) false ty).run P w=((choose (.mapNext (((if left.isEmpty then#[none]else#[])++left.map some).size))).run P w).andThen fun i w=>(Sem.run P (match((if left.isEmpty then#[none]else#[])++left.map some)[i]? with
    |some (some e)=>do setObj b (.mapIter (some m) since (seen.push e.born) clock);pure (.tuple #[.bool true,e.key,e.val])
    |some none=>pure (.tuple #[.bool false])
    |none=>stuck "Next: no such candidate" :Sem Value) w):=by
   intro _
   simp only[Instr.next,Sem.run_bind,CQ,Result.andThen_ok,EH,xA,Bool.false_eq_true,if_false,hleft,hold,hnew,Array.append_empty,Sem.run_pure]
   rfl
  rw[hrun (pure undef)]
  by_cases u3:left=#[]
  ·subst u3
   simp only[Array.isEmpty_empty,if_true,Array.map_empty,Array.append_empty]
   refine⟨_,w,H,?_,hw,xo fun e he=>?_⟩
   ·simp[choose,Sem.run,Question.forced]
   ·have:=Array.filter_eq_empty_iff.1 hleft e (by simpa using he)
    simpa using this
  ·have hne:left.isEmpty=false:=by simpa using u3
   have hpos:0<left.size:=Array.size_pos_iff.2 u3
   simp only[hne,Bool.false_eq_true,if_false,Array.empty_append,Array.size_map]
   obtain⟨i,w1,hc,hi,lp⟩:=iT (P:=P) (w:=w) left.size hpos
   rw[hc]
   simp only[Result.andThen_ok]
   have uY:(left.map some)[i]? =some (some left[i]):=by simp[hi]
   simp only[uY]
   have hmem:left[i]∈es.filter fun e=> !seen.contains e.born:=by rw[hleft];exact Array.getElem_mem hi
   obtain⟨EL,EK⟩:=Array.mem_filter.1 hmem
   obtain⟨H',hu,hk⟩:=iL left[i] (by simpa using EL) (by simpa using EK)
   have uS:Own g H w1:=by rcases lp with rfl|rfl;exact hw;exact hw.drew
   obtain⟨w2,hs,ry⟩:=iS (P:=P) uS hu
   exact⟨_,w2,H',by simp[hs],ry,hk⟩
end
end Go.Sx
namespace Go.Sx
open Go
section
variable {P:Program} {g:Gh} {H:Hp} {K:Value→Hp→Prop} {KP:List PanicEntry→Hp→Prop}
def yy(x:Value):Option Value:=
 match x with
 | .pointer (some a)=>some (.pointer (some a))
 | .func (.func f) a b=>some (.func (.func f) a b)
 | .iface t v=>some (.iface t v)
 |_=>none
def Nil(x:Value)(k:Value→Prop):Prop:=∃v,yy x=some v∧k v
def FI(fn:Fn)(a b:List Value)(k:Value→Prop):Prop:=k (.func fn a.toArray b.toArray)
def Build(P:Program)(t:TypeId)(parts:List (Nat×Value))(k:Value→Prop):Prop:=∃v,(∀w,(Instr.build t parts.toArray).run P w=.ok v w)∧k v
def gk(P:Program)(g:Gh)(o:Oper)(ρ:Operand→Value)(H:Hp)(k:Value→Prop):Prop:=
 ∃v,(∀w,Own g H w→(execOp ρ o).run P w=.ok (.value v) w)∧k v
def bG(P:Program)(t:TypeId):Option Nat:=match P.info? t with|some i=>some i.size|none=>none
def cV(P:Program)(t:TypeId):Option Value:=match P.info? t with|some i=>i.zero|none=>none
def jR(P:Program)(t:TypeId):Option Nat:=match P.info? t with|some i=>some i.bytes|none=>none
def su(P:Program)(g:Gh)(o:Oper)(ρ:Operand→Value)(H:Hp)(k:Value→Prop):Prop:=
 match o.op with
 | .move x=>k (ρ x)
 | .assign x=>k (ρ x)
 | .pick c a b=>aA (ρ c) (ρ a) (ρ b) k
 | .load t a=>
  match P.underlying t,bG P t with
  |some d,some n=>cond (aV d) (aO n H (ρ a) k) (Ld H (ρ a) k)
  |_,_=>False
 | .nilCheck x=>Nil (ρ x) k
 | .binOp op t x y _=>
  match P.underlying t with
  |some d=>match lJ d with
   | .other=>gk P g o ρ H k
   |bk=>aa bk op (ρ x) (ρ y) k
  |none=>False
 | .unOp op _ x=>Un op (ρ x) k
 | .convert s d x=>
  match P.underlying s,P.underlying d with
  |some _,some (.int kd)=>bg kd (ρ x) k
  |some (.slice e),some .string=>match P.underlying e with
   |some (.int .u8)=>dO H (ρ x) k
   |_=>gk P g o ρ H k
  |_,_=>gk P g o ρ H k
 | .index t x i=>
  match P.underlying t with
  |some .string=>uv (ρ x) (ρ i) k
  |_=>gk P g o ρ H k
 | .fieldAddr s x f=>
  match P.underlying s with
  |some (.struct fs)=>match fs[f]? with
   |some fl=>match bG P fl.type with
    |some (_+1)=>ae fl.offset (ρ x) k
    |_=>False
   |none=>False
  |_=>False
 | .field s x f=>
  match P.underlying s with
  |some (.struct fs)=>match fs[f]? with
   |some fl=>match P.underlying fl.type,bG P fl.type with
    |some d,some n=>cond (aV d) (tG fl.offset n (ρ x) k) (sD fl.offset (ρ x) k)
    |_,_=>False
   |none=>False
  |_=>False
 | .indexAddr t x i=>
  match P.underlying t with
  |some (.slice e)=>match bG P e with
   |some n=>ak n (ρ x) (ρ i) k
   |none=>False
  |some (.array len e)=>match bG P e with
   |some n=>m9 len n (ρ x) (ρ i) k
   |none=>False
  |_=>False
 | .slice t x lo hi none=>
  match P.underlying t with
  |some (.slice e)=>match bG P e with
   |some n=>e5 n (ρ x) (lo.map ρ) (hi.map ρ) k
   |none=>False
  |_=>gk P g o ρ H k
 | .extract t i=>Ext i (ρ t) k
 | .lookup t m key ok=>
  match P.underlying t with
  |some (.map kt e)=>match P.underlying kt,cV P e with
   |some kd,some z=>cond (plainKey kd) (e9 kd z ok H (ρ m) (ρ key) k) (cond (aV kd) (gQ P kt z ok H (ρ m) (ρ key) k) (gk P g o ρ H k))
   |_,_=>False
  |_=>False
 | .makeFunc fn a b=>FI fn (a.toList.map ρ) (b.toList.map ρ) k
 | .build t parts=>Build P t (parts.toList.map fun p=>(p.1,ρ p.2)) k
 | .makeInterface t x=>
  match P.underlying t with
  |some (.interface _)=>False
  |some _=>k (.iface t (ρ x))
  |none=>False
 | .call c=>
  match c.callee with
  | .builtin .len=>
   match c.args.toList,c.argTypes.toList with
   | [x],[t]=>match P.underlying t with
    |some (.slice _)=>aB (ρ x) k
    |some (.map _ _)=>p7 H (ρ x) k
    |some .string=>vA (ρ x) k
    |_=>gk P g o ρ H k
   |_,_=>False
  | .builtin .max=>match c.args.toList,c.argTypes.toList with
   | [x,y],[t,_]=>match P.underlying t with
    |some (.int _)=>yz (ρ x) (ρ y) k
    |_=>gk P g o ρ H k
   |_,_=>gk P g o ρ H k
  | .builtin .min=>match c.args.toList,c.argTypes.toList with
   | [x,y],[t,_]=>match P.underlying t with
    |some (.int _)=>By (ρ x) (ρ y) k
    |_=>gk P g o ρ H k
   |_,_=>gk P g o ρ H k
  | .builtin _=>gk P g o ρ H k
  |_=>False
 |_=>gk P g o ρ H k
theorem mapList{α β:Type}(f:α→β)(a:Array α):(a.toList.map f).toArray=a.map f:=by rw[←Array.toList_map,Array.toArray_toList]
theorem yf{α:Type}{a:Array α}{x:α}(h:a.toList=[x]):a=#[x]:=by cases a;simp_all
theorem mV{α:Type}{a:Array α}{x y:α}(h:a.toList=[x,y]):a=#[x,y]:=by cases a;simp_all
theorem Ld.fix{p:Value}{k:Value→Prop}(h:Ld H p k):∃v,k v∧Ld H p (· =v):=by
 obtain⟨b,off,c,T,fz,v,h1,h2,h3,hk⟩:=h;exact⟨v,hk,b,off,c,T,fz,v,h1,h2,h3,rfl⟩
theorem aO.fix{n:Nat}{p:Value}{k:Value→Prop}(h:aO n H p k):∃v,k v∧aO n H p (· =v):=by
 obtain⟨b,off,c,T,fz,h1,h2,h3,hk⟩:=h;exact⟨_,hk,b,off,c,T,fz,h1,h2,h3,rfl⟩
theorem e9.fix{kd:TypeDesc}{zero:Value}{ok:Bool}{m key:Value}{k:Value→Prop}(h:e9 kd zero ok H m key k):∃v,k v∧e9 kd zero ok H m key (· =v):=by
 obtain⟨es,r,h1,h2,hk⟩:=h;exact⟨_,hk,es,r,h1,h2,rfl⟩
theorem p7.fix{x:Value}{k:Value→Prop}(h:p7 H x k):∃v,k v∧p7 H x (· =v):=by
 obtain⟨m,h1,⟨h2,hk⟩|⟨b,es,clock,h2,h3,hk⟩⟩:=h
 ·exact⟨_,hk,m,h1,.inl ⟨h2,rfl⟩⟩
 ·exact⟨_,hk,m,h1,.inr ⟨b,es,clock,h2,h3,rfl⟩⟩
theorem gQ.fix{kt:TypeId}{zero:Value}{ok:Bool}{m key:Value}{k:Value→Prop}(h:gQ P kt zero ok H m key k):∃v,k v∧gQ P kt zero ok H m key (· =v):=by
 obtain⟨es,r,h1,h2,h3,hk⟩:=h;exact⟨_,hk,es,r,h1,h2,h3,rfl⟩
theorem nM{F:Value→ByteArray→Sem (ForInStep ByteArray)}(hF:∀(b:UInt8) s,F (.int .u8 b.toNat) s=pure (.yield (s.push b))){l:List UInt8}(s:ByteArray)(w:World):
  (forIn (l.map fun b=>Value.int .u8 b.toNat) s F).run P w=.ok (⟨s.data++l.toArray⟩:ByteArray) w:=by
 induction l generalizing s with
 |nil=>simp
 |cons b r ih=>
  simp only[List.map_cons,List.forIn_cons,hF,Sem.run_bind,Sem.run_pure,Result.andThen_ok]
  rw[ih]
  congr 1
  simp[ByteArray.push]
theorem dO.run{x:Value}{k:Value→Prop}(h:dO H x k){w:World}(hw:Own g H w):∃v,(Conv.bytesToString x).run P w=.ok v w∧k v:=by
 obtain⟨base,n,c,bs,rfl,hc,hn,hk⟩:=h
 refine⟨_,?_,hk⟩
 cases base with
 |none=>
  simp only[Cells]at hc
  have:bs=[]:=by simpa using congrArg Array.size hc
  subst this;rfl
 |some a=>
  have:=Cells.run (P:=P) (size:=1) (cap:=c) hw (by rw[Nat.mul_one];exact hc)
  simp only[Builtin.firstCells,Nat.mul_one]at this
  simp only[Conv.bytesToString,Sem.run_bind,this,Result.andThen_ok]
  rw[List.forIn_toArray,nM (P:=P) (l:=bs) (fun b s=>by simp)]
  have e:ByteArray.empty.data=#[]:=rfl
  simp[e]
theorem dO.fix{x:Value}{k:Value→Prop}(h:dO H x k):∃v,k v∧dO H x (· =v):=by
 obtain⟨base,n,c,bs,h1,h2,h3,hk⟩:=h;exact⟨_,hk,base,n,c,bs,h1,h2,h3,rfl⟩
def Reads(P:Program)(g:Gh)(o:Oper)(ρ:Operand→Value)(H:Hp)(k:Value→Prop):Prop:=
 ∃v,k v∧∀w,Own g H w→(execOp ρ o).run P w=.ok (.value v) w
theorem Reads.mk{o:Oper}{ρ:Operand→Value}{k:Value→Prop}{s:Sem Value}(he:execOp ρ o=(do pure (.value (←s))))(h:∃v,k v∧∀w,Own g H w→s.run P w=.ok v w):Reads P g o ρ H k:=by
 obtain⟨v,hk,hr⟩:=h
 refine⟨v,hk,fun w hw=>?_⟩
 rw[he]
 simp only[Sem.run_bind,hr w hw,Result.andThen_ok,Sem.run_pure]
theorem gk.reads{o:Oper}{ρ:Operand→Value}{k:Value→Prop}(h:gk P g o ρ H k):Reads P g o ρ H k:=let ⟨v,h1,h2⟩:=h;⟨v,h2,h1⟩
theorem vI{s:Sem Value}{k:Value→Prop}{C:(Value→Prop)→Prop}(AS:∃v,k v∧C (· =v))(hrun:∀(k:Value→Prop),C k→∀w,Own g H w→∃v,s.run P w=.ok v w∧k v):
  ∃v,k v∧∀w,Own g H w→s.run P w=.ok v w:=by
 obtain⟨v,hk,hc⟩:=AS
 refine⟨v,hk,fun w hw=>?_⟩
 obtain⟨u,hr,rfl⟩:=hrun _ hc w hw
 exact hr
theorem aH{t:TypeId}{n:Nat}(h:bG P t=some n):∃i,P.info? t=some i∧i.size=n:=by
 unfold bG at h
 split at h
 ·rename_i i hi;exact⟨i,hi,by simpa using h⟩
 ·simp at h
theorem bt{t:TypeId}{z:Value}(h:cV P t=some z):∃i,P.info? t=some i∧i.zero=some z:=by
 unfold cV at h
 split at h
 ·rename_i i hi;exact⟨i,hi,by simpa using h⟩
 ·simp at h
theorem dU{o:Oper}{ρ:Operand→Value}{k:Value→Prop}(h:su P g o ρ H k):Reads P g o ρ H k:=by
 obtain⟨dst,op,type,pos,after,guard⟩:=o
 cases op<;>simp only[su]at h
 case move x=>exact⟨_,h,fun w _=>rfl⟩
 case assign x=>exact⟨_,h,fun w _=>rfl⟩
 case pick c a b=>
  obtain⟨t,hc,hk⟩:=h
  refine⟨_,hk,fun w _=>?_⟩
  cases t<;>simp[execOp,hc,asBool]
 case load t a=>
  split at h
  ·rename_i d n hd hn
   obtain⟨i,hi,hin⟩:=aH hn
   refine Reads.mk (s:=Instr.loadAt t (ρ a)) rfl ?_
   cases ha:aV d<;>simp only[ha,cond_true,cond_false]at h
   ·exact vI h.fix fun k hk w hw=>hk.run hw hd ha
   ·exact vI h.fix fun k hk w hw=>hk.run hw hd ha hi hin
  ·exact h.elim
 case nilCheck x=>
  obtain⟨v,hv,hk⟩:=h
  refine⟨v,hk,fun w _=>?_⟩
  unfold yy at hv
  simp only[execOp]
  split at hv<;>simp only[Option.some.injEq,reduceCtorEq]at hv<;>subst hv<;>simp_all
 case binOp op t x y yt=>
  split at h
  ·rename_i d hd
   split at h
   ·exact h.reads
   ·rename_i Gq
    refine Reads.mk (s:=do eqGuard op t x y (ρ x) (ρ y);binOp op t (ρ x) (ρ y)) rfl ?_
    obtain⟨v,hv,hk⟩:=h
    exact⟨v,hk,fun w _=>by
     obtain⟨u,hr,rfl⟩:=aa.run (P:=P) (k:=(· =v)) ⟨v,hv,rfl⟩ w (ox:=x) (oy:=y) hd rfl
     exact hr⟩
  ·exact h.elim
 case unOp op t x=>
  obtain⟨v,hv,hk⟩:=h
  refine Reads.mk (s:=Op.unary op (ρ x)) rfl ⟨v,hk,fun w _=>?_⟩
  obtain⟨u,hr,rfl⟩:=Un.run (P:=P) (k:=(· =v)) ⟨v,hv,rfl⟩ w
  exact hr
 case convert s d x=>
  split at h
  ·rename_i ds kd hs hd
   obtain⟨j,n,hx,hk⟩:=h
   refine Reads.mk (s:=Go.convert s d (ρ x)) rfl ⟨_,hk,fun w _=>?_⟩
   obtain⟨u,hr,rfl⟩:=bg.run (P:=P) (kd:=kd) (k:=(· =_)) ⟨j,n,hx,rfl⟩ w hs hd rfl
   exact hr
  ·rename_i e hs hd
   split at h
   ·rename_i he
    refine Reads.mk (s:=Go.convert s d (ρ x)) rfl ?_
    have:∀w,(Go.convert s d (ρ x)).run P w=(Conv.bytesToString (ρ x)).run P w:=fun w=>by
     obtain⟨base,n,c,bs,hx,_⟩:=h
     simp only[Go.convert,Sem.run_bind,run_underlying hs,run_underlying hd,Result.andThen_ok,hx,run_underlying he]
    simp only[this]
    exact vI h.fix fun k hk w hw=>hk.run hw
   ·exact h.reads
  ·exact h.reads
 case index t x i=>
  split at h
  ·rename_i ht
   obtain⟨s,kd,j,b,hx,hi,h0,hb,hk⟩:=h
   refine Reads.mk (s:=Instr.index t (ρ x) (ρ i)) rfl ⟨_,hk,fun w _=>?_⟩
   simp[Instr.index,run_underlying ht,hx,hi,asIntOf,h0,hb]
  ·exact h.reads
 case fieldAddr s x f=>
  split at h<;>try exact h.elim
  rename_i fs hs
  split at h<;>try exact h.elim
  rename_i fl hf
  split at h<;>try exact h.elim
  rename_i m hm
  obtain⟨i,hi,hin⟩:=aH hm
  obtain⟨b,o,hx,hk⟩:=h
  refine Reads.mk (s:=Instr.fieldAt s (ρ x) f) rfl ⟨_,hk,fun w _=>?_⟩
  obtain⟨u,hr,rfl⟩:=ae.run (P:=P) (k:=(· =_)) ⟨b,o,hx,rfl⟩ w hs hf hi (by omega) rfl
  exact hr
 case field s x f=>
  split at h<;>try exact h.elim
  rename_i fs hs
  split at h<;>try exact h.elim
  rename_i fl hf
  split at h<;>try exact h.elim
  rename_i d n hd hn
  obtain⟨i,hi,hin⟩:=aH hn
  refine Reads.mk (s:=Instr.field s (ρ x) f) rfl ?_
  cases ha:aV d<;>simp only[ha,cond_true,cond_false]at h
  ·obtain⟨cs,v,hx,hv,hk⟩:=h
   refine⟨v,hk,fun w _=>?_⟩
   obtain⟨u,hr,rfl⟩:=sD.run (P:=P) (k:=(· =v)) ⟨cs,v,hx,hv,rfl⟩ w hs hf hd ha rfl
   exact hr
  ·obtain⟨cs,hx,hk⟩:=h
   refine⟨_,hk,fun w _=>?_⟩
   obtain⟨u,hr,rfl⟩:=tG.run (P:=P) (k:=(· =_)) ⟨cs,hx,rfl⟩ w hs hf hd ha hi hin rfl
   exact hr
 case indexAddr t x ix=>
  refine Reads.mk (s:=Instr.indexAt t (ρ x) (ρ ix)) rfl ?_
  split at h
  ·rename_i e ht
   split at h<;>try exact h.elim
   rename_i n hn
   obtain⟨i,hi,hin⟩:=aH hn
   obtain⟨b,o,n',c,kd,j,hx,AM,h0,h1,hk⟩:=h
   refine⟨_,hk,fun w _=>?_⟩
   obtain⟨u,hr,rfl⟩:=ak.run (P:=P) (k:=(· =_)) ⟨b,o,n',c,kd,j,hx,AM,h0,h1,rfl⟩ w ht hi hin
   exact hr
  ·rename_i len e ht
   split at h<;>try exact h.elim
   rename_i n hn
   obtain⟨i,hi,hin⟩:=aH hn
   obtain⟨b,o,kd,j,hx,AM,h0,h1,hk⟩:=h
   refine⟨_,hk,fun w _=>?_⟩
   obtain⟨u,hr,rfl⟩:=m9.run (P:=P) (k:=(· =_)) ⟨b,o,kd,j,hx,AM,h0,h1,rfl⟩ w ht hi hin
   exact hr
  ·exact h.elim
 case slice t x lo hi mx=>
  cases mx with
  |some m=>simp only at h;exact h.reads
  |none=>
   simp only at h
   split at h
   ·rename_i e ht
    split at h<;>try exact h.elim
    rename_i n hn
    obtain⟨i,hi',hin⟩:=aH hn
    obtain⟨a,n',c,l,hh,hx,hl,sy,h0,h1,h2,hk⟩:=h
    refine Reads.mk (s:=Instr.sliceAt t (ρ x) (lo.map ρ) (hi.map ρ) none) rfl ⟨_,hk,fun w _=>?_⟩
    obtain⟨u,hr,rfl⟩:=e5.run (P:=P) (k:=(· =_)) ⟨a,n',c,l,hh,hx,hl,sy,h0,h1,h2,rfl⟩ w ht hi' hin
    exact hr
   ·exact h.reads
 case extract t i=>
  obtain⟨vs,v,hx,hv,hk⟩:=h
  refine Reads.mk (s:=Instr.extract (ρ t) i) rfl ⟨v,hk,fun w _=>?_⟩
  obtain⟨u,hr,rfl⟩:=Ext.run (P:=P) (k:=(· =v)) ⟨vs,v,hx,hv,rfl⟩ w
  exact hr
 case lookup t m key ok=>
  split at h<;>try exact h.elim
  rename_i kt e ht
  split at h<;>try exact h.elim
  rename_i kd z rD hz
  obtain⟨i,hi,lu⟩:=bt hz
  cases hp:plainKey kd<;>simp only[hp,cond_true,cond_false]at h
  ·cases gV:aV kd<;>simp only[gV,cond_true,cond_false]at h
   ·exact h.reads
   ·exact Reads.mk (s:=Instr.lookup t (ρ m) (ρ key) ok) rfl (vI h.fix fun k hk w hw=>hk.run hw ht rD gV hi lu)
  ·exact Reads.mk (s:=Instr.lookup t (ρ m) (ρ key) ok) rfl (vI h.fix fun k hk w hw=>hk.run hw ht rD hp hi lu)
 case makeFunc fn a b=>
  refine⟨_,h,fun w _=>?_⟩
  simp[execOp,Instr.makeFunc,mapList]
 case build t parts=>
  obtain⟨v,hr,hk⟩:=h
  refine Reads.mk (s:=Instr.build t (parts.map fun(i,x)=>(i,ρ x))) rfl ⟨v,hk,fun w _=>?_⟩
  have:=hr w
  rw[mapList (fun p:Nat×Operand=>(p.1,ρ p.2)) parts]at this
  exact this
 case makeInterface t x=>
  split at h
  ·exact h.elim
  ·rename_i d AF hd
   refine Reads.mk (s:=Instr.makeInterface t (ρ x)) rfl ⟨_,h,fun w _=>?_⟩
   simp only[Instr.makeInterface,Sem.run_bind,run_underlying hd,Result.andThen_ok]
   cases d<;>first|rfl|exact absurd hd (AF _)
  ·exact h.elim
 case call c=>
  obtain⟨callee,args,argTypes⟩:=c
  cases callee with
  |value f=>simp only at h
  |invoke r m=>simp only at h
  |builtin b=>
   cases b<;>simp only at h<;>try exact h.reads
   case max=>
    split at h<;>try exact h.reads
    rename_i x y t t' hx ht
    split at h<;>try exact h.reads
    have hx:=mV hx
    have ht:=mV ht
    subst hx;subst ht
    obtain⟨kd,a,b,h1,h2,hk⟩:=h
    refine Reads.mk (s:=Builtin.max_ #[t,t'] type #[ρ x,ρ y]) (by simp[execOp,resolve,invoke,builtin,bind,Sem.bind];rfl) ⟨_,hk,fun w _=>?_⟩
    simp[Builtin.max_,Builtin.max2,h1,h2]
   case min=>
    split at h<;>try exact h.reads
    rename_i x y t t' hx ht
    split at h<;>try exact h.reads
    have hx:=mV hx
    have ht:=mV ht
    subst hx;subst ht
    obtain⟨kd,a,b,h1,h2,hk⟩:=h
    refine Reads.mk (s:=Builtin.min_ #[t,t'] type #[ρ x,ρ y]) (by simp[execOp,resolve,invoke,builtin,bind,Sem.bind];rfl) ⟨_,hk,fun w _=>?_⟩
    simp[Builtin.min_,Builtin.min2,h1,h2]
   split at h<;>try exact h.elim
   rename_i x t hx ht
   have hx:=yf hx
   have ht:=yf ht
   subst hx;subst ht
   split at h
   ·rename_i e hd
    refine Reads.mk (s:=Builtin.len_ #[t] type #[ρ x]) (by simp[execOp,resolve,invoke,builtin,bind,Sem.bind];rfl) ?_
    obtain⟨a,n,c,hx,hk⟩:=h
    refine⟨_,hk,fun w _=>?_⟩
    obtain⟨u,hr,rfl⟩:=aB.run (P:=P) (k:=(· =_)) ⟨a,n,c,hx,rfl⟩ w (ty:=type) hd
    exact hr
   ·rename_i e e' hd
    refine Reads.mk (s:=Builtin.len_ #[t] type #[ρ x]) (by simp[execOp,resolve,invoke,builtin,bind,Sem.bind];rfl) ?_
    exact vI h.fix fun k hk w hw=>hk.run hw hd
   ·rename_i hd
    refine Reads.mk (s:=Builtin.len_ #[t] type #[ρ x]) (by simp[execOp,resolve,invoke,builtin,bind,Sem.bind];rfl) ?_
    obtain⟨s,hx,hk⟩:=h
    exact⟨_,hk,fun w _=>by simp[Builtin.len_,run_underlying hd,hx,goInt]⟩
   ·exact h.reads
 all_goals exact h.reads
def valOf(o:Oper)(ρ:Operand→Value)(v:Value):Prop:=
 match o.op with
 | .move x=>v=ρ x
 | .assign x=>v=ρ x
 | .pick c a b=>∀t,ρ c=.bool t→v=cond t (ρ a) (ρ b)
 |_=>True
theorem oJ{o:Oper}{ρ:Operand→Value}{k:Value→Prop}(h:su P g o ρ H k):∃v,k v∧(∀w,Own g H w→(execOp ρ o).run P w=.ok (.value v) w)∧valOf o ρ v:=by
 obtain⟨dst,op,type,pos,after,guard⟩:=o
 cases op
 case move x=>exact⟨_,h,fun w _=>rfl,rfl⟩
 case assign x=>exact⟨_,h,fun w _=>rfl,rfl⟩
 case pick c a b=>
  obtain⟨t,hc,hk⟩:=h
  refine⟨_,hk,fun w _=>?_,fun t' ht'=>?_⟩
  ·cases t<;>simp[execOp,hc,asBool]
  ·rw[hc]at ht';simp only[Value.bool.injEq]at ht';subst ht';rfl
 all_goals
  obtain⟨v,hk,hr⟩:=dU h
  exact⟨v,hk,hr,trivial⟩
end
end Go.Sx
namespace Go.Sx
open Go
section
variable {P:Program} {g:Gh} {H:Hp} {K:Value→Hp→Prop} {KP:List PanicEntry→Hp→Prop}
def aG(P:Program)(t len:Nat)(parts:List (Nat×Value))(H:Hp)(k:Value→Hp→Prop):Prop:=
 ∃cs,(∃e n z,P.underlying t=some (.slice e)∧bG P e=some n∧cV P e=some z∧len*n≤2^24∧
   Instr.fill (fun i=>some (i*n,n)) ((Array.range (len*n)).map (z.cells[· %z.cells.size]!)) parts=some cs∧
   dx H (.cells cs e (0,0)) fun b H'=>k (.slice (some ⟨b,0,none⟩) len len) H')
def wG(P:Program)(g:Gh)(o:Oper)(ρ:Operand→Value)(H:Hp)(K:Value→Hp→Prop)(KP:List PanicEntry→Hp→Prop):Prop:=
 match o.op with
 | .alloc t=>match cV P t with
  |some z=>dx H (.cells z.cells t (0,0)) fun b H'=>K (.pointer (some ⟨b,0,none⟩)) H'
  |none=>False
 | .box t x=>dx H (.cells (ρ x).cells t (0,0)) fun b H'=>K (.pointer (some ⟨b,0,none⟩)) H'
 | .store t a x=>match bG P t with
  |some n=>St n H (ρ a) (ρ x) fun H'=>K undef H'
  |none=>False
 | .buildSlice t len parts=>aG P t len (parts.toList.map fun p=>(p.1,ρ p.2)) H K
 | .makeMap _ none=>jW H K
 | .makeSlice t l c=>match P.underlying t with
  |some (.slice e)=>match bG P e,jR P e,cV P e with
   |some n,some b,some z=>c8 e n b z H (ρ l) (ρ c) K
   |_,_,_=>False
  |_=>False
 | .mapUpdate t m key x=>match P.underlying t with
  |some (.map kt _)=>match P.underlying kt with
   |some kd=>cond (plainKey kd) (cM kd H (ρ m) (ρ key) (ρ x) fun H'=>K undef H') (cond (aV kd) (fo P kt H (ρ m) (ρ key) (ρ x) fun H'=>K undef H') (gm P g o ρ H K KP))
   |none=>False
  |_=>False
 | .insert t m key x=>match P.underlying t with
  |some (.map kt _)=>match P.underlying kt with
   |some kd=>cond (plainKey kd) (cM kd H (ρ m) (ρ key) (ρ x) fun H'=>K undef H') (cond (aV kd) (fo P kt H (ρ m) (ρ key) (ρ x) fun H'=>K undef H') (gm P g o ρ H K KP))
   |none=>False
  |_=>False
 | .range t x=>match P.underlying t with
  |some (.map _ _)=>zq H (ρ x) K
  |_=>gm P g o ρ H K KP
 | .next it false=>yx H (ρ it) K
 | .entry it=>tJ H (ρ it) fun v=>K v H
 | .call c=>
  match c.callee with
  | .value (.func f)=>cond (bX P f) (ai P g f (c.args.toList.map ρ).toArray H K KP) (gm P g o ρ H K KP)
  | .value f=>iR P g (ρ f) (c.args.toList.map ρ).toArray H K KP
  | .builtin .append=>
   match c.args.toList,c.argTypes.toList with
   | [s,x],[t,t']=>match P.underlying t,P.underlying t' with
    |some (.slice e),some (.slice _)=>match bG P e,jR P e,cV P e with
     |some n,some b,some z=>App P e n b z H (ρ s) (ρ x) K
     |_,_,_=>False
    |_,_=>gm P g o ρ H K KP
   |_,_=>False
  | .builtin .delete=>
   match c.args.toList,c.argTypes.toList with
   | [m,key],[t,_]=>match P.underlying t with
    |some (.map kt _)=>match P.underlying kt with
     |some kd=>cond (plainKey kd) (jX kd H (ρ m) (ρ key) fun H'=>K (.tuple #[]) H') (cond (aV kd) (lO P kt H (ρ m) (ρ key) fun H'=>K (.tuple #[]) H') (gm P g o ρ H K KP))
     |none=>False
    |_=>False
   |_,_=>gm P g o ρ H K KP
  |_=>gm P g o ρ H K KP
 |_=>gm P g o ρ H K KP
theorem eX{t:TypeId}{n:Nat}(h:jR P t=some n):∃i,P.info? t=some i∧i.bytes=n:=by
 unfold jR at h
 split at h
 ·rename_i i hi;exact⟨i,hi,by simpa using h⟩
 ·simp at h
theorem gm.ofValue{o:Oper}{ρ:Operand→Value}{s:Sem Value}(he:execOp ρ o=(do pure (.value (←s))))(h:∀w,Own g H w→∃v w' H',s.run P w=.ok v w'∧Own g H' w'∧K v H'):gm P g o ρ H K KP:=by
 intro w hw
 obtain⟨v,w',H',hr,ho,hk⟩:=h w hw
 rw[he]
 simp only[Sem.run_bind,hr,Result.andThen_ok,Sem.run_pure]
 exact⟨H',ho,hk⟩
theorem gm.js{o:Oper}{ρ:Operand→Value}{s:Sem Unit}(he:execOp ρ o=(do s;pure .skip))(h:∀w,Own g H w→∃w' H',s.run P w=.ok () w'∧Own g H' w'∧K undef H'):gm P g o ρ H K KP:=by
 intro w hw
 obtain⟨w',H',hr,ho,hk⟩:=h w hw
 rw[he]
 simp only[Sem.run_bind,hr,Result.andThen_ok,Sem.run_pure]
 exact⟨H',ho,hk⟩
theorem c6{f:FuncId}(h:bX P f=true)(args:Array Value)(w:World):(callFunc f args).run P w=.ok (.enter f args) w:=by
 unfold bX at h
 split at h
 ·simp at h
 ·rename_i fn hf
  simp only[Bool.and_eq_true,Bool.not_eq_true']at h
  obtain⟨h1,h2⟩:=h
  have h3:fn.body.isNone=false:=by cases hb:fn.body<;>simp_all
  simp only[callFunc,Sem.run_bind,run_program,Result.andThen_ok,hf,show(fn.name== "runtime.NumGoroutine")=false from h1,h3,Bool.false_eq_true,if_false]
  rfl
theorem iR.op{o:Oper}{c:Call}{ρ:Operand→Value}{x:Operand}(ho:o.op=.call c)(hc:c.callee=.value x)(h:iR P g (ρ x) (c.args.toList.map ρ).toArray H K KP):gm P g o ρ H K KP:=by
 obtain⟨f,first,captured,hf,fw,ud⟩:=h
 rw[mapList]at ud
 intro w hw
 have hr:(execOp ρ o).run P w=.ok (.enter f (first++c.args.map ρ++captured)) w:=by
  simp only[execOp,ho,resolve,hc,Deferred.ofValue,hf,invoke]
  show(callFunc f (first++c.args.map ρ++captured)).run P w=_
  exact c6 fw _ w
 rw[hr]
 exact ud w hw
theorem nv{o:Oper}{ρ:Operand→Value}(hρ:∀f,ρ (.func f)=.func (.func f) #[] #[])(h:wG P g o ρ H K KP):gm P g o ρ H K KP:=by
 unfold wG at h
 split at h
 case h_1 t hop=>
  split at h
  ·rename_i z hz
   obtain⟨i,hi,lu⟩:=bt hz
   refine gm.ofValue (s:=Instr.alloc t true (.tuple #[])) (by simp only[execOp,hop]) fun w hw=>⟨_,_,_,?_,hw.alloc _,h _ hw.fresh⟩
   simp[Instr.alloc,bV hi lu,newVar,newRow]
  ·exact h.elim
 case h_2 t x hop=>
  refine gm.ofValue (s:=Instr.box t (ρ x)) (by simp only[execOp,hop]) fun w hw=>⟨_,_,_,?_,hw.alloc _,h _ hw.fresh⟩
  simp[Instr.box,newVar,newRow]
 case h_3 t a x hop=>
  split at h
  ·rename_i n hn
   obtain⟨i,hi,hin⟩:=aH hn
   exact gm.js (s:=Instr.storeAt t (ρ a) (ρ x)) (by simp only[execOp,hop]) fun w hw=>h.run hw hi hin
  ·exact h.elim
 case h_4 t len parts hop=>
  obtain⟨cs,e,n,z,ht,hn,hz,hl,hf,hk⟩:=h
  obtain⟨i,hi,hin⟩:=aH hn
  obtain⟨i',hi',lu⟩:=bt hz
  have:i'=i:=Option.some.inj (hi'.symm.trans hi)
  subst this
  subst hin
  refine gm.ofValue (s:=Instr.buildSlice t len (parts.map fun(i,x)=>(i,ρ x))) (by simp only[execOp,hop]) fun w hw=>⟨_,_,_,?_,hw.alloc _,hk _ hw.fresh⟩
  have hl':¬(len*i'.size>2^24):=by omega
  have nE:(parts.map fun(x:Nat×Operand)=>(x.1,ρ x.2)).toList=parts.toList.map fun p=>(p.1,ρ p.2):=by rw[Array.toList_map]
  by_cases h0:len*i'.size=0
  ·simp only[Instr.buildSlice,Sem.run_bind,run_underlying ht,Result.andThen_ok,run_sizeOf hi,hl',if_false,h0,if_true,Sem.run_pure]
   rw[h0]at hf
   have Av:Array.range 0=#[]:=rfl
   simp only[Av,Array.map_empty,List.map_toArray,List.map_nil]at hf⊢
   rw[nE,hf]
   simp[newRow]
  ·simp only[Instr.buildSlice,Sem.run_bind,run_underlying ht,Result.andThen_ok,run_sizeOf hi,hl',if_false,h0,bV hi lu,Sem.run_pure]
   simp[hf,newRow]
 case h_5 t hop=>
  refine gm.ofValue (s:=Instr.makeMap t none) (by simp only[execOp,hop];rfl) fun w hw=>⟨_,_,_,?_,hw.alloc _,h _ hw.fresh⟩
  simp[Instr.makeMap]
 case h_6 t l c hop=>
  split at h<;>try exact h.elim
  rename_i e ht
  split at h<;>try exact h.elim
  rename_i n b z hn hb hz
  obtain⟨i,hi,hin⟩:=aH hn
  obtain⟨i',hi',lu⟩:=bt hz
  obtain⟨i2,rF,xF⟩:=eX hb
  have e1:i'=i:=Option.some.inj (hi'.symm.trans hi)
  have e2:i2=i:=Option.some.inj (rF.symm.trans hi)
  subst e1;subst e2
  exact gm.ofValue (s:=Instr.makeSlice t (ρ l) (ρ c)) (by simp only[execOp,hop]) fun w hw=>h.run hw ht hi lu hin xF
 case h_7 t m key x hop=>
  split at h<;>try exact h.elim
  rename_i kt e ht
  split at h<;>try exact h.elim
  rename_i kd rD
  cases hp:plainKey kd<;>simp only[hp,cond_true,cond_false]at h
  ·cases gV:aV kd<;>simp only[gV,cond_true,cond_false]at h
   ·exact h
   ·exact gm.js (s:=Instr.mapUpdate t (ρ m) (ρ key) (ρ x)) (by simp only[execOp,hop]) fun w hw=>h.run hw ht rD gV
  ·exact gm.js (s:=Instr.mapUpdate t (ρ m) (ρ key) (ρ x)) (by simp only[execOp,hop]) fun w hw=>h.run hw ht rD hp
 case h_8 t m key x hop=>
  split at h<;>try exact h.elim
  rename_i kt e ht
  split at h<;>try exact h.elim
  rename_i kd rD
  cases hp:plainKey kd<;>simp only[hp,cond_true,cond_false]at h
  ·cases gV:aV kd<;>simp only[gV,cond_true,cond_false]at h
   ·exact h
   ·exact gm.js (s:=Instr.mapUpdate t (ρ m) (ρ key) (ρ x)) (by simp only[execOp,hop]) fun w hw=>h.run hw ht rD gV
  ·exact gm.js (s:=Instr.mapUpdate t (ρ m) (ρ key) (ρ x)) (by simp only[execOp,hop]) fun w hw=>h.run hw ht rD hp
 case h_9 t x hop=>
  split at h
  ·rename_i kt e ht
   exact gm.ofValue (s:=Instr.range t (ρ x)) (by simp only[execOp,hop]) fun w hw=>h.run hw ht
  ·exact h
 case h_10 it hop=>
  exact gm.ofValue (s:=Instr.next (ρ it) false o.type) (by simp only[execOp,hop]) fun w hw=>h.run hw
 case h_11 it hop=>
  exact gm.ofValue (s:=Instr.entry (ρ it)) (by simp only[execOp,hop]) fun w hw=>let ⟨v,hr,hk⟩:=h.run hw;⟨v,w,H,hr,hw,hk⟩
 case h_12 c hop=>
  split at h
  ·rename_i f hc
   cases fw:bX P f<;>simp only[fw,cond_true,cond_false]at h
   ·exact h
   ·rw[mapList]at h
    intro w hw
    have hr:(execOp ρ o).run P w=.ok (.enter f (c.args.map ρ)) w:=by
     simp only[execOp,hop,resolve,hc,Deferred.ofValue,hρ,invoke]
     show(callFunc f ((#[]++c.args.map ρ)++ #[])).run P w=_
     rw[Array.empty_append,Array.append_empty]
     exact c6 fw _ w
    rw[hr]
    exact h w hw
  ·rename_i x _ hc
   exact iR.op hop hc h
  ·rename_i hc
   split at h<;>try exact h.elim
   rename_i s x t t' hx ht
   have hx:=mV hx
   have ht:=mV ht
   split at h
   ·rename_i e e' hd CW
    split at h<;>try exact h.elim
    rename_i n b z hn hb hz
    obtain⟨i,hi,hin⟩:=aH hn
    obtain⟨i',hi',lu⟩:=bt hz
    obtain⟨i2,rF,xF⟩:=eX hb
    have e1:i'=i:=Option.some.inj (hi'.symm.trans hi)
    have e2:i2=i:=Option.some.inj (rF.symm.trans hi)
    subst e1;subst e2
    refine gm.ofValue (s:=Builtin.append_ #[t,t'] o.type #[ρ s,ρ x]) ?_ fun w hw=>h.run hw hd ⟨_,CW⟩ hi lu hin xF
    simp only[execOp,hop,resolve,hc,hx,ht,invoke,builtin]
    simp[bind,Sem.bind];rfl
   ·exact h
  ·rename_i hc
   split at h
   ·rename_i m key t t' hx ht
    have hx:=mV hx
    have ht:=mV ht
    split at h<;>try exact h.elim
    rename_i kt e hd
    split at h<;>try exact h.elim
    rename_i kd rD
    cases hp:plainKey kd<;>simp only[hp,cond_true,cond_false]at h
    ·cases gV:aV kd<;>simp only[gV,cond_true,cond_false]at h
     ·exact h
     ·refine gm.ofValue (s:=Builtin.delete_ #[t,t'] o.type #[ρ m,ρ key]) ?_ fun w hw=>?_
      ·simp only[execOp,hop,resolve,hc,hx,ht,invoke,builtin]
       simp[bind,Sem.bind];rfl
      ·obtain⟨w',H',hr,ho,hk⟩:=h.run (P:=P) hw (as:=#[t,t']) (ty:=o.type) rfl hd rD gV
       exact⟨_,w',H',hr,ho,hk⟩
    ·refine gm.ofValue (s:=Builtin.delete_ #[t,t'] o.type #[ρ m,ρ key]) ?_ fun w hw=>?_
     ·simp only[execOp,hop,resolve,hc,hx,ht,invoke,builtin]
      simp[bind,Sem.bind];rfl
     ·obtain⟨w',H',hr,ho,hk⟩:=h.run (P:=P) hw (as:=#[t,t']) (ty:=o.type) rfl hd rD hp
      exact⟨_,w',H',hr,ho,hk⟩
   ·exact h
  ·exact h
 all_goals exact h
end
end Go.Sx
namespace Go.Sx
open Go
section
variable {P:Program} {g:Gh} {ds:List Deferred}
def jC:Op→Bool
 | .move _| .assign _| .pick .. | .load .. | .nilCheck _| .binOp .. | .unOp .. | .convert .. | .fieldAddr .. | .field .. | .indexAddr .. | .index .. | .slice .. | .extract .. | .lookup .. | .makeFunc .. | .build .. | .makeInterface ..
 | .typeAssert .. =>true
 | .call c=>match c.callee with
  | .builtin .len| .builtin .cap| .builtin .min| .builtin .max=>true
  |_=>false
 |_=>false
def uz(P:Program)(g:Gh)(f:FuncId)(args:Array Value)(H:Hp)(k:Value→Prop):Prop:=
 ∃v,aj P g f args H (fun e H'=>e=.returned v∧H'=H)∧k v
def Ab(P:Program)(g:Gh)(o:Oper)(ρ:Operand→Value)(H:Hp)(k:Value→Prop):Prop:=
 match o.op with
 | .call c=>match c.callee with
  | .value (.func f)=>cond (bX P f) (uz P g f (c.args.toList.map ρ).toArray H k) False
  | .value x=>∃f first captured,ρ x=.func (.func f) first captured∧bX P f=true∧uz P g f (first++(c.args.toList.map ρ).toArray++captured) H k
  |_=>False
 |_=>False
def aP:Option (Nat×Bool)→Option (Nat×Bool)→Bool
 |none,none=>true
 |some (i,a),some (j,b)=>Nat.beq i j&& (a==b)
 |_,_=>false
theorem cY{x y:Option (Nat×Bool)}(h:aP x y=true):x=y:=by
 cases x with
 |none=>cases y<;>simp_all[aP]
 |some a=>
  obtain⟨i,a⟩:=a
  cases y with
  |none=>simp[aP]at h
  |some b=>
   obtain⟨j,b⟩:=b
   simp only[aP,Bool.and_eq_true,beq_iff_eq]at h
   rw[Nat.eq_of_beq_eq_true h.1,h.2]
def cH(cur:Option (Nat×Bool)):List Oper→List Oper
 | []=>[]
 |o::r=>cond (aP o.guard cur) [] (o::cH cur r)
def cW(cur:Option (Nat×Bool)):List Oper→List Oper
 | []=>[]
 |o::r=>cond (aP o.guard cur) (o::r) (cW cur r)
theorem iC(cur:Option (Nat×Bool))(l:List Oper):cH cur l++cW cur l=l:=by
 induction l with
 |nil=>rfl
 |cons o r ih=>simp only[cH,cW];cases aP o.guard cur<;>simp[ih]
def iD:List Oper→Fr→Fr
 | [],fr=>fr
 |o::r,fr=>iD r (bF fr o.dst undef)
def aJ:List Oper→Nat→Bool
 | [],_=>false
 |o::r,s=>(match o.dst with|some d=>Nat.beq s d|none=>false)||aJ r s
def dm(n:Nat):List Oper→Bool
 | []=>true
 |o::r=>cu n o.dst&&dm n r
def lF(G:List Oper)(gs fr:Fr):Fr:=fun s=>cond (aJ G s) (gs s) (fr s)
def fX(p:Oper)(fr:Fr):Value:=
 match p.op with
 | .pick c a b=>match ev fr c with
  | .bool t=>cond t (ev fr a) (ev fr b)
  |_=>undef
 |_=>undef
def h9(p:Oper):Bool:=match p.op with| .pick .. =>true|_=>false
def bE(ops:Array Oper)(j:Nat):Option Nat:=match ops[j]? with|some oj=>oj.dst|none=>none
def eK(ops:Array Oper)(s:Nat)(want:Bool):List Nat→List Oper→Bool
 |_,[]=>true
 |seen,o::r=>
  (match o.guard with
  |none=>false
  |some (j,w)=>match bE ops j with
   |none=>false
   |some t=>(Nat.beq t s&& (w==want))||seen.any (Nat.beq t)) &&
  eK ops s want (match o.dst with|some d=>d::seen|none=>seen) r
def cw(v:Value)(want:Bool)(inner els k:Bool→Prop):Prop:=∃a t:Bool,v=.bool a∧(a=want→inner t)∧(a= !want→els t)∧k t
def Split(v:Value)(want:Bool)(k1 k2:Prop):Prop:=∃a:Bool,v=.bool a∧(a=want→k1)∧(a= !want→k2)
def dZ:List (Nat×Bool)→Nat→Option Bool
 | [],_=>none
 |(t,b)::r,s=>cond (Nat.beq t s) (some b) (dZ r s)
def eA:List (Nat×Bool)→Option Nat→List (Nat×Bool)
 |kn,none=>kn
 | [],some _=>[]
 |(t,b)::r,some d=>cond (Nat.beq t d) (eA r (some d)) ((t,b)::eA r (some d))
def eu:List (Nat×Bool)→List Oper→List (Nat×Bool)
 |kn,[]=>kn
 |kn,o::r=>eu (eA kn o.dst) r
def gE(kn:List (Nat×Bool)):Operand→Option Bool
 | .const (.bool b)=>some b
 | .tmp t=>dZ kn t
 |_=>none
def uK(kn:List (Nat×Bool))(o:Oper):Option Bool:=
 match o.op with
 | .move x=>gE kn x
 | .assign x=>gE kn x
 | .pick c a b=>match gE kn c with
  |some true=>gE kn a
  |some false=>gE kn b
  |none=>none
 |_=>none
def uJ(kn:List (Nat×Bool))(o:Oper):List (Nat×Bool):=
 match uK kn o,o.dst with
 |some b,some d=>(d,b)::eA kn (some d)
 |_,d=>eA kn d
def c9(kn:List (Nat×Bool))(fr:Fr):Prop:=∀s b,dZ kn s=some b→fr s=.bool b
theorem c9.nil(fr:Fr):c9 [] fr:=fun s b h=>by simp[dZ]at h
theorem kH{kn:List (Nat×Bool)}{d s:Nat}{b:Bool}(h:dZ (eA kn (some d)) s=some b):s≠d∧dZ kn s=some b:=by
 induction kn with
 |nil=>simp[eA,dZ]at h
 |cons x r ih=>
  obtain⟨t,c⟩:=x
  simp only[eA]at h
  cases hb:Nat.beq t d<;>simp only[hb,cond_true,cond_false]at h
  ·simp only[dZ]at h⊢
   cases hs:Nat.beq t s<;>simp only[hs,cond_true,cond_false]at h⊢
   ·exact ih h
   ·refine⟨fun e=>?_,h⟩
    have:=Nat.eq_of_beq_eq_true hs
    subst this;subst e;simp at hb
  ·have h':=ih h
   refine⟨h'.1,?_⟩
   simp only[dZ]
   have:=Nat.eq_of_beq_eq_true hb
   subst this
   cases hs:Nat.beq t s
   ·exact h'.2
   ·exact absurd (Nat.eq_of_beq_eq_true hs).symm h'.1
theorem c9.del{kn:List (Nat×Bool)}{fr:Fr}(h:c9 kn fr)(d:Option Nat)(v:Value):c9 (eA kn d) (bF fr d v):=by
 cases d with
 |none=>cases kn<;>exact h
 |some d=>
  intro s b hs
  obtain⟨h1,h2⟩:=kH hs
  simp only[bF]
  cases hb:Nat.beq s d
  ·exact h s b h2
  ·exact absurd (Nat.eq_of_beq_eq_true hb) h1
theorem c9.put{kn:List (Nat×Bool)}{fr:Fr}(h:c9 kn fr){s:Nat}{b:Bool}(hs:fr s=.bool b):c9 ((s,b)::kn) fr:=by
 intro t c ht
 simp only[dZ]at ht
 cases hb:Nat.beq s t<;>simp only[hb,cond_true,cond_false]at ht
 ·exact h t c ht
 ·have:=Nat.eq_of_beq_eq_true hb;subst this;simp only[Option.some.injEq]at ht;subst ht;exact hs
theorem dY{kn:List (Nat×Bool)}{fr:Fr}(h:c9 kn fr){x:Operand}{b:Bool}(hx:gE kn x=some b):ev fr x=.bool b:=by
 cases x with
 |tmp t=>exact h t b hx
 |const v=>cases v<;>simp[gE]at hx;subst hx;rfl
 |global g=>simp[gE]at hx
 |func f=>simp[gE]at hx
theorem sZ{kn:List (Nat×Bool)}{fr:Fr}(h:c9 kn fr){o:Oper}{v:Value}(hv:valOf o (ev fr) v){b:Bool}(hb:uK kn o=some b):v=.bool b:=by
 unfold uK at hb
 unfold valOf at hv
 split at hb
 ·rename_i x hop;rw[hop]at hv;exact hv.trans (dY h hb)
 ·rename_i x hop;rw[hop]at hv;exact hv.trans (dY h hb)
 ·rename_i c a b' hop
  rw[hop]at hv
  split at hb
  ·rename_i hc;rw[hv _ (dY h hc)];exact dY h hb
  ·rename_i hc;rw[hv _ (dY h hc)];exact dY h hb
  ·simp at hb
 ·simp at hb
theorem c9.up{kn:List (Nat×Bool)}{fr:Fr}(h:c9 kn fr){o:Oper}{v:Value}(hv:valOf o (ev fr) v):c9 (uJ kn o) (bF fr o.dst v):=by
 unfold uJ
 split
 ·rename_i b d hb hd
  rw[hd]
  exact(h.del (some d) v).put (by simp[bF,sZ h hv hb])
 ·exact h.del _ _
theorem c9.yb{kn:List (Nat×Bool)}{fr fr':Fr}:∀(l:List Oper),c9 kn fr→(∀s,aJ l s=false→fr' s=fr s)→c9 (eu kn l) fr':=by
 intro l
 have key:∀(l:List Oper) (kn:List (Nat×Bool)) (s:Nat) (b:Bool),dZ (eu kn l) s=some b→aJ l s=false∧dZ kn s=some b:=by
  intro l
  induction l with
  |nil=>intro kn s b h;exact⟨rfl,h⟩
  |cons o r ih=>
   intro kn s b h
   simp only[eu]at h
   obtain⟨h1,h2⟩:=ih _ s b h
   simp only[aJ,h1,Bool.or_false]
   cases hd:o.dst with
   |none=>rw[hd]at h2;exact⟨rfl,by cases kn<;>exact h2⟩
   |some d=>
    rw[hd]at h2
    obtain⟨h3,h4⟩:=kH h2
    refine⟨?_,h4⟩
    cases hb:Nat.beq s d
    ·exact hb
    ·exact absurd (Nat.eq_of_beq_eq_true hb) h3
 intro h ho s b hs
 obtain⟨h1,h2⟩:=key l kn s b hs
 rw[ho s h1];exact h s b h2
def bK(P:Program)(g:Gh)(n:Nat)(ops:Array Oper)(gq:Bool):Nat→Bool→Option (Nat×Bool)→List (Nat×Bool)→List Oper→Fr→Hp→(List (Nat×Bool)→Fr→Hp→Prop)→(List PanicEntry→Hp→Prop)→Prop
 |0,_,_,_,_,_,_,_,_=>False
 |_+1,_,_,kn,[],fr,H,K,_=>K kn fr H
 |f+1,q,cur,kn,o::r,fr,H,K,KP=>
  cond (aP o.guard cur)
   (cond (cu n o.dst)
    (cond (jC o.op) (su P g o (ev fr) H fun v=>bK P g n ops gq f q cur (uJ kn o) r (bF fr o.dst v) H K KP)
     (cond q (Ab P g o (ev fr) H fun v=>bK P g n ops gq f q cur (eA kn o.dst) r (bF fr o.dst v) H K KP)
      (wG P g o (ev fr) H (fun v H'=>bK P g n ops gq f q cur (eA kn o.dst) r (bF fr o.dst v) H' K KP) KP))) False)
   (match o.guard with
   |none=>False
   |some (j,want)=>
    match bE ops j with
    |none=>False
    |some s=>
     cond (cu n (some s) &&dm n (cH cur (o::r)) && !aJ (cH cur (o::r)) s&&eK ops s want [] (cH cur (o::r)))
     (match dZ kn s with
     |some b=>cond (b==want)
       (bK P g n ops gq f q o.guard kn (cH cur (o::r)) fr H (fun gF fr' H'=>bK P g n ops gq f q cur gF (cW cur (o::r)) fr' H' K KP) KP)
       (bK P g n ops gq f q cur (eu kn (cH cur (o::r))) (cW cur (o::r)) (iD (cH cur (o::r)) fr) H K KP)
     |none=>
     cond (q||gq)
      (match cW cur (o::r)with
      | []=>False
      |p::r'=>
       cond (h9 p&&cu n p.dst)
       (cw (fr s) want
        (fun t=>bK P g n ops gq f true o.guard ((s,want)::kn) (cH cur (o::r)) (bF fr (some s) (.bool want)) H (fun _ fr' H'=>H'=H∧fX p fr'=.bool t) (fun _ _=>False))
        (fun t=>fX p (iD (cH cur (o::r)) (bF fr (some s) (.bool !want)))=.bool t)
        (fun t=>∀gs,bK P g n ops gq f q cur (eA (eu kn (cH cur (o::r))) p.dst) r' (bF (lF (cH cur (o::r)) gs fr) p.dst (.bool t)) H K KP)) False)
      (Split (fr s) want
       (bK P g n ops gq f q o.guard ((s,want)::kn) (cH cur (o::r)) (bF fr (some s) (.bool want)) H (fun gF fr' H'=>bK P g n ops gq f q cur gF (cW cur (o::r)) fr' H' K KP) KP)
       (bK P g n ops gq f q cur ((s, !want)::eu kn (cH cur (o::r))) (cW cur (o::r)) (iD (cH cur (o::r)) (bF fr (some s) (.bool !want))) H K KP))) False)
theorem dR{fr:Fr}{s:Nat}{v:Value}(h:fr s=v):bF fr (some s) v=fr:=by
 funext x
 simp only[bF]
 cases hb:Nat.beq x s
 ·rfl
 ·have:=Nat.eq_of_beq_eq_true hb;subst this;simp[h]
theorem cf{fr:Fr}{d:Option Nat}{v:Value}{s:Nat}(h:aJ [({(default:Oper)with dst:=d})] s=false):bF fr d v s=fr s:=by
 cases d with
 |none=>rfl
 |some d=>simp only[aJ,Bool.or_false]at h;simp only[bF,h,cond_false]
theorem bj{o:Oper}{r:List Oper}{s:Nat}:aJ (o::r) s=(aJ [({(default:Oper)with dst:=o.dst})] s||aJ r s):=by
 simp[aJ]
theorem aL{a b:List Oper}{s:Nat}:aJ (a++b) s=(aJ a s||aJ b s):=by
 induction a with
 |nil=>simp[aJ]
 |cons o r ih=>simp only[List.cons_append,aJ,ih,Bool.or_assoc]
def bD(l:List Oper)(fr fr':Fr):Prop:=∀s,aJ l s=false→fr' s=fr s
def ed(ops:Array Oper)(cur:Option (Nat×Bool))(l:List Oper)(fr:Fr):Prop:=
 match cur with
 |none=>True
 |some (j,want)=>∃s,bE ops j=some s∧fr s=.bool want∧aJ l s=false
theorem ed.tail{ops:Array Oper}{cur:Option (Nat×Bool)}{o:Oper}{r:List Oper}{fr fr':Fr}(h:ed ops cur (o::r) fr)(he:∀s,aJ [({(default:Oper)with dst:=o.dst})] s=false→fr' s=fr s):ed ops cur r fr':=by
 unfold ed at*
 split
 ·trivial
 ·obtain⟨s,h1,h2,h3⟩:=h
  rw[bj,Bool.or_eq_false_iff]at h3
  exact⟨s,h1,(he s h3.1).trans h2,h3.2⟩
theorem eg{n:Nat}{ops:Array Oper}{a:Act}{fr:Fr}(h:bc ds n a fr){j s:Nat}(hs:bE ops j=some s):yielded ops a.tmps j=match fr s with| .bool b=>some b|_=>none:=by
 unfold bE at hs
 split at hs
 ·rename_i oj hj
  have hg:=h.get s
  rw[Array.getD_eq_getD_getElem?]at hg
  simp only[yielded,hj,Option.bind_some,hs]
  cases ht:a.tmps[s]? with
  |none=>rw[ht]at hg;simp only[Option.getD_none]at hg;rw[←hg];rfl
  |some v=>rw[ht]at hg;simp only[Option.getD_some]at hg;rw[←hg];cases v<;>rfl
 ·simp at hs
theorem ed.wanted{n:Nat}{ops:Array Oper}{cur:Option (Nat×Bool)}{l:List Oper}{fr:Fr}(h:ed ops cur l fr){o:Oper}(ho:o.guard=cur){a:Act}(ha:bc ds n a fr):Region.wanted o (yielded ops a.tmps)=true:=by
 unfold ed at h
 unfold Region.wanted
 rw[ho]
 split at h
 ·rfl
 ·obtain⟨s,h1,h2,_⟩:=h
  simp only[eg ha h1,h2,beq_self_eq_true]
theorem fW{p:Oper}{fr:Fr}{t:Bool}(hp:h9 p=true)(h:fX p fr=.bool t)(w:World):(execOp (ev fr) p).run P w=.ok (.value (.bool t)) w:=by
 unfold h9 at hp
 split at hp<;>try (simp at hp;done)
 rename_i c a b hop
 simp only[fX,hop]at h
 split at h
 ·rename_i t' hc
  simp only[execOp,hop,hc,asBool]
  cases t'<;>simp only[cond_true,cond_false]at h<;>simp[h]
 ·simp[undef]at h
theorem ff{n:Nat}{ops:Array Oper}{Q:Exit→Act→World→Prop}{s:Nat}{want:Bool}{w:World}{rest:List Oper}:∀(l:List Oper) (seen:List Nat) (fr:Fr) (a:Act),dm n l=true→aJ l s=false→eK ops s want seen l=true→
  fr s=.bool (!want)→(∀t∈seen,fr t=undef)→bc ds n a fr→(∀a',bc ds n a' (iD l fr)→wpList P ops Q rest a' w)→wpList P ops Q (l++rest) a w
 | [],_,fr,a,_,_,_,_,_,ha,hk=>hk a ha
 |o::r,seen,fr,a,hd,hi,hs,hf,jF,ha,hk=>by
  simp only[dm,Bool.and_eq_true]at hd
  rw[bj,Bool.or_eq_false_iff]at hi
  simp only[eK,Bool.and_eq_true]at hs
  obtain⟨pI,xf⟩:=hs
  have xw:Region.wanted o (yielded ops a.tmps)=false:=by
   unfold Region.wanted
   split at pI
   ·simp at pI
   ·rename_i j w' hg
    rw[hg]
    split at pI
    ·simp at pI
    ·rename_i t ht
     simp only[eg ha ht]
     simp only[Bool.or_eq_true,Bool.and_eq_true,beq_iff_eq]at pI
     rcases pI with⟨h1,rfl⟩|h1
     ·have:=Nat.eq_of_beq_eq_true h1;subst this
      rw[hf];cases w'<;>rfl
     ·obtain⟨u,hu,hb⟩:=List.any_eq_true.1 h1
      have:=Nat.eq_of_beq_eq_true hb;subst this
      rw[jF _ hu];rfl
  simp only[List.cons_append,wpList,xw,Bool.false_eq_true,if_false]
  refine ff r _ (bF fr o.dst undef) _ hd.2 hi.2 xf ?_ ?_ (ha.put hd.1 undef) (fun a' h'=>hk a' h')
  ·rw[cf hi.1,hf]
  ·intro t ht
   cases rH:o.dst with
   |none=>rw[rH]at ht;exact jF t ht
   |some d=>
    rw[rH]at ht
    simp only[bF]
    cases hb:Nat.beq t d
    ·simp only[cond_false]
     rcases List.mem_cons.1 ht with rfl|ht
     ·simp at hb
     ·exact jF t ht
    ·rfl
theorem fR{n:Nat}{ops:Array Oper}{C:World→Prop}{Q:Act→Prop}{s:Nat}{want:Bool}{rest:List Oper}:∀(l:List Oper) (seen:List Nat) (fr:Fr) (a:Act),dm n l=true→aJ l s=false→eK ops s want seen l=true→
  fr s=.bool (!want)→(∀t∈seen,fr t=undef)→bc ds n a fr→(∀a',bc ds n a' (iD l fr)→wpQuiet P ops C Q rest a')→wpQuiet P ops C Q (l++rest) a
 | [],_,fr,a,_,_,_,_,_,ha,hk=>hk a ha
 |o::r,seen,fr,a,hd,hi,hs,hf,jF,ha,hk=>by
  simp only[dm,Bool.and_eq_true]at hd
  rw[bj,Bool.or_eq_false_iff]at hi
  simp only[eK,Bool.and_eq_true]at hs
  obtain⟨pI,xf⟩:=hs
  have xw:Region.wanted o (yielded ops a.tmps)=false:=by
   unfold Region.wanted
   split at pI
   ·simp at pI
   ·rename_i j w' hg
    rw[hg]
    split at pI
    ·simp at pI
    ·rename_i t ht
     simp only[eg ha ht]
     simp only[Bool.or_eq_true,Bool.and_eq_true,beq_iff_eq]at pI
     rcases pI with⟨h1,rfl⟩|h1
     ·have:=Nat.eq_of_beq_eq_true h1;subst this
      rw[hf];cases w'<;>rfl
     ·obtain⟨u,hu,hb⟩:=List.any_eq_true.1 h1
      have:=Nat.eq_of_beq_eq_true hb;subst this
      rw[jF _ hu];rfl
  simp only[List.cons_append,wpQuiet,xw,Bool.false_eq_true,if_false]
  refine fR r _ (bF fr o.dst undef) _ hd.2 hi.2 xf ?_ ?_ (ha.put hd.1 undef) (fun a' h'=>hk a' h')
  ·rw[cf hi.1,hf]
  ·intro t ht
   cases rH:o.dst with
   |none=>rw[rH]at ht;exact jF t ht
   |some d=>
    rw[rH]at ht
    simp only[bF]
    cases hb:Nat.beq t d
    ·simp only[cond_false]
     rcases List.mem_cons.1 ht with rfl|ht
     ·simp at hb
     ·exact jF t ht
    ·rfl
theorem aY:∀(l:List Oper) (fr:Fr),bD l fr (iD l fr)
 | [],fr=>fun s _=>rfl
 |o::r,fr=>fun s hs=>by
  rw[bj,Bool.or_eq_false_iff]at hs
  rw[iD,aY r _ s hs.2,cf hs.1]
end
end Go.Sx
namespace Go.Sx
open Go
section
variable {P:Program} {g:Gh} {ds:List Deferred}
theorem jc(fr:Fr):∀f,ev fr (.func f)=.func (.func f) #[] #[]:=fun _=>rfl
theorem oI{o:Oper}{fr:Fr}{H:Hp}{k:Value→Prop}(h:Ab P g o (ev fr) H k):
  ∃v f args,(∀w,(execOp (ev fr) o).run P w=.ok (.enter f args) w)∧aj P g f args H (fun e H'=>e=.returned v∧H'=H)∧k v:=by
 unfold Ab at h
 split at h<;>try exact h.elim
 rename_i c hop
 split at h<;>try exact h.elim
 ·rename_i f hc
  cases fw:bX P f<;>simp only[fw,cond_true,cond_false]at h
  obtain⟨v,hs,hk⟩:=h
  rw[mapList]at hs
  refine⟨v,f,_,fun w=>?_,hs,hk⟩
  simp only[execOp,hop,resolve,hc,Deferred.ofValue,jc,invoke]
  show(callFunc f ((#[]++c.args.map (ev fr))++ #[])).run P w=_
  rw[Array.empty_append,Array.append_empty]
  exact c6 fw _ w
 ·rename_i x _ hc
  obtain⟨f,first,captured,hf,fw,v,hs,hk⟩:=h
  rw[mapList]at hs
  refine⟨v,f,_,fun w=>?_,hs,hk⟩
  simp only[execOp,hop,resolve,hc,Deferred.ofValue,hf,invoke]
  show(callFunc f (first++c.args.map (ev fr)++captured)).run P w=_
  exact c6 fw _ w
theorem m4.upon{o:Oper}{a:Act}{K:Value→Hp→Prop}{KP:List PanicEntry→Hp→Prop}{next:Act→World→Prop}{Q:Exit→Act→World→Prop}{r:Result Next}
 (h:m4 P g K KP r)(hn:∀v H' w',Own g H' w'→K v H'→next (a.put o.dst v) w')(hp:∀ch H' w',Own g H' w'→KP ch H'→Q (.panic ch) a w'):o.upon P a next Q r:=by
 cases r with
 |ok n w'=>
  cases n<;>simp only[m4]at h<;>simp only[Oper.upon]
  case value v=>obtain⟨H',ho,hk⟩:=h;exact hn _ _ _ ho hk
  case skip=>obtain⟨H',ho,hk⟩:=h;exact hn _ _ _ ho hk
  case enter f args=>
   refine h.mono fun e w'' ⟨H',ho,hk⟩=>?_
   cases e with
   |returned v=>exact hn _ _ _ ho hk
   |panicked ch=>exact hp _ _ _ ho hk
   |outgrown=>exact hk.elim
 |halt x w'=>
  cases x<;>simp only[m4]at h
  case panic v=>obtain⟨H',ho,hk⟩:=h;exact hp _ _ _ ho hk
theorem bD.refl(l:List Oper)(fr:Fr):bD l fr fr:=fun _ _=>rfl
theorem bD.cons{o:Oper}{r:List Oper}{fr fr':Fr}{v:Value}(h:bD r (bF fr o.dst v) fr'):bD (o::r) fr fr':=fun s hs=>by
 rw[bj,Bool.or_eq_false_iff]at hs
 rw[h s hs.2,cf hs.1]
theorem aW{n:Nat}{ops:Array Oper}{gq:Bool}:∀(f:Nat) (q:Bool) (cur:Option (Nat×Bool)) (kn:List (Nat×Bool)) (l:List Oper) (fr:Fr) (H:Hp) (K:List (Nat×Bool)→Fr→Hp→Prop) (KP:List PanicEntry→Hp→Prop),
  bK P g n ops gq f q cur kn l fr H K KP→ed ops cur l fr→c9 kn fr→∀(a:Act) (w:World),bc ds n a fr→Own g H w→∀(rest:List Oper) (Q:Exit→Act→World→Prop),
  (∀a' w' gF fr' H',bc ds n a' fr'→Own g H' w'→bD l fr fr'→c9 gF fr'→K gF fr' H'→wpList P ops Q rest a' w')→
  (∀ch a' w' fr' H',bc ds n a' fr'→Own g H' w'→KP ch H'→Q (.panic ch) a' w')→wpList P ops Q (l++rest) a w
 |0,_,_,_,_,_,_,_,_,h=>h.elim
 |f+1,q,cur,kn,[],fr,H,K,KP,h=>fun _ hkn a w ha hw rest Q hk _=>hk a w kn fr H ha hw (bD.refl _ _) hkn h
 |f+1,q,cur,kn,o::r,fr,H,K,KP,h=>by
  intro iW hkn a w ha hw rest Q hk hp
  unfold bK at h
  cases xe:aP o.guard cur<;>simp only[xe,cond_true,cond_false]at h
  case true=>
   have hg:=cY xe
   have fF:=iW.wanted hg ha
   cases hd:cu n o.dst<;>simp only[hd,cond_true,cond_false]at h
   simp only[List.cons_append,wpList,fF,if_true]
   refine .inl ?_
   unfold Oper.wp
   rw[ha.eval]
   cases mH:jC o.op<;>simp only[mH,cond_true,cond_false]at h
   case true=>
    obtain⟨v,hk',hr,hv⟩:=oJ h
    rw[hr w hw]
    exact aW f q cur _ r _ H K KP hk' (iW.tail fun s hs=>cf hs) (hkn.up hv) _ w (ha.put hd v) hw rest Q (fun a' w' gF fr' H' h1 h2 h3 h5 h4=>hk a' w' gF fr' H' h1 h2 h3.cons h5 h4) hp
   case false=>
    cases q<;>simp only[cond_true,cond_false]at h
    case true=>
     obtain⟨v,f',args,hr,hs,hk'⟩:=oI h
     rw[hr w]
     refine(hs w hw).mono fun e w'' ⟨H',ho,he,hH⟩=>?_
     subst he;subst hH
     exact aW f true cur _ r _ H' K KP hk' (iW.tail fun s hs=>cf hs) (hkn.del _ _) _ w'' (ha.put hd v) ho rest Q (fun a' w' gF fr' H' h1 h2 h3 h5 h4=>hk a' w' gF fr' H' h1 h2 h3.cons h5 h4) hp
    case false=>
     refine(nv (jc fr) h w hw).upon (fun v H' w' ho hk'=>?_) (fun ch H' w' ho hk'=>hp ch a w' fr H' ha ho hk')
     exact aW f false cur _ r _ H' K KP hk' (iW.tail fun s hs=>cf hs) (hkn.del _ _) _ w' (ha.put hd v) ho rest Q (fun a' w' gF fr' H' h1 h2 h3 h5 h4=>hk a' w' gF fr' H' h1 h2 h3.cons h5 h4) hp
  case false=>
   split at h<;>try exact h.elim
   rename_i j want vN
   split at h<;>try exact h.elim
   rename_i s dF
   generalize hG:cH cur (o::r)=G at h
   generalize hR:cW cur (o::r)=R at h
   have oQ:G++R=o::r:=by rw[←hG,←hR];exact iC _ _
   cases cm:(cu n (some s) &&dm n G&& !aJ G s&&eK ops s want [] G)<;>simp only[cm,cond_true,cond_false]at h
   simp only[Bool.and_eq_true,Bool.not_eq_true']at cm
   obtain⟨⟨⟨hds,vX⟩,qv⟩,vM⟩:=cm
   rw[←oQ,List.append_assoc]
   have C6:∀fr',bD G fr fr'→∀s,aJ (o::r) s=false→fr' s=fr s:=fun fr' ho s hs=>by
    rw[←oQ,aL,Bool.or_eq_false_iff]at hs
    exact ho s hs.1
   have eU:∀fr',bD G fr fr'→ed ops cur R fr':=fun fr' ho=>by
    unfold ed at iW⊢
    split
    ·trivial
    ·obtain⟨t,h1,h2,h3⟩:=iW
     have pQ:=h3
     rw[←oQ,aL,Bool.or_eq_false_iff]at pQ
     exact⟨t,h1,(ho t pQ.1).trans h2,pQ.2⟩
   have pL:∀fr',bD G fr fr'→c9 (eu kn G) fr':=fun fr' ho=>hkn.yb G ho
   split at h
   ·rename_i b hb
    have iM:=hkn s b hb
    cases tg:(b==want)<;>simp only[tg,cond_true,cond_false]at h
    ·have fx:b= !want:=by cases b<;>cases want<;>simp_all
     subst fx
     refine ff G [] fr a vX qv vM iM (fun t ht=>by simp at ht) ha fun a' cC=>?_
     refine aW f q cur _ R _ H K KP h (eU _ (aY G fr)) (pL _ (aY G fr)) a' w cC hw rest Q (fun a2 w2 nB iP H2 k1 k2 k3 k5 k4=>hk a2 w2 nB iP H2 k1 k2 ?_ k5 k4) hp
     intro x hx
     have hx':=hx
     rw[←oQ,aL,Bool.or_eq_false_iff]at hx'
     rw[k3 x hx'.2,aY G fr x hx'.1]
    ·have fx:b=want:=by cases b<;>cases want<;>simp_all
     subst fx
     refine aW f q o.guard kn G fr H _ KP h ?_ hkn a w ha hw (R++rest) Q ?_ hp
     ·rw[vN];exact⟨s,dF,iM,qv⟩
     ·intro a' w' gF fr' H' g1 g2 g3 g5 g4
      refine aW f q cur gF R fr' H' K KP g4 (eU fr' g3) g5 a' w' g1 g2 rest Q (fun a2 w2 nB iP H2 k1 k2 k3 k5 k4=>hk a2 w2 nB iP H2 k1 k2 ?_ k5 k4) hp
      intro x hx
      have hx':=hx
      rw[←oQ,aL,Bool.or_eq_false_iff]at hx'
      rw[k3 x hx'.2,g3 x hx'.1]
   rename_i uV
   cases Ax:(q||gq)<;>simp only[Ax,cond_true,cond_false]at h
   case true=>
    split at h<;>try exact h.elim
    rename_i p r' 
    have AB:aP p.guard cur=true:=by
     have:∀l:List Oper,cW cur l=p::r'→aP p.guard cur=true:=by
      intro l
      induction l with
      |nil=>intro e;simp[cW]at e
      |cons x y ih=>
       intro e
       simp only[cW]at e
       cases hx:aP x.guard cur<;>simp only[hx,cond_true,cond_false]at e
       ·exact ih e
       ·simp only[List.cons.injEq]at e;rw[←e.1];exact hx
     exact this _ hR
    cases hpk:(h9 p&&cu n p.dst)<;>simp only[hpk,cond_true,cond_false]at h
    simp only[Bool.and_eq_true]at hpk
    obtain⟨b,t,iM,h1,h2,h3⟩:=h
    have cJ:∀(a':Act) (w':World) (fr':Fr),bc ds n a' fr'→Own g H w'→bD G fr fr'→fX p fr'=.bool t→wpList P ops Q (p::r'++rest) a' w':=by
     intro a' w' fr' cC cG ho xm
     have fF:=(eU fr' ho).wanted (cY AB) cC
     simp only[List.cons_append,wpList,fF,if_true]
     refine .inl ?_
     unfold Oper.wp
     rw[cC.eval,fW hpk.1 xm w']
     have rG:lF G fr' fr=fr':=by
      funext x
      simp only[lF]
      cases hx:aJ G x
      ·exact(ho x hx).symm
      ·rfl
     have pQ:=h3 fr'
     rw[rG]at pQ
     refine aW f q cur _ r' _ H K KP pQ ((eU fr' ho).tail fun s hs=>cf hs) ((pL fr' ho).del _ _) _ w' (cC.put hpk.2 _) cG rest Q (fun a2 w2 nB iP H2 g1 g2 g3 g5 g4=>hk a2 w2 nB iP H2 g1 g2 ?_ g5 g4) hp
     intro x hx
     have hx':=hx
     rw[←oQ,aL,Bool.or_eq_false_iff,bj,Bool.or_eq_false_iff]at hx'
     rw[g3 x hx'.2.2,cf hx'.2.1,ho x hx'.1]
    by_cases tg:b=want
    ·subst tg
     have uk:=h1 rfl
     rw[dR iM]at uk
     refine aW f true o.guard _ G fr H _ _ uk ?_ (hkn.put iM) a w ha hw (p::r'++rest) Q ?_ ?_
     ·rw[vN];exact⟨s,dF,iM,qv⟩
     ·intro a' w' gF fr' H' g1 g2 g3 _ ⟨g4,g5⟩
      subst g4
      exact cJ a' w' fr' g1 g2 g3 g5
     ·intro _ _ _ _ _ _ _ h0;exact h0.elim
    ·have fx:b= !want:=by cases b<;>cases want<;>simp_all
     have uj:=h2 fx
     subst fx
     rw[dR iM]at uj
     refine ff G [] fr a vX qv vM iM (fun t ht=>by simp at ht) ha fun a' cC=>?_
     exact cJ a' w _ cC hw (aY G fr) uj
   case false=>
    obtain⟨b,iM,h1,h2⟩:=h
    by_cases tg:b=want
    ·subst tg
     have uk:=h1 rfl
     rw[dR iM]at uk
     refine aW f q o.guard _ G fr H _ KP uk ?_ (hkn.put iM) a w ha hw (R++rest) Q ?_ hp
     ·rw[vN];exact⟨s,dF,iM,qv⟩
     ·intro a' w' gF fr' H' g1 g2 g3 g5 g4
      refine aW f q cur gF R fr' H' K KP g4 (eU fr' g3) g5 a' w' g1 g2 rest Q (fun a2 w2 nB iP H2 k1 k2 k3 k5 k4=>hk a2 w2 nB iP H2 k1 k2 ?_ k5 k4) hp
      intro x hx
      have hx':=hx
      rw[←oQ,aL,Bool.or_eq_false_iff]at hx'
      rw[k3 x hx'.2,g3 x hx'.1]
    ·have fx:b= !want:=by cases b<;>cases want<;>simp_all
     have uj:=h2 fx
     subst fx
     rw[dR iM]at uj
     refine ff G [] fr a vX qv vM iM (fun t ht=>by simp at ht) ha fun a' cC=>?_
     refine aW f q cur _ R _ H K KP uj (eU _ (aY G fr)) ((pL _ (aY G fr)).put (by rw[aY G fr s qv,iM])) a' w cC hw rest Q (fun a2 w2 nB iP H2 k1 k2 k3 k5 k4=>hk a2 w2 nB iP H2 k1 k2 ?_ k5 k4) hp
     intro x hx
     have hx':=hx
     rw[←oQ,aL,Bool.or_eq_false_iff]at hx'
     rw[k3 x hx'.2,aY G fr x hx'.1]
theorem bq{n:Nat}{ops:Array Oper}{gq:Bool}:∀(f:Nat) (cur:Option (Nat×Bool)) (kn:List (Nat×Bool)) (l:List Oper) (fr:Fr) (H:Hp) (K:List (Nat×Bool)→Fr→Hp→Prop) (KP:List PanicEntry→Hp→Prop),
  bK P g n ops gq f true cur kn l fr H K KP→ed ops cur l fr→c9 kn fr→∀(a:Act),bc ds n a fr→∀(rest:List Oper) (Q:Act→Prop),
  (∀a' gF fr',bc ds n a' fr'→bD l fr fr'→c9 gF fr'→K gF fr' H→wpQuiet P ops (Own g H) Q rest a')→wpQuiet P ops (Own g H) Q (l++rest) a
 |0,_,_,_,_,_,_,_,h=>h.elim
 |f+1,cur,kn,[],fr,H,K,KP,h=>fun _ hkn a ha rest Q hk=>hk a kn fr ha (bD.refl _ _) hkn h
 |f+1,cur,kn,o::r,fr,H,K,KP,h=>by
  intro iW hkn a ha rest Q hk
  unfold bK at h
  cases xe:aP o.guard cur<;>simp only[xe,cond_true,cond_false]at h
  case true=>
   have hg:=cY xe
   have fF:=iW.wanted hg ha
   cases hd:cu n o.dst<;>simp only[hd,cond_true,cond_false]at h
   simp only[List.cons_append,wpQuiet,fF,if_true]
   cases mH:jC o.op<;>simp only[mH,cond_true,cond_false]at h
   case true=>
    obtain⟨v,hk',hr,hv⟩:=oJ h
    refine⟨v,fun w hw=>?_,?_⟩
    ·unfold Oper.quietAt
     rw[ha.eval,hr w hw]
     exact⟨rfl,rfl⟩
    ·exact bq f cur _ r _ H K KP hk' (iW.tail fun s hs=>cf hs) (hkn.up hv) _ (ha.put hd v) rest Q (fun a' gF fr' h1 h3 h5 h4=>hk a' gF fr' h1 h3.cons h5 h4)
   case false=>
    obtain⟨v,f',args,hr,hs,hk'⟩:=oI h
    refine⟨v,fun w hw=>?_,?_⟩
    ·unfold Oper.quietAt
     rw[ha.eval,hr w]
     refine⟨rfl,(hs w hw).mono fun e w'' ⟨H',ho,he,hH⟩=>?_⟩
     subst hH
     exact⟨he,ho⟩
    ·exact bq f cur _ r _ H K KP hk' (iW.tail fun s hs=>cf hs) (hkn.del _ _) _ (ha.put hd v) rest Q (fun a' gF fr' h1 h3 h5 h4=>hk a' gF fr' h1 h3.cons h5 h4)
  case false=>
   split at h<;>try exact h.elim
   rename_i j want vN
   split at h<;>try exact h.elim
   rename_i s dF
   generalize hG:cH cur (o::r)=G at h
   generalize hR:cW cur (o::r)=R at h
   have oQ:G++R=o::r:=by rw[←hG,←hR];exact iC _ _
   cases cm:(cu n (some s) &&dm n G&& !aJ G s&&eK ops s want [] G)<;>simp only[cm,cond_true,cond_false]at h
   simp only[Bool.and_eq_true,Bool.not_eq_true']at cm
   obtain⟨⟨⟨hds,vX⟩,qv⟩,vM⟩:=cm
   rw[←oQ,List.append_assoc]
   have eU:∀fr',bD G fr fr'→ed ops cur R fr':=fun fr' ho=>by
    unfold ed at iW⊢
    split
    ·trivial
    ·obtain⟨t,h1,h2,h3⟩:=iW
     have pQ:=h3
     rw[←oQ,aL,Bool.or_eq_false_iff]at pQ
     exact⟨t,h1,(ho t pQ.1).trans h2,pQ.2⟩
   have pL:∀fr',bD G fr fr'→c9 (eu kn G) fr':=fun fr' ho=>hkn.yb G ho
   split at h
   ·rename_i b hb
    have iM:=hkn s b hb
    cases tg:(b==want)<;>simp only[tg,cond_true,cond_false]at h
    ·have fx:b= !want:=by cases b<;>cases want<;>simp_all
     subst fx
     refine fR G [] fr a vX qv vM iM (fun t ht=>by simp at ht) ha fun a' cC=>?_
     refine bq f cur _ R _ H K KP h (eU _ (aY G fr)) (pL _ (aY G fr)) a' cC rest Q (fun a2 nB iP k1 k3 k5 k4=>hk a2 nB iP k1 ?_ k5 k4)
     intro x hx
     have hx':=hx
     rw[←oQ,aL,Bool.or_eq_false_iff]at hx'
     rw[k3 x hx'.2,aY G fr x hx'.1]
    ·have fx:b=want:=by cases b<;>cases want<;>simp_all
     subst fx
     refine bq f o.guard kn G fr H _ KP h ?_ hkn a ha (R++rest) Q ?_
     ·rw[vN];exact⟨s,dF,iM,qv⟩
     ·intro a' gF fr' g1 g3 g5 g4
      refine bq f cur gF R fr' H K KP g4 (eU fr' g3) g5 a' g1 rest Q (fun a2 nB iP k1 k3 k5 k4=>hk a2 nB iP k1 ?_ k5 k4)
      intro x hx
      have hx':=hx
      rw[←oQ,aL,Bool.or_eq_false_iff]at hx'
      rw[k3 x hx'.2,g3 x hx'.1]
   rename_i uV
   simp only[Bool.true_or,cond_true]at h
   split at h<;>try exact h.elim
   rename_i p r' 
   have AB:aP p.guard cur=true:=by
    have:∀l:List Oper,cW cur l=p::r'→aP p.guard cur=true:=by
     intro l
     induction l with
     |nil=>intro e;simp[cW]at e
     |cons x y ih=>
      intro e
      simp only[cW]at e
      cases hx:aP x.guard cur<;>simp only[hx,cond_true,cond_false]at e
      ·exact ih e
      ·simp only[List.cons.injEq]at e;rw[←e.1];exact hx
    exact this _ hR
   cases hpk:(h9 p&&cu n p.dst)<;>simp only[hpk,cond_true,cond_false]at h
   simp only[Bool.and_eq_true]at hpk
   obtain⟨b,t,iM,h1,h2,h3⟩:=h
   have cJ:∀(a':Act) (fr':Fr),bc ds n a' fr'→bD G fr fr'→fX p fr'=.bool t→wpQuiet P ops (Own g H) Q (p::r'++rest) a':=by
    intro a' fr' cC ho xm
    have fF:=(eU fr' ho).wanted (cY AB) cC
    simp only[List.cons_append,wpQuiet,fF,if_true]
    refine⟨.bool t,fun w hw=>?_,?_⟩
    ·unfold Oper.quietAt
     rw[cC.eval,fW hpk.1 xm w]
     exact⟨rfl,rfl⟩
    have rG:lF G fr' fr=fr':=by
     funext x
     simp only[lF]
     cases hx:aJ G x
     ·exact(ho x hx).symm
     ·rfl
    have pQ:=h3 fr'
    rw[rG]at pQ
    refine bq f cur _ r' _ H K KP pQ ((eU fr' ho).tail fun s hs=>cf hs) ((pL fr' ho).del _ _) _ (cC.put hpk.2 _) rest Q (fun a2 nB iP g1 g3 g5 g4=>hk a2 nB iP g1 ?_ g5 g4)
    intro x hx
    have hx':=hx
    rw[←oQ,aL,Bool.or_eq_false_iff,bj,Bool.or_eq_false_iff]at hx'
    rw[g3 x hx'.2.2,cf hx'.2.1,ho x hx'.1]
   by_cases tg:b=want
   ·subst tg
    have uk:=h1 rfl
    rw[dR iM]at uk
    refine bq f o.guard _ G fr H _ _ uk ?_ (hkn.put iM) a ha (p::r'++rest) Q ?_
    ·rw[vN];exact⟨s,dF,iM,qv⟩
    ·intro a' gF fr' g1 g3 _ ⟨_,g5⟩
     exact cJ a' fr' g1 g3 g5
   ·have fx:b= !want:=by cases b<;>cases want<;>simp_all
    have uj:=h2 fx
    subst fx
    rw[dR iM]at uj
    refine fR G [] fr a vX qv vM iM (fun t ht=>by simp at ht) ha fun a' cC=>?_
    exact cJ a' _ cC (aY G fr) uj
end
end Go.Sx
namespace Go.Sx
open Go
section
variable {P:Program} {ops:Array Oper} {Q:Exit→Act→World→Prop} {md:Region.Mode} {S:Nat→World→World→Prop} {S0:World→Prop}
def cr(P:Program)(md:Region.Mode)(ops:Array Oper)(Q:Exit→Act→World→Prop)(S:Nat→World→World→Prop):Nat→Array Bool→Act→World→Prop
 |0,listed,a,w=>Region.ready md ops listed=[]∧Q .normal a w
 |n+1,listed,a,w=>(Region.ready md ops listed=[]→Q .normal a w)∧
  ∀i∈Region.ready md ops listed,wpOp P ops Q i (fun a' w'=>S i w w'∧cr P md ops Q S n (listed.setIfInBounds i true) a' w') a w
theorem cr.any:∀{n:Nat} {listed:Array Bool} {a:Act} {w:World},cr P md ops Q S n listed a w→wpAny P md ops Q n listed a w
 |0,_,_,_,h=>h
 |_+1,_,_,_,h=>⟨h.1,fun i hi=>wpOp_mono (fun _ _ h'=>h'.2.any) (h.2 i hi)⟩
def tQ(md:Region.Mode)(ops:Array Oper)(i j:Nat):Prop:=∀oj,ops[j]? =some oj→∀e∈oj.after,Region.binds md e=true→e.on≠i
def bU(md:Region.Mode)(ops:Array Oper)(listed:Array Bool):Prop:=∀j oj,ops[j]? =some oj→listed.getD j true=true→∀e∈oj.after,Region.binds md e=true→listed.getD e.on true=true
inductive fI(md:Region.Mode)(ops:Array Oper)(i:Nat):Nat→Prop
 |one {j:Nat} {oj:Oper} {e:Edge}:ops[j]? =some oj→e∈oj.after→Region.binds md e=true→e.on=i→fI md ops i j
 |more {j:Nat} {oj:Oper} {e:Edge}:ops[j]? =some oj→e∈oj.after→Region.binds md e=true→fI md ops i e.on→fI md ops i j
theorem lE{a:Array Bool}{i:Nat}(h:a.getD i false=true):a.getD i true=true:=by
 rw[Array.getD_eq_getD_getElem?]at*
 cases hg:a[i]? with
 |none=>rfl
 |some b=>rw[hg]at h;simpa using h
theorem iO{a:Array Bool}{i k:Nat}(h:a.getD k true=true):(a.setIfInBounds i true).getD k true=true:=by
 by_cases e:i=k
 ·subst e
  rw[Array.getD_eq_getD_getElem?,Array.getElem?_setIfInBounds_self]
  split<;>rfl
 ·rw[getD_set_ne true e];exact h
theorem bU.waits{listed:Array Bool}(hc:bU md ops listed){i j:Nat}(h:fI md ops i j):listed.getD j true=true→listed.getD i true=true:=by
 induction h with
 |one h1 h2 h3 h4=>intro h;rw[←h4];exact hc _ _ h1 h _ h2 h3
 |more h1 h2 h3 _ ih=>intro h;exact ih (hc _ _ h1 h _ h2 h3)
theorem bU.ready{listed:Array Bool}(hc:bU md ops listed){i j:Nat}(hj:j∈Region.ready md ops listed)(h:fI md ops i j):listed.getD i true=true:=by
 obtain⟨_,oj,dg,an⟩:=mem_ready.1 hj
 cases h with
 |one h1 h2 h3 h4=>rw[dg]at h1;cases h1;rw[←h4];exact lE (an _ h2 h3)
 |more h1 h2 h3 h4=>rw[dg]at h1;cases h1;exact hc.waits h4 (lE (an _ h2 h3))
theorem bU.step{listed:Array Bool}(hc:bU md ops listed){j:Nat}(hj:j∈Region.ready md ops listed):bU md ops (listed.setIfInBounds j true):=by
 intro k ok hk hl e he hb
 by_cases tX:j=k
 ·subst tX
  obtain⟨_,oj,dg,an⟩:=mem_ready.1 hj
  rw[hk]at dg;cases dg
  exact iO (lE (an e he hb))
 ·rw[getD_set_ne true tX]at hl
  exact iO (hc k ok hk hl e he hb)
theorem bU.none(n:Nat)(h:ops.size=n):bU md ops (Array.replicate n false):=by
 intro j oj hj hl
 exfalso
 have hlt:=(Array.getElem?_eq_some_iff.1 hj).1
 rw[Array.getD_eq_getD_getElem?,Array.getElem?_replicate,if_pos (by omega)]at hl
 cases hl
theorem cr.first{i:Nat}{oi:Oper}{v:Value}(hi:ops[i]? =some oi)(hsel:Region.noSelect ops=true)(hQ:∀c a w,Q (.panic c) (a.put oi.dst v) w→Q (.panic c) a w)
 (tj:∀w,S0 w→S i w w)(hS:∀j oj w w',ops[j]? =some oj→j≠i→¬fI md ops i j→S0 w→S j w w'→S0 w'):∀(n:Nat) (listed:Array Bool) (a:Act) (w:World),bU md ops listed→
   (∀j oj,ops[j]? =some oj→j≠i→listed.getD j true=false→tQ md ops i j→oi.apart ops oj=true)→i∈Region.ready md ops listed→YieldsIf P ops S0 oi v a→S0 w→
   cr P md ops Q S n (listed.setIfInBounds i true) (a.put oi.dst v) w→cr P md ops Q S (n+1) listed a w:=by
 have Cr:=Region.noSelect_spec hsel
 intro n
 induction n with
 |zero=>
  intro listed a w hc hfree hr hy h0 h
  refine⟨fun e=>absurd hr (by rw[e];simp),fun j hj=>?_⟩
  by_cases e:j=i
  ·rw[e];exact hy.wpOp hi h0 ⟨tj _ h0,h⟩
  ·exact absurd (ready_mono hj e) (by rw[h.1];simp)
 |succ n ih=>
  intro listed a w hc hfree hr hy h0 h
  refine⟨fun e=>absurd hr (by rw[e];simp),fun j hj=>?_⟩
  by_cases e:j=i
  ·rw[e];exact hy.wpOp hi h0 ⟨tj _ h0,h⟩
  ·obtain⟨hun,oj,dg,an⟩:=mem_ready.1 hj
   have hno:tQ md ops i j:=fun o ho x hx hb he=>by
    rw[dg]at ho;cases ho
    have h1:=an x hx hb
    have h2:=(mem_ready.1 hr).1
    rw[he]at h1
    rw[Array.getD_eq_getD_getElem?]at h1 h2
    cases hg:listed[i]? with
    |none=>rw[hg]at h1;simp at h1
    |some y=>rw[hg]at h1 h2;simp at h1 h2;rw[h2]at h1;cases h1
   have xw:¬fI md ops i j:=fun hw=>by
    have h1:=hc.ready hj hw
    rw[(mem_ready.1 hr).1]at h1;cases h1
   refine wpOp_mono ?_ (wpOp_putIf dg (hfree j oj dg e hun hno) (fun cs b=>Cr i oi cs b hi) (fun cs b=>Cr j oj cs b dg) hQ hy (h.2 j (ready_mono hj e)))
   rintro a' w' ⟨hy',hs',eB⟩
   refine⟨hs',ih _ _ _ (hc.step hj) (fun k ok hk uW s5 rz=>hfree k ok hk uW ?_ rz) (ready_mono hr (Ne.symm e)) hy' (hS j oj w w' dg e xw h0 hs') (by rw[Array.setIfInBounds_comm _ _ e];exact eB)⟩
   by_cases tX:j=k
   ·rw[←tX];exact hun
   ·rw[←s5,getD_set_ne true tX]
theorem cr.take{i:Nat}{oi:Oper}{v:Value}{n:Nat}{listed:Array Bool}{a:Act}{w:World}(hc:bU md ops listed)(hi:ops[i]? =some oi)(hsel:Region.noSelect ops=true)(hf:Region.free md ops listed i=true)
 (hr:(Region.ready md ops listed).contains i=true)(hQ:∀c a w,Q (.panic c) (a.put oi.dst v) w→Q (.panic c) a w)(tj:∀w,S0 w→S i w w)(hS:∀j oj w w',ops[j]? =some oj→j≠i→¬fI md ops i j→S0 w→S j w w'→S0 w')
 (hy:YieldsIf P ops S0 oi v a)(h0:S0 w)(h:cr P md ops Q S n (listed.setIfInBounds i true) (a.put oi.dst v) w):cr P md ops Q S (n+1) listed a w:=
 cr.first hi hsel hQ tj hS n listed a w hc (fun j oj h1 h2 h3 h4=>Region.free_spec hi hf j oj h1 h2 h3 (h4 oj h1)) (by simpa using hr) hy h0 h
theorem cr.all{rs:List Nat}{n:Nat}{listed:Array Bool}{a:Act}{w:World}(hr:Region.ready md ops listed=rs)(hne:rs≠[])
 (h:∀i∈rs,wpOp P ops Q i (fun a' w'=>S i w w'∧cr P md ops Q S n (listed.setIfInBounds i true) a' w') a w):cr P md ops Q S (n+1) listed a w:=
 ⟨fun h0=>absurd (hr▸h0) hne,hr▸h⟩
theorem cr.done{listed:Array Bool}{a:Act}{w:World}(hr:Region.ready md ops listed=[])(h:Q .normal a w):∀n,cr P md ops Q S n listed a w
 |0=>⟨hr,h⟩
 |_+1=>⟨fun _=>h,by rw[hr];simp⟩
def Ac(j:Oper)(i:Nat):Bool:=j.after.toList.any fun e=>Nat.beq e.on i&&Region.binds .any e
def wR(P:Program):Op→Bool
 | .move _| .assign _| .pick .. | .nilCheck _| .fieldAddr .. | .field .. | .indexAddr .. | .unOp .. =>true
 | .slice t _ _ _ none=>match P.underlying t with|some (.slice _)=>true|_=>false
 | .binOp _ t _ _ _=>match P.underlying t with
  |some d=>match lJ d with| .other=>false|_=>true
  |none=>true
 |_=>false
theorem mq{g:Gh}{o:Oper}(h:wR P o.op=true)(ρ:Operand→Value)(H H':Hp)(k:Value→Prop):su P g o ρ H k=su P g o ρ H' k:=by
 obtain⟨d,op,t,p,a,gd⟩:=o
 cases op<;>first|rfl|(simp only[wR]at h;first|cases h|skip)
 case binOp op t x y z=>
  simp only[su]
  cases hu:P.underlying t with
  |none=>rfl
  |some d=>
   simp only[hu]at h
   cases hb:lJ d<;>simp only[hb]at h⊢
   cases h
 case slice t x lo hi m=>
  cases m with
  |none=>
   simp only[su]
   cases hu:P.underlying t with
   |none=>simp[hu]at h
   |some d=>cases d<;>first|rfl|(exfalso;simp[hu]at h)
  |some m=>cases h
def kg(P:Program)(o:Op):Bool:=jC o&& !wR P o
def oL(P:Program)(ops:Array Oper)(j:Nat):Bool:=match ops[j]? with
 |some oj=>(List.range ops.size).any fun i=>match ops[i]? with|some oi=>kg P oi.op&& !Ac oj i&& !Nat.beq i j|none=>false
 |none=>true
def fL(ops:Array Oper)(i:Nat):Nat→Nat→Bool
 |0,_=>false
 |n+1,j=>match ops[j]? with
  |some oj=>oj.after.toList.any fun e=>Region.binds .any e&& (Nat.beq e.on i||fL ops i n e.on)
  |none=>false
theorem iz{i:Nat}:∀{n j:Nat},fL ops i n j=true→fI .any ops i j
 |0,j,h=>by simp[fL]at h
 |n+1,j,h=>by
  unfold fL at h
  split at h
  ·rename_i oj dg
   obtain⟨e,he,h2⟩:=List.any_eq_true.1 h
   simp only[Bool.and_eq_true,Bool.or_eq_true]at h2
   rcases h2.2 with h3|h3
   ·exact .one dg (Array.mem_toList_iff.1 he) h2.1 (Nat.eq_of_beq_eq_true h3)
   ·exact .more dg (Array.mem_toList_iff.1 he) h2.1 (iz h3)
  ·cases h
def iH(P:Program)(ops:Array Oper)(j:Nat):Bool:=(List.range ops.size).any fun i=>match ops[i]? with|some oi=>kg P oi.op&& !fL ops i 6 j&& !Nat.beq i j|none=>false
def fJ(P:Program)(g:Gh)(R:Hp)(ops:Array Oper)(j:Nat)(w w':World):Prop:=∀oj,ops[j]? =some oj→(jC oj.op=true→w'=w)∧(jC oj.op=false→Own g [] w'∧(iH P ops j=true→Own g R w→Own g R w'))
theorem er{i j:Nat}{oi:Oper}(hi:ops[i]? =some oi)(hp:kg P oi.op=true)(hne:j≠i)(h:¬fI .any ops i j):iH P ops j=true:=by
 unfold iH
 rw[List.any_eq_true]
 refine⟨i,List.mem_range.2 (Array.getElem?_eq_some_iff.1 hi).1,?_⟩
 simp only[hi,hp,Bool.true_and,Bool.and_eq_true,Bool.not_eq_true']
 refine⟨?_,?_⟩
 ·cases hb:fL ops i 6 j
  ·rfl
  ·exact absurd (iz hb) h
 ·cases hb:Nat.beq i j
  ·rfl
  ·exact absurd (Nat.eq_of_beq_eq_true hb).symm hne
theorem jw{j:Nat}(h:iH P ops j=true):oL P ops j=true:=by
 unfold iH at h
 obtain⟨i,hi,h2⟩:=List.any_eq_true.1 h
 unfold oL
 split
 ·rename_i oj dg
  refine List.any_eq_true.2 ⟨i,hi,?_⟩
  split at h2
  ·rename_i oi fu
   simp only[Bool.and_eq_true,Bool.not_eq_true']at h2⊢
   refine⟨⟨h2.1.1,?_⟩,h2.2⟩
   cases hb:Ac oj i
   ·rfl
   ·have h3:=h2.1.2
    unfold fL at h3
    simp only[dg]at h3
    unfold Ac at hb
    obtain⟨e,he,h4⟩:=List.any_eq_true.1 hb
    rw[←Bool.not_eq_true,List.any_eq_true]at h3
    refine absurd ⟨e,he,?_⟩ h3
    simp only[Bool.and_eq_true,Bool.or_eq_true]at h4⊢
    exact⟨h4.2,.inl h4.1⟩
  ·cases h2
 ·rfl
end
end Go.Sx
namespace Go.Sx
open Go
section
variable {P:Program} {g:Gh} {ds:List Deferred}
def o5(b:Bool)(p q:Prop):Prop:=cond b (p∧q) q
theorem o5.of{b:Bool}{p q:Prop}(h:o5 b p q):(b=true→p)∧q:=by
  cases b
  · exact⟨fun e=>(by cases e),h⟩
  · exact⟨fun _=>h.1,h.2⟩
def qY(P:Program)(ops:Array Oper)(T:List Nat)(i:Nat):Bool:=cond T.isEmpty (oL P ops i) (iH P ops i)
theorem qX{ops:Array Oper}{T:List Nat}{i:Nat}(h:iH P ops i=true):qY P ops T i=true:=by
  unfold qY
  cases T.isEmpty
  · exact h
  · exact jw h
def pZ(P:Program)(g:Gh)(n:Nat)(ops:Array Oper)(R:Hp)(K:Fr→Hp→Prop):List Nat→Array Bool→Fr→Hp→Prop
  | [],listed,fr,H=>cond (Region.ready .any ops listed).isEmpty (K fr H) False
  |i::r,listed,fr,H=>
    match ops[i]? with
    |none=>False
    |some o=>
      cond (cu n o.dst&&o.guard.isNone)
        (cond (jC o.op)
          (cond (Region.free .any ops listed i&& (Region.ready .any ops listed).contains i)
            (su P g o (ev fr) R fun v=>pZ P g n ops R K r (listed.setIfInBounds i true) (bF fr o.dst v) H) False)
          (cond (Region.ready .any ops listed==[i])
            (wG P g o (ev fr) H (fun v H'=>o5 (oL P ops i) (aM H' R) (pZ P g n ops R K r (listed.setIfInBounds i true) (bF fr o.dst v) H')) (fun _ _=>False)) False)) False
def gP(Q:Exit→Act→World→Prop):Exit→Act→World→Prop
  | .panic _,_,_=>False
  |e,a,w=>Q e a w
theorem dA{o:Oper}(h:o.guard.isNone=true)(y:Nat→Option Bool):Region.wanted o y=true:=by
  unfold Region.wanted
  cases hg:o.guard<;>simp_all
theorem Own.eN{g:Gh}{H:Hp}{w:World}(h:Own g H w):Own g [] w:=Own.right (A:=H) (B:=[]) (by simpa using h)
theorem ct{listed:Array Bool}{i k:Nat}(hun:listed.getD i true=false)(h:(listed.setIfInBounds i true).getD k true=false):listed.getD k true=false:=by
  by_cases e:i=k
  · rw[←e];exact hun
  · rwa [getD_set_ne true e]at h
theorem gN{n:Nat}{ops:Array Oper}{R:Hp}{K:Fr→Hp→Prop}{Q:Exit→Act→World→Prop}(hs:Region.noSelect ops=true)(kL:Fr)
   (hk:∀a w fr H,bc ds n a fr→Own g H w→bD ops.toList kL fr→K fr H→Q .normal a w):
    ∀(l:List Nat) (listed:Array Bool) (fr:Fr) (H:Hp),pZ P g n ops R K l listed fr H→∀(fuel:Nat),l.length≤fuel→bU .any ops listed→∀(a:Act) (w:World),bc ds n a fr→Own g H w→((∃k ok,ops[k]? =some ok∧kg P ok.op=true∧listed.getD k true=false)→Own g R w)→bD ops.toList kL fr→
      cr P .any ops (gP Q) (fJ P g R ops) fuel listed a w
  | [],listed,fr,H,h=>by
    intro fuel _ dn a w ha hw hR ho
    unfold pZ at h
    cases hr:(Region.ready .any ops listed).isEmpty<;>simp only[hr,cond_true,cond_false]at h
    exact cr.done (Q:=gP Q) (by simpa using hr) (hk a w fr H ha hw ho h) fuel
  |i::r,listed,fr,H,h=>by
    intro fuel hfuel dn a w ha hw hR ho
    unfold pZ at h
    split at h<;>try exact h.elim
    rename_i o fu
    have hmem:o∈ops.toList:=Array.mem_toList_iff.2 (Array.mem_of_getElem? fu)
    have hout:∀v,bD ops.toList kL (bF fr o.dst v):=fun v s hs'=>by
      rw[cf,ho s hs']
      have:∀l:List Oper,o∈l→aJ l s=false→aJ [({(default:Oper)with dst:=o.dst})] s=false:=by
        intro l
        induction l with
        |nil=>intro h;simp at h
        |cons x y ih=>
          intro hm hi
          rw[bj,Bool.or_eq_false_iff]at hi
          rcases List.mem_cons.1 hm with rfl|hm
          · exact hi.1
          · exact ih hm hi.2
      exact this _ hmem hs'
    cases hc:(cu n o.dst&&o.guard.isNone)<;>simp only[hc,cond_true,cond_false]at h
    simp only[Bool.and_eq_true]at hc
    obtain⟨fuel,rfl⟩:∃f,fuel=f+1:=⟨fuel-1,by simp only[List.length_cons]at hfuel;omega⟩
    have nG:r.length≤fuel:=by simp only[List.length_cons]at hfuel;omega
    cases mH:jC o.op<;>simp only[mH,cond_true,cond_false]at h
    case true=>
      cases fi:(Region.free .any ops listed i&& (Region.ready .any ops listed).contains i)<;>simp only[fi,cond_true,cond_false]at h
      simp only[Bool.and_eq_true]at fi
      have hun:=(mem_ready.1 (by simpa using fi.2:i∈Region.ready .any ops listed)).1
      have eS:∀w,fJ P g R ops i w w:=fun w oj eE=>⟨fun _=>rfl,fun hn=>(by rw[fu]at eE;cases eE;rw[mH]at hn;cases hn)⟩
      cases hn:wR P o.op
      case true=>
        rw[mq hn (ev fr) R []]at h
        obtain⟨v,hk',hr⟩:=dU h
        refine cr.take dn (S0:=Own g []) fu hs fi.1 fi.2 (fun _ _ _ h=>h) (fun w _=>eS w) (fun j oj w w' dg hj hno h0 hk=>?_) (.inl ⟨dA hc.2 _,fun w' cG=>by rw[ha.eval];exact hr w' cG⟩) hw.eN ?_
        · cases lq:jC oj.op
          · exact((hk oj dg).2 lq).1
          · rw[(hk oj dg).1 lq];exact h0
        · refine gN hs kL hk r _ _ H hk' fuel nG (dn.step (by simpa using fi.2)) _ w (ha.put hc.1 v) hw ?_ (hout v)
          rintro⟨k,ok,ng,nF,ja⟩
          exact hR ⟨k,ok,ng,nF,ct hun ja⟩
      case false=>
        obtain⟨v,hk',hr⟩:=dU h
        have hrd:kg P o.op=true:=by simp[kg,mH,hn]
        have x2:Own g R w:=hR ⟨i,o,fu,hrd,hun⟩
        refine cr.take dn (S0:=Own g R) fu hs fi.1 fi.2 (fun _ _ _ h=>h) (fun w _=>eS w) (fun j oj w w' dg hj hno h0 hk=>?_) (.inl ⟨dA hc.2 _,fun w' cG=>by rw[ha.eval];exact hr w' cG⟩) x2 ?_
        · cases lq:jC oj.op
          · exact((hk oj dg).2 lq).2 (er fu hrd hj hno) h0
          · rw[(hk oj dg).1 lq];exact h0
        · exact gN hs kL hk r _ _ H hk' fuel nG (dn.step (by simpa using fi.2)) _ w (ha.put hc.1 v) hw (fun _=>x2) (hout v)
    case false=>
      cases fi:(Region.ready .any ops listed==[i])<;>simp only[fi,cond_true,cond_false]at h
      have hrd:=beq_iff_eq.1 fi
      have s7:i∈Region.ready .any ops listed:=by rw[hrd];simp
      refine cr.all hrd (by simp) fun j hj=>?_
      simp only[List.mem_singleton]at hj
      subst hj
      unfold wpOp
      simp only[fu,dA hc.2,if_true]
      refine .inl ?_
      unfold Oper.wp
      rw[ha.eval]
      refine(nv (jc fr) h w hw).upon (fun v H' w' dP hb=>?_) (fun ch H' w' _ h0=>h0.elim)
      obtain⟨he,hk'⟩:=hb.of
      refine⟨fun oj eE=>⟨fun hp=>(by rw[fu]at eE;cases eE;rw[mH]at hp;cases hp),fun _=>⟨dP.eN,fun hn _=>he (jw hn) _ _ dP⟩⟩,gN hs kL hk r _ _ H' hk' fuel nG (dn.step s7) _ w' (ha.put hc.1 v) dP ?_ (hout v)⟩
      rintro⟨k,ok,ng,nF,ja⟩
      refine he (jw ?_) _ _ dP
      have uW:j≠k:=fun e=>by
        subst e
        rw[Array.getD_eq_getD_getElem?,Array.getElem?_setIfInBounds_self]at ja
        have:=(mem_ready.1 s7).1
        rw[Array.getD_eq_getD_getElem?]at this
        split at ja
        · simp at ja
        · rename_i hlt;rw[Array.getElem?_eq_none (by omega)]at this;simp at this
      rw[getD_set_ne true uW]at ja
      refine er ng nF uW fun hw=>?_
      rw[dn.ready s7 hw]at ja;cases ja
abbrev Mk:=Obj×(Nat→Value)
def r6(elem size bytes:Nat)(zero:Value)(l c:Value)(k:Mk→Prop):Prop:=
  ∃kl kc ln cn,l=.int kl (ln:Nat)∧c=.int kc (cn:Nat)∧ln≤cn∧(cn:Int)≤9223372036854775807∧cn*bytes≤281474976710656∧
    k (.cells (madeCells zero.cells (cn*size)) elem (0,0),fun b=>.slice (some ⟨b,0,none⟩) ln cn)
def sc(P:Program)(t len:Nat)(parts:List (Nat×Value))(k:Mk→Prop):Prop:=
  ∃cs e n z,P.underlying t=some (.slice e)∧bG P e=some n∧cV P e=some z∧len*n≤2^24∧
      Instr.fill (fun i=>some (i*n,n)) ((Array.range (len*n)).map (z.cells[· %z.cells.size]!)) parts=some cs∧k (.cells cs e (0,0),fun b=>.slice (some ⟨b,0,none⟩) len len)
def Claim(P:Program)(o:Oper)(ρ:Operand→Value)(k:Mk→Prop):Prop:=
  match o.op with
  | .alloc t=>match cV P t with
    |some z=>k (.cells z.cells t (0,0),fun b=>.pointer (some ⟨b,0,none⟩))
    |none=>False
  | .makeMap _ none=>k (.map #[] 0,fun b=>.map (some b))
  | .makeSlice t l c=>match P.underlying t with
    |some (.slice e)=>match bG P e,jR P e,cV P e with
      |some n,some b,some z=>r6 e n b z (ρ l) (ρ c) k
      |_,_,_=>False
    |_=>False
  | .buildSlice t len parts=>sc P t len (parts.toList.map fun p=>(p.1,ρ p.2)) k
  |_=>False
def kR(P:Program)(o:Oper)(ρ:Operand→Value)(x:Mk):Prop:=∀w,(execOp ρ o).run P w=.ok (.value (x.2 w.heap.size)) (w.alloc x.1)
theorem Claim.makes{o:Oper}{ρ:Operand→Value}{k:Mk→Prop}(h:Claim P o ρ k):∃x,kR P o ρ x∧k x:=by
  unfold Claim at h
  split at h
  · rename_i t hop
    split at h<;>try exact h.elim
    rename_i z hz
    obtain⟨i,hi,lu⟩:=bt hz
    refine⟨_,fun w=>?_,h⟩
    simp only[execOp,hop]
    simp[Instr.alloc,bV hi lu,newVar,newRow]
  · rename_i t hop
    refine⟨_,fun w=>?_,h⟩
    simp only[execOp,hop]
    simp[Instr.makeMap]
  · rename_i t l c hop
    split at h<;>try exact h.elim
    rename_i e ht
    split at h<;>try exact h.elim
    rename_i n b z hn hb hz
    obtain⟨i,hi,hin⟩:=aH hn
    obtain⟨i',hi',lu⟩:=bt hz
    obtain⟨i2,rF,xF⟩:=eX hb
    have e1:i'=i:=Option.some.inj (hi'.symm.trans hi)
    have e2:i2=i:=Option.some.inj (rF.symm.trans hi)
    subst e1;subst e2
    obtain⟨kl,kc,ln,cn,hl,hc,hlc,bR,hby,hk⟩:=h
    subst hin;subst xF
    refine⟨_,fun w=>?_,hk⟩
    have e1:IntKind.i64.wrap (ln:Int)=ln:=IntWalk.i64_in _ (by omega)
    have e2:IntKind.i64.wrap (cn:Int)=cn:=IntWalk.i64_in _ (by omega)
    have e3:¬((i2.bytes:Int)*(cn:Int)>281474976710656):=by
      have:((cn*i2.bytes:Nat):Int)≤281474976710656:=by omega
      rw[Int.mul_comm];push_cast at this;omega
    have e4:¬((cn:Int)<ln):=by omega
    simp only[execOp,hop]
    by_cases h0:cn*i2.size=0
    · simp[Instr.makeSlice,run_underlying ht,asInt,asIntOf,typeInfo,hi,hl,hc,e1,e2,e3,e4,sizeOf,zeroValue,lu,newRow,madeCells,h0,show¬((cn:Int)<0)from by omega,show¬((ln:Int)<0)from by omega]
      have:Array.range 0=#[]:=rfl
      simp[this]
    · simp[Instr.makeSlice,run_underlying ht,asInt,asIntOf,typeInfo,hi,hl,hc,e1,e2,e3,e4,sizeOf,zeroValue,lu,newRow,madeCells,h0,show¬((cn:Int)<0)from by omega,show¬((ln:Int)<0)from by omega]
  · rename_i t len parts hop
    obtain⟨cs,e,n,z,ht,hn,hz,hl,hf,hk⟩:=h
    obtain⟨i,hi,hin⟩:=aH hn
    obtain⟨i',hi',lu⟩:=bt hz
    have:i'=i:=Option.some.inj (hi'.symm.trans hi)
    subst this
    subst hin
    refine⟨_,fun w=>?_,hk⟩
    have hl':¬(len*i'.size>2^24):=by omega
    have nE:(parts.map fun(x:Nat×Operand)=>(x.1,ρ x.2)).toList=parts.toList.map fun p=>(p.1,ρ p.2):=by rw[Array.toList_map]
    by_cases h0:len*i'.size=0
    · simp only[execOp,hop,Instr.buildSlice,Sem.run_bind,run_underlying ht,Result.andThen_ok,run_sizeOf hi,hl',if_false,h0,if_true,Sem.run_pure]
      rw[h0]at hf
      have Av:Array.range 0=#[]:=rfl
      simp only[Av,Array.map_empty,List.map_toArray,List.map_nil]at hf⊢
      rw[nE,hf]
      simp[newRow]
    · simp only[execOp,hop,Instr.buildSlice,Sem.run_bind,run_underlying ht,Result.andThen_ok,run_sizeOf hi,hl',if_false,h0,bV hi lu,Sem.run_pure]
      simp[hf,newRow]
  · exact h.elim
abbrev ov:=List (Nat×Mk)
def marks:ov→Nat→Array Bool→Array Bool
  | [],_,l=>l
  |x::r,i,l=>marks r i (cond (Nat.beq x.1 i) l (l.setIfInBounds x.1 true))
def bM(ops:Array Oper)(o:Oper)(i:Nat)(listed:Array Bool):ov→Bool
  | []=>true
  |x::r=>(Nat.beq x.1 i||listed.getD x.1 true||(match ops[x.1]? with|some of=>of.apart ops o|none=>false)) &&bM ops o i listed r
def bS:ov→Nat→Option Mk
  | [],_=>none
  |x::r,i=>cond (Nat.beq x.1 i) (some x.2) (bS r i)
def r3(listed:Array Bool):ov→Bool
  | []=>true
  |x::r=>listed.getD x.1 false&&r3 listed r
inductive Hn
  |e
  |h(m:Nat)(L I:List Nat)(a b:Hn)
def Hn.m:Hn→Nat| .e=>0| .h m _ _ _ _=>m
def Hn.L:Hn→List Nat| .e=>[]| .h _ L _ _ _=>L
def Hn.I:Hn→List Nat| .e=>[]| .h _ _ I _ _=>I
def Hn.a:Hn→Hn| .e=>.e| .h _ _ _ a _=>a
def Hn.b:Hn→Hn| .e=>.e| .h _ _ _ _ b=>b
def Br(v:Value)(t f:Prop):Prop:=∃b,v=.bool b∧(b=true→t)∧(b=false→f)
def uL(p:Oper)(fr:Fr):Value:=
  match p.op with
  | .move x=>ev fr x
  | .assign x=>ev fr x
  |_=>fX p fr
def pH(p:Oper):Bool:=match p.op with| .pick .. =>true| .move _=>true| .assign _=>true|_=>false
theorem rf{p:Oper}{fr:Fr}{t:Bool}(hp:pH p=true)(h:uL p fr=.bool t)(w:World):(execOp (ev fr) p).run P w=.ok (.value (.bool t)) w:=by
  unfold pH at hp
  unfold uL at h
  split at h
  · rename_i x hop;simp only[execOp,hop,h];rfl
  · rename_i x hop;simp only[execOp,hop,h];rfl
  · rename_i h1 h2
    split at hp
    · rename_i hop;exact fW (by unfold h9;rw[hop]) h w
    · rename_i x hop;exact absurd hop (h1 x)
    · rename_i x hop;exact absurd hop (h2 x)
    · cases hp
theorem rh{p:Oper}(hp:pH p=true):jC p.op=true:=by
  unfold pH at hp
  split at hp<;>first|(rename_i hop;rw[hop];rfl)|cases hp
def kW(ops:Array Oper)(fr:Fr)(o:Oper):Option Bool:=
  match o.guard with
  |none=>some true
  |some (j,want)=>match bE ops j with
    |none=>none
    |some s=>match fr s with
      | .bool b=>some (b==want)
      | .tuple _=>some false
      |_=>none
def gi(P:Program)(g:Gh)(n:Nat)(ops:Array Oper)(R:Hp)(K:Fr→Hp→Prop):Hn→ov→Array Bool→Fr→Hp→Prop
  | .e,cl,listed,fr,H=>cond ((Region.ready .any ops listed).isEmpty&&r3 listed cl) (K fr H) False
  | .h m L T pa pb,cl,listed,fr,H=>
    match L with
    | [i]=>
      match ops[i]? with
      |none=>False
      |some o=>
        cond (Nat.beq m 1)
          (cond (cu n o.dst&&o.guard.isNone&& !jC o.op&& !listed.getD i true&&bM ops o i listed cl&& (match bS cl i with|none=>true|some _=>false))
            (Claim P o (ev fr) fun x=>gi P g n ops R K pa ((i,x)::cl) listed fr H) False)
          (cond (cu n o.dst&&bM ops o i listed cl&& (Region.ready .any ops listed).contains i)
            (match kW ops fr o with
            |none=>False
            |some false=>cond (Region.free .any ops listed i&& (match bS cl i with|none=>true|some _=>false)) (gi P g n ops R K pa cl (listed.setIfInBounds i true) (bF fr o.dst undef) H) False
            |some true=>
              cond (Nat.beq m 3) (cond (pH o&&Region.free .any ops listed i) (match uL o fr with
                | .bool b=>gi P g n ops R K pa cl (listed.setIfInBounds i true) (bF fr o.dst (.bool b)) H
                |_=>False) False)
              (cond (jC o.op)
                (cond (Region.free .any ops listed i)
                  (su P g o (ev fr) R fun v=>cond (Nat.beq m 0) (gi P g n ops R K pa cl (listed.setIfInBounds i true) (bF fr o.dst v) H)
                    (Br v (gi P g n ops R K pa cl (listed.setIfInBounds i true) (bF fr o.dst (.bool true)) H) (gi P g n ops R K pb cl (listed.setIfInBounds i true) (bF fr o.dst (.bool false)) H))) False)
                (cond (Region.ready .any ops (marks cl i listed)==[i])
                  (match bS cl i with
                    |some x=>dx H x.1 fun b H'=>gi P g n ops R K pa cl (listed.setIfInBounds i true) (bF fr o.dst (x.2 b)) H'
                    |none=>∀F,wG P (g.add F) o (ev fr) H (fun v H'=>o5 (qY P ops T i) (aM H' R) (gi P g n ops R K pa cl (listed.setIfInBounds i true) (bF fr o.dst v) H')) (fun _ _=>False)) False))) False)
    |_=>False
theorem rP{cl:ov}{i:Nat}{x:Mk}(h:bS cl i=some x):(i,x)∈cl:=by
  induction cl with
  |nil=>simp[bS]at h
  |cons y r ih=>
    simp only[bS]at h
    cases hb:Nat.beq y.1 i<;>simp only[hb,cond_true,cond_false]at h
    · exact List.mem_cons_of_mem _ (ih h)
    · have:=Nat.eq_of_beq_eq_true hb
      simp only[Option.some.injEq]at h
      subst this;subst h;exact List.mem_cons_self
theorem pS{cl:ov}{i:Nat}(h:i∈cl.map Prod.fst):∃x,bS cl i=some x:=by
  induction cl with
  |nil=>simp at h
  |cons y r ih=>
    simp only[bS]
    cases hb:Nat.beq y.1 i
    · simp only[cond_false]
      rw[List.map_cons,List.mem_cons]at h
      rcases h with h|h
      · subst h;simp at hb
      · exact ih h
    · exact⟨_,rfl⟩
theorem dr{cl:ov}{i:Nat}{x:Mk}(h:bS cl i=some x):i∈cl.map Prod.fst:=List.mem_map.2 ⟨_,rP h,rfl⟩
theorem kF{l:ov}{i:Nat}{b:Array Bool}{k:Nat}:(marks l i b)[k]? =if k∈l.map Prod.fst∧k≠i∧k<b.size then some true else b[k]? :=by
  induction l generalizing b with
  |nil=>simp[marks]
  |cons y r ih=>
    simp only[marks]
    cases hy:Nat.beq y.1 i
    · have hne:y.1≠i:=fun e=>by rw[e]at hy;simp at hy
      simp only[cond_false,ih,Array.size_setIfInBounds]
      by_cases hk:k∈r.map Prod.fst∧k≠i∧k<b.size
      · rw[if_pos hk,if_pos ⟨by rw[List.map_cons];exact List.mem_cons_of_mem _ hk.1,hk.2⟩]
      · rw[if_neg hk]
        by_cases e:y.1=k
        · subst e
          by_cases hlt:y.1<b.size
          · rw[if_pos ⟨by simp,hne,hlt⟩,Array.getElem?_setIfInBounds_self_of_lt hlt]
          · rw[if_neg (fun h=>hlt h.2.2),Array.getElem?_eq_none (by simp;omega),Array.getElem?_eq_none (by omega)]
        · rw[Array.getElem?_setIfInBounds_ne e,if_neg]
          rintro⟨h1,h2⟩
          rw[List.map_cons,List.mem_cons]at h1
          rcases h1 with h1|h1
          · exact e h1.symm
          · exact hk ⟨h1,h2⟩
    · have he:=Nat.eq_of_beq_eq_true hy
      simp only[cond_true,ih]
      by_cases hk:k∈r.map Prod.fst∧k≠i∧k<b.size
      · rw[if_pos hk,if_pos ⟨by rw[List.map_cons];exact List.mem_cons_of_mem _ hk.1,hk.2⟩]
      · rw[if_neg hk,if_neg]
        rintro⟨h1,h2,h3⟩
        rw[List.map_cons,List.mem_cons]at h1
        rcases h1 with h1|h1
        · exact h2 (h1.trans he)
        · exact hk ⟨h1,h2,h3⟩
theorem bZ{ops:Array Oper}{o:Oper}{i:Nat}{listed:Array Bool}{l:ov}(h:bM ops o i listed l=true){f:Nat}(hf:f∈l.map Prod.fst)(hne:f≠i)(hun:listed.getD f true=false):
    ∃of,ops[f]? =some of∧of.apart ops o=true:=by
  induction l with
  |nil=>simp at hf
  |cons x r ih=>
    simp only[bM,Bool.and_eq_true,Bool.or_eq_true]at h
    rw[List.map_cons]at hf
    rcases List.mem_cons.1 hf with rfl|hf
    · rcases h.1 with(h1|h1)|h1
      · exact absurd (Nat.eq_of_beq_eq_true h1) hne
      · rw[hun]at h1;simp at h1
      · split at h1
        · rename_i of ho;exact⟨of,ho,h1⟩
        · simp at h1
    · exact ih h.2 hf
theorem nQ{ops:Array Oper}{x y:Oper}(h:x.apart ops y=true):y.apart ops x=true:=by
  unfold Oper.apart at*
  cases hx:x.dst<;>cases hy:y.dst<;>simp_all
  exact fun e=>h.1.2 e.symm
theorem ic{ops:Array Oper}{l l':Array Bool}{i:Nat}(h:Region.free .any ops l i=true)(hm:∀k,l.getD k true=true→l'.getD k true=true):Region.free .any ops l' i=true:=by
  unfold Region.free at*
  split at h
  · simp at h
  · rename_i oi fu
    rw[List.all_eq_true]at h⊢
    intro j hj
    have:=h j hj
    simp only[Bool.or_eq_true]at this⊢
    rcases this with(h1|h1)|h1
    · exact .inl (.inl h1)
    · exact .inl (.inr (hm j h1))
    · exact .inr h1
abbrev Early:=List (Nat×Nat×Mk)
def uo(E:Early):Hp:=E.map fun x=>(x.2.1,x.2.2.1)
structure vF(P:Program)(n:Nat)(ops:Array Oper)(listed:Array Bool)(cl:ov)(fr:Fr)(j:Nat)(x:Mk)(o:Oper):Prop where
  op:ops[j]? =some o
  mr:jC o.op=false
  dst:cu n o.dst=true
  gd:o.guard.isNone=true
  makes:kR P o (ev fr) x
  zn:∀k y,bS cl k=some y→k≠j→listed.getD k true=false→∃ok,ops[k]? =some ok∧ok.apart ops o=true
structure ec(P:Program)(n:Nat)(ops:Array Oper)(cl:ov)(listed la:Array Bool)(E:Early)(fr fa:Fr):Prop where
  mem:∀x∈E,bS cl x.1=some x.2.2∧listed.getD x.1 true=false
  nd:(E.map Prod.fst).Nodup
  la:∀k,la[k]? =if k∈E.map Prod.fst then some true else listed[k]?
  out:∀s,(∀x∈E,bE ops x.1≠some s)→fa s=fr s
  at_:∀x∈E,∀d,bE ops x.1=some d→fa d=x.2.2.2 x.2.1
  cl:∀j x,bS cl j=some x→listed.getD j true=false→∃o,vF P n ops listed cl fr j x o
section
variable {n:Nat} {ops:Array Oper} {cl:ov} {listed la:Array Bool} {E:Early} {fr fa:Fr}
theorem ec.more(h:ec P n ops cl listed la E fr fa){k:Nat}{b:Bool}(hk:listed.getD k b=true):la.getD k b=true:=by
  have:=h.la k
  rw[Array.getD_eq_getD_getElem?]at hk⊢
  rw[this]
  split
  · rfl
  · exact hk
theorem ec.ready(h:ec P n ops cl listed la E fr fa){i:Nat}(hi:i∉E.map Prod.fst)(hr:i∈Region.ready .any ops listed):i∈Region.ready .any ops la:=by
  rw[mem_ready]at hr⊢
  obtain⟨h1,o,ho,an⟩:=hr
  refine⟨?_,o,ho,fun e he hb=>h.more (an e he hb)⟩
  have:=h.la i
  rw[Array.getD_eq_getD_getElem?]at h1⊢
  rw[this,if_neg hi];exact h1
theorem tO{i k:Nat}(h:(listed.setIfInBounds i true).getD k true=false):i≠k∧listed.getD k true=false:=by
  by_cases e:i=k
  · subst e
    rw[Array.getD_eq_getD_getElem?]at h
    rcases Nat.lt_or_ge i listed.size with hl|hl
    · rw[Array.getElem?_setIfInBounds_self_of_lt hl]at h;cases h
    · rw[Array.getElem?_eq_none (by simpa using hl)]at h;cases h
  · exact⟨e,by rwa [getD_set_ne true e]at h⟩
theorem kR.congr{o o':Oper}{x:Mk}{v:Value}(h:kR P o (ev fr) x)(hs:∀cs b,o.op≠.select cs b)(hap:o.apart ops o'=true):kR P o (ev (bF fr o'.dst v)) x:=by
  have e:execOp (ev (bF fr o'.dst v)) o=execOp (ev fr) o:=by
    refine execOp_congr o hs fun y hy=>?_
    cases y with
    |tmp t=>
      obtain⟨_,_,h3⟩:=Oper.apart_spec hap
      cases hd:o'.dst with
      |none=>rfl
      |some d=>
        have:=h3 d hd
        have hne:Nat.beq t d=false:=by
          cases hb:Nat.beq t d
          · rfl
          · have e:=Nat.eq_of_beq_eq_true hb;subst e
            refine absurd ?_ this
            exact List.mem_append_left _ (List.mem_filterMap.2 ⟨Operand.tmp t,by simpa using hy,rfl⟩)
        simp only[ev,bF,hne,cond_false]
    |const v=>rfl
    |global g=>rfl
    |func f=>rfl
  intro w;rw[e];exact h w
theorem rS(hs:Region.noSelect ops=true)(fw:∀j x,bS cl j=some x→listed.getD j true=false→∃o,vF P n ops listed cl fr j x o){i:Nat}{o:Oper}(hap:bM ops o i listed cl=true)(v:Value):
    ∀j x,bS cl j=some x→(listed.setIfInBounds i true).getD j true=false→∃oj,vF P n ops (listed.setIfInBounds i true) cl (bF fr o.dst v) j x oj:=by
  intro j x hx hun
  obtain⟨hne,s5⟩:=tO hun
  obtain⟨oj,h⟩:=fw j x hx s5
  obtain⟨Ct,dP,A2⟩:=bZ hap (dr hx) (Ne.symm hne) s5
  rw[h.op]at dP;cases dP
  exact⟨oj,h.op,h.mr,h.dst,h.gd,h.makes.congr (fun cs b=>Region.noSelect_spec hs j oj cs b h.op) A2,fun k y hk vT xC=>h.zn k y hk vT (tO xC).2⟩
theorem ec.step(hs:Region.noSelect ops=true)(h:ec P n ops cl listed la E fr fa){i:Nat}{o:Oper}(fu:ops[i]? =some o)(hi:i∉E.map Prod.fst)
   (jJ:bM ops o i listed cl=true)(v:Value):ec P n ops cl (listed.setIfInBounds i true) (la.setIfInBounds i true) E (bF fr o.dst v) (bF fa o.dst v):=by
  have hap:∀x∈E,∃of,ops[x.1]? =some of∧of.apart ops o=true:=fun x hx=>
      bZ jJ (dr (h.mem x hx).1) (fun e=>hi (e▸List.mem_map_of_mem hx)) (h.mem x hx).2
  have hsz:la[i]? =listed[i]? :=by rw[h.la i,if_neg hi]
  refine⟨fun x hx=>⟨(h.mem x hx).1,?_⟩,h.nd,fun k=>?_,fun s hs=>?_,fun x hx d hd=>?_,rS hs h.cl jJ v⟩
  · have hne:i≠x.1:=fun e=>hi (e▸List.mem_map_of_mem hx)
    rw[getD_set_ne true hne];exact(h.mem x hx).2
  · by_cases e:i=k
    · subst e
      rw[if_neg hi,Array.getElem?_setIfInBounds,Array.getElem?_setIfInBounds]
      simp only[if_true]
      have:i<la.size↔i<listed.size:=by
        constructor
        · intro hlt;rw[Array.getElem?_eq_getElem hlt]at hsz;exact(Array.getElem?_eq_some_iff.1 hsz.symm).1
        · intro hlt;rw[Array.getElem?_eq_getElem hlt]at hsz;exact(Array.getElem?_eq_some_iff.1 hsz).1
      by_cases hlt:i<la.size
      · rw[if_pos hlt,if_pos (this.1 hlt)]
      · rw[if_neg hlt,if_neg (fun x=>hlt (this.2 x))]
    · rw[Array.getElem?_setIfInBounds_ne e,Array.getElem?_setIfInBounds_ne e];exact h.la k
  · cases hd:o.dst with
    |none=>exact h.out s hs
    |some d=>
      simp only[bF]
      cases Nat.beq s d
      · exact h.out s hs
      · rfl
  · obtain⟨of,ta,hap⟩:=hap x hx
    obtain⟨h1,h2,h3⟩:=Oper.apart_spec hap
    have uR:of.dst=some d:=by simpa[bE,ta]using hd
    have:=h2 d uR
    cases AW:o.dst with
    |none=>exact h.at_ x hx d hd
    |some d'=>
      have hne:Nat.beq d d'=false:=by
        cases hb:Nat.beq d d'
        · rfl
        · have e:=Nat.eq_of_beq_eq_true hb;subst e;exact absurd AW this
      simp only[bF,hne,cond_false];exact h.at_ x hx d hd
theorem ec.exec(h:ec P n ops cl listed la E fr fa){o:Oper}
   (hap:∀x∈E,∃of,ops[x.1]? =some of∧of.apart ops o=true)(hs:∀cs b,o.op≠.select cs b):execOp (ev fa) o=execOp (ev fr) o:=by
  refine execOp_congr o hs fun x hx=>?_
  cases x with
  |tmp t=>
    refine h.out t fun y hy e=>?_
    obtain⟨of,ta,hap⟩:=hap y hy
    obtain⟨h1,_,_⟩:=Oper.apart_spec hap
    refine h1 t (by simpa[bE,ta]using e) ?_
    exact List.mem_append_left _ (List.mem_filterMap.2 ⟨.tmp t,by simpa using hx,rfl⟩)
  |const v=>rfl
  |global g=>rfl
  |func f=>rfl
theorem ec.early(h:ec P n ops cl listed la E fr fa){j b:Nat}{x:Mk}(hj:bS cl j=some x)(rE:j∉E.map Prod.fst)(hun:listed.getD j true=false)
   {o:Oper}(ho:ops[j]? =some o):ec P n ops cl listed (la.setIfInBounds j true) ((j,b,x)::E) fr (bF fa o.dst (x.2 b)):=by
  obtain⟨o',fw⟩:=h.cl j x hj hun
  have dP:=fw.op
  rw[ho]at dP;cases dP
  have u5:∀y∈E,∃of,ops[y.1]? =some of∧of.apart ops o=true:=fun y hy=>
    fw.zn y.1 _ (h.mem y hy).1 (fun e=>rE (e▸List.mem_map_of_mem hy)) (h.mem y hy).2
  have AJ:j<la.size:=by
    have hl:=h.la j
    rw[if_neg rE]at hl
    have h2:j<listed.size:=by
      rcases Nat.lt_or_ge j listed.size with h2|h2
      · exact h2
      · rw[Array.getD_eq_getD_getElem?,Array.getElem?_eq_none h2]at hun;simp at hun
    rw[Array.getElem?_eq_getElem h2]at hl
    exact(Array.getElem?_eq_some_iff.1 hl).1
  refine⟨fun y hy=>?_,?_,fun k=>?_,fun s hs=>?_,fun y hy d hd=>?_,h.cl⟩
  · rcases List.mem_cons.1 hy with rfl|hy
    · exact⟨hj,hun⟩
    · exact h.mem y hy
  · rw[List.map_cons,List.nodup_cons];exact⟨rE,h.nd⟩
  · by_cases e:j=k
    · subst e;rw[if_pos (by simp),Array.getElem?_setIfInBounds_self_of_lt AJ]
    · rw[Array.getElem?_setIfInBounds_ne e,h.la k]
      by_cases hk:k∈E.map Prod.fst
      · rw[if_pos hk,if_pos (by rw[List.map_cons];exact List.mem_cons_of_mem _ hk)]
      · rw[if_neg hk,if_neg]
        rw[List.map_cons,List.mem_cons]
        rintro(h1|hk')
        · exact e h1.symm
        · exact hk hk'
  · have hne:=hs (j,b,x) (by simp)
    simp only[bE,ho]at hne
    rw[show bF fa o.dst (x.2 b) s=fa s from ?_]
    · exact h.out s fun y hy=>hs y (by simp[hy])
    · cases hd:o.dst with
      |none=>rfl
      |some d=>
        rw[hd]at hne
        have:Nat.beq s d=false:=by
          cases hb:Nat.beq s d
          · rfl
          · exact absurd (congrArg some (Nat.eq_of_beq_eq_true hb).symm) hne
        simp only[bF,this,cond_false]
  · rcases List.mem_cons.1 hy with rfl|hy
    · simp only[bE,ho]at hd
      rw[hd];simp[bF]
    · obtain⟨of,ta,hap⟩:=u5 y hy
      obtain⟨_,h2,_⟩:=Oper.apart_spec hap
      have uR:of.dst=some d:=by simpa[bE,ta]using hd
      have:=h2 d uR
      cases AW:o.dst with
      |none=>exact h.at_ y hy d hd
      |some d'=>
        have hne:Nat.beq d d'=false:=by
          cases hb:Nat.beq d d'
          · rfl
          · have e:=Nat.eq_of_beq_eq_true hb;subst e;exact absurd AW this
        simp only[bF,hne,cond_false];exact h.at_ y hy d hd
theorem ec.z9(hs:Region.noSelect ops=true){E1 E2:Early}{j b:Nat}{x:Mk}(h:ec P n ops cl listed la (E1++(j,b,x)::E2) fr fa){o:Oper}(ho:ops[j]? =some o)(jJ:bM ops o j listed cl=true):
    ec P n ops cl (listed.setIfInBounds j true) la (E1++E2) (bF fr o.dst (x.2 b)) fa:=by
  have pJ:=h.nd
  rw[List.map_append,List.map_cons]at pJ
  have AL:j∉(E1++E2).map Prod.fst:=by
    have:=(List.perm_middle.nodup_iff.1 pJ)
    rw[List.nodup_cons]at this
    rw[List.map_append];exact this.1
  have hsub:∀y,y∈E1++E2→y∈E1++(j,b,x)::E2:=fun y hy=>by
    rcases List.mem_append.1 hy with hy|hy<;>simp[hy]
  have vV:j<listed.size:=by
    have h2:=(h.mem (j,b,x) (by simp)).2
    rcases Nat.lt_or_ge j listed.size with h3|h3
    · exact h3
    · simp only at h2;rw[Array.getD_eq_getD_getElem?,Array.getElem?_eq_none h3]at h2;simp at h2
  refine⟨fun y hy=>⟨(h.mem y (hsub y hy)).1,?_⟩,?_,fun k=>?_,fun s hs=>?_,fun y hy d hd=>h.at_ y (hsub y hy) d hd,rS hs h.cl jJ _⟩
  · have hne:j≠y.1:=fun e=>AL (e▸List.mem_map_of_mem hy)
    rw[getD_set_ne true hne];exact(h.mem y (hsub y hy)).2
  · have:=(List.perm_middle.nodup_iff.1 pJ)
    rw[List.nodup_cons]at this
    rw[List.map_append];exact this.2
  · have hk:=h.la k
    by_cases e:j=k
    · subst e
      rw[if_pos (by simp)]at hk
      rw[hk,if_neg AL,Array.getElem?_setIfInBounds_self_of_lt vV]
    · rw[Array.getElem?_setIfInBounds_ne e,hk]
      have:k∈(E1++(j,b,x)::E2).map Prod.fst↔k∈(E1++E2).map Prod.fst:=by
        simp only[List.map_append,List.map_cons,List.mem_append,List.mem_cons]
        constructor
        · rintro(h|rfl|h)
          · exact .inl h
          · exact absurd rfl e
          · exact .inr h
        · rintro(h|h)
          · exact .inl h
          · exact .inr (.inr h)
      simp only[this]
  · by_cases e:bE ops j=some s
    · rw[h.at_ (j,b,x) (by simp) s e]
      simp only[bE,ho]at e
      rw[e];simp[bF]
    · rw[h.out s fun y hy=>?_]
      · simp only[bE,ho]at e
        cases hd:o.dst with
        |none=>rfl
        |some d=>
          rw[hd]at e
          have:Nat.beq s d=false:=by
            cases hb:Nat.beq s d
            · rfl
            · exact absurd (congrArg some (Nat.eq_of_beq_eq_true hb).symm) e
          simp only[bF,this,cond_false]
      · rcases List.mem_append.1 hy with hy|hy
        · exact hs y (by simp[hy])
        · rcases List.mem_cons.1 hy with rfl|hy
          · exact e
          · exact hs y (by simp[hy])
theorem ec.yd(h:ec P n ops cl listed la E fr fa){i:Nat}{o:Oper}{x:Mk}(ho:ops[i]? =some o)(hd:cu n o.dst=true)(hg:o.guard.isNone=true)(hp:jC o.op=false)(hun:listed.getD i true=false)
   (hap:bM ops o i listed cl=true)(hno:bS cl i=none)(hm:kR P o (ev fr) x):ec P n ops ((i,x)::cl) listed la E fr fa:=by
  have hne:∀j y,bS cl j=some y→j≠i:=fun j y hj e=>by subst e;rw[hno]at hj;cases hj
  have hex:∀j y,bS cl j=some y→bS ((i,x)::cl) j=some y:=fun j y hj=>by
    have:Nat.beq i j=false:=by
      cases hb:Nat.beq i j
      · rfl
      · exact absurd (Nat.eq_of_beq_eq_true hb).symm (hne j y hj)
    simp only[bS,this,cond_false];exact hj
  have u0:∀j y,bS ((i,x)::cl) j=some y→(j=i∧y=x)∨(j≠i∧bS cl j=some y):=fun j y hj=>by
    simp only[bS]at hj
    cases hb:Nat.beq i j<;>simp only[hb,cond_true,cond_false]at hj
    · exact .inr ⟨fun e=>by subst e;simp at hb,hj⟩
    · exact .inl ⟨(Nat.eq_of_beq_eq_true hb).symm,by simpa using hj.symm⟩
  refine⟨fun y hy=>⟨hex _ _ (h.mem y hy).1,(h.mem y hy).2⟩,h.nd,h.la,h.out,h.at_,fun j y hj hu=>?_⟩
  rcases u0 j y hj with⟨rfl,rfl⟩|⟨yZ,tY⟩
  · refine⟨o,ho,hp,hd,hg,hm,fun k z hk vT xC=>?_⟩
    rcases u0 k z hk with⟨rfl,rfl⟩|⟨_,hk⟩
    · exact absurd rfl vT
    · exact bZ hap (dr hk) vT xC
  · obtain⟨oj,hc⟩:=h.cl j y tY hu
    refine⟨oj,hc.op,hc.mr,hc.dst,hc.gd,hc.makes,fun k z hk vT xC=>?_⟩
    rcases u0 k z hk with⟨rfl,rfl⟩|⟨_,hk⟩
    · obtain⟨Ct,h1,h2⟩:=bZ hap (dr tY) yZ hu
      rw[hc.op]at h1;cases h1
      exact⟨o,ho,nQ h2⟩
    · exact hc.zn k z hk vT xC
end
theorem pU{E1 E2:Early}{y:Nat×Nat×Mk}:(uo (E1++y::E2)).Perm ((y.2.1,y.2.2.1)::uo (E1++E2)):=by
  unfold uo
  rw[List.map_append,List.map_cons,List.map_append]
  exact List.perm_middle
def cnt:List Bool→Nat
  | []=>0
  |b::r=>cond b 0 1+cnt r
theorem oS:∀(l:List Bool) (i:Nat),l[i]? =some false→cnt (l.set i true)+1=cnt l
  | [],i,h=>by simp at h
  |b::r,0,h=>by simp only[List.getElem?_cons_zero,Option.some.injEq]at h;subst h;simp only[List.set_cons_zero,cnt,cond_true,cond_false];omega
  |b::r,i+1,h=>by
    simp only[List.getElem?_cons_succ]at h
    have:=oS r i h
    simp only[List.set_cons_succ,cnt];omega
theorem kj(n:Nat):cnt (List.replicate n false)=n:=by
  induction n with
  |zero=>rfl
  |succ n ih=>simp only[List.replicate_succ,cnt,ih,cond_false];omega
theorem cc{a:Array Bool}{i:Nat}(h:a.getD i true=false):a[i]? =some false:=by
  rw[Array.getD_eq_getD_getElem?]at h
  cases hg:a[i]? with
  |none=>rw[hg]at h;simp at h
  |some b=>rw[hg]at h;simpa using h
theorem eW{a:Array Bool}{i fuel:Nat}(h:a.getD i true=false)(hf:cnt a.toList≤fuel):∃f,fuel=f+1∧cnt (a.setIfInBounds i true).toList≤f:=by
  have h1:=cc h
  have h2:a.toList[i]? =some false:=by rw[Array.getElem?_toList];exact h1
  have:=oS _ _ h2
  refine⟨fuel-1,by omega,?_⟩
  have:(a.setIfInBounds i true).toList=a.toList.set i true:=by simp
  rw[this];omega
theorem p6{listed:Array Bool}{l:ov}(h:r3 listed l=true){f:Nat}(hf:f∈l.map Prod.fst):listed.getD f false=true:=by
  induction l with
  |nil=>simp at hf
  |cons x r ih=>
    simp only[r3,Bool.and_eq_true]at h
    rw[List.map_cons]at hf
    rcases List.mem_cons.1 hf with rfl|hf
    · exact h.1
    · exact ih h.2 hf
theorem tp{a:Array Bool}{i:Nat}(h:a.getD i false=true):a.getD i true=true:=by
  rw[Array.getD_eq_getD_getElem?]at*
  cases hg:a[i]? with
  |none=>rfl
  |some b=>rw[hg]at h;simpa using h
theorem bL{n:Nat}{ops:Array Oper}{R:Hp}{K:Fr→Hp→Prop}{Q:Exit→Act→World→Prop}(hs:Region.noSelect ops=true)(kL:Fr)
   (hk:∀a w fr H,bc ds n a fr→Own g H w→bD ops.toList kL fr→K fr H→Q .normal a w):
    ∀(fuel:Nat) (l:Hn) (cl:ov) (listed:Array Bool) (fr:Fr) (H:Hp),gi P g n ops R K l cl listed fr H→∀(E:Early) (la:Array Bool) (fa:Fr),cnt la.toList≤fuel→ec P n ops cl listed la E fr fa→bU .any ops la→
      ∀(a:Act) (w:World),bc ds n a fa→Own (g.add (uo E)) H w→((∃k ok,ops[k]? =some ok∧kg P ok.op=true∧la.getD k true=false)→Own g R w)→bD ops.toList kL fr→
      cr P .any ops (gP Q) (fJ P g R ops) fuel la a w
  |fuel,.e,cl,listed,fr,H,h=>by
    intro E la fa hfuel hE dn a w ha hw hR ho
    unfold gi at h
    cases hr:((Region.ready .any ops listed).isEmpty&&r3 listed cl)<;>simp only[hr,cond_true,cond_false]at h
    simp only[Bool.and_eq_true]at hr
    have hr':Region.ready .any ops listed=[]:=by simpa using hr.1
    have EZ:E=[]:=by
      cases E with
      |nil=>rfl
      |cons x y=>
        have h1:=hE.mem x (by simp)
        have h2:=tp (p6 hr.2 (dr h1.1))
        rw[h1.2]at h2;cases h2
    subst EZ
    have AU:fa=fr:=by funext s;exact hE.out s (by simp)
    subst AU
    refine cr.done (Q:=gP Q) ?_ (hk a w fa H ha hw ho h) fuel
    rw[List.eq_nil_iff_forall_not_mem]at hr'⊢
    intro k hk'
    refine hr' k ?_
    rw[mem_ready]at hk'⊢
    obtain⟨h1,o,h2,h3⟩:=hk'
    have hla:=fun k=>hE.la k
    simp only[List.map_nil,List.not_mem_nil,if_false]at hla
    refine⟨?_,o,h2,fun e he hb=>?_⟩
    · rw[Array.getD_eq_getD_getElem?,←hla,←Array.getD_eq_getD_getElem?];exact h1
    · rw[Array.getD_eq_getD_getElem?,←hla,←Array.getD_eq_getD_getElem?];exact h3 e he hb
  |fuel,.h m L T pa pb,cl,listed,fr,H,h=>by
    intro E la fa hfuel hE dn a w ha hw hR ho
    have h0:=h
    unfold gi at h
    split at h<;>try exact h.elim
    rename_i i
    split at h<;>try exact h.elim
    rename_i o fu
    cases h1:Nat.beq m 1<;>simp only[h1,cond_true,cond_false]at h
    case true=>
      cases hc:(cu n o.dst&&o.guard.isNone&& !jC o.op&& !listed.getD i true&&bM ops o i listed cl&& (match bS cl i with|none=>true|some _=>false))<;>simp only[hc,cond_true,cond_false]at h
      simp only[Bool.and_eq_true,Bool.not_eq_true']at hc
      obtain⟨⟨⟨⟨⟨hd,hg⟩,hp⟩,hun⟩,hap⟩,hno⟩:=hc
      have rz:bS cl i=none:=by
        split at hno
        · assumption
        · cases hno
      obtain⟨x,hm,hk'⟩:=h.makes
      exact bL hs kL hk fuel pa _ listed fr H hk' E la fa hfuel (hE.yd fu hd hg hp hun hap rz hm) dn a w ha hw hR ho
    have hmem:o∈ops.toList:=Array.mem_toList_iff.2 (Array.mem_of_getElem? fu)
    have hout:∀v,bD ops.toList kL (bF fr o.dst v):=fun v s hs'=>by
      rw[cf,ho s hs']
      have:∀l:List Oper,o∈l→aJ l s=false→aJ [({(default:Oper)with dst:=o.dst})] s=false:=by
        intro l
        induction l with
        |nil=>intro h;simp at h
        |cons x y ih=>
          intro hm hi
          rw[bj,Bool.or_eq_false_iff]at hi
          rcases List.mem_cons.1 hm with rfl|hm
          · exact hi.1
          · exact ih hm hi.2
      exact this _ hmem hs'
    cases hc:(cu n o.dst&&bM ops o i listed cl&& (Region.ready .any ops listed).contains i)<;>simp only[hc,cond_true,cond_false]at h
    simp only[Bool.and_eq_true]at hc
    obtain⟨⟨hd,jJ⟩,Au⟩:=hc
    have s7:i∈Region.ready .any ops listed:=by simpa using Au
    have hun:=(mem_ready.1 s7).1
    have hap:i∉E.map Prod.fst→∀x∈E,∃of,ops[x.1]? =some of∧of.apart ops o=true:=fun hi x hx=>
      bZ jJ (dr (hE.mem x hx).1) (fun e=>hi (e▸List.mem_map_of_mem hx)) (hE.mem x hx).2
    have hsel:∀cs b,o.op≠.select cs b:=fun cs b=>Region.noSelect_spec hs i o cs b fu
    have wB:∀j,j∈Region.ready .any ops la→j∉E.map Prod.fst∧listed.getD j true=false:=fun j hj=>by
      have h1:=cc (mem_ready.1 hj).1
      have h2:=hE.la j
      by_cases rE:j∈E.map Prod.fst
      · rw[if_pos rE,h1]at h2;cases h2
      · rw[if_neg rE,h1]at h2
        exact⟨rE,by rw[Array.getD_eq_getD_getElem?,←h2];rfl⟩
    have early:∀f',fuel=f'+1→(∀j,la.getD j true=false→cnt (la.setIfInBounds j true).toList≤f')→∀j x,j∈Region.ready .any ops la→bS cl j=some x→
        wpOp P ops (gP Q) j (fun a' w'=>fJ P g R ops j w w'∧cr P .any ops (gP Q) (fJ P g R ops) f' (la.setIfInBounds j true) a' w') a w:=by
      intro f' Gn jI j x hj y2
      obtain⟨rE,vV⟩:=wB j hj
      obtain⟨oj,fw⟩:=hE.cl j x y2 vV
      have dg:=fw.op
      have lq:=fw.mr
      have AP:=fw.gd
      have AV:execOp (ev fa) oj=execOp (ev fr) oj:=hE.exec (fun y hy=>fw.zn y.1 _ (hE.mem y hy).1 (fun e=>rE (e▸List.mem_map_of_mem hy)) (hE.mem y hy).2) (fun cs b=>Region.noSelect_spec hs j oj cs b dg)
      unfold wpOp
      simp only[dg,dA AP,if_true]
      refine .inl ?_
      unfold Oper.wp
      rw[ha.eval,AV,fw.makes w]
      simp only[Oper.upon]
      have u6:∀{A:Hp},Own g A w→Own g A (w.alloc x.1):=fun hA=>(hA.alloc x.1).tail
      refine⟨fun Ct eE=>⟨fun hp=>?_,fun _=>⟨u6 (Own.cD.2 hw).eN,fun _ h1=>u6 h1⟩⟩,?_⟩
      · rw[dg]at eE;cases eE;rw[lq]at hp;cases hp
      · have jK:=hE.early (b:=w.heap.size) y2 rE vV dg
        refine bL hs kL hk f' (.h m [i] T pa pb) cl listed fr H h0 ((j,w.heap.size,x)::E) _ _ (jI j (mem_ready.1 hj).1) jK (dn.step hj) _ _ (ha.put fw.dst _) ?_ ?_ ho
        · have h1:=hw.alloc x.1
          have h2:Own (g.add (uo E)) (H++[(w.heap.size,x.1)]) (w.alloc x.1):=h1.perm (by exact(List.perm_append_comm (l₁:=[(w.heap.size,x.1)]) (l₂:=H)))
          have h3:=Own.cD.1 h2
          exact h3
        · rintro⟨k,ok,ng,nF,ja⟩
          refine u6 (hR ⟨k,ok,ng,nF,ct (mem_ready.1 hj).1 ja⟩)
    have fF:∀b,kW ops fr o=some b→i∉E.map Prod.fst→Region.wanted o (yielded ops a.tmps)=b:=by
      intro b hb jH
      unfold kW at hb
      unfold Region.wanted
      split at hb
      · rename_i hg;simp only[hg];simpa using hb
      · rename_i j want hg
        simp only[hg]
        split at hb<;>try (cases hb;done)
        rename_i s dF
        rw[eg ha dF]
        have iM:fa s=fr s:=hE.out s fun y hy e=>by
          obtain⟨of,ta,hap⟩:=hap jH y hy
          obtain⟨h1,_,_⟩:=Oper.apart_spec hap
          refine h1 s (by simpa[bE,ta]using e) ?_
          refine List.mem_append_right _ ?_
          rw[hg]
          unfold bE at dF
          cases hj:ops[j]? with
          |none=>rw[hj]at dF;cases dF
          |some oj=>rw[hj]at dF;simp only at dF;simp[hj,dF]
        rw[iM]
        split at hb
        · rename_i c hc;rw[hc];simp only[Option.some.injEq]at hb;subst hb;cases c<;>cases want<;>rfl
        · rename_i c hc;rw[hc];simp only[Option.some.injEq]at hb;subst hb;cases want<;>rfl
        · cases hb
    split at h<;>try exact h.elim
    · -- not wanted
      rename_i Ao
      cases fi:(Region.free .any ops listed i&& (match bS cl i with|none=>true|some _=>false))<;>simp only[fi,cond_true,cond_false]at h
      simp only[Bool.and_eq_true]at fi
      have rz:bS cl i=none:=by
        have:=fi.2
        split at this
        · assumption
        · cases this
      have jH:i∉E.map Prod.fst:=fun hm=>by
        obtain⟨x,hx,e⟩:=List.mem_map.1 hm
        have:=(hE.mem x hx).1
        rw[e,rz]at this;cases this
      have ew:=hE.ready jH s7
      have ia:=(mem_ready.1 ew).1
      obtain⟨f',rfl,jI⟩:=eW ia hfuel
      have hfree:=ic (l':=la) fi.1 (fun k hk=>hE.more hk)
      have pO:(Region.ready .any ops la).contains i=true:=by simpa using ew
      refine cr.take dn (S0:=Own g []) fu hs hfree pO (fun _ _ _ h=>h) (fun w hw oj dg=>⟨fun _=>rfl,fun _=>⟨hw,fun _ h=>h⟩⟩) (fun j oj w w' dg hj hno h0 hk=>?_) (.inr ⟨fF false Ao jH,rfl⟩) (Own.cD.2 hw).eN ?_
      · cases lq:jC oj.op
        · exact((hk oj dg).2 lq).1
        · rw[(hk oj dg).1 lq];exact h0
      · refine bL hs kL hk f' pa cl _ _ H h E _ _ jI (hE.step hs fu jH jJ _) (dn.step ew) _ w (ha.put hd _) hw ?_ (hout _)
        rintro⟨k,ok,ng,nF,ja⟩
        exact hR ⟨k,ok,ng,nF,ct ia ja⟩
    rename_i Ao
    have y4:=fF true Ao
    have tZ:∀v f' sx a' w',(cond (Nat.beq m 0) (gi P g n ops R K pa cl (listed.setIfInBounds i true) (bF fr o.dst v) H)
                    (Br v (gi P g n ops R K pa cl (listed.setIfInBounds i true) (bF fr o.dst (.bool true)) H) (gi P g n ops R K pb cl (listed.setIfInBounds i true) (bF fr o.dst (.bool false)) H)))→
        cnt sx.toList≤f'→ec P n ops cl (listed.setIfInBounds i true) sx E (bF fr o.dst v) (bF fa o.dst v)→bU .any ops sx→bc ds n a' (bF fa o.dst v)→Own (g.add (uo E)) H w'→
        ((∃k ok,ops[k]? =some ok∧kg P ok.op=true∧sx.getD k true=false)→Own g R w')→f'<fuel→cr P .any ops (gP Q) (fJ P g R ops) f' sx a' w':=by
      intro v f' sx a' w' hv h1 h2 rI h3 h4 h5 hlt
      cases hm:Nat.beq m 0<;>simp only[hm,cond_true,cond_false]at hv
      · obtain⟨b,rfl,xU,xS⟩:=hv
        cases b
        · exact bL hs kL hk f' pb cl _ _ H (xS rfl) E sx _ h1 h2 rI a' w' h3 h4 h5 (hout _)
        · exact bL hs kL hk f' pa cl _ _ H (xU rfl) E sx _ h1 h2 rI a' w' h3 h4 h5 (hout _)
      · exact bL hs kL hk f' pa cl _ _ H hv E sx _ h1 h2 rI a' w' h3 h4 h5 (hout _)
    cases h3:Nat.beq m 3<;>simp only[h3,cond_true,cond_false]at h
    case true=>
      cases fi:(pH o&&Region.free .any ops listed i)<;>simp only[fi,cond_true,cond_false]at h
      simp only[Bool.and_eq_true]at fi
      split at h<;>try exact h.elim
      rename_i b xm
      have mH:jC o.op=true:=rh fi.1
      have jH:i∉E.map Prod.fst:=fun hm=>by
        obtain⟨x,hx,e⟩:=List.mem_map.1 hm
        have h2:=hE.mem x hx
        obtain⟨o',fw⟩:=hE.cl _ _ h2.1 h2.2
        have h3:=fw.op
        rw[e,fu]at h3;cases h3
        have:=fw.mr
        rw[mH]at this;cases this
      have ew:=hE.ready jH s7
      have ia:=(mem_ready.1 ew).1
      obtain⟨f',rfl,jI⟩:=eW ia hfuel
      have hfree:=ic (l':=la) fi.2 (fun k hk=>hE.more hk)
      have pO:(Region.ready .any ops la).contains i=true:=by simpa using ew
      have eS:∀w,fJ P g R ops i w w:=fun w oj eE=>⟨fun _=>rfl,fun hn=>(by rw[fu]at eE;cases eE;rw[mH]at hn;cases hn)⟩
      have pN:=hE.exec (hap jH) hsel
      refine cr.take dn (S0:=Own g []) fu hs hfree pO (fun _ _ _ h=>h) (fun w _=>eS w) (fun j oj w w' dg hj hno h0 hk=>?_) (.inl ⟨y4 jH,fun w' cG=>by rw[ha.eval,pN];exact rf fi.1 xm w'⟩) (Own.cD.2 hw).eN ?_
      · cases lq:jC oj.op
        · exact((hk oj dg).2 lq).1
        · rw[(hk oj dg).1 lq];exact h0
      · refine bL hs kL hk f' pa cl _ _ H h E _ _ jI (hE.step hs fu jH jJ _) (dn.step ew) _ w (ha.put hd _) hw ?_ (hout _)
        rintro⟨k,ok,ng,nF,ja⟩
        exact hR ⟨k,ok,ng,nF,ct ia ja⟩
    cases mH:jC o.op<;>simp only[mH,cond_true,cond_false]at h
    case true=>
      cases fi:(Region.free .any ops listed i)<;>simp only[fi,cond_true,cond_false]at h
      have jH:i∉E.map Prod.fst:=fun hm=>by
        obtain⟨x,hx,e⟩:=List.mem_map.1 hm
        have h2:=hE.mem x hx
        obtain⟨o',fw⟩:=hE.cl _ _ h2.1 h2.2
        have h3:=fw.op
        rw[e,fu]at h3;cases h3
        have:=fw.mr
        rw[mH]at this;cases this
      have ew:=hE.ready jH s7
      have ia:=(mem_ready.1 ew).1
      obtain⟨f',rfl,jI⟩:=eW ia hfuel
      have hfree:=ic (l':=la) fi (fun k hk=>hE.more hk)
      have pO:(Region.ready .any ops la).contains i=true:=by simpa using ew
      have eS:∀w,fJ P g R ops i w w:=fun w oj eE=>⟨fun _=>rfl,fun hn=>(by rw[fu]at eE;cases eE;rw[mH]at hn;cases hn)⟩
      have hst:=fun v=>hE.step hs fu jH jJ v
      have pN:=hE.exec (hap jH) hsel
      cases hn:wR P o.op
      case true=>
        rw[mq hn (ev fr) R []]at h
        obtain⟨v,hk',hr⟩:=dU h
        refine cr.take dn (S0:=Own g []) fu hs hfree pO (fun _ _ _ h=>h) (fun w _=>eS w) (fun j oj w w' dg hj hno h0 hk=>?_) (.inl ⟨y4 jH,fun w' cG=>by rw[ha.eval,pN];exact hr w' cG⟩) (Own.cD.2 hw).eN ?_
        · cases lq:jC oj.op
          · exact((hk oj dg).2 lq).1
          · rw[(hk oj dg).1 lq];exact h0
        · refine tZ v f' _ _ w hk' jI (hst v) (dn.step ew) (ha.put hd v) hw ?_ (by omega)
          rintro⟨k,ok,ng,nF,ja⟩
          exact hR ⟨k,ok,ng,nF,ct ia ja⟩
      case false=>
        obtain⟨v,hk',hr⟩:=dU h
        have hrd:kg P o.op=true:=by simp[kg,mH,hn]
        have x2:Own g R w:=hR ⟨i,o,fu,hrd,ia⟩
        refine cr.take dn (S0:=Own g R) fu hs hfree pO (fun _ _ _ h=>h) (fun w _=>eS w) (fun j oj w w' dg hj hno h0 hk=>?_) (.inl ⟨y4 jH,fun w' cG=>by rw[ha.eval,pN];exact hr w' cG⟩) x2 ?_
        · cases lq:jC oj.op
          · exact((hk oj dg).2 lq).2 (er fu hrd hj hno) h0
          · rw[(hk oj dg).1 lq];exact h0
        · exact tZ v f' _ _ w hk' jI (hst v) (dn.step ew) (ha.put hd v) hw (fun _=>x2) (by omega)
    case false=>
      cases fi:(Region.ready .any ops (marks cl i listed)==[i])<;>simp only[fi,cond_true,cond_false]at h
      have hrd:=beq_iff_eq.1 fi
      by_cases jH:i∈E.map Prod.fst
      · obtain⟨⟨i',b,x⟩,hx,e⟩:=List.mem_map.1 jH
        simp only at e;subst e
        have hex:bS cl i'=some x:=(hE.mem _ hx).1
        simp only[hex]at h
        obtain⟨E1,E2,rfl⟩:=List.append_of_mem hx
        have lp:Own (g.add (uo (E1++E2))) ((b,x.1)::H) w:=by
          have h1:=(Own.cD.2 hw).perm ((List.Perm.append_left H (pU (E1:=E1) (E2:=E2) (y:=(i',b,x)))).trans List.perm_middle)
          exact(Own.cD (A:=(b,x.1)::H)).1 h1
        have hb:b∉H.map Prod.fst:=by
          have:=lp.nd
          rw[List.cons_append,List.map_cons,List.nodup_cons,List.map_append,List.mem_append]at this
          exact fun h=>this.1 (.inl h)
        exact bL hs kL hk fuel pa cl _ _ _ (h b hb) (E1++E2) la fa hfuel (hE.z9 hs fu jJ) dn a w ha lp hR (hout _)
      · have ew:=hE.ready jH s7
        have ia:=(mem_ready.1 ew).1
        obtain⟨f',rfl,jI⟩:=eW ia hfuel
        have xO:∀j,la.getD j true=false→cnt (la.setIfInBounds j true).toList≤f':=fun j hj=>by
          obtain⟨f2,h1,h2⟩:=eW hj hfuel
          have:f2=f':=by omega
          subst this;exact h2
        have hst:=fun v=>hE.step hs fu jH jJ v
        have pN:=hE.exec (hap jH) hsel
        refine cr.all rfl (fun e=>by rw[e]at ew;simp at ew) fun j hj=>?_
        by_cases yZ:j=i
        · subst yZ
          have mr:∀oj,ops[j]? =some oj→jC oj.op=true→False:=fun oj dg hp=>by rw[fu]at dg;cases dg;rw[mH]at hp;cases hp
          unfold wpOp
          simp only[fu,y4 jH,if_true]
          refine .inl ?_
          unfold Oper.wp
          rw[ha.eval,pN]
          cases hex:bS cl j with
          |none=>
            simp only[hex]at h
            have h:=h (uo E)
            refine(nv (jc fr) h w hw).upon (fun v H' w' dP hb=>?_) (fun ch H' w' _ h0=>h0.elim)
            obtain⟨he,hk'⟩:=hb.of
            have xZ:iH P ops j=true→Own g R w':=fun hn=>(Own.cD.2 (he (qX hn) _ _ dP)).left
            refine⟨fun oj eE=>⟨fun hp=>(mr oj eE hp).elim,fun _=>⟨(Own.cD.2 dP).eN,fun hn _=>xZ hn⟩⟩,bL hs kL hk f' pa cl _ _ H' hk' E _ _ jI (hst v) (dn.step ew) _ w' (ha.put hd v) dP ?_ (hout v)⟩
            rintro⟨k,ok,ng,nF,ja⟩
            refine xZ ?_
            have uW:j≠k:=fun e=>by
              subst e
              have h1:=cc ia
              have hlt:=(Array.getElem?_eq_some_iff.1 h1).1
              rw[Array.getD_eq_getD_getElem?,Array.getElem?_setIfInBounds_self_of_lt hlt]at ja
              cases ja
            rw[getD_set_ne true uW]at ja
            refine er ng nF uW fun hw=>?_
            rw[dn.ready ew hw]at ja;cases ja
          |some x=>
            simp only[hex]at h
            obtain⟨oj,fw⟩:=hE.cl j x hex hun
            have dg:=fw.op
            rw[fu]at dg;cases dg
            rw[fw.makes w]
            simp only[Oper.upon]
            have u6:∀{A:Hp},Own g A w→Own g A (w.alloc x.1):=fun hA=>(hA.alloc x.1).tail
            refine⟨fun oj eE=>⟨fun hp=>(mr oj eE hp).elim,fun _=>⟨u6 (Own.cD.2 hw).eN,fun _ h1=>u6 h1⟩⟩,?_⟩
            refine bL hs kL hk f' pa cl _ _ _ (h _ hw.fresh) E _ _ jI (hst _) (dn.step ew) _ _ (ha.put hd _) (hw.alloc x.1) ?_ (hout _)
            rintro⟨k,ok,ng,nF,ja⟩
            exact u6 (hR ⟨k,ok,ng,nF,ct ia ja⟩)
        · obtain⟨rE,vV⟩:=wB j hj
          cases xD:bS cl j with
          |some x=>exact early f' rfl xO j x hj xD
          |none=>
          refine absurd ?_ yZ
          have y2:j∉cl.map Prod.fst:=fun hm=>by
            obtain⟨x,hx⟩:=pS hm
            rw[xD]at hx;cases hx
          have CN:j∈Region.ready .any ops (marks cl i listed):=by
            obtain⟨_,oj,dg,an⟩:=mem_ready.1 hj
            rw[mem_ready]
            refine⟨?_,oj,dg,fun e he hb=>?_⟩
            · rw[Array.getD_eq_getD_getElem?,kF,if_neg (fun h=>y2 h.1),←Array.getD_eq_getD_getElem?];exact vV
            · have h1:=an e he hb
              have h2:=hE.la e.on
              rw[Array.getD_eq_getD_getElem?]at h1⊢
              rw[kF]
              by_cases hm:e.on∈E.map Prod.fst
              · obtain⟨x,hx,e2⟩:=List.mem_map.1 hm
                have CJ:=cc (hE.mem x hx).2
                rw[e2]at CJ
                have hlt:=(Array.getElem?_eq_some_iff.1 CJ).1
                rw[if_pos ⟨e2▸dr (hE.mem x hx).1,fun e3=>jH (e3▸hm),hlt⟩];rfl
              · rw[if_neg hm]at h2
                split
                · rfl
                · rw[←h2];exact h1
          rw[hrd]at CN
          simpa using CN
  termination_by fuel l=>(fuel,SizeOf.sizeOf l)
def iU:Code→Nat→Bool
  | .region _ ops _,s=>aJ ops.toList s
  | .seq a b,s=>iU a s||iU b s
  | .cond _ a b,s=>iU a s||iU b s
  | .block _ c,s=>iU c s
  | .loop c,s=>iU c s
  | .skip,_=>false
  | .ret,_=>false
  | .exit _,_=>false
  |_,_=>true
def uG(c:Code):List Nat→Bool
  | []=>true
  |s::r=> !iU c s&&uG c r
def jO(s:Nat):List Nat→Bool
  | []=>false
  |x::r=>Nat.beq s x||jO s r
def sS:List Nat→List Value→Fr→Fr
  |l::L,v::vs,base=>fun s=>cond (Nat.beq s l) v (sS L vs base s)
  |_,_,base=>base
def mix(L:List Nat)(vs:List Value)(I:List Nat)(fr gs:Fr):Fr:=sS L vs fun s=>cond (jO s I) (fr s) (gs s)
def nJ(fr:Fr):List Nat→List Value
  | []=>[]
  |s::r=>fr s::nJ fr r
def kz:Nat→(List Value→Prop)→Prop
  |0,p=>p []
  |n+1,p=>∀v,kz n fun vs=>p (v::vs)
theorem kz.intro{p:List Value→Prop}(h:∀vs,p vs):∀n,kz n p
  |0=>h _
  |n+1=>fun v=>kz.intro (fun vs=>h (v::vs)) n
theorem kz.elim{p:List Value→Prop}:∀{n:Nat},kz n p→∀vs:List Value,vs.length=n→p vs
  |0,h,vs,e=>by cases vs with|nil=>exact h|cons x y=>simp at e
  |n+1,h,vs,e=>by
    cases vs with
    |nil=>simp at e
    |cons x y=>exact kz.elim (h x) y (by simpa using e)
theorem nI(fr:Fr)(L:List Nat):(nJ fr L).length=L.length:=by induction L<;>simp[nJ, *]
theorem mz{L I:List Nat}{fr fr':Fr}(h:∀s,jO s I=true→fr' s=fr s):mix L (nJ fr' L) I fr fr'=fr':=by
  funext s
  unfold mix
  induction L with
  |nil=>
    simp only[nJ,sS]
    cases he:jO s I
    · rfl
    · exact(h s he).symm
  |cons l L ih=>
    simp only[nJ,sS]
    cases hb:Nat.beq s l
    · exact ih
    · have:=Nat.eq_of_beq_eq_true hb;subst this;rfl
theorem mw{c:Code}{I:List Nat}(h:uG c I=true):∀s,jO s I=true→iU c s=false:=by
  induction I with
  |nil=>intro s hs;simp[jO]at hs
  |cons x r ih=>
    intro s hs
    simp only[uG,Bool.and_eq_true,Bool.not_eq_true']at h
    simp only[jO,Bool.or_eq_true]at hs
    rcases hs with hs|hs
    · rw[Nat.eq_of_beq_eq_true hs];exact h.1
    · exact ih h.2 s hs
def qH(next:Fr→Hp→Prop)(Q:Exit→Fr→Hp→Prop):Exit→Fr→Hp→Prop
  | .normal,fr,H=>next fr H
  |e,fr,H=>Q e fr H
def rU(id:Nat)(Q:Exit→Fr→Hp→Prop):Exit→Fr→Hp→Prop
  | .exit id',fr,H=>cond (Nat.beq id' id) (Q .normal fr H) (Q (.exit id') fr H)
  |e,fr,H=>Q e fr H
def JE(J:List Value→Hp→Prop)(vs:List Value)(H:Hp):Prop:=∃H',aM H H'∧J vs H'
def aS(I:List Value→Hp→Prop)(m:List Value→Hp→Nat)(vs':List Value)(H':Hp)(vs:List Value)(H:Hp):Prop:=∃gu,aM H' gu∧I vs' gu∧m vs' gu<m vs H
def Loop(L:List Nat)(vs:List Value)(H:Hp)(body:(List Value→Hp→Prop)→List Value→Hp→Prop):Prop:=
  ∃(I:List Value→Hp→Prop) (m:List Value→Hp→Nat),JE I vs H∧kz L.length fun vs=>∀H',I vs H'→body (fun vs' gu=>aS I m vs' gu vs H') vs H'
def BB(k:Nat)(rest:List Value→Hp→Prop)(body:(List Value→Hp→Prop)→Prop):Prop:=
  ∀J:List Value→Hp→Prop,(kz k fun vs=>∀H,rest vs H→J vs H)→body J
def DR(H:Hp)(body:Hp→Prop):Prop:=∃R,aM H R∧body R
def fU:Code→Nat→Option (Array Oper)
  | .region id ops _,k=>cond (Nat.beq id k) (some ops) none
  | .seq a b,k=>match fU a k with|some x=>some x|none=>fU b k
  | .cond _ a b,k=>match fU a k with|some x=>some x|none=>fU b k
  | .block _ c,k=>fU c k
  | .loop c,k=>fU c k
  |_,_=>none
def Bv(P:Program)(g:Gh)(id:Nat)(ops:Array Oper)(L:List Nat)(vs:List Value)(H:Hp)(K:Hp→Prop):Prop:=
  ∀a w,dm a.tmps.size ops.toList=true→(L.map fun s=>a.tmps.getD s undef)=vs→Own g H w→
    (Code.region id ops true).wp P (fun e a' w'=>e=.normal∧a'.defers=a.defers∧a'.tmps.size=a.tmps.size∧(∀s,aJ ops.toList s=false→a'.tmps.getD s undef=a.tmps.getD s undef)∧∃H',Own g H' w'∧K H') a w
def DS(f:Func)(r:Nat):Array Oper:=match f.body with|some c=>(match fU c r with|some ops=>ops|none=>#[])|none=>#[]
theorem tq(fr:Fr)(L:List Nat):nJ fr L=L.map fr:=by induction L<;>simp[nJ, *]
def den(P:Program)(g:Gh)(n:Nat):Code→Hn→(Exit→Fr→Hp→Prop)→Fr→Hp→Prop
  | .skip,_,Q,fr,H=>Q .normal fr H
  | .ret,_,Q,fr,H=>Q .ret fr H
  | .exit id,_,Q,fr,H=>Q (.exit id) fr H
  | .seq x y,hn,Q,fr,H=>
    match hn.m with
    |0=>den P g n x hn.a (qH (den P g n y hn.b Q) Q) fr H
    |_=>cond (uG x hn.I)
        (BB hn.L.length (fun vs H'=>∀gs,den P g n y hn.b Q (mix hn.L vs hn.I fr gs) H') fun J=>den P g n x hn.a (qH (fun fr' H'=>JE J (nJ fr' hn.L) H') Q) fr H) False
  | .cond c x y,hn,Q,fr,H=>Br (ev fr c) (den P g n x hn.a Q fr H) (den P g n y hn.b Q fr H)
  | .block id c,hn,Q,fr,H=>den P g n c hn.a (rU id Q) fr H
  | .loop c,hn,Q,fr,H=>
    cond (uG c hn.I)
      (Loop hn.L (nJ fr hn.L) H fun J vs H'=>∀gs,den P g n c hn.a (qH (fun fr' gu=>J (nJ fr' hn.L) gu) Q) (mix hn.L vs hn.I fr gs) H') False
  | .region id ops draw,hn,Q,fr,H=>
    cond draw
      (match hn.m with
      |0=>match hn.L with
       | []=>cond (P.follows .mixedOrders&&Region.lexB .any ops) (bK P g n ops true (ops.toList.length+1) true none [] ops.toList fr H (fun _ fr' H'=>Q .normal fr' H') (fun _ _=>False)) False
       |l=>cond (P.follows .mixedOrders&&Region.noSelect ops&&Nat.ble l.length ops.size)
          (DR H fun R=>pZ P g n ops R (fun fr' H'=>Q .normal fr' H') l (Array.replicate ops.size false) fr H) False
      |9=>cond (dm n ops.toList) (Bv P g id ops hn.L (nJ fr hn.L) H fun H'=>∀gs,Q .normal (lF ops.toList gs fr) H') False
      |_=>cond (P.follows .mixedOrders&&Region.noSelect ops)
          (DR H fun R=>gi P g n ops R (fun fr' H'=>Q .normal fr' H') hn.a [] (Array.replicate ops.size false) fr H) False)
      (bK P g n ops (match hn.I with| []=>false|_=>true) (ops.toList.length+1) false none [] ops.toList fr H (fun _ fr' H'=>Q .normal fr' H') (fun ch H'=>∀fr',Q (.panic ch) fr' H'))
  |_,_,_,_,_=>False
theorem lU{c:Code}{Q:Exit→Act→World→Prop}{a:Act}{w:World}(R:Act→World→Nat→Prop)(h₀:∃m,R a w m)
   (round:∀a w m,R a w m→c.wp P (Exit.then (fun a' w'=>∃m',m'<m∧R a' w' m') Q) a w):(Code.loop c).wp P Q a w:=by
  intro b k cs
  have key:∀n a w,R a w n→
      ∃e a' w',Q e a' w'∧Arrives P (lone (b.at a (.code c:: .inLoop c::k)) cs w) b k cs e a' w':=by
    intro n
    induction n using Nat.strongRecOn with
    |_ n ih=>
      intro a w hI
      obtain⟨e,a₁,w₁,hq,mJ⟩:=round a w n hI b (.inLoop c::k) cs
      cases e with
      |normal=>
        obtain⟨m',hlt,x5⟩:=hq
        obtain⟨e₂,a₂,w₂,xl,ti⟩:=ih m' hlt a₁ w₁ x5
        exact⟨e₂,a₂,w₂,xl,.of_steps (Steps.trans mJ (.one step_inLoop)) ti⟩
      |exit id=>exact⟨_,a₁,w₁,hq,.pass (x:=.inLoop c) rfl (fun _ _=>.inl (by simp)) mJ⟩
      |goto l=>exact⟨_,a₁,w₁,hq,.pass (x:=.inLoop c) rfl (fun _ _=>.inl (by simp)) mJ⟩
      |ret=>exact⟨_,a₁,w₁,hq,.pass (x:=.inLoop c) rfl (fun _ _=>.inl (by simp)) mJ⟩
      |panic ch=>exact⟨_,a₁,w₁,hq,.pass (x:=.inLoop c) rfl (fun _ _=>.inl (by simp)) mJ⟩
      |outgrown=>exact⟨_,a₁,w₁,hq,.pass (x:=.inLoop c) rfl (fun _ _=>.inl (by simp)) mJ⟩
  obtain⟨m,h₀⟩:=h₀
  obtain⟨e,a',w',hq,mJ⟩:=key m a w h₀
  exact⟨e,a',w',hq,.of_steps (.one step_loop) mJ⟩
def jB:Exit→Bool
  | .panic _=>true
  |_=>false
theorem pY{n:Nat}:∀(c:Code) (hn:Hn) (Q:Exit→Fr→Hp→Prop) (fr:Fr) (H:Hp),den P g n c hn Q fr H→∀(a:Act) (w:World),bc ds n a fr→Own g H w→c.wp P (fun e a' w'=>∃fr' H',bc ds n a' fr'∧Own g H' w'∧(jB e=false→∀s,iU c s=false→fr' s=fr s)∧Q e fr' H') a w:=by
  intro c
  induction c with
  |skip=>intro hn Q fr H h a w ha hw;exact wp_skip ⟨fr,H,ha,hw,fun _ _ _=>rfl,h⟩
  |ret=>intro hn Q fr H h a w ha hw;exact wp_ret ⟨fr,H,ha,hw,fun _ _ _=>rfl,h⟩
  |exit id=>intro hn Q fr H h a w ha hw;exact wp_exit ⟨fr,H,ha,hw,fun _ _ _=>rfl,h⟩
  |seq x y yP yO=>
    intro hn Q fr H h a w ha hw
    unfold den at h
    have wE:∀{tt iP:Fr},(∀s,iU x s=false→tt s=fr s)→(∀s,iU y s=false→iP s=tt s)→∀s,iU (.seq x y) s=false→iP s=fr s:=fun h1 h2 s hs=>by
      simp only[iU,Bool.or_eq_false_iff]at hs
      rw[h2 s hs.2,h1 s hs.1]
    have j9:∀{tt:Fr},(∀s,iU x s=false→tt s=fr s)→∀s,iU (.seq x y) s=false→tt s=fr s:=fun h1 s hs=>by
      simp only[iU,Bool.or_eq_false_iff]at hs
      exact h1 s hs.1
    split at h
    · refine wp_seq (wp_mono (yP _ _ fr H h a w ha hw) ?_)
      rintro e a' w' ⟨fr',H',cC,cG,ho,hq⟩
      cases e with
      |normal=>exact wp_mono (yO _ _ fr' H' hq a' w' cC cG) fun e2 a2 w2 ⟨iP,H2,g1,g2,g3,g4⟩=>⟨iP,H2,g1,g2,fun hp=>wE (ho rfl) (g3 hp),g4⟩
      |exit id=>exact⟨fr',H',cC,cG,fun hp=>j9 (ho hp),hq⟩
      |goto l=>exact⟨fr',H',cC,cG,fun hp=>j9 (ho hp),hq⟩
      |ret=>exact⟨fr',H',cC,cG,fun hp=>j9 (ho hp),hq⟩
      |panic ch=>exact⟨fr',H',cC,cG,fun hp=>j9 (ho hp),hq⟩
      |outgrown=>exact⟨fr',H',cC,cG,fun hp=>j9 (ho hp),hq⟩
    · cases hno:uG x hn.I<;>simp only[hno,cond_true,cond_false]at h
      have h':=h (fun vs H'=>∀gs,den P g n y hn.b Q (mix hn.L vs hn.I fr gs) H') (kz.intro (fun vs H' hh=>hh) _)
      refine wp_seq (wp_mono (yP _ _ fr H h' a w ha hw) ?_)
      rintro e a' w' ⟨fr',H',cC,cG,ho,hq⟩
      cases e with
      |normal=>
        obtain⟨Hj,lz,hq⟩:=hq
        have Es:den P g n y hn.b Q fr' Hj:=by
          have:=hq fr'
          rwa [mz fun s hs=>ho rfl s (mw hno s hs)]at this
        exact wp_mono (yO _ _ fr' Hj Es a' w' cC (lz _ _ cG)) fun e2 a2 w2 ⟨iP,H2,g1,g2,g3,g4⟩=>⟨iP,H2,g1,g2,fun hp=>wE (ho rfl) (g3 hp),g4⟩
      |exit id=>exact⟨fr',H',cC,cG,fun hp=>j9 (ho hp),hq⟩
      |goto l=>exact⟨fr',H',cC,cG,fun hp=>j9 (ho hp),hq⟩
      |ret=>exact⟨fr',H',cC,cG,fun hp=>j9 (ho hp),hq⟩
      |panic ch=>exact⟨fr',H',cC,cG,fun hp=>j9 (ho hp),hq⟩
      |outgrown=>exact⟨fr',H',cC,cG,fun hp=>j9 (ho hp),hq⟩
  |cond c x y yP yO=>
    intro hn Q fr H h a w ha hw
    obtain⟨b,hb,ht,hf⟩:=h
    refine wp_cond_split (t:=b) (by rw[ha.eval];exact hb) (fun e=>?_) (fun e=>?_)
    · exact wp_mono (yP _ _ fr H (ht e) a w ha hw) fun e2 a2 w2 ⟨iP,H2,g1,g2,g3,g4⟩=>⟨iP,H2,g1,g2,fun hp s hs=>g3 hp s (by simp only[iU,Bool.or_eq_false_iff]at hs;exact hs.1),g4⟩
    · exact wp_mono (yO _ _ fr H (hf e) a w ha hw) fun e2 a2 w2 ⟨iP,H2,g1,g2,g3,g4⟩=>⟨iP,H2,g1,g2,fun hp s hs=>g3 hp s (by simp only[iU,Bool.or_eq_false_iff]at hs;exact hs.2),g4⟩
  |block id c ih=>
    intro hn Q fr H h a w ha hw
    refine wp_block (wp_mono (ih _ _ fr H h a w ha hw) ?_)
    rintro e a' w' ⟨fr',H',cC,cG,ho,hq⟩
    cases e with
    |exit id'=>
      simp only[rU]at hq
      cases hb:Nat.beq id' id<;>simp only[hb,cond_true,cond_false]at hq
      · have:id'≠id:=fun e=>by subst e;simp at hb
        simp only[Exit.inBlock,this,if_false]
        exact⟨fr',H',cC,cG,ho,hq⟩
      · have:=Nat.eq_of_beq_eq_true hb
        simp only[Exit.inBlock,this,if_true]
        exact⟨fr',H',cC,cG,ho,hq⟩
    |normal=>exact⟨fr',H',cC,cG,ho,hq⟩
    |goto l=>exact⟨fr',H',cC,cG,ho,hq⟩
    |ret=>exact⟨fr',H',cC,cG,ho,hq⟩
    |panic ch=>exact⟨fr',H',cC,cG,ho,hq⟩
    |outgrown=>exact⟨fr',H',cC,cG,ho,hq⟩
  |loop c ih=>
    intro hn Q fr H h a w ha hw
    unfold den at h
    cases hno:uG c hn.I<;>simp only[hno,cond_true,cond_false]at h
    obtain⟨I,m,⟨H0,xJ,h0⟩,hr⟩:=h
    refine lU (fun a w k=>∃fr' H',bc ds n a fr'∧Own g H' w∧(∀s,iU c s=false→fr' s=fr s)∧I (nJ fr' hn.L) H'∧m (nJ fr' hn.L) H'=k) ⟨_,fr,H0,ha,xJ _ _ hw,fun _ _=>rfl,h0,rfl⟩ ?_
    rintro a w k ⟨tt,H1,ET,lp,uS,hI,rfl⟩
    have hb:=hr.elim (nJ tt hn.L) (nI _ _) H1 hI tt
    rw[mz fun s hs=>uS s (mw hno s hs)]at hb
    refine wp_mono (ih _ _ tt H1 hb a w ET lp) ?_
    rintro e a' w' ⟨fr',H',cC,cG,ho,hq⟩
    have dP:jB e=false→∀s,iU c s=false→fr' s=fr s:=fun hp s hs=>(ho hp s hs).trans (uS s hs)
    cases e with
    |normal=>obtain⟨Hj,lz,s8,Ay⟩:=hq;exact⟨_,Ay,fr',Hj,cC,lz _ _ cG,dP rfl,s8,rfl⟩
    |exit id=>exact⟨fr',H',cC,cG,dP,hq⟩
    |goto l=>exact⟨fr',H',cC,cG,dP,hq⟩
    |ret=>exact⟨fr',H',cC,cG,dP,hq⟩
    |panic ch=>exact⟨fr',H',cC,cG,dP,hq⟩
    |outgrown=>exact⟨fr',H',cC,cG,dP,hq⟩
  |region id ops draw=>
    intro hn Q fr H h a w ha hw
    unfold den at h
    cases draw<;>simp only[cond_true,cond_false]at h
    case false=>
      refine wp_region_list ?_
      have:=aW _ _ _ _ _ fr H _ _ h trivial (c9.nil fr) a w ha hw [] (fun e a' w'=>∃fr' H',bc ds n a' fr'∧Own g H' w'∧(jB e=false→∀s,iU (.region id ops false) s=false→fr' s=fr s)∧Q e fr' H') ?_ ?_
      · simpa using this
      · intro a' w' gF fr' H' h1 h2 h3 _ h4
        exact⟨fr',H',h1,h2,fun _=>h3,h4⟩
      · intro ch a' w' fr' H' h1 h2 h3
        exact⟨fr',H',h1,h2,fun hp=>by simp[jB]at hp,h3 fr'⟩
    case true=>
      split at h
      · split at h
        · cases hc:(P.follows .mixedOrders&&Region.lexB .any ops)<;>simp only[hc,cond_true,cond_false]at h
          simp only[Bool.and_eq_true]at hc
          refine wp_region_quiet (C:=Own g H) hc.1 hc.2 hw.mR ?_
          have:=bq _ none _ ops.toList fr H _ _ h trivial (c9.nil fr) a ha [] (fun a'=>∀w',Own g H w'→∃fr' H',bc ds n a' fr'∧Own g H' w'∧(jB .normal=false→∀s,iU (.region id ops true) s=false→fr' s=fr s)∧Q .normal fr' H') ?_
          · simpa using this
          · intro a' gF fr' h1 h3 _ h4
            exact fun w' cG=>⟨fr',H,h1,cG,fun _=>h3,h4⟩
        · cases hc:(P.follows .mixedOrders&&Region.noSelect ops&&Nat.ble hn.L.length ops.size)<;>simp only[hc,cond_true,cond_false]at h
          simp only[Bool.and_eq_true]at hc
          obtain⟨R,hR,h⟩:=h
          refine wp_mono (Q:=gP fun e a' w'=>∃fr' H',bc ds n a' fr'∧Own g H' w'∧(jB e=false→∀s,iU (.region id ops true) s=false→fr' s=fr s)∧Q e fr' H') ?_ ?_
          · refine wp_region_any hc.1.1 (cr.any (S:=fJ P g R ops) ?_)
            exact gN hc.1.2 fr (fun a w fr' H' h1 h2 h3 h4=>⟨fr',H',h1,h2,fun _=>h3,h4⟩) _ _ fr H h _ (Nat.le_of_ble_eq_true hc.2) (bU.none _ rfl) _ _ ha hw.mR (fun _=>(hR _ _ hw).mR) (bD.refl _ _)
          · intro e a w h
            cases e<;>first|exact h|exact h.elim
      · cases hc:dm n ops.toList<;>simp only[hc,cond_true,cond_false]at h
        refine wp_mono (h a w (by rw[ha.size];exact hc) (by rw[tq];exact List.map_congr_left fun s _=>ha.get s) hw) ?_
        rintro e a' w' ⟨rfl,hd,hs,ho,H',cG,hk⟩
        refine⟨lF ops.toList (fun s=>a'.tmps.getD s undef) fr,H',⟨hd.trans ha.defers,hs.trans ha.size,fun s=>?_⟩,cG,fun _ s hs=>?_,hk _⟩
        · unfold lF
          cases hb:aJ ops.toList s
          · rw[cond_false,ho s hb,ha.get]
          · rfl
        · unfold lF;simp only[iU]at hs;rw[hs,cond_false]
      · cases hc:(P.follows .mixedOrders&&Region.noSelect ops)<;>simp only[hc,cond_true,cond_false]at h
        simp only[Bool.and_eq_true]at hc
        obtain⟨R,hR,h⟩:=h
        refine wp_mono (Q:=gP fun e a' w'=>∃fr' H',bc ds n a' fr'∧Own g H' w'∧(jB e=false→∀s,iU (.region id ops true) s=false→fr' s=fr s)∧Q e fr' H') ?_ ?_
        · refine wp_region_any hc.1 (cr.any (S:=fJ P g R ops) ?_)
          refine bL hc.2 fr (fun a w fr' H' h1 h2 h3 h4=>⟨fr',H',h1,h2,fun _=>h3,h4⟩) _ _ [] _ fr H h [] _ fr (by rw[Array.toList_replicate,kj];exact Nat.le_refl _) ⟨by simp,by simp,by simp,fun _ _=>rfl,by simp,fun j x hx=>by simp[bS]at hx⟩ (bU.none _ rfl) _ _ ha hw.mR (fun _=>(hR _ _ hw).mR) (bD.refl _ _)
        · intro e a w h
          cases e<;>first|exact h|exact h.elim
  |label l=>intro hn Q fr H h;exact h.elim
  |goto l=>intro hn Q fr H h;exact h.elim
  |scope c _=>intro hn Q fr H h;exact h.elim
  |refuse s=>intro hn Q fr H h;exact h.elim
  |rangeFunc f ps as b _ _=>intro hn Q fr H h;exact h.elim
def aQ(R:Ending→Hp→Prop):List PanicEntry→Hp→Prop:=fun ch H=>∀_:Fr,R (.panicked ch) H
def cU:List PanicEntry→Hp→Prop:=fun _ _=>False
def jE:List Value→Nat→Fr
  | [],_=>fun _=>undef
  |v::r,i=>fun s=>cond (Nat.beq s i) v (jE r (i+1) s)
def mg(P:Program)(fr:Fr)(H:Hp):List ResultVar→(List Value→Prop)→Prop
  | [],k=>k []
  | .tmp t::r,k=>mg P fr H r fun vs=>k (fr t::vs)
  | .cell a t::r,k=>match P.underlying t,bG P t with
    |some d,some n=>cond (aV d) (aO n H (fr a) fun v=>mg P fr H r fun vs=>k (v::vs)) (Ld H (fr a) fun v=>mg P fr H r fun vs=>k (v::vs))
    |_,_=>False
def sJ:List Value→Value
  | [v]=>v
  |vs=>.tuple vs.toArray
def Bm(P:Program)(fn:Func)(R:Ending→Hp→Prop):Exit→Fr→Hp→Prop
  | .normal,fr,H=>mg P fr H fn.results.toList fun vs=>R (.returned (sJ vs)) H
  | .ret,fr,H=>mg P fr H fn.results.toList fun vs=>R (.returned (sJ vs)) H
  | .panic ch,_,H=>R (.panicked ch) H
  |_,_,_=>False
def vi(P:Program)(g:Gh)(fn:Func)(hn:Hn)(args:List Value)(H:Hp)(R:Ending→Hp→Prop):Prop:=
  match fn.body with
  |some c=>cond (Nat.ble args.length fn.ntmps) (den P g fn.ntmps c hn (Bm P fn R) (jE args 0) H) False
  |none=>False
theorem jD:∀(l:List Value) (i s:Nat),jE l i s=if s<i then undef else l.getD (s-i) undef
  | [],i,s=>by simp[jE]
  |v::r,i,s=>by
    simp only[jE,jD r (i+1) s]
    cases hb:Nat.beq s i
    · have hne:s≠i:=fun e=>by subst e;simp at hb
      simp only[cond_false]
      by_cases h:s<i
      · rw[if_pos (by omega),if_pos h]
      · rw[if_neg (by omega),if_neg h,show s-i=(s-(i+1))+1 by omega]
        simp[List.getD]
    · have:=Nat.eq_of_beq_eq_true hb;subst this
      simp[List.getD]
def pq(fr:Fr):ResultVar→Sem Value
  | .tmp t=>pure (fr t)
  | .cell b t=>do loadVar t (←asAddr (fr b))
theorem iJ{fr:Fr}{H:Hp}{w:World}(hw:Own g H w){b:Tmp}{t:TypeId}{v:Value}{p:Addr}(hp:fr b=.pointer (some p))(h:(Instr.loadAt t (fr b)).run P w=.ok v w):(pq fr (.cell b t)).run P w=.ok v w:=by
  rw[hp]at h
  simp only[pq,hp,asAddr]
  simpa[Instr.loadAt,Instr.sureAddr]using h
theorem gB{fr:Fr}{H:Hp}{w:World}(hw:Own g H w):∀(l:List ResultVar) (k:List Value→Prop),mg P fr H l k→
    ∃vs,(l.mapM (pq fr)).run P w=.ok vs w∧k vs
  | [],k,h=>⟨[],by simp,h⟩
  | .tmp t::r,k,h=>by
    obtain⟨vs,hr,hk⟩:=gB hw r _ h
    refine⟨fr t::vs,?_,hk⟩
    simp only[List.mapM_cons,Sem.run_bind,Sem.run_pure,Result.andThen_ok,hr,pq]
  | .cell b t::r,k,h=>by
    unfold mg at h
    split at h<;>try exact h.elim
    rename_i d m hd hm
    obtain⟨i,hi,EF⟩:=aH hm
    cases A3:aV d<;>simp only[A3,cond_true,cond_false]at h
    · obtain⟨v,hk',hf⟩:=h.fix
      obtain⟨v2,xk,e⟩:=hf.run (P:=P) hw hd A3
      subst e
      obtain⟨bb,off,c,T,fz,u,hp,_⟩:=hf
      obtain⟨vs,hr,hk⟩:=gB hw r _ hk'
      refine⟨v2::vs,?_,hk⟩
      have:=iJ hw hp xk
      simp only[List.mapM_cons,Sem.run_bind,Result.andThen_ok,hr,Sem.run_pure,this]
    · obtain⟨v,hk',hf⟩:=h.fix
      obtain⟨v2,xk,e⟩:=hf.run (P:=P) hw hd A3 hi EF
      subst e
      obtain⟨bb,off,c,T,fz,hp,_⟩:=hf
      obtain⟨vs,hr,hk⟩:=gB hw r _ hk'
      refine⟨v2::vs,?_,hk⟩
      have:=iJ hw hp xk
      simp only[List.mapM_cons,Sem.run_bind,Result.andThen_ok,hr,Sem.run_pure,this]
theorem iE{fn:Func}{fr:Fr}{H:Hp}{n:Nat}{a:Act}{w:World}(ha:bc ds n a fr)(hw:Own g H w){k:List Value→Prop}(h:mg P fr H fn.results.toList k):
    ∃vs,(results fn a.tmps).run P w=.ok (sJ vs) w∧k vs:=by
  obtain⟨vs,hr,hk⟩:=gB (P:=P) hw _ _ h
  refine⟨vs,?_,hk⟩
  have e:results fn a.tmps=(do let vs ←fn.results.mapM (pq fr);pure (if h:vs.size=1 then vs[0]else .tuple vs)):=by
    unfold results
    congr 1
    congr 1
    funext x
    cases x<;>simp only[pq,ha.get]
  rw[e,Array.mapM_eq_mapM_toList]
  simp only[Sem.run_bind,Sem.run_map,hr,Result.andThen_ok,Sem.run_pure]
  congr 1
  match vs with
  | []=>rfl
  | [v]=>rfl
  |a::b::r=>simp[sJ]
theorem nL{f:FuncId}{fn:Func}{hn:Hn}{args:List Value}{H:Hp}{R:Ending→Hp→Prop}(hf:P.funcs[f]? =some fn)(h:vi P g fn hn args H R):aj P g f args.toArray H R:=by
  intro w hw
  unfold vi at h
  split at h<;>try exact h.elim
  rename_i c hc
  cases hl:Nat.ble args.length fn.ntmps<;>simp only[hl,cond_true,cond_false]at h
  have hle:=Nat.le_of_ble_eq_true hl
  refine calls_of_wp hf hc (wp_mono (pY c hn _ _ H h _ w ⟨rfl,?_,?_⟩ hw) ?_)
  · simp;omega
  · intro s
    rw[jD,Array.getD_eq_getD_getElem?,Array.getElem?_append]
    simp only[List.size_toArray,Nat.not_lt_zero,if_false,Nat.sub_zero]
    by_cases hs:s<args.length
    · simp[hs,List.getD]
    · rw[if_neg hs]
      rw[Array.getElem?_replicate]
      have:args.getD s undef=undef:=by simp[List.getD,List.getElem?_eq_none (Nat.le_of_not_lt hs)]
      rw[this]
      split<;>rfl
  · rintro e a' w' ⟨fr',H',cC,cG,_,hq⟩
    cases e with
    |normal=>obtain⟨vs,hr,hk⟩:=iE cC cG hq;exact⟨cC.defers,_,hr,H',cG,hk⟩
    |ret=>obtain⟨vs,hr,hk⟩:=iE cC cG hq;exact⟨cC.defers,_,hr,H',cG,hk⟩
    |panic ch=>exact⟨cC.defers,H',cG,hq⟩
    |exit id=>exact hq.elim
    |goto l=>exact hq.elim
    |outgrown=>exact hq.elim
end
end Go.Sx
namespace Go.Sx
open Go
section
variable {P:Program} {g:Gh} {H:Hp}
theorem Nil.ptr{a:Addr}{k:Value→Prop}(h:k (.pointer (some a))):Nil (.pointer (some a)) k:=⟨_,rfl,h⟩
theorem ae.mk{b o off:Nat}{k:Value→Prop}(h:k (.pointer (some ⟨b,o+off,none⟩))):ae off (.pointer (some ⟨b,o,none⟩)) k:=⟨b,o,rfl,h⟩
theorem Ld.mk{b off:Nat}{c:Array Value}{T:TypeId}{fz:Nat×Nat}{v:Value}{k:Value→Prop}(hm:(b,Obj.cells c T fz)∈H)(hc:c[off]? =some v)(h:k v):Ld H (.pointer (some ⟨b,off,none⟩)) k:=
 ⟨b,off,c,T,fz,v,rfl,hm,hc,h⟩
theorem aO.mk{b off n:Nat}{c:Array Value}{T:TypeId}{fz:Nat×Nat}{vs:Array Value}{k:Value→Prop}(hm:(b,Obj.cells c T fz)∈H)(hs:off+n≤c.size)(hc:c.extract off (off+n)=vs)(h:k (.agg vs)):aO n H (.pointer (some ⟨b,off,none⟩)) k:=
 ⟨b,off,c,T,fz,rfl,hm,hs,by rw[hc];exact h⟩
theorem St.mk{b off n:Nat}{c:Array Value}{T:TypeId}{x:Value}{c':Array Value}{H':Hp}{k:Hp→Prop}(hu:br b (.cells c T (0,0)) (.cells c' T (0,0)) H H')(hx:x.cells.size=n)(hs:off+n≤c.size)
 (h1:∀v∈x.cells.toList,v.oneCell'=true)(hc:ep c off x.cells.toList=c')(h:k H'):St n H (.pointer (some ⟨b,off,none⟩)) x k:=
 ⟨b,off,c,T,H',rfl,hx,hs,h1,by rw[hc];exact hu,h⟩
theorem JE.mk{J:List Value→Hp→Prop}{vs:List Value}(h:J vs H):JE J vs H:=⟨H,.refl _,h⟩
theorem JE.of{J:List Value→Hp→Prop}{vs:List Value}{H':Hp}(e:aM H H')(h:J vs H'):JE J vs H:=⟨H',e,h⟩
theorem aS.mk{I:List Value→Hp→Prop}{m:List Value→Hp→Nat}{vs' vs:List Value}{H0:Hp}(h:I vs' H)(hm:m vs' H<m vs H0):aS I m vs' H vs H0:=⟨H,.refl _,h,hm⟩
theorem aS.of{I:List Value→Hp→Prop}{m:List Value→Hp→Nat}{vs' vs:List Value}{H' H0:Hp}(e:aM H H')(h:I vs' H')(hm:m vs' H'<m vs H0):aS I m vs' H vs H0:=⟨H',e,h,hm⟩
theorem Br.mk{b:Bool}{t f:Prop}(h1:b=true→t)(h2:b=false→f):Br (.bool b) t f:=⟨b,rfl,h1,h2⟩
theorem Br.yes{t f:Prop}(h1:t):Br (.bool true) t f:=⟨true,rfl,fun _=>h1,fun h=>by simp at h⟩
theorem Br.no{t f:Prop}(h1:f):Br (.bool false) t f:=⟨false,rfl,fun h=>by simp at h,fun _=>h1⟩
theorem cw.mk{a:Bool}{want:Bool}{inner els k:Bool→Prop}(t:Bool)(h1:a=want→inner t)(h2:a= !want→els t)(h3:k t):cw (.bool a) want inner els k:=⟨a,t,rfl,h1,h2,h3⟩
theorem cw.and{a:Bool}{inner els k:Bool→Prop}(b:Bool)(h1:a=true→inner b)(h2:els false)(h3:k (a&&b)):cw (.bool a) true inner els k:=
 ⟨a,a&&b,rfl,fun e=>by subst e;exact h1 rfl,fun e=>by subst e;exact h2,h3⟩
theorem cw.or{a:Bool}{inner els k:Bool→Prop}(b:Bool)(h1:a=false→inner b)(h2:els true)(h3:k (a||b)):cw (.bool a) false inner els k:=
 ⟨a,a||b,rfl,fun e=>by subst e;exact h1 rfl,fun e=>by subst e;exact h2,h3⟩
theorem Split.go{a:Bool}{want:Bool}{k1 k2:Prop}(e:a=want)(h1:k1):Split (.bool a) want k1 k2:=⟨a,rfl,fun _=>h1,fun e'=>by subst e;cases a<;>simp at e'⟩
theorem aA.mk{t:Bool}{a b:Value}{k:Value→Prop}(h:k (cond t a b)):aA (.bool t) a b k:=⟨t,rfl,h⟩
theorem Un.not{b:Bool}{k:Value→Prop}(h:k (.bool !b)):Un .not (.bool b) k:=⟨_,rfl,h⟩
theorem Ext.mk{i:Nat}{vs:Array Value}{v:Value}{k:Value→Prop}(hv:vs[i]? =some v)(h:k v):Ext i (.tuple vs) k:=⟨vs,v,rfl,hv,h⟩
theorem aB.mk{a:Option Addr}{n c:Nat}{k:Value→Prop}(h:k (.int .i64 n)):aB (.slice a n c) k:=⟨a,n,c,rfl,h⟩
theorem bg.of{kd j:IntKind}{n m:Int}{k:Value→Prop}(e:kd.wrap n=m)(h:k (.int kd m)):bg kd (.int j n) k:=⟨j,n,rfl,by rw[e];exact h⟩
theorem sD.mk{off:Nat}{cs:Array Value}{v:Value}{k:Value→Prop}(hc:cs[off]? =some v)(h:k v):sD off (.agg cs) k:=⟨cs,v,rfl,hc,h⟩
theorem ak.mk{size b o n c:Nat}{kd:IntKind}{i:Int}{k:Value→Prop}(h0:0≤i)(h1:i<(n:Int))(h:k (.pointer (some ⟨b,o+i.toNat*size,none⟩))):ak size (.slice (some ⟨b,o,none⟩) n c) (.int kd i) k:=
 ⟨b,o,n,c,kd,i,rfl,rfl,h0,h1,h⟩
theorem ak.nat{size b o n c:Nat}{kd:IntKind}{j:Nat}{k:Value→Prop}(h1:j<n)(h:k (.pointer (some ⟨b,o+j*size,none⟩))):ak size (.slice (some ⟨b,o,none⟩) n c) (.int kd (j:Int)) k:=
 ak.mk (Int.natCast_nonneg j) (by omega) (by simpa using h)
theorem ak.of{size b o n c:Nat}{kd:IntKind}{i:Int}{k:Value→Prop}(j:Nat)(e:i=(j:Int))(h1:j<n)(h:k (.pointer (some ⟨b,o+j*size,none⟩))):ak size (.slice (some ⟨b,o,none⟩) n c) (.int kd i) k:=by
 subst e;exact ak.nat h1 h
theorem aa.eql{kd:IntKind}{a b:Int}{k:Value→Prop}(h:k (.bool (a==b))):aa .num .eql (.int kd a) (.int kd b) k:=⟨_,by simp[cT,eR],h⟩
theorem aa.neq{kd:IntKind}{a b:Int}{k:Value→Prop}(h:k (.bool (a !=b))):aa .num .neq (.int kd a) (.int kd b) k:=⟨_,by simp[cT,eR],h⟩
theorem aa.lss{kd:IntKind}{a b:Int}{k:Value→Prop}(h:k (.bool (decide (a<b)))):aa .num .lss (.int kd a) (.int kd b) k:=⟨_,by simp[cT,eR],h⟩
theorem aa.leq{kd:IntKind}{a b:Int}{k:Value→Prop}(h:k (.bool (decide (a≤b)))):aa .num .leq (.int kd a) (.int kd b) k:=⟨_,by simp[cT,eR],h⟩
theorem aa.gtr{kd:IntKind}{a b:Int}{k:Value→Prop}(h:k (.bool (decide (b<a)))):aa .num .gtr (.int kd a) (.int kd b) k:=⟨_,by simp[cT,eR],h⟩
theorem aa.geq{kd:IntKind}{a b:Int}{k:Value→Prop}(h:k (.bool (decide (b≤a)))):aa .num .geq (.int kd a) (.int kd b) k:=⟨_,by simp[cT,eR],h⟩
theorem aa.add{kd:IntKind}{a b:Int}{k:Value→Prop}(h:k (.int kd (kd.wrap (a+b)))):aa .num .add (.int kd a) (.int kd b) k:=⟨_,by simp[cT,eR],h⟩
theorem aa.sub{kd:IntKind}{a b:Int}{k:Value→Prop}(h:k (.int kd (kd.wrap (a-b)))):aa .num .sub (.int kd a) (.int kd b) k:=⟨_,by simp[cT,eR],h⟩
theorem aa.mul{kd:IntKind}{a b:Int}{k:Value→Prop}(h:k (.int kd (kd.wrap (a*b)))):aa .num .mul (.int kd a) (.int kd b) k:=⟨_,by simp[cT,eR],h⟩
theorem wrap_i64{a:Int}(h: -9223372036854775808≤a∧a≤9223372036854775807):IntKind.i64.wrap a=a:=IntWalk.i64_in _ h
theorem aa.oW{a b:Int}{c:Int}{k:Value→Prop}(e:a+b=c)(hb: -9223372036854775808≤c∧c≤9223372036854775807)(h:k (.int .i64 c)):aa .num .add (.int .i64 a) (.int .i64 b) k:=
 aa.add (by rw[e,wrap_i64 hb];exact h)
theorem aa.l7{a b:Int}{c:Int}{k:Value→Prop}(e:a-b=c)(hb: -9223372036854775808≤c∧c≤9223372036854775807)(h:k (.int .i64 c)):aa .num .sub (.int .i64 a) (.int .i64 b) k:=
 aa.sub (by rw[e,wrap_i64 hb];exact h)
theorem aa.wK{a b:Int}{c:Int}{k:Value→Prop}(e:a*b=c)(hb: -9223372036854775808≤c∧c≤9223372036854775807)(h:k (.int .i64 c)):aa .num .mul (.int .i64 a) (.int .i64 b) k:=
 aa.mul (by rw[e,wrap_i64 hb];exact h)
theorem aa.qN{a b:Int}{c:Int}{k:Value→Prop}(hb0:b≠0)(e:a.tdiv b=c)(hb: -9223372036854775808≤c∧c≤9223372036854775807)(h:k (.int .i64 c)):aa .num .quo (.int .i64 a) (.int .i64 b) k:=
 ⟨.int .i64 c,by simp[cT,eR,hb0,e,wrap_i64 hb],h⟩
theorem aa.av{a:Addr}{k:Value→Prop}(h:k (.bool false)):aa .ptr .eql (.pointer (some a)) (.pointer none) k:=⟨.bool false,by simp[cT],h⟩
theorem aa.au{k:Value→Prop}(h:k (.bool true)):aa .ptr .eql (.pointer none) (.pointer none) k:=⟨.bool true,by simp[cT],h⟩
theorem aa.ax{a:Option Nat}{k:Value→Prop}(h:k (.bool a.isNone)):aa .map .eql (.map a) (.map none) k:=⟨.bool a.isNone,by simp[cT],h⟩
theorem aM.tP(A B C:Hp):aM (A++(B++C)) (B++(A++C)):=.perm (by rw[←List.append_assoc,←List.append_assoc];exact List.perm_append_comm.append_right C)
def flat:List Hp→Hp
 | []=>[]
 | [a]=>a
 |a::b::r=>a++flat (b::r)
theorem ie:∀(l:List Hp),(flat l).Perm l.flatten
 | []=>.refl _
 | [a]=>by simp[flat]
 |a::b::r=>by
  simp only[flat,List.flatten_cons]
  exact List.Perm.append_left _ (by simpa using ie (b::r))
theorem aM.wD(S T:List Hp)(h:S.Perm T):aM (flat S) (flat T):=
 .perm ((ie S).trans (h.flatten.trans (ie T).symm))
def rows(l:List (List Value)):Array Value:=l.flatten.toArray
theorem iQ{k:Nat}:∀(l:List (List Value)) (i j:Nat),(∀r∈l,r.length=k)→j<k→l.flatten[i*k+j]? =(l[i]?).bind (·[j]?)
 | [],i,j,_,_=>by simp
 |r::l,0,j,h,hj=>by
  have:=h r (by simp)
  simp[List.getElem?_append,this,hj]
 |r::l,i+1,j,h,hj=>by
  have hr:=h r (by simp)
  have ih:=iQ l i j (fun x hx=>h x (by simp[hx])) hj
  rw[List.flatten_cons,List.getElem?_append_right (by rw[hr,Nat.succ_mul];omega),hr,show(i+1)*k+j-k=i*k+j by rw[Nat.succ_mul];omega,ih]
  simp
theorem aZ{k:Nat}:∀(l:List (List Value)),(∀r∈l,r.length=k)→l.flatten.length=l.length*k
 | [],_=>by simp
 |r::l,h=>by
  have hr:=h r (by simp)
  rw[List.flatten_cons,List.length_append,hr,aZ l (fun x hx=>h x (by simp[hx]))]
  simp[Nat.succ_mul];omega
theorem aI{k:Nat}{l:List (List Value)}(h:∀r∈l,r.length=k):(rows l).size=l.length*k:=by simp[rows,aZ l h]
theorem dj{k:Nat}{l:List (List Value)}(h:∀r∈l,r.length=k){i j:Nat}(hj:j<k):(rows l)[i*k+j]? =(l[i]?).bind (·[j]?):=by
 simp only[rows,List.getElem?_toArray];exact iQ l i j h hj
theorem lg{k:Nat}{l:List (List Value)}(h:∀r∈l,r.length=k){i:Nat}{r:List Value}(hi:l[i]? =some r):(rows l).extract (i*k) (i*k+k)=r.toArray:=by
 have hr:=h r (List.mem_of_getElem? hi)
 have hlt:=(List.getElem?_eq_some_iff.1 hi).1
 apply Array.ext'
 apply List.ext_getElem?
 intro j
 by_cases hj:j<k
 ·have:=dj h (i:=i) hj
  rw[Array.getElem?_toList,Array.getElem?_extract]
  rw[if_pos (by rw[aI h];have:=Nat.mul_le_mul_right k (Nat.succ_le_of_lt hlt);rw[Nat.succ_mul]at this;omega),this,hi]
  simp
 ·rw[List.getElem?_eq_none (by simp;omega),List.getElem?_eq_none (by simp;omega)]
theorem gD:∀(vs:List Value) (c:List Value) (off:Nat),off+vs.length≤c.length→ep c.toArray off vs=(c.take off++vs++c.drop (off+vs.length)).toArray
 | [],c,off,_=>by simp[ep]
 |v::r,c,off,h=>by
  simp only[List.length_cons]at h
  have hl:off<c.length:=by omega
  have:c.toArray.setIfInBounds off v=(c.set off v).toArray:=by simp
  rw[ep,this,gD r (c.set off v) (off+1) (by simp only[List.length_set];omega)]
  congr 1
  have e1:(c.set off v).take (off+1)=c.take off++[v]:=by
   rw[List.set_eq_take_append_cons_drop,if_pos hl,List.take_append]
   simp[List.take_take,hl,Nat.min_eq_left (Nat.le_of_lt hl)]
  have e2:(c.set off v).drop (off+1+r.length)=c.drop (off+(v::r).length):=by
   rw[List.drop_set_of_lt (by omega)]
   simp only[List.length_cons]
   rw[show off+1+r.length=off+(r.length+1)by omega]
  rw[e1,e2];simp
theorem me{k:Nat}{l:List (List Value)}(h:∀r∈l,r.length=k){i:Nat}(hi:i<l.length){r:List Value}(hr:r.length=k):ep (rows l) (i*k) r=rows (l.set i r):=by
 unfold rows
 have hlen:=aZ l h
 have hle:i*k+k≤l.length*k:=by have:=Nat.mul_le_mul_right k (Nat.succ_le_of_lt hi);rwa [Nat.succ_mul]at this
 rw[gD r l.flatten (i*k) (by rw[hlen,hr];exact hle)]
 congr 1
 have e:l=l.take i++[l[i]]++l.drop (i+1):=by simp
 have hp:(l.take i).flatten.length=i*k:=by
  rw[aZ _ (fun x hx=>h x (List.mem_of_mem_take hx))];simp[Nat.min_eq_left (Nat.le_of_lt hi)]
 have hm:l[i].length=k:=h _ (List.getElem_mem hi)
 have e3:l.flatten=(l.take i).flatten++(l[i]++(l.drop (i+1)).flatten):=by
  rw[←List.flatten_cons,←List.flatten_append,←List.drop_eq_getElem_cons hi,List.take_append_drop]
 have e4:(l.set i r).flatten=(l.take i).flatten++(r++(l.drop (i+1)).flatten):=by
  rw[List.set_eq_take_append_cons_drop,if_pos hi];simp[List.flatten_append]
 rw[e4,e3,←hp,List.take_left,←List.drop_drop,List.drop_left,hr,←hm,List.drop_left]
 simp
end
end Go.Sx
namespace Go.Sx
open Go
section
variable {P:Program} {g:Gh}
theorem br.bx{b:Nat}{o o':Obj}{C C':Hp}(h:br b o o' C C')(A:Hp):br b o o' (A++C) (A++C'):=by
 induction A with
 |nil=>exact h
 |cons x A ih=>exact .tail ih
def bC(T:TypeId)(k:Nat)(v:Value)(rs:List (List Value))(C:Hp):Prop:=
 (v=.slice none 0 0∧rs=[]∧C=[])∨
 ∃b az,v=.slice (some ⟨b,0,none⟩) rs.length (rs.length+az.length)∧C=[(b,.cells (rows (rs++az)) T (0,0))]∧(∀r∈rs++az,r.length=k)
theorem bC.nil(T:TypeId)(k:Nat):bC T k (.slice none 0 0) [] []:=.inl ⟨rfl,rfl,rfl⟩
theorem bC.len{T:TypeId}{k:Nat}{v:Value}{rs:List (List Value)}{C:Hp}(h:bC T k v rs C):∃a c,v=.slice a rs.length c:=by
 rcases h with⟨rfl,rfl,rfl⟩|⟨b,az,rfl,_⟩
 ·exact⟨_,_,rfl⟩
 ·exact⟨_,_,rfl⟩
theorem bC.bQ{T:TypeId}{k:Nat}{v:Value}{rs:List (List Value)}{C:Hp}(h:bC T k v rs C){K:Value→Prop}(hk:K (.int .i64 rs.length)):aB v K:=by
 obtain⟨a,c,rfl⟩:=h.len;exact aB.mk hk
theorem gv{k:Nat}(z:List Value)(hz:z.length=k)(m:Nat):Builtin.zeroCells z.toArray m=rows (List.replicate m z):=by
 apply Array.ext'
 apply List.ext_getElem?
 intro j
 have an:∀r∈List.replicate m z,r.length=k:=fun r hr=>by rw[List.eq_of_mem_replicate hr,hz]
 by_cases hj:j<m*k
 ·have hk:0<k:=Nat.pos_of_ne_zero fun e=>by simp[e]at hj
  have hd:j/k<m:=Nat.div_lt_of_lt_mul (by rw[Nat.mul_comm];exact hj)
  have hm:j%k<k:=Nat.mod_lt _ hk
  have he:j/k*k+j%k=j:=by rw[Nat.mul_comm];exact Nat.div_add_mod j k
  have:=dj an (i:=j/k) hm
  rw[he]at this
  rw[Array.getElem?_toList,Array.getElem?_toList,this]
  simp only[Builtin.zeroCells,List.size_toArray,hz,List.getElem?_replicate,hd,if_true,Option.bind_some]
  rw[Array.getElem?_map,Array.getElem?_range]
  simp[hj,hz,hm]
 ·rw[List.getElem?_eq_none,List.getElem?_eq_none]
  ·simp only[Array.length_toList,aI an,List.length_replicate];omega
  ·simp[Builtin.zeroCells,hz];omega
theorem bz(a b:List (List Value)):rows a++rows b=rows (a++b):=by simp[rows,List.flatten_append]
theorem bC.tA{elem k bytes:Nat}{zero:Value}{v:Value}{rs:List (List Value)}{C A B:Hp}(h:bC elem k v rs C){xb:Nat}{r:List Value}{xT:TypeId}{fz:Nat×Nat}{xc:Nat}
 (hx:(xb,Obj.cells r.toArray xT fz)∈A++(C++B))(hr:r.length=k)(h1:∀u∈r,u.oneCell'=true)(hz:∃z:List Value,zero.cells=z.toArray∧z.length=k)
 (hb:(rs.length+1)*bytes≤140737488355328)(bR:rs.length+1≤9223372036854775807){K:Value→Hp→Prop}
 (hk:∀v' C',bC elem k v' (rs++[r]) C'→K v' (A++(C'++B))):App P elem k bytes zero (A++(C++B)) v (.slice (some ⟨xb,0,none⟩) 1 xc) K:=by
 have oP:∀x∈[r],x.length=k:=fun x hx=>by simp at hx;rw[hx];exact hr
 obtain⟨z,wU,s4⟩:=hz
 have hnews:Cells (A++(C++B)) (some ⟨xb,0,none⟩) (1*k) (rows [r]):=.inr ⟨rfl,_,_,_,hx,by simp[hr],by simp[rows];rw[←hr,List.take_length]⟩
 have hnone:∀u∈(rows [r]).toList,u.oneCell'=true:=by simpa[rows]using h1
 rcases h with⟨rfl,rfl,rfl⟩|⟨b,az,rfl,rfl,an⟩
 ·refine⟨none,0,0,some ⟨xb,0,none⟩,1,xc,#[],rows [r],rfl,rfl,rfl,hnews,by rw[aI oP];simp,by simp,hnone,fun h=>by omega,fun _=>⟨hb,by omega,fun cj hn b AZ=>?_⟩⟩
  rw[show(#[]:Array Value)++rows [r]++Builtin.zeroCells zero.cells (cj-(0+1))=rows ([]++[r]++List.replicate (cj-1) z)by rw[wU,gv z s4];simp only[Nat.zero_add,Array.empty_append,List.nil_append];rw[bz]]
  refine⟨_,aM.tP [(b,_)] A B,hk _ [(b,_)] (.inr ⟨b,List.replicate (cj-1) z,?_,rfl,?_⟩)⟩
  ·simp;omega
  ·intro x hx
   rcases List.mem_append.1 hx with hx|hx
   ·exact oP x hx
   ·rw[List.eq_of_mem_replicate hx,s4]
 ·have hsz:=aI an
  have fG:∀x∈rs,x.length=k:=fun x hx=>an x (by simp[hx])
  have hold:rows rs=(rows (rs++az)).extract 0 (0+rs.length*k):=by
   rw[←bz]
   apply Array.ext'
   have:=aI fG
   have h2:(rows rs).toList.length=rs.length*k:=by rw[Array.length_toList];exact this
   rw[Array.toList_extract,Array.toList_append,List.extract_eq_take_drop,List.drop_zero,Nat.zero_add,Nat.sub_zero,←h2,List.take_left]
  refine⟨some ⟨b,0,none⟩,rs.length,rs.length+az.length,some ⟨xb,0,none⟩,1,xc,rows rs,rows [r],rfl,rfl,.inr ⟨rfl,_,elem,(0,0),by simp,?_,hold⟩,hnews,by rw[aI oP];simp,aI fG,hnone,fun hfit=>?_,fun hgrow=>⟨hb,by omega,fun cj hn b' AZ=>?_⟩⟩
  ·rw[hsz];simp only[List.length_append,Nat.zero_add];exact Nat.mul_le_mul_right _ (by omega)
  ·obtain⟨j0,oO,rfl⟩:∃j0 oO,az=j0::oO:=by cases az with|nil=>exact absurd hfit (by simp only[List.length_nil];omega)|cons a b=>exact⟨a,b,rfl⟩
   refine⟨_,elem,_,rfl,?_,((br.head _).append B).bx A,hk _ [(b,_)] (.inr ⟨b,oO,?_,?_,?_⟩)⟩
   ·rw[hsz];simp[Nat.succ_mul,Nat.add_mul]
   ·simp;omega
   ·have e:(rows [r]).toList=r:=by simp[rows]
    rw[e,show(⟨b,0,none⟩:Addr).off+rs.length*k=rs.length*k by simp,me an (by simp) hr]
    simp
   ·intro x hx
    simp only[List.append_assoc,List.cons_append,List.nil_append,List.mem_append,List.mem_cons]at hx
    rcases hx with hx|hx|hx
    ·exact fG x hx
    ·rw[hx];exact hr
    ·exact an x (by simp[hx])
  ·refine⟨A++([(b',_)]++B),?_,hk _ [(b',_)] (.inr ⟨b',List.replicate (cj-(rs.length+1)) z,?_,rfl,?_⟩)⟩
   ·rw[wU,gv z s4,bz,bz]
    exact fun g w h=>(aM.wD [[_],A,[_],B] [[_],A,[_],B] ((List.perm_append_comm (l₁:=[_,A]) (l₂:=[_])).append_right [B]|>.trans (.cons _ (.swap _ _ _))) g w h).tail
   ·simp;omega
   ·intro x hx
    rcases List.mem_append.1 hx with hx|hx
    ·rcases List.mem_append.1 hx with hx|hx
     ·exact fG x hx
     ·exact oP x hx
    ·rw[List.eq_of_mem_replicate hx,s4]
end
end Go.Sx
namespace Go.Sx
open Go
section
variable {P:Program} {g:Gh} {H:Hp}
theorem bC.pos{T:TypeId}{k:Nat}{v:Value}{rs:List (List Value)}{C:Hp}(h:bC T k v rs C)(hp:0<rs.length):
  ∃b az,v=.slice (some ⟨b,0,none⟩) rs.length (rs.length+az.length)∧C=[(b,.cells (rows (rs++az)) T (0,0))]∧(∀r∈rs++az,r.length=k):=by
 rcases h with⟨_,rfl,_⟩|h
 ·simp at hp
 ·exact h
theorem bC.mk{T:TypeId}{k b:Nat}{rs az:List (List Value)}(an:∀r∈rs++az,r.length=k):bC T k (.slice (some ⟨b,0,none⟩) rs.length (rs.length+az.length)) rs [(b,.cells (rows (rs++az)) T (0,0))]:=
 .inr ⟨b,az,rfl,rfl,an⟩
theorem bC.mk'{T:TypeId}{k b n c:Nat}{rs az:List (List Value)}(an:∀r∈rs++az,r.length=k)(hn:n=rs.length)(hc:c=rs.length+az.length):bC T k (.slice (some ⟨b,0,none⟩) n c) rs [(b,.cells (rows (rs++az)) T (0,0))]:=by
 subst hn;subst hc;exact bC.mk an
theorem aO.row{b i k:Nat}{l:List (List Value)}{T:TypeId}{fz:Nat×Nat}{r:List Value}{K:Value→Prop}(hm:(b,Obj.cells (rows l) T fz)∈H)(an:∀r∈l,r.length=k)(hi:l[i]? =some r)(h:K (.agg r.toArray)):
  aO k H (.pointer (some ⟨b,0+i*k,none⟩)) K:=by
 have hlt:=(List.getElem?_eq_some_iff.1 hi).1
 refine aO.mk hm ?_ ?_ h
 ·rw[aI an,Nat.zero_add];have:=Nat.mul_le_mul_right k (Nat.succ_le_of_lt hlt);rwa [Nat.succ_mul]at this
 ·rw[Nat.zero_add];exact lg an hi
theorem Ld.row{b i j k:Nat}{l:List (List Value)}{T:TypeId}{fz:Nat×Nat}{r:List Value}{v:Value}{K:Value→Prop}(hm:(b,Obj.cells (rows l) T fz)∈H)(an:∀r∈l,r.length=k)(hi:l[i]? =some r)(hv:r[j]? =some v)(h:K v):
  Ld H (.pointer (some ⟨b,0+i*k+j,none⟩)) K:=by
 have hr:=an r (List.mem_of_getElem? hi)
 have hj:j<k:=by rw[←hr];exact(List.getElem?_eq_some_iff.1 hv).1
 refine Ld.mk hm ?_ h
 rw[Nat.zero_add,dj an hj,hi];exact hv
theorem St.row{b i k:Nat}{l:List (List Value)}{T:TypeId}{r:List Value}{H':Hp}{K:Hp→Prop}(hu:br b (.cells (rows l) T (0,0)) (.cells (rows (l.set i r)) T (0,0)) H H')(an:∀r∈l,r.length=k)(hi:i<l.length)
 (hr:r.length=k)(h1:∀v∈r,v.oneCell'=true)(h:K H'):St k H (.pointer (some ⟨b,0+i*k,none⟩)) (.agg r.toArray) K:=by
 refine St.mk hu (by simp[Value.cells,hr]) ?_ (by simpa[Value.cells]using h1) ?_ h
 ·rw[aI an,Nat.zero_add];have:=Nat.mul_le_mul_right k (Nat.succ_le_of_lt hi);rwa [Nat.succ_mul]at this
 ·simp only[Value.cells,Nat.zero_add];exact me an hi hr
theorem j8{k:Nat}{l:List (List Value)}(h:∀r∈l,r.length=k){i j:Nat}{r:List Value}(hi:l[i]? =some r)(hj:j<k)(v:Value):(rows l).setIfInBounds (i*k+j) v=rows (l.set i (r.set j v)):=by
 have hr:=h r (List.mem_of_getElem? hi)
 have hlt:=(List.getElem?_eq_some_iff.1 hi).1
 have mK:∀x∈l.set i (r.set j v),x.length=k:=fun x hx=>by
  rcases List.mem_or_eq_of_mem_set hx with hx|hx
  ·exact h x hx
  ·rw[hx,List.length_set];exact hr
 have hk:0<k:=by omega
 apply Array.ext'
 apply List.ext_getElem?
 intro m
 rw[Array.getElem?_toList,Array.getElem?_toList,Array.getElem?_setIfInBounds]
 have hm:m%k<k:=Nat.mod_lt _ hk
 have he:m/k*k+m%k=m:=by rw[Nat.mul_comm];exact Nat.div_add_mod m k
 have g1:=dj h (i:=m/k) hm
 have g2:=dj mK (i:=m/k) hm
 rw[he]at g1 g2
 rw[g1,g2]
 by_cases e:i*k+j=m
 ·have e1:m/k=i:=by rw[←e,Nat.mul_comm,Nat.mul_add_div hk,Nat.div_eq_of_lt hj,Nat.add_zero]
  have e2:m%k=j:=by rw[←e,Nat.mul_comm,Nat.mul_add_mod,Nat.mod_eq_of_lt hj]
  rw[if_pos e,if_pos (by rw[aI h];have:=Nat.mul_le_mul_right k (Nat.succ_le_of_lt hlt);rw[Nat.succ_mul]at this;omega),e1,e2]
  simp[hlt,hr,hj]
 ·rw[if_neg e]
  by_cases e1:m/k=i
  ·have e2:j≠m%k:=fun e2=>e (by rw[e2,←e1];exact he)
   rw[e1,hi]
   simp[hlt,e2]
  ·rw[List.getElem?_set_ne (fun x=>e1 x.symm)]
theorem St.cell{b i j k:Nat}{l:List (List Value)}{T:TypeId}{r:List Value}{v:Value}{H':Hp}{K:Hp→Prop}(hu:br b (.cells (rows l) T (0,0)) (.cells (rows (l.set i (r.set j v))) T (0,0)) H H')(an:∀r∈l,r.length=k)
 (hi:l[i]? =some r)(hj:j<k)(h1:v.oneCell'=true)(h:K H'):St 1 H (.pointer (some ⟨b,0+i*k+j,none⟩)) v K:=by
 have hlt:=(List.getElem?_eq_some_iff.1 hi).1
 have hc:v.cells=#[v]:=by cases v<;>first|rfl|(simp[Value.oneCell']at h1)
 refine St.mk hu (by simp[hc]) ?_ (by simp[hc,h1]) ?_ h
 ·rw[aI an,Nat.zero_add];have:=Nat.mul_le_mul_right k (Nat.succ_le_of_lt hlt);rw[Nat.succ_mul]at this;omega
 ·simp only[hc,Nat.zero_add,ep];exact j8 an hi hj v
theorem St.one{b off:Nat}{c c':Array Value}{T:TypeId}{v:Value}{H':Hp}{K:Hp→Prop}(hu:br b (.cells c T (0,0)) (.cells c' T (0,0)) H H')(h1:v.oneCell'=true)(hs:off<c.size)(hc:c.setIfInBounds off v=c')(h:K H'):
  St 1 H (.pointer (some ⟨b,off,none⟩)) v K:=by
 have hv:v.cells=#[v]:=by cases v<;>first|rfl|(simp[Value.oneCell']at h1)
 exact St.mk hu (by simp[hv]) (by omega) (by simp[hv,h1]) (by simpa[hv,ep]using hc) h
theorem St.whole{b n:Nat}{c:Array Value}{T:TypeId}{r:List Value}{H':Hp}{K:Hp→Prop}(hu:br b (.cells c T (0,0)) (.cells r.toArray T (0,0)) H H')(hs:c.size=n)(hr:r.length=n)(h1:∀v∈r,v.oneCell'=true)(h:K H'):
  St n H (.pointer (some ⟨b,0,none⟩)) (.agg r.toArray) K:=by
 refine St.mk hu (by simp[Value.cells,hr]) (by omega) (by simpa[Value.cells]using h1) ?_ h
 have:=gD r c.toList 0 (by simp;omega)
 rw[Array.toArray_toList]at this
 simp only[Value.cells]
 rw[this]
 simp[List.drop_eq_nil_of_le,hr,hs]
theorem aO.whole{b n:Nat}{r:List Value}{T:TypeId}{fz:Nat×Nat}{K:Value→Prop}(hm:(b,Obj.cells r.toArray T fz)∈H)(hr:r.length=n)(h:K (.agg r.toArray)):aO n H (.pointer (some ⟨b,0,none⟩)) K:=
 aO.mk hm (by simp[hr]) (by simp;rw[←hr,List.take_length]) h
theorem ey{α β:Type}(f:α→β):∀(l:List α) (i:Nat),(l.map f).eraseIdx i=(l.eraseIdx i).map f
 | [],_=>rfl
 |x::l,0=>rfl
 |x::l,i+1=>by simp[ey f l i]
def ca{β:Type}(kd:IntKind)(enc:β→Value)(m:List (Int×β×Nat)):Array MapEntry:=(m.map fun x=>({key:=.int kd x.1,val:=enc x.2.1,born:=x.2.2}:MapEntry)).toArray
def cB{β:Type}(m:List (Int×β×Nat))(x:Int):Option β:=(m.find? (fun y=>x==y.1)).map (·.2.1)
def dN{β:Type}(kd:IntKind)(enc:β→Value)(v:Value)(f:Int→Option β)(C:Hp):Prop:=
 (v=.map none∧C=[]∧f=fun _=>none)∨
 ∃b m ck,v=.map (some b)∧C=[(b,.map (ca kd enc m) ck)]∧(m.map Prod.fst).Nodup∧f=cB m
theorem c5{β:Type}(kd:IntKind)(enc:β→Value)(x:Int):∀(m:List (Int×β×Nat)) (i:Nat),
  ∃r,Instr.findNow (.int kd) (.int kd x) (ca kd enc m).toList i=some r∧
   (match r with
    |none=>cB m x=none∧x∉m.map Prod.fst
    |some (j,v)=>i≤j∧∃p n,m[j-i]? =some (x,p,n)∧v=enc p∧cB m x=some p)
 | [],i=>⟨none,by simp[ca,Instr.findNow],by simp[cB]⟩
 |(y,p,n)::m,i=>by
  simp only[ca,List.map_cons,Instr.findNow,Instr.sameNow,if_true]
  by_cases e:x=y
  ·subst e
   refine⟨some (i,enc p),by simp[Instr.findNow,Instr.sameNow],Nat.le_refl _,p,n,by simp,rfl,by simp[cB]⟩
  ·obtain⟨r,hr,hp⟩:=c5 kd enc x m (i+1)
   have hb:(x==y)=false:=by simpa using e
   refine⟨r,?_,?_⟩
   ·simp only[ca]at hr
    simp[Instr.findNow,Instr.sameNow,hb,hr]
   ·cases r with
    |none=>
     simp only[cB,List.find?_cons,hb]at hp⊢
     exact⟨hp.1,by simpa[e]using hp.2⟩
    |some jv=>
     obtain⟨j,v⟩:=jv
     simp only[cB,List.find?_cons,hb]at hp⊢
     obtain⟨hij,p',n',h1,h2,h3⟩:=hp
     refine⟨by omega,p',n',?_,h2,h3⟩
     rw[show j-i=(j-(i+1))+1 by omega];simpa using h1
theorem dN.look{β:Type}{kd:IntKind}{enc:β→Value}{v zero:Value}{f:Int→Option β}{C:Hp}{ok:Bool}{x:Int}{K:Value→Prop}(h:dN kd enc v f C)(hC:∀y∈C,y∈H)
 (hk:K (match f x with|some p=>cond ok (.tuple #[enc p,.bool true]) (enc p)|none=>cond ok (.tuple #[zero,.bool false]) zero)):e9 (.int kd) zero ok H v (.int kd x) K:=by
 rcases h with⟨rfl,rfl,rfl⟩|⟨b,m,ck,rfl,rfl,_,rfl⟩
 ·exact⟨#[],none,.inl ⟨rfl,rfl⟩,rfl,hk⟩
 ·obtain⟨r,hr,hp⟩:=c5 kd enc x m 0
  refine⟨_,r,.inr ⟨b,ck,rfl,hC _ (by simp)⟩,hr,?_⟩
  cases r with
  |none=>simp only[hp.1]at hk;exact hk
  |some jv=>
   obtain⟨j,u⟩:=jv
   obtain⟨_,p,n,_,rfl,h3⟩:=hp
   simp only[h3]at hk;exact hk
def qt{β:Type}(f:Int→Option β)(x:Int)(p:Option β):Int→Option β:=fun y=>if y=x then p else f y
theorem dN.made{β:Type}{kd:IntKind}{enc:β→Value}(b:Nat):dN kd enc (.map (some b)) (fun _=>none) [(b,.map #[] 0)]:=
 .inr ⟨b,[],0,rfl,rfl,by simp,by funext x;simp[cB]⟩
theorem nx{β:Type}(m:List (Int×β×Nat))(x:Int)(p:β)(n:Nat)(hx:x∉m.map Prod.fst):cB (m++[(x,p,n)])=qt (cB m) x (some p):=by
 funext y
 simp only[cB,qt,List.find?_append]
 by_cases e:y=x
 ·subst e
  have:m.find? (fun z=>y==z.1)=none:=by
   rw[List.find?_eq_none];intro z hz;simp only[beq_iff_eq];intro e;exact hx (e▸List.mem_map_of_mem hz)
  simp[this]
 ·have e':(y==x)=false:=by simpa using e
  rw[if_neg e]
  cases h:m.find? (fun z=>y==z.1)<;>simp[e']
theorem kG{β:Type}:∀(m:List (Int×β×Nat)) (j:Nat) (x:Int) (p q:β) (n:Nat),(m.map Prod.fst).Nodup→m[j]? =some (x,q,n)→cB (m.set j (x,p,n))=qt (cB m) x (some p)
 | [],j,_,_,_,_,_,h=>by simp at h
 |y::m,0,x,p,q,n,nd,h=>by
  simp at h;subst h
  funext z
  simp only[List.set_cons_zero,cB,qt,List.find?_cons]
  by_cases e:z=x
  ·subst e;simp
  ·have e':(z==x)=false:=by simpa using e
   rw[if_neg e];simp[e']
 |y::m,j+1,x,p,q,n,nd,h=>by
  simp at h
  simp only[List.map_cons,List.nodup_cons]at nd
  have ih:=kG m j x p q n nd.2 h
  have hne:x≠y.1:=fun e=>nd.1 (e▸List.mem_map_of_mem (f:=Prod.fst) (List.mem_of_getElem? h))
  funext z
  have wT:=congrFun ih z
  simp only[List.set_cons_succ,cB,qt,List.find?_cons]at wT⊢
  by_cases e:z=y.1
  ·have:z≠x:=fun e2=>hne (e2▸e)
   simp[e,Ne.symm hne]
  ·have e':(z==y.1)=false:=by simpa using e
   simp only[e'];exact wT
theorem iI{β:Type}:∀(m:List (Int×β×Nat)) (j:Nat) (x:Int) (q:β) (n:Nat),(m.map Prod.fst).Nodup→m[j]? =some (x,q,n)→cB (m.eraseIdx j)=qt (cB m) x none
 | [],j,_,_,_,_,h=>by simp at h
 |y::m,0,x,q,n,nd,h=>by
  simp at h;subst h
  simp only[List.map_cons,List.nodup_cons]at nd
  funext z
  simp only[List.eraseIdx_cons_zero,cB,qt,List.find?_cons]
  by_cases e:z=x
  ·subst e
   have:m.find? (fun w=>z==w.1)=none:=by
    rw[List.find?_eq_none];intro w hw;simp only[beq_iff_eq];intro e;exact nd.1 (e▸List.mem_map_of_mem hw)
   simp[this]
  ·have e':(z==x)=false:=by simpa using e
   rw[if_neg e];simp[e']
 |y::m,j+1,x,q,n,nd,h=>by
  simp at h
  simp only[List.map_cons,List.nodup_cons]at nd
  have ih:=iI m j x q n nd.2 h
  have hne:x≠y.1:=fun e=>nd.1 (e▸List.mem_map_of_mem (f:=Prod.fst) (List.mem_of_getElem? h))
  funext z
  have wT:=congrFun ih z
  simp only[List.eraseIdx_cons_succ,cB,qt,List.find?_cons]at wT⊢
  by_cases e:z=y.1
  ·simp[e,Ne.symm hne]
  ·have e':(z==y.1)=false:=by simpa using e
   simp only[e'];exact wT
theorem dN.bF{β:Type}{kd:IntKind}{enc:β→Value}{b:Nat}{f:Int→Option β}{C:Hp}{x:Int}{p:β}{A B:Hp}{K:Hp→Prop}(h:dN kd enc (.map (some b)) f C)
 (hk:∀C',dN kd enc (.map (some b)) (qt f x (some p)) C'→K (A++(C'++B))):cM (.int kd) (A++(C++B)) (.map (some b)) (.int kd x) (enc p) K:=by
 rcases h with⟨h,_,_⟩|⟨b',m,ck,hb,rfl,nd,rfl⟩
 ·simp at h
 ·simp only[Value.map.injEq,Option.some.injEq]at hb;subst hb
  obtain⟨r,hr,hp⟩:=c5 kd enc x m 0
  refine⟨b,ca kd enc m,ck,r,rfl,hr,?_⟩
  cases r with
  |none=>
   refine⟨_,((br.head _).append B).bx A,hk [(b,_)] (.inr ⟨b,m++[(x,p,ck)],ck+1,rfl,?_,?_,?_⟩)⟩
   ·simp[ca]
   ·rw[List.map_append,List.nodup_append];exact⟨nd,by simp,fun a ha c hc=>by simp at hc;subst hc;intro e;subst e;exact hp.2 ha⟩
   ·exact(nx m x p ck hp.2).symm
  |some jv=>
   obtain⟨j,u⟩:=jv
   obtain⟨_,q,n,h1,rfl,h3⟩:=hp
   rw[Nat.sub_zero]at h1
   have hlt:=(List.getElem?_eq_some_iff.1 h1).1
   refine⟨fun e he=>?_,by simpa[ca]using hlt,_,((br.head _).append B).bx A,hk [(b,_)] (.inr ⟨b,m.set j (x,p,n),ck,rfl,?_,?_,?_⟩)⟩
   ·have:e={key:=.int kd x,val:=enc q,born:=n}:=by
     simp only[ca,List.getElem?_toArray,List.getElem?_map,h1]at he;simpa using he.symm
    subst this
    simp[Instr.sameBits]
   ·congr 3
    apply Array.ext'
    apply List.ext_getElem?
    intro i
    simp only[ca,Array.getElem?_toList,Array.getElem?_modify,List.getElem?_toArray,List.getElem?_map,List.getElem?_set]
    by_cases e:j=i
    ·subst e
     have hj:m[j]=(x,q,n):=by have:=List.getElem?_eq_getElem hlt;rw[h1]at this;simpa using this.symm
     simp[hlt,hj]
    ·simp[e]
   ·rw[List.map_set]
    have hx:(m.map Prod.fst)[j]? =some x:=by rw[List.getElem?_map,h1];rfl
    rw[show(m.map Prod.fst).set j x=m.map Prod.fst by
     apply List.ext_getElem?;intro i;rw[List.getElem?_set];by_cases e:j=i
     ·subst e;rw[hx];simp[hlt]
     ·simp[e]]
    exact nd
   ·exact(kG m j x p q n nd h1).symm
theorem dN.del{β:Type}{kd:IntKind}{enc:β→Value}{v:Value}{f:Int→Option β}{C:Hp}{x:Int}{A B:Hp}{K:Hp→Prop}(h:dN kd enc v f C)
 (hk:∀C',dN kd enc v (qt f x none) C'→K (A++(C'++B))):jX (.int kd) (A++(C++B)) v (.int kd x) K:=by
 rcases h with⟨rfl,rfl,rfl⟩|⟨b,m,ck,rfl,rfl,nd,rfl⟩
 ·refine .inl ⟨rfl,hk [] (.inl ⟨rfl,rfl,?_⟩)⟩
  funext y;simp[qt]
 ·obtain⟨r,hr,hp⟩:=c5 kd enc x m 0
  refine .inr ⟨b,ca kd enc m,ck,r,rfl,hr,?_⟩
  cases r with
  |none=>
   refine⟨by simp,hk [(b,_)] (.inr ⟨b,m,ck,rfl,rfl,nd,?_⟩)⟩
   funext y;simp only[qt];split
   ·rename_i e;subst e;exact hp.1.symm
   ·rfl
  |some jv=>
   obtain⟨j,u⟩:=jv
   obtain⟨_,q,n,h1,rfl,h3⟩:=hp
   rw[Nat.sub_zero]at h1
   have hlt:=(List.getElem?_eq_some_iff.1 h1).1
   refine⟨_,((br.head _).append B).bx A,hk [(b,_)] (.inr ⟨b,m.eraseIdx j,ck,rfl,?_,?_,?_⟩)⟩
   ·congr 3
    apply Array.ext'
    simp[ca,Array.eraseIdxIfInBounds,hlt,ey]
   ·rw[←ey];exact nd.sublist (List.eraseIdx_sublist _ _)
   ·exact(iI m j x q n nd h1).symm
end
end Go.Sx
namespace Go.Sx
open Go
section
variable {P:Program} {g:Gh} {H:Hp}
theorem jM(off:Nat):∀(r:List Value) (i:Nat) (c:Array Value),(r.zipIdx i).foldl (fun cs (x:Value×Nat)=>cs.setIfInBounds (off+x.2) x.1) c=ep c (off+i) r
 | [],i,c=>rfl
 |v::r,i,c=>by
  rw[List.zipIdx_cons,List.foldl_cons,jM off r (i+1)]
  rfl
theorem pR(off:Nat)(a c:Array Value):a.zipIdx.foldl (fun cs (x:Value×Nat)=>cs.setIfInBounds (off+x.2) x.1) c=ep c off a.toList:=by
 rw[←Array.foldl_toList]
 have:a.zipIdx.toList=a.toList.zipIdx 0:=by simp
 rw[this,jM off a.toList 0 c];rfl
def mj:List Value→Nat→List Value→List Value
 |c,_,[]=>c
 |c,off,v::r=>mj (c.set off v) (off+1) r
theorem fY:∀(r c:List Value) (off:Nat),ep c.toArray off r=(mj c off r).toArray
 | [],c,off=>rfl
 |v::r,c,off=>by
  have:c.toArray.setIfInBounds off v=(c.set off v).toArray:=by simp
  rw[ep,mj,this,fY r]
def kM(place:Nat→Option (Nat×Nat)):List Value→List (Nat×Value)→Option (List Value)
 |c,[]=>some c
 |c,(i,v)::r=>
  match place i with
  |none=>none
  |some (off,size)=>cond (Nat.beq v.cells.toList.length size&&Nat.ble (off+v.cells.toList.length) c.length) (kM place (mj c off v.cells.toList) r) none
theorem gh{place:Nat→Option (Nat×Nat)}:∀(r:List (Nat×Value)) (c cs:List Value),kM place c r=some cs→Instr.fill place c.toArray r=some cs.toArray
 | [],c,cs,h=>by simp only[kM,Option.some.injEq]at h;subst h;rfl
 |(i,v)::r,c,cs,h=>by
  simp only[kM]at h
  simp only[Instr.fill]
  split at h
  ·simp at h
  ·rename_i off size hp
   cases hc:(Nat.beq v.cells.toList.length size&&Nat.ble (off+v.cells.toList.length) c.length)<;>simp only[hc,cond_true,cond_false,reduceCtorEq]at h
   simp only[Bool.and_eq_true]at hc
   have h1:=Nat.eq_of_beq_eq_true hc.1
   have h2:=Nat.le_of_ble_eq_true hc.2
   have h3:v.cells.toList.length=v.cells.size:=Array.length_toList
   have hsz:v.cells.size=size:=by rw[←h3];exact h1
   have hle:off+v.cells.size≤c.length:=by rw[←h3];exact h2
   simp only[hp]
   have xN:(decide (v.cells.size≠size)||decide (off+v.cells.size>c.toArray.size))=false:=by
    rw[Bool.or_eq_false_iff];exact⟨by simp[hsz],by simp only[List.size_toArray,decide_eq_false_iff_not];omega⟩
   rw[xN]
   simp only[Bool.false_eq_true,if_false]
   rw[pR,fY]
   exact gh r _ cs h
def gC(P:Program):List Field→Option (List (Nat×Nat))
 | []=>some []
 |f::r=>match bG P f.type,gC P r with
  |some n,some l=>some ((f.offset,n)::l)
  |_,_=>none
def rT(P:Program)(t:TypeId)(parts:List (Nat×Value)):Option (List Value):=
 match P.underlying t,cV P t with
 |some (.struct fs),some z=>match gC P fs.toList with
  |some pl=>kM (fun i=>pl[i]?) z.cells.toList parts
  |none=>none
 |_,_=>none
theorem iG:∀(fs:List Field) (pl:List (Nat×Nat)),gC P fs=some pl→∀w,(fs.mapM fun f=>(do pure (f.offset,←sizeOf f.type):Sem (Nat×Nat))).run P w=.ok pl w
 | [],pl,h,w=>by simp only[gC,Option.some.injEq]at h;subst h;rfl
 |f::r,pl,h,w=>by
  simp only[gC]at h
  split at h
  ·rename_i n l hn hl
   simp only[Option.some.injEq]at h;subst h
   obtain⟨i,hi,hin⟩:=aH hn
   have ih:=iG r l hl w
   simp only[List.mapM_cons,Sem.run_bind,run_sizeOf hi,Result.andThen_ok,Sem.run_pure,hin,ih]
  ·simp at h
theorem Build.mk{t:TypeId}{parts:List (Nat×Value)}{cs:List Value}{k:Value→Prop}(hb:rT P t parts=some cs)(h:k (.agg cs.toArray)):Build P t parts k:=by
 refine⟨_,fun w=>?_,h⟩
 unfold rT at hb
 split at hb
 ·rename_i fs z hu hz
  split at hb
  ·rename_i pl nE
   obtain⟨i,hi,lu⟩:=bt hz
   have hf:=gh _ _ _ hb
   have hp:=iG fs.toList pl nE w
   simp only[Instr.build,Sem.run_bind,bV hi lu,Result.andThen_ok,run_underlying hu]
   have e2:((fs.mapM fun f=>(do pure (f.offset,←sizeOf f.type):Sem (Nat×Nat))).run P w)=.ok pl.toArray w:=by
    rw[Array.mapM_eq_mapM_toList]
    simp only[Sem.run_map,hp,Result.andThen_ok]
   rw[e2]
   show Sem.run P _ w=_
   have e3:Instr.fill (fun x=>pl.toArray[x]?) z.cells parts=some cs.toArray:=by
    simpa using hf
   simp only[e3]
   rfl
  ·simp at hb
 ·simp at hb
theorem aG.one{t e k:Nat}{z:Value}{r:List Value}{K:Value→Hp→Prop}(h1:P.underlying t=some (.slice e))(h2:bG P e=some k)(h3:cV P e=some z)(hk:0<k∧k≤16777216)(hr:r.length=k)
 (h:∀b,K (.slice (some ⟨b,0,none⟩) 1 1) ((b,.cells r.toArray e (0,0))::H)):aG P t 1 [(0,.agg r.toArray)] H K:=by
 refine⟨r.toArray,e,k,z,h1,h2,h3,by omega,?_,fun b _=>h b⟩
 have:((Array.range (1*k)).map (z.cells[· %z.cells.size]!))=(((Array.range (1*k)).map (z.cells[· %z.cells.size]!)).toList).toArray:=by rw[Array.toArray_toList]
 rw[this]
 generalize hc:((Array.range (1*k)).map (z.cells[· %z.cells.size]!)).toList=c
 have hlen:c.length=k:=by rw[←hc];simp
 refine gh _ _ _ ?_
 simp only[kM,Value.cells]
 have hb:(Nat.beq r.toArray.toList.length k&&Nat.ble (0*k+r.toArray.toList.length) c.length)=true:=by simp[hr,hlen]
 rw[hb]
 simp only[cond_true,Option.some.injEq]
 have:=gD r c 0 (by omega)
 rw[fY]at this
 have h5:mj c 0 r=List.take 0 c++r++List.drop (0+r.length) c:=by simpa using congrArg Array.toList this
 simp only[Nat.zero_mul]
 rw[h5]
 simp[List.drop_eq_nil_of_le,hr,hlen]
end
end Go.Sx
namespace Go.Sx
open Go
section
variable {P:Program} {g:Gh} {H:Hp}
theorem dN.fh{β:Type}{kd:IntKind}{enc:β→Value}{v zero:Value}{f:Int→Option β}{C:Hp}{ok:Bool}{x:Int}{K:Value→Prop}{p:β}(h:dN kd enc v f C)(hC:∀y∈C,y∈H)(hf:f x=some p)
 (hk:K (cond ok (.tuple #[enc p,.bool true]) (enc p))):e9 (.int kd) zero ok H v (.int kd x) K:=h.look hC (by rw[hf];exact hk)
theorem dN.g8{β:Type}{kd:IntKind}{enc:β→Value}{v zero:Value}{f:Int→Option β}{C:Hp}{ok:Bool}{x:Int}{K:Value→Prop}(h:dN kd enc v f C)(hC:∀y∈C,y∈H)(hf:f x=none)
 (hk:K (cond ok (.tuple #[zero,.bool false]) zero)):e9 (.int kd) zero ok H v (.int kd x) K:=h.look hC (by rw[hf];exact hk)
theorem e5.upto{size n c h:Nat}{a:Option Addr}{kd:IntKind}{k:Value→Prop}(hh:h≤c)(hk:k (.slice a h c)):e5 size (.slice a n c) none (some (.int kd (h:Int))) k:=by
 refine⟨a,n,c,0,h,rfl,rfl,rfl,by omega,by omega,by omega,?_⟩
 have:(if c=(0:Int).toNat then a else a.map (·.add ((0:Int).toNat*size)))=a:=by
  split
  ·rfl
  ·simp only[Int.toNat_zero,Nat.zero_mul]
   cases a with
   |none=>rfl
   |some x=>simp[Addr.add_zero']
 rw[this]
 simpa using hk
end
end Go.Sx
namespace Go.Sx
open Go
section
variable {P:Program} {g:Gh} {H:Hp}
inductive fA(C:Hp):Hp→(Hp→Hp)→Prop
 |here:fA C C (fun X=>X)
 |left {A:Hp}:fA C (C++A) (fun X=>X++A)
 |cons {x:Nat×Obj} {H:Hp} {c:Hp→Hp} (h:fA C H c):fA C (x::H) (fun X=>x::c X)
 |app {A H:Hp} {c:Hp→Hp} (h:fA C H c):fA C (A++H) (fun X=>A++c X)
theorem fA.spec{C H:Hp}{c:Hp→Hp}(h:fA C H c):H=c C∧∃F,∀X,(c X).Perm (X++F):=by
 induction h with
 |here=>exact⟨rfl,[],fun X=>by simp⟩
 | @left A=>exact⟨rfl,A,fun X=>.refl _⟩
 | @cons x H c h ih=>
  obtain⟨h1,F,h2⟩:=ih
  exact⟨by rw[h1],x::F,fun X=>(List.Perm.cons x (h2 X)).trans List.perm_middle.symm⟩
 | @app A H c h ih=>
  obtain⟨h1,F,h2⟩:=ih
  refine⟨by rw[h1],A++F,fun X=>(List.Perm.append_left A (h2 X)).trans ?_⟩
  rw[←List.append_assoc,←List.append_assoc];exact List.perm_append_comm.append_right F
theorem fA.ur{C H:Hp}{c:Hp→Hp}(h:fA C H c){X Y:Hp}(e:aM X Y):aM (c X) (c Y):=by
 obtain⟨_,F,hp⟩:=h.spec
 exact(aM.perm (hp X)).trans ((e.frame F).trans (.perm (hp Y).symm))
theorem aM.cons{x:Nat×Obj}{A B:Hp}(h:aM A B):aM (x::A) (x::B):=aM.mh h [x]
theorem aM.skip{x:Nat×Obj}{A B:Hp}(h:aM A B):aM (x::A) B:=aM.tail.trans h
theorem aM.fE{X A B:Hp}(h:aM A B):aM (X++A) B:=aM.right.trans h
theorem aj.frame{f:FuncId}{args:Array Value}{C F:Hp}{R:Ending→Hp→Prop}(h:∀g,aj P g f args C R):aj P g f args (C++F) (fun e H'=>∃C',H'=C'++F∧R e C'):=by
 intro w hw
 exact((h (g.add F)) w (Own.cD.1 hw)).mono fun e w' ⟨H',ho,hr⟩=>⟨_,Own.cD.2 ho,H',rfl,hr⟩
theorem aj.hole{f:FuncId}{args:Array Value}{C H:Hp}{c:Hp→Hp}{R:Ending→Hp→Prop}(hh:fA C H c)(h:∀g,aj P g f args C R):aj P g f args H (fun e H'=>∃C',H'=c C'∧R e C'):=by
 obtain⟨rfl,F,hp⟩:=hh.spec
 exact((aj.frame (F:=F) h).pre (.perm (hp C))).post fun e H' ⟨C',h1,h2⟩=>⟨c C',by rw[h1];exact .perm (hp C').symm,C',rfl,h2⟩
def Fc(P:Program)(f:FuncId)(args:Array Value)(C:Hp)(Q:Value→Hp→Prop):Prop:=
 ∀g,aj P g f args C (fun e H'=>∃v gu,e=.returned v∧aM H' gu∧Q v gu)
def cx(Q:Value→Hp→Prop):Ending→Hp→Prop:=fun e H'=>∃v gu,e=.returned v∧aM H' gu∧Q v gu
theorem cx.mk{Q:Value→Hp→Prop}{v:Value}{H gu:Hp}(he:aM H gu)(h:Q v gu):cx Q (.returned v) H:=⟨v,gu,rfl,he,h⟩
theorem cx.here{Q:Value→Hp→Prop}{v:Value}{H:Hp}(h:Q v H):cx Q (.returned v) H:=⟨v,H,rfl,.refl _,h⟩
theorem Fc.mono{f:FuncId}{args:Array Value}{C:Hp}{Q Q':Value→Hp→Prop}(h:Fc P f args C Q)(hq:∀v H,Q v H→Q' v H):Fc P f args C Q':=
 fun g=>(h g).mono fun e H' ⟨v,gu,h1,h2,h3⟩=>⟨v,gu,h1,h2,hq _ _ h3⟩
def Rd(P:Program)(f:FuncId)(args:Array Value)(B:Hp)(Q:Value→Prop):Prop:=Fc P f args B (fun v H=>H=B∧Q v)
theorem ai.fn{f:FuncId}{args:Array Value}{C H:Hp}{c:Hp→Hp}{Q:Value→Hp→Prop}{K:Value→Hp→Prop}{KP:List PanicEntry→Hp→Prop}(hh:fA C H c)(hc:Fc P f args C Q)
 (hk:∀v C',Q v C'→K v (c C')):ai P g f args H K KP:=
 (aj.hole hh hc).post fun e H' ⟨C',h1,v,wk,h2,h3,h4⟩=>⟨c wk,by rw[h1];exact hh.ur h3,by subst h2;exact hk _ _ h4⟩
theorem ai.rd{f:FuncId}{args:Array Value}{B H:Hp}{c:Hp→Hp}{Q:Value→Prop}{K:Value→Hp→Prop}{KP:List PanicEntry→Hp→Prop}(hh:fA B H c)(hc:Rd P f args B Q)
 (hk:∀v,Q v→K v H):ai P g f args H K KP:=
 ai.fn hh hc fun v C' ⟨h1,h2⟩=>by subst h1;rw[←hh.spec.1];exact hk v h2
theorem iR.of{fv:Value}{args:Array Value}{K:Value→Hp→Prop}{KP:List PanicEntry→Hp→Prop}{f:FuncId}{first captured:Array Value}(hf:fv=.func (.func f) first captured)(hc:bX P f=true)
 (h:ai P g f (first++args++captured) H K KP):iR P g fv args H K KP:=⟨f,first,captured,hf,hc,h⟩
theorem DR.self{body:Hp→Prop}(h:body H):DR H body:=⟨H,.refl _,h⟩
theorem DR.of{R:Hp}{body:Hp→Prop}(e:aM H R)(h:body R):DR H body:=⟨R,e,h⟩
def At(B:Hp)(p:Value)(r:List Value):Prop:=∃b o c T fz,p=.pointer (some ⟨b,o,none⟩)∧(b,Obj.cells c T fz)∈B∧∀j v,r[j]? =some v→c[o+j]? =some v
theorem At.block{b:Nat}{l:List Value}{T:TypeId}{fz:Nat×Nat}{B:Hp}(h:(b,Obj.cells l.toArray T fz)∈B):At B (.pointer (some ⟨b,0,none⟩)) l:=
 ⟨b,0,_,T,fz,rfl,h,fun j v hj=>by simpa using hj⟩
theorem Ld.at{p v:Value}{r:List Value}{B:Hp}{k:Value→Prop}(h:At B p (v::r))(hs:∀x∈B,x∈H)(hk:k v):Ld H p k:=by
 obtain⟨b,o,c,T,fz,h1,h2,h3⟩:=h
 exact⟨b,o,c,T,fz,v,h1,hs _ h2,by simpa using h3 0 v rfl,hk⟩
theorem ae.at{p:Value}{r:List Value}{B:Hp}{j:Nat}{k:Value→Prop}(h:At B p r)(hk:∀q,At B q (r.drop j)→k q):ae j p k:=by
 obtain⟨b,o,c,T,fz,h1,h2,h3⟩:=h
 refine⟨b,o,h1,hk _ ⟨b,o+j,c,T,fz,rfl,h2,fun i v hi=>?_⟩⟩
 rw[List.getElem?_drop]at hi
 rw[Nat.add_assoc];exact h3 _ _ hi
theorem aO.at{p:Value}{r:List Value}{B:Hp}{n:Nat}{k:Value→Prop}(h:At B p r)(hn:r.length=n)(hp:0<n)(hs:∀x∈B,x∈H)(hk:k (.agg r.toArray)):aO n H p k:=by
 obtain⟨b,o,c,T,fz,h1,h2,h3⟩:=h
 have hsz:o+n≤c.size:=by
  have:=h3 (n-1) (r[n-1]'(by omega)) (List.getElem?_eq_getElem _)
  have:=(Array.getElem?_eq_some_iff.1 this).1
  omega
 refine⟨b,o,c,T,fz,h1,hs _ h2,hsz,?_⟩
 have:c.extract o (o+n)=r.toArray:=by
  apply Array.ext
  ·simp;omega
  ·intro i y3 rF
   simp only[List.size_toArray]at rF
   have:=h3 i r[i] (List.getElem?_eq_getElem _)
   rw[Array.getElem_extract]
   have:=(Array.getElem?_eq_some_iff.1 this).2
   simpa using this
 rw[this];exact hk
def Sl(k:Nat)(B:Hp)(v:Value)(rs:List (List Value)):Prop:=
 (∀r∈rs,r.length=k)∧
 ((∃a cap,v=.slice a 0 cap∧rs=[])∨∃b o cap c T fz,v=.slice (some ⟨b,o,none⟩) rs.length cap∧rs.length≤cap∧(b,Obj.cells c T fz)∈B∧o+rs.length*k≤c.size∧∀i r,rs[i]? =some r→∀j v,r[j]? =some v→c[o+i*k+j]? =some v)
theorem Sl.mono{k:Nat}{B B':Hp}{v:Value}{rs:List (List Value)}(h:Sl k B v rs)(hs:∀x∈B,x∈B'):Sl k B' v rs:=by
 obtain⟨h0,h⟩:=h
 refine⟨h0,?_⟩
 rcases h with h|⟨b,o,cap,c,T,fz,h1,h2,h3,h4⟩
 ·exact .inl h
 ·exact .inr ⟨b,o,cap,c,T,fz,h1,h2,hs _ h3,h4⟩
theorem Sl.nil(k:Nat)(B:Hp):Sl k B (.slice none 0 0) []:=⟨by simp,.inl ⟨_,_,rfl,rfl⟩⟩
theorem Sl.shape{k:Nat}{B:Hp}{v:Value}{rs:List (List Value)}(h:Sl k B v rs):∃a cap,v=.slice a rs.length cap∧rs.length≤cap:=by
 rcases h.2 with⟨a,cap,rfl,rfl⟩|⟨b,o,cap,c,T,fz,h1,h2,_⟩
 ·exact⟨_,_,rfl,Nat.zero_le _⟩
 ·exact⟨_,_,h1,h2⟩
theorem Sl.bQ{k:Nat}{B:Hp}{v:Value}{rs:List (List Value)}(h:Sl k B v rs){K:Value→Prop}(hk:K (.int .i64 rs.length)):aB v K:=by
 obtain⟨a,c,rfl,_⟩:=h.shape;exact aB.mk hk
theorem ak.sl{k:Nat}{B:Hp}{v:Value}{rs:List (List Value)}{kd:IntKind}{i:Nat}{r:List Value}{K:Value→Prop}(h:Sl k B v rs)(hi:rs[i]? =some r)(hk:∀p,At B p r→K p):ak k v (.int kd (i:Int)) K:=by
 have hlt:=(List.getElem?_eq_some_iff.1 hi).1
 rcases h.2 with⟨a,cap,rfl,rfl⟩|⟨b,o,cap,c,T,fz,h1,h2,h3,h4,h5⟩
 ·simp at hlt
 ·subst h1
  refine ak.nat (by omega) (hk _ ⟨b,_,c,T,fz,rfl,h3,fun j v hj=>h5 i r hi j v hj⟩)
theorem Sl.cells{k:Nat}{B:Hp}{v:Value}{rs:List (List Value)}(h:Sl k B v rs):∃a cap,v=.slice a rs.length cap∧Cells B a (rs.length*k) (rows rs):=by
 rcases h.2 with⟨a,cap,rfl,rfl⟩|⟨b,o,cap,c,T,fz,h1,h2,h3,h4,h5⟩
 ·refine⟨a,cap,rfl,?_⟩
  cases a with
  |none=>simp[Cells,rows]
  |some a=>exact .inl ⟨by simp,rfl⟩
 ·refine⟨_,cap,h1,.inr ⟨rfl,c,T,fz,h3,h4,?_⟩⟩
  apply Array.ext
  ·rw[aI h.1];simp;omega
  ·intro i y3 rF
   rw[aI h.1]at y3
   have hk:0<k:=Nat.pos_of_ne_zero fun e=>by simp[e]at y3
   have hd:i/k<rs.length:=Nat.div_lt_of_lt_mul (by rw[Nat.mul_comm];exact y3)
   have hm:i%k<k:=Nat.mod_lt _ hk
   have he:i/k*k+i%k=i:=by rw[Nat.mul_comm];exact Nat.div_add_mod i k
   have hr:=h.1 rs[i/k] (List.getElem_mem hd)
   have g1:=dj h.1 (i:=i/k) hm
   rw[he,List.getElem?_eq_getElem hd,Option.bind_some,List.getElem?_eq_getElem (by omega)]at g1
   have g2:=h5 (i/k) _ (List.getElem?_eq_getElem hd) (i%k) _ (List.getElem?_eq_getElem (by omega))
   rw[Nat.add_assoc,he]at g2
   have e1:=(Array.getElem?_eq_some_iff.1 g1).2
   have e2:=(Array.getElem?_eq_some_iff.1 g2).2
   rw[Array.getElem_extract]
   exact e1.trans e2.symm
theorem Sl.qU{T:TypeId}{k:Nat}{v:Value}{rs:List (List Value)}{C:Hp}(h:bC T k v rs C)(hk:0<k):Sl k C v rs:=by
 rcases h with⟨rfl,rfl,rfl⟩|⟨b,az,rfl,rfl,an⟩
 ·exact Sl.nil _ _
 ·refine⟨fun r hr=>an r (by simp[hr]),.inr ⟨b,0,_,rows (rs++az),T,(0,0),rfl,by omega,by simp,?_,fun i r hi j v hj=>?_⟩⟩
  ·rw[aI an,List.length_append,Nat.zero_add];exact Nat.mul_le_mul_right _ (by omega)
  ·have hlt:=(List.getElem?_eq_some_iff.1 hi).1
   have hr:=an r (List.mem_append_left _ (List.mem_of_getElem? hi))
   have tX:j<k:=by rw[←hr];exact(List.getElem?_eq_some_iff.1 hj).1
   rw[Nat.zero_add,dj an tX,List.getElem?_append_left hlt,hi];exact hj
end
end Go.Sx
namespace Go.Sx
open Go
def aK:IntKind→Nat
 | .i8=>128| .i16=>32768| .i32=>2147483648| .i64=>9223372036854775808
 | .u8=>256| .u16=>65536| .u32=>4294967296| .u64=>18446744073709551616
theorem cz{kd:IntKind}{n:Nat}(h:n<aK kd):kd.wrap (n:Int)=n:=by
 cases kd<;>simp only[aK]at h<;>simp only[IntKind.wrap,IntKind.bits,IntKind.signed,Bool.false_and,Bool.true_and,Bool.false_eq_true,if_false,decide_eq_true_eq]
 all_goals first
  |omega
  |(rw[if_neg (by simp;omega)];omega)
theorem wrap_u64(n:Int):IntKind.u64.wrap n=n%18446744073709551616:=by simp[IntKind.wrap,IntKind.bits,IntKind.signed]
theorem q6(kd:IntKind):aK kd≤2^kd.bits:=by cases kd<;>decide
def eZ(a b:Nat):Nat:=a^^^(a&&&b)
theorem bA(a b j:Nat):(eZ a b).testBit j=(a.testBit j&& !b.testBit j):=by
 unfold eZ;rw[Nat.testBit_xor,Nat.testBit_and];cases a.testBit j<;>cases b.testBit j<;>rfl
theorem fm(a b:Nat):eZ a b≤a:=by
 have:eZ a b=a&&&eZ a b:=by
  apply Nat.eq_of_testBit_eq;intro j
  rw[Nat.testBit_and,bA];cases a.testBit j<;>simp
 rw[this];exact Nat.and_le_left
theorem bits_nat{kd:IntKind}{a b:Nat}(ha:a<aK kd)(hb:b<aK kd):
  bits .and kd a b=((a&&&b:Nat):Int)∧bits .or kd a b=((a|||b:Nat):Int)∧bits .xor kd a b=((a^^^b:Nat):Int)∧bits .andNot kd a b=((eZ a b:Nat):Int):=by
 have hl:=q6 kd
 have h1:(BitVec.ofInt kd.bits (a:Int)).toNat=a:=by rw[BitVec.ofInt_natCast,BitVec.toNat_ofNat,Nat.mod_eq_of_lt (by omega)]
 have h2:(BitVec.ofInt kd.bits (b:Int)).toNat=b:=by rw[BitVec.ofInt_natCast,BitVec.toNat_ofNat,Nat.mod_eq_of_lt (by omega)]
 obtain⟨n,hn⟩:∃n,aK kd=2^n:=by cases kd<;>first|exact⟨7,rfl⟩|exact⟨15,rfl⟩|exact⟨31,rfl⟩|exact⟨63,rfl⟩|exact⟨8,rfl⟩|exact⟨16,rfl⟩|exact⟨32,rfl⟩|exact⟨64,rfl⟩
 rw[hn]at ha hb
 refine⟨?_,?_,?_,?_⟩
 ·simp only[bits,BitVec.toNat_and,h1,h2]
  exact cz (by rw[hn];exact Nat.lt_of_le_of_lt Nat.and_le_left ha)
 ·simp only[bits,BitVec.toNat_or,h1,h2]
  exact cz (by rw[hn];exact Nat.or_lt_two_pow ha hb)
 ·simp only[bits,BitVec.toNat_xor,h1,h2]
  exact cz (by rw[hn];exact Nat.xor_lt_two_pow ha hb)
 ·simp only[bits]
  have:(BitVec.ofInt kd.bits (a:Int) &&& ~~~BitVec.ofInt kd.bits (b:Int)).toNat=eZ a b:=by
   apply Nat.eq_of_testBit_eq;intro j
   rw[bA,←BitVec.getLsbD,BitVec.getLsbD_and,BitVec.getLsbD_not,BitVec.getLsbD,BitVec.getLsbD,h1,h2]
   by_cases hj:j<kd.bits
   ·simp[hj]
   ·have:a.testBit j=false:=Nat.testBit_lt_two_pow (Nat.lt_of_lt_of_le ha (by rw[←hn];exact Nat.le_trans hl (Nat.pow_le_pow_right (by decide) (by omega))))
    simp[this]
  rw[this]
  exact cz (by rw[hn];exact Nat.lt_of_le_of_lt (fm a b) ha)
section
variable {kd s3:IntKind} {a b:Nat} {k:Value→Prop}
theorem aa.gO(ha:a<aK kd)(hb:b<aK kd)(h:k (.int kd ((a&&&b:Nat):Int))):aa .num .and (.int kd a) (.int kd b) k:=⟨_,by simp[cT,eR,(bits_nat ha hb).1],h⟩
theorem aa.qS(ha:a<aK kd)(hb:b<aK kd)(h:k (.int kd ((a|||b:Nat):Int))):aa .num .or (.int kd a) (.int kd b) k:=⟨_,by simp[cT,eR,(bits_nat ha hb).2.1],h⟩
theorem aa.oV(ha:a<aK kd)(hb:b<aK kd)(h:k (.int kd ((eZ a b:Nat):Int))):aa .num .andNot (.int kd a) (.int kd b) k:=⟨_,by simp[cT,eR,(bits_nat ha hb).2.2.2],h⟩
theorem aa.eL(ha:a<aK kd)(h:k (.int kd ((a>>>b:Nat):Int))):aa .num .shr (.int kd a) (.int s3 b) k:=by
 refine⟨_,?_,h⟩
 have h0:¬((b:Int)<0):=by omega
 simp only[cT,h0,if_false,Option.some.injEq,Value.int.injEq,true_and,Int.toNat_natCast]
 rw[Int.fdiv_eq_ediv_of_nonneg _ (Int.le_of_lt (Int.pow_pos (by decide))),Nat.shiftRight_eq_div_pow]
 have hl:=q6 kd
 by_cases hb:b≤kd.bits
 ·rw[Nat.min_eq_left hb];push_cast;rfl
 ·rw[Nat.min_eq_right (by omega)]
  have h1:a/2^kd.bits=0:=Nat.div_eq_of_lt (by omega)
  have h2:a/2^b=0:=Nat.div_eq_of_lt (Nat.lt_of_lt_of_le (by omega) (Nat.pow_le_pow_right (by decide) (by omega:kd.bits≤b)))
  have:(a:Int) / (2^kd.bits:Int)=((a/2^kd.bits:Nat):Int):=by push_cast;rfl
  rw[this,h1,h2]
theorem aa.lf(hb:b≤kd.bits)(hr:a<<<b<aK kd)(h:k (.int kd ((a<<<b:Nat):Int))):aa .num .shl (.int kd a) (.int s3 b) k:=by
 refine⟨_,?_,h⟩
 have h0:¬((b:Int)<0):=by omega
 simp only[cT,h0,if_false,Option.some.injEq,Value.int.injEq,true_and,Int.toNat_natCast,Nat.min_eq_left hb]
 rw[←cz hr,Nat.shiftLeft_eq];push_cast;rfl
theorem aa.nt(h:k (.int .u64 (((a<<<b)%18446744073709551616:Nat):Int))):aa .num .shl (.int .u64 a) (.int s3 b) k:=by
 refine⟨_,?_,h⟩
 have h0:¬((b:Int)<0):=by omega
 simp only[cT,h0,if_false,Option.some.injEq,Value.int.injEq,true_and,Int.toNat_natCast,IntKind.bits,wrap_u64]
 rw[Nat.shiftLeft_eq]
 by_cases hb:b≤64
 ·rw[Nat.min_eq_left hb,Int.natCast_emod,Int.natCast_mul,Int.natCast_pow];rfl
 ·rw[Nat.min_eq_right (by omega)]
  have h1:(a*2^b)%18446744073709551616=0:=by
   have:2^b=18446744073709551616*2^(b-64):=by rw[show(18446744073709551616:Nat)=2^64 by rfl,←Nat.pow_add];congr 1;omega
   rw[this,Nat.mul_left_comm];exact Nat.mul_mod_right _ _
  rw[h1]
  exact Int.mul_emod_left _ _
theorem aa.cE(hr:a+b<aK kd)(h:k (.int kd ((a+b:Nat):Int))):aa .num .add (.int kd a) (.int kd b) k:=by
 refine aa.add ?_
 have:((a:Int)+(b:Int))=((a+b:Nat):Int):=by push_cast;rfl
 rw[this,cz hr];exact h
theorem aa.pc(ha:a<aK kd)(hb:b≤a)(h:k (.int kd ((a-b:Nat):Int))):aa .num .sub (.int kd a) (.int kd b) k:=by
 refine aa.sub ?_
 have:((a:Int) -(b:Int))=((a-b:Nat):Int):=by omega
 rw[this,cz (by omega)];exact h
theorem aa.Ag(hr:a*b<aK kd)(h:k (.int kd ((a*b:Nat):Int))):aa .num .mul (.int kd a) (.int kd b) k:=by
 refine aa.mul ?_
 have:((a:Int)*(b:Int))=((a*b:Nat):Int):=by push_cast;rfl
 rw[this,cz hr];exact h
theorem aa.Dn{x y:Int}(h:k (.bool (decide (x=y)))):aa .num .eql (.int kd x) (.int kd y) k:=aa.eql (by rw[show(x==y)=decide (x=y)from by cases hb:decide (x=y)<;>simp_all];exact h)
theorem aa.qu{x y:Int}(h:k (.bool (decide (x≠y)))):aa .num .neq (.int kd x) (.int kd y) k:=aa.neq (by rw[show(x !=y)=decide (x≠y)from by cases hb:decide (x=y)<;>simp_all];exact h)
theorem aa.fy(h:k (.bool (decide (a=b)))):aa .num .eql (.int kd a) (.int kd b) k:=aa.Dn (by simpa[Int.natCast_inj]using h)
theorem aa.lS(h:k (.bool (decide (a≠b)))):aa .num .neq (.int kd a) (.int kd b) k:=aa.qu (by simpa[Int.natCast_inj]using h)
theorem aa.jA(h:k (.bool (decide (a<b)))):aa .num .lss (.int kd a) (.int kd b) k:=aa.lss (by simpa[Int.ofNat_lt]using h)
theorem aa.D7(h:k (.bool (decide (a≤b)))):aa .num .leq (.int kd a) (.int kd b) k:=aa.leq (by simpa[Int.ofNat_le]using h)
theorem aa.qy(h:k (.bool (decide (b<a)))):aa .num .gtr (.int kd a) (.int kd b) k:=aa.gtr (by simpa[Int.ofNat_lt]using h)
theorem aa.um(h:k (.bool (decide (b≤a)))):aa .num .geq (.int kd a) (.int kd b) k:=aa.geq (by simpa[Int.ofNat_le]using h)
theorem bg.nat(ha:a<aK kd)(h:k (.int kd (a:Int))):bg kd (.int s3 a) k:=bg.of (cz ha) h
theorem bg.Bo(h:k (.int .u8 ((a%256:Nat):Int))):bg .u8 (.int s3 a) k:=bg.of (by simp[IntKind.wrap,IntKind.bits,IntKind.signed]) h
theorem Un.Ae(ha:a<18446744073709551616)(h:k (.int .u64 (((18446744073709551616-a)%18446744073709551616:Nat):Int))):Un .neg (.int .u64 a) k:=by
 refine⟨_,?_,h⟩
 simp only[z8,wrap_u64,Option.some.injEq,Value.int.injEq,true_and];omega
end
theorem Br.dec{p:Prop}[Decidable p]{t f:Prop}(h1:p→t)(h2:¬p→f):Br (.bool (decide p)) t f:=⟨_,rfl,fun h=>h1 (by simpa using h),fun h=>h2 (by simpa using h)⟩
theorem Br.rR{p:Prop}[Decidable p]{t f:Prop}(hp:p)(h1:t):Br (.bool (decide p)) t f:=Br.dec (fun _=>h1) fun h=>absurd hp h
theorem Br.vj{p:Prop}[Decidable p]{t f:Prop}(hp:¬p)(h1:f):Br (.bool (decide p)) t f:=Br.dec (fun h=>absurd h hp) fun _=>h1
end Go.Sx
namespace af
open Go.Sx
def wN(n:Nat):Nat:=max 1 (2^n/64)
def bn(n:Nat):Nat:=if 6≤n then 18446744073709551615 else 2^2^n-1
structure dI(n:Nat)(ws:List Nat):Prop where
 nf:n≤16
 len:ws.length=wN n
 full:∀w∈ws,w≤bn n
instance (n:Nat)(ws:List Nat):Decidable (dI n ws):=decidable_of_iff (n≤16∧ws.length=wN n∧∀w∈ws,w≤bn n) ⟨fun⟨a,b,c⟩=>⟨a,b,c⟩,fun⟨a,b,c⟩=>⟨a,b,c⟩⟩
def bit(ws:List Nat)(x:Nat):Bool:=(ws.getD (x/64) 0).testBit (x%64)
def ah(x v:Nat)(b:Bool):Nat:=if b then x|||2^v else eZ x (2^v)
theorem qB(n:Nat):0<wN n:=Nat.le_max_left _ _
theorem lX{n:Nat}(h:6≤n):wN n=2^(n-6):=by
 unfold wN
 have:2^n/64=2^(n-6):=by
  rw[show(64:Nat)=2^6 by rfl,Nat.pow_div h (by decide)]
 rw[this];exact Nat.max_eq_right (Nat.two_pow_pos _)
theorem kA{n:Nat}(h:n<7):wN n=1:=by
 have:n=0∨n=1∨n=2∨n=3∨n=4∨n=5∨n=6:=by omega
 rcases this with rfl|rfl|rfl|rfl|rfl|rfl|rfl<;>rfl
theorem lW{n:Nat}(h:n≤16):wN n≤1024:=by
 by_cases h6:6≤n
 ·rw[lX h6];exact Nat.pow_le_pow_right (by decide) (by omega:n-6≤10)
 ·rw[kA (by omega)];decide
theorem gK(n:Nat):bn n<18446744073709551616:=by
 unfold bn
 split
 ·decide
 ·have h1:2^n≤32:=Nat.pow_le_pow_right (n:=2) (by decide) (by omega:n≤5)
  have h2:2^2^n≤2^32:=Nat.pow_le_pow_right (by decide) h1
  omega
theorem dI.lt{n:Nat}{ws:List Nat}(h:dI n ws){w:Nat}(hw:w∈ws):w<18446744073709551616:=Nat.lt_of_le_of_lt (h.full w hw) (gK n)
theorem jT{n w:Nat}(h:w≤bn n):w&&&bn n=w:=by
 unfold bn at*
 split at h
 ·rename_i h6
  rw[if_pos h6,show(18446744073709551615:Nat)=2^64-1 by rfl,Nat.and_two_pow_sub_one_eq_mod,Nat.mod_eq_of_lt (by omega)]
 ·rename_i h6
  rw[if_neg h6,Nat.and_two_pow_sub_one_eq_mod,Nat.mod_eq_of_lt]
  have:=Nat.two_pow_pos (2^n);omega
theorem gy(n j:Nat):(bn n).testBit j=decide (j<if 6≤n then 64 else 2^n):=by
 unfold bn
 split
 ·rw[show(18446744073709551615:Nat)=2^64-1 by rfl,Nat.testBit_two_pow_sub_one]
 ·rw[Nat.testBit_two_pow_sub_one]
theorem q5{n x:Nat}(h:x<2^n):x/64<wN n:=by
 by_cases h6:6≤n
 ·rw[lX h6]
  refine Nat.div_lt_of_lt_mul ?_
  rw[show(64:Nat)=2^6 by rfl,←Nat.pow_add]
  rwa [show 6+(n-6)=n by omega]
 ·have h1:2^n≤32:=Nat.pow_le_pow_right (n:=2) (by decide) (by omega:n≤5)
  rw[kA (by omega)];omega
theorem dI.ext{n:Nat}{a b:List Nat}(ha:dI n a)(hb:dI n b)(h:∀x,x<2^n→bit a x=bit b x):a=b:=by
 apply List.ext_getElem (by rw[ha.len,hb.len])
 intro i h1 h2
 apply Nat.eq_of_testBit_eq
 intro j
 have AU:=jT (ha.full _ (List.getElem_mem h1))
 have AT:=jT (hb.full _ (List.getElem_mem h2))
 by_cases hj:j<(if 6≤n then 64 else 2^n)
 ·have ED:j<64:=by
   split at hj
   ·exact hj
   ·have h1:2^n≤32:=Nat.pow_le_pow_right (n:=2) (by decide) (by omega:n≤5)
    omega
  have hx:64*i+j<2^n:=by
   by_cases h6:6≤n
   ·have hi:i<2^(n-6):=by rw[←lX h6,←ha.len];exact h1
    have:2^n=64*2^(n-6):=by rw[show(64:Nat)=2^6 by rfl,←Nat.pow_add];congr 1;omega
    omega
   ·have hi:i<1:=by rw[←kA (show n<7 by omega),←ha.len];exact h1
    rw[if_neg h6]at hj;omega
  have:=h _ hx
  unfold bit at this
  rw[show(64*i+j) /64=i by omega,show(64*i+j)%64=j by omega]at this
  simpa[h1,h2]using this
 ·have hd:(bn n).testBit j=false:=by rw[gy];simpa using hj
  rw[←AU,←AT,Nat.testBit_and,Nat.testBit_and,hd];simp
def lI(v:Nat):Nat→Nat
 |0=>0
 |j+1=>lI v j|||(((j>>>v) &&&1)<<<j)
def mask(v:Nat):Nat:=lI v 64
theorem cq(m:Nat):m&&&1=if m.testBit 0 then 1 else 0:=by
 rw[Nat.and_one_is_mod,Nat.testBit_zero]
 rcases Nat.mod_two_eq_zero_or_one m with h|h<;>simp[h]
theorem gz(v:Nat):∀J k,(lI v J).testBit k=(decide (k<J) &&k.testBit v)
 |0,k=>by simp[lI]
 |J+1,k=>by
  rw[lI,Nat.testBit_or,gz v J k,cq,Nat.testBit_shiftRight,Nat.add_zero]
  by_cases e:k=J
  ·subst e
   cases hb:k.testBit v<;>simp[Nat.testBit_shiftLeft]
  ·have:((if(J.testBit v)=true then 1 else 0)<<<J).testBit k=false:=by
    rw[Nat.testBit_shiftLeft]
    split
    ·by_cases hk:J≤k
     ·have h1:Nat.testBit 1 (k-J)=false:=Nat.testBit_lt_two_pow (Nat.one_lt_two_pow (by omega))
      simp[hk,h1]
     ·simp[hk]
    ·simp
   rw[this]
   have:(decide (k<J+1))=decide (k<J):=by simp;omega
   rw[this];simp
theorem lH(v:Nat):∀J,lI v J<2^J
 |0=>by simp[lI]
 |J+1=>by
  have h1:=lH v J
  have h2:((J>>>v) &&&1)<<<J<2^(J+1):=by
   rw[cq,Nat.shiftLeft_eq]
   split
   ·rw[Nat.one_mul];exact Nat.pow_lt_pow_right (by decide) (by omega)
   ·rw[Nat.zero_mul];exact Nat.two_pow_pos _
  exact Nat.or_lt_two_pow (Nat.lt_of_lt_of_le h1 (Nat.pow_le_pow_right (by decide) (by omega))) h2
theorem cX(v k:Nat):(mask v).testBit k=(decide (k<64) &&k.testBit v):=gz v 64 k
theorem oM(v:Nat):mask v<18446744073709551616:=lH v 64
def gJ(ws:List Nat)(v:Nat)(b:Bool)(i:Nat):Nat:=
 if 6≤v then ws.getD (ah i (v-6) b) 0
 else if b then(ws.getD i 0&&&mask v)|||(ws.getD i 0&&&mask v)>>>2^v
 else eZ (ws.getD i 0) (mask v)|||(eZ (ws.getD i 0) (mask v)<<<2^v)%18446744073709551616
def dy(n:Nat)(ws:List Nat)(v:Nat)(b:Bool):List Nat:=(List.range (wN n)).map fun i=>gJ ws v b i&&&bn n
theorem c4{n v:Nat}{ws:List Nat}{b:Bool}(h:n≤16):dI n (dy n ws v b):=by
 refine⟨h,by simp[dy],fun w hw=>?_⟩
 obtain⟨i,_,rfl⟩:=List.mem_map.1 hw
 exact Nat.and_le_right
theorem ag(x v:Nat)(b:Bool)(k:Nat):(ah x v b).testBit k=if k=v then b else x.testBit k:=by
 unfold ah
 cases b<;>simp only[if_true,Bool.false_eq_true,if_false]
 ·rw[bA,Nat.testBit_two_pow]
  by_cases e:k=v
  ·simp[e]
  ·simp[e,Ne.symm e]
 ·rw[Nat.testBit_or,Nat.testBit_two_pow]
  by_cases e:k=v
  ·simp[e]
  ·simp[e,Ne.symm e]
theorem cO{x v n:Nat}{b:Bool}(hx:x<2^n)(hv:v<n):ah x v b<2^n:=by
 unfold ah
 split
 ·exact Nat.or_lt_two_pow hx (Nat.pow_lt_pow_right (by decide) hv)
 ·exact Nat.lt_of_le_of_lt (fm _ _) hx
theorem uE:∀v:Fin 6,∀j:Fin 64,(j.1.testBit v.1=true→ah j v true=j∧ah j v false=j-2^v.1∧2^v.1≤j.1∧(j.1+2^v.1).testBit v.1=false∧(j.1-2^v.1).testBit v.1=false)∧
  (j.1.testBit v.1=false→ah j v true=j.1+2^v.1∧j.1+2^v.1<64∧ah j v false=j∧(j.1+2^v.1).testBit v.1=true∧(2^v.1≤j.1→(j.1-2^v.1).testBit v.1=true)):=by decide+kernel
theorem fS{x v:Nat}{b:Bool}:(6≤v→ah x v b/64=ah (x/64) (v-6) b∧ah x v b%64=x%64)∧(v<6→ah x v b/64=x/64∧ah x v b%64=ah (x%64) v b):=by
 have vZ:∀y:Nat,y/64=y>>>6:=fun y=>by rw[Nat.shiftRight_eq_div_pow]
 have m64:∀y:Nat,y%64=y%2^6:=fun y=>rfl
 refine⟨fun h=>⟨?_,?_⟩,fun h=>⟨?_,?_⟩⟩<;>apply Nat.eq_of_testBit_eq<;>intro k
 ·rw[vZ,vZ,Nat.testBit_shiftRight,ag,ag,Nat.testBit_shiftRight]
  by_cases e:k=v-6
  ·rw[if_pos e,if_pos (by omega)]
  ·rw[if_neg e,if_neg (by omega)]
 ·rw[m64 (ah x v b),m64 x,Nat.testBit_mod_two_pow,Nat.testBit_mod_two_pow,ag]
  by_cases hk:k<6
  ·rw[if_neg (by omega)]
  ·simp[hk]
 ·rw[vZ,vZ,Nat.testBit_shiftRight,ag,Nat.testBit_shiftRight,if_neg (by omega)]
 ·rw[m64 (ah x v b),m64 x,Nat.testBit_mod_two_pow,ag,ag,Nat.testBit_mod_two_pow]
  by_cases e:k=v
  ·subst e;simp[h]
  ·simp[e]
theorem c7{n v x:Nat}{ws:List Nat}{b:Bool}(hf:dI n ws)(hv:v<n)(hx:x<2^n):bit (dy n ws v b) x=bit ws (ah x v b):=by
 have hi:=q5 hx
 unfold bit
 have uY:(dy n ws v b).getD (x/64) 0=gJ ws v b (x/64) &&&bn n:=by
  simp[dy,hi]
 rw[uY,Nat.testBit_and,gy]
 have AT:decide (x%64<if 6≤n then 64 else 2^n)=true:=by
  rw[decide_eq_true_eq]
  split
  ·exact Nat.mod_lt _ (by decide)
  ·have h1:2^n≤32:=Nat.pow_le_pow_right (n:=2) (by decide) (by omega:n≤5)
   omega
 rw[AT,Bool.and_true]
 unfold gJ
 by_cases h6:6≤v
 ·rw[if_pos h6,(fS.1 h6).1,(fS.1 h6).2]
 ·rw[if_neg h6]
  obtain⟨e1,e2⟩:=(fS (x:=x) (v:=v) (b:=b)).2 (by omega)
  rw[e1,e2]
  generalize hw:ws.getD (x/64) 0=w
  have yQ:w<2^64:=by
   rw[←hw]
   rw[List.getD_eq_getElem?_getD,List.getElem?_eq_getElem (by rw[hf.len];exact hi)]
   exact hf.lt (List.getElem_mem _)
  have hj:x%64<64:=Nat.mod_lt _ (by decide)
  generalize x%64=j at hj
  obtain⟨s1,s2⟩:=uE ⟨v,by omega⟩ ⟨j,hj⟩
  simp only at s1 s2
  cases b
  ·simp only[Bool.false_eq_true,if_false]
   rw[show(18446744073709551616:Nat)=2^64 by rfl,Nat.testBit_or,Nat.testBit_mod_two_pow,Nat.testBit_shiftLeft,bA,bA,cX,cX]
   cases hb:j.testBit v
   ·obtain⟨t1,t2,t3,t4,t5⟩:=s2 hb
    rw[t3]
    by_cases hle:2^v≤j
    ·have:=t5 hle
     have vZ:j-2^v<64:=Nat.lt_of_le_of_lt (Nat.sub_le _ _) hj
     simp[hj,this,vZ]
    ·simp[hj,hle]
   ·obtain⟨t1,t2,t3,t4,t5⟩:=s1 hb
    rw[t2]
    simp[hj,t3,t5]
  ·simp only[if_true]
   rw[Nat.testBit_or,Nat.testBit_and,Nat.testBit_shiftRight,Nat.testBit_and,cX,cX]
   cases hb:j.testBit v
   ·obtain⟨t1,t2,t3,t4,t5⟩:=s2 hb
    rw[t1,Nat.add_comm (2^v) j]
    simp[hj,t2,t4]
   ·obtain⟨t1,t2,t3,t4,t5⟩:=s1 hb
    rw[t1,Nat.add_comm (2^v) j]
    simp[hj,t4]
def dep(n:Nat)(ws:List Nat)(v:Nat):Bool:=decide (dy n ws v false≠dy n ws v true)
theorem kD(x v:Nat):ah x v (x.testBit v)=x:=by
 apply Nat.eq_of_testBit_eq;intro k
 rw[ag]
 by_cases e:k=v
 ·rw[if_pos e,e]
 ·rw[if_neg e]
theorem eV{n v:Nat}{ws:List Nat}{b:Bool}(hf:dI n ws)(hv:v<n)(h:dep n ws v=false):dy n ws v b=ws:=by
 have he:dy n ws v false=dy n ws v true:=by simpa[dep]using h
 have an:∀c d,dy n ws v c=dy n ws v d:=by intro c d;cases c<;>cases d<;>first|rfl|exact he|exact he.symm
 refine(c4 hf.nf).ext hf fun x hx=>?_
 rw[an b (x.testBit v),c7 hf hv hx,kD]
theorem lG{n v:Nat}{ws:List Nat}(hf:dI n ws)(hv:v<n):dep n ws v=true↔∃x,x<2^n∧bit ws (ah x v false)≠bit ws (ah x v true):=by
 constructor
 ·intro h
  refine Classical.byContradiction fun hno=>?_
  have:dy n ws v false=dy n ws v true:=(c4 hf.nf).ext (c4 hf.nf) fun x hx=>by
   rw[c7 hf hv hx,c7 hf hv hx]
   exact Classical.byContradiction fun hne=>hno ⟨x,hx,hne⟩
  simp[dep,this]at h
 ·rintro⟨x,hx,hne⟩
  simp only[dep,ne_eq,decide_eq_true_eq]
  intro he
  apply hne
  rw[←c7 hf hv hx,←c7 hf hv hx,he]
end af
namespace Go.Sx
open Go
inductive ay:Hp→Hp→Prop
 |refl (B:Hp):ay B B
 |cons {x:Nat×Obj} {B H:Hp} (h:ay B H):ay B (x::H)
 |app {N B H:Hp} (h:ay B H):ay B (N++H)
theorem ay.spec{B H:Hp}(h:ay B H):∃N,H=N++B:=by
 induction h with
 |refl=>exact⟨[],rfl⟩
 | @cons x B H h ih=>obtain⟨N,rfl⟩:=ih;exact⟨x::N,rfl⟩
 | @app M B H h ih=>obtain⟨N,rfl⟩:=ih;exact⟨M++N,by rw[List.append_assoc]⟩
theorem ay.sub{B H:Hp}(h:ay B H):∀x∈B,x∈H:=by
 obtain⟨N,rfl⟩:=h.spec;exact fun x hx=>List.mem_append_right _ hx
theorem ay.ur{B H:Hp}(h:ay B H):aM H B:=by
 obtain⟨N,rfl⟩:=h.spec;exact aM.right
section
variable {P:Program} {g:Gh} {H:Hp}
def Px(P:Program)(f:FuncId)(args:Array Value)(B:Hp)(Q:Value→Hp→Prop):Prop:=Fc P f args B (fun v H=>ay B H∧Q v H)
theorem ai.px{f:FuncId}{args:Array Value}{B H:Hp}{c:Hp→Hp}{Q:Value→Hp→Prop}{K:Value→Hp→Prop}{KP:List PanicEntry→Hp→Prop}(hh:fA B H c)(hc:Px P f args B Q)
 (hk:∀v N,Q v (N++B)→K v (c (N++B))):ai P g f args H K KP:=
 ai.fn hh hc fun v C' ⟨h1,h2⟩=>by obtain⟨N,rfl⟩:=h1.spec;exact hk v N h2
theorem ai.pre{f:FuncId}{args:Array Value}{H':Hp}{K:Value→Hp→Prop}{KP:List PanicEntry→Hp→Prop}(he:aM H H')(h:ai P g f args H' K KP):ai P g f args H K KP:=aj.pre h he
theorem aM.swap{x y:Nat×Obj}{A:Hp}:aM (x::y::A) (y::x::A):=.perm (.swap _ _ _)
theorem iy.mk{Q:Value→Hp→Prop}{v:Value}{B H:Hp}(he:ay B H)(h:Q v H):cx (fun v H=>ay B H∧Q v H) (.returned v) H:=⟨v,H,rfl,.refl _,he,h⟩
theorem e7.mk{Q:Value→Prop}{v:Value}{B H:Hp}(he:aM H B)(h:Q v):cx (fun v H=>H=B∧Q v) (.returned v) H:=⟨v,B,rfl,he,rfl,h⟩
def aC(kd:IntKind)(l:List Int):Array Value:=(l.map fun n=>Value.int kd n).toArray
theorem nD(kd:IntKind)(l:List Int)(i:Nat)(n:Int):(aC kd l).setIfInBounds i (.int kd n)=aC kd (l.set i n):=by
 simp[aC,List.map_set]
@[simp] theorem tR(kd:IntKind)(l:List Int):(aC kd l).size=l.length:=by simp[aC]
theorem pD(kd:IntKind)(n:Nat):madeCells (Value.cells (.int kd 0)) (n*1)=aC kd (List.replicate n 0):=by
 apply Array.ext
 ·simp[madeCells,aC]
 ·intro i h1 h2
  simp[madeCells,aC,Value.cells,Nat.mod_one]
def da(kd:IntKind)(B:Hp)(v:Value)(l:List Int):Prop:=Sl 1 B v (l.map fun n=>[Value.int kd n])
theorem da.mono{kd:IntKind}{B B':Hp}{v:Value}{l:List Int}(h:da kd B v l)(hs:∀x∈B,x∈B'):da kd B' v l:=Sl.mono h hs
theorem da.nil{kd:IntKind}{B:Hp}:da kd B (.slice none 0 0) []:=Sl.nil _ _
theorem da.bQ{kd:IntKind}{B:Hp}{v:Value}{l:List Int}(h:da kd B v l){K:Value→Prop}(hk:K (.int .i64 l.length)):aB v K:=Sl.bQ h (by simpa using hk)
theorem da.block{kd:IntKind}{B:Hp}{b cap:Nat}{l:List Int}{T:TypeId}{fz:Nat×Nat}(hm:(b,Obj.cells (aC kd l) T fz)∈B)(hc:l.length≤cap):da kd B (.slice (some ⟨b,0,none⟩) l.length cap) l:=by
 refine⟨by simp,.inr ⟨b,0,cap,_,T,fz,by simp,by simpa using hc,hm,by simp[aC],fun i r hi j v hj=>?_⟩⟩
 rw[List.getElem?_map]at hi
 cases hl:l[i]? with
 |none=>rw[hl]at hi;simp at hi
 |some n=>
  rw[hl]at hi
  simp only[Option.map_some,Option.some.injEq]at hi
  subst hi
  cases j with
  |zero=>
   simp only[List.getElem?_cons_zero,Option.some.injEq]at hj
   subst hj
   simp[aC,hl]
  |succ j=>simp at hj
theorem da.at{kd s3:IntKind}{B:Hp}{v:Value}{l:List Int}(h:da kd B v l){i:Nat}{n:Int}(hi:l[i]? =some n){K:Value→Prop}(hk:∀p,At B p [.int kd n]→K p):ak 1 v (.int s3 (i:Int)) K:=
 ak.sl h (by rw[List.getElem?_map,hi];rfl) hk
theorem da.ld{kd s3:IntKind}{B:Hp}{v:Value}{l:List Int}(h:da kd B v l){i:Nat}{n:Int}(hi:l[i]? =some n)(hs:∀x∈B,x∈H){K:Value→Prop}(hk:K (.int kd n)):ak 1 v (.int s3 (i:Int)) (fun p=>Ld H p K):=
 h.at hi fun p hp=>Ld.at hp hs hk
theorem c8.ints{T:TypeId}{kd kl:IntKind}{bytes n:Nat}{K:Value→Hp→Prop}(bR:n≤9223372036854775807)(hb:n*bytes≤281474976710656)
 (h:∀b,K (.slice (some ⟨b,0,none⟩) n n) ((b,.cells (aC kd (List.replicate n 0)) T (0,0))::H)):c8 T 1 bytes (.int kd 0) H (.int kl n) (.int kl n) K:=
 ⟨kl,kl,n,n,rfl,rfl,Nat.le_refl _,by omega,hb,fun b _=>by rw[pD];exact h b⟩
theorem St.ints{b i:Nat}{kd:IntKind}{l:List Int}{x:Int}{T:TypeId}{H':Hp}{K:Hp→Prop}(hu:br b (.cells (aC kd l) T (0,0)) (.cells (aC kd (l.set i x)) T (0,0)) H H')(hi:i<l.length)(h:K H'):
  St 1 H (.pointer (some ⟨b,0+i*1,none⟩)) (.int kd x) K:=
 St.one (c:=aC kd l) (c':=aC kd (l.set i x)) hu rfl (by simpa using hi) (by rw[Nat.zero_add,Nat.mul_one];exact nD kd l i x) h
end
def dD:List Value→Nat→Nat
 | .int _ q::_,0=>q.toNat
 |_::r,i+1=>dD r i
 |_,_=>0
structure Tb where
 n:Int
 ws:List Nat
 deriving DecidableEq
def iw(ws:List Nat):List Int:=ws.map (Nat.cast:Nat→Int)
@[simp] theorem bP(ws:List Nat):(iw ws).length=ws.length:=by simp[iw]
theorem eP{ws:List Nat}{i w:Nat}(h:ws[i]? =some w):(iw ws)[i]? =some (w:Int):=by simp[iw,h]
def Words(B:Hp)(s:Value)(ws:List Nat):Prop:=da .u64 B s (iw ws)∧∀w∈ws,w<18446744073709551616
theorem Words.mono{B B':Hp}{v:Value}{ws:List Nat}(h:Words B v ws)(hs:∀x∈B,x∈B'):Words B' v ws:=⟨h.1.mono hs,h.2⟩
theorem Words.block{B:Hp}{b cap:Nat}{ws:List Nat}{T:TypeId}{fz:Nat×Nat}(hm:(b,Obj.cells (aC .u64 (iw ws)) T fz)∈B)(hc:ws.length≤cap)(hw:∀w∈ws,w<18446744073709551616):Words B (.slice (some ⟨b,0,none⟩) ws.length cap) ws:=by
 have:=da.block (cap:=cap) hm (by simpa using hc)
 rw[bP]at this
 exact⟨this,hw⟩
def mX(B:Hp)(v:Value)(t:Tb):Prop:=∃s,v=.agg #[.int .i64 t.n,s]∧Words B s t.ws
theorem mX.mono{B B':Hp}{v:Value}{t:Tb}(h:mX B v t)(hs:∀x∈B,x∈B'):mX B' v t:=let ⟨s,h1,h2⟩:=h;⟨s,h1,h2.mono hs⟩
def nS(B:Hp)(r:List Value)(t:Tb):Prop:=∃s,r=[.int .i64 t.n,s]∧Words B s t.ws
theorem nS.mono{B B':Hp}{r:List Value}{t:Tb}(h:nS B r t)(hs:∀x∈B,x∈B'):nS B' r t:=let ⟨s,h1,h2⟩:=h;⟨s,h1,h2.mono hs⟩
def gR{α:Type}(p:List Value→α→Prop)(rs:List (List Value))(l:List α):Prop:=rs.length=l.length∧∀(i:Nat) (r:List Value) (x:α),rs[i]? =some r→l[i]? =some x→p r x
theorem gR.nil{α:Type}{p:List Value→α→Prop}:gR p [] []:=⟨rfl,by simp⟩
theorem gR.get{α:Type}{p:List Value→α→Prop}{rs:List (List Value)}{l:List α}(h:gR p rs l){i:Nat}{x:α}(hx:l[i]? =some x):∃r,rs[i]? =some r∧p r x:=by
 have hlt:=(List.getElem?_eq_some_iff.1 hx).1
 have:i<rs.length:=by rw[h.1];exact hlt
 exact⟨rs[i],List.getElem?_eq_getElem this,h.2 i _ _ (List.getElem?_eq_getElem this) hx⟩
theorem gR.mono{α:Type}{p q:List Value→α→Prop}{rs:List (List Value)}{l:List α}(h:gR p rs l)(hpq:∀r x,p r x→q r x):gR q rs l:=⟨h.1,fun i r x h1 h2=>hpq _ _ (h.2 i r x h1 h2)⟩
theorem gR.snoc{α:Type}{p:List Value→α→Prop}{rs:List (List Value)}{l:List α}(h:gR p rs l){r:List Value}{x:α}(hx:p r x):gR p (rs++[r]) (l++[x]):=by
 refine⟨by simp[h.1],fun i r' x' h1 h2=>?_⟩
 by_cases e:i<l.length
 ·rw[List.getElem?_append_left e]at h2
  rw[List.getElem?_append_left (by rw[h.1];exact e)]at h1
  exact h.2 i _ _ h1 h2
 ·rw[List.getElem?_append_right (by omega)]at h2
  rw[List.getElem?_append_right (by rw[h.1];omega),h.1]at h1
  cases hi:i-l.length with
  |zero=>rw[hi]at h1 h2;simp at h1 h2;subst h1;subst h2;exact hx
  |succ k=>rw[hi]at h2;simp at h2
def bN(B:Hp)(v:Value)(ts:List Tb):Prop:=∃rs,Sl 2 B v rs∧gR (nS B) rs ts
theorem bN.mono{B B':Hp}{v:Value}{ts:List Tb}(h:bN B v ts)(hs:∀x∈B,x∈B'):bN B' v ts:=let ⟨rs,h1,h2⟩:=h;⟨rs,h1.mono hs,h2.mono fun _ _ h=>h.mono hs⟩
theorem bN.bQ{B:Hp}{v:Value}{ts:List Tb}(h:bN B v ts){K:Value→Prop}(hk:K (.int .i64 ts.length)):aB v K:=by
 obtain⟨rs,h1,h2⟩:=h;refine h1.bQ ?_;have:=h2.1;rw[this];exact hk
theorem bN.ld{B H:Hp}{v:Value}{ts:List Tb}{kd:IntKind}(h:bN B v ts){i:Nat}{t:Tb}(hi:ts[i]? =some t)(hs:∀x∈B,x∈H){K:Value→Prop}(hk:∀s,Words B s t.ws→K (.agg #[.int .i64 t.n,s])):ak 2 v (.int kd (i:Int)) (fun p=>aO 2 H p K):=by
 obtain⟨rs,h1,h2⟩:=h
 obtain⟨r,hr,s,rfl,hw⟩:=h2.get hi
 exact ak.sl h1 hr fun p hp=>aO.at hp rfl (by decide) hs (hk s hw)
theorem bN.uH{B H:Hp}{v:Value}{ts:List Tb}{kd:IntKind}(h:bN B v ts){i:Nat}{t:Tb}(hi:ts[i]? =some t)(hs:∀x∈B,x∈H){K:Value→Prop}(hk:K (.int .i64 t.n)):ak 2 v (.int kd (i:Int)) (fun p=>ae 0 p (fun q=>Ld H q K)):=by
 obtain⟨rs,h1,h2⟩:=h
 obtain⟨r,hr,s,rfl,hw⟩:=h2.get hi
 exact ak.sl h1 hr fun p hp=>ae.at hp fun q hq=>Ld.at hq hs hk
theorem bN.one{B:Hp}{b cap:Nat}{t:Tb}{s:Value}{T:TypeId}{fz:Nat×Nat}(hm:(b,Obj.cells #[.int .i64 t.n,s] T fz)∈B)(hw:Words B s t.ws):bN B (.slice (some ⟨b,0,none⟩) 1 (cap+1)) [t]:=by
 refine⟨[[.int .i64 t.n,s]],⟨by simp,.inr ⟨b,0,cap+1,_,T,fz,rfl,by simp,hm,by simp,fun i r hi j v hj=>?_⟩⟩,rfl,fun i r x h1 h2=>?_⟩
 ·cases i with
  |zero=>simp at hi;subst hi;simpa using hj
  |succ i=>simp at hi
 ·cases i with
  |zero=>simp at h1 h2;subst h1;subst h2;exact⟨s,rfl,hw⟩
  |succ i=>simp at h1
def TF(t:Tb):Prop:=0≤t.n∧af.dI t.n.toNat t.ws
instance (t:Tb):Decidable (TF t):=by unfold TF;infer_instance
end Go.Sx
namespace Go.Sx
open Go Go.RowKit
section
variable {P:Program}
def whole(W:World):Hp:=(List.range W.heap.size).map fun i=>(i,W.heap.getD i default)
theorem py(W:World):Own ⟨W,[]⟩ (whole W) W:=by
 refine⟨rfl,rfl,rfl,?_,?_⟩
 ·have:(whole W).map Prod.fst=List.range W.heap.size:=by
   unfold whole
   rw[List.map_map]
   have:(Prod.fst∘fun i=>(i,W.heap.getD i default))=id:=by funext i;rfl
   rw[this,List.map_id]
  rw[List.append_nil,this];exact List.nodup_range
 ·intro x hx
  rw[List.append_nil]at hx
  obtain⟨i,hi,rfl⟩:=List.mem_map.1 hx
  have:=List.mem_range.1 hi
  simp[Array.getD_eq_getD_getElem?,this]
theorem kE{W:World}{b:Nat}{o:Obj}(h:W.heap[b]? =some o):(b,o)∈whole W:=by
 have hlt:=(Array.getElem?_eq_some_iff.1 h).1
 exact List.mem_map.2 ⟨b,List.mem_range.2 hlt,by simp[Array.getD_eq_getD_getElem?,h]⟩
theorem Own.below{W W':World}(h:Own ⟨W,[]⟩ (whole W) W'):Below W.heap.size W W':=by
 have hb:∀k,k<W.heap.size→W'.heap[k]? =W.heap[k]? :=fun k hk=>by
  have:=h.has (k,W.heap.getD k default) (List.mem_map.2 ⟨k,List.mem_range.2 hk,rfl⟩)
  simp only at this
  rw[this];simp[Array.getD_eq_getD_getElem?,hk]
 refine⟨h.os,h.tape,h.out,?_,hb⟩
 rcases Nat.eq_zero_or_pos W.heap.size with h0|h0
 ·omega
 ·have:=hb (W.heap.size-1) (by omega)
  rw[show W.heap[W.heap.size-1]? =some (W.heap[W.heap.size-1]'(by omega))from Array.getElem?_eq_getElem (by omega)]at this
  have:=(Array.getElem?_eq_some_iff.1 this).1
  omega
theorem pF{f:FuncId}{args:Array Value}{W:World}(h:aj P ⟨W,[]⟩ f args (whole W) (fun e H'=>e=.returned (.bool true)∧aM H' (whole W))):
  Calls P f args W fun e W'=>e=.returned (.bool true)∧Below W.heap.size W W':=
 (h W (py W)).mono fun e W' ⟨H',ho,he,lz⟩=>⟨he,(lz _ _ ho).below⟩
theorem uI{f:FuncId}{args:Array Value}{W:World}(h:Px P f args (whole W) (fun v _=>v=.bool true)):
  Calls P f args W fun e W'=>e=.returned (.bool true)∧Below W.heap.size W W':=
 pF ((h ⟨W,[]⟩).post fun e H' ⟨v,C,he,lz,hg,hv⟩=>⟨H',.refl _,by rw[he,hv],lz.trans hg.ur⟩)
section
variable {H:Type} {enc:TypeId×Value→H}
open Go.ChangeShapes Go.WideShapes Go.ChangeAt Go.RowKit
theorem fC(hl:laidOutB P=true){W W':World}{sp:Nat→Bool}(hb:Below W.heap.size W W'):∀(ts:List TypeId) (vs:List Value) (ds:List (DataW H)) (ps:List MemPlace),
  (∀t∈ts,P.readableRec t=true∧t<P.types.size)→DataW.TrodAll enc P W 0 (fun _=>true) true ts vs ds ps→(∀x∈ps,x.block<W.heap.size)→(∀x∈ps,sp x.block=true)→DataW.TrodAll enc P W' 0 sp true ts vs ds ps
 | [],vs,ds,ps,_,h,_,_=>by
  obtain⟨rfl,rfl,rfl⟩:=trodAll_nil h;exact trodAll_mk0
 |t::ts,vs,ds,ps,hr,h,hlt,hsp=>by
  obtain⟨v,vs',d,ds',p,q,rfl,rfl,rfl,h0,h1⟩:=trodAll_cons h
  have ht:=hr t (by simp)
  exact trodAll_cons_mk (WideElems.Trod_stays hl ht.1 ht.2 h0 (fun x hx=>hb.same (hlt x (by simp[hx]))) (fun x hx=>hsp x (by simp[hx])))
   (fC hl hb ts vs' ds' q (fun t' h'=>hr t' (by simp[h'])) h1 (fun x hx=>hlt x (by simp[hx])) (fun x hx=>hsp x (by simp[hx])))
theorem q8{f:Func}{s:ChangeSpec}{W W':World}{args:Array Value}{ds gs:List (DataW H)}{before:List MemPlace}{tb:TypeId}(hvars:s.vars=[])
 (hW:DataW.Whole enc P f.params.toList s.vars false W args.toList ds gs before)(hs:s.fn H (ds++gs)={results:=[.lit (.bool true)],args:=ds})(hb:Below W.heap.size W W')
 (hl:laidOutB P=true)(hr:∀t∈f.params.toList,P.readableRec t=true∧t<P.types.size)(Em:f.resultTypes=#[tb])(xQ:P.underlying tb=some .bool):
  s.post enc P f false true false false W args (.bool true) W':=by
 have ze:=hW
 have hlt:=hW.lt
 obtain⟨p,q,hA,hV,rfl,hfz,pJ⟩:=hW
 rw[hvars]at hV
 obtain⟨rfl,rfl⟩:=trodVars_none hV
 refine⟨ds,_,_,[],p,[],ze,?_,?_,?_,World.keptBut_mono (fun p hp=>⟨hp,?_⟩) (hb.frame (· ∈p++[])),fun h=>by cases h⟩
 ·rw[hs,Em];exact trodAll_cons_mk (shut_bool xQ _) trodAll_mk0
 ·rw[hs]
  exact fC hl hb _ _ _ _ hr hA (fun x hx=>hlt x (by simp[hx])) (fun x hx=>by simpa using hlt x (by simp[hx]))
 ·rw[hvars,hs];rfl
 ·right;simpa using hp
end
end
end Go.Sx
namespace Go.Sx
open Go
section
variable {κ β:Type} [DecidableEq κ]
structure aU(ke:κ→Value)(vr:Value→β→Prop)(es:Array MapEntry)(ck:Nat)(m:List (κ×β)):Prop where
 len:es.size=m.length
 key:∀(i:Nat) (e:MapEntry) (x:κ×β),es[i]? =some e→m[i]? =some x→e.key=ke x.1∧vr e.val x.2
 nd:(m.map Prod.fst).Nodup
 born:(es.toList.map MapEntry.born).Nodup
 lt:∀e∈es.toList,e.born<ck
variable {ke:κ→Value} {vr:Value→β→Prop} {es:Array MapEntry} {ck:Nat} {m:List (κ×β)}
theorem aU.empty:aU ke vr #[] 0 []:=⟨rfl,by simp,by simp,by simp,by simp⟩
theorem aU.mono{Ci:Value→β→Prop}(h:aU ke vr es ck m)(hv:∀v x,vr v x→Ci v x):aU ke Ci es ck m:=⟨h.len,fun i e x h1 h2=>⟨(h.key i e x h1 h2).1,hv _ _ (h.key i e x h1 h2).2⟩,h.nd,h.born,h.lt⟩
def dV(m:List (κ×β))(k:κ)(x:β):List (κ×β):=if k∈m.map Prod.fst then m.map (fun y=>if y.1=k then(k,x)else y)else m++[(k,x)]
def fq(m:List (κ×β))(k:κ):Option β:=(m.find? (fun y=>y.1=k)).map Prod.snd
theorem jy{m:List (κ×β)}{k:κ}{x:β}(nd:(m.map Prod.fst).Nodup):fq m k=some x↔(k,x)∈m:=by
 induction m with
 |nil=>simp[fq]
 |cons y r ih=>
  rw[List.map_cons,List.nodup_cons]at nd
  obtain⟨a,b⟩:=y
  simp only[fq,List.find?_cons]at ih⊢
  by_cases e:a=k
  ·subst e
   simp only[decide_true,Option.map_some,Option.some.injEq,List.mem_cons,Prod.mk.injEq,true_and]
   constructor
   ·intro h;exact .inl h.symm
   ·rintro(h|h)
    ·exact h.symm
    ·exact absurd (List.mem_map.2 ⟨_,h,rfl⟩) nd.1
  ·simp only[e,decide_false,List.mem_cons,Prod.mk.injEq,Ne.symm e,false_and,false_or]
   exact ih nd.2
theorem dX{m:List (κ×β)}{k:κ}:fq m k=none↔k∉m.map Prod.fst:=by
 simp only[fq,Option.map_eq_none_iff,List.find?_eq_none,decide_eq_true_eq,List.mem_map,not_exists,not_and]
theorem aU.findNow{kd:TypeDesc}(hk:∀a b,Instr.sameNow kd (ke a) (ke b)=some (decide (a=b)))(h:aU ke vr es ck m)(k:κ):
  (∃(i:Nat) (x:β) (e:MapEntry),es[i]? =some e∧m[i]? =some (k,x)∧vr e.val x∧Instr.findNow kd (ke k) es.toList 0=some (some (i,e.val)))∨(k∉m.map Prod.fst∧Instr.findNow kd (ke k) es.toList 0=some none):=by
 have key:∀(l:List MapEntry) (q:List (κ×β)) (j:Nat),l.length=q.length→(∀(i:Nat) (e:MapEntry) (x:κ×β),l[i]? =some e→q[i]? =some x→e.key=ke x.1∧vr e.val x.2)→
   (∃(i:Nat) (x:β) (e:MapEntry),l[i]? =some e∧q[i]? =some (k,x)∧vr e.val x∧Instr.findNow kd (ke k) l j=some (some (j+i,e.val)))∨(k∉q.map Prod.fst∧Instr.findNow kd (ke k) l j=some none):=by
  intro l
  induction l with
  |nil=>intro q j hl _;cases q with|nil=>exact .inr ⟨by simp,rfl⟩|cons a b=>simp at hl
  |cons e r ih=>
   intro q j hl hkey
   cases q with
   |nil=>simp at hl
   |cons y q=>
    obtain⟨h1,h2⟩:=hkey 0 e y rfl rfl
    simp only[Instr.findNow,h1,hk]
    by_cases e0:k=y.1
    ·subst e0
     exact .inl ⟨0,y.2,e,rfl,rfl,h2,by simp⟩
    ·rw[decide_eq_false e0]
     rcases ih q (j+1) (by simpa using hl) (fun i e x h1 h2=>hkey (i+1) e x (by simpa using h1) (by simpa using h2))with⟨i,x,e',g1,g2,g3,g4⟩|⟨g1,g2⟩
     ·exact .inl ⟨i+1,x,e',by simpa using g1,by simpa using g2,g3,by simp only[g4];rw[show j+1+i=j+(i+1)by omega]⟩
     ·exact .inr ⟨by rw[List.map_cons,List.mem_cons];rintro(h|h);exact e0 h;exact g1 h,by simpa using g2⟩
 have:=key es.toList m 0 (by simpa using h.len) (fun i e x h1 h2=>h.key i e x (by simpa using h1) h2)
 rcases this with⟨i,x,e,g1,g2,g3,g4⟩|h2
 ·exact .inl ⟨i,x,e,by simpa using g1,g2,g3,by simpa using g4⟩
 ·exact .inr h2
theorem aU.rO{P:Program}{kt:TypeId}(hk:∀a b,tI P kt (ke a) (ke b) (decide (a=b)))(h:aU ke vr es ck m)(k:κ):
  (∃(i:Nat) (x:β) (e:MapEntry),es[i]? =some e∧m[i]? =some (k,x)∧vr e.val x∧eC P kt (ke k) es.toList 0 (some (i,e.val)))∨(k∉m.map Prod.fst∧eC P kt (ke k) es.toList 0 none):=by
 have key:∀(l:List MapEntry) (q:List (κ×β)) (j:Nat),l.length=q.length→(∀(i:Nat) (e:MapEntry) (x:κ×β),l[i]? =some e→q[i]? =some x→e.key=ke x.1∧vr e.val x.2)→
   (∃(i:Nat) (x:β) (e:MapEntry),l[i]? =some e∧q[i]? =some (k,x)∧vr e.val x∧eC P kt (ke k) l j (some (j+i,e.val)))∨(k∉q.map Prod.fst∧eC P kt (ke k) l j none):=by
  intro l
  induction l with
  |nil=>intro q j hl _;cases q with|nil=>exact .inr ⟨by simp,rfl⟩|cons a b=>simp at hl
  |cons e r ih=>
   intro q j hl hkey
   cases q with
   |nil=>simp at hl
   |cons y q=>
    obtain⟨h1,h2⟩:=hkey 0 e y rfl rfl
    have hb:=hk k y.1
    rw[←h1]at hb
    by_cases e0:k=y.1
    ·refine .inl ⟨0,y.2,e,rfl,by rw[e0];rfl,h2,?_⟩
     exact⟨_,hb,fun _=>by simp,fun h=>by simp[e0]at h⟩
    ·rcases ih q (j+1) (by simpa using hl) (fun i e x h1 h2=>hkey (i+1) e x (by simpa using h1) (by simpa using h2))with⟨i,x,e',g1,g2,g3,g4⟩|⟨g1,g2⟩
     ·refine .inl ⟨i+1,x,e',by simpa using g1,by simpa using g2,g3,_,hb,fun h=>by simp[e0]at h,fun _=>?_⟩
      rw[show j+(i+1)=j+1+i by omega];exact g4
     ·exact .inr ⟨by rw[List.map_cons,List.mem_cons];rintro(h|h);exact e0 h;exact g1 h,_,hb,fun h=>by simp[e0]at h,fun _=>g2⟩
 have:=key es.toList m 0 (by simpa using h.len) (fun i e x h1 h2=>h.key i e x (by simpa using h1) h2)
 rcases this with⟨i,x,e,g1,g2,g3,g4⟩|h2
 ·exact .inl ⟨i,x,e,by simpa using g1,g2,g3,by simpa using g4⟩
 ·exact .inr h2
theorem aU.put(h:aU ke vr es ck m){i:Nat}{k:κ}{y x:β}{val:Value}(hi:m[i]? =some (k,y))(hv:vr val x):aU ke vr (es.modify i fun e=>{e with key:=ke k,val}) ck (dV m k x):=by
 have hmem:k∈m.map Prod.fst:=List.mem_map.2 ⟨_,List.mem_of_getElem? hi,rfl⟩
 have hlt:=(List.getElem?_eq_some_iff.1 hi).1
 have wV:∀j z,m[j]? =some z→z.1=k→j=i:=fun j z hj hz=>by
  have hj':=(List.getElem?_eq_some_iff.1 hj).1
  have e1:(m.map Prod.fst)[j]? =some k:=by rw[List.getElem?_map,hj];simp[hz]
  have e2:(m.map Prod.fst)[i]? =some k:=by rw[List.getElem?_map,hi];rfl
  exact(List.getElem?_inj (by simpa using hj') h.nd).1 (e1.trans e2.symm)
 have hb:((es.modify i fun e=>{e with key:=ke k,val}).toList.map MapEntry.born)=es.toList.map MapEntry.born:=by
  apply List.ext_getElem?;intro j
  simp only[List.getElem?_map,Array.getElem?_toList,Array.getElem?_modify]
  split
  ·cases es[j]? <;>rfl
  ·rfl
 refine⟨by simp[dV,hmem,h.len],fun j e z he hz=>?_,?_,by rw[hb];exact h.born,fun e he=>?_⟩
 ·simp only[dV,hmem,if_true,List.getElem?_map]at hz
  rw[Array.getElem?_modify]at he
  cases hm:m[j]? with
  |none=>rw[hm]at hz;simp at hz
  |some z0=>
   rw[hm]at hz
   simp only[Option.map_some,Option.some.injEq]at hz
   cases xI:es[j]? with
   |none=>rw[xI]at he;split at he<;>simp at he
   |some e0=>
    rw[xI]at he
    by_cases ek:z0.1=k
    ·have:=wV j z0 hm ek
     subst this
     rw[if_pos ek]at hz;subst hz
     simp only[if_true,Option.map_some,Option.some.injEq]at he
     subst he;exact⟨rfl,hv⟩
    ·rw[if_neg ek]at hz;subst hz
     rw[if_neg (fun e=>by subst e;rw[hi]at hm;cases hm;exact ek rfl)]at he
     simp only[Option.some.injEq]at he
     subst he;exact h.key j _ _ xI hm
 ·have:(dV m k x).map Prod.fst=m.map Prod.fst:=by
   simp only[dV,hmem,if_true,List.map_map]
   apply List.map_congr_left
   intro z _
   simp only[Function.comp]
   split
   ·rename_i hz;exact hz.symm
   ·rfl
  rw[this];exact h.nd
 ·have:e.born∈(es.modify i fun e=>{e with key:=ke k,val}).toList.map MapEntry.born:=List.mem_map_of_mem he
  rw[hb]at this
  obtain⟨e0,h1,h2⟩:=List.mem_map.1 this
  rw[←h2];exact h.lt e0 h1
theorem aU.more(h:aU ke vr es ck m){k:κ}{x:β}{val:Value}(hk:k∉m.map Prod.fst)(hv:vr val x):aU ke vr (es.push {key:=ke k,val,born:=ck}) (ck+1) (dV m k x):=by
 have hs:dV m k x=m++[(k,x)]:=by unfold dV;rw[if_neg hk]
 rw[hs]
 refine⟨by simp[h.len],fun j e z he hz=>?_,?_,?_,fun e he=>?_⟩
 ·by_cases hj:j<m.length
  ·rw[List.getElem?_append_left hj]at hz
   rw[Array.getElem?_push,if_neg (by rw[h.len];omega)]at he
   exact h.key j _ _ he hz
  ·have tY:=(List.getElem?_eq_some_iff.1 hz).1
   simp only[List.length_append,List.length_cons,List.length_nil]at tY
   have:j=m.length:=by omega
   subst this
   rw[List.getElem?_append_right (Nat.le_refl _)]at hz
   simp at hz;subst hz
   rw[Array.getElem?_push,if_pos h.len.symm]at he
   simp at he;subst he
   exact⟨rfl,hv⟩
 ·rw[List.map_append,List.nodup_append]
  refine⟨h.nd,by simp,fun a ha b hb=>?_⟩
  simp at hb;subst hb;rintro rfl;exact hk ha
 ·rw[Array.toList_push,List.map_append,List.nodup_append]
  refine⟨h.born,by simp,fun a ha b hb=>?_⟩
  simp at hb;subst hb
  obtain⟨e,he,rfl⟩:=List.mem_map.1 ha
  have:=h.lt e he;omega
 ·rw[Array.toList_push,List.mem_append]at he
  rcases he with he|he
  ·have:=h.lt e he;omega
  ·simp at he;subst he;simp
variable {H:Hp} {b:Nat}
theorem aU.hit{kd:TypeDesc}{zero:Value}{ok:Bool}{k:κ}{x:β}{K:Value→Prop}(hk:∀a b,Instr.sameNow kd (ke a) (ke b)=some (decide (a=b)))(h:aU ke vr es ck m)(hm:(b,Obj.map es ck)∈H)(hx:fq m k=some x)
 (h1:∀v,vr v x→K (cond ok (.tuple #[v,.bool true]) v)):e9 kd zero ok H (.map (some b)) (ke k) K:=by
 rcases h.findNow hk k with⟨i,y,e,g1,g2,g3,g4⟩|⟨g1,g2⟩
 ·have:fq m k=some y:=(jy h.nd).2 (List.mem_of_getElem? g2)
  rw[hx]at this;cases this
  exact⟨es,_,.inr ⟨b,ck,rfl,hm⟩,g4,h1 _ g3⟩
 ·rw[dX.2 g1]at hx;cases hx
theorem aU.aR{kd:TypeDesc}{zero:Value}{ok:Bool}{k:κ}{K:Value→Prop}(hk:∀a b,Instr.sameNow kd (ke a) (ke b)=some (decide (a=b)))(h:aU ke vr es ck m)(hm:(b,Obj.map es ck)∈H)(hx:fq m k=none)
 (h1:K (cond ok (.tuple #[zero,.bool false]) zero)):e9 kd zero ok H (.map (some b)) (ke k) K:=by
 rcases h.findNow hk k with⟨i,y,e,g1,g2,g3,g4⟩|⟨g1,g2⟩
 ·exact absurd (List.mem_map.2 ⟨_,List.mem_of_getElem? g2,rfl⟩) (dX.1 hx)
 ·exact⟨es,_,.inr ⟨b,ck,rfl,hm⟩,g2,h1⟩
theorem aU.bF{kd:TypeDesc}{k:κ}{x:β}{val:Value}{K:Hp→Prop}(hk:∀a b,Instr.sameNow kd (ke a) (ke b)=some (decide (a=b)))(hb:∀a,Instr.sameBits 10000 (ke a) (ke a)=true)(h:aU ke vr es ck m)(hv:vr val x)
 (h1:∀es' ea,aU ke vr es' ea (dV m k x)→∃H',br b (.map es ck) (.map es' ea) H H'∧K H'):cM kd H (.map (some b)) (ke k) val K:=by
 rcases h.findNow hk k with⟨i,y,e,g1,g2,g3,g4⟩|⟨g1,g2⟩
 ·refine⟨b,es,ck,_,rfl,g4,fun e' he'=>?_,by rw[h.len];exact(List.getElem?_eq_some_iff.1 g2).1,h1 _ _ (h.put g2 hv)⟩
  rw[(h.key i e' _ he' g2).1];exact hb k
 ·exact⟨b,es,ck,_,rfl,g2,h1 _ _ (h.more g1 hv)⟩
theorem aU.AN{P:Program}{kt:TypeId}{zero:Value}{ok:Bool}{k:κ}{x:β}{K:Value→Prop}(hk:∀a b,tI P kt (ke a) (ke b) (decide (a=b)))(hc:∀a,kx P kt (ke a))(h:aU ke vr es ck m)(hm:(b,Obj.map es ck)∈H)(hx:fq m k=some x)
 (h1:∀v,vr v x→K (cond ok (.tuple #[v,.bool true]) v)):gQ P kt zero ok H (.map (some b)) (ke k) K:=by
 rcases h.rO hk k with⟨i,y,e,g1,g2,g3,g4⟩|⟨g1,g2⟩
 ·have:fq m k=some y:=(jy h.nd).2 (List.mem_of_getElem? g2)
  rw[hx]at this;cases this
  exact⟨es,_,.inr ⟨b,ck,rfl,hm⟩,hc k,g4,h1 _ g3⟩
 ·rw[dX.2 g1]at hx;cases hx
theorem aU.wL{P:Program}{kt:TypeId}{zero:Value}{ok:Bool}{k:κ}{K:Value→Prop}(hk:∀a b,tI P kt (ke a) (ke b) (decide (a=b)))(hc:∀a,kx P kt (ke a))(h:aU ke vr es ck m)(hm:(b,Obj.map es ck)∈H)(hx:fq m k=none)
 (h1:K (cond ok (.tuple #[zero,.bool false]) zero)):gQ P kt zero ok H (.map (some b)) (ke k) K:=by
 rcases h.rO hk k with⟨i,y,e,g1,g2,g3,g4⟩|⟨g1,g2⟩
 ·exact absurd (List.mem_map.2 ⟨_,List.mem_of_getElem? g2,rfl⟩) (dX.1 hx)
 ·exact⟨es,_,.inr ⟨b,ck,rfl,hm⟩,hc k,g2,h1⟩
theorem aU.z7{P:Program}{kt:TypeId}{k:κ}{x:β}{val:Value}{K:Hp→Prop}(hk:∀a b,tI P kt (ke a) (ke b) (decide (a=b)))(hc:∀a,kx P kt (ke a))(hb:∀a,Instr.sameBits 10000 (ke a) (ke a)=true)(h:aU ke vr es ck m)(hv:vr val x)
 (h1:∀es' ea,aU ke vr es' ea (dV m k x)→∃H',br b (.map es ck) (.map es' ea) H H'∧K H'):fo P kt H (.map (some b)) (ke k) val K:=by
 rcases h.rO hk k with⟨i,y,e,g1,g2,g3,g4⟩|⟨g1,g2⟩
 ·refine⟨b,es,ck,_,rfl,hc k,g4,fun e' he'=>?_,by rw[h.len];exact(List.getElem?_eq_some_iff.1 g2).1,h1 _ _ (h.put g2 hv)⟩
  rw[(h.key i e' _ he' g2).1];exact hb k
 ·exact⟨b,es,ck,_,rfl,hc k,g2,h1 _ _ (h.more g1 hv)⟩
def cR(es:Array MapEntry)(m:List (κ×β))(seen:Array Nat):List (κ×β):=((es.toList.zip m).filter fun p=> !seen.contains p.1.born).map Prod.snd
omit [DecidableEq κ] in
theorem nq(h:aU ke vr es ck m):cR es m #[]=m:=by
 unfold cR
 rw[List.filter_eq_self.2 (by simp),←List.unzip_snd,List.unzip_zip]
 simpa using h.len
omit [DecidableEq κ] in
theorem l5(h:aU ke vr es ck m){seen:Array Nat}{i:Nat}{e:MapEntry}{x:κ×β}(he:es[i]? =some e)(hx:m[i]? =some x)(hs:e.born∉seen):(cR es m seen).Perm (x::cR es m (seen.push e.born)):=by
 unfold cR
 have hz:(es.toList.zip m)[i]? =some (e,x):=by rw[List.getElem?_zip_eq_some];exact⟨by simpa using he,hx⟩
 obtain⟨A,C,De,hlen⟩:∃A C,es.toList.zip m=A++(e,x)::C∧A.length=i:=by
  obtain⟨hlt,hg⟩:=List.getElem?_eq_some_iff.1 hz
  exact⟨(es.toList.zip m).take i,(es.toList.zip m).drop (i+1),by rw[←hg,List.getElem_cons_drop,List.take_append_drop],by simp only[List.length_take];omega⟩
 have AR:(es.toList.zip m).map (fun p=>p.1.born)=es.toList.map MapEntry.born:=by
  have:(es.toList.zip m).map Prod.fst=es.toList:=by rw[←List.unzip_fst,List.unzip_zip];simpa using h.len
  rw[show(fun p:MapEntry×(κ×β)=>p.1.born)=MapEntry.born∘Prod.fst from rfl,←List.map_map,this]
 have pJ:=h.born
 rw[←AR,De,List.map_append,List.map_cons]at pJ
 have xx:=List.perm_middle.nodup_iff.1 pJ
 rw[List.nodup_cons,←List.map_append]at xx
 have hne:∀p∈A++C,p.1.born≠e.born:=fun p hp e0=>xx.1 (List.mem_map.2 ⟨p,hp,e0⟩)
 have ua:∀L:List (MapEntry×(κ×β)),(∀p∈L,p.1.born≠e.born)→(L.filter fun p=> !(seen.push e.born).contains p.1.born)=L.filter fun p=> !seen.contains p.1.born:=fun L hL=>by
  apply List.filter_congr
  intro p hp
  have:=hL p hp
  simp[Array.mem_push,this]
 rw[De,List.filter_append,List.filter_append,List.filter_cons,List.filter_cons]
 rw[if_pos (by simpa using hs),if_neg (by simp),ua A fun p hp=>hne p (List.mem_append_left _ hp),ua C fun p hp=>hne p (List.mem_append_right _ hp)]
 rw[List.map_append,List.map_append,List.map_cons]
 exact List.perm_middle
omit [DecidableEq κ] in
theorem aU.next{bi bm:Nat}{seen:Array Nat}{K:Value→Hp→Prop}(h:aU ke vr es ck m)(hm:(bm,Obj.map es ck)∈H)(hi:(bi,Obj.mapIter (some bm) ck seen ck)∈H)
 (h1:∀e x seen',e∈es.toList→e.key=ke x.1→vr e.val x.2→(cR es m seen).Perm (x::cR es m seen')→seen'.back?=some e.born→es.find? (·.born==e.born)=some e→
   ∃H',br bi (.mapIter (some bm) ck seen ck) (.mapIter (some bm) ck seen' ck) H H'∧K (.tuple #[.bool true,e.key,e.val]) H')
 (h2:cR es m seen=[]→K (.tuple #[.bool false]) H):yx H (.pointer (some ⟨bi,0,none⟩)) K:=by
 refine⟨bi,some bm,ck,seen,ck,rfl,hi,es,ck,hm,fun e he=>⟨h.lt e he,h.lt e he⟩,fun e he hs=>?_,fun an=>h2 ?_⟩
 ·obtain⟨i,hi',rfl⟩:=List.mem_iff_getElem.1 he
  have rF:i<m.length:=by rw[←h.len];simpa using hi'
  have g1:es[i]? =some es.toList[i]:=by rw[←Array.getElem?_toList];exact List.getElem?_eq_getElem hi'
  have g2:m[i]? =some m[i]:=List.getElem?_eq_getElem rF
  obtain⟨k1,k2⟩:=h.key i _ _ g1 g2
  refine h1 _ m[i] _ he k1 k2 (l5 h g1 g2 hs) (by simp) ?_
  rw[←Array.find?_toList]
  have pJ:=h.born
  rw[List.find?_eq_some_iff_append]
  refine⟨by simp,es.toList.take i,es.toList.drop (i+1),by rw[List.getElem_cons_drop,List.take_append_drop],fun a ha=>?_⟩
  simp only[Bool.not_eq_true',beq_eq_false_iff_ne,ne_eq]
  intro e0
  obtain⟨j,hj,rfl⟩:=List.mem_iff_getElem.1 ha
  simp only[List.length_take]at hj
  rw[List.getElem_take]at e0
  have:=(List.getElem_inj (by simpa using h.born) (xs:=es.toList.map MapEntry.born) (i:=j) (j:=i) (h₀:=by rw[List.length_map];omega) (h₁:=by rw[List.length_map];exact hi')).1 (by simpa using e0)
  omega
 ·unfold cR
  rw[List.filter_eq_nil_iff.2,List.map_nil]
  intro p hp
  have:=an p.1 (List.of_mem_zip hp).1
  simpa using this
end
end Go.Sx
namespace af
def dM(w:Nat):List UInt8:=(List.range 8).map fun i=>UInt8.ofNat (w>>>(8*i))
def cF(ws:List Nat):List UInt8:=ws.flatMap dM
theorem bY(w:Nat):(dM w).length=8:=by simp[dM]
theorem iK:∀l:List Nat,(cF l).length=8*l.length
 | []=>rfl
 |x::l=>by rw[cF,List.flatMap_cons,List.length_append,bY];have:=iK l;unfold cF at this;rw[this,List.length_cons];omega
theorem nN{a b:Nat}(ha:a<18446744073709551616)(hb:b<18446744073709551616)(h:dM a=dM b):a=b:=by
 apply Nat.eq_of_testBit_eq
 intro j
 by_cases hj:j<64
 ·have hi:j/8<8:=by omega
  have h1:=congrArg (fun l=>l[j/8]?) h
  simp only[dM,List.getElem?_map,List.getElem?_range hi,Option.map_some,Option.some.injEq]at h1
  have h2:=congrArg UInt8.toNat h1
  simp only[UInt8.toNat_ofNat']at h2
  have h3:=congrArg (fun x=>x.testBit (j%8)) h2
  simp only[Nat.testBit_mod_two_pow,Nat.testBit_shiftRight]at h3
  rw[show 8*(j/8)+j%8=j by omega]at h3
  have:decide (j%8<8)=true:=by simp;omega
  simpa[this]using h3
 ·rw[Nat.testBit_lt_two_pow (Nat.lt_of_lt_of_le ha (Nat.pow_le_pow_right (n:=2) (by decide) (by omega:64≤j))),Nat.testBit_lt_two_pow (Nat.lt_of_lt_of_le hb (Nat.pow_le_pow_right (n:=2) (by decide) (by omega:64≤j)))]
theorem mE:∀{a b:List Nat},(∀w∈a,w<18446744073709551616)→(∀w∈b,w<18446744073709551616)→cF a=cF b→a=b
 | [],[],_,_,_=>rfl
 | [],y::b,_,_,h=>by have:=congrArg List.length h;simp[cF,bY]at this;omega
 |x::a,[],_,_,h=>by have:=congrArg List.length h;simp[cF,bY]at this
 |x::a,y::b,ha,hb,h=>by
  simp only[cF,List.flatMap_cons]at h
  obtain⟨h1,h2⟩:=List.append_inj h (by rw[bY,bY])
  rw[nN (ha x (by simp)) (hb y (by simp)) h1,mE (fun w hw=>ha w (by simp[hw])) (fun w hw=>hb w (by simp[hw])) h2]
theorem dI.key_inj{n:Nat}{a b:List Nat}(ha:dI n a)(hb:dI n b)(h:cF a=cF b):a=b:=mE (fun w hw=>ha.lt hw) (fun w hw=>hb.lt hw) h
abbrev Fs:=List (List Nat)
def add(l:Fs)(t:List Nat):Fs:=if t∈l then l else l++[t]
def gY(L:Fs):Fs:=L.foldl add []
def given(n:Nat)(l:Fs)(v:Nat):Fs:=l.foldl (fun acc t=>add (add acc (dy n t v false)) (dy n t v true)) []
def nodes(n:Nat)(l:Fs)(v:Nat):Fs:=l.filter fun t=>dep n t v
def st(n:Nat)(L:Fs)(A:Nat):Nat→Fs
 |0=>gY L
 |k+1=>if A.testBit k then given n (st n L A k) k else st n L A k
def lvl(n:Nat)(L:Fs)(A v:Nat):Nat:=(nodes n (st n L A n) v).length
theorem lj{l:Fs}{t x:List Nat}:x∈add l t↔x∈l∨x=t:=by
 unfold add
 split
 ·constructor
  ·exact .inl
  ·rintro(h|rfl)<;>assumption
 ·simp
theorem iq{l:Fs}{t:List Nat}(h:l.Nodup):(add l t).Nodup:=by
 unfold add
 split
 ·exact h
 ·rename_i hn
  rw[List.nodup_append]
  exact⟨h,by simp,fun a ha b hb=>by simp at hb;subst hb;rintro rfl;exact hn ha⟩
theorem dL{α:Type}(f:α→Fs→Fs)(g:α→List Nat→Prop)(hf:∀a l x,x∈f a l↔x∈l∨g a x):∀(L:List α) (acc:Fs) (x:List Nat),x∈L.foldl (fun acc a=>f a acc) acc↔x∈acc∨∃a∈L,g a x
 | [],acc,x=>by simp
 |a::L,acc,x=>by
  rw[List.foldl_cons,dL f g hf L,hf]
  simp only[List.mem_cons,exists_eq_or_imp,or_assoc]
theorem cS{α:Type}(f:α→Fs→Fs)(hf:∀a l,l.Nodup→(f a l).Nodup):∀(L:List α) (acc:Fs),acc.Nodup→(L.foldl (fun acc a=>f a acc) acc).Nodup
 | [],acc,h=>h
 |a::L,acc,h=>cS f hf L _ (hf a acc h)
theorem gg{L:Fs}{x:List Nat}:x∈gY L↔x∈L:=by
 unfold gY
 have:=dL (fun a l=>add l a) (fun a x=>x=a) (fun a l x=>lj) L [] x
 rw[this];simp
theorem kY(L:Fs):(gY L).Nodup:=cS (fun a l=>add l a) (fun a l h=>iq h) L [] (by simp)
theorem de{n v:Nat}{l:Fs}{x:List Nat}:x∈given n l v↔∃t∈l,∃b,x=dy n t v b:=by
 unfold given
 have:=dL (fun t acc=>add (add acc (dy n t v false)) (dy n t v true)) (fun t x=>∃b,x=dy n t v b) (fun t l x=>by
  rw[lj,lj]
  constructor
  ·rintro((h|h)|h)
   ·exact .inl h
   ·exact .inr ⟨false,h⟩
   ·exact .inr ⟨true,h⟩
  ·rintro(h|⟨b,h⟩)
   ·exact .inl (.inl h)
   ·cases b
    ·exact .inl (.inr h)
    ·exact .inr h) l [] x
 rw[this];simp
theorem mM(n:Nat)(l:Fs)(v:Nat):(given n l v).Nodup:=cS (fun t acc=>add (add acc (dy n t v false)) (dy n t v true)) (fun a l h=>iq (iq h)) l [] (by simp)
theorem eJ(n:Nat)(L:Fs)(A:Nat):∀k,(st n L A k).Nodup
 |0=>kY L
 |k+1=>by
  rw[st];split
  ·exact mM _ _ _
  ·exact eJ n L A k
theorem eo{a b:Fs}(ha:a.Nodup)(hb:b.Nodup)(h:∀x,x∈a↔x∈b):a.Perm b:=(List.perm_ext_iff_of_nodup ha hb).2 h
theorem gf{n v:Nat}{a b:Fs}(h:a.Perm b):(nodes n a v).length=(nodes n b v).length:=(h.filter _).length_eq
theorem nr{n:Nat}{L:Fs}{A:Nat}(hL:∀t∈L,dI n t)(hn:n≤16):∀k,∀t∈st n L A k,dI n t
 |0,t,h=>hL t (gg.1 h)
 |k+1,t,h=>by
  rw[st]at h
  split at h
  ·obtain⟨u,_,b,rfl⟩:=de.1 h;exact c4 hn
  ·exact nr hL hn k t h
theorem gj(l:Fs)(t:List Nat):(add l t).length≤l.length+1:=by unfold add;split<;>simp
theorem cK{α:Type}(f:α→Fs→Fs)(c:Nat)(hf:∀a l,(f a l).length≤l.length+c):∀(L:List α) (acc:Fs),(L.foldl (fun acc a=>f a acc) acc).length≤acc.length+c*L.length
 | [],acc=>by simp
 |a::L,acc=>by
  have h1:=cK f c hf L (f a acc)
  have h2:=hf a acc
  rw[List.foldl_cons,List.length_cons,Nat.mul_succ];omega
theorem g6(n:Nat)(L:Fs)(A:Nat):∀k,(st n L A k).length≤2^k*L.length
 |0=>by have:=cK (fun a l=>add l a) 1 (fun a l=>gj l a) L [];simpa[st,gY]using this
 |k+1=>by
  have ih:=g6 n L A k
  rw[st,Nat.pow_succ]
  split
  ·have h:=cK (fun t acc=>add (add acc (dy n t k false)) (dy n t k true)) 2 (fun a l=>by have h1:=gj (add l (dy n a k false)) (dy n a k true);have h2:=gj l (dy n a k false);omega) (st n L A k) []
   have h':(given n (st n L A k) k).length≤2*(st n L A k).length:=by simpa[given]using h
   have:2*(st n L A k).length≤2*(2^k*L.length):=Nat.mul_le_mul_left _ ih
   rw[Nat.mul_comm (2^k) 2,Nat.mul_assoc];omega
  ·have:2^k*L.length≤2^k*2*L.length:=Nat.mul_le_mul_right _ (by omega)
   omega
def dS(n:Nat)(ws:List Nat):Nat→Nat
 |0=>0
 |v+1=>if dep n ws v then dS n ws v|||2^v else dS n ws v
def fQ(n:Nat)(ws:List Nat):Nat:=dS n ws n
theorem cN(n:Nat)(ws:List Nat)(u:Nat):∀k,(dS n ws k).testBit u=(decide (u<k) &&dep n ws u)
 |0=>by simp[dS]
 |v+1=>by
  rw[dS]
  by_cases e:u=v
  ·subst e
   split
   ·rename_i h;rw[Nat.testBit_or,Nat.testBit_two_pow_self];simp[h]
   ·rename_i h;rw[cN n ws u u];simp[h]
  ·have h1:decide (u<v+1)=decide (u<v):=by simp;omega
   rw[h1]
   split
   ·rw[Nat.testBit_or,Nat.testBit_two_pow,cN n ws u v];simp[Ne.symm e]
   ·exact cN n ws u v
theorem eI(n:Nat)(ws:List Nat):∀k,dS n ws k<2^k
 |0=>by simp[dS]
 |v+1=>by
  have h1:=eI n ws v
  have h2:2^v<2^(v+1):=Nat.pow_lt_pow_right (by decide) (by omega)
  rw[dS];split
  ·exact Nat.or_lt_two_pow (by omega) h2
  ·omega
theorem lK(A u:Nat):(A>>>u&&&1=1)↔A.testBit u=true:=by
 rw[cq,Nat.testBit_shiftRight,Nat.add_zero];cases A.testBit u<;>simp
end af
