import Derived.WalkKit
import Derived.Still
import Derived.KernelRfl
import Derived.Deep.Quiet
import Derived.OrdersHeld
import Derived.ProofKit
import Derived.OpenShut
import Derived.Below
set_option linter.unusedVariables false
set_option linter.unusedSimpArgs false
set_option linter.unusedSectionVars false
theorem zM{α:Type _}{x:α}{l:List α}(h:x∈l:=by repeat (first|assumption|exact List.Mem.head _|apply List.Mem.tail|apply List.mem_append_right)):x∈l:=h
theorem zS{α:Type _}{A B:List α}(h:∀x∈A,x∈B:=by intro _ h;repeat (first|exact h|apply List.mem_cons_of_mem|apply List.mem_append_right)):∀x∈A,x∈B:=h
namespace Go.Sx
open Go
abbrev Hp:=List (Nat×Obj)
structure Gh where
 w:World
 fr:Hp
def Gh.add(g:Gh)(F:Hp):Gh:=⟨g.w,F++g.fr⟩
structure Own(g:Gh)(H:Hp)(w:World):Prop where
 os:w.os=g.w.os
 out:w.output=g.w.output
 tape:w.tape=g.w.tape
 nd:((H++g.fr).map Prod.fst).Nodup
 vg:∀x,x∈H++g.fr→w.heap[x.1]? =some x.2
theorem Own.has{g:Gh}{H:Hp}{w:World}(h:Own g H w)(x:Nat×Obj)(hx:x∈H):w.heap[x.1]? =some x.2:=h.vg x (List.mem_append_left _ hx)
theorem Own.perm{g:Gh}{H H':Hp}{w:World}(h:Own g H w)(p:H.Perm H'):Own g H' w:=
 ⟨h.os,h.out,h.tape,((p.append_right _).map _).nodup_iff.1 h.nd,fun x hx=>h.vg x ((p.append_right _).mem_iff.2 hx)⟩
theorem Own.right{g:Gh}{A B:Hp}{w:World}(h:Own g (A++B) w):Own g B w:=
 ⟨h.os,h.out,h.tape,by have:=h.nd;rw[List.append_assoc,List.map_append]at this;exact(List.nodup_append.1 this).2.1,fun x hx=>h.vg x (by rw[List.append_assoc];exact List.mem_append_right _ hx)⟩
theorem Own.left{g:Gh}{A B:Hp}{w:World}(h:Own g (A++B) w):Own g A w:=Own.right (A:=B) (h.perm List.perm_append_comm)
theorem Own.tail{g:Gh}{x:Nat×Obj}{B:Hp}{w:World}(h:Own g (x::B) w):Own g B w:=Own.right (A:=[x]) h
theorem Own.eZ{g:Gh}{A F:Hp}{w:World}:Own g (A++F) w↔Own (g.add F) A w:=by
 constructor
 ·intro h;exact⟨h.os,h.out,h.tape,by have:=h.nd;rw[List.append_assoc]at this;exact this,fun x hx=>h.vg x (by rw[List.append_assoc];exact hx)⟩
 ·intro h;exact⟨h.os,h.out,h.tape,by have:=h.nd;rw[List.append_assoc];exact this,fun x hx=>h.vg x (by rw[List.append_assoc]at hx;exact hx)⟩
def aU(H H':Hp):Prop:=∀g w,Own g H w→Own g H' w
theorem aU.refl(H:Hp):aU H H:=fun _ _ h=>h
theorem aU.trans{A B C:Hp}(h:aU A B)(h':aU B C):aU A C:=fun g w x=>h' g w (h g w x)
theorem aU.perm{A B:Hp}(p:A.Perm B):aU A B:=fun _ _ h=>h.perm p
theorem aU.right{A B:Hp}:aU (A++B) B:=fun _ _ h=>h.right
theorem aU.left{A B:Hp}:aU (A++B) A:=fun _ _ h=>h.left
theorem aU.tail{x:Nat×Obj}{B:Hp}:aU (x::B) B:=fun _ _ h=>h.tail
theorem aU.frame{A B:Hp}(h:aU A B)(F:Hp):aU (A++F) (B++F):=fun _ _ o=>Own.eZ.2 (h _ _ (Own.eZ.1 o))
theorem aU.c8{A B:Hp}(h:aU A B)(F:Hp):aU (F++A) (F++B):=(aU.perm List.perm_append_comm).trans ((h.frame F).trans (.perm List.perm_append_comm))
inductive cM(b:Nat)(o o':Obj):Hp→Hp→Prop
 |head (R:Hp):cM b o o' ((b,o)::R) ((b,o')::R)
 |tail {x:Nat×Obj} {R R':Hp} (h:cM b o o' R R'):cM b o o' (x::R) (x::R')
theorem cM.mem{b:Nat}{o o':Obj}{H H':Hp}(h:cM b o o' H H'):(b,o)∈H:=by
 induction h with
 |head R=>simp
 |tail _ ih=>simp[ih]
theorem cM.keys{b:Nat}{o o':Obj}{H H':Hp}(h:cM b o o' H H'):H'.map Prod.fst=H.map Prod.fst:=by
 induction h with
 |head R=>simp
 |tail _ ih=>simp[ih]
theorem cM.HB{b:Nat}{o o':Obj}{H H':Hp}(h:cM b o o' H H')(nd:(H.map Prod.fst).Nodup):∀x∈H',x=(b,o')∨(x∈H∧x.1≠b):=by
 induction h with
 |head R=>
  intro x hx
  rcases List.mem_cons.1 hx with rfl|hx
  ·exact .inl rfl
  ·refine .inr ⟨by simp[hx],fun e=>?_⟩
   simp only[List.map_cons,List.nodup_cons]at nd
   exact nd.1 (e▸List.mem_map_of_mem hx)
 | @tail y R R' h ih=>
  intro x hx
  simp only[List.map_cons,List.nodup_cons]at nd
  rcases List.mem_cons.1 hx with rfl|hx
  ·refine .inr ⟨by simp,fun e=>?_⟩
   exact nd.1 (e▸List.mem_map_of_mem (f:=Prod.fst) h.mem)
  ·rcases ih nd.2 x hx with h1|h1
   ·exact .inl h1
   ·exact .inr ⟨by simp[h1.1],h1.2⟩
theorem cM.append{b:Nat}{o o':Obj}{C C':Hp}(h:cM b o o' C C')(B:Hp):cM b o o' (C++B) (C'++B):=by
 induction h with
 |head R=>exact .head _
 |tail _ ih=>exact .tail ih
theorem Own.cg{g:Gh}{H H':Hp}{w w':World}{b:Nat}{o o':Obj}(h:Own g H w)(u:cM b o o' H H')
 (hos:w'.os=w.os)(hout:w'.output=w.output)(LP:w'.tape=w.tape)
 (hb:w'.heap[b]? =some o')(hr:∀c,c≠b→w'.heap[c]? =w.heap[c]?):Own g H' w':=
 ⟨hos.trans h.os,hout.trans h.out,LP.trans h.tape,by rw[(u.append g.fr).keys];exact h.nd,fun x hx=>by
  rcases(u.append g.fr).HB h.nd x hx with rfl|⟨h1,h2⟩
  ·exact hb
  ·rw[hr _ h2];exact h.vg x h1⟩
theorem Own.same{g:Gh}{H:Hp}{w w':World}(h:Own g H w)(hos:w'.os=w.os)(hout:w'.output=w.output)(LP:w'.tape=w.tape)
 (hr:∀(c:Nat) (o:Obj),w.heap[c]? =some o→w'.heap[c]? =some o):Own g H w':=
 ⟨hos.trans h.os,hout.trans h.out,LP.trans h.tape,h.nd,fun x hx=>hr _ _ (h.vg x hx)⟩
theorem Own.drew{g:Gh}{H:Hp}{w:World}(h:Own g H w):Own g H w.drew:=h.same rfl rfl rfl fun _ _ h=>h
theorem Own.wH{g:Gh}{H:Hp}{w:World}(h:Own g H w):Own g H {w with drawn:=w.drawn+1}:=h.drew
theorem Own.lt0{g:Gh}{H:Hp}{w:World}(h:Own g H w){x:Nat×Obj}(hx:x∈H++g.fr):x.1<w.heap.size:=by
 have:=h.vg x hx
 exact(Array.getElem?_eq_some_iff.1 this).1
theorem Own.lt{g:Gh}{H:Hp}{w:World}(h:Own g H w){x:Nat×Obj}(hx:x∈H):x.1<w.heap.size:=h.lt0 (List.mem_append_left _ hx)
theorem Own.MH{g:Gh}{H:Hp}{w:World}(h:Own g H w):w.heap.size∉(H++g.fr).map Prod.fst:=by
 intro hm
 obtain⟨x,hx,e⟩:=List.mem_map.1 hm
 have:=h.lt0 hx
 omega
theorem Own.fresh{g:Gh}{H:Hp}{w:World}(h:Own g H w):w.heap.size∉H.map Prod.fst:=fun hm=>h.MH (by rw[List.map_append];exact List.mem_append_left _ hm)
theorem Own.alloc{g:Gh}{H:Hp}{w:World}(h:Own g H w)(o:Obj):Own g ((w.heap.size,o)::H) (w.alloc o):=by
 refine⟨h.os,h.out,h.tape,?_,?_⟩
 ·rw[List.cons_append,List.map_cons,List.nodup_cons];exact⟨h.MH,h.nd⟩
 ·intro x hx
  rw[List.cons_append]at hx
  rcases List.mem_cons.1 hx with rfl|hx
  ·show(w.heap.push o)[w.heap.size]? =some o
   rw[Array.getElem?_push,if_pos rfl]
  ·have:=h.vg x hx
   have hl:=h.lt0 hx
   show(w.heap.push o)[x.1]? =some x.2
   rw[Array.getElem?_push,if_neg (by omega)]
   exact this
theorem Own.cell{g:Gh}{H:Hp}{w:World}(h:Own g H w){b:Nat}{c:Array Value}{T:TypeId}{fz:Nat×Nat}(hm:(b,Obj.cells c T fz)∈H)(off:Nat):
  w.cell? ⟨b,off,none⟩=c[off]? :=by
 have:=h.has _ hm
 simp only[World.cell?]
 simp only at this
 rw[this]
 rfl
theorem Own.frozen{g:Gh}{H:Hp}{w:World}(h:Own g H w){b:Nat}{c:Array Value}{T:TypeId}(hm:(b,Obj.cells c T (0,0))∈H)(off:Nat)(sp:Option Nat):
  w.frozen? ⟨b,off,sp⟩=false:=by
 have:=h.has _ hm
 simp only at this
 simp[World.frozen?,this]
def iP(c:Array Value)(off:Nat):List Value→Array Value
 | []=>c
 |v::r=>iP (c.setIfInBounds off v) (off+1) r
theorem Own.setCell{g:Gh}{H:Hp}{w:World}(h:Own g H w){b:Nat}{c:Array Value}{T:TypeId}{fz:Nat×Nat}{H':Hp}(off:Nat)(v:Value)
 (u:cM b (.cells c T fz) (.cells (c.setIfInBounds off v) T fz) H H'):Own g H' (w.setCell ⟨b,off,none⟩ v):=by
 refine h.cg u rfl rfl rfl ?_ ?_
 ·have:=h.has _ u.mem
  simp only at this
  simp[World.setCell,Array.getElem?_modify,this]
 ·intro d hd
  simp only[World.setCell]
  rw[Array.getElem?_modify,if_neg (fun e=>hd (Eq.symm e))]
theorem cM.re{b:Nat}{o o':Obj}{H H':Hp}(u:cM b o o' H H')(o₁:Obj):∃H₁,cM b o o₁ H H₁∧cM b o₁ o' H₁ H':=by
 induction u with
 |head R=>exact⟨_,.head R,.head R⟩
 |tail _ ih=>obtain⟨H₁,u1,u2⟩:=ih;exact⟨_,.tail u1,.tail u2⟩
theorem fC{P:Program}{g:Gh}{b:Nat}{T:TypeId}(off:Nat):∀(l:List Value) (i:Nat) (c:Array Value) (H H':Hp) (w:World),Own g H w→
  cM b (.cells c T (0,0)) (.cells (iP c (off+i) l) T (0,0)) H H'→(∀v∈l,v.oneCell'=true)→off+i+l.length≤c.size→
  ∃w',(storeCells ⟨b,off,none⟩ l i).run P w=.ok () w'∧Own g H' w'
 | [],i,c,H,H',w,h,u,_,_=>by
  refine⟨w,rfl,?_⟩
  exact h.cg u rfl rfl rfl (h.has _ u.mem) fun _ _=>rfl
 |v::r,i,c,H,H',w,h,u,h1,hs=>by
  obtain⟨H₁,u1,u2⟩:=u.re (.cells (c.setIfInBounds (off+i) v) T (0,0))
  have kF:=h.setCell (off+i) v u1
  simp only[List.length_cons]at hs
  obtain⟨w',hr,ho⟩:=fC (P:=P) off r (i+1) (c.setIfInBounds (off+i) v) H₁ H' _ kF (by simpa[iP,Nat.add_assoc]using u2) (fun x hx=>h1 x (by simp[hx])) (by simp;omega)
  refine⟨w',?_,ho⟩
  have hc:w.cell? ⟨b,off+i,none⟩=some c[off+i]:=by
   rw[h.cell u.mem,Array.getElem?_eq_getElem]
  have hf:=h.frozen u.mem (off+i) none
  have ha:Addr.add ⟨b,off,none⟩ i=⟨b,off+i,none⟩:=Addr.add_lit _ _ _
  simp only[storeCells,Sem.run_bind,ha,run_store P w _ v .plain (h1 v (by simp)),hc,hf,Bool.false_eq_true,if_false,Result.andThen_ok,hr]
theorem jo{P:Program}{g:Gh}{H:Hp}{w:World}(h:Own g H w){b:Nat}{c:Array Value}{T:TypeId}{fz:Nat×Nat}(hm:(b,Obj.cells c T fz)∈H)
 (off n:Nat)(hs:off+n≤c.size):(loadCells ⟨b,off,none⟩ n).run P w=.ok (c.extract off (off+n)) w:=by
 have hl:((c.extract off (off+n)).toList).length=n:=by simp;omega
 have:=run_loadCells_list (P:=P) w ⟨b,off,none⟩ (c.extract off (off+n)).toList (fun j v hj=>by
  rw[Addr.add_lit,h.cell hm]
  have NX:j<n:=by
   have:=(List.getElem?_eq_some_iff.1 hj).1
   omega
  rw[Array.getElem?_toList,Array.getElem?_extract]at hj
  rw[if_pos (by omega)]at hj
  exact hj)
 rw[hl]at this
 exact this
end Go.Sx
namespace Go.Sx
open Go
abbrev Fr:=Nat→Value
def cg(fr:Fr)(d:Option Nat)(v:Value):Fr:=
 match d with
 |none=>fr
 |some d=>fun s=>cond (Nat.beq s d) v (fr s)
def ev(fr:Fr):Operand→Value
 | .tmp t=>fr t
 | .const v=>v
 | .global g=>.pointer (some ⟨g,0,none⟩)
 | .func f=>.func (.func f) #[] #[]
def dR(n:Nat):Option Nat→Bool
 |none=>true
 |some d=>Nat.blt d n
structure cq(ds:List Deferred)(n:Nat)(a:Act)(fr:Fr):Prop where
 defers:a.defers=ds
 size:a.tmps.size=n
 get:∀s,a.tmps.getD s undef=fr s
theorem cq.eval{ds:List Deferred}{n:Nat}{a:Act}{fr:Fr}(h:cq ds n a fr):a.eval=ev fr:=by
 funext x
 cases x<;>simp only[Act.eval,ev]
 exact h.get _
theorem cq.put{ds:List Deferred}{n:Nat}{a:Act}{fr:Fr}(h:cq ds n a fr){d:Option Nat}(hd:dR n d=true)(v:Value):cq ds n (a.put d v) (cg fr d v):=by
 cases d with
 |none=>exact h
 |some d=>
  have hlt:d<n:=by simpa[dR,Nat.blt_eq]using hd
  refine⟨h.defers,by simp[Act.put,h.size],fun s=>?_⟩
  simp only[Act.put,cg]
  have hs:=h.size
  by_cases e:s=d
  ·subst e;simp[hs,hlt]
  ·have e':d≠s:=fun x=>e x.symm
   have hb:Nat.beq s d=false:=by
    cases hh:Nat.beq s d
    ·rfl
    ·exact absurd (Nat.eq_of_beq_eq_true hh) e
   rw[hb]
   simp only[cond_false]
   have:=h.get s
   simpa[Array.getD_eq_getD_getElem?,Array.getElem?_setIfInBounds_ne e']using this
def ai(P:Program)(g:Gh)(f:FuncId)(args:Array Value)(H:Hp)(R:Ending→Hp→Prop):Prop:=
 ∀w,Own g H w→Calls P f args w fun e w'=>∃H',Own g H' w'∧R e H'
theorem ai.mono{P:Program}{g:Gh}{f:FuncId}{args:Array Value}{H:Hp}{R R':Ending→Hp→Prop}(h:ai P g f args H R)(hr:∀e H',R e H'→R' e H'):
  ai P g f args H R':=fun w hw=>(h w hw).mono fun e w' ⟨H',o,r⟩=>⟨H',o,hr _ _ r⟩
theorem ai.pre{P:Program}{g:Gh}{f:FuncId}{args:Array Value}{H H':Hp}{R:Ending→Hp→Prop}(h:ai P g f args H' R)(he:aU H H'):
  ai P g f args H R:=fun w hw=>h w (he _ _ hw)
theorem ai.post{P:Program}{g:Gh}{f:FuncId}{args:Array Value}{H:Hp}{R R':Ending→Hp→Prop}(h:ai P g f args H R)
 (hr:∀e H',R e H'→∃lS,aU H' lS∧R' e lS):ai P g f args H R':=fun w hw=>(h w hw).mono fun e w' ⟨H',o,r⟩=>
 let ⟨lS,en,r'⟩:=hr _ _ r;⟨lS,en _ _ o,r'⟩
def Yu(K:Value→Hp→Prop)(KP:List PanicEntry→Hp→Prop):Ending→Hp→Prop
 | .returned v,H=>K v H
 | .panicked ch,H=>KP ch H
 | .outgrown,_=>False
def mV(P:Program)(g:Gh)(K:Value→Hp→Prop)(KP:List PanicEntry→Hp→Prop):Result Next→Prop
 | .ok (.value v) w=>∃H,Own g H w∧K v H
 | .ok .skip w=>∃H,Own g H w∧K undef H
 | .ok (.enter f args) w=>Calls P f args w fun e w'=>∃H,Own g H w'∧Yu K KP e H
 | .halt (.panic v) w=>∃H,Own g H w∧KP [{v,recovered:=false}] H
 |_=>False
def mS(P:Program)(g:Gh)(o:Oper)(ρ:Operand→Value)(H:Hp)(K:Value→Hp→Prop)(KP:List PanicEntry→Hp→Prop):Prop:=
 ∀w,Own g H w→mV P g K KP ((execOp ρ o).run P w)
def bn(H:Hp)(o:Obj)(k:Nat→Hp→Prop):Prop:=∀b,b∉H.map Prod.fst→k b ((b,o)::H)
def az(c a b:Value)(k:Value→Prop):Prop:=∃t,c=.bool t∧k (cond t a b)
def Ld(H:Hp)(p:Value)(k:Value→Prop):Prop:=
 ∃b off c T fz v,p=.pointer (some ⟨b,off,none⟩)∧(b,Obj.cells c T fz)∈H∧c[off]? =some v∧k v
def aD(n:Nat)(H:Hp)(p:Value)(k:Value→Prop):Prop:=
 ∃b off c T fz,p=.pointer (some ⟨b,off,none⟩)∧(b,Obj.cells c T fz)∈H∧off+n≤c.size∧k (.agg (c.extract off (off+n)))
def St(n:Nat)(H:Hp)(p x:Value)(k:Hp→Prop):Prop:=
 ∃b off c T H',p=.pointer (some ⟨b,off,none⟩)∧x.cells.size=n∧off+n≤c.size∧(∀v∈x.cells.toList,v.oneCell'=true)∧
  cM b (.cells c T (0,0)) (.cells (iP c off x.cells.toList) T (0,0)) H H'∧k H'
inductive BK|num|bool|ptr|slice|map|func|str|other
def yf:TypeDesc→BK
 | .bool=>.bool
 | .int _=>.num
 | .pointer _=>.ptr
 | .slice _=>.slice
 | .map _ _=>.map
 | .func _ _ _=>.func
 | .string=>.str
 |_=>.other
def kf(op:BinOp)(k:IntKind)(a b:Int):Option Value:=
 match op with
 | .add=>some (.int k (k.wrap (a+b)))
 | .sub=>some (.int k (k.wrap (a-b)))
 | .mul=>some (.int k (k.wrap (a*b)))
 | .quo=>if b=0 then none else some (.int k (k.wrap (a.tdiv b)))
 | .rem=>if b=0 then none else some (.int k (a.tmod b))
 | .and=>some (.int k (bits .and k a b))
 | .or=>some (.int k (bits .or k a b))
 | .xor=>some (.int k (bits .xor k a b))
 | .andNot=>some (.int k (bits .andNot k a b))
 | .eql=>some (.bool (a==b))
 | .neq=>some (.bool (a !=b))
 | .lss=>some (.bool (decide (a<b)))
 | .leq=>some (.bool (decide (a≤b)))
 | .gtr=>some (.bool (decide (b<a)))
 | .geq=>some (.bool (decide (b≤a)))
 |_=>none
def fJ(kd:BK)(op:BinOp)(x y:Value):Option Value:=
 match x with
 | .int k a=>
  match y with
  | .int k' b=>
   match op with
   | .shl=>if b<0 then none else some (.int k (k.wrap (a*2^(min b.toNat k.bits))))
   | .shr=>if b<0 then none else some (.int k (a.fdiv (2^(min b.toNat k.bits))))
   |op=>if k=k' then kf op k a b else none
  |_=>none
 | .bool a=>
  match kd,op,y with
  | .bool,.eql,.bool b=>some (.bool (a==b))
  | .bool,.neq,.bool b=>some (.bool (!(a==b)))
  |_,_,_=>none
 | .string a=>
  match op,y with
  | .eql,.string b=>some (.bool (a.toList==b.toList))
  | .neq,.string b=>some (.bool (!(a.toList==b.toList)))
  |_,_=>none
 | .pointer a=>
  match kd,op,y with
  | .ptr,.eql,.pointer b=>if a.isNone∨b.isNone then some (.bool (a.isNone&&b.isNone))else none
  | .ptr,.neq,.pointer b=>if a.isNone∨b.isNone then some (.bool (!(a.isNone&&b.isNone)))else none
  |_,_,_=>none
 | .slice a n c=>
  match kd,op,y with
  | .slice,.eql,.slice b _ _=>if a.isNone∨b.isNone then some (.bool (a.isNone&&b.isNone))else none
  | .slice,.neq,.slice b _ _=>if a.isNone∨b.isNone then some (.bool (!(a.isNone&&b.isNone)))else none
  |_,_,_=>none
 | .map a=>
  match kd,op,y with
  | .map,.eql,.map b=>if a.isNone∨b.isNone then some (.bool (a.isNone&&b.isNone))else none
  | .map,.neq,.map b=>if a.isNone∨b.isNone then some (.bool (!(a.isNone&&b.isNone)))else none
  |_,_,_=>none
 |_=>none
def ae(kd:BK)(op:BinOp)(x y:Value)(k:Value→Prop):Prop:=∃v,fJ kd op x y=some v∧k v
def YU(op:UnOp)(x:Value):Option Value:=
 match op,x with
 | .neg,.int k n=>some (.int k (k.wrap (0-n)))
 | .not,.bool b=>some (.bool !b)
 | .xor,.int k n=>some (.int k (bits .xor k (if k.signed then-1 else k.max) n))
 |_,_=>none
def Un(op:UnOp)(x:Value)(k:Value→Prop):Prop:=∃v,YU op x=some v∧k v
def aY(kd:IntKind)(x:Value)(k:Value→Prop):Prop:=∃j n,x=.int j n∧k (.int kd (kd.wrap n))
def aa(off:Nat)(x:Value)(k:Value→Prop):Prop:=∃b o,x=.pointer (some ⟨b,o,none⟩)∧k (.pointer (some ⟨b,o+off,none⟩))
def Ol(off:Nat)(x:Value)(k:Value→Prop):Prop:=∃cs v,x=.agg cs∧cs[off]? =some v∧k v
def QC(off n:Nat)(x:Value)(k:Value→Prop):Prop:=∃cs,x=.agg cs∧k (.agg (cs.extract off (off+n)))
def ah(size:Nat)(x ix:Value)(k:Value→Prop):Prop:=
 ∃b o n c kd i,x=.slice (some ⟨b,o,none⟩) n c∧ix=.int kd i∧0≤i∧i<(n:Int)∧k (.pointer (some ⟨b,o+i.toNat*size,none⟩))
def ik(len size:Nat)(x ix:Value)(k:Value→Prop):Prop:=
 ∃b o kd i,x=.pointer (some ⟨b,o,none⟩)∧ix=.int kd i∧0≤i∧i<(len:Int)∧k (.pointer (some ⟨b,o+i.toNat*size,none⟩))
def xM:Option Value→Option Int
 |none=>some 0
 |some (.int _ n)=>some n
 |_=>none
def ve(len:Nat):Option Value→Option Int
 |none=>some len
 |some (.int _ n)=>some n
 |_=>none
def fc(size:Nat)(x:Value)(lo hi:Option Value)(k:Value→Prop):Prop:=
 ∃a n c l h,x=.slice a n c∧xM lo=some l∧ve n hi=some h∧0≤l∧l≤h∧h≤(c:Int)∧
  k (.slice (if c=l.toNat then a else a.map (·.add (l.toNat*size))) (h.toNat-l.toNat) (c-l.toNat))
def Ext(i:Nat)(x:Value)(k:Value→Prop):Prop:=∃vs v,x=.tuple vs∧vs[i]? =some v∧k v
def aO(x:Value)(k:Value→Prop):Prop:=∃a n c,x=.slice a n c∧k (.int .i64 n)
def yl(H:Hp)(x:Value)(k:Value→Prop):Prop:=
 ∃m,x=.map m∧((m=none∧k (.int .i64 0))∨∃b es clock,m=some b∧(b,Obj.map es clock)∈H∧k (.int .i64 es.size))
def Cells(H:Hp)(base:Option Addr)(n:Nat)(cs:Array Value):Prop:=
 match base with
 |none=>cs=#[]
 |some a=>(n=0∧cs=#[])∨(a.spot=none∧∃c T fz,(a.block,Obj.cells c T fz)∈H∧a.off+n≤c.size∧cs=c.extract a.off (a.off+n))
def App(P:Program)(elem size bytes:Nat)(zero:Value)(H:Hp)(s x:Value)(k:Value→Hp→Prop):Prop:=
 ∃base n cap xb m xc olds news,s=.slice base n cap∧x=.slice xb m xc∧Cells H base (n*size) olds∧Cells H xb (m*size) news∧
  news.size=m*size∧olds.size=n*size∧(∀v∈news.toList,v.oneCell'=true)∧
  (n+m≤cap→match base with
   |none=>k (.slice none (n+m) cap) H
   |some a=>∃c T H',a.spot=none∧a.off+n*size+m*size≤c.size∧cM a.block (.cells c T (0,0)) (.cells (iP c (a.off+n*size) news.toList) T (0,0)) H H'∧k (.slice (some a) (n+m) cap) H')∧
  (cap<n+m→(n+m)*bytes≤140737488355328∧(n+m:Nat)≤9223372036854775807∧∀fD,n+m≤fD→
   bn H (.cells (olds++news++Builtin.zeroCells zero.cells (fD-(n+m))) elem (0,0)) fun b H'=>∃lS,aU H' lS∧k (.slice (some ⟨b,0,none⟩) (n+m) fD) lS)
def cZ(elem size bytes:Nat)(zero:Value)(H:Hp)(l c:Value)(k:Value→Hp→Prop):Prop:=
 ∃kl kc ln cn,l=.int kl (ln:Nat)∧c=.int kc (cn:Nat)∧ln≤cn∧(cn:Int)≤9223372036854775807∧cn*bytes≤281474976710656∧
  bn H (.cells (madeCells zero.cells (cn*size)) elem (0,0)) fun b H'=>k (.slice (some ⟨b,0,none⟩) ln cn) H'
def n7(H:Hp)(k:Value→Hp→Prop):Prop:=bn H (.map #[] 0) fun b H'=>k (.map (some b)) H'
def GB(H:Hp)(m:Value)(es:Array MapEntry):Prop:=(m=.map none∧es=#[])∨∃b clock,m=.map (some b)∧(b,Obj.map es clock)∈H
def oS(kd:TypeDesc)(zero:Value)(ok:Bool)(H:Hp)(m key:Value)(k:Value→Prop):Prop:=
 ∃es r,GB H m es∧Instr.findNow kd key es.toList 0=some r∧
  k (match r with
   |some (_,v)=>cond ok (.tuple #[v,.bool true]) v
   |none=>cond ok (.tuple #[zero,.bool false]) zero)
def gF(kd:TypeDesc)(H:Hp)(m key val:Value)(k:Hp→Prop):Prop:=
 ∃b es clock r,m=.map (some b)∧Instr.findNow kd key es.toList 0=some r∧
  match r with
  |some (i,_)=>(∀e,es[i]? =some e→Instr.sameBits 10000 e.key key=true)∧i<es.size∧∃H',cM b (.map es clock) (.map (es.modify i fun e=>{e with key,val}) clock) H H'∧k H'
  |none=>∃H',cM b (.map es clock) (.map (es.push {key,val,born:=clock}) (clock+1)) H H'∧k H'
def oR(kd:TypeDesc)(H:Hp)(m key:Value)(k:Hp→Prop):Prop:=
 (m=.map none∧k H)∨∃b es clock r,m=.map (some b)∧Instr.findNow kd key es.toList 0=some r∧
  match r with
  |some (i,_)=>∃H',cM b (.map es clock) (.map (es.eraseIdxIfInBounds i) clock) H H'∧k H'
  |none=>(b,Obj.map es clock)∈H∧k H
def bA(P:Program)(f:FuncId):Bool:=
 match P.funcs[f]? with
 |none=>false
 |some fn=> !(fn.name== "runtime.NumGoroutine") &&fn.body.isSome
def ag(P:Program)(g:Gh)(f:FuncId)(args:Array Value)(H:Hp)(K:Value→Hp→Prop)(KP:List PanicEntry→Hp→Prop):Prop:=
 ai P g f args H (Yu K KP)
def cC(P:Program)(g:Gh)(fv:Value)(args:Array Value)(H:Hp)(K:Value→Hp→Prop)(KP:List PanicEntry→Hp→Prop):Prop:=
 ∃f first captured,fv=.func (.func f) first captured∧bA P f=true∧ag P g f (first++args++captured) H K KP
def AL(P:Program)(kt:TypeId)(x y:Value)(b:Bool):Prop:=∀w,(Op.equal kt x y).run P w=.ok b w
def lM(P:Program)(kt:TypeId)(x:Value):Prop:=∀e w,(Instr.checkKey e 10000 kt x).run P w=.ok () w
def lE(P:Program)(kt:TypeId)(key:Value):List MapEntry→Nat→Option (Nat×Value)→Prop
 | [],_,r=>r=none
 |e::es,i,r=>∃b,AL P kt key e.key b∧(b=true→r=some (i,e.val))∧(b=false→lE P kt key es (i+1) r)
def jB(P:Program)(kt:TypeId)(zero:Value)(ok:Bool)(H:Hp)(m key:Value)(k:Value→Prop):Prop:=
 ∃es r,GB H m es∧lM P kt key∧lE P kt key es.toList 0 r∧
  k (match r with
   |some (_,v)=>cond ok (.tuple #[v,.bool true]) v
   |none=>cond ok (.tuple #[zero,.bool false]) zero)
def iE(P:Program)(kt:TypeId)(H:Hp)(m key val:Value)(k:Hp→Prop):Prop:=
 ∃b es clock r,m=.map (some b)∧lM P kt key∧lE P kt key es.toList 0 r∧
  match r with
  |some (i,_)=>(∀e,es[i]? =some e→Instr.sameBits 10000 e.key key=true)∧i<es.size∧∃H',cM b (.map es clock) (.map (es.modify i fun e=>{e with key,val}) clock) H H'∧k H'
  |none=>∃H',cM b (.map es clock) (.map (es.push {key,val,born:=clock}) (clock+1)) H H'∧k H'
def p9(P:Program)(kt:TypeId)(H:Hp)(m key:Value)(k:Hp→Prop):Prop:=
 lM P kt key∧((m=.map none∧k H)∨∃b es clock r,m=.map (some b)∧lE P kt key es.toList 0 r∧
  match r with
  |some (i,_)=>∃H',cM b (.map es clock) (.map (es.eraseIdxIfInBounds i) clock) H H'∧k H'
  |none=>(b,Obj.map es clock)∈H∧k H)
def Vu(H:Hp)(x:Value)(k:Value→Hp→Prop):Prop:=
 (x=.map none∧bn H (.mapIter none 0 #[] 0) fun b H'=>k (.pointer (some ⟨b,0,none⟩)) H')∨
 ∃m es clock,x=.map (some m)∧(m,Obj.map es clock)∈H∧bn H (.mapIter (some m) clock #[] clock) fun b H'=>k (.pointer (some ⟨b,0,none⟩)) H'
def Uu(H:Hp)(it:Value)(k:Value→Hp→Prop):Prop:=
 ∃b mo since seen last,it=.pointer (some ⟨b,0,none⟩)∧(b,Obj.mapIter mo since seen last)∈H∧
  match mo with
  |none=>k (.tuple #[.bool false]) H
  |some m=>∃es clock,(m,Obj.map es clock)∈H∧(∀e∈es.toList,e.born<since∧e.born<last)∧
   (∀e∈es.toList,e.born∉seen→∃H',cM b (.mapIter (some m) since seen last) (.mapIter (some m) since (seen.push e.born) clock) H H'∧k (.tuple #[.bool true,e.key,e.val]) H')∧
   ((∀e∈es.toList,e.born∈seen)→k (.tuple #[.bool false]) H)
def JA(H:Hp)(it:Value)(k:Value→Prop):Prop:=
 ∃b m since seen stamp clock es e,it=.pointer (some ⟨b,0,none⟩)∧(b,Obj.mapIter (some m) since seen clock)∈H∧seen.back?=some stamp∧(m,Obj.map es clock)∈H∧es.find? (·.born==stamp)=some e∧k (.tuple #[e.key,e.val])
def Ny(x y:Value)(k:Value→Prop):Prop:=∃kd a b,x=.int kd a∧y=.int kd b∧k (.int kd (if b>a then b else a))
def Qw(x y:Value)(k:Value→Prop):Prop:=∃kd a b,x=.int kd a∧y=.int kd b∧k (.int kd (if b<a then b else a))
def jO(H:Hp)(x:Value)(k:Value→Prop):Prop:=
 ∃base n c,∃bs:List UInt8,x=.slice base n c∧Cells H base n ((bs.map fun b=>Value.int .u8 b.toNat).toArray)∧bs.length=n∧k (.string ⟨bs.toArray⟩)
def RG(x i:Value)(k:Value→Prop):Prop:=∃s kd j b,x=.string s∧i=.int kd j∧0≤j∧s[j.toNat]? =some b∧k (.int .u8 b.toNat)
def Uv(x:Value)(k:Value→Prop):Prop:=∃s,x=.string s∧k (.int .i64 s.size)
def plainKey:TypeDesc→Bool
 | .int _| .string| .bool=>true
 |_=>false
def cF:TypeDesc→Bool
 | .struct _| .array _ _=>true
 |_=>false
end Go.Sx
namespace Go.Sx
open Go
section
variable {P:Program} {g:Gh} {H:Hp} {K:Value→Hp→Prop} {KP:List PanicEntry→Hp→Prop}
theorem dQ{t:TypeId}{i:TypeInfo}{z:Value}(hi:P.info? t=some i)(hz:i.zero=some z)(w:World):(zeroValue t).run P w=.ok z w:=by
 simp[zeroValue,typeInfo,hi,hz]
theorem mZ{t:TypeId}{d:TypeDesc}(hd:P.underlying t=some d)(w:World):(isAgg t).run P w=.ok (cF d) w:=by
 simp only[isAgg,Sem.run_bind,run_underlying hd,Result.andThen_ok]
 cases d<;>rfl
theorem run_sizeOf{t:TypeId}{i:TypeInfo}(hi:P.info? t=some i)(w:World):(sizeOf t).run P w=.ok i.size w:=by
 simp[sizeOf,typeInfo,hi]
theorem Ld.run{p:Value}{k:Value→Prop}(h:Ld H p k){w:World}(hw:Own g H w){t:TypeId}{d:TypeDesc}(hd:P.underlying t=some d)(ha:cF d=false):
  ∃v,(Instr.loadAt t p).run P w=.ok v w∧k v:=by
 obtain⟨b,off,c,T,fz,v,rfl,hm,hc,hk⟩:=h
 refine⟨v,?_,hk⟩
 have:=hw.cell hm off
 rw[hc]at this
 simp only[Instr.loadAt,Instr.sureAddr,loadVar,Sem.run_bind,Sem.run_pure,Result.andThen_ok,mZ hd,ha,Sem.run_ite,Bool.false_eq_true,if_false,run_load,this]
theorem aD.run{n:Nat}{p:Value}{k:Value→Prop}(h:aD n H p k){w:World}(hw:Own g H w){t:TypeId}{d:TypeDesc}(hd:P.underlying t=some d)(ha:cF d=true)
 {i:TypeInfo}(hi:P.info? t=some i)(hn:i.size=n):
  ∃v,(Instr.loadAt t p).run P w=.ok v w∧k v:=by
 obtain⟨b,off,c,T,fz,rfl,hm,hs,hk⟩:=h
 refine⟨_,?_,hk⟩
 simp only[Instr.loadAt,Instr.sureAddr,loadVar,Sem.run_bind,Sem.run_pure,Result.andThen_ok,mZ hd,ha,Sem.run_ite,if_true,run_sizeOf hi,hn,jo hw hm off n hs]
theorem St.run{n:Nat}{p x:Value}{k:Hp→Prop}(h:St n H p x k){w:World}(hw:Own g H w){t:TypeId}{i:TypeInfo}(hi:P.info? t=some i)(hn:i.size=n):
  ∃w' H',(Instr.storeAt t p x).run P w=.ok () w'∧Own g H' w'∧k H':=by
 obtain⟨b,off,c,T,H',rfl,hx,hs,hv,hu,hk⟩:=h
 obtain⟨w',hr,ho⟩:=fC (P:=P) off x.cells.toList 0 c H H' w hw (by simpa using hu) hv (by simp;omega)
 refine⟨w',H',?_,ho,hk⟩
 simp only[Instr.storeAt,Instr.sureAddr,storeVar,Sem.run_bind,Sem.run_pure,Result.andThen_ok,run_sizeOf hi,hn,hx,ne_eq,not_true,if_false,hr]
theorem LG{op:BinOp}{k:IntKind}{a b:Int}{v:Value}{t:TypeId}(h:kf op k a b=some v)(w:World)(hs:op≠.shl∧op≠.shr):
  (binOp op t (.int k a) (.int k b)).run P w=.ok v w:=by
 cases op<;>simp[kf]at h hs<;>try subst h
 case quo=> 
  obtain⟨h0,rfl⟩:=h
  simp[binOp,Op.intDiv,h0]
 case rem=>
  obtain⟨h0,rfl⟩:=h
  simp[binOp,Op.intDiv,h0]
 all_goals first
  |simp[binOp,Op.intArith];done
  |simp[binOp,Op.intCmp];done
  |(simp only[binOp_and,binOp_or,binOp_xor,binOp_andNot,intBits_and,intBits_or,intBits_xor,intBits_andNot];rfl)
theorem iu{t:TypeId}{x y:Value}{r:Result Bool}{w:World}(h:∀d,(Op.equalIn (d+1) t x y).run P w=r):(Op.equal t x y).run P w=r:=h 9999
theorem run_eql_bool{t:TypeId}(hd:P.underlying t=some .bool)(a b:Bool)(w:World):(Op.equal t (.bool a) (.bool b)).run P w=.ok (a==b) w:=
 iu fun d=>by simp[Op.equalIn,run_underlying hd]
theorem y5{t e:TypeId}(hd:P.underlying t=some (.pointer e))(a b:Option Addr)(hab:a.isNone∨b.isNone)(w:World):(Op.equal t (.pointer a) (.pointer b)).run P w=.ok (a.isNone&&b.isNone) w:=
 iu fun d=>by cases a<;>cases b<;>simp at hab<;>simp[Op.equalIn,run_underlying hd]
theorem uR{t e:TypeId}(hd:P.underlying t=some (.slice e))(a b:Option Addr)(n c n' c':Nat)(hab:a.isNone∨b.isNone)(w:World):(Op.equal t (.slice a n c) (.slice b n' c')).run P w=.ok (a.isNone&&b.isNone) w:=
 iu fun d=>by cases a<;>cases b<;>simp at hab<;>simp[Op.equalIn,run_underlying hd]
theorem y6{t e f:TypeId}(hd:P.underlying t=some (.map e f))(a b:Option Nat)(hab:a.isNone∨b.isNone)(w:World):(Op.equal t (.map a) (.map b)).run P w=.ok (a.isNone&&b.isNone) w:=
 iu fun d=>by cases a<;>cases b<;>simp at hab<;>simp[Op.equalIn,run_underlying hd]
theorem M9{kd:BK}{op:BinOp}{x y v:Value}{t:TypeId}{d:TypeDesc}(hd:P.underlying t=some d)(hk:yf d=kd)(h:fJ kd op x y=some v)(w:World):
  (binOp op t x y).run P w=.ok v w:=by
 cases x<;>simp only[fJ]at h<;>try (simp at h;done)
 case int k a=>
  cases y<;>simp only at h<;>try (simp at h;done)
  rename_i k' b
  by_cases hs:op=.shl
  ·subst hs
   simp only at h
   split at h
   ·simp at h
   ·simp only[Option.some.injEq]at h;subst h;rename_i hb;simp[binOp,Op.shift,hb]
  by_cases hs':op=.shr
  ·subst hs'
   simp only at h
   split at h
   ·simp at h
   ·simp only[Option.some.injEq]at h;subst h;rename_i hb;simp[binOp,Op.shift,hb]
  have h2:(if k=k' then kf op k a b else none)=some v:=by
   cases op<;>first|exact h|exact absurd rfl hs|exact absurd rfl hs'
  split at h2
  ·rename_i e;subst e;exact LG h2 w ⟨hs,hs'⟩
  ·simp at h2
 case bool a=>
  split at h<;>simp only[Option.some.injEq,reduceCtorEq]at h
  all_goals
   subst h
   have:d=.bool:=by cases d<;>simp_all[yf]
   subst this
   simp[binOp,run_eql_bool hd]
 case string a=>
  split at h<;>simp only[Option.some.injEq,reduceCtorEq]at h
  all_goals
   subst h
   first|rfl|(simp only[binOp,Op.stringOp];rfl)
 case pointer a=>
  split at h<;>try (simp at h;done)
  all_goals
   have:∃e,d=.pointer e:=by cases d<;>simp_all[yf]
   obtain⟨e,rfl⟩:=this
   split at h<;>simp only[Option.some.injEq,reduceCtorEq]at h
   subst h
   rename_i bb hab
   simp[binOp,y5 hd _ _ hab]
 case slice a n c=>
  split at h<;>try (simp at h;done)
  all_goals
   have:∃e,d=.slice e:=by cases d<;>simp_all[yf]
   obtain⟨e,rfl⟩:=this
   split at h<;>simp only[Option.some.injEq,reduceCtorEq]at h
   subst h
   rename_i bb _ _ hab
   simp[binOp,uR hd _ _ _ _ _ _ hab]
 case map a=>
  split at h<;>try (simp at h;done)
  all_goals
   have:∃e f,d=.map e f:=by cases d<;>simp_all[yf]
   obtain⟨e,f,rfl⟩:=this
   split at h<;>simp only[Option.some.injEq,reduceCtorEq]at h
   subst h
   rename_i bb hab
   simp[binOp,y6 hd _ _ hab]
theorem Ca{kd:BK}{op:BinOp}{x y v:Value}{t:TypeId}{ox oy:Operand}(h:fJ kd op x y=some v):eqGuard op t ox oy x y=pure ():=by
 cases x<;>simp[fJ]at h<;>cases op<;>rfl
theorem ae.run{kd:BK}{op:BinOp}{x y:Value}{k:Value→Prop}(h:ae kd op x y k)(w:World){t:TypeId}{d:TypeDesc}{ox oy:Operand}(hd:P.underlying t=some d)(hk:yf d=kd):
  ∃v,(do eqGuard op t ox oy x y;binOp op t x y:Sem Value).run P w=.ok v w∧k v:=by
 obtain⟨v,hv,hkv⟩:=h
 refine⟨v,?_,hkv⟩
 rw[Sem.run_bind,Ca hv]
 simp only[Sem.run_pure,Result.andThen_ok]
 exact M9 hd hk hv w
theorem Un.run{op:UnOp}{x:Value}{k:Value→Prop}(h:Un op x k)(w:World):∃v,(Op.unary op x).run P w=.ok v w∧k v:=by
 obtain⟨v,hv,hk⟩:=h
 refine⟨v,?_,hk⟩
 cases op<;>cases x<;>simp[YU]at hv<;>subst hv
 all_goals first|(simp[Op.unary,Op.intArith];done)|rfl
theorem aY.run{kd:IntKind}{x:Value}{k:Value→Prop}(h:aY kd x k)(w:World){src dst:TypeId}{ds dd:TypeDesc}(hs:P.underlying src=some ds)(hd:P.underlying dst=some dd)(hk:dd=.int kd):
  ∃v,(convert src dst x).run P w=.ok v w∧k v:=by
 obtain⟨j,n,rfl,hkv⟩:=h
 subst hk
 refine⟨_,?_,hkv⟩
 simp only[convert,Sem.run_bind,run_underlying hs,run_underlying hd,Result.andThen_ok]
 cases ds<;>rfl
theorem aa.run{off:Nat}{x:Value}{k:Value→Prop}(h:aa off x k)(w:World){s:TypeId}{fs:Array Field}{f:Nat}{fl:Field}{i:TypeInfo}(hs:P.underlying s=some (.struct fs))(hf:fs[f]? =some fl)
 (hi:P.info? fl.type=some i)(h0:i.size≠0)(ho:fl.offset=off):∃v,(Instr.fieldAt s x f).run P w=.ok v w∧k v:=by
 obtain⟨b,o,rfl,hk⟩:=h
 refine⟨_,?_,hk⟩
 subst ho
 simp[Instr.fieldAt,run_underlying hs,hf,Instr.sureAddr,fieldPlace,run_sizeOf hi,h0,Addr.add_lit]
theorem Ol.run{off:Nat}{x:Value}{k:Value→Prop}(h:Ol off x k)(w:World){s:TypeId}{fs:Array Field}{f:Nat}{fl:Field}{d:TypeDesc}(hs:P.underlying s=some (.struct fs))(hf:fs[f]? =some fl)
 (hd:P.underlying fl.type=some d)(ha:cF d=false)(ho:fl.offset=off):∃v,(Instr.field s x f).run P w=.ok v w∧k v:=by
 obtain⟨cs,v,rfl,hc,hk⟩:=h
 refine⟨v,?_,hk⟩
 subst ho
 simp[Instr.field,run_underlying hs,hf,asAgg,part,mZ hd,ha,hc]
theorem QC.run{off n:Nat}{x:Value}{k:Value→Prop}(h:QC off n x k)(w:World){s:TypeId}{fs:Array Field}{f:Nat}{fl:Field}{d:TypeDesc}{i:TypeInfo}(hs:P.underlying s=some (.struct fs))(hf:fs[f]? =some fl)
 (hd:P.underlying fl.type=some d)(ha:cF d=true)(hi:P.info? fl.type=some i)(hn:i.size=n)(ho:fl.offset=off):∃v,(Instr.field s x f).run P w=.ok v w∧k v:=by
 obtain⟨cs,rfl,hk⟩:=h
 refine⟨_,?_,hk⟩
 subst ho;subst hn
 simp[Instr.field,run_underlying hs,hf,asAgg,part,mZ hd,ha,run_sizeOf hi]
theorem ah.run{size:Nat}{x ix:Value}{k:Value→Prop}(h:ah size x ix k)(w:World){t e:TypeId}{i:TypeInfo}(ht:P.underlying t=some (.slice e))(hi:P.info? e=some i)(hn:i.size=size):
  ∃v,(Instr.indexAt t x ix).run P w=.ok v w∧k v:=by
 obtain⟨b,o,n,c,kd,j,rfl,rfl,h0,h1,hk⟩:=h
 refine⟨_,?_,hk⟩
 subst hn
 simp[Instr.indexAt,run_underlying ht,asIntOf,h0,h1,run_sizeOf hi,Addr.add_lit]
theorem ik.run{len size:Nat}{x ix:Value}{k:Value→Prop}(h:ik len size x ix k)(w:World){t e:TypeId}{i:TypeInfo}(ht:P.underlying t=some (.array len e))(hi:P.info? e=some i)(hn:i.size=size):
  ∃v,(Instr.indexAt t x ix).run P w=.ok v w∧k v:=by
 obtain⟨b,o,kd,j,rfl,rfl,h0,h1,hk⟩:=h
 refine⟨_,?_,hk⟩
 subst hn
 simp[Instr.indexAt,run_underlying ht,asIntOf,h0,h1,run_sizeOf hi,Addr.add_lit,Instr.sureAddr]
theorem fc.run{size:Nat}{x:Value}{lo hi:Option Value}{k:Value→Prop}(h:fc size x lo hi k)(w:World){t e:TypeId}{i:TypeInfo}(ht:P.underlying t=some (.slice e))(hi':P.info? e=some i)(hn:i.size=size):
  ∃v,(Instr.sliceAt t x lo hi none).run P w=.ok v w∧k v:=by
 obtain⟨a,n,c,l,hh,rfl,hl,o8,h0,h1,h2,hk⟩:=h
 refine⟨_,?_,hk⟩
 subst hn
 have bl:∀(kk:IntKind) (z:Int) (y:Nat) (cd:BoundsCode),0≤z→z≤y→(Instr.sliceBound (.int kk z) y cd).run P w=.ok z.toNat w:=by
  intro kk z y cd a1 a2
  simp[Instr.sliceBound,asIntOf,a1,a2]
 have gJ:∀(m l:Nat),(if m=l then a else a.map (·.add (l*i.size)))=(if m=l then a else a.map fun x=>x.add (l*i.size)):=fun _ _=>rfl
 have e1:l≤((hh.toNat:Nat):Int):=by omega
 cases lo with
 |none=>
  simp only[xM,Option.some.injEq]at hl
  subst hl
  cases hi with
  |none=>
   simp only[ve,Option.some.injEq]at o8
   subst o8
   simp[Instr.sliceAt,run_underlying ht,Instr.slice,Instr.sliceBounds,run_sizeOf hi']
  |some v=>
   cases v<;>simp only[ve,reduceCtorEq,Option.some.injEq]at o8
   subst o8
   simp[Instr.sliceAt,run_underlying ht,Instr.slice,Instr.sliceBounds,run_sizeOf hi',bl _ _ c .sliceAcap (by omega) h2]
 |some vl=>
  cases vl<;>simp only[xM,reduceCtorEq,Option.some.injEq]at hl
  subst hl
  cases hi with
  |none=>
   simp only[ve,Option.some.injEq]at o8
   subst o8
   have:=bl ‹_› _ n .sliceB h0 h1
   simp[Instr.sliceAt,run_underlying ht,Instr.slice,Instr.sliceBounds,run_sizeOf hi',this]
  |some v=>
   cases v<;>simp only[ve,reduceCtorEq,Option.some.injEq]at o8
   subst o8
   rename_i k1 n1 k2 n2
   have b1:=bl k2 n2 c .sliceAcap (by omega) h2
   have b2:=bl k1 n1 n2.toNat .sliceB h0 (by omega)
   simp[Instr.sliceAt,run_underlying ht,Instr.slice,Instr.sliceBounds,run_sizeOf hi',b1,b2]
theorem Ext.run{i:Nat}{x:Value}{k:Value→Prop}(h:Ext i x k)(w:World):∃v,(Instr.extract x i).run P w=.ok v w∧k v:=by
 obtain⟨vs,v,rfl,hv,hk⟩:=h
 exact⟨v,by simp[Instr.extract,hv],hk⟩
theorem aO.run{x:Value}{k:Value→Prop}(h:aO x k)(w:World){t e ty:TypeId}(ht:P.underlying t=some (.slice e)):∃v,(Builtin.len_ #[t] ty #[x]).run P w=.ok v w∧k v:=by
 obtain⟨a,n,c,rfl,hk⟩:=h
 exact⟨_,by simp[Builtin.len_,run_underlying ht,goInt],hk⟩
theorem aW{w:World}(hw:Own g H w){b:Nat}{es:Array MapEntry}{clock:Nat}(hm:(b,Obj.map es clock)∈H):(getObj b).run P w=.ok (.map es clock) w:=by
 have:=hw.has _ hm
 simp only at this
 simp[getObj,Sem.run,this]
theorem yl.run{x:Value}{k:Value→Prop}(h:yl H x k){w:World}(hw:Own g H w){t e e' ty:TypeId}(ht:P.underlying t=some (.map e e')):∃v,(Builtin.len_ #[t] ty #[x]).run P w=.ok v w∧k v:=by
 obtain⟨m,rfl,⟨rfl,hk⟩|⟨b,es,clock,rfl,hm,hk⟩⟩:=h
 ·exact⟨_,by simp[Builtin.len_,run_underlying ht,goInt],hk⟩
 ·exact⟨_,by simp[Builtin.len_,run_underlying ht,goInt,aW hw hm],hk⟩
end
end Go.Sx
namespace Go.Sx
open Go
section
variable {P:Program} {g:Gh} {H:Hp} {K:Value→Hp→Prop} {KP:List PanicEntry→Hp→Prop}
theorem Cells.run{w:World}(hw:Own g H w){base:Option Addr}{size n cap:Nat}{cs:Array Value}(h:Cells H base (n*size) cs):
  (Builtin.firstCells size n (.slice base n cap)).run P w=.ok cs w:=by
 cases base with
 |none=>simp only[Cells]at h;subst h;simp[Builtin.firstCells]
 |some a=>
  rcases h with⟨hn,rfl⟩|⟨h0,c,T,fz,hm,hs,rfl⟩
  ·simp only[Builtin.firstCells,hn];rfl
  obtain⟨b,o,sp⟩:=a
  simp only at h0 hm hs;subst h0
  simp only[Builtin.firstCells,jo hw hm _ _ hs]
theorem App.run{elem size bytes:Nat}{zero:Value}{s x:Value}{k:Value→Hp→Prop}(h:App P elem size bytes zero H s x k){w:World}(hw:Own g H w){t t' ty:TypeId}{i:TypeInfo}
 (ht:P.underlying t=some (.slice elem))(ht':∃e,P.underlying t'=some (.slice e))(hi:P.info? elem=some i)(hz:i.zero=some zero)(hn:i.size=size)(hb:i.bytes=bytes):
  ∃v w' H',(Builtin.append_ #[t,t'] ty #[s,x]).run P w=.ok v w'∧Own g H' w'∧k v H':=by
 obtain⟨base,n,cap,xb,m,xc,olds,news,rfl,rfl,hco,Xc,Pm,hso,hone,hfit,hgrow⟩:=h
 obtain⟨e',ht'⟩:=ht'
 subst hn;subst hb
 by_cases hc:n+m≤cap
 ·have hk:=hfit hc
  have hnew:=Cells.run (P:=P) (cap:=xc) hw Xc
  cases base with
  |none=>
   refine⟨_,w,H,?_,hw,hk⟩
   simp[Builtin.append_,run_underlying ht,run_underlying ht',run_sizeOf hi,Builtin.lenOf,hc,hnew]
  |some a=>
   obtain⟨c,T,H',h0,hs,hu,hk⟩:=hk
   obtain⟨b,o,sp⟩:=a
   simp only at h0 hu hs;subst h0
   obtain⟨w',hr,ho⟩:=fC (P:=P) (o+n*i.size) news.toList 0 c H H' w hw (by simpa using hu) hone (by simp;omega)
   refine⟨_,w',H',?_,ho,hk⟩
   simp[Builtin.append_,run_underlying ht,run_underlying ht',run_sizeOf hi,Builtin.lenOf,hc,hnew,Addr.add_lit,hr]
 ·obtain⟨ack,h63,hk⟩:=hgrow (by omega)
  have kF:=hw.drew
  have hnew:=Cells.run (P:=P) (cap:=xc) kF Xc
  have hold:=Cells.run (P:=P) (cap:=cap) kF hco
  have hnx:Builtin.nextslicecap (n+m) cap*i.bytes≤281474976710656:=growslice_fits (by omega) ack
  have acT:¬(281474976710656<Builtin.nextslicecap (n+m) cap*i.bytes):=by omega
  have acS:¬(9223372036854775807<((n:Int)+(m:Int))):=by omega
  obtain⟨lS,tE,hkk⟩:=hk (grownCap w (n+m) cap elem) (by simp only[grownCap,Question.cut];omega) _ kF.fresh
  refine⟨_,_,_,?_,tE _ _ (kF.alloc _),hkk⟩
  ·simp[Builtin.append_,run_underlying ht,run_underlying ht',sizeOf,typeInfo,zeroValue,hi,hz,Builtin.lenOf,hc,acS,acT,Question.forced,hnew,hold,newRow,grownCap]
theorem cZ.run{elem size bytes:Nat}{zero:Value}{l c:Value}{k:Value→Hp→Prop}(h:cZ elem size bytes zero H l c k){w:World}(hw:Own g H w){t:TypeId}{i:TypeInfo}
 (ht:P.underlying t=some (.slice elem))(hi:P.info? elem=some i)(hz:i.zero=some zero)(hn:i.size=size)(hb:i.bytes=bytes):
  ∃v w' H',(Instr.makeSlice t l c).run P w=.ok v w'∧Own g H' w'∧k v H':=by
 obtain⟨kl,kc,ln,cn,rfl,rfl,hlc,ca,hby,hk⟩:=h
 subst hn;subst hb
 refine⟨_,_,_,?_,hw.alloc _,hk _ hw.fresh⟩
 have e1:IntKind.i64.wrap (ln:Int)=ln:=IntWalk.i64_in _ (by omega)
 have e2:IntKind.i64.wrap (cn:Int)=cn:=IntWalk.i64_in _ (by omega)
 have e3:¬((i.bytes:Int)*(cn:Int)>281474976710656):=by
  have:((cn*i.bytes:Nat):Int)≤281474976710656:=by omega
  rw[Int.mul_comm];push_cast at this;omega
 have e4:¬((cn:Int)<ln):=by omega
 by_cases h0:cn*i.size=0
 ·simp[Instr.makeSlice,run_underlying ht,asInt,asIntOf,typeInfo,hi,e1,e2,e3,e4,sizeOf,zeroValue,hz,newRow,madeCells,h0,show¬((cn:Int)<0)from by omega,show¬((ln:Int)<0)from by omega]
  have:Array.range 0=#[]:=rfl
  simp[this]
 ·simp[Instr.makeSlice,run_underlying ht,asInt,asIntOf,typeInfo,hi,e1,e2,e3,e4,sizeOf,zeroValue,hz,newRow,madeCells,h0,show¬((cn:Int)<0)from by omega,show¬((ln:Int)<0)from by omega]
theorem GB.run{m:Value}{es:Array MapEntry}(h:GB H m es){w:World}(hw:Own g H w):
  (m=.map none∧es=#[])∨∃b clock,m=.map (some b)∧(getObj b).run P w=.ok (.map es clock) w:=by
 rcases h with h|⟨b,clock,hm,hb⟩
 ·exact .inl h
 ·exact .inr ⟨b,clock,hm,aW hw hb⟩
theorem run_checkKey(e:Bool){t:TypeId}{d:TypeDesc}(hd:P.underlying t=some d)(hp:plainKey d=true)(v:Value)(w:World):(Instr.checkKey e 10000 t v).run P w=.ok () w:=by
 have:∀n,(Instr.checkKey e (n+1) t v).run P w=.ok () w:=fun n=>by
  simp only[Instr.checkKey,Sem.run_bind,run_underlying hd,Result.andThen_ok]
  cases d<;>first|(simp[plainKey]at hp;done)|rfl
 exact this 9999
theorem run_findKey{t:TypeId}{d:TypeDesc}(hd:P.underlying t=some d){key:Value}{es:List MapEntry}{r:Option (Nat×Value)}(h:Instr.findNow d key es 0=some r)(w:World):
  (Instr.findKey t key es).run P w=.ok r w:=by
 simp[Instr.findKey,run_underlying hd,h]
theorem oS.run{kd:TypeDesc}{zero:Value}{ok:Bool}{m key:Value}{k:Value→Prop}(h:oS kd zero ok H m key k){w:World}(hw:Own g H w){t kt e:TypeId}{i:TypeInfo}
 (ht:P.underlying t=some (.map kt e))(hk:P.underlying kt=some kd)(hp:plainKey kd=true)(hi:P.info? e=some i)(hz:i.zero=some zero):
  ∃v,(Instr.lookup t m key ok).run P w=.ok v w∧k v:=by
 obtain⟨es,r,hm,hf,hkv⟩:=h
 have eS:=fun b=>run_checkKey (P:=P) b hk hp key w
 have pO:=run_findKey (P:=P) hk hf w
 refine⟨_,?_,hkv⟩
 rcases hm.run (P:=P) hw with⟨rfl,rfl⟩|⟨b,clock,rfl,hg⟩
 ·cases r with
  |none=>cases ok<;>simp[Instr.lookup,run_underlying ht,eS,pO,dQ hi hz]
  |some x=>obtain⟨j,v⟩:=x;cases ok<;>simp[Instr.lookup,run_underlying ht,eS,pO]
 ·cases r with
  |none=>cases ok<;>simp[Instr.lookup,run_underlying ht,eS,pO,dQ hi hz,hg]
  |some x=>obtain⟨j,v⟩:=x;cases ok<;>simp[Instr.lookup,run_underlying ht,eS,pO,hg]
theorem bM{w:World}(hw:Own g H w){b:Nat}{es:Array MapEntry}{clock:Nat}(es':Array MapEntry)(clock':Nat){H':Hp}(hu:cM b (.map es clock) (.map es' clock') H H'):
  ∃w',(setObj b (.map es' clock')).run P w=.ok () w'∧Own g H' w':=by
 have hm:=hw.has _ hu.mem
 simp only at hm
 refine⟨{w with heap:=w.heap.setIfInBounds b (.map es' clock')},by simp[setObj,Sem.run,hm],?_⟩
 have hlt:=hw.lt hu.mem
 refine hw.cg hu rfl rfl rfl ?_ ?_
 ·simp only at hlt;simp[hlt]
 ·intro c hc;rw[Array.getElem?_setIfInBounds,if_neg (fun e=>hc (Eq.symm e))]
theorem gF.run{kd:TypeDesc}{m key val:Value}{k:Hp→Prop}(h:gF kd H m key val k){w:World}(hw:Own g H w){t kt e:TypeId}
 (ht:P.underlying t=some (.map kt e))(hk:P.underlying kt=some kd)(hp:plainKey kd=true):
  ∃w' H',(Instr.mapUpdate t m key val).run P w=.ok () w'∧Own g H' w'∧k H':=by
 obtain⟨b,es,clock,r,rfl,hf,hr⟩:=h
 have eS:=fun b=>run_checkKey (P:=P) b hk hp key w
 have pO:=run_findKey (P:=P) hk hf w
 cases r with
 |none=>
  obtain⟨H',hu,hkk⟩:=hr
  obtain⟨w',hs,ho⟩:=bM (P:=P) hw _ _ hu
  refine⟨w',H',?_,ho,hkk⟩
  simp[Instr.mapUpdate,run_underlying ht,aW hw hu.mem,eS,pO,hs]
 |some x=>
  obtain⟨j,v⟩:=x
  obtain⟨hsame,hj,H',hu,hkk⟩:=hr
  obtain⟨w',hs,ho⟩:=bM (P:=P) hw _ _ hu
  refine⟨w',H',?_,ho,hkk⟩
  have Y5:=hsame es[j] (Array.getElem?_eq_getElem hj)
  simp[Instr.mapUpdate,run_underlying ht,aW hw hu.mem,eS,pO,hj,Instr.keyThatStays,Y5,hs]
theorem oR.run{kd:TypeDesc}{m key:Value}{k:Hp→Prop}(h:oR kd H m key k){w:World}(hw:Own g H w){t kt e ty:TypeId}{as:Array TypeId}(has:as[0]? =some t)
 (ht:P.underlying t=some (.map kt e))(hk:P.underlying kt=some kd)(hp:plainKey kd=true):
  ∃w' H',(Builtin.delete_ as ty #[m,key]).run P w=.ok (.tuple #[]) w'∧Own g H' w'∧k H':=by
 have eS:=fun b=>run_checkKey (P:=P) b hk hp key w
 rcases h with⟨rfl,hkk⟩|⟨b,es,clock,r,rfl,hf,hr⟩
 ·exact⟨w,H,by simp[Builtin.delete_,has,run_underlying ht,eS],hw,hkk⟩
 ·have pO:=run_findKey (P:=P) hk hf w
  cases r with
  |none=>
   obtain⟨hm,hkk⟩:=hr
   have hu:∃H',cM b (.map es clock) (.map es clock) H H'∧H'=H:=by
    clear hkk hf pO hw
    induction H with
    |nil=>simp at hm
    |cons x R ih=>
     rcases List.mem_cons.1 hm with e|hm'
     ·subst e;exact⟨_,.head _,rfl⟩
     ·obtain⟨H',u,rfl⟩:=ih hm';exact⟨_,.tail u,rfl⟩
   obtain⟨H',hu,rfl⟩:=hu
   obtain⟨w',hs,ho⟩:=bM (P:=P) hw _ _ hu
   exact⟨w',_,by simp[Builtin.delete_,has,run_underlying ht,aW hw hm,eS,pO,hs],ho,hkk⟩
  |some x=>
   obtain⟨j,v⟩:=x
   obtain⟨H',hu,hkk⟩:=hr
   obtain⟨w',hs,ho⟩:=bM (P:=P) hw _ _ hu
   exact⟨w',_,by simp[Builtin.delete_,has,run_underlying ht,aW hw hu.mem,eS,pO,hs],ho,hkk⟩
theorem Ai{kd:TypeDesc}(h:cF kd=true)(key:Value)(es:List MapEntry)(i:Nat):Instr.findNow kd key es i=if es=[]then some none else none:=by
 cases es with
 |nil=>rfl
 |cons e r=>
  simp only[Instr.findNow,reduceCtorEq,if_false]
  cases kd<;>simp[cF]at h<;>rfl
theorem l5{kt:TypeId}{key:Value}:∀{es:List MapEntry} {i:Nat} {r:Option (Nat×Value)},lE P kt key es i r→∀w,(Instr.findAsking kt key es i).run P w=.ok r w
 | [],i,r,h,w=>by simp only[lE]at h;subst h;rfl
 |e::es,i,r,h,w=>by
  obtain⟨b,he,h1,h2⟩:=h
  simp only[Instr.findAsking,Sem.run_bind,he w,Result.andThen_ok]
  cases b
  ·simp only[Bool.false_eq_true,if_false];exact l5 (h2 rfl) w
  ·simp only[if_true,h1 rfl,Sem.run_pure]
theorem fO{t:TypeId}{d:TypeDesc}(hd:P.underlying t=some d)(ha:cF d=true){key:Value}{es:List MapEntry}{r:Option (Nat×Value)}(h:lE P t key es 0 r)(w:World):
  (Instr.findKey t key es).run P w=.ok r w:=by
 simp only[Instr.findKey,Sem.run_bind,run_underlying hd,Result.andThen_ok,Ai ha]
 cases es with
 |nil=>simp only[lE]at h;subst h;simp
 |cons e es=>simp only[reduceCtorEq,if_false];exact l5 h w
theorem jB.run{zero:Value}{ok:Bool}{m key:Value}{k:Value→Prop}{t kt e:TypeId}{kd:TypeDesc}(h:jB P kt zero ok H m key k){w:World}(hw:Own g H w){i:TypeInfo}
 (ht:P.underlying t=some (.map kt e))(hk:P.underlying kt=some kd)(hp:cF kd=true)(hi:P.info? e=some i)(hz:i.zero=some zero):
  ∃v,(Instr.lookup t m key ok).run P w=.ok v w∧k v:=by
 obtain⟨es,r,hm,hc,hf,hkv⟩:=h
 have eS:=fun b=>hc b w
 have pO:=fO (P:=P) hk hp hf w
 refine⟨_,?_,hkv⟩
 rcases hm.run (P:=P) hw with⟨rfl,rfl⟩|⟨b,clock,rfl,hg⟩
 ·cases r with
  |none=>cases ok<;>simp[Instr.lookup,run_underlying ht,eS,pO,dQ hi hz]
  |some x=>obtain⟨j,v⟩:=x;cases ok<;>simp[Instr.lookup,run_underlying ht,eS,pO]
 ·cases r with
  |none=>cases ok<;>simp[Instr.lookup,run_underlying ht,eS,pO,dQ hi hz,hg]
  |some x=>obtain⟨j,v⟩:=x;cases ok<;>simp[Instr.lookup,run_underlying ht,eS,pO,hg]
theorem iE.run{m key val:Value}{k:Hp→Prop}{t kt e:TypeId}{kd:TypeDesc}(h:iE P kt H m key val k){w:World}(hw:Own g H w)
 (ht:P.underlying t=some (.map kt e))(hk:P.underlying kt=some kd)(hp:cF kd=true):
  ∃w' H',(Instr.mapUpdate t m key val).run P w=.ok () w'∧Own g H' w'∧k H':=by
 obtain⟨b,es,clock,r,rfl,hc,hf,hr⟩:=h
 have eS:=fun b=>hc b w
 have pO:=fO (P:=P) hk hp hf w
 cases r with
 |none=>
  obtain⟨H',hu,hkk⟩:=hr
  obtain⟨w',hs,ho⟩:=bM (P:=P) hw _ _ hu
  refine⟨w',H',?_,ho,hkk⟩
  simp[Instr.mapUpdate,run_underlying ht,aW hw hu.mem,eS,pO,hs]
 |some x=>
  obtain⟨j,v⟩:=x
  obtain⟨hsame,hj,H',hu,hkk⟩:=hr
  obtain⟨w',hs,ho⟩:=bM (P:=P) hw _ _ hu
  refine⟨w',H',?_,ho,hkk⟩
  have Y5:=hsame es[j] (Array.getElem?_eq_getElem hj)
  simp[Instr.mapUpdate,run_underlying ht,aW hw hu.mem,eS,pO,hj,Instr.keyThatStays,Y5,hs]
theorem cM.same{b:Nat}{o:Obj}{H:Hp}(hm:(b,o)∈H):cM b o o H H:=by
 induction H with
 |nil=>simp at hm
 |cons x R ih=>
  rcases List.mem_cons.1 hm with e|hm'
  ·subst e;exact .head _
  ·exact .tail (ih hm')
theorem p9.run{m key:Value}{k:Hp→Prop}{t kt e ty:TypeId}{kd:TypeDesc}{as:Array TypeId}(h:p9 P kt H m key k){w:World}(hw:Own g H w)(has:as[0]? =some t)
 (ht:P.underlying t=some (.map kt e))(hk:P.underlying kt=some kd)(hp:cF kd=true):
  ∃w' H',(Builtin.delete_ as ty #[m,key]).run P w=.ok (.tuple #[]) w'∧Own g H' w'∧k H':=by
 obtain⟨hc,h⟩:=h
 have eS:=fun b=>hc b w
 rcases h with⟨rfl,hkk⟩|⟨b,es,clock,r,rfl,hf,hr⟩
 ·exact⟨w,H,by simp[Builtin.delete_,has,run_underlying ht,eS],hw,hkk⟩
 ·have pO:=fO (P:=P) hk hp hf w
  cases r with
  |none=>
   obtain⟨hm,hkk⟩:=hr
   obtain⟨w',hs,ho⟩:=bM (P:=P) hw _ _ (cM.same hm)
   exact⟨w',_,by simp[Builtin.delete_,has,run_underlying ht,aW hw hm,eS,pO,hs],ho,hkk⟩
  |some x=>
   obtain⟨j,v⟩:=x
   obtain⟨H',hu,hkk⟩:=hr
   obtain⟨w',hs,ho⟩:=bM (P:=P) hw _ _ hu
   exact⟨w',_,by simp[Builtin.delete_,has,run_underlying ht,aW hw hu.mem,eS,pO,hs],ho,hkk⟩
theorem Vu.run{x:Value}{k:Value→Hp→Prop}(h:Vu H x k){w:World}(hw:Own g H w){t kt e:TypeId}(ht:P.underlying t=some (.map kt e)):
  ∃v w' H',(Instr.range t x).run P w=.ok v w'∧Own g H' w'∧k v H':=by
 rcases h with⟨rfl,hk⟩|⟨m,es,clock,rfl,hm,hk⟩
 ·refine⟨_,_,_,?_,hw.alloc _,hk _ hw.fresh⟩
  simp[Instr.range,run_underlying ht]
 ·refine⟨_,_,_,?_,hw.alloc _,hk _ hw.fresh⟩
  simp[Instr.range,run_underlying ht,aW hw hm]
theorem lz{w:World}(hw:Own g H w){b:Nat}{mo:Option Nat}{since last:Nat}{seen:Array Nat}(hm:(b,Obj.mapIter mo since seen last)∈H):(getObj b).run P w=.ok (.mapIter mo since seen last) w:=by
 have:=hw.has _ hm
 simp only at this
 simp[getObj,Sem.run,this]
theorem rW{w:World}(hw:Own g H w){b:Nat}{mo mo':Option Nat}{since last since' last':Nat}{seen seen':Array Nat}{H':Hp}(hu:cM b (.mapIter mo since seen last) (.mapIter mo' since' seen' last') H H'):
  ∃w',(setObj b (.mapIter mo' since' seen' last')).run P w=.ok () w'∧Own g H' w':=by
 have hm:=hw.has _ hu.mem
 simp only at hm
 refine⟨{w with heap:=w.heap.setIfInBounds b (.mapIter mo' since' seen' last')},by simp[setObj,Sem.run,hm],?_⟩
 have hlt:=hw.lt hu.mem
 refine hw.cg hu rfl rfl rfl ?_ ?_
 ·simp only at hlt;simp[hlt]
 ·intro c hc;rw[Array.getElem?_setIfInBounds,if_neg (fun e=>hc (Eq.symm e))]
theorem JA.run{it:Value}{k:Value→Prop}(h:JA H it k){w:World}(hw:Own g H w):∃v,(Instr.entry it).run P w=.ok v w∧k v:=by
 obtain⟨b,m,since,seen,stamp,clock,es,e,rfl,hb,hs,hm,hf,hk⟩:=h
 refine⟨_,?_,hk⟩
 simp[Instr.entry,lz (P:=P) hw hb,hs,aW (P:=P) hw hm,hf]
theorem rX(n:Nat)(hn:0<n){w:World}:∃i w',(choose (.mapNext n)).run P w=.ok i w'∧i<n∧(w'=w∨w'=w.drew):=by
 by_cases h:n≤1
 ·exact⟨0,w,by simp[choose,Sem.run,Question.forced,h],hn,.inl rfl⟩
 ·exact⟨_,_,by simp only[choose,Sem.run,Question.forced,h,decide_false,Bool.false_eq_true,if_false];rfl,Nat.mod_lt _ hn,.inr rfl⟩
theorem Uu.run{it:Value}{k:Value→Hp→Prop}(h:Uu H it k){w:World}(hw:Own g H w){ty:TypeId}:
  ∃v w' H',(Instr.next it false ty).run P w=.ok v w'∧Own g H' w'∧k v H':=by
 obtain⟨b,mo,since,seen,last,rfl,hb,h⟩:=h
 have hgi:=lz (P:=P) hw hb
 cases mo with
 |none=>exact⟨_,w,H,by simp[Instr.next,hgi],hw,h⟩
 |some m=>
  obtain⟨es,clock,hm,Mn,WH,Wz⟩:=h
  have hgm:=aW (P:=P) hw hm
  have WK:(!seen.isEmpty&& !es.isEmpty&&es.all (fun e=>decide (e.born≥last)))=false:=by
   cases he:es.isEmpty
   ·have hne:es≠#[]:=by intro e;rw[e]at he;simp at he
    have:es.all (fun e=>decide (e.born≥last))=false:=by
     rw[←Bool.not_eq_true,Array.all_eq_true]
     intro aJ
     have h0:0<es.size:=Array.size_pos_iff.2 hne
     have:=aJ 0 h0
     have h2:=(Mn es[0] (by simp)).2
     simp only[ge_iff_le,decide_eq_true_eq]at this
     omega
    rw[this];simp
   ·simp
  have hold:((es.filter fun e=> !seen.contains e.born).filter fun e=>decide (e.born<since))=es.filter fun e=> !seen.contains e.born:=by
   rw[Array.filter_eq_self]
   intro e he
   have:=(Array.mem_filter.1 he).1
   exact decide_eq_true (Mn e (by simpa using this)).1
  have hnew:((es.filter fun e=> !seen.contains e.born).filter fun e=>decide (e.born≥since))=#[]:=by
   rw[Array.filter_eq_empty_iff]
   intro e he
   have:=(Array.mem_filter.1 he).1
   have:=(Mn e (by simpa using this)).1
   simp only[ge_iff_le,decide_eq_true_eq];omega
  generalize hleft:(es.filter fun e=> !seen.contains e.born)=left at hold hnew
  have hrun:∀(rest:Sem Value),(Instr.next (.pointer (some ⟨b,0,none⟩)) false ty).run P w=((choose (.mapNext (((if left.isEmpty then#[none]else#[])++left.map some).size))).run P w).andThen fun i w=>(Sem.run P (match((if left.isEmpty then#[none]else#[])++left.map some)[i]? with
    |some (some e)=>do setObj b (.mapIter (some m) since (seen.push e.born) clock);pure (.tuple #[.bool true,e.key,e.val])
    |some none=>pure (.tuple #[.bool false])
    |none=>stuck "Next: no such candidate" :Sem Value) w):=by
   intro _
   simp only[Instr.next,Sem.run_bind,hgi,Result.andThen_ok,hgm,WK,Bool.false_eq_true,if_false,hleft,hold,hnew,Array.append_empty,Sem.run_pure]
   rfl
  rw[hrun (pure undef)]
  by_cases TC:left=#[]
  ·subst TC
   simp only[Array.isEmpty_empty,if_true,Array.map_empty,Array.append_empty]
   refine⟨_,w,H,?_,hw,Wz fun e he=>?_⟩
   ·simp[choose,Sem.run,Question.forced]
   ·have:=Array.filter_eq_empty_iff.1 hleft e (by simpa using he)
    simpa using this
  ·have hne:left.isEmpty=false:=by simpa using TC
   have hpos:0<left.size:=Array.size_pos_iff.2 TC
   simp only[hne,Bool.false_eq_true,if_false,Array.empty_append,Array.size_map]
   obtain⟨i,w1,hc,hi,kF⟩:=rX (P:=P) (w:=w) left.size hpos
   rw[hc]
   simp only[Result.andThen_ok]
   have gB:(left.map some)[i]? =some (some left[i]):=by simp[hi]
   simp only[gB]
   have hmem:left[i]∈es.filter fun e=> !seen.contains e.born:=by rw[hleft];exact Array.getElem_mem hi
   obtain⟨NZ,Vk⟩:=Array.mem_filter.1 hmem
   obtain⟨H',hu,hk⟩:=WH left[i] (by simpa using NZ) (by simpa using Vk)
   have zK:Own g H w1:=by rcases kF with rfl|rfl;exact hw;exact hw.drew
   obtain⟨w2,hs,o7⟩:=rW (P:=P) zK hu
   exact⟨_,w2,H',by simp[hs],o7,hk⟩
end
end Go.Sx
namespace Go.Sx
open Go
section
variable {P:Program} {g:Gh} {H:Hp} {K:Value→Hp→Prop} {KP:List PanicEntry→Hp→Prop}
def Yq(x:Value):Option Value:=
 match x with
 | .pointer (some a)=>some (.pointer (some a))
 | .func (.func f) a b=>some (.func (.func f) a b)
 | .iface t v=>some (.iface t v)
 |_=>none
def Nil(x:Value)(k:Value→Prop):Prop:=∃v,Yq x=some v∧k v
def PMk(fn:Fn)(a b:List Value)(k:Value→Prop):Prop:=k (.func fn a.toArray b.toArray)
def Build(P:Program)(t:TypeId)(parts:List (Nat×Value))(k:Value→Prop):Prop:=∃v,(∀w,(Instr.build t parts.toArray).run P w=.ok v w)∧k v
def lg(P:Program)(g:Gh)(o:Oper)(ρ:Operand→Value)(H:Hp)(k:Value→Prop):Prop:=
 ∃v,(∀w,Own g H w→(execOp ρ o).run P w=.ok (.value v) w)∧k v
def dg(P:Program)(t:TypeId):Option Nat:=match P.info? t with|some i=>some i.size|none=>none
def eW(P:Program)(t:TypeId):Option Value:=match P.info? t with|some i=>i.zero|none=>none
def tS(P:Program)(t:TypeId):Option Nat:=match P.info? t with|some i=>some i.bytes|none=>none
def AS(P:Program)(g:Gh)(o:Oper)(ρ:Operand→Value)(H:Hp)(k:Value→Prop):Prop:=
 match o.op with
 | .move x=>k (ρ x)
 | .assign x=>k (ρ x)
 | .pick c a b=>az (ρ c) (ρ a) (ρ b) k
 | .load t a=>
  match P.underlying t,dg P t with
  |some d,some n=>cond (cF d) (aD n H (ρ a) k) (Ld H (ρ a) k)
  |_,_=>False
 | .nilCheck x=>Nil (ρ x) k
 | .binOp op t x y _=>
  match P.underlying t with
  |some d=>match yf d with
   | .other=>lg P g o ρ H k
   |bk=>ae bk op (ρ x) (ρ y) k
  |none=>False
 | .unOp op _ x=>Un op (ρ x) k
 | .convert s d x=>
  match P.underlying s,P.underlying d with
  |some _,some (.int kd)=>aY kd (ρ x) k
  |some (.slice e),some .string=>match P.underlying e with
   |some (.int .u8)=>jO H (ρ x) k
   |_=>lg P g o ρ H k
  |_,_=>lg P g o ρ H k
 | .index t x i=>
  match P.underlying t with
  |some .string=>RG (ρ x) (ρ i) k
  |_=>lg P g o ρ H k
 | .fieldAddr s x f=>
  match P.underlying s with
  |some (.struct fs)=>match fs[f]? with
   |some fl=>match dg P fl.type with
    |some (_+1)=>aa fl.offset (ρ x) k
    |_=>False
   |none=>False
  |_=>False
 | .field s x f=>
  match P.underlying s with
  |some (.struct fs)=>match fs[f]? with
   |some fl=>match P.underlying fl.type,dg P fl.type with
    |some d,some n=>cond (cF d) (QC fl.offset n (ρ x) k) (Ol fl.offset (ρ x) k)
    |_,_=>False
   |none=>False
  |_=>False
 | .indexAddr t x i=>
  match P.underlying t with
  |some (.slice e)=>match dg P e with
   |some n=>ah n (ρ x) (ρ i) k
   |none=>False
  |some (.array len e)=>match dg P e with
   |some n=>ik len n (ρ x) (ρ i) k
   |none=>False
  |_=>False
 | .slice t x lo hi none=>
  match P.underlying t with
  |some (.slice e)=>match dg P e with
   |some n=>fc n (ρ x) (lo.map ρ) (hi.map ρ) k
   |none=>False
  |_=>lg P g o ρ H k
 | .extract t i=>Ext i (ρ t) k
 | .lookup t m key ok=>
  match P.underlying t with
  |some (.map kt e)=>match P.underlying kt,eW P e with
   |some kd,some z=>cond (plainKey kd) (oS kd z ok H (ρ m) (ρ key) k) (cond (cF kd) (jB P kt z ok H (ρ m) (ρ key) k) (lg P g o ρ H k))
   |_,_=>False
  |_=>False
 | .makeFunc fn a b=>PMk fn (a.toList.map ρ) (b.toList.map ρ) k
 | .build t parts=>Build P t (parts.toList.map fun p=>(p.1,ρ p.2)) k
 | .makeInterface t x=>
  match P.underlying t with
  |some (.interface _)=>False
  |some _=>k (.iface t (ρ x))
  |none=>False
 | .call c=>
  match c.callee with
  | .builtin .len=>
   match c.args.toList,c.argTypes.toList with
   | [x],[t]=>match P.underlying t with
    |some (.slice _)=>aO (ρ x) k
    |some (.map _ _)=>yl H (ρ x) k
    |some .string=>Uv (ρ x) k
    |_=>lg P g o ρ H k
   |_,_=>False
  | .builtin .max=>match c.args.toList,c.argTypes.toList with
   | [x,y],[t,_]=>match P.underlying t with
    |some (.int _)=>Ny (ρ x) (ρ y) k
    |_=>lg P g o ρ H k
   |_,_=>lg P g o ρ H k
  | .builtin .min=>match c.args.toList,c.argTypes.toList with
   | [x,y],[t,_]=>match P.underlying t with
    |some (.int _)=>Qw (ρ x) (ρ y) k
    |_=>lg P g o ρ H k
   |_,_=>lg P g o ρ H k
  | .builtin _=>lg P g o ρ H k
  |_=>False
 |_=>lg P g o ρ H k
theorem mapList{α β:Type}(f:α→β)(a:Array α):(a.toList.map f).toArray=a.map f:=by rw[←Array.toList_map,Array.toArray_toList]
theorem X8{α:Type}{a:Array α}{x:α}(h:a.toList=[x]):a=#[x]:=by cases a;simp_all
theorem Ay{α:Type}{a:Array α}{x y:α}(h:a.toList=[x,y]):a=#[x,y]:=by cases a;simp_all
theorem Ld.fix{p:Value}{k:Value→Prop}(h:Ld H p k):∃v,k v∧Ld H p (· =v):=by
 obtain⟨b,off,c,T,fz,v,h1,h2,h3,hk⟩:=h;exact⟨v,hk,b,off,c,T,fz,v,h1,h2,h3,rfl⟩
theorem aD.fix{n:Nat}{p:Value}{k:Value→Prop}(h:aD n H p k):∃v,k v∧aD n H p (· =v):=by
 obtain⟨b,off,c,T,fz,h1,h2,h3,hk⟩:=h;exact⟨_,hk,b,off,c,T,fz,h1,h2,h3,rfl⟩
theorem oS.fix{kd:TypeDesc}{zero:Value}{ok:Bool}{m key:Value}{k:Value→Prop}(h:oS kd zero ok H m key k):∃v,k v∧oS kd zero ok H m key (· =v):=by
 obtain⟨es,r,h1,h2,hk⟩:=h;exact⟨_,hk,es,r,h1,h2,rfl⟩
theorem yl.fix{x:Value}{k:Value→Prop}(h:yl H x k):∃v,k v∧yl H x (· =v):=by
 obtain⟨m,h1,⟨h2,hk⟩|⟨b,es,clock,h2,h3,hk⟩⟩:=h
 ·exact⟨_,hk,m,h1,.inl ⟨h2,rfl⟩⟩
 ·exact⟨_,hk,m,h1,.inr ⟨b,es,clock,h2,h3,rfl⟩⟩
theorem jB.fix{kt:TypeId}{zero:Value}{ok:Bool}{m key:Value}{k:Value→Prop}(h:jB P kt zero ok H m key k):∃v,k v∧jB P kt zero ok H m key (· =v):=by
 obtain⟨es,r,h1,h2,h3,hk⟩:=h;exact⟨_,hk,es,r,h1,h2,h3,rfl⟩
theorem B6{F:Value→ByteArray→Sem (ForInStep ByteArray)}(hF:∀(b:UInt8) s,F (.int .u8 b.toNat) s=pure (.yield (s.push b))){l:List UInt8}(s:ByteArray)(w:World):
  (forIn (l.map fun b=>Value.int .u8 b.toNat) s F).run P w=.ok (⟨s.data++l.toArray⟩:ByteArray) w:=by
 induction l generalizing s with
 |nil=>simp
 |cons b r ih=>
  simp only[List.map_cons,List.forIn_cons,hF,Sem.run_bind,Sem.run_pure,Result.andThen_ok]
  rw[ih]
  congr 1
  simp[ByteArray.push]
theorem jO.run{x:Value}{k:Value→Prop}(h:jO H x k){w:World}(hw:Own g H w):∃v,(Conv.bytesToString x).run P w=.ok v w∧k v:=by
 obtain⟨base,n,c,bs,rfl,hc,hn,hk⟩:=h
 refine⟨_,?_,hk⟩
 cases base with
 |none=>
  simp only[Cells]at hc
  have:bs=[]:=by simpa using congrArg Array.size hc
  subst this;rfl
 |some a=>
  have:=Cells.run (P:=P) (size:=1) (cap:=c) hw (by rw[Nat.mul_one];exact hc)
  simp only[Builtin.firstCells,Nat.mul_one]at this
  simp only[Conv.bytesToString,Sem.run_bind,this,Result.andThen_ok]
  rw[List.forIn_toArray,B6 (P:=P) (l:=bs) (fun b s=>by simp)]
  have e:ByteArray.empty.data=#[]:=rfl
  simp[e]
theorem jO.fix{x:Value}{k:Value→Prop}(h:jO H x k):∃v,k v∧jO H x (· =v):=by
 obtain⟨base,n,c,bs,h1,h2,h3,hk⟩:=h;exact⟨_,hk,base,n,c,bs,h1,h2,h3,rfl⟩
def Reads(P:Program)(g:Gh)(o:Oper)(ρ:Operand→Value)(H:Hp)(k:Value→Prop):Prop:=
 ∃v,k v∧∀w,Own g H w→(execOp ρ o).run P w=.ok (.value v) w
theorem Reads.mk{o:Oper}{ρ:Operand→Value}{k:Value→Prop}{s:Sem Value}(he:execOp ρ o=(do pure (.value (←s))))(h:∃v,k v∧∀w,Own g H w→s.run P w=.ok v w):Reads P g o ρ H k:=by
 obtain⟨v,hk,hr⟩:=h
 refine⟨v,hk,fun w hw=>?_⟩
 rw[he]
 simp only[Sem.run_bind,hr w hw,Result.andThen_ok,Sem.run_pure]
theorem lg.reads{o:Oper}{ρ:Operand→Value}{k:Value→Prop}(h:lg P g o ρ H k):Reads P g o ρ H k:=let ⟨v,h1,h2⟩:=h;⟨v,h2,h1⟩
theorem UZ{s:Sem Value}{k:Value→Prop}{C:(Value→Prop)→Prop}(ab5:∃v,k v∧C (· =v))(hrun:∀(k:Value→Prop),C k→∀w,Own g H w→∃v,s.run P w=.ok v w∧k v):
  ∃v,k v∧∀w,Own g H w→s.run P w=.ok v w:=by
 obtain⟨v,hk,hc⟩:=ab5
 refine⟨v,hk,fun w hw=>?_⟩
 obtain⟨u,hr,rfl⟩:=hrun _ hc w hw
 exact hr
theorem bC{t:TypeId}{n:Nat}(h:dg P t=some n):∃i,P.info? t=some i∧i.size=n:=by
 unfold dg at h
 split at h
 ·rename_i i hi;exact⟨i,hi,by simpa using h⟩
 ·simp at h
theorem cI{t:TypeId}{z:Value}(h:eW P t=some z):∃i,P.info? t=some i∧i.zero=some z:=by
 unfold eW at h
 split at h
 ·rename_i i hi;exact⟨i,hi,by simpa using h⟩
 ·simp at h
theorem j3{o:Oper}{ρ:Operand→Value}{k:Value→Prop}(h:AS P g o ρ H k):Reads P g o ρ H k:=by
 obtain⟨dst,op,type,pos,after,guard⟩:=o
 cases op<;>simp only[AS]at h
 case move x=>exact⟨_,h,fun w _=>rfl⟩
 case assign x=>exact⟨_,h,fun w _=>rfl⟩
 case pick c a b=>
  obtain⟨t,hc,hk⟩:=h
  refine⟨_,hk,fun w _=>?_⟩
  cases t<;>simp[execOp,hc,asBool]
 case load t a=>
  split at h
  ·rename_i d n hd hn
   obtain⟨i,hi,hin⟩:=bC hn
   refine Reads.mk (s:=Instr.loadAt t (ρ a)) rfl ?_
   cases ha:cF d<;>simp only[ha,cond_true,cond_false]at h
   ·exact UZ h.fix fun k hk w hw=>hk.run hw hd ha
   ·exact UZ h.fix fun k hk w hw=>hk.run hw hd ha hi hin
  ·exact h.elim
 case nilCheck x=>
  obtain⟨v,hv,hk⟩:=h
  refine⟨v,hk,fun w _=>?_⟩
  unfold Yq at hv
  simp only[execOp]
  split at hv<;>simp only[Option.some.injEq,reduceCtorEq]at hv<;>subst hv<;>simp_all
 case binOp op t x y yt=>
  split at h
  ·rename_i d hd
   split at h
   ·exact h.reads
   ·rename_i Zd
    refine Reads.mk (s:=do eqGuard op t x y (ρ x) (ρ y);binOp op t (ρ x) (ρ y)) rfl ?_
    obtain⟨v,hv,hk⟩:=h
    exact⟨v,hk,fun w _=>by
     obtain⟨u,hr,rfl⟩:=ae.run (P:=P) (k:=(· =v)) ⟨v,hv,rfl⟩ w (ox:=x) (oy:=y) hd rfl
     exact hr⟩
  ·exact h.elim
 case unOp op t x=>
  obtain⟨v,hv,hk⟩:=h
  refine Reads.mk (s:=Op.unary op (ρ x)) rfl ⟨v,hk,fun w _=>?_⟩
  obtain⟨u,hr,rfl⟩:=Un.run (P:=P) (k:=(· =v)) ⟨v,hv,rfl⟩ w
  exact hr
 case convert s d x=>
  split at h
  ·rename_i ds kd hs hd
   obtain⟨j,n,hx,hk⟩:=h
   refine Reads.mk (s:=Go.convert s d (ρ x)) rfl ⟨_,hk,fun w _=>?_⟩
   obtain⟨u,hr,rfl⟩:=aY.run (P:=P) (kd:=kd) (k:=(· =_)) ⟨j,n,hx,rfl⟩ w hs hd rfl
   exact hr
  ·rename_i e hs hd
   split at h
   ·rename_i he
    refine Reads.mk (s:=Go.convert s d (ρ x)) rfl ?_
    have:∀w,(Go.convert s d (ρ x)).run P w=(Conv.bytesToString (ρ x)).run P w:=fun w=>by
     obtain⟨base,n,c,bs,hx,_⟩:=h
     simp only[Go.convert,Sem.run_bind,run_underlying hs,run_underlying hd,Result.andThen_ok,hx,run_underlying he]
    simp only[this]
    exact UZ h.fix fun k hk w hw=>hk.run hw
   ·exact h.reads
  ·exact h.reads
 case index t x i=>
  split at h
  ·rename_i ht
   obtain⟨s,kd,j,b,hx,hi,h0,hb,hk⟩:=h
   refine Reads.mk (s:=Instr.index t (ρ x) (ρ i)) rfl ⟨_,hk,fun w _=>?_⟩
   simp[Instr.index,run_underlying ht,hx,hi,asIntOf,h0,hb]
  ·exact h.reads
 case fieldAddr s x f=>
  split at h<;>try exact h.elim
  rename_i fs hs
  split at h<;>try exact h.elim
  rename_i fl hf
  split at h<;>try exact h.elim
  rename_i m hm
  obtain⟨i,hi,hin⟩:=bC hm
  obtain⟨b,o,hx,hk⟩:=h
  refine Reads.mk (s:=Instr.fieldAt s (ρ x) f) rfl ⟨_,hk,fun w _=>?_⟩
  obtain⟨u,hr,rfl⟩:=aa.run (P:=P) (k:=(· =_)) ⟨b,o,hx,rfl⟩ w hs hf hi (by omega) rfl
  exact hr
 case field s x f=>
  split at h<;>try exact h.elim
  rename_i fs hs
  split at h<;>try exact h.elim
  rename_i fl hf
  split at h<;>try exact h.elim
  rename_i d n hd hn
  obtain⟨i,hi,hin⟩:=bC hn
  refine Reads.mk (s:=Instr.field s (ρ x) f) rfl ?_
  cases ha:cF d<;>simp only[ha,cond_true,cond_false]at h
  ·obtain⟨cs,v,hx,hv,hk⟩:=h
   refine⟨v,hk,fun w _=>?_⟩
   obtain⟨u,hr,rfl⟩:=Ol.run (P:=P) (k:=(· =v)) ⟨cs,v,hx,hv,rfl⟩ w hs hf hd ha rfl
   exact hr
  ·obtain⟨cs,hx,hk⟩:=h
   refine⟨_,hk,fun w _=>?_⟩
   obtain⟨u,hr,rfl⟩:=QC.run (P:=P) (k:=(· =_)) ⟨cs,hx,rfl⟩ w hs hf hd ha hi hin rfl
   exact hr
 case indexAddr t x ix=>
  refine Reads.mk (s:=Instr.indexAt t (ρ x) (ρ ix)) rfl ?_
  split at h
  ·rename_i e ht
   split at h<;>try exact h.elim
   rename_i n hn
   obtain⟨i,hi,hin⟩:=bC hn
   obtain⟨b,o,n',c,kd,j,hx,hix,h0,h1,hk⟩:=h
   refine⟨_,hk,fun w _=>?_⟩
   obtain⟨u,hr,rfl⟩:=ah.run (P:=P) (k:=(· =_)) ⟨b,o,n',c,kd,j,hx,hix,h0,h1,rfl⟩ w ht hi hin
   exact hr
  ·rename_i len e ht
   split at h<;>try exact h.elim
   rename_i n hn
   obtain⟨i,hi,hin⟩:=bC hn
   obtain⟨b,o,kd,j,hx,hix,h0,h1,hk⟩:=h
   refine⟨_,hk,fun w _=>?_⟩
   obtain⟨u,hr,rfl⟩:=ik.run (P:=P) (k:=(· =_)) ⟨b,o,kd,j,hx,hix,h0,h1,rfl⟩ w ht hi hin
   exact hr
  ·exact h.elim
 case slice t x lo hi mx=>
  cases mx with
  |some m=>simp only at h;exact h.reads
  |none=>
   simp only at h
   split at h
   ·rename_i e ht
    split at h<;>try exact h.elim
    rename_i n hn
    obtain⟨i,hi',hin⟩:=bC hn
    obtain⟨a,n',c,l,hh,hx,hl,o8,h0,h1,h2,hk⟩:=h
    refine Reads.mk (s:=Instr.sliceAt t (ρ x) (lo.map ρ) (hi.map ρ) none) rfl ⟨_,hk,fun w _=>?_⟩
    obtain⟨u,hr,rfl⟩:=fc.run (P:=P) (k:=(· =_)) ⟨a,n',c,l,hh,hx,hl,o8,h0,h1,h2,rfl⟩ w ht hi' hin
    exact hr
   ·exact h.reads
 case extract t i=>
  obtain⟨vs,v,hx,hv,hk⟩:=h
  refine Reads.mk (s:=Instr.extract (ρ t) i) rfl ⟨v,hk,fun w _=>?_⟩
  obtain⟨u,hr,rfl⟩:=Ext.run (P:=P) (k:=(· =v)) ⟨vs,v,hx,hv,rfl⟩ w
  exact hr
 case lookup t m key ok=>
  split at h<;>try exact h.elim
  rename_i kt e ht
  split at h<;>try exact h.elim
  rename_i kd z zP hz
  obtain⟨i,hi,vc⟩:=cI hz
  cases hp:plainKey kd<;>simp only[hp,cond_true,cond_false]at h
  ·cases oI:cF kd<;>simp only[oI,cond_true,cond_false]at h
   ·exact h.reads
   ·exact Reads.mk (s:=Instr.lookup t (ρ m) (ρ key) ok) rfl (UZ h.fix fun k hk w hw=>hk.run hw ht zP oI hi vc)
  ·exact Reads.mk (s:=Instr.lookup t (ρ m) (ρ key) ok) rfl (UZ h.fix fun k hk w hw=>hk.run hw ht zP hp hi vc)
 case makeFunc fn a b=>
  refine⟨_,h,fun w _=>?_⟩
  simp[execOp,Instr.makeFunc,mapList]
 case build t parts=>
  obtain⟨v,hr,hk⟩:=h
  refine Reads.mk (s:=Instr.build t (parts.map fun(i,x)=>(i,ρ x))) rfl ⟨v,hk,fun w _=>?_⟩
  have:=hr w
  rw[mapList (fun p:Nat×Operand=>(p.1,ρ p.2)) parts]at this
  exact this
 case makeInterface t x=>
  split at h
  ·exact h.elim
  ·rename_i d Tk hd
   refine Reads.mk (s:=Instr.makeInterface t (ρ x)) rfl ⟨_,h,fun w _=>?_⟩
   simp only[Instr.makeInterface,Sem.run_bind,run_underlying hd,Result.andThen_ok]
   cases d<;>first|rfl|exact absurd hd (Tk _)
  ·exact h.elim
 case call c=>
  obtain⟨callee,args,argTypes⟩:=c
  cases callee with
  |value f=>simp only at h
  |invoke r m=>simp only at h
  |builtin b=>
   cases b<;>simp only at h<;>try exact h.reads
   case max=>
    split at h<;>try exact h.reads
    rename_i x y t t' hx ht
    split at h<;>try exact h.reads
    have hx:=Ay hx
    have ht:=Ay ht
    subst hx;subst ht
    obtain⟨kd,a,b,h1,h2,hk⟩:=h
    refine Reads.mk (s:=Builtin.max_ #[t,t'] type #[ρ x,ρ y]) (by simp[execOp,resolve,invoke,builtin,bind,Sem.bind];rfl) ⟨_,hk,fun w _=>?_⟩
    simp[Builtin.max_,Builtin.max2,h1,h2]
   case min=>
    split at h<;>try exact h.reads
    rename_i x y t t' hx ht
    split at h<;>try exact h.reads
    have hx:=Ay hx
    have ht:=Ay ht
    subst hx;subst ht
    obtain⟨kd,a,b,h1,h2,hk⟩:=h
    refine Reads.mk (s:=Builtin.min_ #[t,t'] type #[ρ x,ρ y]) (by simp[execOp,resolve,invoke,builtin,bind,Sem.bind];rfl) ⟨_,hk,fun w _=>?_⟩
    simp[Builtin.min_,Builtin.min2,h1,h2]
   split at h<;>try exact h.elim
   rename_i x t hx ht
   have hx:=X8 hx
   have ht:=X8 ht
   subst hx;subst ht
   split at h
   ·rename_i e hd
    refine Reads.mk (s:=Builtin.len_ #[t] type #[ρ x]) (by simp[execOp,resolve,invoke,builtin,bind,Sem.bind];rfl) ?_
    obtain⟨a,n,c,hx,hk⟩:=h
    refine⟨_,hk,fun w _=>?_⟩
    obtain⟨u,hr,rfl⟩:=aO.run (P:=P) (k:=(· =_)) ⟨a,n,c,hx,rfl⟩ w (ty:=type) hd
    exact hr
   ·rename_i e e' hd
    refine Reads.mk (s:=Builtin.len_ #[t] type #[ρ x]) (by simp[execOp,resolve,invoke,builtin,bind,Sem.bind];rfl) ?_
    exact UZ h.fix fun k hk w hw=>hk.run hw hd
   ·rename_i hd
    refine Reads.mk (s:=Builtin.len_ #[t] type #[ρ x]) (by simp[execOp,resolve,invoke,builtin,bind,Sem.bind];rfl) ?_
    obtain⟨s,hx,hk⟩:=h
    exact⟨_,hk,fun w _=>by simp[Builtin.len_,run_underlying hd,hx,goInt]⟩
   ·exact h.reads
 all_goals exact h.reads
def valOf(o:Oper)(ρ:Operand→Value)(v:Value):Prop:=
 match o.op with
 | .move x=>v=ρ x
 | .assign x=>v=ρ x
 | .pick c a b=>∀t,ρ c=.bool t→v=cond t (ρ a) (ρ b)
 |_=>True
theorem nk{o:Oper}{ρ:Operand→Value}{k:Value→Prop}(h:AS P g o ρ H k):∃v,k v∧(∀w,Own g H w→(execOp ρ o).run P w=.ok (.value v) w)∧valOf o ρ v:=by
 obtain⟨dst,op,type,pos,after,guard⟩:=o
 cases op
 case move x=>exact⟨_,h,fun w _=>rfl,rfl⟩
 case assign x=>exact⟨_,h,fun w _=>rfl,rfl⟩
 case pick c a b=>
  obtain⟨t,hc,hk⟩:=h
  refine⟨_,hk,fun w _=>?_,fun t' ht'=>?_⟩
  ·cases t<;>simp[execOp,hc,asBool]
  ·rw[hc]at ht';simp only[Value.bool.injEq]at ht';subst ht';rfl
 all_goals
  obtain⟨v,hk,hr⟩:=j3 h
  exact⟨v,hk,hr,trivial⟩
end
end Go.Sx
namespace Go.Sx
open Go
section
variable {P:Program} {g:Gh} {H:Hp} {K:Value→Hp→Prop} {KP:List PanicEntry→Hp→Prop}
def au(P:Program)(t len:Nat)(parts:List (Nat×Value))(H:Hp)(k:Value→Hp→Prop):Prop:=
 ∃cs,(∃e n z,P.underlying t=some (.slice e)∧dg P e=some n∧eW P e=some z∧len*n≤2^24∧
   Instr.fill (fun i=>some (i*n,n)) ((Array.range (len*n)).map (z.cells[· %z.cells.size]!)) parts=some cs∧
   bn H (.cells cs e (0,0)) fun b H'=>k (.slice (some ⟨b,0,none⟩) len len) H')
def NR(P:Program)(g:Gh)(o:Oper)(ρ:Operand→Value)(H:Hp)(K:Value→Hp→Prop)(KP:List PanicEntry→Hp→Prop):Prop:=
 match o.op with
 | .alloc t=>match eW P t with
  |some z=>bn H (.cells z.cells t (0,0)) fun b H'=>K (.pointer (some ⟨b,0,none⟩)) H'
  |none=>False
 | .box t x=>bn H (.cells (ρ x).cells t (0,0)) fun b H'=>K (.pointer (some ⟨b,0,none⟩)) H'
 | .store t a x=>match dg P t with
  |some n=>St n H (ρ a) (ρ x) fun H'=>K undef H'
  |none=>False
 | .buildSlice t len parts=>au P t len (parts.toList.map fun p=>(p.1,ρ p.2)) H K
 | .makeMap _ none=>n7 H K
 | .makeSlice t l c=>match P.underlying t with
  |some (.slice e)=>match dg P e,tS P e,eW P e with
   |some n,some b,some z=>cZ e n b z H (ρ l) (ρ c) K
   |_,_,_=>False
  |_=>False
 | .mapUpdate t m key x=>match P.underlying t with
  |some (.map kt _)=>match P.underlying kt with
   |some kd=>cond (plainKey kd) (gF kd H (ρ m) (ρ key) (ρ x) fun H'=>K undef H') (cond (cF kd) (iE P kt H (ρ m) (ρ key) (ρ x) fun H'=>K undef H') (mS P g o ρ H K KP))
   |none=>False
  |_=>False
 | .insert t m key x=>match P.underlying t with
  |some (.map kt _)=>match P.underlying kt with
   |some kd=>cond (plainKey kd) (gF kd H (ρ m) (ρ key) (ρ x) fun H'=>K undef H') (cond (cF kd) (iE P kt H (ρ m) (ρ key) (ρ x) fun H'=>K undef H') (mS P g o ρ H K KP))
   |none=>False
  |_=>False
 | .range t x=>match P.underlying t with
  |some (.map _ _)=>Vu H (ρ x) K
  |_=>mS P g o ρ H K KP
 | .next it false=>Uu H (ρ it) K
 | .entry it=>JA H (ρ it) fun v=>K v H
 | .call c=>
  match c.callee with
  | .value (.func f)=>cond (bA P f) (ag P g f (c.args.toList.map ρ).toArray H K KP) (mS P g o ρ H K KP)
  | .value f=>cC P g (ρ f) (c.args.toList.map ρ).toArray H K KP
  | .builtin .append=>
   match c.args.toList,c.argTypes.toList with
   | [s,x],[t,t']=>match P.underlying t,P.underlying t' with
    |some (.slice e),some (.slice _)=>match dg P e,tS P e,eW P e with
     |some n,some b,some z=>App P e n b z H (ρ s) (ρ x) K
     |_,_,_=>False
    |_,_=>mS P g o ρ H K KP
   |_,_=>False
  | .builtin .delete=>
   match c.args.toList,c.argTypes.toList with
   | [m,key],[t,_]=>match P.underlying t with
    |some (.map kt _)=>match P.underlying kt with
     |some kd=>cond (plainKey kd) (oR kd H (ρ m) (ρ key) fun H'=>K (.tuple #[]) H') (cond (cF kd) (p9 P kt H (ρ m) (ρ key) fun H'=>K (.tuple #[]) H') (mS P g o ρ H K KP))
     |none=>False
    |_=>False
   |_,_=>mS P g o ρ H K KP
  |_=>mS P g o ρ H K KP
 |_=>mS P g o ρ H K KP
theorem mK{t:TypeId}{n:Nat}(h:tS P t=some n):∃i,P.info? t=some i∧i.bytes=n:=by
 unfold tS at h
 split at h
 ·rename_i i hi;exact⟨i,hi,by simpa using h⟩
 ·simp at h
theorem mS.ofValue{o:Oper}{ρ:Operand→Value}{s:Sem Value}(he:execOp ρ o=(do pure (.value (←s))))(h:∀w,Own g H w→∃v w' H',s.run P w=.ok v w'∧Own g H' w'∧K v H'):mS P g o ρ H K KP:=by
 intro w hw
 obtain⟨v,w',H',hr,ho,hk⟩:=h w hw
 rw[he]
 simp only[Sem.run_bind,hr,Result.andThen_ok,Sem.run_pure]
 exact⟨H',ho,hk⟩
theorem mS.qz{o:Oper}{ρ:Operand→Value}{s:Sem Unit}(he:execOp ρ o=(do s;pure .skip))(h:∀w,Own g H w→∃w' H',s.run P w=.ok () w'∧Own g H' w'∧K undef H'):mS P g o ρ H K KP:=by
 intro w hw
 obtain⟨w',H',hr,ho,hk⟩:=h w hw
 rw[he]
 simp only[Sem.run_bind,hr,Result.andThen_ok,Sem.run_pure]
 exact⟨H',ho,hk⟩
theorem eV{f:FuncId}(h:bA P f=true)(args:Array Value)(w:World):(callFunc f args).run P w=.ok (.enter f args) w:=by
 unfold bA at h
 split at h
 ·simp at h
 ·rename_i fn hf
  simp only[Bool.and_eq_true,Bool.not_eq_true']at h
  obtain⟨h1,h2⟩:=h
  have h3:fn.body.isNone=false:=by cases hb:fn.body<;>simp_all
  simp only[callFunc,Sem.run_bind,run_program,Result.andThen_ok,hf,show(fn.name== "runtime.NumGoroutine")=false from h1,h3,Bool.false_eq_true,if_false]
  rfl
theorem cC.op{o:Oper}{c:Call}{ρ:Operand→Value}{x:Operand}(ho:o.op=.call c)(hc:c.callee=.value x)(h:cC P g (ρ x) (c.args.toList.map ρ).toArray H K KP):mS P g o ρ H K KP:=by
 obtain⟨f,first,captured,hf,gJ,Rk⟩:=h
 rw[mapList]at Rk
 intro w hw
 have hr:(execOp ρ o).run P w=.ok (.enter f (first++c.args.map ρ++captured)) w:=by
  simp only[execOp,ho,resolve,hc,Deferred.ofValue,hf,invoke]
  show(callFunc f (first++c.args.map ρ++captured)).run P w=_
  exact eV gJ _ w
 rw[hr]
 exact Rk w hw
theorem tc{o:Oper}{ρ:Operand→Value}(hρ:∀f,ρ (.func f)=.func (.func f) #[] #[])(h:NR P g o ρ H K KP):mS P g o ρ H K KP:=by
 unfold NR at h
 split at h
 case h_1 t hop=>
  split at h
  ·rename_i z hz
   obtain⟨i,hi,vc⟩:=cI hz
   refine mS.ofValue (s:=Instr.alloc t true (.tuple #[])) (by simp only[execOp,hop]) fun w hw=>⟨_,_,_,?_,hw.alloc _,h _ hw.fresh⟩
   simp[Instr.alloc,dQ hi vc,newVar,newRow]
  ·exact h.elim
 case h_2 t x hop=>
  refine mS.ofValue (s:=Instr.box t (ρ x)) (by simp only[execOp,hop]) fun w hw=>⟨_,_,_,?_,hw.alloc _,h _ hw.fresh⟩
  simp[Instr.box,newVar,newRow]
 case h_3 t a x hop=>
  split at h
  ·rename_i n hn
   obtain⟨i,hi,hin⟩:=bC hn
   exact mS.qz (s:=Instr.storeAt t (ρ a) (ρ x)) (by simp only[execOp,hop]) fun w hw=>h.run hw hi hin
  ·exact h.elim
 case h_4 t len parts hop=>
  obtain⟨cs,e,n,z,ht,hn,hz,hl,hf,hk⟩:=h
  obtain⟨i,hi,hin⟩:=bC hn
  obtain⟨i',hi',vc⟩:=cI hz
  have:i'=i:=Option.some.inj (hi'.symm.trans hi)
  subst this
  subst hin
  refine mS.ofValue (s:=Instr.buildSlice t len (parts.map fun(i,x)=>(i,ρ x))) (by simp only[execOp,hop]) fun w hw=>⟨_,_,_,?_,hw.alloc _,hk _ hw.fresh⟩
  have hl':¬(len*i'.size>2^24):=by omega
  have tw:(parts.map fun(x:Nat×Operand)=>(x.1,ρ x.2)).toList=parts.toList.map fun p=>(p.1,ρ p.2):=by rw[Array.toList_map]
  by_cases h0:len*i'.size=0
  ·simp only[Instr.buildSlice,Sem.run_bind,run_underlying ht,Result.andThen_ok,run_sizeOf hi,hl',if_false,h0,if_true,Sem.run_pure]
   rw[h0]at hf
   have Tc:Array.range 0=#[]:=rfl
   simp only[Tc,Array.map_empty,List.map_toArray,List.map_nil]at hf⊢
   rw[tw,hf]
   simp[newRow]
  ·simp only[Instr.buildSlice,Sem.run_bind,run_underlying ht,Result.andThen_ok,run_sizeOf hi,hl',if_false,h0,dQ hi vc,Sem.run_pure]
   simp[hf,newRow]
 case h_5 t hop=>
  refine mS.ofValue (s:=Instr.makeMap t none) (by simp only[execOp,hop];rfl) fun w hw=>⟨_,_,_,?_,hw.alloc _,h _ hw.fresh⟩
  simp[Instr.makeMap]
 case h_6 t l c hop=>
  split at h<;>try exact h.elim
  rename_i e ht
  split at h<;>try exact h.elim
  rename_i n b z hn hb hz
  obtain⟨i,hi,hin⟩:=bC hn
  obtain⟨i',hi',vc⟩:=cI hz
  obtain⟨i2,zR,tC⟩:=mK hb
  have e1:i'=i:=Option.some.inj (hi'.symm.trans hi)
  have e2:i2=i:=Option.some.inj (zR.symm.trans hi)
  subst e1;subst e2
  exact mS.ofValue (s:=Instr.makeSlice t (ρ l) (ρ c)) (by simp only[execOp,hop]) fun w hw=>h.run hw ht hi vc hin tC
 case h_7 t m key x hop=>
  split at h<;>try exact h.elim
  rename_i kt e ht
  split at h<;>try exact h.elim
  rename_i kd zP
  cases hp:plainKey kd<;>simp only[hp,cond_true,cond_false]at h
  ·cases oI:cF kd<;>simp only[oI,cond_true,cond_false]at h
   ·exact h
   ·exact mS.qz (s:=Instr.mapUpdate t (ρ m) (ρ key) (ρ x)) (by simp only[execOp,hop]) fun w hw=>h.run hw ht zP oI
  ·exact mS.qz (s:=Instr.mapUpdate t (ρ m) (ρ key) (ρ x)) (by simp only[execOp,hop]) fun w hw=>h.run hw ht zP hp
 case h_8 t m key x hop=>
  split at h<;>try exact h.elim
  rename_i kt e ht
  split at h<;>try exact h.elim
  rename_i kd zP
  cases hp:plainKey kd<;>simp only[hp,cond_true,cond_false]at h
  ·cases oI:cF kd<;>simp only[oI,cond_true,cond_false]at h
   ·exact h
   ·exact mS.qz (s:=Instr.mapUpdate t (ρ m) (ρ key) (ρ x)) (by simp only[execOp,hop]) fun w hw=>h.run hw ht zP oI
  ·exact mS.qz (s:=Instr.mapUpdate t (ρ m) (ρ key) (ρ x)) (by simp only[execOp,hop]) fun w hw=>h.run hw ht zP hp
 case h_9 t x hop=>
  split at h
  ·rename_i kt e ht
   exact mS.ofValue (s:=Instr.range t (ρ x)) (by simp only[execOp,hop]) fun w hw=>h.run hw ht
  ·exact h
 case h_10 it hop=>
  exact mS.ofValue (s:=Instr.next (ρ it) false o.type) (by simp only[execOp,hop]) fun w hw=>h.run hw
 case h_11 it hop=>
  exact mS.ofValue (s:=Instr.entry (ρ it)) (by simp only[execOp,hop]) fun w hw=>let ⟨v,hr,hk⟩:=h.run hw;⟨v,w,H,hr,hw,hk⟩
 case h_12 c hop=>
  split at h
  ·rename_i f hc
   cases gJ:bA P f<;>simp only[gJ,cond_true,cond_false]at h
   ·exact h
   ·rw[mapList]at h
    intro w hw
    have hr:(execOp ρ o).run P w=.ok (.enter f (c.args.map ρ)) w:=by
     simp only[execOp,hop,resolve,hc,Deferred.ofValue,hρ,invoke]
     show(callFunc f ((#[]++c.args.map ρ)++ #[])).run P w=_
     rw[Array.empty_append,Array.append_empty]
     exact eV gJ _ w
    rw[hr]
    exact h w hw
  ·rename_i x _ hc
   exact cC.op hop hc h
  ·rename_i hc
   split at h<;>try exact h.elim
   rename_i s x t t' hx ht
   have hx:=Ay hx
   have ht:=Ay ht
   split at h
   ·rename_i e e' hd c9
    split at h<;>try exact h.elim
    rename_i n b z hn hb hz
    obtain⟨i,hi,hin⟩:=bC hn
    obtain⟨i',hi',vc⟩:=cI hz
    obtain⟨i2,zR,tC⟩:=mK hb
    have e1:i'=i:=Option.some.inj (hi'.symm.trans hi)
    have e2:i2=i:=Option.some.inj (zR.symm.trans hi)
    subst e1;subst e2
    refine mS.ofValue (s:=Builtin.append_ #[t,t'] o.type #[ρ s,ρ x]) ?_ fun w hw=>h.run hw hd ⟨_,c9⟩ hi vc hin tC
    simp only[execOp,hop,resolve,hc,hx,ht,invoke,builtin]
    simp[bind,Sem.bind];rfl
   ·exact h
  ·rename_i hc
   split at h
   ·rename_i m key t t' hx ht
    have hx:=Ay hx
    have ht:=Ay ht
    split at h<;>try exact h.elim
    rename_i kt e hd
    split at h<;>try exact h.elim
    rename_i kd zP
    cases hp:plainKey kd<;>simp only[hp,cond_true,cond_false]at h
    ·cases oI:cF kd<;>simp only[oI,cond_true,cond_false]at h
     ·exact h
     ·refine mS.ofValue (s:=Builtin.delete_ #[t,t'] o.type #[ρ m,ρ key]) ?_ fun w hw=>?_
      ·simp only[execOp,hop,resolve,hc,hx,ht,invoke,builtin]
       simp[bind,Sem.bind];rfl
      ·obtain⟨w',H',hr,ho,hk⟩:=h.run (P:=P) hw (as:=#[t,t']) (ty:=o.type) rfl hd zP oI
       exact⟨_,w',H',hr,ho,hk⟩
    ·refine mS.ofValue (s:=Builtin.delete_ #[t,t'] o.type #[ρ m,ρ key]) ?_ fun w hw=>?_
     ·simp only[execOp,hop,resolve,hc,hx,ht,invoke,builtin]
      simp[bind,Sem.bind];rfl
     ·obtain⟨w',H',hr,ho,hk⟩:=h.run (P:=P) hw (as:=#[t,t']) (ty:=o.type) rfl hd zP hp
      exact⟨_,w',H',hr,ho,hk⟩
   ·exact h
  ·exact h
 all_goals exact h
end
end Go.Sx
namespace Go.Sx
open Go
section
variable {P:Program} {g:Gh} {ds:List Deferred}
def tu:Op→Bool
 | .move _| .assign _| .pick .. | .load .. | .nilCheck _| .binOp .. | .unOp .. | .convert .. | .fieldAddr .. | .field .. | .indexAddr .. | .index .. | .slice .. | .extract .. | .lookup .. | .makeFunc .. | .build .. | .makeInterface ..
 | .typeAssert .. =>true
 | .call c=>match c.callee with
  | .builtin .len| .builtin .cap| .builtin .min| .builtin .max=>true
  |_=>false
 |_=>false
def RK(P:Program)(g:Gh)(f:FuncId)(args:Array Value)(H:Hp)(k:Value→Prop):Prop:=
 ∃v,ai P g f args H (fun e H'=>e=.returned v∧H'=H)∧k v
def opQ(P:Program)(g:Gh)(o:Oper)(ρ:Operand→Value)(H:Hp)(k:Value→Prop):Prop:=
 match o.op with
 | .call c=>match c.callee with
  | .value (.func f)=>cond (bA P f) (RK P g f (c.args.toList.map ρ).toArray H k) False
  | .value x=>∃f first captured,ρ x=.func (.func f) first captured∧bA P f=true∧RK P g f (first++(c.args.toList.map ρ).toArray++captured) H k
  |_=>False
 |_=>False
def cr:Option (Nat×Bool)→Option (Nat×Bool)→Bool
 |none,none=>true
 |some (i,a),some (j,b)=>Nat.beq i j&& (a==b)
 |_,_=>false
theorem ir{x y:Option (Nat×Bool)}(h:cr x y=true):x=y:=by
 cases x with
 |none=>cases y<;>simp_all[cr]
 |some a=>
  obtain⟨i,a⟩:=a
  cases y with
  |none=>simp[cr]at h
  |some b=>
   obtain⟨j,b⟩:=b
   simp only[cr,Bool.and_eq_true,beq_iff_eq]at h
   rw[Nat.eq_of_beq_eq_true h.1,h.2]
def gj(cur:Option (Nat×Bool)):List Oper→List Oper
 | []=>[]
 |o::r=>cond (cr o.guard cur) [] (o::gj cur r)
def ij(cur:Option (Nat×Bool)):List Oper→List Oper
 | []=>[]
 |o::r=>cond (cr o.guard cur) (o::r) (ij cur r)
theorem rq(cur:Option (Nat×Bool))(l:List Oper):gj cur l++ij cur l=l:=by
 induction l with
 |nil=>rfl
 |cons o r ih=>simp only[gj,ij];cases cr o.guard cur<;>simp[ih]
def rz:List Oper→Fr→Fr
 | [],fr=>fr
 |o::r,fr=>rz r (cg fr o.dst undef)
def bH:List Oper→Nat→Bool
 | [],_=>false
 |o::r,s=>(match o.dst with|some d=>Nat.beq s d|none=>false)||bH r s
def gX(n:Nat):List Oper→Bool
 | []=>true
 |o::r=>dR n o.dst&&gX n r
def xZ(G:List Oper)(gs fr:Fr):Fr:=fun s=>cond (bH G s) (gs s) (fr s)
def oB(p:Oper)(fr:Fr):Value:=
 match p.op with
 | .pick c a b=>match ev fr c with
  | .bool t=>cond t (ev fr a) (ev fr b)
  |_=>undef
 |_=>undef
def qH(p:Oper):Bool:=match p.op with| .pick .. =>true|_=>false
def dX(ops:Array Oper)(j:Nat):Option Nat:=match ops[j]? with|some oj=>oj.dst|none=>none
def lX(ops:Array Oper)(s:Nat)(want:Bool):List Nat→List Oper→Bool
 |_,[]=>true
 |seen,o::r=>
  (match o.guard with
  |none=>false
  |some (j,w)=>match dX ops j with
   |none=>false
   |some t=>(Nat.beq t s&& (w==want))||seen.any (Nat.beq t)) &&
  lX ops s want (match o.dst with|some d=>d::seen|none=>seen) r
def bX(v:Value)(want:Bool)(inner els k:Bool→Prop):Prop:=∃a t:Bool,v=.bool a∧(a=want→inner t)∧(a= !want→els t)∧k t
def Split(v:Value)(want:Bool)(k1 k2:Prop):Prop:=∃a:Bool,v=.bool a∧(a=want→k1)∧(a= !want→k2)
def j8:List (Nat×Bool)→Nat→Option Bool
 | [],_=>none
 |(t,b)::r,s=>cond (Nat.beq t s) (some b) (j8 r s)
def lA:List (Nat×Bool)→Option Nat→List (Nat×Bool)
 |kn,none=>kn
 | [],some _=>[]
 |(t,b)::r,some d=>cond (Nat.beq t d) (lA r (some d)) ((t,b)::lA r (some d))
def kW:List (Nat×Bool)→List Oper→List (Nat×Bool)
 |kn,[]=>kn
 |kn,o::r=>kW (lA kn o.dst) r
def pI(kn:List (Nat×Bool)):Operand→Option Bool
 | .const (.bool b)=>some b
 | .tmp t=>j8 kn t
 |_=>none
def SN(kn:List (Nat×Bool))(o:Oper):Option Bool:=
 match o.op with
 | .move x=>pI kn x
 | .assign x=>pI kn x
 | .pick c a b=>match pI kn c with
  |some true=>pI kn a
  |some false=>pI kn b
  |none=>none
 |_=>none
def SM(kn:List (Nat×Bool))(o:Oper):List (Nat×Bool):=
 match SN kn o,o.dst with
 |some b,some d=>(d,b)::lA kn (some d)
 |_,d=>lA kn d
def g7(kn:List (Nat×Bool))(fr:Fr):Prop:=∀s b,j8 kn s=some b→fr s=.bool b
theorem g7.nil(fr:Fr):g7 [] fr:=fun s b h=>by simp[j8]at h
theorem wh{kn:List (Nat×Bool)}{d s:Nat}{b:Bool}(h:j8 (lA kn (some d)) s=some b):s≠d∧j8 kn s=some b:=by
 induction kn with
 |nil=>simp[lA,j8]at h
 |cons x r ih=>
  obtain⟨t,c⟩:=x
  simp only[lA]at h
  cases hb:Nat.beq t d<;>simp only[hb,cond_true,cond_false]at h
  ·simp only[j8]at h⊢
   cases hs:Nat.beq t s<;>simp only[hs,cond_true,cond_false]at h⊢
   ·exact ih h
   ·refine⟨fun e=>?_,h⟩
    have:=Nat.eq_of_beq_eq_true hs
    subst this;subst e;simp at hb
  ·have h':=ih h
   refine⟨h'.1,?_⟩
   simp only[j8]
   have:=Nat.eq_of_beq_eq_true hb
   subst this
   cases hs:Nat.beq t s
   ·exact h'.2
   ·exact absurd (Nat.eq_of_beq_eq_true hs).symm h'.1
theorem g7.del{kn:List (Nat×Bool)}{fr:Fr}(h:g7 kn fr)(d:Option Nat)(v:Value):g7 (lA kn d) (cg fr d v):=by
 cases d with
 |none=>cases kn<;>exact h
 |some d=>
  intro s b hs
  obtain⟨h1,h2⟩:=wh hs
  simp only[cg]
  cases hb:Nat.beq s d
  ·exact h s b h2
  ·exact absurd (Nat.eq_of_beq_eq_true hb) h1
theorem g7.put{kn:List (Nat×Bool)}{fr:Fr}(h:g7 kn fr){s:Nat}{b:Bool}(hs:fr s=.bool b):g7 ((s,b)::kn) fr:=by
 intro t c ht
 simp only[j8]at ht
 cases hb:Nat.beq s t<;>simp only[hb,cond_true,cond_false]at ht
 ·exact h t c ht
 ·have:=Nat.eq_of_beq_eq_true hb;subst this;simp only[Option.some.injEq]at ht;subst ht;exact hs
theorem j7{kn:List (Nat×Bool)}{fr:Fr}(h:g7 kn fr){x:Operand}{b:Bool}(hx:pI kn x=some b):ev fr x=.bool b:=by
 cases x with
 |tmp t=>exact h t b hx
 |const v=>cases v<;>simp[pI]at hx;subst hx;rfl
 |global g=>simp[pI]at hx
 |func f=>simp[pI]at hx
theorem Pa{kn:List (Nat×Bool)}{fr:Fr}(h:g7 kn fr){o:Oper}{v:Value}(hv:valOf o (ev fr) v){b:Bool}(hb:SN kn o=some b):v=.bool b:=by
 unfold SN at hb
 unfold valOf at hv
 split at hb
 ·rename_i x hop;rw[hop]at hv;exact hv.trans (j7 h hb)
 ·rename_i x hop;rw[hop]at hv;exact hv.trans (j7 h hb)
 ·rename_i c a b' hop
  rw[hop]at hv
  split at hb
  ·rename_i hc;rw[hv _ (j7 h hc)];exact j7 h hb
  ·rename_i hc;rw[hv _ (j7 h hc)];exact j7 h hb
  ·simp at hb
 ·simp at hb
theorem g7.up{kn:List (Nat×Bool)}{fr:Fr}(h:g7 kn fr){o:Oper}{v:Value}(hv:valOf o (ev fr) v):g7 (SM kn o) (cg fr o.dst v):=by
 unfold SM
 split
 ·rename_i b d hb hd
  rw[hd]
  exact(h.del (some d) v).put (by simp[cg,Pa h hv hb])
 ·exact h.del _ _
theorem g7.X1{kn:List (Nat×Bool)}{fr fr':Fr}:∀(l:List Oper),g7 kn fr→(∀s,bH l s=false→fr' s=fr s)→g7 (kW kn l) fr':=by
 intro l
 have key:∀(l:List Oper) (kn:List (Nat×Bool)) (s:Nat) (b:Bool),j8 (kW kn l) s=some b→bH l s=false∧j8 kn s=some b:=by
  intro l
  induction l with
  |nil=>intro kn s b h;exact⟨rfl,h⟩
  |cons o r ih=>
   intro kn s b h
   simp only[kW]at h
   obtain⟨h1,h2⟩:=ih _ s b h
   simp only[bH,h1,Bool.or_false]
   cases hd:o.dst with
   |none=>rw[hd]at h2;exact⟨rfl,by cases kn<;>exact h2⟩
   |some d=>
    rw[hd]at h2
    obtain⟨h3,h4⟩:=wh h2
    refine⟨?_,h4⟩
    cases hb:Nat.beq s d
    ·exact hb
    ·exact absurd (Nat.eq_of_beq_eq_true hb) h3
 intro h ho s b hs
 obtain⟨h1,h2⟩:=key l kn s b hs
 rw[ho s h1];exact h s b h2
def ei(P:Program)(g:Gh)(n:Nat)(ops:Array Oper)(gq:Bool):Nat→Bool→Option (Nat×Bool)→List (Nat×Bool)→List Oper→Fr→Hp→(List (Nat×Bool)→Fr→Hp→Prop)→(List PanicEntry→Hp→Prop)→Prop
 |0,_,_,_,_,_,_,_,_=>False
 |_+1,_,_,kn,[],fr,H,K,_=>K kn fr H
 |f+1,q,cur,kn,o::r,fr,H,K,KP=>
  cond (cr o.guard cur)
   (cond (dR n o.dst)
    (cond (tu o.op) (AS P g o (ev fr) H fun v=>ei P g n ops gq f q cur (SM kn o) r (cg fr o.dst v) H K KP)
     (cond q (opQ P g o (ev fr) H fun v=>ei P g n ops gq f q cur (lA kn o.dst) r (cg fr o.dst v) H K KP)
      (NR P g o (ev fr) H (fun v H'=>ei P g n ops gq f q cur (lA kn o.dst) r (cg fr o.dst v) H' K KP) KP))) False)
   (match o.guard with
   |none=>False
   |some (j,want)=>
    match dX ops j with
    |none=>False
    |some s=>
     cond (dR n (some s) &&gX n (gj cur (o::r)) && !bH (gj cur (o::r)) s&&lX ops s want [] (gj cur (o::r)))
     (match j8 kn s with
     |some b=>cond (b==want)
       (ei P g n ops gq f q o.guard kn (gj cur (o::r)) fr H (fun o6 fr' H'=>ei P g n ops gq f q cur o6 (ij cur (o::r)) fr' H' K KP) KP)
       (ei P g n ops gq f q cur (kW kn (gj cur (o::r))) (ij cur (o::r)) (rz (gj cur (o::r)) fr) H K KP)
     |none=>
     cond (q||gq)
      (match ij cur (o::r)with
      | []=>False
      |p::r'=>
       cond (qH p&&dR n p.dst)
       (bX (fr s) want
        (fun t=>ei P g n ops gq f true o.guard ((s,want)::kn) (gj cur (o::r)) (cg fr (some s) (.bool want)) H (fun _ fr' H'=>H'=H∧oB p fr'=.bool t) (fun _ _=>False))
        (fun t=>oB p (rz (gj cur (o::r)) (cg fr (some s) (.bool !want)))=.bool t)
        (fun t=>∀gs,ei P g n ops gq f q cur (lA (kW kn (gj cur (o::r))) p.dst) r' (cg (xZ (gj cur (o::r)) gs fr) p.dst (.bool t)) H K KP)) False)
      (Split (fr s) want
       (ei P g n ops gq f q o.guard ((s,want)::kn) (gj cur (o::r)) (cg fr (some s) (.bool want)) H (fun o6 fr' H'=>ei P g n ops gq f q cur o6 (ij cur (o::r)) fr' H' K KP) KP)
       (ei P g n ops gq f q cur ((s, !want)::kW kn (gj cur (o::r))) (ij cur (o::r)) (rz (gj cur (o::r)) (cg fr (some s) (.bool !want))) H K KP))) False)
theorem jV{fr:Fr}{s:Nat}{v:Value}(h:fr s=v):cg fr (some s) v=fr:=by
 funext x
 simp only[cg]
 cases hb:Nat.beq x s
 ·rfl
 ·have:=Nat.eq_of_beq_eq_true hb;subst this;simp[h]
theorem fB{fr:Fr}{d:Option Nat}{v:Value}{s:Nat}(h:bH [({(default:Oper)with dst:=d})] s=false):cg fr d v s=fr s:=by
 cases d with
 |none=>rfl
 |some d=>simp only[bH,Bool.or_false]at h;simp only[cg,h,cond_false]
theorem di{o:Oper}{r:List Oper}{s:Nat}:bH (o::r) s=(bH [({(default:Oper)with dst:=o.dst})] s||bH r s):=by
 simp[bH]
theorem bU{a b:List Oper}{s:Nat}:bH (a++b) s=(bH a s||bH b s):=by
 induction a with
 |nil=>simp[bH]
 |cons o r ih=>simp only[List.cons_append,bH,ih,Bool.or_assoc]
def dU(l:List Oper)(fr fr':Fr):Prop:=∀s,bH l s=false→fr' s=fr s
def kD(ops:Array Oper)(cur:Option (Nat×Bool))(l:List Oper)(fr:Fr):Prop:=
 match cur with
 |none=>True
 |some (j,want)=>∃s,dX ops j=some s∧fr s=.bool want∧bH l s=false
theorem kD.tail{ops:Array Oper}{cur:Option (Nat×Bool)}{o:Oper}{r:List Oper}{fr fr':Fr}(h:kD ops cur (o::r) fr)(he:∀s,bH [({(default:Oper)with dst:=o.dst})] s=false→fr' s=fr s):kD ops cur r fr':=by
 unfold kD at*
 split
 ·trivial
 ·obtain⟨s,h1,h2,h3⟩:=h
  rw[di,Bool.or_eq_false_iff]at h3
  exact⟨s,h1,(he s h3.1).trans h2,h3.2⟩
theorem kI{n:Nat}{ops:Array Oper}{a:Act}{fr:Fr}(h:cq ds n a fr){j s:Nat}(hs:dX ops j=some s):yielded ops a.tmps j=match fr s with| .bool b=>some b|_=>none:=by
 unfold dX at hs
 split at hs
 ·rename_i oj hj
  have hg:=h.get s
  rw[Array.getD_eq_getD_getElem?]at hg
  simp only[yielded,hj,Option.bind_some,hs]
  cases ht:a.tmps[s]? with
  |none=>rw[ht]at hg;simp only[Option.getD_none]at hg;rw[←hg];rfl
  |some v=>rw[ht]at hg;simp only[Option.getD_some]at hg;rw[←hg];cases v<;>rfl
 ·simp at hs
theorem kD.wanted{n:Nat}{ops:Array Oper}{cur:Option (Nat×Bool)}{l:List Oper}{fr:Fr}(h:kD ops cur l fr){o:Oper}(ho:o.guard=cur){a:Act}(ha:cq ds n a fr):Region.wanted o (yielded ops a.tmps)=true:=by
 unfold kD at h
 unfold Region.wanted
 rw[ho]
 split at h
 ·rfl
 ·obtain⟨s,h1,h2,_⟩:=h
  simp only[kI ha h1,h2,beq_self_eq_true]
theorem oA{p:Oper}{fr:Fr}{t:Bool}(hp:qH p=true)(h:oB p fr=.bool t)(w:World):(execOp (ev fr) p).run P w=.ok (.value (.bool t)) w:=by
 unfold qH at hp
 split at hp<;>try (simp at hp;done)
 rename_i c a b hop
 simp only[oB,hop]at h
 split at h
 ·rename_i t' hc
  simp only[execOp,hop,hc,asBool]
  cases t'<;>simp only[cond_true,cond_false]at h<;>simp[h]
 ·simp[undef]at h
theorem mX{n:Nat}{ops:Array Oper}{Q:Exit→Act→World→Prop}{s:Nat}{want:Bool}{w:World}{rest:List Oper}:∀(l:List Oper) (seen:List Nat) (fr:Fr) (a:Act),gX n l=true→bH l s=false→lX ops s want seen l=true→
  fr s=.bool (!want)→(∀t∈seen,fr t=undef)→cq ds n a fr→(∀a',cq ds n a' (rz l fr)→wpList P ops Q rest a' w)→wpList P ops Q (l++rest) a w
 | [],_,fr,a,_,_,_,_,_,ha,hk=>hk a ha
 |o::r,seen,fr,a,hd,hi,hs,hf,tv,ha,hk=>by
  simp only[gX,Bool.and_eq_true]at hd
  rw[di,Bool.or_eq_false_iff]at hi
  simp only[lX,Bool.and_eq_true]at hs
  obtain⟨xQ,uI⟩:=hs
  have WD:Region.wanted o (yielded ops a.tmps)=false:=by
   unfold Region.wanted
   split at xQ
   ·simp at xQ
   ·rename_i j w' hg
    rw[hg]
    split at xQ
    ·simp at xQ
    ·rename_i t ht
     simp only[kI ha ht]
     simp only[Bool.or_eq_true,Bool.and_eq_true,beq_iff_eq]at xQ
     rcases xQ with⟨h1,rfl⟩|h1
     ·have:=Nat.eq_of_beq_eq_true h1;subst this
      rw[hf];cases w'<;>rfl
     ·obtain⟨u,hu,hb⟩:=List.any_eq_true.1 h1
      have:=Nat.eq_of_beq_eq_true hb;subst this
      rw[tv _ hu];rfl
  simp only[List.cons_append,wpList,WD,Bool.false_eq_true,if_false]
  refine mX r _ (cg fr o.dst undef) _ hd.2 hi.2 uI ?_ ?_ (ha.put hd.1 undef) (fun a' h'=>hk a' h')
  ·rw[fB hi.1,hf]
  ·intro t ht
   cases Mf:o.dst with
   |none=>rw[Mf]at ht;exact tv t ht
   |some d=>
    rw[Mf]at ht
    simp only[cg]
    cases hb:Nat.beq t d
    ·simp only[cond_false]
     rcases List.mem_cons.1 ht with rfl|ht
     ·simp at hb
     ·exact tv t ht
    ·rfl
theorem om{n:Nat}{ops:Array Oper}{C:World→Prop}{Q:Act→Prop}{s:Nat}{want:Bool}{rest:List Oper}:∀(l:List Oper) (seen:List Nat) (fr:Fr) (a:Act),gX n l=true→bH l s=false→lX ops s want seen l=true→
  fr s=.bool (!want)→(∀t∈seen,fr t=undef)→cq ds n a fr→(∀a',cq ds n a' (rz l fr)→wpQuiet P ops C Q rest a')→wpQuiet P ops C Q (l++rest) a
 | [],_,fr,a,_,_,_,_,_,ha,hk=>hk a ha
 |o::r,seen,fr,a,hd,hi,hs,hf,tv,ha,hk=>by
  simp only[gX,Bool.and_eq_true]at hd
  rw[di,Bool.or_eq_false_iff]at hi
  simp only[lX,Bool.and_eq_true]at hs
  obtain⟨xQ,uI⟩:=hs
  have WD:Region.wanted o (yielded ops a.tmps)=false:=by
   unfold Region.wanted
   split at xQ
   ·simp at xQ
   ·rename_i j w' hg
    rw[hg]
    split at xQ
    ·simp at xQ
    ·rename_i t ht
     simp only[kI ha ht]
     simp only[Bool.or_eq_true,Bool.and_eq_true,beq_iff_eq]at xQ
     rcases xQ with⟨h1,rfl⟩|h1
     ·have:=Nat.eq_of_beq_eq_true h1;subst this
      rw[hf];cases w'<;>rfl
     ·obtain⟨u,hu,hb⟩:=List.any_eq_true.1 h1
      have:=Nat.eq_of_beq_eq_true hb;subst this
      rw[tv _ hu];rfl
  simp only[List.cons_append,wpQuiet,WD,Bool.false_eq_true,if_false]
  refine om r _ (cg fr o.dst undef) _ hd.2 hi.2 uI ?_ ?_ (ha.put hd.1 undef) (fun a' h'=>hk a' h')
  ·rw[fB hi.1,hf]
  ·intro t ht
   cases Mf:o.dst with
   |none=>rw[Mf]at ht;exact tv t ht
   |some d=>
    rw[Mf]at ht
    simp only[cg]
    cases hb:Nat.beq t d
    ·simp only[cond_false]
     rcases List.mem_cons.1 ht with rfl|ht
     ·simp at hb
     ·exact tv t ht
    ·rfl
theorem cP:∀(l:List Oper) (fr:Fr),dU l fr (rz l fr)
 | [],fr=>fun s _=>rfl
 |o::r,fr=>fun s hs=>by
  rw[di,Bool.or_eq_false_iff]at hs
  rw[rz,cP r _ s hs.2,fB hs.1]
end
end Go.Sx
namespace Go.Sx
open Go
section
variable {P:Program} {g:Gh} {ds:List Deferred}
theorem nC(fr:Fr):∀f,ev fr (.func f)=.func (.func f) #[] #[]:=fun _=>rfl
theorem FK{o:Oper}{fr:Fr}{H:Hp}{k:Value→Prop}(h:opQ P g o (ev fr) H k):
  ∃v f args,(∀w,(execOp (ev fr) o).run P w=.ok (.enter f args) w)∧ai P g f args H (fun e H'=>e=.returned v∧H'=H)∧k v:=by
 unfold opQ at h
 split at h<;>try exact h.elim
 rename_i c hop
 split at h<;>try exact h.elim
 ·rename_i f hc
  cases gJ:bA P f<;>simp only[gJ,cond_true,cond_false]at h
  obtain⟨v,hs,hk⟩:=h
  rw[mapList]at hs
  refine⟨v,f,_,fun w=>?_,hs,hk⟩
  simp only[execOp,hop,resolve,hc,Deferred.ofValue,nC,invoke]
  show(callFunc f ((#[]++c.args.map (ev fr))++ #[])).run P w=_
  rw[Array.empty_append,Array.append_empty]
  exact eV gJ _ w
 ·rename_i x _ hc
  obtain⟨f,first,captured,hf,gJ,v,hs,hk⟩:=h
  rw[mapList]at hs
  refine⟨v,f,_,fun w=>?_,hs,hk⟩
  simp only[execOp,hop,resolve,hc,Deferred.ofValue,hf,invoke]
  show(callFunc f (first++c.args.map (ev fr)++captured)).run P w=_
  exact eV gJ _ w
theorem mV.upon{o:Oper}{a:Act}{K:Value→Hp→Prop}{KP:List PanicEntry→Hp→Prop}{next:Act→World→Prop}{Q:Exit→Act→World→Prop}{r:Result Next}
 (h:mV P g K KP r)(hn:∀v H' w',Own g H' w'→K v H'→next (a.put o.dst v) w')(hp:∀ch H' w',Own g H' w'→KP ch H'→Q (.panic ch) a w'):o.upon P a next Q r:=by
 cases r with
 |ok n w'=>
  cases n<;>simp only[mV]at h<;>simp only[Oper.upon]
  case value v=>obtain⟨H',ho,hk⟩:=h;exact hn _ _ _ ho hk
  case skip=>obtain⟨H',ho,hk⟩:=h;exact hn _ _ _ ho hk
  case enter f args=>
   refine h.mono fun e w'' ⟨H',ho,hk⟩=>?_
   cases e with
   |returned v=>exact hn _ _ _ ho hk
   |panicked ch=>exact hp _ _ _ ho hk
   |outgrown=>exact hk.elim
 |halt x w'=>
  cases x<;>simp only[mV]at h
  case panic v=>obtain⟨H',ho,hk⟩:=h;exact hp _ _ _ ho hk
theorem dU.refl(l:List Oper)(fr:Fr):dU l fr fr:=fun _ _=>rfl
theorem dU.cons{o:Oper}{r:List Oper}{fr fr':Fr}{v:Value}(h:dU r (cg fr o.dst v) fr'):dU (o::r) fr fr':=fun s hs=>by
 rw[di,Bool.or_eq_false_iff]at hs
 rw[h s hs.2,fB hs.1]
theorem cA{n:Nat}{ops:Array Oper}{gq:Bool}:∀(f:Nat) (q:Bool) (cur:Option (Nat×Bool)) (kn:List (Nat×Bool)) (l:List Oper) (fr:Fr) (H:Hp) (K:List (Nat×Bool)→Fr→Hp→Prop) (KP:List PanicEntry→Hp→Prop),
  ei P g n ops gq f q cur kn l fr H K KP→kD ops cur l fr→g7 kn fr→∀(a:Act) (w:World),cq ds n a fr→Own g H w→∀(rest:List Oper) (Q:Exit→Act→World→Prop),
  (∀a' w' o6 fr' H',cq ds n a' fr'→Own g H' w'→dU l fr fr'→g7 o6 fr'→K o6 fr' H'→wpList P ops Q rest a' w')→
  (∀ch a' w' fr' H',cq ds n a' fr'→Own g H' w'→KP ch H'→Q (.panic ch) a' w')→wpList P ops Q (l++rest) a w
 |0,_,_,_,_,_,_,_,_,h=>h.elim
 |f+1,q,cur,kn,[],fr,H,K,KP,h=>fun _ hkn a w ha hw rest Q hk _=>hk a w kn fr H ha hw (dU.refl _ _) hkn h
 |f+1,q,cur,kn,o::r,fr,H,K,KP,h=>by
  intro lI hkn a w ha hw rest Q hk hp
  unfold ei at h
  cases Wq:cr o.guard cur<;>simp only[Wq,cond_true,cond_false]at h
  case true=>
   have hg:=ir Wq
   have nW:=lI.wanted hg ha
   cases hd:dR n o.dst<;>simp only[hd,cond_true,cond_false]at h
   simp only[List.cons_append,wpList,nW,if_true]
   refine .inl ?_
   unfold Oper.wp
   rw[ha.eval]
   cases zQ:tu o.op<;>simp only[zQ,cond_true,cond_false]at h
   case true=>
    obtain⟨v,hk',hr,hv⟩:=nk h
    rw[hr w hw]
    exact cA f q cur _ r _ H K KP hk' (lI.tail fun s hs=>fB hs) (hkn.up hv) _ w (ha.put hd v) hw rest Q (fun a' w' o6 fr' H' h1 h2 h3 h5 h4=>hk a' w' o6 fr' H' h1 h2 h3.cons h5 h4) hp
   case false=>
    cases q<;>simp only[cond_true,cond_false]at h
    case true=>
     obtain⟨v,f',args,hr,hs,hk'⟩:=FK h
     rw[hr w]
     refine(hs w hw).mono fun e w'' ⟨H',ho,he,hH⟩=>?_
     subst he;subst hH
     exact cA f true cur _ r _ H' K KP hk' (lI.tail fun s hs=>fB hs) (hkn.del _ _) _ w'' (ha.put hd v) ho rest Q (fun a' w' o6 fr' H' h1 h2 h3 h5 h4=>hk a' w' o6 fr' H' h1 h2 h3.cons h5 h4) hp
    case false=>
     refine(tc (nC fr) h w hw).upon (fun v H' w' ho hk'=>?_) (fun ch H' w' ho hk'=>hp ch a w' fr H' ha ho hk')
     exact cA f false cur _ r _ H' K KP hk' (lI.tail fun s hs=>fB hs) (hkn.del _ _) _ w' (ha.put hd v) ho rest Q (fun a' w' o6 fr' H' h1 h2 h3 h5 h4=>hk a' w' o6 fr' H' h1 h2 h3.cons h5 h4) hp
  case false=>
   split at h<;>try exact h.elim
   rename_i j want U9
   split at h<;>try exact h.elim
   rename_i s ju
   generalize hG:gj cur (o::r)=G at h
   generalize hR:ij cur (o::r)=R at h
   have F4:G++R=o::r:=by rw[←hG,←hR];exact rq _ _
   cases eS:(dR n (some s) &&gX n G&& !bH G s&&lX ops s want [] G)<;>simp only[eS,cond_true,cond_false]at h
   simp only[Bool.and_eq_true,Bool.not_eq_true']at eS
   obtain⟨⟨⟨hds,Vl⟩,JI⟩,Q8⟩:=eS
   rw[←F4,List.append_assoc]
   have afm:∀fr',dU G fr fr'→∀s,bH (o::r) s=false→fr' s=fr s:=fun fr' ho s hs=>by
    rw[←F4,bU,Bool.or_eq_false_iff]at hs
    exact ho s hs.1
   have mA:∀fr',dU G fr fr'→kD ops cur R fr':=fun fr' ho=>by
    unfold kD at lI⊢
    split
    ·trivial
    ·obtain⟨t,h1,h2,h3⟩:=lI
     have yH:=h3
     rw[←F4,bU,Bool.or_eq_false_iff]at yH
     exact⟨t,h1,(ho t yH.1).trans h2,yH.2⟩
   have HX:∀fr',dU G fr fr'→g7 (kW kn G) fr':=fun fr' ho=>hkn.X1 G ho
   split at h
   ·rename_i b hb
    have nX:=hkn s b hb
    cases Pz:(b==want)<;>simp only[Pz,cond_true,cond_false]at h
    ·have nM:b= !want:=by cases b<;>cases want<;>simp_all
     subst nM
     refine mX G [] fr a Vl JI Q8 nX (fun t ht=>by simp at ht) ha fun a' eA=>?_
     refine cA f q cur _ R _ H K KP h (mA _ (cP G fr)) (HX _ (cP G fr)) a' w eA hw rest Q (fun a2 w2 BH rI H2 k1 k2 k3 k5 k4=>hk a2 w2 BH rI H2 k1 k2 ?_ k5 k4) hp
     intro x hx
     have hx':=hx
     rw[←F4,bU,Bool.or_eq_false_iff]at hx'
     rw[k3 x hx'.2,cP G fr x hx'.1]
    ·have nM:b=want:=by cases b<;>cases want<;>simp_all
     subst nM
     refine cA f q o.guard kn G fr H _ KP h ?_ hkn a w ha hw (R++rest) Q ?_ hp
     ·rw[U9];exact⟨s,ju,nX,JI⟩
     ·intro a' w' o6 fr' H' g1 g2 g3 g5 g4
      refine cA f q cur o6 R fr' H' K KP g4 (mA fr' g3) g5 a' w' g1 g2 rest Q (fun a2 w2 BH rI H2 k1 k2 k3 k5 k4=>hk a2 w2 BH rI H2 k1 k2 ?_ k5 k4) hp
      intro x hx
      have hx':=hx
      rw[←F4,bU,Bool.or_eq_false_iff]at hx'
      rw[k3 x hx'.2,g3 x hx'.1]
   rename_i Tp
   cases hqq:(q||gq)<;>simp only[hqq,cond_true,cond_false]at h
   case true=>
    split at h<;>try exact h.elim
    rename_i p r' 
    have hpg:cr p.guard cur=true:=by
     have:∀l:List Oper,ij cur l=p::r'→cr p.guard cur=true:=by
      intro l
      induction l with
      |nil=>intro e;simp[ij]at e
      |cons x y ih=>
       intro e
       simp only[ij]at e
       cases hx:cr x.guard cur<;>simp only[hx,cond_true,cond_false]at e
       ·exact ih e
       ·simp only[List.cons.injEq]at e;rw[←e.1];exact hx
     exact this _ hR
    cases hpk:(qH p&&dR n p.dst)<;>simp only[hpk,cond_true,cond_false]at h
    simp only[Bool.and_eq_true]at hpk
    obtain⟨b,t,nX,h1,h2,h3⟩:=h
    have qL:∀(a':Act) (w':World) (fr':Fr),cq ds n a' fr'→Own g H w'→dU G fr fr'→oB p fr'=.bool t→wpList P ops Q (p::r'++rest) a' w':=by
     intro a' w' fr' eA dx ho Te
     have nW:=(mA fr' ho).wanted (ir hpg) eA
     simp only[List.cons_append,wpList,nW,if_true]
     refine .inl ?_
     unfold Oper.wp
     rw[eA.eval,oA hpk.1 Te w']
     have Mb:xZ G fr' fr=fr':=by
      funext x
      simp only[xZ]
      cases hx:bH G x
      ·exact(ho x hx).symm
      ·rfl
     have yH:=h3 fr'
     rw[Mb]at yH
     refine cA f q cur _ r' _ H K KP yH ((mA fr' ho).tail fun s hs=>fB hs) ((HX fr' ho).del _ _) _ w' (eA.put hpk.2 _) dx rest Q (fun a2 w2 BH rI H2 g1 g2 g3 g5 g4=>hk a2 w2 BH rI H2 g1 g2 ?_ g5 g4) hp
     intro x hx
     have hx':=hx
     rw[←F4,bU,Bool.or_eq_false_iff,di,Bool.or_eq_false_iff]at hx'
     rw[g3 x hx'.2.2,fB hx'.2.1,ho x hx'.1]
    by_cases Pz:b=want
    ·subst Pz
     have zX:=h1 rfl
     rw[jV nX]at zX
     refine cA f true o.guard _ G fr H _ _ zX ?_ (hkn.put nX) a w ha hw (p::r'++rest) Q ?_ ?_
     ·rw[U9];exact⟨s,ju,nX,JI⟩
     ·intro a' w' o6 fr' H' g1 g2 g3 _ ⟨g4,g5⟩
      subst g4
      exact qL a' w' fr' g1 g2 g3 g5
     ·intro _ _ _ _ _ _ _ h0;exact h0.elim
    ·have nM:b= !want:=by cases b<;>cases want<;>simp_all
     have mB:=h2 nM
     subst nM
     rw[jV nX]at mB
     refine mX G [] fr a Vl JI Q8 nX (fun t ht=>by simp at ht) ha fun a' eA=>?_
     exact qL a' w _ eA hw (cP G fr) mB
   case false=>
    obtain⟨b,nX,h1,h2⟩:=h
    by_cases Pz:b=want
    ·subst Pz
     have zX:=h1 rfl
     rw[jV nX]at zX
     refine cA f q o.guard _ G fr H _ KP zX ?_ (hkn.put nX) a w ha hw (R++rest) Q ?_ hp
     ·rw[U9];exact⟨s,ju,nX,JI⟩
     ·intro a' w' o6 fr' H' g1 g2 g3 g5 g4
      refine cA f q cur o6 R fr' H' K KP g4 (mA fr' g3) g5 a' w' g1 g2 rest Q (fun a2 w2 BH rI H2 k1 k2 k3 k5 k4=>hk a2 w2 BH rI H2 k1 k2 ?_ k5 k4) hp
      intro x hx
      have hx':=hx
      rw[←F4,bU,Bool.or_eq_false_iff]at hx'
      rw[k3 x hx'.2,g3 x hx'.1]
    ·have nM:b= !want:=by cases b<;>cases want<;>simp_all
     have mB:=h2 nM
     subst nM
     rw[jV nX]at mB
     refine mX G [] fr a Vl JI Q8 nX (fun t ht=>by simp at ht) ha fun a' eA=>?_
     refine cA f q cur _ R _ H K KP mB (mA _ (cP G fr)) ((HX _ (cP G fr)).put (by rw[cP G fr s JI,nX])) a' w eA hw rest Q (fun a2 w2 BH rI H2 k1 k2 k3 k5 k4=>hk a2 w2 BH rI H2 k1 k2 ?_ k5 k4) hp
     intro x hx
     have hx':=hx
     rw[←F4,bU,Bool.or_eq_false_iff]at hx'
     rw[k3 x hx'.2,cP G fr x hx'.1]
theorem dj{n:Nat}{ops:Array Oper}{gq:Bool}:∀(f:Nat) (cur:Option (Nat×Bool)) (kn:List (Nat×Bool)) (l:List Oper) (fr:Fr) (H:Hp) (K:List (Nat×Bool)→Fr→Hp→Prop) (KP:List PanicEntry→Hp→Prop),
  ei P g n ops gq f true cur kn l fr H K KP→kD ops cur l fr→g7 kn fr→∀(a:Act),cq ds n a fr→∀(rest:List Oper) (Q:Act→Prop),
  (∀a' o6 fr',cq ds n a' fr'→dU l fr fr'→g7 o6 fr'→K o6 fr' H→wpQuiet P ops (Own g H) Q rest a')→wpQuiet P ops (Own g H) Q (l++rest) a
 |0,_,_,_,_,_,_,_,h=>h.elim
 |f+1,cur,kn,[],fr,H,K,KP,h=>fun _ hkn a ha rest Q hk=>hk a kn fr ha (dU.refl _ _) hkn h
 |f+1,cur,kn,o::r,fr,H,K,KP,h=>by
  intro lI hkn a ha rest Q hk
  unfold ei at h
  cases Wq:cr o.guard cur<;>simp only[Wq,cond_true,cond_false]at h
  case true=>
   have hg:=ir Wq
   have nW:=lI.wanted hg ha
   cases hd:dR n o.dst<;>simp only[hd,cond_true,cond_false]at h
   simp only[List.cons_append,wpQuiet,nW,if_true]
   cases zQ:tu o.op<;>simp only[zQ,cond_true,cond_false]at h
   case true=>
    obtain⟨v,hk',hr,hv⟩:=nk h
    refine⟨v,fun w hw=>?_,?_⟩
    ·unfold Oper.quietAt
     rw[ha.eval,hr w hw]
     exact⟨rfl,rfl⟩
    ·exact dj f cur _ r _ H K KP hk' (lI.tail fun s hs=>fB hs) (hkn.up hv) _ (ha.put hd v) rest Q (fun a' o6 fr' h1 h3 h5 h4=>hk a' o6 fr' h1 h3.cons h5 h4)
   case false=>
    obtain⟨v,f',args,hr,hs,hk'⟩:=FK h
    refine⟨v,fun w hw=>?_,?_⟩
    ·unfold Oper.quietAt
     rw[ha.eval,hr w]
     refine⟨rfl,(hs w hw).mono fun e w'' ⟨H',ho,he,hH⟩=>?_⟩
     subst hH
     exact⟨he,ho⟩
    ·exact dj f cur _ r _ H K KP hk' (lI.tail fun s hs=>fB hs) (hkn.del _ _) _ (ha.put hd v) rest Q (fun a' o6 fr' h1 h3 h5 h4=>hk a' o6 fr' h1 h3.cons h5 h4)
  case false=>
   split at h<;>try exact h.elim
   rename_i j want U9
   split at h<;>try exact h.elim
   rename_i s ju
   generalize hG:gj cur (o::r)=G at h
   generalize hR:ij cur (o::r)=R at h
   have F4:G++R=o::r:=by rw[←hG,←hR];exact rq _ _
   cases eS:(dR n (some s) &&gX n G&& !bH G s&&lX ops s want [] G)<;>simp only[eS,cond_true,cond_false]at h
   simp only[Bool.and_eq_true,Bool.not_eq_true']at eS
   obtain⟨⟨⟨hds,Vl⟩,JI⟩,Q8⟩:=eS
   rw[←F4,List.append_assoc]
   have mA:∀fr',dU G fr fr'→kD ops cur R fr':=fun fr' ho=>by
    unfold kD at lI⊢
    split
    ·trivial
    ·obtain⟨t,h1,h2,h3⟩:=lI
     have yH:=h3
     rw[←F4,bU,Bool.or_eq_false_iff]at yH
     exact⟨t,h1,(ho t yH.1).trans h2,yH.2⟩
   have HX:∀fr',dU G fr fr'→g7 (kW kn G) fr':=fun fr' ho=>hkn.X1 G ho
   split at h
   ·rename_i b hb
    have nX:=hkn s b hb
    cases Pz:(b==want)<;>simp only[Pz,cond_true,cond_false]at h
    ·have nM:b= !want:=by cases b<;>cases want<;>simp_all
     subst nM
     refine om G [] fr a Vl JI Q8 nX (fun t ht=>by simp at ht) ha fun a' eA=>?_
     refine dj f cur _ R _ H K KP h (mA _ (cP G fr)) (HX _ (cP G fr)) a' eA rest Q (fun a2 BH rI k1 k3 k5 k4=>hk a2 BH rI k1 ?_ k5 k4)
     intro x hx
     have hx':=hx
     rw[←F4,bU,Bool.or_eq_false_iff]at hx'
     rw[k3 x hx'.2,cP G fr x hx'.1]
    ·have nM:b=want:=by cases b<;>cases want<;>simp_all
     subst nM
     refine dj f o.guard kn G fr H _ KP h ?_ hkn a ha (R++rest) Q ?_
     ·rw[U9];exact⟨s,ju,nX,JI⟩
     ·intro a' o6 fr' g1 g3 g5 g4
      refine dj f cur o6 R fr' H K KP g4 (mA fr' g3) g5 a' g1 rest Q (fun a2 BH rI k1 k3 k5 k4=>hk a2 BH rI k1 ?_ k5 k4)
      intro x hx
      have hx':=hx
      rw[←F4,bU,Bool.or_eq_false_iff]at hx'
      rw[k3 x hx'.2,g3 x hx'.1]
   rename_i Tp
   simp only[Bool.true_or,cond_true]at h
   split at h<;>try exact h.elim
   rename_i p r' 
   have hpg:cr p.guard cur=true:=by
    have:∀l:List Oper,ij cur l=p::r'→cr p.guard cur=true:=by
     intro l
     induction l with
     |nil=>intro e;simp[ij]at e
     |cons x y ih=>
      intro e
      simp only[ij]at e
      cases hx:cr x.guard cur<;>simp only[hx,cond_true,cond_false]at e
      ·exact ih e
      ·simp only[List.cons.injEq]at e;rw[←e.1];exact hx
    exact this _ hR
   cases hpk:(qH p&&dR n p.dst)<;>simp only[hpk,cond_true,cond_false]at h
   simp only[Bool.and_eq_true]at hpk
   obtain⟨b,t,nX,h1,h2,h3⟩:=h
   have qL:∀(a':Act) (fr':Fr),cq ds n a' fr'→dU G fr fr'→oB p fr'=.bool t→wpQuiet P ops (Own g H) Q (p::r'++rest) a':=by
    intro a' fr' eA ho Te
    have nW:=(mA fr' ho).wanted (ir hpg) eA
    simp only[List.cons_append,wpQuiet,nW,if_true]
    refine⟨.bool t,fun w hw=>?_,?_⟩
    ·unfold Oper.quietAt
     rw[eA.eval,oA hpk.1 Te w]
     exact⟨rfl,rfl⟩
    have Mb:xZ G fr' fr=fr':=by
     funext x
     simp only[xZ]
     cases hx:bH G x
     ·exact(ho x hx).symm
     ·rfl
    have yH:=h3 fr'
    rw[Mb]at yH
    refine dj f cur _ r' _ H K KP yH ((mA fr' ho).tail fun s hs=>fB hs) ((HX fr' ho).del _ _) _ (eA.put hpk.2 _) rest Q (fun a2 BH rI g1 g3 g5 g4=>hk a2 BH rI g1 ?_ g5 g4)
    intro x hx
    have hx':=hx
    rw[←F4,bU,Bool.or_eq_false_iff,di,Bool.or_eq_false_iff]at hx'
    rw[g3 x hx'.2.2,fB hx'.2.1,ho x hx'.1]
   by_cases Pz:b=want
   ·subst Pz
    have zX:=h1 rfl
    rw[jV nX]at zX
    refine dj f o.guard _ G fr H _ _ zX ?_ (hkn.put nX) a ha (p::r'++rest) Q ?_
    ·rw[U9];exact⟨s,ju,nX,JI⟩
    ·intro a' o6 fr' g1 g3 _ ⟨_,g5⟩
     exact qL a' fr' g1 g3 g5
   ·have nM:b= !want:=by cases b<;>cases want<;>simp_all
    have mB:=h2 nM
    subst nM
    rw[jV nX]at mB
    refine om G [] fr a Vl JI Q8 nX (fun t ht=>by simp at ht) ha fun a' eA=>?_
    exact qL a' _ eA (cP G fr) mB
end
end Go.Sx
namespace Go.Sx
open Go
section
variable {P:Program} {ops:Array Oper} {Q:Exit→Act→World→Prop} {md:Region.Mode} {S:Nat→World→World→Prop} {S0:World→Prop}
def cY(P:Program)(md:Region.Mode)(ops:Array Oper)(Q:Exit→Act→World→Prop)(S:Nat→World→World→Prop):Nat→Array Bool→Act→World→Prop
 |0,listed,a,w=>Region.ready md ops listed=[]∧Q .normal a w
 |n+1,listed,a,w=>(Region.ready md ops listed=[]→Q .normal a w)∧
  ∀i∈Region.ready md ops listed,wpOp P ops Q i (fun a' w'=>S i w w'∧cY P md ops Q S n (listed.setIfInBounds i true) a' w') a w
theorem cY.any:∀{n:Nat} {listed:Array Bool} {a:Act} {w:World},cY P md ops Q S n listed a w→wpAny P md ops Q n listed a w
 |0,_,_,_,h=>h
 |_+1,_,_,_,h=>⟨h.1,fun i hi=>wpOp_mono (fun _ _ h'=>h'.2.any) (h.2 i hi)⟩
def Lh(md:Region.Mode)(ops:Array Oper)(i j:Nat):Prop:=∀oj,ops[j]? =some oj→∀e∈oj.after,Region.binds md e=true→e.on≠i
def eL(md:Region.Mode)(ops:Array Oper)(listed:Array Bool):Prop:=∀j oj,ops[j]? =some oj→listed.getD j true=true→∀e∈oj.after,Region.binds md e=true→listed.getD e.on true=true
inductive mP(md:Region.Mode)(ops:Array Oper)(i:Nat):Nat→Prop
 |one {j:Nat} {oj:Oper} {e:Edge}:ops[j]? =some oj→e∈oj.after→Region.binds md e=true→e.on=i→mP md ops i j
 |more {j:Nat} {oj:Oper} {e:Edge}:ops[j]? =some oj→e∈oj.after→Region.binds md e=true→mP md ops i e.on→mP md ops i j
theorem xY{a:Array Bool}{i:Nat}(h:a.getD i false=true):a.getD i true=true:=by
 rw[Array.getD_eq_getD_getElem?]at*
 cases hg:a[i]? with
 |none=>rfl
 |some b=>rw[hg]at h;simpa using h
theorem rF{a:Array Bool}{i k:Nat}(h:a.getD k true=true):(a.setIfInBounds i true).getD k true=true:=by
 by_cases e:i=k
 ·subst e
  rw[Array.getD_eq_getD_getElem?,Array.getElem?_setIfInBounds_self]
  split<;>rfl
 ·rw[getD_set_ne true e];exact h
theorem eL.waits{listed:Array Bool}(hc:eL md ops listed){i j:Nat}(h:mP md ops i j):listed.getD j true=true→listed.getD i true=true:=by
 induction h with
 |one h1 h2 h3 h4=>intro h;rw[←h4];exact hc _ _ h1 h _ h2 h3
 |more h1 h2 h3 _ ih=>intro h;exact ih (hc _ _ h1 h _ h2 h3)
theorem eL.ready{listed:Array Bool}(hc:eL md ops listed){i j:Nat}(hj:j∈Region.ready md ops listed)(h:mP md ops i j):listed.getD i true=true:=by
 obtain⟨_,oj,ie,aJ⟩:=mem_ready.1 hj
 cases h with
 |one h1 h2 h3 h4=>rw[ie]at h1;cases h1;rw[←h4];exact xY (aJ _ h2 h3)
 |more h1 h2 h3 h4=>rw[ie]at h1;cases h1;exact hc.waits h4 (xY (aJ _ h2 h3))
theorem eL.step{listed:Array Bool}(hc:eL md ops listed){j:Nat}(hj:j∈Region.ready md ops listed):eL md ops (listed.setIfInBounds j true):=by
 intro k ok hk hl e he hb
 by_cases Pt:j=k
 ·subst Pt
  obtain⟨_,oj,ie,aJ⟩:=mem_ready.1 hj
  rw[hk]at ie;cases ie
  exact rF (xY (aJ e he hb))
 ·rw[getD_set_ne true Pt]at hl
  exact rF (hc k ok hk hl e he hb)
theorem eL.none(n:Nat)(h:ops.size=n):eL md ops (Array.replicate n false):=by
 intro j oj hj hl
 exfalso
 have hlt:=(Array.getElem?_eq_some_iff.1 hj).1
 rw[Array.getD_eq_getD_getElem?,Array.getElem?_replicate,if_pos (by omega)]at hl
 cases hl
theorem cY.first{i:Nat}{oi:Oper}{v:Value}(hi:ops[i]? =some oi)(hsel:Region.noSelect ops=true)(hQ:∀c a w,Q (.panic c) (a.put oi.dst v) w→Q (.panic c) a w)
 (Zh:∀w,S0 w→S i w w)(hS:∀j oj w w',ops[j]? =some oj→j≠i→¬mP md ops i j→S0 w→S j w w'→S0 w'):∀(n:Nat) (listed:Array Bool) (a:Act) (w:World),eL md ops listed→
   (∀j oj,ops[j]? =some oj→j≠i→listed.getD j true=false→Lh md ops i j→oi.apart ops oj=true)→i∈Region.ready md ops listed→YieldsIf P ops S0 oi v a→S0 w→
   cY P md ops Q S n (listed.setIfInBounds i true) (a.put oi.dst v) w→cY P md ops Q S (n+1) listed a w:=by
 have sel:=Region.noSelect_spec hsel
 intro n
 induction n with
 |zero=>
  intro listed a w hc hfree hr hy h0 h
  refine⟨fun e=>absurd hr (by rw[e];simp),fun j hj=>?_⟩
  by_cases e:j=i
  ·rw[e];exact hy.wpOp hi h0 ⟨Zh _ h0,h⟩
  ·exact absurd (ready_mono hj e) (by rw[h.1];simp)
 |succ n ih=>
  intro listed a w hc hfree hr hy h0 h
  refine⟨fun e=>absurd hr (by rw[e];simp),fun j hj=>?_⟩
  by_cases e:j=i
  ·rw[e];exact hy.wpOp hi h0 ⟨Zh _ h0,h⟩
  ·obtain⟨hun,oj,ie,aJ⟩:=mem_ready.1 hj
   have hno:Lh md ops i j:=fun o ho x hx hb he=>by
    rw[ie]at ho;cases ho
    have h1:=aJ x hx hb
    have h2:=(mem_ready.1 hr).1
    rw[he]at h1
    rw[Array.getD_eq_getD_getElem?]at h1 h2
    cases hg:listed[i]? with
    |none=>rw[hg]at h1;simp at h1
    |some y=>rw[hg]at h1 h2;simp at h1 h2;rw[h2]at h1;cases h1
   have WD:¬mP md ops i j:=fun hw=>by
    have h1:=hc.ready hj hw
    rw[(mem_ready.1 hr).1]at h1;cases h1
   refine wpOp_mono ?_ (wpOp_putIf ie (hfree j oj ie e hun hno) (fun cs b=>sel i oi cs b hi) (fun cs b=>sel j oj cs b ie) hQ hy (h.2 j (ready_mono hj e)))
   rintro a' w' ⟨hy',hs',ic⟩
   refine⟨hs',ih _ _ _ (hc.step hj) (fun k ok hk Tt Ph zL=>hfree k ok hk Tt ?_ zL) (ready_mono hr (Ne.symm e)) hy' (hS j oj w w' ie e WD h0 hs') (by rw[Array.setIfInBounds_comm _ _ e];exact ic)⟩
   by_cases Pt:j=k
   ·rw[←Pt];exact hun
   ·rw[←Ph,getD_set_ne true Pt]
theorem cY.take{i:Nat}{oi:Oper}{v:Value}{n:Nat}{listed:Array Bool}{a:Act}{w:World}(hc:eL md ops listed)(hi:ops[i]? =some oi)(hsel:Region.noSelect ops=true)(hf:Region.free md ops listed i=true)
 (hr:(Region.ready md ops listed).contains i=true)(hQ:∀c a w,Q (.panic c) (a.put oi.dst v) w→Q (.panic c) a w)(Zh:∀w,S0 w→S i w w)(hS:∀j oj w w',ops[j]? =some oj→j≠i→¬mP md ops i j→S0 w→S j w w'→S0 w')
 (hy:YieldsIf P ops S0 oi v a)(h0:S0 w)(h:cY P md ops Q S n (listed.setIfInBounds i true) (a.put oi.dst v) w):cY P md ops Q S (n+1) listed a w:=
 cY.first hi hsel hQ Zh hS n listed a w hc (fun j oj h1 h2 h3 h4=>Region.free_spec hi hf j oj h1 h2 h3 (h4 oj h1)) (by simpa using hr) hy h0 h
theorem cY.all{rs:List Nat}{n:Nat}{listed:Array Bool}{a:Act}{w:World}(hr:Region.ready md ops listed=rs)(hne:rs≠[])
 (h:∀i∈rs,wpOp P ops Q i (fun a' w'=>S i w w'∧cY P md ops Q S n (listed.setIfInBounds i true) a' w') a w):cY P md ops Q S (n+1) listed a w:=
 ⟨fun h0=>absurd (hr▸h0) hne,hr▸h⟩
theorem cY.done{listed:Array Bool}{a:Act}{w:World}(hr:Region.ready md ops listed=[])(h:Q .normal a w):∀n,cY P md ops Q S n listed a w
 |0=>⟨hr,h⟩
 |_+1=>⟨fun _=>h,by rw[hr];simp⟩
def onB(j:Oper)(i:Nat):Bool:=j.after.toList.any fun e=>Nat.beq e.on i&&Region.binds .any e
def Wg(P:Program):Op→Bool
 | .move _| .assign _| .pick .. | .nilCheck _| .fieldAddr .. | .field .. | .indexAddr .. | .unOp .. =>true
 | .slice t _ _ _ none=>match P.underlying t with|some (.slice _)=>true|_=>false
 | .binOp _ t _ _ _=>match P.underlying t with
  |some d=>match yf d with| .other=>false|_=>true
  |none=>true
 |_=>false
theorem zj{g:Gh}{o:Oper}(h:Wg P o.op=true)(ρ:Operand→Value)(H H':Hp)(k:Value→Prop):AS P g o ρ H k=AS P g o ρ H' k:=by
 obtain⟨d,op,t,p,a,gd⟩:=o
 cases op<;>first|rfl|(simp only[Wg]at h;first|cases h|skip)
 case binOp op t x y z=>
  simp only[AS]
  cases hu:P.underlying t with
  |none=>rfl
  |some d=>
   simp only[hu]at h
   cases hb:yf d<;>simp only[hb]at h⊢
   cases h
 case slice t x lo hi m=>
  cases m with
  |none=>
   simp only[AS]
   cases hu:P.underlying t with
   |none=>simp[hu]at h
   |some d=>cases d<;>first|rfl|(exfalso;simp[hu]at h)
  |some m=>cases h
def uW(P:Program)(o:Op):Bool:=tu o&& !Wg P o
def FM(P:Program)(ops:Array Oper)(j:Nat):Bool:=match ops[j]? with
 |some oj=>(List.range ops.size).any fun i=>match ops[i]? with|some oi=>uW P oi.op&& !onB oj i&& !Nat.beq i j|none=>false
 |none=>true
def ob(ops:Array Oper)(i:Nat):Nat→Nat→Bool
 |0,_=>false
 |n+1,j=>match ops[j]? with
  |some oj=>oj.after.toList.any fun e=>Region.binds .any e&& (Nat.beq e.on i||ob ops i n e.on)
  |none=>false
theorem rh{i:Nat}:∀{n j:Nat},ob ops i n j=true→mP .any ops i j
 |0,j,h=>by simp[ob]at h
 |n+1,j,h=>by
  unfold ob at h
  split at h
  ·rename_i oj ie
   obtain⟨e,he,h2⟩:=List.any_eq_true.1 h
   simp only[Bool.and_eq_true,Bool.or_eq_true]at h2
   rcases h2.2 with h3|h3
   ·exact .one ie (Array.mem_toList_iff.1 he) h2.1 (Nat.eq_of_beq_eq_true h3)
   ·exact .more ie (Array.mem_toList_iff.1 he) h2.1 (rh h3)
  ·cases h
def rB(P:Program)(ops:Array Oper)(j:Nat):Bool:=(List.range ops.size).any fun i=>match ops[i]? with|some oi=>uW P oi.op&& !ob ops i 6 j&& !Nat.beq i j|none=>false
def n9(P:Program)(g:Gh)(R:Hp)(ops:Array Oper)(j:Nat)(w w':World):Prop:=∀oj,ops[j]? =some oj→(tu oj.op=true→w'=w)∧(tu oj.op=false→Own g [] w'∧(rB P ops j=true→Own g R w→Own g R w'))
theorem kT{i j:Nat}{oi:Oper}(hi:ops[i]? =some oi)(hp:uW P oi.op=true)(hne:j≠i)(h:¬mP .any ops i j):rB P ops j=true:=by
 unfold rB
 rw[List.any_eq_true]
 refine⟨i,List.mem_range.2 (Array.getElem?_eq_some_iff.1 hi).1,?_⟩
 simp only[hi,hp,Bool.true_and,Bool.and_eq_true,Bool.not_eq_true']
 refine⟨?_,?_⟩
 ·cases hb:ob ops i 6 j
  ·rfl
  ·exact absurd (rh hb) h
 ·cases hb:Nat.beq i j
  ·rfl
  ·exact absurd (Nat.eq_of_beq_eq_true hb).symm hne
theorem tg{j:Nat}(h:rB P ops j=true):FM P ops j=true:=by
 unfold rB at h
 obtain⟨i,hi,h2⟩:=List.any_eq_true.1 h
 unfold FM
 split
 ·rename_i oj ie
  refine List.any_eq_true.2 ⟨i,hi,?_⟩
  split at h2
  ·rename_i oi ny
   simp only[Bool.and_eq_true,Bool.not_eq_true']at h2⊢
   refine⟨⟨h2.1.1,?_⟩,h2.2⟩
   cases hb:onB oj i
   ·rfl
   ·have h3:=h2.1.2
    unfold ob at h3
    simp only[ie]at h3
    unfold onB at hb
    obtain⟨e,he,h4⟩:=List.any_eq_true.1 hb
    rw[←Bool.not_eq_true,List.any_eq_true]at h3
    refine absurd ⟨e,he,?_⟩ h3
    simp only[Bool.and_eq_true,Bool.or_eq_true]at h4⊢
    exact⟨h4.2,.inl h4.1⟩
  ·cases h2
 ·rfl
end
end Go.Sx
namespace Go.Sx
open Go
section
variable {P:Program} {g:Gh} {ds:List Deferred}
def GL(b:Bool)(p q:Prop):Prop:=cond b (p∧q) q
theorem GL.of{b:Bool}{p q:Prop}(h:GL b p q):(b=true→p)∧q:=by
  cases b
  · exact⟨fun e=>(by cases e),h⟩
  · exact⟨fun _=>h.1,h.2⟩
def Lk(P:Program)(ops:Array Oper)(T:List Nat)(i:Nat):Bool:=cond T.isEmpty (FM P ops i) (rB P ops i)
theorem Lj{ops:Array Oper}{T:List Nat}{i:Nat}(h:rB P ops i=true):Lk P ops T i=true:=by
  unfold Lk
  cases T.isEmpty
  · exact h
  · exact tg h
def Iz(P:Program)(g:Gh)(n:Nat)(ops:Array Oper)(R:Hp)(K:Fr→Hp→Prop):List Nat→Array Bool→Fr→Hp→Prop
  | [],listed,fr,H=>cond (Region.ready .any ops listed).isEmpty (K fr H) False
  |i::r,listed,fr,H=>
    match ops[i]? with
    |none=>False
    |some o=>
      cond (dR n o.dst&&o.guard.isNone)
        (cond (tu o.op)
          (cond (Region.free .any ops listed i&& (Region.ready .any ops listed).contains i)
            (AS P g o (ev fr) R fun v=>Iz P g n ops R K r (listed.setIfInBounds i true) (cg fr o.dst v) H) False)
          (cond (Region.ready .any ops listed==[i])
            (NR P g o (ev fr) H (fun v H'=>GL (FM P ops i) (aU H' R) (Iz P g n ops R K r (listed.setIfInBounds i true) (cg fr o.dst v) H')) (fun _ _=>False)) False)) False
def p8(Q:Exit→Act→World→Prop):Exit→Act→World→Prop
  | .panic _,_,_=>False
  |e,a,w=>Q e a w
theorem jk{o:Oper}(h:o.guard.isNone=true)(y:Nat→Option Bool):Region.wanted o y=true:=by
  unfold Region.wanted
  cases hg:o.guard<;>simp_all
theorem Own.kP{g:Gh}{H:Hp}{w:World}(h:Own g H w):Own g [] w:=Own.right (A:=H) (B:=[]) (by simpa using h)
theorem fF{listed:Array Bool}{i k:Nat}(hun:listed.getD i true=false)(h:(listed.setIfInBounds i true).getD k true=false):listed.getD k true=false:=by
  by_cases e:i=k
  · rw[←e];exact hun
  · rwa [getD_set_ne true e]at h
theorem pV{n:Nat}{ops:Array Oper}{R:Hp}{K:Fr→Hp→Prop}{Q:Exit→Act→World→Prop}(hs:Region.noSelect ops=true)(wB:Fr)
   (hk:∀a w fr H,cq ds n a fr→Own g H w→dU ops.toList wB fr→K fr H→Q .normal a w):
    ∀(l:List Nat) (listed:Array Bool) (fr:Fr) (H:Hp),Iz P g n ops R K l listed fr H→∀(fuel:Nat),l.length≤fuel→eL .any ops listed→∀(a:Act) (w:World),cq ds n a fr→Own g H w→((∃k ok,ops[k]? =some ok∧uW P ok.op=true∧listed.getD k true=false)→Own g R w)→dU ops.toList wB fr→
      cY P .any ops (p8 Q) (n9 P g R ops) fuel listed a w
  | [],listed,fr,H,h=>by
    intro fuel _ iV a w ha hw hR ho
    unfold Iz at h
    cases hr:(Region.ready .any ops listed).isEmpty<;>simp only[hr,cond_true,cond_false]at h
    exact cY.done (Q:=p8 Q) (by simpa using hr) (hk a w fr H ha hw ho h) fuel
  |i::r,listed,fr,H,h=>by
    intro fuel hfuel iV a w ha hw hR ho
    unfold Iz at h
    split at h<;>try exact h.elim
    rename_i o ny
    have hmem:o∈ops.toList:=Array.mem_toList_iff.2 (Array.mem_of_getElem? ny)
    have hout:∀v,dU ops.toList wB (cg fr o.dst v):=fun v s hs'=>by
      rw[fB,ho s hs']
      have:∀l:List Oper,o∈l→bH l s=false→bH [({(default:Oper)with dst:=o.dst})] s=false:=by
        intro l
        induction l with
        |nil=>intro h;simp at h
        |cons x y ih=>
          intro hm hi
          rw[di,Bool.or_eq_false_iff]at hi
          rcases List.mem_cons.1 hm with rfl|hm
          · exact hi.1
          · exact ih hm hi.2
      exact this _ hmem hs'
    cases hc:(dR n o.dst&&o.guard.isNone)<;>simp only[hc,cond_true,cond_false]at h
    simp only[Bool.and_eq_true]at hc
    obtain⟨fuel,rfl⟩:∃f,fuel=f+1:=⟨fuel-1,by simp only[List.length_cons]at hfuel;omega⟩
    have BS:r.length≤fuel:=by simp only[List.length_cons]at hfuel;omega
    cases zQ:tu o.op<;>simp only[zQ,cond_true,cond_false]at h
    case true=>
      cases kG:(Region.free .any ops listed i&& (Region.ready .any ops listed).contains i)<;>simp only[kG,cond_true,cond_false]at h
      simp only[Bool.and_eq_true]at kG
      have hun:=(mem_ready.1 (by simpa using kG.2:i∈Region.ready .any ops listed)).1
      have kg:∀w,n9 P g R ops i w w:=fun w oj lH=>⟨fun _=>rfl,fun hn=>(by rw[ny]at lH;cases lH;rw[zQ]at hn;cases hn)⟩
      cases hn:Wg P o.op
      case true=>
        rw[zj hn (ev fr) R []]at h
        obtain⟨v,hk',hr⟩:=j3 h
        refine cY.take iV (S0:=Own g []) ny hs kG.1 kG.2 (fun _ _ _ h=>h) (fun w _=>kg w) (fun j oj w w' ie hj hno h0 hk=>?_) (.inl ⟨jk hc.2 _,fun w' dx=>by rw[ha.eval];exact hr w' dx⟩) hw.kP ?_
        · cases xR:tu oj.op
          · exact((hk oj ie).2 xR).1
          · rw[(hk oj ie).1 xR];exact h0
        · refine pV hs wB hk r _ _ H hk' fuel BS (iV.step (by simpa using kG.2)) _ w (ha.put hc.1 v) hw ?_ (hout v)
          rintro⟨k,ok,wu,tA,qi⟩
          exact hR ⟨k,ok,wu,tA,fF hun qi⟩
      case false=>
        obtain⟨v,hk',hr⟩:=j3 h
        have hrd:uW P o.op=true:=by simp[uW,zQ,hn]
        have Xu:Own g R w:=hR ⟨i,o,ny,hrd,hun⟩
        refine cY.take iV (S0:=Own g R) ny hs kG.1 kG.2 (fun _ _ _ h=>h) (fun w _=>kg w) (fun j oj w w' ie hj hno h0 hk=>?_) (.inl ⟨jk hc.2 _,fun w' dx=>by rw[ha.eval];exact hr w' dx⟩) Xu ?_
        · cases xR:tu oj.op
          · exact((hk oj ie).2 xR).2 (kT ny hrd hj hno) h0
          · rw[(hk oj ie).1 xR];exact h0
        · exact pV hs wB hk r _ _ H hk' fuel BS (iV.step (by simpa using kG.2)) _ w (ha.put hc.1 v) hw (fun _=>Xu) (hout v)
    case false=>
      cases kG:(Region.ready .any ops listed==[i])<;>simp only[kG,cond_true,cond_false]at h
      have hrd:=beq_iff_eq.1 kG
      have HV:i∈Region.ready .any ops listed:=by rw[hrd];simp
      refine cY.all hrd (by simp) fun j hj=>?_
      simp only[List.mem_singleton]at hj
      subst hj
      unfold wpOp
      simp only[ny,jk hc.2,if_true]
      refine .inl ?_
      unfold Oper.wp
      rw[ha.eval]
      refine(tc (nC fr) h w hw).upon (fun v H' w' cz hb=>?_) (fun ch H' w' _ h0=>h0.elim)
      obtain⟨he,hk'⟩:=hb.of
      refine⟨fun oj lH=>⟨fun hp=>(by rw[ny]at lH;cases lH;rw[zQ]at hp;cases hp),fun _=>⟨cz.kP,fun hn _=>he (tg hn) _ _ cz⟩⟩,pV hs wB hk r _ _ H' hk' fuel BS (iV.step HV) _ w' (ha.put hc.1 v) cz ?_ (hout v)⟩
      rintro⟨k,ok,wu,tA,qi⟩
      refine he (tg ?_) _ _ cz
      have Tt:j≠k:=fun e=>by
        subst e
        rw[Array.getD_eq_getD_getElem?,Array.getElem?_setIfInBounds_self]at qi
        have:=(mem_ready.1 HV).1
        rw[Array.getD_eq_getD_getElem?]at this
        split at qi
        · simp at qi
        · rename_i hlt;rw[Array.getElem?_eq_none (by omega)]at this;simp at this
      rw[getD_set_ne true Tt]at qi
      refine kT wu tA Tt fun hw=>?_
      rw[iV.ready HV hw]at qi;cases qi
abbrev Mk:=Obj×(Nat→Value)
def Nx(elem size bytes:Nat)(zero:Value)(l c:Value)(k:Mk→Prop):Prop:=
  ∃kl kc ln cn,l=.int kl (ln:Nat)∧c=.int kc (cn:Nat)∧ln≤cn∧(cn:Int)≤9223372036854775807∧cn*bytes≤281474976710656∧
    k (.cells (madeCells zero.cells (cn*size)) elem (0,0),fun b=>.slice (some ⟨b,0,none⟩) ln cn)
def NI(P:Program)(t len:Nat)(parts:List (Nat×Value))(k:Mk→Prop):Prop:=
  ∃cs e n z,P.underlying t=some (.slice e)∧dg P e=some n∧eW P e=some z∧len*n≤2^24∧
      Instr.fill (fun i=>some (i*n,n)) ((Array.range (len*n)).map (z.cells[· %z.cells.size]!)) parts=some cs∧k (.cells cs e (0,0),fun b=>.slice (some ⟨b,0,none⟩) len len)
def Claim(P:Program)(o:Oper)(ρ:Operand→Value)(k:Mk→Prop):Prop:=
  match o.op with
  | .alloc t=>match eW P t with
    |some z=>k (.cells z.cells t (0,0),fun b=>.pointer (some ⟨b,0,none⟩))
    |none=>False
  | .makeMap _ none=>k (.map #[] 0,fun b=>.map (some b))
  | .makeSlice t l c=>match P.underlying t with
    |some (.slice e)=>match dg P e,tS P e,eW P e with
      |some n,some b,some z=>Nx e n b z (ρ l) (ρ c) k
      |_,_,_=>False
    |_=>False
  | .buildSlice t len parts=>NI P t len (parts.toList.map fun p=>(p.1,ρ p.2)) k
  |_=>False
def wQ(P:Program)(o:Oper)(ρ:Operand→Value)(x:Mk):Prop:=∀w,(execOp ρ o).run P w=.ok (.value (x.2 w.heap.size)) (w.alloc x.1)
theorem Claim.makes{o:Oper}{ρ:Operand→Value}{k:Mk→Prop}(h:Claim P o ρ k):∃x,wQ P o ρ x∧k x:=by
  unfold Claim at h
  split at h
  · rename_i t hop
    split at h<;>try exact h.elim
    rename_i z hz
    obtain⟨i,hi,vc⟩:=cI hz
    refine⟨_,fun w=>?_,h⟩
    simp only[execOp,hop]
    simp[Instr.alloc,dQ hi vc,newVar,newRow]
  · rename_i t hop
    refine⟨_,fun w=>?_,h⟩
    simp only[execOp,hop]
    simp[Instr.makeMap]
  · rename_i t l c hop
    split at h<;>try exact h.elim
    rename_i e ht
    split at h<;>try exact h.elim
    rename_i n b z hn hb hz
    obtain⟨i,hi,hin⟩:=bC hn
    obtain⟨i',hi',vc⟩:=cI hz
    obtain⟨i2,zR,tC⟩:=mK hb
    have e1:i'=i:=Option.some.inj (hi'.symm.trans hi)
    have e2:i2=i:=Option.some.inj (zR.symm.trans hi)
    subst e1;subst e2
    obtain⟨kl,kc,ln,cn,hl,hc,hlc,ca,hby,hk⟩:=h
    subst hin;subst tC
    refine⟨_,fun w=>?_,hk⟩
    have e1:IntKind.i64.wrap (ln:Int)=ln:=IntWalk.i64_in _ (by omega)
    have e2:IntKind.i64.wrap (cn:Int)=cn:=IntWalk.i64_in _ (by omega)
    have e3:¬((i2.bytes:Int)*(cn:Int)>281474976710656):=by
      have:((cn*i2.bytes:Nat):Int)≤281474976710656:=by omega
      rw[Int.mul_comm];push_cast at this;omega
    have e4:¬((cn:Int)<ln):=by omega
    simp only[execOp,hop]
    by_cases h0:cn*i2.size=0
    · simp[Instr.makeSlice,run_underlying ht,asInt,asIntOf,typeInfo,hi,hl,hc,e1,e2,e3,e4,sizeOf,zeroValue,vc,newRow,madeCells,h0,show¬((cn:Int)<0)from by omega,show¬((ln:Int)<0)from by omega]
      have:Array.range 0=#[]:=rfl
      simp[this]
    · simp[Instr.makeSlice,run_underlying ht,asInt,asIntOf,typeInfo,hi,hl,hc,e1,e2,e3,e4,sizeOf,zeroValue,vc,newRow,madeCells,h0,show¬((cn:Int)<0)from by omega,show¬((ln:Int)<0)from by omega]
  · rename_i t len parts hop
    obtain⟨cs,e,n,z,ht,hn,hz,hl,hf,hk⟩:=h
    obtain⟨i,hi,hin⟩:=bC hn
    obtain⟨i',hi',vc⟩:=cI hz
    have:i'=i:=Option.some.inj (hi'.symm.trans hi)
    subst this
    subst hin
    refine⟨_,fun w=>?_,hk⟩
    have hl':¬(len*i'.size>2^24):=by omega
    have tw:(parts.map fun(x:Nat×Operand)=>(x.1,ρ x.2)).toList=parts.toList.map fun p=>(p.1,ρ p.2):=by rw[Array.toList_map]
    by_cases h0:len*i'.size=0
    · simp only[execOp,hop,Instr.buildSlice,Sem.run_bind,run_underlying ht,Result.andThen_ok,run_sizeOf hi,hl',if_false,h0,if_true,Sem.run_pure]
      rw[h0]at hf
      have Tc:Array.range 0=#[]:=rfl
      simp only[Tc,Array.map_empty,List.map_toArray,List.map_nil]at hf⊢
      rw[tw,hf]
      simp[newRow]
    · simp only[execOp,hop,Instr.buildSlice,Sem.run_bind,run_underlying ht,Result.andThen_ok,run_sizeOf hi,hl',if_false,h0,dQ hi vc,Sem.run_pure]
      simp[hf,newRow]
  · exact h.elim
abbrev Ff:=List (Nat×Mk)
def marks:Ff→Nat→Array Bool→Array Bool
  | [],_,l=>l
  |x::r,i,l=>marks r i (cond (Nat.beq x.1 i) l (l.setIfInBounds x.1 true))
def eJ(ops:Array Oper)(o:Oper)(i:Nat)(listed:Array Bool):Ff→Bool
  | []=>true
  |x::r=>(Nat.beq x.1 i||listed.getD x.1 true||(match ops[x.1]? with|some of=>of.apart ops o|none=>false)) &&eJ ops o i listed r
def e7:Ff→Nat→Option Mk
  | [],_=>none
  |x::r,i=>cond (Nat.beq x.1 i) (some x.2) (e7 r i)
def No(listed:Array Bool):Ff→Bool
  | []=>true
  |x::r=>listed.getD x.1 false&&No listed r
inductive Hn
  |e
  |h(m:Nat)(L I:List Nat)(a b:Hn)
def Hn.m:Hn→Nat| .e=>0| .h m _ _ _ _=>m
def Hn.L:Hn→List Nat| .e=>[]| .h _ L _ _ _=>L
def Hn.I:Hn→List Nat| .e=>[]| .h _ _ I _ _=>I
def Hn.a:Hn→Hn| .e=>.e| .h _ _ _ a _=>a
def Hn.b:Hn→Hn| .e=>.e| .h _ _ _ _ b=>b
def Br(v:Value)(t f:Prop):Prop:=∃b,v=.bool b∧(b=true→t)∧(b=false→f)
def SO(p:Oper)(fr:Fr):Value:=
  match p.op with
  | .move x=>ev fr x
  | .assign x=>ev fr x
  |_=>oB p fr
def HR(p:Oper):Bool:=match p.op with| .pick .. =>true| .move _=>true| .assign _=>true|_=>false
theorem Lw{p:Oper}{fr:Fr}{t:Bool}(hp:HR p=true)(h:SO p fr=.bool t)(w:World):(execOp (ev fr) p).run P w=.ok (.value (.bool t)) w:=by
  unfold HR at hp
  unfold SO at h
  split at h
  · rename_i x hop;simp only[execOp,hop,h];rfl
  · rename_i x hop;simp only[execOp,hop,h];rfl
  · rename_i h1 h2
    split at hp
    · rename_i hop;exact oA (by unfold qH;rw[hop]) h w
    · rename_i x hop;exact absurd hop (h1 x)
    · rename_i x hop;exact absurd hop (h2 x)
    · cases hp
theorem LD{p:Oper}(hp:HR p=true):tu p.op=true:=by
  unfold HR at hp
  split at hp<;>first|(rename_i hop;rw[hop];rfl)|cases hp
def wX(ops:Array Oper)(fr:Fr)(o:Oper):Option Bool:=
  match o.guard with
  |none=>some true
  |some (j,want)=>match dX ops j with
    |none=>none
    |some s=>match fr s with
      | .bool b=>some (b==want)
      | .tuple _=>some false
      |_=>none
def oM(P:Program)(g:Gh)(n:Nat)(ops:Array Oper)(R:Hp)(K:Fr→Hp→Prop):Hn→Ff→Array Bool→Fr→Hp→Prop
  | .e,cl,listed,fr,H=>cond ((Region.ready .any ops listed).isEmpty&&No listed cl) (K fr H) False
  | .h m L T pa pb,cl,listed,fr,H=>
    match L with
    | [i]=>
      match ops[i]? with
      |none=>False
      |some o=>
        cond (Nat.beq m 1)
          (cond (dR n o.dst&&o.guard.isNone&& !tu o.op&& !listed.getD i true&&eJ ops o i listed cl&& (match e7 cl i with|none=>true|some _=>false))
            (Claim P o (ev fr) fun x=>oM P g n ops R K pa ((i,x)::cl) listed fr H) False)
          (cond (dR n o.dst&&eJ ops o i listed cl&& (Region.ready .any ops listed).contains i)
            (match wX ops fr o with
            |none=>False
            |some false=>cond (Region.free .any ops listed i&& (match e7 cl i with|none=>true|some _=>false)) (oM P g n ops R K pa cl (listed.setIfInBounds i true) (cg fr o.dst undef) H) False
            |some true=>
              cond (Nat.beq m 3) (cond (HR o&&Region.free .any ops listed i) (match SO o fr with
                | .bool b=>oM P g n ops R K pa cl (listed.setIfInBounds i true) (cg fr o.dst (.bool b)) H
                |_=>False) False)
              (cond (tu o.op)
                (cond (Region.free .any ops listed i)
                  (AS P g o (ev fr) R fun v=>cond (Nat.beq m 0) (oM P g n ops R K pa cl (listed.setIfInBounds i true) (cg fr o.dst v) H)
                    (Br v (oM P g n ops R K pa cl (listed.setIfInBounds i true) (cg fr o.dst (.bool true)) H) (oM P g n ops R K pb cl (listed.setIfInBounds i true) (cg fr o.dst (.bool false)) H))) False)
                (cond (Region.ready .any ops (marks cl i listed)==[i])
                  (match e7 cl i with
                    |some x=>bn H x.1 fun b H'=>oM P g n ops R K pa cl (listed.setIfInBounds i true) (cg fr o.dst (x.2 b)) H'
                    |none=>∀F,NR P (g.add F) o (ev fr) H (fun v H'=>GL (Lk P ops T i) (aU H' R) (oM P g n ops R K pa cl (listed.setIfInBounds i true) (cg fr o.dst v) H')) (fun _ _=>False)) False))) False)
    |_=>False
theorem ML{cl:Ff}{i:Nat}{x:Mk}(h:e7 cl i=some x):(i,x)∈cl:=by
  induction cl with
  |nil=>simp[e7]at h
  |cons y r ih=>
    simp only[e7]at h
    cases hb:Nat.beq y.1 i<;>simp only[hb,cond_true,cond_false]at h
    · exact List.mem_cons_of_mem _ (ih h)
    · have:=Nat.eq_of_beq_eq_true hb
      simp only[Option.some.injEq]at h
      subst this;subst h;exact List.mem_cons_self
theorem Iq{cl:Ff}{i:Nat}(h:i∈cl.map Prod.fst):∃x,e7 cl i=some x:=by
  induction cl with
  |nil=>simp at h
  |cons y r ih=>
    simp only[e7]
    cases hb:Nat.beq y.1 i
    · simp only[cond_false]
      rw[List.map_cons,List.mem_cons]at h
      rcases h with h|h
      · subst h;simp at hb
      · exact ih h
    · exact⟨_,rfl⟩
theorem iX{cl:Ff}{i:Nat}{x:Mk}(h:e7 cl i=some x):i∈cl.map Prod.fst:=List.mem_map.2 ⟨_,ML h,rfl⟩
theorem vX{l:Ff}{i:Nat}{b:Array Bool}{k:Nat}:(marks l i b)[k]? =if k∈l.map Prod.fst∧k≠i∧k<b.size then some true else b[k]? :=by
  induction l generalizing b with
  |nil=>simp[marks]
  |cons y r ih=>
    simp only[marks]
    cases hy:Nat.beq y.1 i
    · have hne:y.1≠i:=fun e=>by rw[e]at hy;simp at hy
      simp only[cond_false,ih,Array.size_setIfInBounds]
      by_cases hk:k∈r.map Prod.fst∧k≠i∧k<b.size
      · rw[if_pos hk,if_pos ⟨by rw[List.map_cons];exact List.mem_cons_of_mem _ hk.1,hk.2⟩]
      · rw[if_neg hk]
        by_cases e:y.1=k
        · subst e
          by_cases hlt:y.1<b.size
          · rw[if_pos ⟨by simp,hne,hlt⟩,Array.getElem?_setIfInBounds_self_of_lt hlt]
          · rw[if_neg (fun h=>hlt h.2.2),Array.getElem?_eq_none (by simp;omega),Array.getElem?_eq_none (by omega)]
        · rw[Array.getElem?_setIfInBounds_ne e,if_neg]
          rintro⟨h1,h2⟩
          rw[List.map_cons,List.mem_cons]at h1
          rcases h1 with h1|h1
          · exact e h1.symm
          · exact hk ⟨h1,h2⟩
    · have he:=Nat.eq_of_beq_eq_true hy
      simp only[cond_true,ih]
      by_cases hk:k∈r.map Prod.fst∧k≠i∧k<b.size
      · rw[if_pos hk,if_pos ⟨by rw[List.map_cons];exact List.mem_cons_of_mem _ hk.1,hk.2⟩]
      · rw[if_neg hk,if_neg]
        rintro⟨h1,h2,h3⟩
        rw[List.map_cons,List.mem_cons]at h1
        rcases h1 with h1|h1
        · exact h2 (h1.trans he)
        · exact hk ⟨h1,h2,h3⟩
theorem fm{ops:Array Oper}{o:Oper}{i:Nat}{listed:Array Bool}{l:Ff}(h:eJ ops o i listed l=true){f:Nat}(hf:f∈l.map Prod.fst)(hne:f≠i)(hun:listed.getD f true=false):
    ∃of,ops[f]? =some of∧of.apart ops o=true:=by
  induction l with
  |nil=>simp at hf
  |cons x r ih=>
    simp only[eJ,Bool.and_eq_true,Bool.or_eq_true]at h
    rw[List.map_cons]at hf
    rcases List.mem_cons.1 hf with rfl|hf
    · rcases h.1 with(h1|h1)|h1
      · exact absurd (Nat.eq_of_beq_eq_true h1) hne
      · rw[hun]at h1;simp at h1
      · split at h1
        · rename_i of ho;exact⟨of,ho,h1⟩
        · simp at h1
    · exact ih h.2 hf
theorem Cj{ops:Array Oper}{x y:Oper}(h:x.apart ops y=true):y.apart ops x=true:=by
  unfold Oper.apart at*
  cases hx:x.dst<;>cases hy:y.dst<;>simp_all
  exact fun e=>h.1.2 e.symm
theorem qP{ops:Array Oper}{l l':Array Bool}{i:Nat}(h:Region.free .any ops l i=true)(hm:∀k,l.getD k true=true→l'.getD k true=true):Region.free .any ops l' i=true:=by
  unfold Region.free at*
  split at h
  · simp at h
  · rename_i oi ny
    rw[List.all_eq_true]at h⊢
    intro j hj
    have:=h j hj
    simp only[Bool.or_eq_true]at this⊢
    rcases this with(h1|h1)|h1
    · exact .inl (.inl h1)
    · exact .inl (.inr (hm j h1))
    · exact .inr h1
abbrev Early:=List (Nat×Nat×Mk)
def RC(E:Early):Hp:=E.map fun x=>(x.2.1,x.2.2.1)
structure UT(P:Program)(n:Nat)(ops:Array Oper)(listed:Array Bool)(cl:Ff)(fr:Fr)(j:Nat)(x:Mk)(o:Oper):Prop where
  op:ops[j]? =some o
  zl:tu o.op=false
  dst:dR n o.dst=true
  gd:o.guard.isNone=true
  makes:wQ P o (ev fr) x
  Zr:∀k y,e7 cl k=some y→k≠j→listed.getD k true=false→∃ok,ops[k]? =some ok∧ok.apart ops o=true
structure kC(P:Program)(n:Nat)(ops:Array Oper)(cl:Ff)(listed la:Array Bool)(E:Early)(fr fa:Fr):Prop where
  mem:∀x∈E,e7 cl x.1=some x.2.2∧listed.getD x.1 true=false
  nd:(E.map Prod.fst).Nodup
  la:∀k,la[k]? =if k∈E.map Prod.fst then some true else listed[k]?
  out:∀s,(∀x∈E,dX ops x.1≠some s)→fa s=fr s
  at_:∀x∈E,∀d,dX ops x.1=some d→fa d=x.2.2.2 x.2.1
  cl:∀j x,e7 cl j=some x→listed.getD j true=false→∃o,UT P n ops listed cl fr j x o
section
variable {n:Nat} {ops:Array Oper} {cl:Ff} {listed la:Array Bool} {E:Early} {fr fa:Fr}
theorem kC.more(h:kC P n ops cl listed la E fr fa){k:Nat}{b:Bool}(hk:listed.getD k b=true):la.getD k b=true:=by
  have:=h.la k
  rw[Array.getD_eq_getD_getElem?]at hk⊢
  rw[this]
  split
  · rfl
  · exact hk
theorem kC.ready(h:kC P n ops cl listed la E fr fa){i:Nat}(hi:i∉E.map Prod.fst)(hr:i∈Region.ready .any ops listed):i∈Region.ready .any ops la:=by
  rw[mem_ready]at hr⊢
  obtain⟨h1,o,ho,aJ⟩:=hr
  refine⟨?_,o,ho,fun e he hb=>h.more (aJ e he hb)⟩
  have:=h.la i
  rw[Array.getD_eq_getD_getElem?]at h1⊢
  rw[this,if_neg hi];exact h1
theorem QH{i k:Nat}(h:(listed.setIfInBounds i true).getD k true=false):i≠k∧listed.getD k true=false:=by
  by_cases e:i=k
  · subst e
    rw[Array.getD_eq_getD_getElem?]at h
    rcases Nat.lt_or_ge i listed.size with hl|hl
    · rw[Array.getElem?_setIfInBounds_self_of_lt hl]at h;cases h
    · rw[Array.getElem?_eq_none (by simpa using hl)]at h;cases h
  · exact⟨e,by rwa [getD_set_ne true e]at h⟩
theorem wQ.congr{o o':Oper}{x:Mk}{v:Value}(h:wQ P o (ev fr) x)(hs:∀cs b,o.op≠.select cs b)(hap:o.apart ops o'=true):wQ P o (ev (cg fr o'.dst v)) x:=by
  have e:execOp (ev (cg fr o'.dst v)) o=execOp (ev fr) o:=by
    refine execOp_congr o hs fun y hy=>?_
    cases y with
    |tmp t=>
      obtain⟨_,_,h3⟩:=Oper.apart_spec hap
      cases hd:o'.dst with
      |none=>rfl
      |some d=>
        have:=h3 d hd
        have hne:Nat.beq t d=false:=by
          cases hb:Nat.beq t d
          · rfl
          · have e:=Nat.eq_of_beq_eq_true hb;subst e
            refine absurd ?_ this
            exact List.mem_append_left _ (List.mem_filterMap.2 ⟨Operand.tmp t,by simpa using hy,rfl⟩)
        simp only[ev,cg,hne,cond_false]
    |const v=>rfl
    |global g=>rfl
    |func f=>rfl
  intro w;rw[e];exact h w
theorem MW(hs:Region.noSelect ops=true)(gJ:∀j x,e7 cl j=some x→listed.getD j true=false→∃o,UT P n ops listed cl fr j x o){i:Nat}{o:Oper}(hap:eJ ops o i listed cl=true)(v:Value):
    ∀j x,e7 cl j=some x→(listed.setIfInBounds i true).getD j true=false→∃oj,UT P n ops (listed.setIfInBounds i true) cl (cg fr o.dst v) j x oj:=by
  intro j x hx hun
  obtain⟨hne,Ph⟩:=QH hun
  obtain⟨oj,h⟩:=gJ j x hx Ph
  obtain⟨oj',cz,acm⟩:=fm hap (iX hx) (Ne.symm hne) Ph
  rw[h.op]at cz;cases cz
  exact⟨oj,h.op,h.zl,h.dst,h.gd,h.makes.congr (fun cs b=>Region.noSelect_spec hs j oj cs b h.op) acm,fun k y hk Vd L5=>h.Zr k y hk Vd (QH L5).2⟩
theorem kC.step(hs:Region.noSelect ops=true)(h:kC P n ops cl listed la E fr fa){i:Nat}{o:Oper}(ny:ops[i]? =some o)(hi:i∉E.map Prod.fst)
   (tF:eJ ops o i listed cl=true)(v:Value):kC P n ops cl (listed.setIfInBounds i true) (la.setIfInBounds i true) E (cg fr o.dst v) (cg fa o.dst v):=by
  have hap:∀x∈E,∃of,ops[x.1]? =some of∧of.apart ops o=true:=fun x hx=>
      fm tF (iX (h.mem x hx).1) (fun e=>hi (e▸List.mem_map_of_mem hx)) (h.mem x hx).2
  have hsz:la[i]? =listed[i]? :=by rw[h.la i,if_neg hi]
  refine⟨fun x hx=>⟨(h.mem x hx).1,?_⟩,h.nd,fun k=>?_,fun s hs=>?_,fun x hx d hd=>?_,MW hs h.cl tF v⟩
  · have hne:i≠x.1:=fun e=>hi (e▸List.mem_map_of_mem hx)
    rw[getD_set_ne true hne];exact(h.mem x hx).2
  · by_cases e:i=k
    · subst e
      rw[if_neg hi,Array.getElem?_setIfInBounds,Array.getElem?_setIfInBounds]
      simp only[if_true]
      have:i<la.size↔i<listed.size:=by
        constructor
        · intro hlt;rw[Array.getElem?_eq_getElem hlt]at hsz;exact(Array.getElem?_eq_some_iff.1 hsz.symm).1
        · intro hlt;rw[Array.getElem?_eq_getElem hlt]at hsz;exact(Array.getElem?_eq_some_iff.1 hsz).1
      by_cases hlt:i<la.size
      · rw[if_pos hlt,if_pos (this.1 hlt)]
      · rw[if_neg hlt,if_neg (fun x=>hlt (this.2 x))]
    · rw[Array.getElem?_setIfInBounds_ne e,Array.getElem?_setIfInBounds_ne e];exact h.la k
  · cases hd:o.dst with
    |none=>exact h.out s hs
    |some d=>
      simp only[cg]
      cases Nat.beq s d
      · exact h.out s hs
      · rfl
  · obtain⟨of,Th,hap⟩:=hap x hx
    obtain⟨h1,h2,h3⟩:=Oper.apart_spec hap
    have Tg:of.dst=some d:=by simpa[dX,Th]using hd
    have:=h2 d Tg
    cases hdo:o.dst with
    |none=>exact h.at_ x hx d hd
    |some d'=>
      have hne:Nat.beq d d'=false:=by
        cases hb:Nat.beq d d'
        · rfl
        · have e:=Nat.eq_of_beq_eq_true hb;subst e;exact absurd hdo this
      simp only[cg,hne,cond_false];exact h.at_ x hx d hd
theorem kC.exec(h:kC P n ops cl listed la E fr fa){o:Oper}
   (hap:∀x∈E,∃of,ops[x.1]? =some of∧of.apart ops o=true)(hs:∀cs b,o.op≠.select cs b):execOp (ev fa) o=execOp (ev fr) o:=by
  refine execOp_congr o hs fun x hx=>?_
  cases x with
  |tmp t=>
    refine h.out t fun y hy e=>?_
    obtain⟨of,Th,hap⟩:=hap y hy
    obtain⟨h1,_,_⟩:=Oper.apart_spec hap
    refine h1 t (by simpa[dX,Th]using e) ?_
    exact List.mem_append_left _ (List.mem_filterMap.2 ⟨.tmp t,by simpa using hx,rfl⟩)
  |const v=>rfl
  |global g=>rfl
  |func f=>rfl
theorem kC.early(h:kC P n ops cl listed la E fr fa){j b:Nat}{x:Mk}(hj:e7 cl j=some x)(L6:j∉E.map Prod.fst)(hun:listed.getD j true=false)
   {o:Oper}(ho:ops[j]? =some o):kC P n ops cl listed (la.setIfInBounds j true) ((j,b,x)::E) fr (cg fa o.dst (x.2 b)):=by
  obtain⟨o',gJ⟩:=h.cl j x hj hun
  have cz:=gJ.op
  rw[ho]at cz;cases cz
  have TM:∀y∈E,∃of,ops[y.1]? =some of∧of.apart ops o=true:=fun y hy=>
    gJ.Zr y.1 _ (h.mem y hy).1 (fun e=>L6 (e▸List.mem_map_of_mem hy)) (h.mem y hy).2
  have abL:j<la.size:=by
    have hl:=h.la j
    rw[if_neg L6]at hl
    have h2:j<listed.size:=by
      rcases Nat.lt_or_ge j listed.size with h2|h2
      · exact h2
      · rw[Array.getD_eq_getD_getElem?,Array.getElem?_eq_none h2]at hun;simp at hun
    rw[Array.getElem?_eq_getElem h2]at hl
    exact(Array.getElem?_eq_some_iff.1 hl).1
  refine⟨fun y hy=>?_,?_,fun k=>?_,fun s hs=>?_,fun y hy d hd=>?_,h.cl⟩
  · rcases List.mem_cons.1 hy with rfl|hy
    · exact⟨hj,hun⟩
    · exact h.mem y hy
  · rw[List.map_cons,List.nodup_cons];exact⟨L6,h.nd⟩
  · by_cases e:j=k
    · subst e;rw[if_pos (by simp),Array.getElem?_setIfInBounds_self_of_lt abL]
    · rw[Array.getElem?_setIfInBounds_ne e,h.la k]
      by_cases hk:k∈E.map Prod.fst
      · rw[if_pos hk,if_pos (by rw[List.map_cons];exact List.mem_cons_of_mem _ hk)]
      · rw[if_neg hk,if_neg]
        rw[List.map_cons,List.mem_cons]
        rintro(h1|hk')
        · exact e h1.symm
        · exact hk hk'
  · have hne:=hs (j,b,x) (by simp)
    simp only[dX,ho]at hne
    rw[show cg fa o.dst (x.2 b) s=fa s from ?_]
    · exact h.out s fun y hy=>hs y (by simp[hy])
    · cases hd:o.dst with
      |none=>rfl
      |some d=>
        rw[hd]at hne
        have:Nat.beq s d=false:=by
          cases hb:Nat.beq s d
          · rfl
          · exact absurd (congrArg some (Nat.eq_of_beq_eq_true hb).symm) hne
        simp only[cg,this,cond_false]
  · rcases List.mem_cons.1 hy with rfl|hy
    · simp only[dX,ho]at hd
      rw[hd];simp[cg]
    · obtain⟨of,Th,hap⟩:=TM y hy
      obtain⟨_,h2,_⟩:=Oper.apart_spec hap
      have Tg:of.dst=some d:=by simpa[dX,Th]using hd
      have:=h2 d Tg
      cases hdo:o.dst with
      |none=>exact h.at_ y hy d hd
      |some d'=>
        have hne:Nat.beq d d'=false:=by
          cases hb:Nat.beq d d'
          · rfl
          · have e:=Nat.eq_of_beq_eq_true hb;subst e;exact absurd hdo this
        simp only[cg,hne,cond_false];exact h.at_ y hy d hd
theorem kC.xq(hs:Region.noSelect ops=true){E1 E2:Early}{j b:Nat}{x:Mk}(h:kC P n ops cl listed la (E1++(j,b,x)::E2) fr fa){o:Oper}(ho:ops[j]? =some o)(tF:eJ ops o j listed cl=true):
    kC P n ops cl (listed.setIfInBounds j true) la (E1++E2) (cg fr o.dst (x.2 b)) fa:=by
  have ig:=h.nd
  rw[List.map_append,List.map_cons]at ig
  have NX:j∉(E1++E2).map Prod.fst:=by
    have:=(List.perm_middle.nodup_iff.1 ig)
    rw[List.nodup_cons]at this
    rw[List.map_append];exact this.1
  have hsub:∀y,y∈E1++E2→y∈E1++(j,b,x)::E2:=fun y hy=>by
    rcases List.mem_append.1 hy with hy|hy<;>simp[hy]
  have FZ:j<listed.size:=by
    have h2:=(h.mem (j,b,x) (by simp)).2
    rcases Nat.lt_or_ge j listed.size with h3|h3
    · exact h3
    · simp only at h2;rw[Array.getD_eq_getD_getElem?,Array.getElem?_eq_none h3]at h2;simp at h2
  refine⟨fun y hy=>⟨(h.mem y (hsub y hy)).1,?_⟩,?_,fun k=>?_,fun s hs=>?_,fun y hy d hd=>h.at_ y (hsub y hy) d hd,MW hs h.cl tF _⟩
  · have hne:j≠y.1:=fun e=>NX (e▸List.mem_map_of_mem hy)
    rw[getD_set_ne true hne];exact(h.mem y (hsub y hy)).2
  · have:=(List.perm_middle.nodup_iff.1 ig)
    rw[List.nodup_cons]at this
    rw[List.map_append];exact this.2
  · have hk:=h.la k
    by_cases e:j=k
    · subst e
      rw[if_pos (by simp)]at hk
      rw[hk,if_neg NX,Array.getElem?_setIfInBounds_self_of_lt FZ]
    · rw[Array.getElem?_setIfInBounds_ne e,hk]
      have:k∈(E1++(j,b,x)::E2).map Prod.fst↔k∈(E1++E2).map Prod.fst:=by
        simp only[List.map_append,List.map_cons,List.mem_append,List.mem_cons]
        constructor
        · rintro(h|rfl|h)
          · exact .inl h
          · exact absurd rfl e
          · exact .inr h
        · rintro(h|h)
          · exact .inl h
          · exact .inr (.inr h)
      simp only[this]
  · by_cases e:dX ops j=some s
    · rw[h.at_ (j,b,x) (by simp) s e]
      simp only[dX,ho]at e
      rw[e];simp[cg]
    · rw[h.out s fun y hy=>?_]
      · simp only[dX,ho]at e
        cases hd:o.dst with
        |none=>rfl
        |some d=>
          rw[hd]at e
          have:Nat.beq s d=false:=by
            cases hb:Nat.beq s d
            · rfl
            · exact absurd (congrArg some (Nat.eq_of_beq_eq_true hb).symm) e
          simp only[cg,this,cond_false]
      · rcases List.mem_append.1 hy with hy|hy
        · exact hs y (by simp[hy])
        · rcases List.mem_cons.1 hy with rfl|hy
          · exact e
          · exact hs y (by simp[hy])
theorem kC.X3(h:kC P n ops cl listed la E fr fa){i:Nat}{o:Oper}{x:Mk}(ho:ops[i]? =some o)(hd:dR n o.dst=true)(hg:o.guard.isNone=true)(hp:tu o.op=false)(hun:listed.getD i true=false)
   (hap:eJ ops o i listed cl=true)(hno:e7 cl i=none)(hm:wQ P o (ev fr) x):kC P n ops ((i,x)::cl) listed la E fr fa:=by
  have hne:∀j y,e7 cl j=some y→j≠i:=fun j y hj e=>by subst e;rw[hno]at hj;cases hj
  have hex:∀j y,e7 cl j=some y→e7 ((i,x)::cl) j=some y:=fun j y hj=>by
    have:Nat.beq i j=false:=by
      cases hb:Nat.beq i j
      · rfl
      · exact absurd (Nat.eq_of_beq_eq_true hb).symm (hne j y hj)
    simp only[e7,this,cond_false];exact hj
  have TA:∀j y,e7 ((i,x)::cl) j=some y→(j=i∧y=x)∨(j≠i∧e7 cl j=some y):=fun j y hj=>by
    simp only[e7]at hj
    cases hb:Nat.beq i j<;>simp only[hb,cond_true,cond_false]at hj
    · exact .inr ⟨fun e=>by subst e;simp at hb,hj⟩
    · exact .inl ⟨(Nat.eq_of_beq_eq_true hb).symm,by simpa using hj.symm⟩
  refine⟨fun y hy=>⟨hex _ _ (h.mem y hy).1,(h.mem y hy).2⟩,h.nd,h.la,h.out,h.at_,fun j y hj hu=>?_⟩
  rcases TA j y hj with⟨rfl,rfl⟩|⟨WQ,Y9⟩
  · refine⟨o,ho,hp,hd,hg,hm,fun k z hk Vd L5=>?_⟩
    rcases TA k z hk with⟨rfl,rfl⟩|⟨_,hk⟩
    · exact absurd rfl Vd
    · exact fm hap (iX hk) Vd L5
  · obtain⟨oj,hc⟩:=h.cl j y Y9 hu
    refine⟨oj,hc.op,hc.zl,hc.dst,hc.gd,hc.makes,fun k z hk Vd L5=>?_⟩
    rcases TA k z hk with⟨rfl,rfl⟩|⟨_,hk⟩
    · obtain⟨oj',h1,h2⟩:=fm hap (iX Y9) WQ hu
      rw[hc.op]at h1;cases h1
      exact⟨o,ho,Cj h2⟩
    · exact hc.Zr k z hk Vd L5
end
theorem Is{E1 E2:Early}{y:Nat×Nat×Mk}:(RC (E1++y::E2)).Perm ((y.2.1,y.2.2.1)::RC (E1++E2)):=by
  unfold RC
  rw[List.map_append,List.map_cons,List.map_append]
  exact List.perm_middle
def cnt:List Bool→Nat
  | []=>0
  |b::r=>cond b 0 1+cnt r
theorem Gd:∀(l:List Bool) (i:Nat),l[i]? =some false→cnt (l.set i true)+1=cnt l
  | [],i,h=>by simp at h
  |b::r,0,h=>by simp only[List.getElem?_cons_zero,Option.some.injEq]at h;subst h;simp only[List.set_cons_zero,cnt,cond_true,cond_false];omega
  |b::r,i+1,h=>by
    simp only[List.getElem?_cons_succ]at h
    have:=Gd r i h
    simp only[List.set_cons_succ,cnt];omega
theorem vk(n:Nat):cnt (List.replicate n false)=n:=by
  induction n with
  |zero=>rfl
  |succ n ih=>simp only[List.replicate_succ,cnt,ih,cond_false];omega
theorem fy{a:Array Bool}{i:Nat}(h:a.getD i true=false):a[i]? =some false:=by
  rw[Array.getD_eq_getD_getElem?]at h
  cases hg:a[i]? with
  |none=>rw[hg]at h;simp at h
  |some b=>rw[hg]at h;simpa using h
theorem mJ{a:Array Bool}{i fuel:Nat}(h:a.getD i true=false)(hf:cnt a.toList≤fuel):∃f,fuel=f+1∧cnt (a.setIfInBounds i true).toList≤f:=by
  have h1:=fy h
  have h2:a.toList[i]? =some false:=by rw[Array.getElem?_toList];exact h1
  have:=Gd _ _ h2
  refine⟨fuel-1,by omega,?_⟩
  have:(a.setIfInBounds i true).toList=a.toList.set i true:=by simp
  rw[this];omega
theorem IK{listed:Array Bool}{l:Ff}(h:No listed l=true){f:Nat}(hf:f∈l.map Prod.fst):listed.getD f false=true:=by
  induction l with
  |nil=>simp at hf
  |cons x r ih=>
    simp only[No,Bool.and_eq_true]at h
    rw[List.map_cons]at hf
    rcases List.mem_cons.1 hf with rfl|hf
    · exact h.1
    · exact ih h.2 hf
theorem PZ{a:Array Bool}{i:Nat}(h:a.getD i false=true):a.getD i true=true:=by
  rw[Array.getD_eq_getD_getElem?]at*
  cases hg:a[i]? with
  |none=>rfl
  |some b=>rw[hg]at h;simpa using h
theorem eE{n:Nat}{ops:Array Oper}{R:Hp}{K:Fr→Hp→Prop}{Q:Exit→Act→World→Prop}(hs:Region.noSelect ops=true)(wB:Fr)
   (hk:∀a w fr H,cq ds n a fr→Own g H w→dU ops.toList wB fr→K fr H→Q .normal a w):
    ∀(fuel:Nat) (l:Hn) (cl:Ff) (listed:Array Bool) (fr:Fr) (H:Hp),oM P g n ops R K l cl listed fr H→∀(E:Early) (la:Array Bool) (fa:Fr),cnt la.toList≤fuel→kC P n ops cl listed la E fr fa→eL .any ops la→
      ∀(a:Act) (w:World),cq ds n a fa→Own (g.add (RC E)) H w→((∃k ok,ops[k]? =some ok∧uW P ok.op=true∧la.getD k true=false)→Own g R w)→dU ops.toList wB fr→
      cY P .any ops (p8 Q) (n9 P g R ops) fuel la a w
  |fuel,.e,cl,listed,fr,H,h=>by
    intro E la fa hfuel hE iV a w ha hw hR ho
    unfold oM at h
    cases hr:((Region.ready .any ops listed).isEmpty&&No listed cl)<;>simp only[hr,cond_true,cond_false]at h
    simp only[Bool.and_eq_true]at hr
    have hr':Region.ready .any ops listed=[]:=by simpa using hr.1
    have hE0:E=[]:=by
      cases E with
      |nil=>rfl
      |cons x y=>
        have h1:=hE.mem x (by simp)
        have h2:=PZ (IK hr.2 (iX h1.1))
        rw[h1.2]at h2;cases h2
    subst hE0
    have hfa:fa=fr:=by funext s;exact hE.out s (by simp)
    subst hfa
    refine cY.done (Q:=p8 Q) ?_ (hk a w fa H ha hw ho h) fuel
    rw[List.eq_nil_iff_forall_not_mem]at hr'⊢
    intro k hk'
    refine hr' k ?_
    rw[mem_ready]at hk'⊢
    obtain⟨h1,o,h2,h3⟩:=hk'
    have hla:=fun k=>hE.la k
    simp only[List.map_nil,List.not_mem_nil,if_false]at hla
    refine⟨?_,o,h2,fun e he hb=>?_⟩
    · rw[Array.getD_eq_getD_getElem?,←hla,←Array.getD_eq_getD_getElem?];exact h1
    · rw[Array.getD_eq_getD_getElem?,←hla,←Array.getD_eq_getD_getElem?];exact h3 e he hb
  |fuel,.h m L T pa pb,cl,listed,fr,H,h=>by
    intro E la fa hfuel hE iV a w ha hw hR ho
    have h0:=h
    unfold oM at h
    split at h<;>try exact h.elim
    rename_i i
    split at h<;>try exact h.elim
    rename_i o ny
    cases h1:Nat.beq m 1<;>simp only[h1,cond_true,cond_false]at h
    case true=>
      cases hc:(dR n o.dst&&o.guard.isNone&& !tu o.op&& !listed.getD i true&&eJ ops o i listed cl&& (match e7 cl i with|none=>true|some _=>false))<;>simp only[hc,cond_true,cond_false]at h
      simp only[Bool.and_eq_true,Bool.not_eq_true']at hc
      obtain⟨⟨⟨⟨⟨hd,hg⟩,hp⟩,hun⟩,hap⟩,hno⟩:=hc
      have zL:e7 cl i=none:=by
        split at hno
        · assumption
        · cases hno
      obtain⟨x,hm,hk'⟩:=h.makes
      exact eE hs wB hk fuel pa _ listed fr H hk' E la fa hfuel (hE.X3 ny hd hg hp hun hap zL hm) iV a w ha hw hR ho
    have hmem:o∈ops.toList:=Array.mem_toList_iff.2 (Array.mem_of_getElem? ny)
    have hout:∀v,dU ops.toList wB (cg fr o.dst v):=fun v s hs'=>by
      rw[fB,ho s hs']
      have:∀l:List Oper,o∈l→bH l s=false→bH [({(default:Oper)with dst:=o.dst})] s=false:=by
        intro l
        induction l with
        |nil=>intro h;simp at h
        |cons x y ih=>
          intro hm hi
          rw[di,Bool.or_eq_false_iff]at hi
          rcases List.mem_cons.1 hm with rfl|hm
          · exact hi.1
          · exact ih hm hi.2
      exact this _ hmem hs'
    cases hc:(dR n o.dst&&eJ ops o i listed cl&& (Region.ready .any ops listed).contains i)<;>simp only[hc,cond_true,cond_false]at h
    simp only[Bool.and_eq_true]at hc
    obtain⟨⟨hd,tF⟩,abm⟩:=hc
    have HV:i∈Region.ready .any ops listed:=by simpa using abm
    have hun:=(mem_ready.1 HV).1
    have hap:i∉E.map Prod.fst→∀x∈E,∃of,ops[x.1]? =some of∧of.apart ops o=true:=fun hi x hx=>
      fm tF (iX (hE.mem x hx).1) (fun e=>hi (e▸List.mem_map_of_mem hx)) (hE.mem x hx).2
    have hsel:∀cs b,o.op≠.select cs b:=fun cs b=>Region.noSelect_spec hs i o cs b ny
    have VO:∀j,j∈Region.ready .any ops la→j∉E.map Prod.fst∧listed.getD j true=false:=fun j hj=>by
      have h1:=fy (mem_ready.1 hj).1
      have h2:=hE.la j
      by_cases L6:j∈E.map Prod.fst
      · rw[if_pos L6,h1]at h2;cases h2
      · rw[if_neg L6,h1]at h2
        exact⟨L6,by rw[Array.getD_eq_getD_getElem?,←h2];rfl⟩
    have early:∀f',fuel=f'+1→(∀j,la.getD j true=false→cnt (la.setIfInBounds j true).toList≤f')→∀j x,j∈Region.ready .any ops la→e7 cl j=some x→
        wpOp P ops (p8 Q) j (fun a' w'=>n9 P g R ops j w w'∧cY P .any ops (p8 Q) (n9 P g R ops) f' (la.setIfInBounds j true) a' w') a w:=by
      intro f' zV lJ j x hj Y8
      obtain⟨L6,FZ⟩:=VO j hj
      obtain⟨oj,gJ⟩:=hE.cl j x Y8 FZ
      have ie:=gJ.op
      have xR:=gJ.zl
      have hgj:=gJ.gd
      have ab8:execOp (ev fa) oj=execOp (ev fr) oj:=hE.exec (fun y hy=>gJ.Zr y.1 _ (hE.mem y hy).1 (fun e=>L6 (e▸List.mem_map_of_mem hy)) (hE.mem y hy).2) (fun cs b=>Region.noSelect_spec hs j oj cs b ie)
      unfold wpOp
      simp only[ie,jk hgj,if_true]
      refine .inl ?_
      unfold Oper.wp
      rw[ha.eval,ab8,gJ.makes w]
      simp only[Oper.upon]
      have Rl:∀{A:Hp},Own g A w→Own g A (w.alloc x.1):=fun hA=>(hA.alloc x.1).tail
      refine⟨fun oj' lH=>⟨fun hp=>?_,fun _=>⟨Rl (Own.eZ.2 hw).kP,fun _ h1=>Rl h1⟩⟩,?_⟩
      · rw[ie]at lH;cases lH;rw[xR]at hp;cases hp
      · have N9:=hE.early (b:=w.heap.size) Y8 L6 FZ ie
        refine eE hs wB hk f' (.h m [i] T pa pb) cl listed fr H h0 ((j,w.heap.size,x)::E) _ _ (lJ j (mem_ready.1 hj).1) N9 (iV.step hj) _ _ (ha.put gJ.dst _) ?_ ?_ ho
        · have h1:=hw.alloc x.1
          have h2:Own (g.add (RC E)) (H++[(w.heap.size,x.1)]) (w.alloc x.1):=h1.perm (by exact(List.perm_append_comm (l₁:=[(w.heap.size,x.1)]) (l₂:=H)))
          have h3:=Own.eZ.1 h2
          exact h3
        · rintro⟨k,ok,wu,tA,qi⟩
          refine Rl (hR ⟨k,ok,wu,tA,fF (mem_ready.1 hj).1 qi⟩)
    have nW:∀b,wX ops fr o=some b→i∉E.map Prod.fst→Region.wanted o (yielded ops a.tmps)=b:=by
      intro b hb tD
      unfold wX at hb
      unfold Region.wanted
      split at hb
      · rename_i hg;simp only[hg];simpa using hb
      · rename_i j want hg
        simp only[hg]
        split at hb<;>try (cases hb;done)
        rename_i s ju
        rw[kI ha ju]
        have nX:fa s=fr s:=hE.out s fun y hy e=>by
          obtain⟨of,Th,hap⟩:=hap tD y hy
          obtain⟨h1,_,_⟩:=Oper.apart_spec hap
          refine h1 s (by simpa[dX,Th]using e) ?_
          refine List.mem_append_right _ ?_
          rw[hg]
          unfold dX at ju
          cases hj:ops[j]? with
          |none=>rw[hj]at ju;cases ju
          |some oj=>rw[hj]at ju;simp only at ju;simp[hj,ju]
        rw[nX]
        split at hb
        · rename_i c hc;rw[hc];simp only[Option.some.injEq]at hb;subst hb;cases c<;>cases want<;>rfl
        · rename_i c hc;rw[hc];simp only[Option.some.injEq]at hb;subst hb;cases want<;>rfl
        · cases hb
    split at h<;>try exact h.elim
    · -- not wanted
      rename_i hwd
      cases kG:(Region.free .any ops listed i&& (match e7 cl i with|none=>true|some _=>false))<;>simp only[kG,cond_true,cond_false]at h
      simp only[Bool.and_eq_true]at kG
      have zL:e7 cl i=none:=by
        have:=kG.2
        split at this
        · assumption
        · cases this
      have tD:i∉E.map Prod.fst:=fun hm=>by
        obtain⟨x,hx,e⟩:=List.mem_map.1 hm
        have:=(hE.mem x hx).1
        rw[e,zL]at this;cases this
      have kY:=hE.ready tD HV
      have qJ:=(mem_ready.1 kY).1
      obtain⟨f',rfl,lJ⟩:=mJ qJ hfuel
      have hfree:=qP (l':=la) kG.1 (fun k hk=>hE.more hk)
      have Ic:(Region.ready .any ops la).contains i=true:=by simpa using kY
      refine cY.take iV (S0:=Own g []) ny hs hfree Ic (fun _ _ _ h=>h) (fun w hw oj ie=>⟨fun _=>rfl,fun _=>⟨hw,fun _ h=>h⟩⟩) (fun j oj w w' ie hj hno h0 hk=>?_) (.inr ⟨nW false hwd tD,rfl⟩) (Own.eZ.2 hw).kP ?_
      · cases xR:tu oj.op
        · exact((hk oj ie).2 xR).1
        · rw[(hk oj ie).1 xR];exact h0
      · refine eE hs wB hk f' pa cl _ _ H h E _ _ lJ (hE.step hs ny tD tF _) (iV.step kY) _ w (ha.put hd _) hw ?_ (hout _)
        rintro⟨k,ok,wu,tA,qi⟩
        exact hR ⟨k,ok,wu,tA,fF qJ qi⟩
    rename_i hwd
    have WX:=nW true hwd
    have Ri:∀v f' BG a' w',(cond (Nat.beq m 0) (oM P g n ops R K pa cl (listed.setIfInBounds i true) (cg fr o.dst v) H)
                    (Br v (oM P g n ops R K pa cl (listed.setIfInBounds i true) (cg fr o.dst (.bool true)) H) (oM P g n ops R K pb cl (listed.setIfInBounds i true) (cg fr o.dst (.bool false)) H)))→
        cnt BG.toList≤f'→kC P n ops cl (listed.setIfInBounds i true) BG E (cg fr o.dst v) (cg fa o.dst v)→eL .any ops BG→cq ds n a' (cg fa o.dst v)→Own (g.add (RC E)) H w'→
        ((∃k ok,ops[k]? =some ok∧uW P ok.op=true∧BG.getD k true=false)→Own g R w')→f'<fuel→cY P .any ops (p8 Q) (n9 P g R ops) f' BG a' w':=by
      intro v f' BG a' w' hv h1 h2 Ml h3 h4 h5 hlt
      cases hm:Nat.beq m 0<;>simp only[hm,cond_true,cond_false]at hv
      · obtain⟨b,rfl,hb1,Xk⟩:=hv
        cases b
        · exact eE hs wB hk f' pb cl _ _ H (Xk rfl) E BG _ h1 h2 Ml a' w' h3 h4 h5 (hout _)
        · exact eE hs wB hk f' pa cl _ _ H (hb1 rfl) E BG _ h1 h2 Ml a' w' h3 h4 h5 (hout _)
      · exact eE hs wB hk f' pa cl _ _ H hv E BG _ h1 h2 Ml a' w' h3 h4 h5 (hout _)
    cases h3:Nat.beq m 3<;>simp only[h3,cond_true,cond_false]at h
    case true=>
      cases kG:(HR o&&Region.free .any ops listed i)<;>simp only[kG,cond_true,cond_false]at h
      simp only[Bool.and_eq_true]at kG
      split at h<;>try exact h.elim
      rename_i b Te
      have zQ:tu o.op=true:=LD kG.1
      have tD:i∉E.map Prod.fst:=fun hm=>by
        obtain⟨x,hx,e⟩:=List.mem_map.1 hm
        have h2:=hE.mem x hx
        obtain⟨o',gJ⟩:=hE.cl _ _ h2.1 h2.2
        have h3:=gJ.op
        rw[e,ny]at h3;cases h3
        have:=gJ.zl
        rw[zQ]at this;cases this
      have kY:=hE.ready tD HV
      have qJ:=(mem_ready.1 kY).1
      obtain⟨f',rfl,lJ⟩:=mJ qJ hfuel
      have hfree:=qP (l':=la) kG.2 (fun k hk=>hE.more hk)
      have Ic:(Region.ready .any ops la).contains i=true:=by simpa using kY
      have kg:∀w,n9 P g R ops i w w:=fun w oj lH=>⟨fun _=>rfl,fun hn=>(by rw[ny]at lH;cases lH;rw[zQ]at hn;cases hn)⟩
      have Ia:=hE.exec (hap tD) hsel
      refine cY.take iV (S0:=Own g []) ny hs hfree Ic (fun _ _ _ h=>h) (fun w _=>kg w) (fun j oj w w' ie hj hno h0 hk=>?_) (.inl ⟨WX tD,fun w' dx=>by rw[ha.eval,Ia];exact Lw kG.1 Te w'⟩) (Own.eZ.2 hw).kP ?_
      · cases xR:tu oj.op
        · exact((hk oj ie).2 xR).1
        · rw[(hk oj ie).1 xR];exact h0
      · refine eE hs wB hk f' pa cl _ _ H h E _ _ lJ (hE.step hs ny tD tF _) (iV.step kY) _ w (ha.put hd _) hw ?_ (hout _)
        rintro⟨k,ok,wu,tA,qi⟩
        exact hR ⟨k,ok,wu,tA,fF qJ qi⟩
    cases zQ:tu o.op<;>simp only[zQ,cond_true,cond_false]at h
    case true=>
      cases kG:(Region.free .any ops listed i)<;>simp only[kG,cond_true,cond_false]at h
      have tD:i∉E.map Prod.fst:=fun hm=>by
        obtain⟨x,hx,e⟩:=List.mem_map.1 hm
        have h2:=hE.mem x hx
        obtain⟨o',gJ⟩:=hE.cl _ _ h2.1 h2.2
        have h3:=gJ.op
        rw[e,ny]at h3;cases h3
        have:=gJ.zl
        rw[zQ]at this;cases this
      have kY:=hE.ready tD HV
      have qJ:=(mem_ready.1 kY).1
      obtain⟨f',rfl,lJ⟩:=mJ qJ hfuel
      have hfree:=qP (l':=la) kG (fun k hk=>hE.more hk)
      have Ic:(Region.ready .any ops la).contains i=true:=by simpa using kY
      have kg:∀w,n9 P g R ops i w w:=fun w oj lH=>⟨fun _=>rfl,fun hn=>(by rw[ny]at lH;cases lH;rw[zQ]at hn;cases hn)⟩
      have hst:=fun v=>hE.step hs ny tD tF v
      have Ia:=hE.exec (hap tD) hsel
      cases hn:Wg P o.op
      case true=>
        rw[zj hn (ev fr) R []]at h
        obtain⟨v,hk',hr⟩:=j3 h
        refine cY.take iV (S0:=Own g []) ny hs hfree Ic (fun _ _ _ h=>h) (fun w _=>kg w) (fun j oj w w' ie hj hno h0 hk=>?_) (.inl ⟨WX tD,fun w' dx=>by rw[ha.eval,Ia];exact hr w' dx⟩) (Own.eZ.2 hw).kP ?_
        · cases xR:tu oj.op
          · exact((hk oj ie).2 xR).1
          · rw[(hk oj ie).1 xR];exact h0
        · refine Ri v f' _ _ w hk' lJ (hst v) (iV.step kY) (ha.put hd v) hw ?_ (by omega)
          rintro⟨k,ok,wu,tA,qi⟩
          exact hR ⟨k,ok,wu,tA,fF qJ qi⟩
      case false=>
        obtain⟨v,hk',hr⟩:=j3 h
        have hrd:uW P o.op=true:=by simp[uW,zQ,hn]
        have Xu:Own g R w:=hR ⟨i,o,ny,hrd,qJ⟩
        refine cY.take iV (S0:=Own g R) ny hs hfree Ic (fun _ _ _ h=>h) (fun w _=>kg w) (fun j oj w w' ie hj hno h0 hk=>?_) (.inl ⟨WX tD,fun w' dx=>by rw[ha.eval,Ia];exact hr w' dx⟩) Xu ?_
        · cases xR:tu oj.op
          · exact((hk oj ie).2 xR).2 (kT ny hrd hj hno) h0
          · rw[(hk oj ie).1 xR];exact h0
        · exact Ri v f' _ _ w hk' lJ (hst v) (iV.step kY) (ha.put hd v) hw (fun _=>Xu) (by omega)
    case false=>
      cases kG:(Region.ready .any ops (marks cl i listed)==[i])<;>simp only[kG,cond_true,cond_false]at h
      have hrd:=beq_iff_eq.1 kG
      by_cases tD:i∈E.map Prod.fst
      · obtain⟨⟨i',b,x⟩,hx,e⟩:=List.mem_map.1 tD
        simp only at e;subst e
        have hex:e7 cl i'=some x:=(hE.mem _ hx).1
        simp only[hex]at h
        obtain⟨E1,E2,rfl⟩:=List.append_of_mem hx
        have kF:Own (g.add (RC (E1++E2))) ((b,x.1)::H) w:=by
          have h1:=(Own.eZ.2 hw).perm ((List.Perm.append_left H (Is (E1:=E1) (E2:=E2) (y:=(i',b,x)))).trans List.perm_middle)
          exact(Own.eZ (A:=(b,x.1)::H)).1 h1
        have hb:b∉H.map Prod.fst:=by
          have:=kF.nd
          rw[List.cons_append,List.map_cons,List.nodup_cons,List.map_append,List.mem_append]at this
          exact fun h=>this.1 (.inl h)
        exact eE hs wB hk fuel pa cl _ _ _ (h b hb) (E1++E2) la fa hfuel (hE.xq hs ny tF) iV a w ha kF hR (hout _)
      · have kY:=hE.ready tD HV
        have qJ:=(mem_ready.1 kY).1
        obtain⟨f',rfl,lJ⟩:=mJ qJ hfuel
        have Xb:∀j,la.getD j true=false→cnt (la.setIfInBounds j true).toList≤f':=fun j hj=>by
          obtain⟨f2,h1,h2⟩:=mJ hj hfuel
          have:f2=f':=by omega
          subst this;exact h2
        have hst:=fun v=>hE.step hs ny tD tF v
        have Ia:=hE.exec (hap tD) hsel
        refine cY.all rfl (fun e=>by rw[e]at kY;simp at kY) fun j hj=>?_
        by_cases WQ:j=i
        · subst WQ
          have zl:∀oj,ops[j]? =some oj→tu oj.op=true→False:=fun oj ie hp=>by rw[ny]at ie;cases ie;rw[zQ]at hp;cases hp
          unfold wpOp
          simp only[ny,WX tD,if_true]
          refine .inl ?_
          unfold Oper.wp
          rw[ha.eval,Ia]
          cases hex:e7 cl j with
          |none=>
            simp only[hex]at h
            have h:=h (RC E)
            refine(tc (nC fr) h w hw).upon (fun v H' w' cz hb=>?_) (fun ch H' w' _ h0=>h0.elim)
            obtain⟨he,hk'⟩:=hb.of
            have Xt:rB P ops j=true→Own g R w':=fun hn=>(Own.eZ.2 (he (Lj hn) _ _ cz)).left
            refine⟨fun oj lH=>⟨fun hp=>(zl oj lH hp).elim,fun _=>⟨(Own.eZ.2 cz).kP,fun hn _=>Xt hn⟩⟩,eE hs wB hk f' pa cl _ _ H' hk' E _ _ lJ (hst v) (iV.step kY) _ w' (ha.put hd v) cz ?_ (hout v)⟩
            rintro⟨k,ok,wu,tA,qi⟩
            refine Xt ?_
            have Tt:j≠k:=fun e=>by
              subst e
              have h1:=fy qJ
              have hlt:=(Array.getElem?_eq_some_iff.1 h1).1
              rw[Array.getD_eq_getD_getElem?,Array.getElem?_setIfInBounds_self_of_lt hlt]at qi
              cases qi
            rw[getD_set_ne true Tt]at qi
            refine kT wu tA Tt fun hw=>?_
            rw[iV.ready kY hw]at qi;cases qi
          |some x=>
            simp only[hex]at h
            obtain⟨oj,gJ⟩:=hE.cl j x hex hun
            have ie:=gJ.op
            rw[ny]at ie;cases ie
            rw[gJ.makes w]
            simp only[Oper.upon]
            have Rl:∀{A:Hp},Own g A w→Own g A (w.alloc x.1):=fun hA=>(hA.alloc x.1).tail
            refine⟨fun oj lH=>⟨fun hp=>(zl oj lH hp).elim,fun _=>⟨Rl (Own.eZ.2 hw).kP,fun _ h1=>Rl h1⟩⟩,?_⟩
            refine eE hs wB hk f' pa cl _ _ _ (h _ hw.fresh) E _ _ lJ (hst _) (iV.step kY) _ _ (ha.put hd _) (hw.alloc x.1) ?_ (hout _)
            rintro⟨k,ok,wu,tA,qi⟩
            exact Rl (hR ⟨k,ok,wu,tA,fF qJ qi⟩)
        · obtain⟨L6,FZ⟩:=VO j hj
          cases WR:e7 cl j with
          |some x=>exact early f' rfl Xb j x hj WR
          |none=>
          refine absurd ?_ WQ
          have Y8:j∉cl.map Prod.fst:=fun hm=>by
            obtain⟨x,hx⟩:=Iq hm
            rw[WR]at hx;cases hx
          have Vf:j∈Region.ready .any ops (marks cl i listed):=by
            obtain⟨_,oj,ie,aJ⟩:=mem_ready.1 hj
            rw[mem_ready]
            refine⟨?_,oj,ie,fun e he hb=>?_⟩
            · rw[Array.getD_eq_getD_getElem?,vX,if_neg (fun h=>Y8 h.1),←Array.getD_eq_getD_getElem?];exact FZ
            · have h1:=aJ e he hb
              have h2:=hE.la e.on
              rw[Array.getD_eq_getD_getElem?]at h1⊢
              rw[vX]
              by_cases hm:e.on∈E.map Prod.fst
              · obtain⟨x,hx,e2⟩:=List.mem_map.1 hm
                have NV:=fy (hE.mem x hx).2
                rw[e2]at NV
                have hlt:=(Array.getElem?_eq_some_iff.1 NV).1
                rw[if_pos ⟨e2▸iX (hE.mem x hx).1,fun e3=>tD (e3▸hm),hlt⟩];rfl
              · rw[if_neg hm]at h2
                split
                · rfl
                · rw[←h2];exact h1
          rw[hrd]at Vf
          simpa using Vf
  termination_by fuel l=>(fuel,SizeOf.sizeOf l)
def r5:Code→Nat→Bool
  | .region _ ops _,s=>bH ops.toList s
  | .seq a b,s=>r5 a s||r5 b s
  | .cond _ a b,s=>r5 a s||r5 b s
  | .block _ c,s=>r5 c s
  | .loop c,s=>r5 c s
  | .skip,_=>false
  | .ret,_=>false
  | .exit _,_=>false
  |_,_=>true
def O1(c:Code):List Nat→Bool
  | []=>true
  |s::r=> !r5 c s&&O1 c r
def tM(s:Nat):List Nat→Bool
  | []=>false
  |x::r=>Nat.beq s x||tM s r
def O2:List Nat→List Value→Fr→Fr
  |l::L,v::vs,base=>fun s=>cond (Nat.beq s l) v (O2 L vs base s)
  |_,_,base=>base
def mix(L:List Nat)(vs:List Value)(I:List Nat)(fr gs:Fr):Fr:=O2 L vs fun s=>cond (tM s I) (fr s) (gs s)
def A1(fr:Fr):List Nat→List Value
  | []=>[]
  |s::r=>fr s::A1 fr r
def uC:Nat→(List Value→Prop)→Prop
  |0,p=>p []
  |n+1,p=>∀v,uC n fun vs=>p (v::vs)
theorem uC.intro{p:List Value→Prop}(h:∀vs,p vs):∀n,uC n p
  |0=>h _
  |n+1=>fun v=>uC.intro (fun vs=>h (v::vs)) n
theorem uC.elim{p:List Value→Prop}:∀{n:Nat},uC n p→∀vs:List Value,vs.length=n→p vs
  |0,h,vs,e=>by cases vs with|nil=>exact h|cons x y=>simp at e
  |n+1,h,vs,e=>by
    cases vs with
    |nil=>simp at e
    |cons x y=>exact uC.elim (h x) y (by simpa using e)
theorem BZ(fr:Fr)(L:List Nat):(A1 fr L).length=L.length:=by induction L<;>simp[A1, *]
theorem th{L I:List Nat}{fr fr':Fr}(h:∀s,tM s I=true→fr' s=fr s):mix L (A1 fr' L) I fr fr'=fr':=by
  funext s
  unfold mix
  induction L with
  |nil=>
    simp only[A1,O2]
    cases he:tM s I
    · rfl
    · exact(h s he).symm
  |cons l L ih=>
    simp only[A1,O2]
    cases hb:Nat.beq s l
    · exact ih
    · have:=Nat.eq_of_beq_eq_true hb;subst this;rfl
theorem tf{c:Code}{I:List Nat}(h:O1 c I=true):∀s,tM s I=true→r5 c s=false:=by
  induction I with
  |nil=>intro s hs;simp[tM]at hs
  |cons x r ih=>
    intro s hs
    simp only[O1,Bool.and_eq_true,Bool.not_eq_true']at h
    simp only[tM,Bool.or_eq_true]at hs
    rcases hs with hs|hs
    · rw[Nat.eq_of_beq_eq_true hs];exact h.1
    · exact ih h.2 s hs
def yV(next:Fr→Hp→Prop)(Q:Exit→Fr→Hp→Prop):Exit→Fr→Hp→Prop
  | .normal,fr,H=>next fr H
  |e,fr,H=>Q e fr H
def M8(id:Nat)(Q:Exit→Fr→Hp→Prop):Exit→Fr→Hp→Prop
  | .exit id',fr,H=>cond (Nat.beq id' id) (Q .normal fr H) (Q (.exit id') fr H)
  |e,fr,H=>Q e fr H
def JE(J:List Value→Hp→Prop)(vs:List Value)(H:Hp):Prop:=∃H',aU H H'∧J vs H'
def aC(I:List Value→Hp→Prop)(m:List Value→Hp→Nat)(vs':List Value)(H':Hp)(vs:List Value)(H:Hp):Prop:=∃lS,aU H' lS∧I vs' lS∧m vs' lS<m vs H
def Loop(L:List Nat)(vs:List Value)(H:Hp)(body:(List Value→Hp→Prop)→List Value→Hp→Prop):Prop:=
  ∃(I:List Value→Hp→Prop) (m:List Value→Hp→Nat),JE I vs H∧uC L.length fun vs=>∀H',I vs H'→body (fun vs' lS=>aC I m vs' lS vs H') vs H'
def Yw(k:Nat)(rest:List Value→Hp→Prop)(body:(List Value→Hp→Prop)→Prop):Prop:=
  ∀J:List Value→Hp→Prop,(uC k fun vs=>∀H,rest vs H→J vs H)→body J
def DR(H:Hp)(body:Hp→Prop):Prop:=∃R,aU H R∧body R
def ow:Code→Nat→Option (Array Oper)
  | .region id ops _,k=>cond (Nat.beq id k) (some ops) none
  | .seq a b,k=>match ow a k with|some x=>some x|none=>ow b k
  | .cond _ a b,k=>match ow a k with|some x=>some x|none=>ow b k
  | .block _ c,k=>ow c k
  | .loop c,k=>ow c k
  |_,_=>none
def Uo(P:Program)(g:Gh)(id:Nat)(ops:Array Oper)(L:List Nat)(vs:List Value)(H:Hp)(K:Hp→Prop):Prop:=
  ∀a w,gX a.tmps.size ops.toList=true→(L.map fun s=>a.tmps.getD s undef)=vs→Own g H w→
    (Code.region id ops true).wp P (fun e a' w'=>e=.normal∧a'.defers=a.defers∧a'.tmps.size=a.tmps.size∧(∀s,bH ops.toList s=false→a'.tmps.getD s undef=a.tmps.getD s undef)∧∃H',Own g H' w'∧K H') a w
def nL(f:Func)(r:Nat):Array Oper:=match f.body with|some c=>(match ow c r with|some ops=>ops|none=>#[])|none=>#[]
theorem P4(fr:Fr)(L:List Nat):A1 fr L=L.map fr:=by induction L<;>simp[A1, *]
def den(P:Program)(g:Gh)(n:Nat):Code→Hn→(Exit→Fr→Hp→Prop)→Fr→Hp→Prop
  | .skip,_,Q,fr,H=>Q .normal fr H
  | .ret,_,Q,fr,H=>Q .ret fr H
  | .exit id,_,Q,fr,H=>Q (.exit id) fr H
  | .seq x y,hn,Q,fr,H=>
    match hn.m with
    |0=>den P g n x hn.a (yV (den P g n y hn.b Q) Q) fr H
    |_=>cond (O1 x hn.I)
        (Yw hn.L.length (fun vs H'=>∀gs,den P g n y hn.b Q (mix hn.L vs hn.I fr gs) H') fun J=>den P g n x hn.a (yV (fun fr' H'=>JE J (A1 fr' hn.L) H') Q) fr H) False
  | .cond c x y,hn,Q,fr,H=>Br (ev fr c) (den P g n x hn.a Q fr H) (den P g n y hn.b Q fr H)
  | .block id c,hn,Q,fr,H=>den P g n c hn.a (M8 id Q) fr H
  | .loop c,hn,Q,fr,H=>
    cond (O1 c hn.I)
      (Loop hn.L (A1 fr hn.L) H fun J vs H'=>∀gs,den P g n c hn.a (yV (fun fr' lS=>J (A1 fr' hn.L) lS) Q) (mix hn.L vs hn.I fr gs) H') False
  | .region id ops draw,hn,Q,fr,H=>
    cond draw
      (match hn.m with
      |0=>match hn.L with
       | []=>cond (P.follows .mixedOrders&&Region.lexB .any ops) (ei P g n ops true (ops.toList.length+1) true none [] ops.toList fr H (fun _ fr' H'=>Q .normal fr' H') (fun _ _=>False)) False
       |l=>cond (P.follows .mixedOrders&&Region.noSelect ops&&Nat.ble l.length ops.size)
          (DR H fun R=>Iz P g n ops R (fun fr' H'=>Q .normal fr' H') l (Array.replicate ops.size false) fr H) False
      |9=>cond (gX n ops.toList) (Uo P g id ops hn.L (A1 fr hn.L) H fun H'=>∀gs,Q .normal (xZ ops.toList gs fr) H') False
      |_=>cond (P.follows .mixedOrders&&Region.noSelect ops)
          (DR H fun R=>oM P g n ops R (fun fr' H'=>Q .normal fr' H') hn.a [] (Array.replicate ops.size false) fr H) False)
      (ei P g n ops (match hn.I with| []=>false|_=>true) (ops.toList.length+1) false none [] ops.toList fr H (fun _ fr' H'=>Q .normal fr' H') (fun ch H'=>∀fr',Q (.panic ch) fr' H'))
  |_,_,_,_,_=>False
theorem yL{c:Code}{Q:Exit→Act→World→Prop}{a:Act}{w:World}(R:Act→World→Nat→Prop)(h₀:∃m,R a w m)
   (round:∀a w m,R a w m→c.wp P (Exit.then (fun a' w'=>∃m',m'<m∧R a' w' m') Q) a w):(Code.loop c).wp P Q a w:=by
  intro b k cs
  have key:∀n a w,R a w n→
      ∃e a' w',Q e a' w'∧Arrives P (lone (b.at a (.code c:: .inLoop c::k)) cs w) b k cs e a' w':=by
    intro n
    induction n using Nat.strongRecOn with
    |_ n ih=>
      intro a w hI
      obtain⟨e,a₁,w₁,hq,zW⟩:=round a w n hI b (.inLoop c::k) cs
      cases e with
      |normal=>
        obtain⟨m',hlt,XM⟩:=hq
        obtain⟨e₂,a₂,w₂,Ws,PA⟩:=ih m' hlt a₁ w₁ XM
        exact⟨e₂,a₂,w₂,Ws,.of_steps (Steps.trans zW (.one step_inLoop)) PA⟩
      |exit id=>exact⟨_,a₁,w₁,hq,.pass (x:=.inLoop c) rfl (fun _ _=>.inl (by simp)) zW⟩
      |goto l=>exact⟨_,a₁,w₁,hq,.pass (x:=.inLoop c) rfl (fun _ _=>.inl (by simp)) zW⟩
      |ret=>exact⟨_,a₁,w₁,hq,.pass (x:=.inLoop c) rfl (fun _ _=>.inl (by simp)) zW⟩
      |panic ch=>exact⟨_,a₁,w₁,hq,.pass (x:=.inLoop c) rfl (fun _ _=>.inl (by simp)) zW⟩
      |outgrown=>exact⟨_,a₁,w₁,hq,.pass (x:=.inLoop c) rfl (fun _ _=>.inl (by simp)) zW⟩
  obtain⟨m,h₀⟩:=h₀
  obtain⟨e,a',w',hq,zW⟩:=key m a w h₀
  exact⟨e,a',w',hq,.of_steps (.one step_loop) zW⟩
def tt:Exit→Bool
  | .panic _=>true
  |_=>false
theorem kr{n:Nat}:∀(c:Code) (hn:Hn) (Q:Exit→Fr→Hp→Prop) (fr:Fr) (H:Hp),den P g n c hn Q fr H→∀(a:Act) (w:World),cq ds n a fr→Own g H w→c.wp P (fun e a' w'=>∃fr' H',cq ds n a' fr'∧Own g H' w'∧(tt e=false→∀s,r5 c s=false→fr' s=fr s)∧Q e fr' H') a w:=by
  intro c
  induction c with
  |skip=>intro hn Q fr H h a w ha hw;exact wp_skip ⟨fr,H,ha,hw,fun _ _ _=>rfl,h⟩
  |ret=>intro hn Q fr H h a w ha hw;exact wp_ret ⟨fr,H,ha,hw,fun _ _ _=>rfl,h⟩
  |exit id=>intro hn Q fr H h a w ha hw;exact wp_exit ⟨fr,H,ha,hw,fun _ _ _=>rfl,h⟩
  |seq x y Y0 YZ=>
    intro hn Q fr H h a w ha hw
    unfold den at h
    have V5:∀{P5 rI:Fr},(∀s,r5 x s=false→P5 s=fr s)→(∀s,r5 y s=false→rI s=P5 s)→∀s,r5 (.seq x y) s=false→rI s=fr s:=fun h1 h2 s hs=>by
      simp only[r5,Bool.or_eq_false_iff]at hs
      rw[h2 s hs.2,h1 s hs.1]
    have uU:∀{P5:Fr},(∀s,r5 x s=false→P5 s=fr s)→∀s,r5 (.seq x y) s=false→P5 s=fr s:=fun h1 s hs=>by
      simp only[r5,Bool.or_eq_false_iff]at hs
      exact h1 s hs.1
    split at h
    · refine wp_seq (wp_mono (Y0 _ _ fr H h a w ha hw) ?_)
      rintro e a' w' ⟨fr',H',eA,dx,ho,hq⟩
      cases e with
      |normal=>exact wp_mono (YZ _ _ fr' H' hq a' w' eA dx) fun e2 a2 w2 ⟨rI,H2,g1,g2,g3,g4⟩=>⟨rI,H2,g1,g2,fun hp=>V5 (ho rfl) (g3 hp),g4⟩
      |exit id=>exact⟨fr',H',eA,dx,fun hp=>uU (ho hp),hq⟩
      |goto l=>exact⟨fr',H',eA,dx,fun hp=>uU (ho hp),hq⟩
      |ret=>exact⟨fr',H',eA,dx,fun hp=>uU (ho hp),hq⟩
      |panic ch=>exact⟨fr',H',eA,dx,fun hp=>uU (ho hp),hq⟩
      |outgrown=>exact⟨fr',H',eA,dx,fun hp=>uU (ho hp),hq⟩
    · cases hno:O1 x hn.I<;>simp only[hno,cond_true,cond_false]at h
      have h':=h (fun vs H'=>∀gs,den P g n y hn.b Q (mix hn.L vs hn.I fr gs) H') (uC.intro (fun vs H' hh=>hh) _)
      refine wp_seq (wp_mono (Y0 _ _ fr H h' a w ha hw) ?_)
      rintro e a' w' ⟨fr',H',eA,dx,ho,hq⟩
      cases e with
      |normal=>
        obtain⟨Hj,tE,hq⟩:=hq
        have Y7:den P g n y hn.b Q fr' Hj:=by
          have:=hq fr'
          rwa [th fun s hs=>ho rfl s (tf hno s hs)]at this
        exact wp_mono (YZ _ _ fr' Hj Y7 a' w' eA (tE _ _ dx)) fun e2 a2 w2 ⟨rI,H2,g1,g2,g3,g4⟩=>⟨rI,H2,g1,g2,fun hp=>V5 (ho rfl) (g3 hp),g4⟩
      |exit id=>exact⟨fr',H',eA,dx,fun hp=>uU (ho hp),hq⟩
      |goto l=>exact⟨fr',H',eA,dx,fun hp=>uU (ho hp),hq⟩
      |ret=>exact⟨fr',H',eA,dx,fun hp=>uU (ho hp),hq⟩
      |panic ch=>exact⟨fr',H',eA,dx,fun hp=>uU (ho hp),hq⟩
      |outgrown=>exact⟨fr',H',eA,dx,fun hp=>uU (ho hp),hq⟩
  |cond c x y Y0 YZ=>
    intro hn Q fr H h a w ha hw
    obtain⟨b,hb,ht,hf⟩:=h
    refine wp_cond_split (t:=b) (by rw[ha.eval];exact hb) (fun e=>?_) (fun e=>?_)
    · exact wp_mono (Y0 _ _ fr H (ht e) a w ha hw) fun e2 a2 w2 ⟨rI,H2,g1,g2,g3,g4⟩=>⟨rI,H2,g1,g2,fun hp s hs=>g3 hp s (by simp only[r5,Bool.or_eq_false_iff]at hs;exact hs.1),g4⟩
    · exact wp_mono (YZ _ _ fr H (hf e) a w ha hw) fun e2 a2 w2 ⟨rI,H2,g1,g2,g3,g4⟩=>⟨rI,H2,g1,g2,fun hp s hs=>g3 hp s (by simp only[r5,Bool.or_eq_false_iff]at hs;exact hs.2),g4⟩
  |block id c ih=>
    intro hn Q fr H h a w ha hw
    refine wp_block (wp_mono (ih _ _ fr H h a w ha hw) ?_)
    rintro e a' w' ⟨fr',H',eA,dx,ho,hq⟩
    cases e with
    |exit id'=>
      simp only[M8]at hq
      cases hb:Nat.beq id' id<;>simp only[hb,cond_true,cond_false]at hq
      · have:id'≠id:=fun e=>by subst e;simp at hb
        simp only[Exit.inBlock,this,if_false]
        exact⟨fr',H',eA,dx,ho,hq⟩
      · have:=Nat.eq_of_beq_eq_true hb
        simp only[Exit.inBlock,this,if_true]
        exact⟨fr',H',eA,dx,ho,hq⟩
    |normal=>exact⟨fr',H',eA,dx,ho,hq⟩
    |goto l=>exact⟨fr',H',eA,dx,ho,hq⟩
    |ret=>exact⟨fr',H',eA,dx,ho,hq⟩
    |panic ch=>exact⟨fr',H',eA,dx,ho,hq⟩
    |outgrown=>exact⟨fr',H',eA,dx,ho,hq⟩
  |loop c ih=>
    intro hn Q fr H h a w ha hw
    unfold den at h
    cases hno:O1 c hn.I<;>simp only[hno,cond_true,cond_false]at h
    obtain⟨I,m,⟨H0,W8,h0⟩,hr⟩:=h
    refine yL (fun a w k=>∃fr' H',cq ds n a fr'∧Own g H' w∧(∀s,r5 c s=false→fr' s=fr s)∧I (A1 fr' hn.L) H'∧m (A1 fr' hn.L) H'=k) ⟨_,fr,H0,ha,W8 _ _ hw,fun _ _=>rfl,h0,rfl⟩ ?_
    rintro a w k ⟨P5,H1,BU,kF,zK,hI,rfl⟩
    have hb:=hr.elim (A1 P5 hn.L) (BZ _ _) H1 hI P5
    rw[th fun s hs=>zK s (tf hno s hs)]at hb
    refine wp_mono (ih _ _ P5 H1 hb a w BU kF) ?_
    rintro e a' w' ⟨fr',H',eA,dx,ho,hq⟩
    have cz:tt e=false→∀s,r5 c s=false→fr' s=fr s:=fun hp s hs=>(ho hp s hs).trans (zK s hs)
    cases e with
    |normal=>obtain⟨Hj,tE,Td,hq2⟩:=hq;exact⟨_,hq2,fr',Hj,eA,tE _ _ dx,cz rfl,Td,rfl⟩
    |exit id=>exact⟨fr',H',eA,dx,cz,hq⟩
    |goto l=>exact⟨fr',H',eA,dx,cz,hq⟩
    |ret=>exact⟨fr',H',eA,dx,cz,hq⟩
    |panic ch=>exact⟨fr',H',eA,dx,cz,hq⟩
    |outgrown=>exact⟨fr',H',eA,dx,cz,hq⟩
  |region id ops draw=>
    intro hn Q fr H h a w ha hw
    unfold den at h
    cases draw<;>simp only[cond_true,cond_false]at h
    case false=>
      refine wp_region_list ?_
      have:=cA _ _ _ _ _ fr H _ _ h trivial (g7.nil fr) a w ha hw [] (fun e a' w'=>∃fr' H',cq ds n a' fr'∧Own g H' w'∧(tt e=false→∀s,r5 (.region id ops false) s=false→fr' s=fr s)∧Q e fr' H') ?_ ?_
      · simpa using this
      · intro a' w' o6 fr' H' h1 h2 h3 _ h4
        exact⟨fr',H',h1,h2,fun _=>h3,h4⟩
      · intro ch a' w' fr' H' h1 h2 h3
        exact⟨fr',H',h1,h2,fun hp=>by simp[tt]at hp,h3 fr'⟩
    case true=>
      split at h
      · split at h
        · cases hc:(P.follows .mixedOrders&&Region.lexB .any ops)<;>simp only[hc,cond_true,cond_false]at h
          simp only[Bool.and_eq_true]at hc
          refine wp_region_quiet (C:=Own g H) hc.1 hc.2 hw.wH ?_
          have:=dj _ none _ ops.toList fr H _ _ h trivial (g7.nil fr) a ha [] (fun a'=>∀w',Own g H w'→∃fr' H',cq ds n a' fr'∧Own g H' w'∧(tt .normal=false→∀s,r5 (.region id ops true) s=false→fr' s=fr s)∧Q .normal fr' H') ?_
          · simpa using this
          · intro a' o6 fr' h1 h3 _ h4
            exact fun w' dx=>⟨fr',H,h1,dx,fun _=>h3,h4⟩
        · cases hc:(P.follows .mixedOrders&&Region.noSelect ops&&Nat.ble hn.L.length ops.size)<;>simp only[hc,cond_true,cond_false]at h
          simp only[Bool.and_eq_true]at hc
          obtain⟨R,hR,h⟩:=h
          refine wp_mono (Q:=p8 fun e a' w'=>∃fr' H',cq ds n a' fr'∧Own g H' w'∧(tt e=false→∀s,r5 (.region id ops true) s=false→fr' s=fr s)∧Q e fr' H') ?_ ?_
          · refine wp_region_any hc.1.1 (cY.any (S:=n9 P g R ops) ?_)
            exact pV hc.1.2 fr (fun a w fr' H' h1 h2 h3 h4=>⟨fr',H',h1,h2,fun _=>h3,h4⟩) _ _ fr H h _ (Nat.le_of_ble_eq_true hc.2) (eL.none _ rfl) _ _ ha hw.wH (fun _=>(hR _ _ hw).wH) (dU.refl _ _)
          · intro e a w h
            cases e<;>first|exact h|exact h.elim
      · cases hc:gX n ops.toList<;>simp only[hc,cond_true,cond_false]at h
        refine wp_mono (h a w (by rw[ha.size];exact hc) (by rw[P4];exact List.map_congr_left fun s _=>ha.get s) hw) ?_
        rintro e a' w' ⟨rfl,hd,hs,ho,H',dx,hk⟩
        refine⟨xZ ops.toList (fun s=>a'.tmps.getD s undef) fr,H',⟨hd.trans ha.defers,hs.trans ha.size,fun s=>?_⟩,dx,fun _ s hs=>?_,hk _⟩
        · unfold xZ
          cases hb:bH ops.toList s
          · rw[cond_false,ho s hb,ha.get]
          · rfl
        · unfold xZ;simp only[r5]at hs;rw[hs,cond_false]
      · cases hc:(P.follows .mixedOrders&&Region.noSelect ops)<;>simp only[hc,cond_true,cond_false]at h
        simp only[Bool.and_eq_true]at hc
        obtain⟨R,hR,h⟩:=h
        refine wp_mono (Q:=p8 fun e a' w'=>∃fr' H',cq ds n a' fr'∧Own g H' w'∧(tt e=false→∀s,r5 (.region id ops true) s=false→fr' s=fr s)∧Q e fr' H') ?_ ?_
        · refine wp_region_any hc.1 (cY.any (S:=n9 P g R ops) ?_)
          refine eE hc.2 fr (fun a w fr' H' h1 h2 h3 h4=>⟨fr',H',h1,h2,fun _=>h3,h4⟩) _ _ [] _ fr H h [] _ fr (by rw[Array.toList_replicate,vk];exact Nat.le_refl _) ⟨by simp,by simp,by simp,fun _ _=>rfl,by simp,fun j x hx=>by simp[e7]at hx⟩ (eL.none _ rfl) _ _ ha hw.wH (fun _=>(hR _ _ hw).wH) (dU.refl _ _)
        · intro e a w h
          cases e<;>first|exact h|exact h.elim
  |label l=>intro hn Q fr H h;exact h.elim
  |goto l=>intro hn Q fr H h;exact h.elim
  |scope c _=>intro hn Q fr H h;exact h.elim
  |refuse s=>intro hn Q fr H h;exact h.elim
  |rangeFunc f ps as b _ _=>intro hn Q fr H h;exact h.elim
def aq(R:Ending→Hp→Prop):List PanicEntry→Hp→Prop:=fun ch H=>∀_:Fr,R (.panicked ch) H
def bu:List PanicEntry→Hp→Prop:=fun _ _=>False
def s9:Code→Nat→Option (Array Oper)
  | .region id ops _,k=>cond (Nat.beq id k) (some ops) none
  | .seq a b,k=>match s9 a k with|some x=>some x|none=>s9 b k
  | .cond _ a b,k=>match s9 a k with|some x=>some x|none=>s9 b k
  | .block _ c,k=>s9 c k
  | .loop c,k=>s9 c k
  |_,_=>none
def fP(f:Func)(r i:Nat):Oper:=match f.body with|some c=>(match s9 c r with|some ops=>(match ops[i]? with|some o=>o|none=>default)|none=>default)|none=>default
def iU:List Value→Nat→Fr
  | [],_=>fun _=>undef
  |v::r,i=>fun s=>cond (Nat.beq s i) v (iU r (i+1) s)
def s8(P:Program)(fr:Fr)(H:Hp):List ResultVar→(List Value→Prop)→Prop
  | [],k=>k []
  | .tmp t::r,k=>s8 P fr H r fun vs=>k (fr t::vs)
  | .cell a t::r,k=>match P.underlying t,dg P t with
    |some d,some n=>cond (cF d) (aD n H (fr a) fun v=>s8 P fr H r fun vs=>k (v::vs)) (Ld H (fr a) fun v=>s8 P fr H r fun vs=>k (v::vs))
    |_,_=>False
def Bn:List Value→Value
  | [v]=>v
  |vs=>.tuple vs.toArray
def adg(P:Program)(fn:Func)(R:Ending→Hp→Prop):Exit→Fr→Hp→Prop
  | .normal,fr,H=>s8 P fr H fn.results.toList fun vs=>R (.returned (Bn vs)) H
  | .ret,fr,H=>s8 P fr H fn.results.toList fun vs=>R (.returned (Bn vs)) H
  | .panic ch,_,H=>R (.panicked ch) H
  |_,_,_=>False
def Iy(P:Program)(g:Gh)(fn:Func)(hn:Hn)(args:List Value)(H:Hp)(R:Ending→Hp→Prop):Prop:=
  match fn.body with
  |some c=>cond (Nat.ble args.length fn.ntmps) (den P g fn.ntmps c hn (adg P fn R) (iU args 0) H) False
  |none=>False
theorem kX:∀(l:List Value) (i s:Nat),iU l i s=if s<i then undef else l.getD (s-i) undef
  | [],i,s=>by simp[iU]
  |v::r,i,s=>by
    simp only[iU,kX r (i+1) s]
    cases hb:Nat.beq s i
    · have hne:s≠i:=fun e=>by subst e;simp at hb
      simp only[cond_false]
      by_cases h:s<i
      · rw[if_pos (by omega),if_pos h]
      · rw[if_neg (by omega),if_neg h,show s-i=(s-(i+1))+1 by omega]
        simp[List.getD]
    · have:=Nat.eq_of_beq_eq_true hb;subst this
      simp[List.getD]
def Ho(fr:Fr):ResultVar→Sem Value
  | .tmp t=>pure (fr t)
  | .cell b t=>do loadVar t (←asAddr (fr b))
theorem rD{fr:Fr}{H:Hp}{w:World}(hw:Own g H w){b:Tmp}{t:TypeId}{v:Value}{p:Addr}(hp:fr b=.pointer (some p))(h:(Instr.loadAt t (fr b)).run P w=.ok v w):(Ho fr (.cell b t)).run P w=.ok v w:=by
  rw[hp]at h
  simp only[Ho,hp,asAddr]
  simpa[Instr.loadAt,Instr.sureAddr]using h
theorem pw{fr:Fr}{H:Hp}{w:World}(hw:Own g H w):∀(l:List ResultVar) (k:List Value→Prop),s8 P fr H l k→
    ∃vs,(l.mapM (Ho fr)).run P w=.ok vs w∧k vs
  | [],k,h=>⟨[],by simp,h⟩
  | .tmp t::r,k,h=>by
    obtain⟨vs,hr,hk⟩:=pw hw r _ h
    refine⟨fr t::vs,?_,hk⟩
    simp only[List.mapM_cons,Sem.run_bind,Sem.run_pure,Result.andThen_ok,hr,Ho]
  | .cell b t::r,k,h=>by
    unfold s8 at h
    split at h<;>try exact h.elim
    rename_i d m hd hm
    obtain⟨i,hi,him⟩:=bC hm
    cases hag:cF d<;>simp only[hag,cond_true,cond_false]at h
    · obtain⟨v,hk',hf⟩:=h.fix
      obtain⟨v2,FW,e⟩:=hf.run (P:=P) hw hd hag
      subst e
      obtain⟨bb,off,c,T,fz,u,hp,_⟩:=hf
      obtain⟨vs,hr,hk⟩:=pw hw r _ hk'
      refine⟨v2::vs,?_,hk⟩
      have:=rD hw hp FW
      simp only[List.mapM_cons,Sem.run_bind,Result.andThen_ok,hr,Sem.run_pure,this]
    · obtain⟨v,hk',hf⟩:=h.fix
      obtain⟨v2,FW,e⟩:=hf.run (P:=P) hw hd hag hi him
      subst e
      obtain⟨bb,off,c,T,fz,hp,_⟩:=hf
      obtain⟨vs,hr,hk⟩:=pw hw r _ hk'
      refine⟨v2::vs,?_,hk⟩
      have:=rD hw hp FW
      simp only[List.mapM_cons,Sem.run_bind,Result.andThen_ok,hr,Sem.run_pure,this]
theorem gO{fn:Func}{fr:Fr}{H:Hp}{n:Nat}{a:Act}{w:World}(ha:cq ds n a fr)(hw:Own g H w){k:List Value→Prop}(h:s8 P fr H fn.results.toList k):
    ∃vs,(results fn a.tmps).run P w=.ok (Bn vs) w∧k vs:=by
  obtain⟨vs,hr,hk⟩:=pw (P:=P) hw _ _ h
  refine⟨vs,?_,hk⟩
  have e:results fn a.tmps=(do let vs ←fn.results.mapM (Ho fr);pure (if h:vs.size=1 then vs[0]else .tuple vs)):=by
    unfold results
    congr 1
    congr 1
    funext x
    cases x<;>simp only[Ho,ha.get]
  rw[e,Array.mapM_eq_mapM_toList]
  simp only[Sem.run_bind,Sem.run_map,hr,Result.andThen_ok,Sem.run_pure]
  congr 1
  match vs with
  | []=>rfl
  | [v]=>rfl
  |a::b::r=>simp[Bn]
theorem B4{f:FuncId}{fn:Func}{hn:Hn}{args:List Value}{H:Hp}{R:Ending→Hp→Prop}(hf:P.funcs[f]? =some fn)(h:Iy P g fn hn args H R):ai P g f args.toArray H R:=by
  intro w hw
  unfold Iy at h
  split at h<;>try exact h.elim
  rename_i c hc
  cases hl:Nat.ble args.length fn.ntmps<;>simp only[hl,cond_true,cond_false]at h
  have hle:=Nat.le_of_ble_eq_true hl
  refine calls_of_wp hf hc (wp_mono (kr c hn _ _ H h _ w ⟨rfl,?_,?_⟩ hw) ?_)
  · simp;omega
  · intro s
    rw[kX,Array.getD_eq_getD_getElem?,Array.getElem?_append]
    simp only[List.size_toArray,Nat.not_lt_zero,if_false,Nat.sub_zero]
    by_cases hs:s<args.length
    · simp[hs,List.getD]
    · rw[if_neg hs]
      rw[Array.getElem?_replicate]
      have:args.getD s undef=undef:=by simp[List.getD,List.getElem?_eq_none (Nat.le_of_not_lt hs)]
      rw[this]
      split<;>rfl
  · rintro e a' w' ⟨fr',H',eA,dx,_,hq⟩
    cases e with
    |normal=>obtain⟨vs,hr,hk⟩:=gO eA dx hq;exact⟨eA.defers,_,hr,H',dx,hk⟩
    |ret=>obtain⟨vs,hr,hk⟩:=gO eA dx hq;exact⟨eA.defers,_,hr,H',dx,hk⟩
    |panic ch=>exact⟨eA.defers,H',dx,hq⟩
    |exit id=>exact hq.elim
    |goto l=>exact hq.elim
    |outgrown=>exact hq.elim
end
end Go.Sx
namespace Go.Sx
open Go
section
variable {P:Program} {g:Gh} {H:Hp}
theorem Nil.ptr{a:Addr}{k:Value→Prop}(h:k (.pointer (some a))):Nil (.pointer (some a)) k:=⟨_,rfl,h⟩
theorem aa.mk{b o off:Nat}{k:Value→Prop}(h:k (.pointer (some ⟨b,o+off,none⟩))):aa off (.pointer (some ⟨b,o,none⟩)) k:=⟨b,o,rfl,h⟩
theorem Ld.mk{b off:Nat}{c:Array Value}{T:TypeId}{fz:Nat×Nat}{v:Value}{k:Value→Prop}(hm:(b,Obj.cells c T fz)∈H)(hc:c[off]? =some v)(h:k v):Ld H (.pointer (some ⟨b,off,none⟩)) k:=
 ⟨b,off,c,T,fz,v,rfl,hm,hc,h⟩
theorem aD.mk{b off n:Nat}{c:Array Value}{T:TypeId}{fz:Nat×Nat}{vs:Array Value}{k:Value→Prop}(hm:(b,Obj.cells c T fz)∈H)(hs:off+n≤c.size)(hc:c.extract off (off+n)=vs)(h:k (.agg vs)):aD n H (.pointer (some ⟨b,off,none⟩)) k:=
 ⟨b,off,c,T,fz,rfl,hm,hs,by rw[hc];exact h⟩
theorem St.mk{b off n:Nat}{c:Array Value}{T:TypeId}{x:Value}{c':Array Value}{H':Hp}{k:Hp→Prop}(hu:cM b (.cells c T (0,0)) (.cells c' T (0,0)) H H')(hx:x.cells.size=n)(hs:off+n≤c.size)
 (h1:∀v∈x.cells.toList,v.oneCell'=true)(hc:iP c off x.cells.toList=c')(h:k H'):St n H (.pointer (some ⟨b,off,none⟩)) x k:=
 ⟨b,off,c,T,H',rfl,hx,hs,h1,by rw[hc];exact hu,h⟩
theorem JE.mk{J:List Value→Hp→Prop}{vs:List Value}(h:J vs H):JE J vs H:=⟨H,.refl _,h⟩
theorem JE.of{J:List Value→Hp→Prop}{vs:List Value}{H':Hp}(e:aU H H')(h:J vs H'):JE J vs H:=⟨H',e,h⟩
theorem aC.mk{I:List Value→Hp→Prop}{m:List Value→Hp→Nat}{vs' vs:List Value}{H0:Hp}(h:I vs' H)(hm:m vs' H<m vs H0):aC I m vs' H vs H0:=⟨H,.refl _,h,hm⟩
theorem aC.of{I:List Value→Hp→Prop}{m:List Value→Hp→Nat}{vs' vs:List Value}{H' H0:Hp}(e:aU H H')(h:I vs' H')(hm:m vs' H'<m vs H0):aC I m vs' H vs H0:=⟨H',e,h,hm⟩
theorem Br.mk{b:Bool}{t f:Prop}(h1:b=true→t)(h2:b=false→f):Br (.bool b) t f:=⟨b,rfl,h1,h2⟩
theorem Br.yes{t f:Prop}(h1:t):Br (.bool true) t f:=⟨true,rfl,fun _=>h1,fun h=>by simp at h⟩
theorem Br.no{t f:Prop}(h1:f):Br (.bool false) t f:=⟨false,rfl,fun h=>by simp at h,fun _=>h1⟩
theorem Br.JY{b:Bool}{t f:Prop}(hb:b=true)(h1:t):Br (.bool b) t f:=by subst hb;exact Br.yes h1
theorem Br.U5{b:Bool}{t f:Prop}(hb:b=false)(h1:f):Br (.bool b) t f:=by subst hb;exact Br.no h1
theorem bX.mk{a:Bool}{want:Bool}{inner els k:Bool→Prop}(t:Bool)(h1:a=want→inner t)(h2:a= !want→els t)(h3:k t):bX (.bool a) want inner els k:=⟨a,t,rfl,h1,h2,h3⟩
theorem bX.and{a:Bool}{inner els k:Bool→Prop}(b:Bool)(h1:a=true→inner b)(h2:els false)(h3:k (a&&b)):bX (.bool a) true inner els k:=
 ⟨a,a&&b,rfl,fun e=>by subst e;exact h1 rfl,fun e=>by subst e;exact h2,h3⟩
theorem bX.or{a:Bool}{inner els k:Bool→Prop}(b:Bool)(h1:a=false→inner b)(h2:els true)(h3:k (a||b)):bX (.bool a) false inner els k:=
 ⟨a,a||b,rfl,fun e=>by subst e;exact h1 rfl,fun e=>by subst e;exact h2,h3⟩
theorem Split.go{a:Bool}{want:Bool}{k1 k2:Prop}(e:a=want)(h1:k1):Split (.bool a) want k1 k2:=⟨a,rfl,fun _=>h1,fun e'=>by subst e;cases a<;>simp at e'⟩
theorem Split.V4{a:Bool}{want:Bool}{k1 k2:Prop}(e:a= !want)(h1:k2):Split (.bool a) want k1 k2:=⟨a,rfl,fun e'=>by subst e';cases a<;>simp at e,fun _=>h1⟩
theorem az.mk{t:Bool}{a b:Value}{k:Value→Prop}(h:k (cond t a b)):az (.bool t) a b k:=⟨t,rfl,h⟩
theorem Un.not{b:Bool}{k:Value→Prop}(h:k (.bool !b)):Un .not (.bool b) k:=⟨_,rfl,h⟩
theorem Ext.mk{i:Nat}{vs:Array Value}{v:Value}{k:Value→Prop}(hv:vs[i]? =some v)(h:k v):Ext i (.tuple vs) k:=⟨vs,v,rfl,hv,h⟩
theorem aO.mk{a:Option Addr}{n c:Nat}{k:Value→Prop}(h:k (.int .i64 n)):aO (.slice a n c) k:=⟨a,n,c,rfl,h⟩
theorem aY.of{kd j:IntKind}{n m:Int}{k:Value→Prop}(e:kd.wrap n=m)(h:k (.int kd m)):aY kd (.int j n) k:=⟨j,n,rfl,by rw[e];exact h⟩
theorem Ol.mk{off:Nat}{cs:Array Value}{v:Value}{k:Value→Prop}(hc:cs[off]? =some v)(h:k v):Ol off (.agg cs) k:=⟨cs,v,rfl,hc,h⟩
theorem ah.mk{size b o n c:Nat}{kd:IntKind}{i:Int}{k:Value→Prop}(h0:0≤i)(h1:i<(n:Int))(h:k (.pointer (some ⟨b,o+i.toNat*size,none⟩))):ah size (.slice (some ⟨b,o,none⟩) n c) (.int kd i) k:=
 ⟨b,o,n,c,kd,i,rfl,rfl,h0,h1,h⟩
theorem ah.nat{size b o n c:Nat}{kd:IntKind}{j:Nat}{k:Value→Prop}(h1:j<n)(h:k (.pointer (some ⟨b,o+j*size,none⟩))):ah size (.slice (some ⟨b,o,none⟩) n c) (.int kd (j:Int)) k:=
 ah.mk (Int.natCast_nonneg j) (by omega) (by simpa using h)
theorem ah.of{size b o n c:Nat}{kd:IntKind}{i:Int}{k:Value→Prop}(j:Nat)(e:i=(j:Int))(h1:j<n)(h:k (.pointer (some ⟨b,o+j*size,none⟩))):ah size (.slice (some ⟨b,o,none⟩) n c) (.int kd i) k:=by
 subst e;exact ah.nat h1 h
theorem ae.eql{kd:IntKind}{a b:Int}{k:Value→Prop}(h:k (.bool (a==b))):ae .num .eql (.int kd a) (.int kd b) k:=⟨_,by simp[fJ,kf],h⟩
theorem ae.neq{kd:IntKind}{a b:Int}{k:Value→Prop}(h:k (.bool (a !=b))):ae .num .neq (.int kd a) (.int kd b) k:=⟨_,by simp[fJ,kf],h⟩
theorem ae.lss{kd:IntKind}{a b:Int}{k:Value→Prop}(h:k (.bool (decide (a<b)))):ae .num .lss (.int kd a) (.int kd b) k:=⟨_,by simp[fJ,kf],h⟩
theorem ae.leq{kd:IntKind}{a b:Int}{k:Value→Prop}(h:k (.bool (decide (a≤b)))):ae .num .leq (.int kd a) (.int kd b) k:=⟨_,by simp[fJ,kf],h⟩
theorem ae.gtr{kd:IntKind}{a b:Int}{k:Value→Prop}(h:k (.bool (decide (b<a)))):ae .num .gtr (.int kd a) (.int kd b) k:=⟨_,by simp[fJ,kf],h⟩
theorem ae.geq{kd:IntKind}{a b:Int}{k:Value→Prop}(h:k (.bool (decide (b≤a)))):ae .num .geq (.int kd a) (.int kd b) k:=⟨_,by simp[fJ,kf],h⟩
theorem ae.add{kd:IntKind}{a b:Int}{k:Value→Prop}(h:k (.int kd (kd.wrap (a+b)))):ae .num .add (.int kd a) (.int kd b) k:=⟨_,by simp[fJ,kf],h⟩
theorem ae.sub{kd:IntKind}{a b:Int}{k:Value→Prop}(h:k (.int kd (kd.wrap (a-b)))):ae .num .sub (.int kd a) (.int kd b) k:=⟨_,by simp[fJ,kf],h⟩
theorem ae.mul{kd:IntKind}{a b:Int}{k:Value→Prop}(h:k (.int kd (kd.wrap (a*b)))):ae .num .mul (.int kd a) (.int kd b) k:=⟨_,by simp[fJ,kf],h⟩
theorem wrap_i64{a:Int}(h: -9223372036854775808≤a∧a≤9223372036854775807):IntKind.i64.wrap a=a:=IntWalk.i64_in _ h
theorem ae.wL{a b:Int}{c:Int}{k:Value→Prop}(e:a+b=c)(hb: -9223372036854775808≤c∧c≤9223372036854775807)(h:k (.int .i64 c)):ae .num .add (.int .i64 a) (.int .i64 b) k:=
 ae.add (by rw[e,wrap_i64 hb];exact h)
theorem ae.nT{a b:Int}{c:Int}{k:Value→Prop}(e:a-b=c)(hb: -9223372036854775808≤c∧c≤9223372036854775807)(h:k (.int .i64 c)):ae .num .sub (.int .i64 a) (.int .i64 b) k:=
 ae.sub (by rw[e,wrap_i64 hb];exact h)
theorem ae.V7{a b:Int}{c:Int}{k:Value→Prop}(e:a*b=c)(hb: -9223372036854775808≤c∧c≤9223372036854775807)(h:k (.int .i64 c)):ae .num .mul (.int .i64 a) (.int .i64 b) k:=
 ae.mul (by rw[e,wrap_i64 hb];exact h)
theorem ae.KV{a b:Int}{c:Int}{k:Value→Prop}(hb0:b≠0)(e:a.tdiv b=c)(hb: -9223372036854775808≤c∧c≤9223372036854775807)(h:k (.int .i64 c)):ae .num .quo (.int .i64 a) (.int .i64 b) k:=
 ⟨.int .i64 c,by simp[fJ,kf,hb0,e,wrap_i64 hb],h⟩
theorem ae.VZ{kd:IntKind}{a b:Int}{c:Int}{k:Value→Prop}(hb0:b≠0)(e:a.tmod b=c)(h:k (.int kd c)):ae .num .rem (.int kd a) (.int kd b) k:=
 ⟨.int kd c,by simp[fJ,kf,hb0,e],h⟩
theorem ae.aH{a:Addr}{k:Value→Prop}(h:k (.bool false)):ae .ptr .eql (.pointer (some a)) (.pointer none) k:=⟨.bool false,by simp[fJ],h⟩
theorem ae.bD{k:Value→Prop}(h:k (.bool true)):ae .ptr .eql (.pointer none) (.pointer none) k:=⟨.bool true,by simp[fJ],h⟩
theorem ae.xC{a:Addr}{k:Value→Prop}(h:k (.bool true)):ae .ptr .neq (.pointer (some a)) (.pointer none) k:=⟨.bool true,by simp[fJ],h⟩
theorem ae.bE{a:Option Nat}{k:Value→Prop}(h:k (.bool a.isNone)):ae .map .eql (.map a) (.map none) k:=⟨.bool a.isNone,by simp[fJ],h⟩
theorem ae.aaM{a b:Bool}{k:Value→Prop}(h:k (.bool (!(a==b)))):ae .bool .neq (.bool a) (.bool b) k:=⟨_,by simp[fJ],h⟩
theorem aU.QK(A B C:Hp):aU (A++(B++C)) (B++(A++C)):=.perm (by rw[←List.append_assoc,←List.append_assoc];exact List.perm_append_comm.append_right C)
def flat:List Hp→Hp
 | []=>[]
 | [a]=>a
 |a::b::r=>a++flat (b::r)
theorem qR:∀(l:List Hp),(flat l).Perm l.flatten
 | []=>.refl _
 | [a]=>by simp[flat]
 |a::b::r=>by
  simp only[flat,List.flatten_cons]
  exact List.Perm.append_left _ (by simpa using qR (b::r))
theorem aU.VX(S T:List Hp)(h:S.Perm T):aU (flat S) (flat T):=
 .perm ((qR S).trans (h.flatten.trans (qR T).symm))
def rows(l:List (List Value)):Array Value:=l.flatten.toArray
theorem rJ{k:Nat}:∀(l:List (List Value)) (i j:Nat),(∀r∈l,r.length=k)→j<k→l.flatten[i*k+j]? =(l[i]?).bind (·[j]?)
 | [],i,j,_,_=>by simp
 |r::l,0,j,h,hj=>by
  have:=h r (by simp)
  simp[List.getElem?_append,this,hj]
 |r::l,i+1,j,h,hj=>by
  have hr:=h r (by simp)
  have ih:=rJ l i j (fun x hx=>h x (by simp[hx])) hj
  rw[List.flatten_cons,List.getElem?_append_right (by rw[hr,Nat.succ_mul];omega),hr,show(i+1)*k+j-k=i*k+j by rw[Nat.succ_mul];omega,ih]
  simp
theorem cT{k:Nat}:∀(l:List (List Value)),(∀r∈l,r.length=k)→l.flatten.length=l.length*k
 | [],_=>by simp
 |r::l,h=>by
  have hr:=h r (by simp)
  rw[List.flatten_cons,List.length_append,hr,cT l (fun x hx=>h x (by simp[hx]))]
  simp[Nat.succ_mul];omega
theorem bJ{k:Nat}{l:List (List Value)}(h:∀r∈l,r.length=k):(rows l).size=l.length*k:=by simp[rows,cT l h]
theorem gN{k:Nat}{l:List (List Value)}(h:∀r∈l,r.length=k){i j:Nat}(hj:j<k):(rows l)[i*k+j]? =(l[i]?).bind (·[j]?):=by
 simp only[rows,List.getElem?_toArray];exact rJ l i j h hj
theorem xA{k:Nat}{l:List (List Value)}(h:∀r∈l,r.length=k){i:Nat}{r:List Value}(hi:l[i]? =some r):(rows l).extract (i*k) (i*k+k)=r.toArray:=by
 have hr:=h r (List.mem_of_getElem? hi)
 have hlt:=(List.getElem?_eq_some_iff.1 hi).1
 apply Array.ext'
 apply List.ext_getElem?
 intro j
 by_cases hj:j<k
 ·have:=gN h (i:=i) hj
  rw[Array.getElem?_toList,Array.getElem?_extract]
  rw[if_pos (by rw[bJ h];have:=Nat.mul_le_mul_right k (Nat.succ_le_of_lt hlt);rw[Nat.succ_mul]at this;omega),this,hi]
  simp
 ·rw[List.getElem?_eq_none (by simp;omega),List.getElem?_eq_none (by simp;omega)]
theorem pB:∀(vs:List Value) (c:List Value) (off:Nat),off+vs.length≤c.length→iP c.toArray off vs=(c.take off++vs++c.drop (off+vs.length)).toArray
 | [],c,off,_=>by simp[iP]
 |v::r,c,off,h=>by
  simp only[List.length_cons]at h
  have hl:off<c.length:=by omega
  have:c.toArray.setIfInBounds off v=(c.set off v).toArray:=by simp
  rw[iP,this,pB r (c.set off v) (off+1) (by simp only[List.length_set];omega)]
  congr 1
  have e1:(c.set off v).take (off+1)=c.take off++[v]:=by
   rw[List.set_eq_take_append_cons_drop,if_pos hl,List.take_append]
   simp[List.take_take,hl,Nat.min_eq_left (Nat.le_of_lt hl)]
  have e2:(c.set off v).drop (off+1+r.length)=c.drop (off+(v::r).length):=by
   rw[List.drop_set_of_lt (by omega)]
   simp only[List.length_cons]
   rw[show off+1+r.length=off+(r.length+1)by omega]
  rw[e1,e2];simp
theorem y7{k:Nat}{l:List (List Value)}(h:∀r∈l,r.length=k){i:Nat}(hi:i<l.length){r:List Value}(hr:r.length=k):iP (rows l) (i*k) r=rows (l.set i r):=by
 unfold rows
 have hlen:=cT l h
 have hle:i*k+k≤l.length*k:=by have:=Nat.mul_le_mul_right k (Nat.succ_le_of_lt hi);rwa [Nat.succ_mul]at this
 rw[pB r l.flatten (i*k) (by rw[hlen,hr];exact hle)]
 congr 1
 have e:l=l.take i++[l[i]]++l.drop (i+1):=by simp
 have hp:(l.take i).flatten.length=i*k:=by
  rw[cT _ (fun x hx=>h x (List.mem_of_mem_take hx))];simp[Nat.min_eq_left (Nat.le_of_lt hi)]
 have hm:l[i].length=k:=h _ (List.getElem_mem hi)
 have e3:l.flatten=(l.take i).flatten++(l[i]++(l.drop (i+1)).flatten):=by
  rw[←List.flatten_cons,←List.flatten_append,←List.drop_eq_getElem_cons hi,List.take_append_drop]
 have e4:(l.set i r).flatten=(l.take i).flatten++(r++(l.drop (i+1)).flatten):=by
  rw[List.set_eq_take_append_cons_drop,if_pos hi];simp[List.flatten_append]
 rw[e4,e3,←hp,List.take_left,←List.drop_drop,List.drop_left,hr,←hm,List.drop_left]
 simp
end
end Go.Sx
namespace Go.Sx
open Go
section
variable {P:Program} {g:Gh}
theorem cM.bW{b:Nat}{o o':Obj}{C C':Hp}(h:cM b o o' C C')(A:Hp):cM b o o' (A++C) (A++C'):=by
 induction A with
 |nil=>exact h
 |cons x A ih=>exact .tail ih
def aS(T:TypeId)(k:Nat)(v:Value)(rs:List (List Value))(C:Hp):Prop:=
 (v=.slice none 0 0∧rs=[]∧C=[])∨
 ∃b aM,v=.slice (some ⟨b,0,none⟩) rs.length (rs.length+aM.length)∧C=[(b,.cells (rows (rs++aM)) T (0,0))]∧(∀r∈rs++aM,r.length=k)
theorem aS.nil(T:TypeId)(k:Nat):aS T k (.slice none 0 0) [] []:=.inl ⟨rfl,rfl,rfl⟩
theorem aS.len{T:TypeId}{k:Nat}{v:Value}{rs:List (List Value)}{C:Hp}(h:aS T k v rs C):∃a c,v=.slice a rs.length c:=by
 rcases h with⟨rfl,rfl,rfl⟩|⟨b,aM,rfl,_⟩
 ·exact⟨_,_,rfl⟩
 ·exact⟨_,_,rfl⟩
theorem aS.bQ{T:TypeId}{k:Nat}{v:Value}{rs:List (List Value)}{C:Hp}(h:aS T k v rs C){K:Value→Prop}(hk:K (.int .i64 rs.length)):aO v K:=by
 obtain⟨a,c,rfl⟩:=h.len;exact aO.mk hk
theorem o9{k:Nat}(z:List Value)(hz:z.length=k)(m:Nat):Builtin.zeroCells z.toArray m=rows (List.replicate m z):=by
 apply Array.ext'
 apply List.ext_getElem?
 intro j
 have aJ:∀r∈List.replicate m z,r.length=k:=fun r hr=>by rw[List.eq_of_mem_replicate hr,hz]
 by_cases hj:j<m*k
 ·have hk:0<k:=Nat.pos_of_ne_zero fun e=>by simp[e]at hj
  have hd:j/k<m:=Nat.div_lt_of_lt_mul (by rw[Nat.mul_comm];exact hj)
  have hm:j%k<k:=Nat.mod_lt _ hk
  have he:j/k*k+j%k=j:=by rw[Nat.mul_comm];exact Nat.div_add_mod j k
  have:=gN aJ (i:=j/k) hm
  rw[he]at this
  rw[Array.getElem?_toList,Array.getElem?_toList,this]
  simp only[Builtin.zeroCells,List.size_toArray,hz,List.getElem?_replicate,hd,if_true,Option.bind_some]
  rw[Array.getElem?_map,Array.getElem?_range]
  simp[hj,hz,hm]
 ·rw[List.getElem?_eq_none,List.getElem?_eq_none]
  ·simp only[Array.length_toList,bJ aJ,List.length_replicate];omega
  ·simp[Builtin.zeroCells,hz];omega
theorem dI(a b:List (List Value)):rows a++rows b=rows (a++b):=by simp[rows,List.flatten_append]
theorem aS.IJ{elem k bytes:Nat}{zero:Value}{v:Value}{rs:List (List Value)}{C A B:Hp}(h:aS elem k v rs C){xb:Nat}{r:List Value}{xT:TypeId}{fz:Nat×Nat}{xc:Nat}
 (hx:(xb,Obj.cells r.toArray xT fz)∈A++(C++B))(hr:r.length=k)(h1:∀u∈r,u.oneCell'=true)(hz:∃z:List Value,zero.cells=z.toArray∧z.length=k)
 (hb:(rs.length+1)*bytes≤140737488355328)(ca:rs.length+1≤9223372036854775807){K:Value→Hp→Prop}
 (hk:∀v' C',aS elem k v' (rs++[r]) C'→K v' (A++(C'++B))):App P elem k bytes zero (A++(C++B)) v (.slice (some ⟨xb,0,none⟩) 1 xc) K:=by
 have F1:∀x∈[r],x.length=k:=fun x hx=>by simp at hx;rw[hx];exact hr
 obtain⟨z,LN,HS⟩:=hz
 have hnews:Cells (A++(C++B)) (some ⟨xb,0,none⟩) (1*k) (rows [r]):=.inr ⟨rfl,_,_,_,hx,by simp[hr],by simp[rows];rw[←hr,List.take_length]⟩
 have hnone:∀u∈(rows [r]).toList,u.oneCell'=true:=by simpa[rows]using h1
 rcases h with⟨rfl,rfl,rfl⟩|⟨b,aM,rfl,rfl,aJ⟩
 ·refine⟨none,0,0,some ⟨xb,0,none⟩,1,xc,#[],rows [r],rfl,rfl,rfl,hnews,by rw[bJ F1];simp,by simp,hnone,fun h=>by omega,fun _=>⟨hb,by omega,fun fD hn b hbf=>?_⟩⟩
  rw[show(#[]:Array Value)++rows [r]++Builtin.zeroCells zero.cells (fD-(0+1))=rows ([]++[r]++List.replicate (fD-1) z)by rw[LN,o9 z HS];simp only[Nat.zero_add,Array.empty_append,List.nil_append];rw[dI]]
  refine⟨_,aU.QK [(b,_)] A B,hk _ [(b,_)] (.inr ⟨b,List.replicate (fD-1) z,?_,rfl,?_⟩)⟩
  ·simp;omega
  ·intro x hx
   rcases List.mem_append.1 hx with hx|hx
   ·exact F1 x hx
   ·rw[List.eq_of_mem_replicate hx,HS]
 ·have hsz:=bJ aJ
  have nY:∀x∈rs,x.length=k:=fun x hx=>aJ x (by simp[hx])
  have hold:rows rs=(rows (rs++aM)).extract 0 (0+rs.length*k):=by
   rw[←dI]
   apply Array.ext'
   have:=bJ nY
   have h2:(rows rs).toList.length=rs.length*k:=by rw[Array.length_toList];exact this
   rw[Array.toList_extract,Array.toList_append,List.extract_eq_take_drop,List.drop_zero,Nat.zero_add,Nat.sub_zero,←h2,List.take_left]
  refine⟨some ⟨b,0,none⟩,rs.length,rs.length+aM.length,some ⟨xb,0,none⟩,1,xc,rows rs,rows [r],rfl,rfl,.inr ⟨rfl,_,elem,(0,0),by simp,?_,hold⟩,hnews,by rw[bJ F1];simp,bJ nY,hnone,fun hfit=>?_,fun hgrow=>⟨hb,by omega,fun fD hn b' hbf=>?_⟩⟩
  ·rw[hsz];simp only[List.length_append,Nat.zero_add];exact Nat.mul_le_mul_right _ (by omega)
  ·obtain⟨j0,Lx,rfl⟩:∃j0 Lx,aM=j0::Lx:=by cases aM with|nil=>exact absurd hfit (by simp only[List.length_nil];omega)|cons a b=>exact⟨a,b,rfl⟩
   refine⟨_,elem,_,rfl,?_,((cM.head _).append B).bW A,hk _ [(b,_)] (.inr ⟨b,Lx,?_,?_,?_⟩)⟩
   ·rw[hsz];simp[Nat.succ_mul,Nat.add_mul]
   ·simp;omega
   ·have e:(rows [r]).toList=r:=by simp[rows]
    rw[e,show(⟨b,0,none⟩:Addr).off+rs.length*k=rs.length*k by simp,y7 aJ (by simp) hr]
    simp
   ·intro x hx
    simp only[List.append_assoc,List.cons_append,List.nil_append,List.mem_append,List.mem_cons]at hx
    rcases hx with hx|hx|hx
    ·exact nY x hx
    ·rw[hx];exact hr
    ·exact aJ x (by simp[hx])
  ·refine⟨A++([(b',_)]++B),?_,hk _ [(b',_)] (.inr ⟨b',List.replicate (fD-(rs.length+1)) z,?_,rfl,?_⟩)⟩
   ·rw[LN,o9 z HS,dI,dI]
    exact fun g w h=>(aU.VX [[_],A,[_],B] [[_],A,[_],B] ((List.perm_append_comm (l₁:=[_,A]) (l₂:=[_])).append_right [B]|>.trans (.cons _ (.swap _ _ _))) g w h).tail
   ·simp;omega
   ·intro x hx
    rcases List.mem_append.1 hx with hx|hx
    ·rcases List.mem_append.1 hx with hx|hx
     ·exact nY x hx
     ·exact F1 x hx
    ·rw[List.eq_of_mem_replicate hx,HS]
end
end Go.Sx
namespace Go.Sx
open Go
section
variable {P:Program} {g:Gh} {H:Hp}
theorem aS.pos{T:TypeId}{k:Nat}{v:Value}{rs:List (List Value)}{C:Hp}(h:aS T k v rs C)(hp:0<rs.length):
  ∃b aM,v=.slice (some ⟨b,0,none⟩) rs.length (rs.length+aM.length)∧C=[(b,.cells (rows (rs++aM)) T (0,0))]∧(∀r∈rs++aM,r.length=k):=by
 rcases h with⟨_,rfl,_⟩|h
 ·simp at hp
 ·exact h
theorem aS.mk{T:TypeId}{k b:Nat}{rs aM:List (List Value)}(aJ:∀r∈rs++aM,r.length=k):aS T k (.slice (some ⟨b,0,none⟩) rs.length (rs.length+aM.length)) rs [(b,.cells (rows (rs++aM)) T (0,0))]:=
 .inr ⟨b,aM,rfl,rfl,aJ⟩
theorem aS.mk'{T:TypeId}{k b n c:Nat}{rs aM:List (List Value)}(aJ:∀r∈rs++aM,r.length=k)(hn:n=rs.length)(hc:c=rs.length+aM.length):aS T k (.slice (some ⟨b,0,none⟩) n c) rs [(b,.cells (rows (rs++aM)) T (0,0))]:=by
 subst hn;subst hc;exact aS.mk aJ
theorem aD.row{b i k:Nat}{l:List (List Value)}{T:TypeId}{fz:Nat×Nat}{r:List Value}{K:Value→Prop}(hm:(b,Obj.cells (rows l) T fz)∈H)(aJ:∀r∈l,r.length=k)(hi:l[i]? =some r)(h:K (.agg r.toArray)):
  aD k H (.pointer (some ⟨b,0+i*k,none⟩)) K:=by
 have hlt:=(List.getElem?_eq_some_iff.1 hi).1
 refine aD.mk hm ?_ ?_ h
 ·rw[bJ aJ,Nat.zero_add];have:=Nat.mul_le_mul_right k (Nat.succ_le_of_lt hlt);rwa [Nat.succ_mul]at this
 ·rw[Nat.zero_add];exact xA aJ hi
theorem Ld.row{b i j k:Nat}{l:List (List Value)}{T:TypeId}{fz:Nat×Nat}{r:List Value}{v:Value}{K:Value→Prop}(hm:(b,Obj.cells (rows l) T fz)∈H)(aJ:∀r∈l,r.length=k)(hi:l[i]? =some r)(hv:r[j]? =some v)(h:K v):
  Ld H (.pointer (some ⟨b,0+i*k+j,none⟩)) K:=by
 have hr:=aJ r (List.mem_of_getElem? hi)
 have hj:j<k:=by rw[←hr];exact(List.getElem?_eq_some_iff.1 hv).1
 refine Ld.mk hm ?_ h
 rw[Nat.zero_add,gN aJ hj,hi];exact hv
theorem Ld.VY{b i:Nat}{l:List (List Value)}{T:TypeId}{fz:Nat×Nat}{v:Value}{K:Value→Prop}(hm:(b,Obj.cells (rows l) T fz)∈H)(aJ:∀r∈l,r.length=1)(hi:l[i]? =some [v])(h:K v):
  Ld H (.pointer (some ⟨b,0+i*1,none⟩)) K:=by
 have:=Ld.row (j:=0) hm aJ hi rfl h
 simpa using this
theorem St.row{b i k:Nat}{l:List (List Value)}{T:TypeId}{r:List Value}{H':Hp}{K:Hp→Prop}(hu:cM b (.cells (rows l) T (0,0)) (.cells (rows (l.set i r)) T (0,0)) H H')(aJ:∀r∈l,r.length=k)(hi:i<l.length)
 (hr:r.length=k)(h1:∀v∈r,v.oneCell'=true)(h:K H'):St k H (.pointer (some ⟨b,0+i*k,none⟩)) (.agg r.toArray) K:=by
 refine St.mk hu (by simp[Value.cells,hr]) ?_ (by simpa[Value.cells]using h1) ?_ h
 ·rw[bJ aJ,Nat.zero_add];have:=Nat.mul_le_mul_right k (Nat.succ_le_of_lt hi);rwa [Nat.succ_mul]at this
 ·simp only[Value.cells,Nat.zero_add];exact y7 aJ hi hr
theorem nU{k:Nat}{l:List (List Value)}(h:∀r∈l,r.length=k){i j:Nat}{r:List Value}(hi:l[i]? =some r)(hj:j<k)(v:Value):(rows l).setIfInBounds (i*k+j) v=rows (l.set i (r.set j v)):=by
 have hr:=h r (List.mem_of_getElem? hi)
 have hlt:=(List.getElem?_eq_some_iff.1 hi).1
 have Mp:∀x∈l.set i (r.set j v),x.length=k:=fun x hx=>by
  rcases List.mem_or_eq_of_mem_set hx with hx|hx
  ·exact h x hx
  ·rw[hx,List.length_set];exact hr
 have hk:0<k:=by omega
 apply Array.ext'
 apply List.ext_getElem?
 intro m
 rw[Array.getElem?_toList,Array.getElem?_toList,Array.getElem?_setIfInBounds]
 have hm:m%k<k:=Nat.mod_lt _ hk
 have he:m/k*k+m%k=m:=by rw[Nat.mul_comm];exact Nat.div_add_mod m k
 have g1:=gN h (i:=m/k) hm
 have g2:=gN Mp (i:=m/k) hm
 rw[he]at g1 g2
 rw[g1,g2]
 by_cases e:i*k+j=m
 ·have e1:m/k=i:=by rw[←e,Nat.mul_comm,Nat.mul_add_div hk,Nat.div_eq_of_lt hj,Nat.add_zero]
  have e2:m%k=j:=by rw[←e,Nat.mul_comm,Nat.mul_add_mod,Nat.mod_eq_of_lt hj]
  rw[if_pos e,if_pos (by rw[bJ h];have:=Nat.mul_le_mul_right k (Nat.succ_le_of_lt hlt);rw[Nat.succ_mul]at this;omega),e1,e2]
  simp[hlt,hr,hj]
 ·rw[if_neg e]
  by_cases e1:m/k=i
  ·have e2:j≠m%k:=fun e2=>e (by rw[e2,←e1];exact he)
   rw[e1,hi]
   simp[hlt,e2]
  ·rw[List.getElem?_set_ne (fun x=>e1 x.symm)]
theorem St.cell{b i j k:Nat}{l:List (List Value)}{T:TypeId}{r:List Value}{v:Value}{H':Hp}{K:Hp→Prop}(hu:cM b (.cells (rows l) T (0,0)) (.cells (rows (l.set i (r.set j v))) T (0,0)) H H')(aJ:∀r∈l,r.length=k)
 (hi:l[i]? =some r)(hj:j<k)(h1:v.oneCell'=true)(h:K H'):St 1 H (.pointer (some ⟨b,0+i*k+j,none⟩)) v K:=by
 have hlt:=(List.getElem?_eq_some_iff.1 hi).1
 have hc:v.cells=#[v]:=by cases v<;>first|rfl|(simp[Value.oneCell']at h1)
 refine St.mk hu (by simp[hc]) ?_ (by simp[hc,h1]) ?_ h
 ·rw[bJ aJ,Nat.zero_add];have:=Nat.mul_le_mul_right k (Nat.succ_le_of_lt hlt);rw[Nat.succ_mul]at this;omega
 ·simp only[hc,Nat.zero_add,iP];exact nU aJ hi hj v
theorem St.one{b off:Nat}{c c':Array Value}{T:TypeId}{v:Value}{H':Hp}{K:Hp→Prop}(hu:cM b (.cells c T (0,0)) (.cells c' T (0,0)) H H')(h1:v.oneCell'=true)(hs:off<c.size)(hc:c.setIfInBounds off v=c')(h:K H'):
  St 1 H (.pointer (some ⟨b,off,none⟩)) v K:=by
 have hv:v.cells=#[v]:=by cases v<;>first|rfl|(simp[Value.oneCell']at h1)
 exact St.mk hu (by simp[hv]) (by omega) (by simp[hv,h1]) (by simpa[hv,iP]using hc) h
theorem St.whole{b n:Nat}{c:Array Value}{T:TypeId}{r:List Value}{H':Hp}{K:Hp→Prop}(hu:cM b (.cells c T (0,0)) (.cells r.toArray T (0,0)) H H')(hs:c.size=n)(hr:r.length=n)(h1:∀v∈r,v.oneCell'=true)(h:K H'):
  St n H (.pointer (some ⟨b,0,none⟩)) (.agg r.toArray) K:=by
 refine St.mk hu (by simp[Value.cells,hr]) (by omega) (by simpa[Value.cells]using h1) ?_ h
 have:=pB r c.toList 0 (by simp;omega)
 rw[Array.toArray_toList]at this
 simp only[Value.cells]
 rw[this]
 simp[List.drop_eq_nil_of_le,hr,hs]
theorem aD.whole{b n:Nat}{r:List Value}{T:TypeId}{fz:Nat×Nat}{K:Value→Prop}(hm:(b,Obj.cells r.toArray T fz)∈H)(hr:r.length=n)(h:K (.agg r.toArray)):aD n H (.pointer (some ⟨b,0,none⟩)) K:=
 aD.mk hm (by simp[hr]) (by simp;rw[←hr,List.take_length]) h
theorem fT{α β:Type}(f:α→β):∀(l:List α) (i:Nat),(l.map f).eraseIdx i=(l.eraseIdx i).map f
 | [],_=>rfl
 |x::l,0=>rfl
 |x::l,i+1=>by simp[fT f l i]
def fq{β:Type}(kd:IntKind)(enc:β→Value)(m:List (Int×β×Nat)):Array MapEntry:=(m.map fun x=>({key:=.int kd x.1,val:=enc x.2.1,born:=x.2.2}:MapEntry)).toArray
def fQ{β:Type}(m:List (Int×β×Nat))(x:Int):Option β:=(m.find? (fun y=>x==y.1)).map (·.2.1)
def jM{β:Type}(kd:IntKind)(enc:β→Value)(v:Value)(f:Int→Option β)(C:Hp):Prop:=
 (v=.map none∧C=[]∧f=fun _=>none)∨
 ∃b m ck,v=.map (some b)∧C=[(b,.map (fq kd enc m) ck)]∧(m.map Prod.fst).Nodup∧f=fQ m
theorem iB{β:Type}(kd:IntKind)(enc:β→Value)(x:Int):∀(m:List (Int×β×Nat)) (i:Nat),
  ∃r,Instr.findNow (.int kd) (.int kd x) (fq kd enc m).toList i=some r∧
   (match r with
    |none=>fQ m x=none∧x∉m.map Prod.fst
    |some (j,v)=>i≤j∧∃p n,m[j-i]? =some (x,p,n)∧v=enc p∧fQ m x=some p)
 | [],i=>⟨none,by simp[fq,Instr.findNow],by simp[fQ]⟩
 |(y,p,n)::m,i=>by
  simp only[fq,List.map_cons,Instr.findNow,Instr.sameNow,if_true]
  by_cases e:x=y
  ·subst e
   refine⟨some (i,enc p),by simp[Instr.findNow,Instr.sameNow],Nat.le_refl _,p,n,by simp,rfl,by simp[fQ]⟩
  ·obtain⟨r,hr,hp⟩:=iB kd enc x m (i+1)
   have hb:(x==y)=false:=by simpa using e
   refine⟨r,?_,?_⟩
   ·simp only[fq]at hr
    simp[Instr.findNow,Instr.sameNow,hb,hr]
   ·cases r with
    |none=>
     simp only[fQ,List.find?_cons,hb]at hp⊢
     exact⟨hp.1,by simpa[e]using hp.2⟩
    |some jv=>
     obtain⟨j,v⟩:=jv
     simp only[fQ,List.find?_cons,hb]at hp⊢
     obtain⟨hij,p',n',h1,h2,h3⟩:=hp
     refine⟨by omega,p',n',?_,h2,h3⟩
     rw[show j-i=(j-(i+1))+1 by omega];simpa using h1
theorem jM.look{β:Type}{kd:IntKind}{enc:β→Value}{v zero:Value}{f:Int→Option β}{C:Hp}{ok:Bool}{x:Int}{K:Value→Prop}(h:jM kd enc v f C)(hC:∀y∈C,y∈H)
 (hk:K (match f x with|some p=>cond ok (.tuple #[enc p,.bool true]) (enc p)|none=>cond ok (.tuple #[zero,.bool false]) zero)):oS (.int kd) zero ok H v (.int kd x) K:=by
 rcases h with⟨rfl,rfl,rfl⟩|⟨b,m,ck,rfl,rfl,_,rfl⟩
 ·exact⟨#[],none,.inl ⟨rfl,rfl⟩,rfl,hk⟩
 ·obtain⟨r,hr,hp⟩:=iB kd enc x m 0
  refine⟨_,r,.inr ⟨b,ck,rfl,hC _ (by simp)⟩,hr,?_⟩
  cases r with
  |none=>simp only[hp.1]at hk;exact hk
  |some jv=>
   obtain⟨j,u⟩:=jv
   obtain⟨_,p,n,_,rfl,h3⟩:=hp
   simp only[h3]at hk;exact hk
def JG{β:Type}(f:Int→Option β)(x:Int)(p:Option β):Int→Option β:=fun y=>if y=x then p else f y
theorem jM.made{β:Type}{kd:IntKind}{enc:β→Value}(b:Nat):jM kd enc (.map (some b)) (fun _=>none) [(b,.map #[] 0)]:=
 .inr ⟨b,[],0,rfl,rfl,by simp,by funext x;simp[fQ]⟩
theorem BC{β:Type}(m:List (Int×β×Nat))(x:Int)(p:β)(n:Nat)(hx:x∉m.map Prod.fst):fQ (m++[(x,p,n)])=JG (fQ m) x (some p):=by
 funext y
 simp only[fQ,JG,List.find?_append]
 by_cases e:y=x
 ·subst e
  have:m.find? (fun z=>y==z.1)=none:=by
   rw[List.find?_eq_none];intro z hz;simp only[beq_iff_eq];intro e;exact hx (e▸List.mem_map_of_mem hz)
  simp[this]
 ·have e':(y==x)=false:=by simpa using e
  rw[if_neg e]
  cases h:m.find? (fun z=>y==z.1)<;>simp[e']
theorem vY{β:Type}:∀(m:List (Int×β×Nat)) (j:Nat) (x:Int) (p q:β) (n:Nat),(m.map Prod.fst).Nodup→m[j]? =some (x,q,n)→fQ (m.set j (x,p,n))=JG (fQ m) x (some p)
 | [],j,_,_,_,_,_,h=>by simp at h
 |y::m,0,x,p,q,n,nd,h=>by
  simp at h;subst h
  funext z
  simp only[List.set_cons_zero,fQ,JG,List.find?_cons]
  by_cases e:z=x
  ·subst e;simp
  ·have e':(z==x)=false:=by simpa using e
   rw[if_neg e];simp[e']
 |y::m,j+1,x,p,q,n,nd,h=>by
  simp at h
  simp only[List.map_cons,List.nodup_cons]at nd
  have ih:=vY m j x p q n nd.2 h
  have hne:x≠y.1:=fun e=>nd.1 (e▸List.mem_map_of_mem (f:=Prod.fst) (List.mem_of_getElem? h))
  funext z
  have Wj:=congrFun ih z
  simp only[List.set_cons_succ,fQ,JG,List.find?_cons]at Wj⊢
  by_cases e:z=y.1
  ·have:z≠x:=fun e2=>hne (e2▸e)
   simp[e,Ne.symm hne]
  ·have e':(z==y.1)=false:=by simpa using e
   simp only[e'];exact Wj
theorem rC{β:Type}:∀(m:List (Int×β×Nat)) (j:Nat) (x:Int) (q:β) (n:Nat),(m.map Prod.fst).Nodup→m[j]? =some (x,q,n)→fQ (m.eraseIdx j)=JG (fQ m) x none
 | [],j,_,_,_,_,h=>by simp at h
 |y::m,0,x,q,n,nd,h=>by
  simp at h;subst h
  simp only[List.map_cons,List.nodup_cons]at nd
  funext z
  simp only[List.eraseIdx_cons_zero,fQ,JG,List.find?_cons]
  by_cases e:z=x
  ·subst e
   have:m.find? (fun w=>z==w.1)=none:=by
    rw[List.find?_eq_none];intro w hw;simp only[beq_iff_eq];intro e;exact nd.1 (e▸List.mem_map_of_mem hw)
   simp[this]
  ·have e':(z==x)=false:=by simpa using e
   rw[if_neg e];simp[e']
 |y::m,j+1,x,q,n,nd,h=>by
  simp at h
  simp only[List.map_cons,List.nodup_cons]at nd
  have ih:=rC m j x q n nd.2 h
  have hne:x≠y.1:=fun e=>nd.1 (e▸List.mem_map_of_mem (f:=Prod.fst) (List.mem_of_getElem? h))
  funext z
  have Wj:=congrFun ih z
  simp only[List.eraseIdx_cons_succ,fQ,JG,List.find?_cons]at Wj⊢
  by_cases e:z=y.1
  ·simp[e,Ne.symm hne]
  ·have e':(z==y.1)=false:=by simpa using e
   simp only[e'];exact Wj
theorem jM.cg{β:Type}{kd:IntKind}{enc:β→Value}{b:Nat}{f:Int→Option β}{C:Hp}{x:Int}{p:β}{A B:Hp}{K:Hp→Prop}(h:jM kd enc (.map (some b)) f C)
 (hk:∀C',jM kd enc (.map (some b)) (JG f x (some p)) C'→K (A++(C'++B))):gF (.int kd) (A++(C++B)) (.map (some b)) (.int kd x) (enc p) K:=by
 rcases h with⟨h,_,_⟩|⟨b',m,ck,hb,rfl,nd,rfl⟩
 ·simp at h
 ·simp only[Value.map.injEq,Option.some.injEq]at hb;subst hb
  obtain⟨r,hr,hp⟩:=iB kd enc x m 0
  refine⟨b,fq kd enc m,ck,r,rfl,hr,?_⟩
  cases r with
  |none=>
   refine⟨_,((cM.head _).append B).bW A,hk [(b,_)] (.inr ⟨b,m++[(x,p,ck)],ck+1,rfl,?_,?_,?_⟩)⟩
   ·simp[fq]
   ·rw[List.map_append,List.nodup_append];exact⟨nd,by simp,fun a ha c hc=>by simp at hc;subst hc;intro e;subst e;exact hp.2 ha⟩
   ·exact(BC m x p ck hp.2).symm
  |some jv=>
   obtain⟨j,u⟩:=jv
   obtain⟨_,q,n,h1,rfl,h3⟩:=hp
   rw[Nat.sub_zero]at h1
   have hlt:=(List.getElem?_eq_some_iff.1 h1).1
   refine⟨fun e he=>?_,by simpa[fq]using hlt,_,((cM.head _).append B).bW A,hk [(b,_)] (.inr ⟨b,m.set j (x,p,n),ck,rfl,?_,?_,?_⟩)⟩
   ·have:e={key:=.int kd x,val:=enc q,born:=n}:=by
     simp only[fq,List.getElem?_toArray,List.getElem?_map,h1]at he;simpa using he.symm
    subst this
    simp[Instr.sameBits]
   ·congr 3
    apply Array.ext'
    apply List.ext_getElem?
    intro i
    simp only[fq,Array.getElem?_toList,Array.getElem?_modify,List.getElem?_toArray,List.getElem?_map,List.getElem?_set]
    by_cases e:j=i
    ·subst e
     have hj:m[j]=(x,q,n):=by have:=List.getElem?_eq_getElem hlt;rw[h1]at this;simpa using this.symm
     simp[hlt,hj]
    ·simp[e]
   ·rw[List.map_set]
    have hx:(m.map Prod.fst)[j]? =some x:=by rw[List.getElem?_map,h1];rfl
    rw[show(m.map Prod.fst).set j x=m.map Prod.fst by
     apply List.ext_getElem?;intro i;rw[List.getElem?_set];by_cases e:j=i
     ·subst e;rw[hx];simp[hlt]
     ·simp[e]]
    exact nd
   ·exact(vY m j x p q n nd h1).symm
theorem jM.del{β:Type}{kd:IntKind}{enc:β→Value}{v:Value}{f:Int→Option β}{C:Hp}{x:Int}{A B:Hp}{K:Hp→Prop}(h:jM kd enc v f C)
 (hk:∀C',jM kd enc v (JG f x none) C'→K (A++(C'++B))):oR (.int kd) (A++(C++B)) v (.int kd x) K:=by
 rcases h with⟨rfl,rfl,rfl⟩|⟨b,m,ck,rfl,rfl,nd,rfl⟩
 ·refine .inl ⟨rfl,hk [] (.inl ⟨rfl,rfl,?_⟩)⟩
  funext y;simp[JG]
 ·obtain⟨r,hr,hp⟩:=iB kd enc x m 0
  refine .inr ⟨b,fq kd enc m,ck,r,rfl,hr,?_⟩
  cases r with
  |none=>
   refine⟨by simp,hk [(b,_)] (.inr ⟨b,m,ck,rfl,rfl,nd,?_⟩)⟩
   funext y;simp only[JG];split
   ·rename_i e;subst e;exact hp.1.symm
   ·rfl
  |some jv=>
   obtain⟨j,u⟩:=jv
   obtain⟨_,q,n,h1,rfl,h3⟩:=hp
   rw[Nat.sub_zero]at h1
   have hlt:=(List.getElem?_eq_some_iff.1 h1).1
   refine⟨_,((cM.head _).append B).bW A,hk [(b,_)] (.inr ⟨b,m.eraseIdx j,ck,rfl,?_,?_,?_⟩)⟩
   ·congr 3
    apply Array.ext'
    simp[fq,Array.eraseIdxIfInBounds,hlt,fT]
   ·rw[←fT];exact nd.sublist (List.eraseIdx_sublist _ _)
   ·exact(rC m j x q n nd h1).symm
end
end Go.Sx
namespace Go.Sx
open Go
section
variable {P:Program} {g:Gh} {H:Hp}
theorem tL(off:Nat):∀(r:List Value) (i:Nat) (c:Array Value),(r.zipIdx i).foldl (fun cs (x:Value×Nat)=>cs.setIfInBounds (off+x.2) x.1) c=iP c (off+i) r
 | [],i,c=>rfl
 |v::r,i,c=>by
  rw[List.zipIdx_cons,List.foldl_cons,tL off r (i+1)]
  rfl
theorem Io(off:Nat)(a c:Array Value):a.zipIdx.foldl (fun cs (x:Value×Nat)=>cs.setIfInBounds (off+x.2) x.1) c=iP c off a.toList:=by
 rw[←Array.foldl_toList]
 have:a.zipIdx.toList=a.toList.zipIdx 0:=by simp
 rw[this,tL off a.toList 0 c];rfl
def zi:List Value→Nat→List Value→List Value
 |c,_,[]=>c
 |c,off,v::r=>zi (c.set off v) (off+1) r
theorem oD:∀(r c:List Value) (off:Nat),iP c.toArray off r=(zi c off r).toArray
 | [],c,off=>rfl
 |v::r,c,off=>by
  have:c.toArray.setIfInBounds off v=(c.set off v).toArray:=by simp
  rw[iP,zi,this,oD r]
def wC(place:Nat→Option (Nat×Nat)):List Value→List (Nat×Value)→Option (List Value)
 |c,[]=>some c
 |c,(i,v)::r=>
  match place i with
  |none=>none
  |some (off,size)=>cond (Nat.beq v.cells.toList.length size&&Nat.ble (off+v.cells.toList.length) c.length) (wC place (zi c off v.cells.toList) r) none
theorem oK{place:Nat→Option (Nat×Nat)}:∀(r:List (Nat×Value)) (c cs:List Value),wC place c r=some cs→Instr.fill place c.toArray r=some cs.toArray
 | [],c,cs,h=>by simp only[wC,Option.some.injEq]at h;subst h;rfl
 |(i,v)::r,c,cs,h=>by
  simp only[wC]at h
  simp only[Instr.fill]
  split at h
  ·simp at h
  ·rename_i off size hp
   cases hc:(Nat.beq v.cells.toList.length size&&Nat.ble (off+v.cells.toList.length) c.length)<;>simp only[hc,cond_true,cond_false,reduceCtorEq]at h
   simp only[Bool.and_eq_true]at hc
   have h1:=Nat.eq_of_beq_eq_true hc.1
   have h2:=Nat.le_of_ble_eq_true hc.2
   have h3:v.cells.toList.length=v.cells.size:=Array.length_toList
   have hsz:v.cells.size=size:=by rw[←h3];exact h1
   have hle:off+v.cells.size≤c.length:=by rw[←h3];exact h2
   simp only[hp]
   have Mj:(decide (v.cells.size≠size)||decide (off+v.cells.size>c.toArray.size))=false:=by
    rw[Bool.or_eq_false_iff];exact⟨by simp[hsz],by simp only[List.size_toArray,decide_eq_false_iff_not];omega⟩
   rw[Mj]
   simp only[Bool.false_eq_true,if_false]
   rw[Io,oD]
   exact oK r _ cs h
def py(P:Program):List Field→Option (List (Nat×Nat))
 | []=>some []
 |f::r=>match dg P f.type,py P r with
  |some n,some l=>some ((f.offset,n)::l)
  |_,_=>none
def MZ(P:Program)(t:TypeId)(parts:List (Nat×Value)):Option (List Value):=
 match P.underlying t,eW P t with
 |some (.struct fs),some z=>match py P fs.toList with
  |some pl=>wC (fun i=>pl[i]?) z.cells.toList parts
  |none=>none
 |_,_=>none
theorem rA:∀(fs:List Field) (pl:List (Nat×Nat)),py P fs=some pl→∀w,(fs.mapM fun f=>(do pure (f.offset,←sizeOf f.type):Sem (Nat×Nat))).run P w=.ok pl w
 | [],pl,h,w=>by simp only[py,Option.some.injEq]at h;subst h;rfl
 |f::r,pl,h,w=>by
  simp only[py]at h
  split at h
  ·rename_i n l hn hl
   simp only[Option.some.injEq]at h;subst h
   obtain⟨i,hi,hin⟩:=bC hn
   have ih:=rA r l hl w
   simp only[List.mapM_cons,Sem.run_bind,run_sizeOf hi,Result.andThen_ok,Sem.run_pure,hin,ih]
  ·simp at h
theorem Build.mk{t:TypeId}{parts:List (Nat×Value)}{cs:List Value}{k:Value→Prop}(hb:MZ P t parts=some cs)(h:k (.agg cs.toArray)):Build P t parts k:=by
 refine⟨_,fun w=>?_,h⟩
 unfold MZ at hb
 split at hb
 ·rename_i fs z hu hz
  split at hb
  ·rename_i pl tw
   obtain⟨i,hi,vc⟩:=cI hz
   have hf:=oK _ _ _ hb
   have hp:=rA fs.toList pl tw w
   simp only[Instr.build,Sem.run_bind,dQ hi vc,Result.andThen_ok,run_underlying hu]
   have e2:((fs.mapM fun f=>(do pure (f.offset,←sizeOf f.type):Sem (Nat×Nat))).run P w)=.ok pl.toArray w:=by
    rw[Array.mapM_eq_mapM_toList]
    simp only[Sem.run_map,hp,Result.andThen_ok]
   rw[e2]
   show Sem.run P _ w=_
   have e3:Instr.fill (fun x=>pl.toArray[x]?) z.cells parts=some cs.toArray:=by
    simpa using hf
   simp only[e3]
   rfl
  ·simp at hb
 ·simp at hb
theorem au.one{t e k:Nat}{z:Value}{r:List Value}{K:Value→Hp→Prop}(h1:P.underlying t=some (.slice e))(h2:dg P e=some k)(h3:eW P e=some z)(hk:0<k∧k≤16777216)(hr:r.length=k)
 (h:∀b,K (.slice (some ⟨b,0,none⟩) 1 1) ((b,.cells r.toArray e (0,0))::H)):au P t 1 [(0,.agg r.toArray)] H K:=by
 refine⟨r.toArray,e,k,z,h1,h2,h3,by omega,?_,fun b _=>h b⟩
 have:((Array.range (1*k)).map (z.cells[· %z.cells.size]!))=(((Array.range (1*k)).map (z.cells[· %z.cells.size]!)).toList).toArray:=by rw[Array.toArray_toList]
 rw[this]
 generalize hc:((Array.range (1*k)).map (z.cells[· %z.cells.size]!)).toList=c
 have hlen:c.length=k:=by rw[←hc];simp
 refine oK _ _ _ ?_
 simp only[wC,Value.cells]
 have hb:(Nat.beq r.toArray.toList.length k&&Nat.ble (0*k+r.toArray.toList.length) c.length)=true:=by simp[hr,hlen]
 rw[hb]
 simp only[cond_true,Option.some.injEq]
 have:=pB r c 0 (by omega)
 rw[oD]at this
 have h5:zi c 0 r=List.take 0 c++r++List.drop (0+r.length) c:=by simpa using congrArg Array.toList this
 simp only[Nat.zero_mul]
 rw[h5]
 simp[List.drop_eq_nil_of_le,hr,hlen]
end
end Go.Sx
namespace Go.Sx
open Go
section
variable {P:Program} {g:Gh} {H:Hp}
theorem jM.HF{β:Type}{kd:IntKind}{enc:β→Value}{v zero:Value}{f:Int→Option β}{C:Hp}{ok:Bool}{x:Int}{K:Value→Prop}{p:β}(h:jM kd enc v f C)(hC:∀y∈C,y∈H)(hf:f x=some p)
 (hk:K (cond ok (.tuple #[enc p,.bool true]) (enc p))):oS (.int kd) zero ok H v (.int kd x) K:=h.look hC (by rw[hf];exact hk)
theorem jM.HG{β:Type}{kd:IntKind}{enc:β→Value}{v zero:Value}{f:Int→Option β}{C:Hp}{ok:Bool}{x:Int}{K:Value→Prop}(h:jM kd enc v f C)(hC:∀y∈C,y∈H)(hf:f x=none)
 (hk:K (cond ok (.tuple #[zero,.bool false]) zero)):oS (.int kd) zero ok H v (.int kd x) K:=h.look hC (by rw[hf];exact hk)
theorem fc.upto{size n c h:Nat}{a:Option Addr}{kd:IntKind}{k:Value→Prop}(hh:h≤c)(hk:k (.slice a h c)):fc size (.slice a n c) none (some (.int kd (h:Int))) k:=by
 refine⟨a,n,c,0,h,rfl,rfl,rfl,by omega,by omega,by omega,?_⟩
 have:(if c=(0:Int).toNat then a else a.map (·.add ((0:Int).toNat*size)))=a:=by
  split
  ·rfl
  ·simp only[Int.toNat_zero,Nat.zero_mul]
   cases a with
   |none=>rfl
   |some x=>simp[Addr.add_zero']
 rw[this]
 simpa using hk
end
end Go.Sx
namespace Go.Sx
open Go
section
variable {P:Program} {g:Gh} {H:Hp}
inductive cc(C:Hp):Hp→(Hp→Hp)→Prop
 |here:cc C C (fun X=>X)
 |left {A:Hp}:cc C (C++A) (fun X=>X++A)
 |cons {x:Nat×Obj} {H:Hp} {c:Hp→Hp} (h:cc C H c):cc C (x::H) (fun X=>x::c X)
 |app {A H:Hp} {c:Hp→Hp} (h:cc C H c):cc C (A++H) (fun X=>A++c X)
theorem cc.spec{C H:Hp}{c:Hp→Hp}(h:cc C H c):H=c C∧∃F,∀X,(c X).Perm (X++F):=by
 induction h with
 |here=>exact⟨rfl,[],fun X=>by simp⟩
 | @left A=>exact⟨rfl,A,fun X=>.refl _⟩
 | @cons x H c h ih=>
  obtain⟨h1,F,h2⟩:=ih
  exact⟨by rw[h1],x::F,fun X=>(List.Perm.cons x (h2 X)).trans List.perm_middle.symm⟩
 | @app A H c h ih=>
  obtain⟨h1,F,h2⟩:=ih
  refine⟨by rw[h1],A++F,fun X=>(List.Perm.append_left A (h2 X)).trans ?_⟩
  rw[←List.append_assoc,←List.append_assoc];exact List.perm_append_comm.append_right F
theorem cc.jK{C H:Hp}{c:Hp→Hp}(h:cc C H c){X Y:Hp}(e:aU X Y):aU (c X) (c Y):=by
 obtain⟨_,F,hp⟩:=h.spec
 exact(aU.perm (hp X)).trans ((e.frame F).trans (.perm (hp Y).symm))
theorem aU.cons{x:Nat×Obj}{A B:Hp}(h:aU A B):aU (x::A) (x::B):=aU.c8 h [x]
theorem aU.skip{x:Nat×Obj}{A B:Hp}(h:aU A B):aU (x::A) B:=aU.tail.trans h
theorem aU.ry{X A B:Hp}(h:aU A B):aU (X++A) B:=aU.right.trans h
theorem aU.assoc{A B C:Hp}:aU ((A++B)++C) (A++(B++C)):=fun _ _ h=>by rw[←List.append_assoc];exact h
theorem ai.frame{f:FuncId}{args:Array Value}{C F:Hp}{R:Ending→Hp→Prop}(h:∀g,ai P g f args C R):ai P g f args (C++F) (fun e H'=>∃C',H'=C'++F∧R e C'):=by
 intro w hw
 exact((h (g.add F)) w (Own.eZ.1 hw)).mono fun e w' ⟨H',ho,hr⟩=>⟨_,Own.eZ.2 ho,H',rfl,hr⟩
theorem ai.hole{f:FuncId}{args:Array Value}{C H:Hp}{c:Hp→Hp}{R:Ending→Hp→Prop}(hh:cc C H c)(h:∀g,ai P g f args C R):ai P g f args H (fun e H'=>∃C',H'=c C'∧R e C'):=by
 obtain⟨rfl,F,hp⟩:=hh.spec
 exact((ai.frame (F:=F) h).pre (.perm (hp C))).post fun e H' ⟨C',h1,h2⟩=>⟨c C',by rw[h1];exact .perm (hp C').symm,C',rfl,h2⟩
def Fc(P:Program)(f:FuncId)(args:Array Value)(C:Hp)(Q:Value→Hp→Prop):Prop:=
 ∀g,ai P g f args C (fun e H'=>∃v lS,e=.returned v∧aU H' lS∧Q v lS)
def aB(Q:Value→Hp→Prop):Ending→Hp→Prop:=fun e H'=>∃v lS,e=.returned v∧aU H' lS∧Q v lS
theorem aB.mk{Q:Value→Hp→Prop}{v:Value}{H lS:Hp}(he:aU H lS)(h:Q v lS):aB Q (.returned v) H:=⟨v,lS,rfl,he,h⟩
theorem aB.here{Q:Value→Hp→Prop}{v:Value}{H:Hp}(h:Q v H):aB Q (.returned v) H:=⟨v,H,rfl,.refl _,h⟩
theorem Fc.mono{f:FuncId}{args:Array Value}{C:Hp}{Q Q':Value→Hp→Prop}(h:Fc P f args C Q)(hq:∀v H,Q v H→Q' v H):Fc P f args C Q':=
 fun g=>(h g).mono fun e H' ⟨v,lS,h1,h2,h3⟩=>⟨v,lS,h1,h2,hq _ _ h3⟩
def Rd(P:Program)(f:FuncId)(args:Array Value)(B:Hp)(Q:Value→Prop):Prop:=Fc P f args B (fun v H=>H=B∧Q v)
theorem ag.fn{f:FuncId}{args:Array Value}{C H:Hp}{c:Hp→Hp}{Q:Value→Hp→Prop}{K:Value→Hp→Prop}{KP:List PanicEntry→Hp→Prop}(hh:cc C H c)(hc:Fc P f args C Q)
 (hk:∀v C',Q v C'→K v (c C')):ag P g f args H K KP:=
 (ai.hole hh hc).post fun e H' ⟨C',h1,v,C'',h2,h3,h4⟩=>⟨c C'',by rw[h1];exact hh.jK h3,by subst h2;exact hk _ _ h4⟩
theorem ag.rd{f:FuncId}{args:Array Value}{B H:Hp}{c:Hp→Hp}{Q:Value→Prop}{K:Value→Hp→Prop}{KP:List PanicEntry→Hp→Prop}(hh:cc B H c)(hc:Rd P f args B Q)
 (hk:∀v,Q v→K v H):ag P g f args H K KP:=
 ag.fn hh hc fun v C' ⟨h1,h2⟩=>by subst h1;rw[←hh.spec.1];exact hk v h2
theorem cC.of{fv:Value}{args:Array Value}{K:Value→Hp→Prop}{KP:List PanicEntry→Hp→Prop}{f:FuncId}{first captured:Array Value}(hf:fv=.func (.func f) first captured)(hc:bA P f=true)
 (h:ag P g f (first++args++captured) H K KP):cC P g fv args H K KP:=⟨f,first,captured,hf,hc,h⟩
theorem DR.self{body:Hp→Prop}(h:body H):DR H body:=⟨H,.refl _,h⟩
theorem DR.of{R:Hp}{body:Hp→Prop}(e:aU H R)(h:body R):DR H body:=⟨R,e,h⟩
def At(B:Hp)(p:Value)(r:List Value):Prop:=∃b o c T fz,p=.pointer (some ⟨b,o,none⟩)∧(b,Obj.cells c T fz)∈B∧∀j v,r[j]? =some v→c[o+j]? =some v
theorem At.block{b:Nat}{l:List Value}{T:TypeId}{fz:Nat×Nat}{B:Hp}(h:(b,Obj.cells l.toArray T fz)∈B):At B (.pointer (some ⟨b,0,none⟩)) l:=
 ⟨b,0,_,T,fz,rfl,h,fun j v hj=>by simpa using hj⟩
theorem Ld.at{p v:Value}{r:List Value}{B:Hp}{k:Value→Prop}(h:At B p (v::r))(hs:∀x∈B,x∈H)(hk:k v):Ld H p k:=by
 obtain⟨b,o,c,T,fz,h1,h2,h3⟩:=h
 exact⟨b,o,c,T,fz,v,h1,hs _ h2,by simpa using h3 0 v rfl,hk⟩
theorem aa.at{p:Value}{r:List Value}{B:Hp}{j:Nat}{k:Value→Prop}(h:At B p r)(hk:∀q,At B q (r.drop j)→k q):aa j p k:=by
 obtain⟨b,o,c,T,fz,h1,h2,h3⟩:=h
 refine⟨b,o,h1,hk _ ⟨b,o+j,c,T,fz,rfl,h2,fun i v hi=>?_⟩⟩
 rw[List.getElem?_drop]at hi
 rw[Nat.add_assoc];exact h3 _ _ hi
theorem aD.at{p:Value}{r:List Value}{B:Hp}{n:Nat}{k:Value→Prop}(h:At B p r)(hn:r.length=n)(hp:0<n)(hs:∀x∈B,x∈H)(hk:k (.agg r.toArray)):aD n H p k:=by
 obtain⟨b,o,c,T,fz,h1,h2,h3⟩:=h
 have hsz:o+n≤c.size:=by
  have:=h3 (n-1) (r[n-1]'(by omega)) (List.getElem?_eq_getElem _)
  have:=(Array.getElem?_eq_some_iff.1 this).1
  omega
 refine⟨b,o,c,T,fz,h1,hs _ h2,hsz,?_⟩
 have:c.extract o (o+n)=r.toArray:=by
  apply Array.ext
  ·simp;omega
  ·intro i WU zR
   simp only[List.size_toArray]at zR
   have:=h3 i r[i] (List.getElem?_eq_getElem _)
   rw[Array.getElem_extract]
   have:=(Array.getElem?_eq_some_iff.1 this).2
   simpa using this
 rw[this];exact hk
def Sl(k:Nat)(B:Hp)(v:Value)(rs:List (List Value)):Prop:=
 (∀r∈rs,r.length=k)∧
 ((∃a cap,v=.slice a 0 cap∧rs=[])∨∃b o cap c T fz,v=.slice (some ⟨b,o,none⟩) rs.length cap∧rs.length≤cap∧(b,Obj.cells c T fz)∈B∧o+rs.length*k≤c.size∧∀i r,rs[i]? =some r→∀j v,r[j]? =some v→c[o+i*k+j]? =some v)
theorem Sl.mono{k:Nat}{B B':Hp}{v:Value}{rs:List (List Value)}(h:Sl k B v rs)(hs:∀x∈B,x∈B'):Sl k B' v rs:=by
 obtain⟨h0,h⟩:=h
 refine⟨h0,?_⟩
 rcases h with h|⟨b,o,cap,c,T,fz,h1,h2,h3,h4⟩
 ·exact .inl h
 ·exact .inr ⟨b,o,cap,c,T,fz,h1,h2,hs _ h3,h4⟩
theorem Sl.nil(k:Nat)(B:Hp):Sl k B (.slice none 0 0) []:=⟨by simp,.inl ⟨_,_,rfl,rfl⟩⟩
theorem Sl.shape{k:Nat}{B:Hp}{v:Value}{rs:List (List Value)}(h:Sl k B v rs):∃a cap,v=.slice a rs.length cap∧rs.length≤cap:=by
 rcases h.2 with⟨a,cap,rfl,rfl⟩|⟨b,o,cap,c,T,fz,h1,h2,_⟩
 ·exact⟨_,_,rfl,Nat.zero_le _⟩
 ·exact⟨_,_,h1,h2⟩
theorem Sl.bQ{k:Nat}{B:Hp}{v:Value}{rs:List (List Value)}(h:Sl k B v rs){K:Value→Prop}(hk:K (.int .i64 rs.length)):aO v K:=by
 obtain⟨a,c,rfl,_⟩:=h.shape;exact aO.mk hk
theorem ah.sl{k:Nat}{B:Hp}{v:Value}{rs:List (List Value)}{kd:IntKind}{i:Nat}{r:List Value}{K:Value→Prop}(h:Sl k B v rs)(hi:rs[i]? =some r)(hk:∀p,At B p r→K p):ah k v (.int kd (i:Int)) K:=by
 have hlt:=(List.getElem?_eq_some_iff.1 hi).1
 rcases h.2 with⟨a,cap,rfl,rfl⟩|⟨b,o,cap,c,T,fz,h1,h2,h3,h4,h5⟩
 ·simp at hlt
 ·subst h1
  refine ah.nat (by omega) (hk _ ⟨b,_,c,T,fz,rfl,h3,fun j v hj=>h5 i r hi j v hj⟩)
theorem Sl.cells{k:Nat}{B:Hp}{v:Value}{rs:List (List Value)}(h:Sl k B v rs):∃a cap,v=.slice a rs.length cap∧Cells B a (rs.length*k) (rows rs):=by
 rcases h.2 with⟨a,cap,rfl,rfl⟩|⟨b,o,cap,c,T,fz,h1,h2,h3,h4,h5⟩
 ·refine⟨a,cap,rfl,?_⟩
  cases a with
  |none=>simp[Cells,rows]
  |some a=>exact .inl ⟨by simp,rfl⟩
 ·refine⟨_,cap,h1,.inr ⟨rfl,c,T,fz,h3,h4,?_⟩⟩
  apply Array.ext
  ·rw[bJ h.1];simp;omega
  ·intro i WU zR
   rw[bJ h.1]at WU
   have hk:0<k:=Nat.pos_of_ne_zero fun e=>by simp[e]at WU
   have hd:i/k<rs.length:=Nat.div_lt_of_lt_mul (by rw[Nat.mul_comm];exact WU)
   have hm:i%k<k:=Nat.mod_lt _ hk
   have he:i/k*k+i%k=i:=by rw[Nat.mul_comm];exact Nat.div_add_mod i k
   have hr:=h.1 rs[i/k] (List.getElem_mem hd)
   have g1:=gN h.1 (i:=i/k) hm
   rw[he,List.getElem?_eq_getElem hd,Option.bind_some,List.getElem?_eq_getElem (by omega)]at g1
   have g2:=h5 (i/k) _ (List.getElem?_eq_getElem hd) (i%k) _ (List.getElem?_eq_getElem (by omega))
   rw[Nat.add_assoc,he]at g2
   have e1:=(Array.getElem?_eq_some_iff.1 g1).2
   have e2:=(Array.getElem?_eq_some_iff.1 g2).2
   rw[Array.getElem_extract]
   exact e1.trans e2.symm
theorem Sl.mg{T:TypeId}{k:Nat}{v:Value}{rs:List (List Value)}{C:Hp}(h:aS T k v rs C)(hk:0<k):Sl k C v rs:=by
 rcases h with⟨rfl,rfl,rfl⟩|⟨b,aM,rfl,rfl,aJ⟩
 ·exact Sl.nil _ _
 ·refine⟨fun r hr=>aJ r (by simp[hr]),.inr ⟨b,0,_,rows (rs++aM),T,(0,0),rfl,by omega,by simp,?_,fun i r hi j v hj=>?_⟩⟩
  ·rw[bJ aJ,List.length_append,Nat.zero_add];exact Nat.mul_le_mul_right _ (by omega)
  ·have hlt:=(List.getElem?_eq_some_iff.1 hi).1
   have hr:=aJ r (List.mem_append_left _ (List.mem_of_getElem? hi))
   have Pt:j<k:=by rw[←hr];exact(List.getElem?_eq_some_iff.1 hj).1
   rw[Nat.zero_add,gN aJ Pt,List.getElem?_append_left hlt,hi];exact hj
end
end Go.Sx
namespace Go.Sx
open Go
def aE:IntKind→Nat
 | .i8=>128| .i16=>32768| .i32=>2147483648| .i64=>9223372036854775808
 | .u8=>256| .u16=>65536| .u32=>4294967296| .u64=>18446744073709551616
theorem fi{kd:IntKind}{n:Nat}(h:n<aE kd):kd.wrap (n:Int)=n:=by
 cases kd<;>simp only[aE]at h<;>simp only[IntKind.wrap,IntKind.bits,IntKind.signed,Bool.false_and,Bool.true_and,Bool.false_eq_true,if_false,decide_eq_true_eq]
 all_goals first
  |omega
  |(rw[if_neg (by simp;omega)];omega)
theorem wrap_u64(n:Int):IntKind.u64.wrap n=n%18446744073709551616:=by simp[IntKind.wrap,IntKind.bits,IntKind.signed]
theorem Lr(kd:IntKind):aE kd≤2^kd.bits:=by cases kd<;>decide
def oP(a b:Nat):Nat:=a^^^(a&&&b)
theorem dJ(a b j:Nat):(oP a b).testBit j=(a.testBit j&& !b.testBit j):=by
 unfold oP;rw[Nat.testBit_xor,Nat.testBit_and];cases a.testBit j<;>cases b.testBit j<;>rfl
theorem p5(a b:Nat):oP a b≤a:=by
 have:oP a b=a&&&oP a b:=by
  apply Nat.eq_of_testBit_eq;intro j
  rw[Nat.testBit_and,dJ];cases a.testBit j<;>simp
 rw[this];exact Nat.and_le_left
theorem bits_nat{kd:IntKind}{a b:Nat}(ha:a<aE kd)(hb:b<aE kd):
  bits .and kd a b=((a&&&b:Nat):Int)∧bits .or kd a b=((a|||b:Nat):Int)∧bits .xor kd a b=((a^^^b:Nat):Int)∧bits .andNot kd a b=((oP a b:Nat):Int):=by
 have hl:=Lr kd
 have h1:(BitVec.ofInt kd.bits (a:Int)).toNat=a:=by rw[BitVec.ofInt_natCast,BitVec.toNat_ofNat,Nat.mod_eq_of_lt (by omega)]
 have h2:(BitVec.ofInt kd.bits (b:Int)).toNat=b:=by rw[BitVec.ofInt_natCast,BitVec.toNat_ofNat,Nat.mod_eq_of_lt (by omega)]
 obtain⟨n,hn⟩:∃n,aE kd=2^n:=by cases kd<;>first|exact⟨7,rfl⟩|exact⟨15,rfl⟩|exact⟨31,rfl⟩|exact⟨63,rfl⟩|exact⟨8,rfl⟩|exact⟨16,rfl⟩|exact⟨32,rfl⟩|exact⟨64,rfl⟩
 rw[hn]at ha hb
 refine⟨?_,?_,?_,?_⟩
 ·simp only[bits,BitVec.toNat_and,h1,h2]
  exact fi (by rw[hn];exact Nat.lt_of_le_of_lt Nat.and_le_left ha)
 ·simp only[bits,BitVec.toNat_or,h1,h2]
  exact fi (by rw[hn];exact Nat.or_lt_two_pow ha hb)
 ·simp only[bits,BitVec.toNat_xor,h1,h2]
  exact fi (by rw[hn];exact Nat.xor_lt_two_pow ha hb)
 ·simp only[bits]
  have:(BitVec.ofInt kd.bits (a:Int) &&& ~~~BitVec.ofInt kd.bits (b:Int)).toNat=oP a b:=by
   apply Nat.eq_of_testBit_eq;intro j
   rw[dJ,←BitVec.getLsbD,BitVec.getLsbD_and,BitVec.getLsbD_not,BitVec.getLsbD,BitVec.getLsbD,h1,h2]
   by_cases hj:j<kd.bits
   ·simp[hj]
   ·have:a.testBit j=false:=Nat.testBit_lt_two_pow (Nat.lt_of_lt_of_le ha (by rw[←hn];exact Nat.le_trans hl (Nat.pow_le_pow_right (by decide) (by omega))))
    simp[this]
  rw[this]
  exact fi (by rw[hn];exact Nat.lt_of_le_of_lt (p5 a b) ha)
section
variable {kd xO:IntKind} {a b:Nat} {k:Value→Prop}
theorem ae.p6(ha:a<aE kd)(hb:b<aE kd)(h:k (.int kd ((a&&&b:Nat):Int))):ae .num .and (.int kd a) (.int kd b) k:=⟨_,by simp[fJ,kf,(bits_nat ha hb).1],h⟩
theorem ae.U3(ha:a<aE kd)(hb:b<aE kd)(h:k (.int kd ((a|||b:Nat):Int))):ae .num .or (.int kd a) (.int kd b) k:=⟨_,by simp[fJ,kf,(bits_nat ha hb).2.1],h⟩
theorem ae.RM(ha:a<aE kd)(hb:b<aE kd)(h:k (.int kd ((a^^^b:Nat):Int))):ae .num .xor (.int kd a) (.int kd b) k:=⟨_,by simp[fJ,kf,(bits_nat ha hb).2.2.1],h⟩
theorem ae.Nm(ha:a<aE kd)(hb:b<aE kd)(h:k (.int kd ((oP a b:Nat):Int))):ae .num .andNot (.int kd a) (.int kd b) k:=⟨_,by simp[fJ,kf,(bits_nat ha hb).2.2.2],h⟩
theorem ae.qw(ha:a<aE kd)(h:k (.int kd ((a>>>b:Nat):Int))):ae .num .shr (.int kd a) (.int xO b) k:=by
 refine⟨_,?_,h⟩
 have h0:¬((b:Int)<0):=by omega
 simp only[fJ,h0,if_false,Option.some.injEq,Value.int.injEq,true_and,Int.toNat_natCast]
 rw[Int.fdiv_eq_ediv_of_nonneg _ (Int.le_of_lt (Int.pow_pos (by decide))),Nat.shiftRight_eq_div_pow]
 have hl:=Lr kd
 by_cases hb:b≤kd.bits
 ·rw[Nat.min_eq_left hb];push_cast;rfl
 ·rw[Nat.min_eq_right (by omega)]
  have h1:a/2^kd.bits=0:=Nat.div_eq_of_lt (by omega)
  have h2:a/2^b=0:=Nat.div_eq_of_lt (Nat.lt_of_lt_of_le (by omega) (Nat.pow_le_pow_right (by decide) (by omega:kd.bits≤b)))
  have:(a:Int) / (2^kd.bits:Int)=((a/2^kd.bits:Nat):Int):=by push_cast;rfl
  rw[this,h1,h2]
theorem ae.Bq(hb:b≤kd.bits)(hr:a<<<b<aE kd)(h:k (.int kd ((a<<<b:Nat):Int))):ae .num .shl (.int kd a) (.int xO b) k:=by
 refine⟨_,?_,h⟩
 have h0:¬((b:Int)<0):=by omega
 simp only[fJ,h0,if_false,Option.some.injEq,Value.int.injEq,true_and,Int.toNat_natCast,Nat.min_eq_left hb]
 rw[←fi hr,Nat.shiftLeft_eq];push_cast;rfl
theorem ae.Bp(h:k (.int .u64 (((a<<<b)%18446744073709551616:Nat):Int))):ae .num .shl (.int .u64 a) (.int xO b) k:=by
 refine⟨_,?_,h⟩
 have h0:¬((b:Int)<0):=by omega
 simp only[fJ,h0,if_false,Option.some.injEq,Value.int.injEq,true_and,Int.toNat_natCast,IntKind.bits,wrap_u64]
 rw[Nat.shiftLeft_eq]
 by_cases hb:b≤64
 ·rw[Nat.min_eq_left hb,Int.natCast_emod,Int.natCast_mul,Int.natCast_pow];rfl
 ·rw[Nat.min_eq_right (by omega)]
  have h1:(a*2^b)%18446744073709551616=0:=by
   have:2^b=18446744073709551616*2^(b-64):=by rw[show(18446744073709551616:Nat)=2^64 by rfl,←Nat.pow_add];congr 1;omega
   rw[this,Nat.mul_left_comm];exact Nat.mul_mod_right _ _
  rw[h1]
  exact Int.mul_emod_left _ _
theorem ae.aN(hr:a+b<aE kd)(h:k (.int kd ((a+b:Nat):Int))):ae .num .add (.int kd a) (.int kd b) k:=by
 refine ae.add ?_
 have:((a:Int)+(b:Int))=((a+b:Nat):Int):=by push_cast;rfl
 rw[this,fi hr];exact h
theorem ae.bF(ha:a<aE kd)(hb:b≤a)(h:k (.int kd ((a-b:Nat):Int))):ae .num .sub (.int kd a) (.int kd b) k:=by
 refine ae.sub ?_
 have:((a:Int) -(b:Int))=((a-b:Nat):Int):=by omega
 rw[this,fi (by omega)];exact h
theorem ae.rZ(hr:a*b<aE kd)(h:k (.int kd ((a*b:Nat):Int))):ae .num .mul (.int kd a) (.int kd b) k:=by
 refine ae.mul ?_
 have:((a:Int)*(b:Int))=((a*b:Nat):Int):=by push_cast;rfl
 rw[this,fi hr];exact h
theorem ae.B0(ha:a<aE kd)(hb:b≠0)(h:k (.int kd ((a/b:Nat):Int))):ae .num .quo (.int kd a) (.int kd b) k:=by
 refine⟨_,?_,h⟩
 have h0:¬((b:Int)=0):=by omega
 simp only[fJ,kf,if_true,h0,if_false]
 have:(a:Int).tdiv b=((a/b:Nat):Int):=by rw[Int.tdiv_eq_ediv_of_nonneg (by omega)];push_cast;rfl
 rw[this,fi (Nat.lt_of_le_of_lt (Nat.div_le_self _ _) ha)]
theorem ae.jR{x y:Int}(h:k (.bool (decide (x=y)))):ae .num .eql (.int kd x) (.int kd y) k:=ae.eql (by rw[show(x==y)=decide (x=y)from by cases hb:decide (x=y)<;>simp_all];exact h)
theorem ae.dh{x y:Int}(h:k (.bool (decide (x≠y)))):ae .num .neq (.int kd x) (.int kd y) k:=ae.neq (by rw[show(x !=y)=decide (x≠y)from by cases hb:decide (x=y)<;>simp_all];exact h)
theorem ae.gn(h:k (.bool (decide (a=b)))):ae .num .eql (.int kd a) (.int kd b) k:=ae.jR (by simpa[Int.natCast_inj]using h)
theorem ae.yB(h:k (.bool (decide (a≠b)))):ae .num .neq (.int kd a) (.int kd b) k:=ae.dh (by simpa[Int.natCast_inj]using h)
theorem ae.fu(h:k (.bool (decide (a<b)))):ae .num .lss (.int kd a) (.int kd b) k:=ae.lss (by simpa[Int.ofNat_lt]using h)
theorem ae.AU(h:k (.bool (decide (a≤b)))):ae .num .leq (.int kd a) (.int kd b) k:=ae.leq (by simpa[Int.ofNat_le]using h)
theorem ae.lP(h:k (.bool (decide (b<a)))):ae .num .gtr (.int kd a) (.int kd b) k:=ae.gtr (by simpa[Int.ofNat_lt]using h)
theorem ae.rG(h:k (.bool (decide (b≤a)))):ae .num .geq (.int kd a) (.int kd b) k:=ae.geq (by simpa[Int.ofNat_le]using h)
theorem aY.nat(ha:a<aE kd)(h:k (.int kd (a:Int))):aY kd (.int xO a) k:=aY.of (fi ha) h
theorem aY.adm(h:k (.int .u8 ((a%256:Nat):Int))):aY .u8 (.int xO a) k:=aY.of (by simp[IntKind.wrap,IntKind.bits,IntKind.signed]) h
theorem Un.aaN(ha:a<18446744073709551616)(h:k (.int .u64 (((18446744073709551616-a)%18446744073709551616:Nat):Int))):Un .neg (.int .u64 a) k:=by
 refine⟨_,?_,h⟩
 simp only[YU,wrap_u64,Option.some.injEq,Value.int.injEq,true_and];omega
theorem Un.GN(ha:a<18446744073709551616)(h:k (.int .u64 ((18446744073709551615-a:Nat):Int))):Un .xor (.int .u64 a) k:=by
 refine⟨_,?_,h⟩
 have e:(if IntKind.u64.signed=true then(-1:Int)else IntKind.u64.max)=((18446744073709551615:Nat):Int):=by decide
 simp only[YU,e,(bits_nat (kd:=.u64) (a:=18446744073709551615) (b:=a) (by decide) ha).2.2.1,Option.some.injEq,Value.int.injEq,true_and]
 congr 1
 have:18446744073709551615^^^a=18446744073709551615-a:=by
  have xX:a<2^64:=ha
  rw[show(18446744073709551615:Nat)=2^64-1 by rfl]
  apply Nat.eq_of_testBit_eq;intro j
  rw[Nat.testBit_xor,show 2^64-1-a=2^64-(a+1)by omega,Nat.testBit_two_pow_sub_succ xX,Nat.testBit_two_pow_sub_one]
  by_cases hj:j<64
  ·simp[hj]
  ·simp[hj];exact Nat.testBit_lt_two_pow (Nat.lt_of_lt_of_le xX (Nat.pow_le_pow_right (by decide) (by omega)))
 exact this
end
theorem Br.dec{p:Prop}[Decidable p]{t f:Prop}(h1:p→t)(h2:¬p→f):Br (.bool (decide p)) t f:=⟨_,rfl,fun h=>h1 (by simpa using h),fun h=>h2 (by simpa using h)⟩
theorem Br.eU{p:Prop}[Decidable p]{t f:Prop}(hp:p)(h1:t):Br (.bool (decide p)) t f:=Br.dec (fun _=>h1) fun h=>absurd hp h
theorem Br.bt{p:Prop}[Decidable p]{t f:Prop}(hp:¬p)(h1:f):Br (.bool (decide p)) t f:=Br.dec (fun h=>absurd h hp) fun _=>h1
end Go.Sx
namespace aG
open Go.Sx
def wN(n:Nat):Nat:=max 1 (2^n/64)
def dw(n:Nat):Nat:=if 6≤n then 18446744073709551615 else 2^2^n-1
structure fA(n:Nat)(ws:List Nat):Prop where
 yC:n≤16
 len:ws.length=wN n
 full:∀w∈ws,w≤dw n
instance (n:Nat)(ws:List Nat):Decidable (fA n ws):=decidable_of_iff (n≤16∧ws.length=wN n∧∀w∈ws,w≤dw n) ⟨fun⟨a,b,c⟩=>⟨a,b,c⟩,fun⟨a,b,c⟩=>⟨a,b,c⟩⟩
def bit(ws:List Nat)(x:Nat):Bool:=(ws.getD (x/64) 0).testBit (x%64)
def aI(x v:Nat)(b:Bool):Nat:=if b then x|||2^v else oP x (2^v)
theorem RN(n:Nat):0<wN n:=Nat.le_max_left _ _
theorem Fj{n:Nat}(h:6≤n):wN n=2^(n-6):=by
 unfold wN
 have:2^n/64=2^(n-6):=by
  rw[show(64:Nat)=2^6 by rfl,Nat.pow_div h (by decide)]
 rw[this];exact Nat.max_eq_right (Nat.two_pow_pos _)
theorem Fi{n:Nat}(h:n<7):wN n=1:=by
 have:n=0∨n=1∨n=2∨n=3∨n=4∨n=5∨n=6:=by omega
 rcases this with rfl|rfl|rfl|rfl|rfl|rfl|rfl<;>rfl
theorem sP{n:Nat}(h:n≤16):wN n≤1024:=by
 by_cases h6:6≤n
 ·rw[Fj h6];exact Nat.pow_le_pow_right (by decide) (by omega:n-6≤10)
 ·rw[Fi (by omega)];decide
theorem pR(n:Nat):dw n<18446744073709551616:=by
 unfold dw
 split
 ·decide
 ·have h1:2^n≤32:=Nat.pow_le_pow_right (n:=2) (by decide) (by omega:n≤5)
  have h2:2^2^n≤2^32:=Nat.pow_le_pow_right (by decide) h1
  omega
theorem fA.lt{n:Nat}{ws:List Nat}(h:fA n ws){w:Nat}(hw:w∈ws):w<18446744073709551616:=Nat.lt_of_le_of_lt (h.full w hw) (pR n)
theorem tY{n w:Nat}(h:w≤dw n):w&&&dw n=w:=by
 unfold dw at*
 split at h
 ·rename_i h6
  rw[if_pos h6,show(18446744073709551615:Nat)=2^64-1 by rfl,Nat.and_two_pow_sub_one_eq_mod,Nat.mod_eq_of_lt (by omega)]
 ·rename_i h6
  rw[if_neg h6,Nat.and_two_pow_sub_one_eq_mod,Nat.mod_eq_of_lt]
  have:=Nat.two_pow_pos (2^n);omega
theorem kL(n j:Nat):(dw n).testBit j=decide (j<if 6≤n then 64 else 2^n):=by
 unfold dw
 split
 ·rw[show(18446744073709551615:Nat)=2^64-1 by rfl,Nat.testBit_two_pow_sub_one]
 ·rw[Nat.testBit_two_pow_sub_one]
theorem zq{n x:Nat}(h:x<2^n):x/64<wN n:=by
 by_cases h6:6≤n
 ·rw[Fj h6]
  refine Nat.div_lt_of_lt_mul ?_
  rw[show(64:Nat)=2^6 by rfl,←Nat.pow_add]
  rwa [show 6+(n-6)=n by omega]
 ·have h1:2^n≤32:=Nat.pow_le_pow_right (n:=2) (by decide) (by omega:n≤5)
  rw[Fi (by omega)];omega
theorem fA.ext{n:Nat}{a b:List Nat}(ha:fA n a)(hb:fA n b)(h:∀x,x<2^n→bit a x=bit b x):a=b:=by
 apply List.ext_getElem (by rw[ha.len,hb.len])
 intro i h1 h2
 apply Nat.eq_of_testBit_eq
 intro j
 have hfa:=tY (ha.full _ (List.getElem_mem h1))
 have W5:=tY (hb.full _ (List.getElem_mem h2))
 by_cases hj:j<(if 6≤n then 64 else 2^n)
 ·have ahD:j<64:=by
   split at hj
   ·exact hj
   ·have h1:2^n≤32:=Nat.pow_le_pow_right (n:=2) (by decide) (by omega:n≤5)
    omega
  have hx:64*i+j<2^n:=by
   by_cases h6:6≤n
   ·have hi:i<2^(n-6):=by rw[←Fj h6,←ha.len];exact h1
    have:2^n=64*2^(n-6):=by rw[show(64:Nat)=2^6 by rfl,←Nat.pow_add];congr 1;omega
    omega
   ·have hi:i<1:=by rw[←Fi (show n<7 by omega),←ha.len];exact h1
    rw[if_neg h6]at hj;omega
  have:=h _ hx
  unfold bit at this
  rw[show(64*i+j) /64=i by omega,show(64*i+j)%64=j by omega]at this
  simpa[h1,h2]using this
 ·have hd:(dw n).testBit j=false:=by rw[kL];simpa using hj
  rw[←hfa,←W5,Nat.testBit_and,Nat.testBit_and,hd];simp
def yc(v:Nat):Nat→Nat
 |0=>0
 |j+1=>yc v j|||(((j>>>v) &&&1)<<<j)
def mask(v:Nat):Nat:=yc v 64
theorem gD(m:Nat):m&&&1=if m.testBit 0 then 1 else 0:=by
 rw[Nat.and_one_is_mod,Nat.testBit_zero]
 rcases Nat.mod_two_eq_zero_or_one m with h|h<;>simp[h]
theorem pg(v:Nat):∀J k,(yc v J).testBit k=(decide (k<J) &&k.testBit v)
 |0,k=>by simp[yc]
 |J+1,k=>by
  rw[yc,Nat.testBit_or,pg v J k,gD,Nat.testBit_shiftRight,Nat.add_zero]
  by_cases e:k=J
  ·subst e
   cases hb:k.testBit v<;>simp[Nat.testBit_shiftLeft]
  ·have:((if(J.testBit v)=true then 1 else 0)<<<J).testBit k=false:=by
    rw[Nat.testBit_shiftLeft]
    split
    ·by_cases hk:J≤k
     ·have h1:Nat.testBit 1 (k-J)=false:=Nat.testBit_lt_two_pow (Nat.one_lt_two_pow (by omega))
      simp[hk,h1]
     ·simp[hk]
    ·simp
   rw[this]
   have:(decide (k<J+1))=decide (k<J):=by simp;omega
   rw[this];simp
theorem yb(v:Nat):∀J,yc v J<2^J
 |0=>by simp[yc]
 |J+1=>by
  have h1:=yb v J
  have h2:((J>>>v) &&&1)<<<J<2^(J+1):=by
   rw[gD,Nat.shiftLeft_eq]
   split
   ·rw[Nat.one_mul];exact Nat.pow_lt_pow_right (by decide) (by omega)
   ·rw[Nat.zero_mul];exact Nat.two_pow_pos _
  exact Nat.or_lt_two_pow (Nat.lt_of_lt_of_le h1 (Nat.pow_le_pow_right (by decide) (by omega))) h2
theorem fN(v k:Nat):(mask v).testBit k=(decide (k<64) &&k.testBit v):=pg v 64 k
theorem js(v:Nat):mask v<18446744073709551616:=yb v 64
def pQ(ws:List Nat)(v:Nat)(b:Bool)(i:Nat):Nat:=
 if 6≤v then ws.getD (aI i (v-6) b) 0
 else if b then(ws.getD i 0&&&mask v)|||(ws.getD i 0&&&mask v)>>>2^v
 else oP (ws.getD i 0) (mask v)|||(oP (ws.getD i 0) (mask v)<<<2^v)%18446744073709551616
def kz(n:Nat)(ws:List Nat)(v:Nat)(b:Bool):List Nat:=(List.range (wN n)).map fun i=>pQ ws v b i&&&dw n
theorem jx{n v:Nat}{ws:List Nat}{b:Bool}(h:n≤16):fA n (kz n ws v b):=by
 refine⟨h,by simp[kz],fun w hw=>?_⟩
 obtain⟨i,_,rfl⟩:=List.mem_map.1 hw
 exact Nat.and_le_right
theorem ay(x v:Nat)(b:Bool)(k:Nat):(aI x v b).testBit k=if k=v then b else x.testBit k:=by
 unfold aI
 cases b<;>simp only[if_true,Bool.false_eq_true,if_false]
 ·rw[dJ,Nat.testBit_two_pow]
  by_cases e:k=v
  ·simp[e]
  ·simp[e,Ne.symm e]
 ·rw[Nat.testBit_or,Nat.testBit_two_pow]
  by_cases e:k=v
  ·simp[e]
  ·simp[e,Ne.symm e]
theorem OL{x v n:Nat}{b:Bool}(hx:x<2^n)(hv:v<n):aI x v b<2^n:=by
 unfold aI
 split
 ·exact Nat.or_lt_two_pow hx (Nat.pow_lt_pow_right (by decide) hv)
 ·exact Nat.lt_of_le_of_lt (p5 _ _) hx
theorem Si:∀v:Fin 6,∀j:Fin 64,(j.1.testBit v.1=true→aI j v true=j∧aI j v false=j-2^v.1∧2^v.1≤j.1∧(j.1+2^v.1).testBit v.1=false∧(j.1-2^v.1).testBit v.1=false)∧
  (j.1.testBit v.1=false→aI j v true=j.1+2^v.1∧j.1+2^v.1<64∧aI j v false=j∧(j.1+2^v.1).testBit v.1=true∧(2^v.1≤j.1→(j.1-2^v.1).testBit v.1=true)):=by decide+kernel
theorem ot{x v:Nat}{b:Bool}:(6≤v→aI x v b/64=aI (x/64) (v-6) b∧aI x v b%64=x%64)∧(v<6→aI x v b/64=x/64∧aI x v b%64=aI (x%64) v b):=by
 have xX:∀y:Nat,y/64=y>>>6:=fun y=>by rw[Nat.shiftRight_eq_div_pow]
 have m64:∀y:Nat,y%64=y%2^6:=fun y=>rfl
 refine⟨fun h=>⟨?_,?_⟩,fun h=>⟨?_,?_⟩⟩<;>apply Nat.eq_of_testBit_eq<;>intro k
 ·rw[xX,xX,Nat.testBit_shiftRight,ay,ay,Nat.testBit_shiftRight]
  by_cases e:k=v-6
  ·rw[if_pos e,if_pos (by omega)]
  ·rw[if_neg e,if_neg (by omega)]
 ·rw[m64 (aI x v b),m64 x,Nat.testBit_mod_two_pow,Nat.testBit_mod_two_pow,ay]
  by_cases hk:k<6
  ·rw[if_neg (by omega)]
  ·simp[hk]
 ·rw[xX,xX,Nat.testBit_shiftRight,ay,Nat.testBit_shiftRight,if_neg (by omega)]
 ·rw[m64 (aI x v b),m64 x,Nat.testBit_mod_two_pow,ay,ay,Nat.testBit_mod_two_pow]
  by_cases e:k=v
  ·subst e;simp[h]
  ·simp[e]
theorem pZ{n v x:Nat}{ws:List Nat}{b:Bool}(hf:fA n ws)(hv:v<n)(hx:x<2^n):bit (kz n ws v b) x=bit ws (aI x v b):=by
 have hi:=zq hx
 unfold bit
 have gB:(kz n ws v b).getD (x/64) 0=pQ ws v b (x/64) &&&dw n:=by
  simp[kz,hi]
 rw[gB,Nat.testBit_and,kL]
 have W5:decide (x%64<if 6≤n then 64 else 2^n)=true:=by
  rw[decide_eq_true_eq]
  split
  ·exact Nat.mod_lt _ (by decide)
  ·have h1:2^n≤32:=Nat.pow_le_pow_right (n:=2) (by decide) (by omega:n≤5)
   omega
 rw[W5,Bool.and_true]
 unfold pQ
 by_cases h6:6≤v
 ·rw[if_pos h6,(ot.1 h6).1,(ot.1 h6).2]
 ·rw[if_neg h6]
  obtain⟨e1,e2⟩:=(ot (x:=x) (v:=v) (b:=b)).2 (by omega)
  rw[e1,e2]
  generalize hw:ws.getD (x/64) 0=w
  have Y1:w<2^64:=by
   rw[←hw]
   rw[List.getD_eq_getElem?_getD,List.getElem?_eq_getElem (by rw[hf.len];exact hi)]
   exact hf.lt (List.getElem_mem _)
  have hj:x%64<64:=Nat.mod_lt _ (by decide)
  generalize x%64=j at hj
  obtain⟨s1,s2⟩:=Si ⟨v,by omega⟩ ⟨j,hj⟩
  simp only at s1 s2
  cases b
  ·simp only[Bool.false_eq_true,if_false]
   rw[show(18446744073709551616:Nat)=2^64 by rfl,Nat.testBit_or,Nat.testBit_mod_two_pow,Nat.testBit_shiftLeft,dJ,dJ,fN,fN]
   cases hb:j.testBit v
   ·obtain⟨t1,t2,t3,t4,t5⟩:=s2 hb
    rw[t3]
    by_cases hle:2^v≤j
    ·have:=t5 hle
     have xX:j-2^v<64:=Nat.lt_of_le_of_lt (Nat.sub_le _ _) hj
     simp[hj,this,xX]
    ·simp[hj,hle]
   ·obtain⟨t1,t2,t3,t4,t5⟩:=s1 hb
    rw[t2]
    simp[hj,t3,t5]
  ·simp only[if_true]
   rw[Nat.testBit_or,Nat.testBit_and,Nat.testBit_shiftRight,Nat.testBit_and,fN,fN]
   cases hb:j.testBit v
   ·obtain⟨t1,t2,t3,t4,t5⟩:=s2 hb
    rw[t1,Nat.add_comm (2^v) j]
    simp[hj,t2,t4]
   ·obtain⟨t1,t2,t3,t4,t5⟩:=s1 hb
    rw[t1,Nat.add_comm (2^v) j]
    simp[hj,t4]
def dep(n:Nat)(ws:List Nat)(v:Nat):Bool:=decide (kz n ws v false≠kz n ws v true)
theorem jY(x v:Nat):aI x v (x.testBit v)=x:=by
 apply Nat.eq_of_testBit_eq;intro k
 rw[ay]
 by_cases e:k=v
 ·rw[if_pos e,e]
 ·rw[if_neg e]
theorem Qc{n v:Nat}{ws:List Nat}(hf:fA n ws)(hv:v<n):dep n ws v=true↔∃x,x<2^n∧bit ws (aI x v false)≠bit ws (aI x v true):=by
 constructor
 ·intro h
  refine Classical.byContradiction fun hno=>?_
  have:kz n ws v false=kz n ws v true:=(jx hf.yC).ext (jx hf.yC) fun x hx=>by
   rw[pZ hf hv hx,pZ hf hv hx]
   exact Classical.byContradiction fun hne=>hno ⟨x,hx,hne⟩
  simp[dep,this]at h
 ·rintro⟨x,hx,hne⟩
  simp only[dep,ne_eq,decide_eq_true_eq]
  intro he
  apply hne
  rw[←pZ hf hv hx,←pZ hf hv hx,he]
end aG
namespace Go.Sx
open Go
inductive bR:Hp→Hp→Prop
 |refl (B:Hp):bR B B
 |cons {x:Nat×Obj} {B H:Hp} (h:bR B H):bR B (x::H)
 |app {N B H:Hp} (h:bR B H):bR B (N++H)
theorem bR.spec{B H:Hp}(h:bR B H):∃N,H=N++B:=by
 induction h with
 |refl=>exact⟨[],rfl⟩
 | @cons x B H h ih=>obtain⟨N,rfl⟩:=ih;exact⟨x::N,rfl⟩
 | @app M B H h ih=>obtain⟨N,rfl⟩:=ih;exact⟨M++N,by rw[List.append_assoc]⟩
theorem bR.sub{B H:Hp}(h:bR B H):∀x∈B,x∈H:=by
 obtain⟨N,rfl⟩:=h.spec;exact fun x hx=>List.mem_append_right _ hx
theorem bR.jK{B H:Hp}(h:bR B H):aU H B:=by
 obtain⟨N,rfl⟩:=h.spec;exact aU.right
theorem bR.trans{A B C:Hp}(h:bR A B)(h':bR B C):bR A C:=by
 obtain⟨N,rfl⟩:=h'.spec;exact .app h
section
variable {P:Program} {g:Gh} {H:Hp}
def Px(P:Program)(f:FuncId)(args:Array Value)(B:Hp)(Q:Value→Hp→Prop):Prop:=Fc P f args B (fun v H=>bR B H∧Q v H)
theorem ag.px{f:FuncId}{args:Array Value}{B H:Hp}{c:Hp→Hp}{Q:Value→Hp→Prop}{K:Value→Hp→Prop}{KP:List PanicEntry→Hp→Prop}(hh:cc B H c)(hc:Px P f args B Q)
 (hk:∀v N,Q v (N++B)→K v (c (N++B))):ag P g f args H K KP:=
 ag.fn hh hc fun v C' ⟨h1,h2⟩=>by obtain⟨N,rfl⟩:=h1.spec;exact hk v N h2
theorem ag.pre{f:FuncId}{args:Array Value}{H':Hp}{K:Value→Hp→Prop}{KP:List PanicEntry→Hp→Prop}(he:aU H H')(h:ag P g f args H' K KP):ag P g f args H K KP:=ai.pre h he
theorem aU.swap{x y:Nat×Obj}{A:Hp}:aU (x::y::A) (y::x::A):=.perm (.swap _ _ _)
theorem Gz.mk{Q:Value→Hp→Prop}{v:Value}{B H:Hp}(he:bR B H)(h:Q v H):aB (fun v H=>bR B H∧Q v H) (.returned v) H:=⟨v,H,rfl,.refl _,he,h⟩
theorem cw.mk{Q:Value→Prop}{v:Value}{B H:Hp}(he:aU H B)(h:Q v):aB (fun v H=>H=B∧Q v) (.returned v) H:=⟨v,B,rfl,he,rfl,h⟩
def aA(kd:IntKind)(l:List Int):Array Value:=(l.map fun n=>Value.int kd n).toArray
theorem BM(kd:IntKind)(l:List Int)(i:Nat)(n:Int):(aA kd l).setIfInBounds i (.int kd n)=aA kd (l.set i n):=by
 simp[aA,List.map_set]
@[simp] theorem Q1(kd:IntKind)(l:List Int):(aA kd l).size=l.length:=by simp[aA]
theorem HE(kd:IntKind)(n:Nat):madeCells (Value.cells (.int kd 0)) (n*1)=aA kd (List.replicate n 0):=by
 apply Array.ext
 ·simp[madeCells,aA]
 ·intro i h1 h2
  simp[madeCells,aA,Value.cells,Nat.mod_one]
def cX(kd:IntKind)(B:Hp)(v:Value)(l:List Int):Prop:=Sl 1 B v (l.map fun n=>[Value.int kd n])
theorem cX.mono{kd:IntKind}{B B':Hp}{v:Value}{l:List Int}(h:cX kd B v l)(hs:∀x∈B,x∈B'):cX kd B' v l:=Sl.mono h hs
theorem cX.bQ{kd:IntKind}{B:Hp}{v:Value}{l:List Int}(h:cX kd B v l){K:Value→Prop}(hk:K (.int .i64 l.length)):aO v K:=Sl.bQ h (by simpa using hk)
theorem cX.block{kd:IntKind}{B:Hp}{b cap:Nat}{l:List Int}{T:TypeId}{fz:Nat×Nat}(hm:(b,Obj.cells (aA kd l) T fz)∈B)(hc:l.length≤cap):cX kd B (.slice (some ⟨b,0,none⟩) l.length cap) l:=by
 refine⟨by simp,.inr ⟨b,0,cap,_,T,fz,by simp,by simpa using hc,hm,by simp[aA],fun i r hi j v hj=>?_⟩⟩
 rw[List.getElem?_map]at hi
 cases hl:l[i]? with
 |none=>rw[hl]at hi;simp at hi
 |some n=>
  rw[hl]at hi
  simp only[Option.map_some,Option.some.injEq]at hi
  subst hi
  cases j with
  |zero=>
   simp only[List.getElem?_cons_zero,Option.some.injEq]at hj
   subst hj
   simp[aA,hl]
  |succ j=>simp at hj
theorem cX.at{kd xO:IntKind}{B:Hp}{v:Value}{l:List Int}(h:cX kd B v l){i:Nat}{n:Int}(hi:l[i]? =some n){K:Value→Prop}(hk:∀p,At B p [.int kd n]→K p):ah 1 v (.int xO (i:Int)) K:=
 ah.sl h (by rw[List.getElem?_map,hi];rfl) hk
theorem cX.ld{kd xO:IntKind}{B:Hp}{v:Value}{l:List Int}(h:cX kd B v l){i:Nat}{n:Int}(hi:l[i]? =some n)(hs:∀x∈B,x∈H){K:Value→Prop}(hk:K (.int kd n)):ah 1 v (.int xO (i:Int)) (fun p=>Ld H p K):=
 h.at hi fun p hp=>Ld.at hp hs hk
theorem cZ.ints{T:TypeId}{kd kl:IntKind}{bytes n:Nat}{K:Value→Hp→Prop}(ca:n≤9223372036854775807)(hb:n*bytes≤281474976710656)
 (h:∀b,K (.slice (some ⟨b,0,none⟩) n n) ((b,.cells (aA kd (List.replicate n 0)) T (0,0))::H)):cZ T 1 bytes (.int kd 0) H (.int kl n) (.int kl n) K:=
 ⟨kl,kl,n,n,rfl,rfl,Nat.le_refl _,by omega,hb,fun b _=>by rw[HE];exact h b⟩
theorem St.ints{b i:Nat}{kd:IntKind}{l:List Int}{x:Int}{T:TypeId}{H':Hp}{K:Hp→Prop}(hu:cM b (.cells (aA kd l) T (0,0)) (.cells (aA kd (l.set i x)) T (0,0)) H H')(hi:i<l.length)(h:K H'):
  St 1 H (.pointer (some ⟨b,0+i*1,none⟩)) (.int kd x) K:=
 St.one (c:=aA kd l) (c':=aA kd (l.set i x)) hu rfl (by simpa using hi) (by rw[Nat.zero_add,Nat.mul_one];exact BM kd l i x) h
end
def bK:List Value→Nat→Nat
 | .int _ q::_,0=>q.toNat
 |_::r,i+1=>bK r i
 |_,_=>0
structure Tb where
 n:Int
 ws:List Nat
 deriving DecidableEq
def iw(ws:List Nat):List Int:=ws.map (Nat.cast:Nat→Int)
@[simp] theorem an(ws:List Nat):(iw ws).length=ws.length:=by simp[iw]
theorem cm{ws:List Nat}{i w:Nat}(h:ws[i]? =some w):(iw ws)[i]? =some (w:Int):=by simp[iw,h]
def Words(B:Hp)(s:Value)(ws:List Nat):Prop:=cX .u64 B s (iw ws)∧∀w∈ws,w<18446744073709551616
theorem Words.mono{B B':Hp}{v:Value}{ws:List Nat}(h:Words B v ws)(hs:∀x∈B,x∈B'):Words B' v ws:=⟨h.1.mono hs,h.2⟩
theorem Words.block{B:Hp}{b cap:Nat}{ws:List Nat}{T:TypeId}{fz:Nat×Nat}(hm:(b,Obj.cells (aA .u64 (iw ws)) T fz)∈B)(hc:ws.length≤cap)(hw:∀w∈ws,w<18446744073709551616):Words B (.slice (some ⟨b,0,none⟩) ws.length cap) ws:=by
 have:=cX.block (cap:=cap) hm (by simpa using hc)
 rw[an]at this
 exact⟨this,hw⟩
def Co(B:Hp)(v:Value)(t:Tb):Prop:=∃s,v=.agg #[.int .i64 t.n,s]∧Words B s t.ws
theorem Co.mono{B B':Hp}{v:Value}{t:Tb}(h:Co B v t)(hs:∀x∈B,x∈B'):Co B' v t:=let ⟨s,h1,h2⟩:=h;⟨s,h1,h2.mono hs⟩
def AD(B:Hp)(r:List Value)(t:Tb):Prop:=∃s,r=[.int .i64 t.n,s]∧Words B s t.ws
theorem AD.mono{B B':Hp}{r:List Value}{t:Tb}(h:AD B r t)(hs:∀x∈B,x∈B'):AD B' r t:=let ⟨s,h1,h2⟩:=h;⟨s,h1,h2.mono hs⟩
def qe{α:Type}(p:List Value→α→Prop)(rs:List (List Value))(l:List α):Prop:=rs.length=l.length∧∀(i:Nat) (r:List Value) (x:α),rs[i]? =some r→l[i]? =some x→p r x
theorem qe.nil{α:Type}{p:List Value→α→Prop}:qe p [] []:=⟨rfl,by simp⟩
theorem qe.get{α:Type}{p:List Value→α→Prop}{rs:List (List Value)}{l:List α}(h:qe p rs l){i:Nat}{x:α}(hx:l[i]? =some x):∃r,rs[i]? =some r∧p r x:=by
 have hlt:=(List.getElem?_eq_some_iff.1 hx).1
 have:i<rs.length:=by rw[h.1];exact hlt
 exact⟨rs[i],List.getElem?_eq_getElem this,h.2 i _ _ (List.getElem?_eq_getElem this) hx⟩
theorem qe.mono{α:Type}{p q:List Value→α→Prop}{rs:List (List Value)}{l:List α}(h:qe p rs l)(hpq:∀r x,p r x→q r x):qe q rs l:=⟨h.1,fun i r x h1 h2=>hpq _ _ (h.2 i r x h1 h2)⟩
def gi(B:Hp)(v:Value)(ts:List Tb):Prop:=∃rs,Sl 2 B v rs∧qe (AD B) rs ts
theorem gi.mono{B B':Hp}{v:Value}{ts:List Tb}(h:gi B v ts)(hs:∀x∈B,x∈B'):gi B' v ts:=let ⟨rs,h1,h2⟩:=h;⟨rs,h1.mono hs,h2.mono fun _ _ h=>h.mono hs⟩
theorem gi.bQ{B:Hp}{v:Value}{ts:List Tb}(h:gi B v ts){K:Value→Prop}(hk:K (.int .i64 ts.length)):aO v K:=by
 obtain⟨rs,h1,h2⟩:=h;refine h1.bQ ?_;have:=h2.1;rw[this];exact hk
theorem gi.ld{B H:Hp}{v:Value}{ts:List Tb}{kd:IntKind}(h:gi B v ts){i:Nat}{t:Tb}(hi:ts[i]? =some t)(hs:∀x∈B,x∈H){K:Value→Prop}(hk:∀s,Words B s t.ws→K (.agg #[.int .i64 t.n,s])):ah 2 v (.int kd (i:Int)) (fun p=>aD 2 H p K):=by
 obtain⟨rs,h1,h2⟩:=h
 obtain⟨r,hr,s,rfl,hw⟩:=h2.get hi
 exact ah.sl h1 hr fun p hp=>aD.at hp rfl (by decide) hs (hk s hw)
theorem gi.ldN{B H:Hp}{v:Value}{ts:List Tb}{kd:IntKind}(h:gi B v ts){i:Nat}{t:Tb}(hi:ts[i]? =some t)(hs:∀x∈B,x∈H){K:Value→Prop}(hk:K (.int .i64 t.n)):ah 2 v (.int kd (i:Int)) (fun p=>aa 0 p (fun q=>Ld H q K)):=by
 obtain⟨rs,h1,h2⟩:=h
 obtain⟨r,hr,s,rfl,hw⟩:=h2.get hi
 exact ah.sl h1 hr fun p hp=>aa.at hp fun q hq=>Ld.at hq hs hk
theorem gi.one{B:Hp}{b cap:Nat}{t:Tb}{s:Value}{T:TypeId}{fz:Nat×Nat}(hm:(b,Obj.cells #[.int .i64 t.n,s] T fz)∈B)(hw:Words B s t.ws):gi B (.slice (some ⟨b,0,none⟩) 1 (cap+1)) [t]:=by
 refine⟨[[.int .i64 t.n,s]],⟨by simp,.inr ⟨b,0,cap+1,_,T,fz,rfl,by simp,hm,by simp,fun i r hi j v hj=>?_⟩⟩,rfl,fun i r x h1 h2=>?_⟩
 ·cases i with
  |zero=>simp at hi;subst hi;simpa using hj
  |succ i=>simp at hi
 ·cases i with
  |zero=>simp at h1 h2;subst h1;subst h2;exact⟨s,rfl,hw⟩
  |succ i=>simp at h1
def TF(t:Tb):Prop:=0≤t.n∧aG.fA t.n.toNat t.ws
instance (t:Tb):Decidable (TF t):=by unfold TF;infer_instance
end Go.Sx
namespace Go.Sx
open Go Go.RowKit
section
variable {P:Program}
def whole(W:World):Hp:=(List.range W.heap.size).map fun i=>(i,W.heap.getD i default)
theorem vP(W:World):Own ⟨W,[]⟩ (whole W) W:=by
 refine⟨rfl,rfl,rfl,?_,?_⟩
 ·have:(whole W).map Prod.fst=List.range W.heap.size:=by
   unfold whole
   rw[List.map_map]
   have:(Prod.fst∘fun i=>(i,W.heap.getD i default))=id:=by funext i;rfl
   rw[this,List.map_id]
  rw[List.append_nil,this];exact List.nodup_range
 ·intro x hx
  rw[List.append_nil]at hx
  obtain⟨i,hi,rfl⟩:=List.mem_map.1 hx
  have:=List.mem_range.1 hi
  simp[Array.getD_eq_getD_getElem?,this]
theorem vV{W:World}{b:Nat}{o:Obj}(h:W.heap[b]? =some o):(b,o)∈whole W:=by
 have hlt:=(Array.getElem?_eq_some_iff.1 h).1
 exact List.mem_map.2 ⟨b,List.mem_range.2 hlt,by simp[Array.getD_eq_getD_getElem?,h]⟩
theorem Own.below{W W':World}(h:Own ⟨W,[]⟩ (whole W) W'):Below W.heap.size W W':=by
 have hb:∀k,k<W.heap.size→W'.heap[k]? =W.heap[k]? :=fun k hk=>by
  have:=h.has (k,W.heap.getD k default) (List.mem_map.2 ⟨k,List.mem_range.2 hk,rfl⟩)
  simp only at this
  rw[this];simp[Array.getD_eq_getD_getElem?,hk]
 refine⟨h.os,h.tape,h.out,?_,hb⟩
 rcases Nat.eq_zero_or_pos W.heap.size with h0|h0
 ·omega
 ·have:=hb (W.heap.size-1) (by omega)
  rw[show W.heap[W.heap.size-1]? =some (W.heap[W.heap.size-1]'(by omega))from Array.getElem?_eq_getElem (by omega)]at this
  have:=(Array.getElem?_eq_some_iff.1 this).1
  omega
theorem HK{f:FuncId}{args:Array Value}{W:World}(h:ai P ⟨W,[]⟩ f args (whole W) (fun e H'=>e=.returned (.bool true)∧aU H' (whole W))):
  Calls P f args W fun e W'=>e=.returned (.bool true)∧Below W.heap.size W W':=
 (h W (vP W)).mono fun e W' ⟨H',ho,he,tE⟩=>⟨he,(tE _ _ ho).below⟩
theorem SJ{f:FuncId}{args:Array Value}{W:World}(h:Px P f args (whole W) (fun v _=>v=.bool true)):
  Calls P f args W fun e W'=>e=.returned (.bool true)∧Below W.heap.size W W':=
 HK ((h ⟨W,[]⟩).post fun e H' ⟨v,C,he,tE,hg,hv⟩=>⟨H',.refl _,by rw[he,hv],tE.trans hg.jK⟩)
section
variable {H:Type} {enc:TypeId×Value→H}
open Go.ChangeShapes Go.WideShapes Go.ChangeAt Go.RowKit
theorem nS(hl:laidOutB P=true){W W':World}{sp:Nat→Bool}(hb:Below W.heap.size W W'):∀(ts:List TypeId) (vs:List Value) (ds:List (DataW H)) (ps:List MemPlace),
  (∀t∈ts,P.readableRec t=true∧t<P.types.size)→DataW.TrodAll enc P W 0 (fun _=>true) true ts vs ds ps→(∀x∈ps,x.block<W.heap.size)→(∀x∈ps,sp x.block=true)→DataW.TrodAll enc P W' 0 sp true ts vs ds ps
 | [],vs,ds,ps,_,h,_,_=>by
  obtain⟨rfl,rfl,rfl⟩:=trodAll_nil h;exact trodAll_mk0
 |t::ts,vs,ds,ps,hr,h,hlt,hsp=>by
  obtain⟨v,vs',d,ds',p,q,rfl,rfl,rfl,h0,h1⟩:=trodAll_cons h
  have ht:=hr t (by simp)
  exact trodAll_cons_mk (WideElems.Trod_stays hl ht.1 ht.2 h0 (fun x hx=>hb.same (hlt x (by simp[hx]))) (fun x hx=>hsp x (by simp[hx])))
   (nS hl hb ts vs' ds' q (fun t' h'=>hr t' (by simp[h'])) h1 (fun x hx=>hlt x (by simp[hx])) (fun x hx=>hsp x (by simp[hx])))
theorem Lv{f:Func}{s:ChangeSpec}{W W':World}{args:Array Value}{ds gs:List (DataW H)}{before:List MemPlace}{tb:TypeId}(hvars:s.vars=[])
 (hW:DataW.Whole enc P f.params.toList s.vars false W args.toList ds gs before)(hs:s.fn H (ds++gs)={results:=[.lit (.bool true)],args:=ds})(hb:Below W.heap.size W W')
 (hl:laidOutB P=true)(hr:∀t∈f.params.toList,P.readableRec t=true∧t<P.types.size)(hrt:f.resultTypes=#[tb])(Xf:P.underlying tb=some .bool):
  s.post enc P f false true false false W args (.bool true) W':=by
 have Zf:=hW
 have hlt:=hW.lt
 obtain⟨p,q,hA,hV,rfl,hfz,ig⟩:=hW
 rw[hvars]at hV
 obtain⟨rfl,rfl⟩:=trodVars_none hV
 refine⟨ds,_,_,[],p,[],Zf,?_,?_,?_,World.keptBut_mono (fun p hp=>⟨hp,?_⟩) (hb.frame (· ∈p++[])),fun h=>by cases h⟩
 ·rw[hs,hrt];exact trodAll_cons_mk (shut_bool Xf _) trodAll_mk0
 ·rw[hs]
  exact nS hl hb _ _ _ _ hr hA (fun x hx=>hlt x (by simp[hx])) (fun x hx=>by simpa using hlt x (by simp[hx]))
 ·rw[hvars,hs];rfl
 ·right;simpa using hp
end
end
end Go.Sx
namespace Go.Sx
open Go
section
variable {P:Program} {g:Gh} {H:Hp}
theorem aS.afP{T:TypeId}{v x:Value}{rs:List (List Value)}{C:Hp}(hs:aS T 1 v rs C){i:Nat}(hi:i<rs.length)(hr:rs[i]? =some [x])(hC:∀y∈C,y∈H){K:Value→Prop}(hk:K x):
  ah 1 v (.int .i64 (i:Int)) fun p=>Ld H p K:=by
 obtain⟨b',aM,rfl,rfl,aJ⟩:=hs.pos (by omega)
 refine ah.nat hi ?_
 exact Ld.VY (l:=rs++aM) (hC _ (List.Mem.head _)) aJ (by rw[List.getElem?_append_left hi];exact hr) hk
theorem aS.aaF{T:TypeId}{v x y:Value}{rs:List (List Value)}{C A B:Hp}(hs:aS T 1 v rs C){i:Nat}(hi:i<rs.length)(hr:rs[i]? =some [y])(h1:x.oneCell'=true){K:Hp→Prop}
 (hk:∀C',aS T 1 v (rs.set i [x]) C'→K (A++(C'++B))):ah 1 v (.int .i64 (i:Int)) fun p=>St 1 (A++(C++B)) p x K:=by
 obtain⟨b',aM,rfl,rfl,aJ⟩:=hs.pos (by omega)
 refine ah.nat hi ?_
 refine St.cell (l:=rs++aM) (i:=i) (k:=1) (j:=0) (r:=[y]) (((cM.head _).append B).bW A) aJ (by rw[List.getElem?_append_left hi];exact hr) (by omega) h1 ?_
 have e:(rs++aM).set i ([y].set 0 x)=rs.set i [x]++aM:=by rw[List.set_append_left _ _ hi];rfl
 rw[e]
 refine hk [(b',_)] (aS.mk' (aM:=aM) (fun r hr'=>?_) (by simp) (by simp))
 rcases List.mem_append.1 hr' with hr'|hr'
 ·rcases List.mem_or_eq_of_mem_set hr' with hr'|rfl
  ·exact aJ r (by simp[hr'])
  ·rfl
 ·exact aJ r (by simp[hr'])
end
end Go.Sx
namespace Go.Sx
open Go
section
variable {κ β:Type} [DecidableEq κ]
structure aV(ke:κ→Value)(vr:Value→β→Prop)(es:Array MapEntry)(ck:Nat)(m:List (κ×β)):Prop where
 len:es.size=m.length
 key:∀(i:Nat) (e:MapEntry) (x:κ×β),es[i]? =some e→m[i]? =some x→e.key=ke x.1∧vr e.val x.2
 nd:(m.map Prod.fst).Nodup
 born:(es.toList.map MapEntry.born).Nodup
 lt:∀e∈es.toList,e.born<ck
variable {ke:κ→Value} {vr:Value→β→Prop} {es:Array MapEntry} {ck:Nat} {m:List (κ×β)}
theorem aV.empty:aV ke vr #[] 0 []:=⟨rfl,by simp,by simp,by simp,by simp⟩
theorem aV.mono{Fl:Value→β→Prop}(h:aV ke vr es ck m)(hv:∀v x,vr v x→Fl v x):aV ke Fl es ck m:=⟨h.len,fun i e x h1 h2=>⟨(h.key i e x h1 h2).1,hv _ _ (h.key i e x h1 h2).2⟩,h.nd,h.born,h.lt⟩
def gY(m:List (κ×β))(k:κ)(x:β):List (κ×β):=if k∈m.map Prod.fst then m.map (fun y=>if y.1=k then(k,x)else y)else m++[(k,x)]
def ew(m:List (κ×β))(k:κ):Option β:=(m.find? (fun y=>y.1=k)).map Prod.snd
theorem eC{m:List (κ×β)}{k:κ}{x:β}(nd:(m.map Prod.fst).Nodup):ew m k=some x↔(k,x)∈m:=by
 induction m with
 |nil=>simp[ew]
 |cons y r ih=>
  rw[List.map_cons,List.nodup_cons]at nd
  obtain⟨a,b⟩:=y
  simp only[ew,List.find?_cons]at ih⊢
  by_cases e:a=k
  ·subst e
   simp only[decide_true,Option.map_some,Option.some.injEq,List.mem_cons,Prod.mk.injEq,true_and]
   constructor
   ·intro h;exact .inl h.symm
   ·rintro(h|h)
    ·exact h.symm
    ·exact absurd (List.mem_map.2 ⟨_,h,rfl⟩) nd.1
  ·simp only[e,decide_false,List.mem_cons,Prod.mk.injEq,Ne.symm e,false_and,false_or]
   exact ih nd.2
theorem gv{m:List (κ×β)}{k:κ}:ew m k=none↔k∉m.map Prod.fst:=by
 simp only[ew,Option.map_eq_none_iff,List.find?_eq_none,decide_eq_true_eq,List.mem_map,not_exists,not_and]
theorem aV.findNow{kd:TypeDesc}(hk:∀a b,Instr.sameNow kd (ke a) (ke b)=some (decide (a=b)))(h:aV ke vr es ck m)(k:κ):
  (∃(i:Nat) (x:β) (e:MapEntry),es[i]? =some e∧m[i]? =some (k,x)∧vr e.val x∧Instr.findNow kd (ke k) es.toList 0=some (some (i,e.val)))∨(k∉m.map Prod.fst∧Instr.findNow kd (ke k) es.toList 0=some none):=by
 have key:∀(l:List MapEntry) (q:List (κ×β)) (j:Nat),l.length=q.length→(∀(i:Nat) (e:MapEntry) (x:κ×β),l[i]? =some e→q[i]? =some x→e.key=ke x.1∧vr e.val x.2)→
   (∃(i:Nat) (x:β) (e:MapEntry),l[i]? =some e∧q[i]? =some (k,x)∧vr e.val x∧Instr.findNow kd (ke k) l j=some (some (j+i,e.val)))∨(k∉q.map Prod.fst∧Instr.findNow kd (ke k) l j=some none):=by
  intro l
  induction l with
  |nil=>intro q j hl _;cases q with|nil=>exact .inr ⟨by simp,rfl⟩|cons a b=>simp at hl
  |cons e r ih=>
   intro q j hl hkey
   cases q with
   |nil=>simp at hl
   |cons y q=>
    obtain⟨h1,h2⟩:=hkey 0 e y rfl rfl
    simp only[Instr.findNow,h1,hk]
    by_cases e0:k=y.1
    ·subst e0
     exact .inl ⟨0,y.2,e,rfl,rfl,h2,by simp⟩
    ·rw[decide_eq_false e0]
     rcases ih q (j+1) (by simpa using hl) (fun i e x h1 h2=>hkey (i+1) e x (by simpa using h1) (by simpa using h2))with⟨i,x,e',g1,g2,g3,g4⟩|⟨g1,g2⟩
     ·exact .inl ⟨i+1,x,e',by simpa using g1,by simpa using g2,g3,by simp only[g4];rw[show j+1+i=j+(i+1)by omega]⟩
     ·exact .inr ⟨by rw[List.map_cons,List.mem_cons];rintro(h|h);exact e0 h;exact g1 h,by simpa using g2⟩
 have:=key es.toList m 0 (by simpa using h.len) (fun i e x h1 h2=>h.key i e x (by simpa using h1) h2)
 rcases this with⟨i,x,e,g1,g2,g3,g4⟩|h2
 ·exact .inl ⟨i,x,e,by simpa using g1,g2,g3,by simpa using g4⟩
 ·exact .inr h2
theorem aV.Ah{P:Program}{kt:TypeId}(hk:∀a b,AL P kt (ke a) (ke b) (decide (a=b)))(h:aV ke vr es ck m)(k:κ):
  (∃(i:Nat) (x:β) (e:MapEntry),es[i]? =some e∧m[i]? =some (k,x)∧vr e.val x∧lE P kt (ke k) es.toList 0 (some (i,e.val)))∨(k∉m.map Prod.fst∧lE P kt (ke k) es.toList 0 none):=by
 have key:∀(l:List MapEntry) (q:List (κ×β)) (j:Nat),l.length=q.length→(∀(i:Nat) (e:MapEntry) (x:κ×β),l[i]? =some e→q[i]? =some x→e.key=ke x.1∧vr e.val x.2)→
   (∃(i:Nat) (x:β) (e:MapEntry),l[i]? =some e∧q[i]? =some (k,x)∧vr e.val x∧lE P kt (ke k) l j (some (j+i,e.val)))∨(k∉q.map Prod.fst∧lE P kt (ke k) l j none):=by
  intro l
  induction l with
  |nil=>intro q j hl _;cases q with|nil=>exact .inr ⟨by simp,rfl⟩|cons a b=>simp at hl
  |cons e r ih=>
   intro q j hl hkey
   cases q with
   |nil=>simp at hl
   |cons y q=>
    obtain⟨h1,h2⟩:=hkey 0 e y rfl rfl
    have hb:=hk k y.1
    rw[←h1]at hb
    by_cases e0:k=y.1
    ·refine .inl ⟨0,y.2,e,rfl,by rw[e0];rfl,h2,?_⟩
     exact⟨_,hb,fun _=>by simp,fun h=>by simp[e0]at h⟩
    ·rcases ih q (j+1) (by simpa using hl) (fun i e x h1 h2=>hkey (i+1) e x (by simpa using h1) (by simpa using h2))with⟨i,x,e',g1,g2,g3,g4⟩|⟨g1,g2⟩
     ·refine .inl ⟨i+1,x,e',by simpa using g1,by simpa using g2,g3,_,hb,fun h=>by simp[e0]at h,fun _=>?_⟩
      rw[show j+(i+1)=j+1+i by omega];exact g4
     ·exact .inr ⟨by rw[List.map_cons,List.mem_cons];rintro(h|h);exact e0 h;exact g1 h,_,hb,fun h=>by simp[e0]at h,fun _=>g2⟩
 have:=key es.toList m 0 (by simpa using h.len) (fun i e x h1 h2=>h.key i e x (by simpa using h1) h2)
 rcases this with⟨i,x,e,g1,g2,g3,g4⟩|h2
 ·exact .inl ⟨i,x,e,by simpa using g1,g2,g3,by simpa using g4⟩
 ·exact .inr h2
theorem aV.put(h:aV ke vr es ck m){i:Nat}{k:κ}{y x:β}{val:Value}(hi:m[i]? =some (k,y))(hv:vr val x):aV ke vr (es.modify i fun e=>{e with key:=ke k,val}) ck (gY m k x):=by
 have hmem:k∈m.map Prod.fst:=List.mem_map.2 ⟨_,List.mem_of_getElem? hi,rfl⟩
 have hlt:=(List.getElem?_eq_some_iff.1 hi).1
 have Wm:∀j z,m[j]? =some z→z.1=k→j=i:=fun j z hj hz=>by
  have hj':=(List.getElem?_eq_some_iff.1 hj).1
  have e1:(m.map Prod.fst)[j]? =some k:=by rw[List.getElem?_map,hj];simp[hz]
  have e2:(m.map Prod.fst)[i]? =some k:=by rw[List.getElem?_map,hi];rfl
  exact(List.getElem?_inj (by simpa using hj') h.nd).1 (e1.trans e2.symm)
 have hb:((es.modify i fun e=>{e with key:=ke k,val}).toList.map MapEntry.born)=es.toList.map MapEntry.born:=by
  apply List.ext_getElem?;intro j
  simp only[List.getElem?_map,Array.getElem?_toList,Array.getElem?_modify]
  split
  ·cases es[j]? <;>rfl
  ·rfl
 refine⟨by simp[gY,hmem,h.len],fun j e z he hz=>?_,?_,by rw[hb];exact h.born,fun e he=>?_⟩
 ·simp only[gY,hmem,if_true,List.getElem?_map]at hz
  rw[Array.getElem?_modify]at he
  cases hm:m[j]? with
  |none=>rw[hm]at hz;simp at hz
  |some z0=>
   rw[hm]at hz
   simp only[Option.map_some,Option.some.injEq]at hz
   cases W7:es[j]? with
   |none=>rw[W7]at he;split at he<;>simp at he
   |some e0=>
    rw[W7]at he
    by_cases ek:z0.1=k
    ·have:=Wm j z0 hm ek
     subst this
     rw[if_pos ek]at hz;subst hz
     simp only[if_true,Option.map_some,Option.some.injEq]at he
     subst he;exact⟨rfl,hv⟩
    ·rw[if_neg ek]at hz;subst hz
     rw[if_neg (fun e=>by subst e;rw[hi]at hm;cases hm;exact ek rfl)]at he
     simp only[Option.some.injEq]at he
     subst he;exact h.key j _ _ W7 hm
 ·have:(gY m k x).map Prod.fst=m.map Prod.fst:=by
   simp only[gY,hmem,if_true,List.map_map]
   apply List.map_congr_left
   intro z _
   simp only[Function.comp]
   split
   ·rename_i hz;exact hz.symm
   ·rfl
  rw[this];exact h.nd
 ·have:e.born∈(es.modify i fun e=>{e with key:=ke k,val}).toList.map MapEntry.born:=List.mem_map_of_mem he
  rw[hb]at this
  obtain⟨e0,h1,h2⟩:=List.mem_map.1 this
  rw[←h2];exact h.lt e0 h1
theorem aV.more(h:aV ke vr es ck m){k:κ}{x:β}{val:Value}(hk:k∉m.map Prod.fst)(hv:vr val x):aV ke vr (es.push {key:=ke k,val,born:=ck}) (ck+1) (gY m k x):=by
 have hs:gY m k x=m++[(k,x)]:=by unfold gY;rw[if_neg hk]
 rw[hs]
 refine⟨by simp[h.len],fun j e z he hz=>?_,?_,?_,fun e he=>?_⟩
 ·by_cases hj:j<m.length
  ·rw[List.getElem?_append_left hj]at hz
   rw[Array.getElem?_push,if_neg (by rw[h.len];omega)]at he
   exact h.key j _ _ he hz
  ·have Y9:=(List.getElem?_eq_some_iff.1 hz).1
   simp only[List.length_append,List.length_cons,List.length_nil]at Y9
   have:j=m.length:=by omega
   subst this
   rw[List.getElem?_append_right (Nat.le_refl _)]at hz
   simp at hz;subst hz
   rw[Array.getElem?_push,if_pos h.len.symm]at he
   simp at he;subst he
   exact⟨rfl,hv⟩
 ·rw[List.map_append,List.nodup_append]
  refine⟨h.nd,by simp,fun a ha b hb=>?_⟩
  simp at hb;subst hb;rintro rfl;exact hk ha
 ·rw[Array.toList_push,List.map_append,List.nodup_append]
  refine⟨h.born,by simp,fun a ha b hb=>?_⟩
  simp at hb;subst hb
  obtain⟨e,he,rfl⟩:=List.mem_map.1 ha
  have:=h.lt e he;omega
 ·rw[Array.toList_push,List.mem_append]at he
  rcases he with he|he
  ·have:=h.lt e he;omega
  ·simp at he;subst he;simp
variable {H:Hp} {b:Nat}
theorem aV.hit{kd:TypeDesc}{zero:Value}{ok:Bool}{k:κ}{x:β}{K:Value→Prop}(hk:∀a b,Instr.sameNow kd (ke a) (ke b)=some (decide (a=b)))(h:aV ke vr es ck m)(hm:(b,Obj.map es ck)∈H)(hx:ew m k=some x)
 (h1:∀v,vr v x→K (cond ok (.tuple #[v,.bool true]) v)):oS kd zero ok H (.map (some b)) (ke k) K:=by
 rcases h.findNow hk k with⟨i,y,e,g1,g2,g3,g4⟩|⟨g1,g2⟩
 ·have:ew m k=some y:=(eC h.nd).2 (List.mem_of_getElem? g2)
  rw[hx]at this;cases this
  exact⟨es,_,.inr ⟨b,ck,rfl,hm⟩,g4,h1 _ g3⟩
 ·rw[gv.2 g1]at hx;cases hx
theorem aV.HA{kd:TypeDesc}{zero:Value}{ok:Bool}{k:κ}{K:Value→Prop}(hk:∀a b,Instr.sameNow kd (ke a) (ke b)=some (decide (a=b)))(h:aV ke vr es ck m)(hm:(b,Obj.map es ck)∈H)(hx:ew m k=none)
 (h1:K (cond ok (.tuple #[zero,.bool false]) zero)):oS kd zero ok H (.map (some b)) (ke k) K:=by
 rcases h.findNow hk k with⟨i,y,e,g1,g2,g3,g4⟩|⟨g1,g2⟩
 ·exact absurd (List.mem_map.2 ⟨_,List.mem_of_getElem? g2,rfl⟩) (gv.1 hx)
 ·exact⟨es,_,.inr ⟨b,ck,rfl,hm⟩,g2,h1⟩
theorem aV.cg{kd:TypeDesc}{k:κ}{x:β}{val:Value}{K:Hp→Prop}(hk:∀a b,Instr.sameNow kd (ke a) (ke b)=some (decide (a=b)))(hb:∀a,Instr.sameBits 10000 (ke a) (ke a)=true)(h:aV ke vr es ck m)(hv:vr val x)
 (h1:∀es' cO,aV ke vr es' cO (gY m k x)→∃H',cM b (.map es ck) (.map es' cO) H H'∧K H'):gF kd H (.map (some b)) (ke k) val K:=by
 rcases h.findNow hk k with⟨i,y,e,g1,g2,g3,g4⟩|⟨g1,g2⟩
 ·refine⟨b,es,ck,_,rfl,g4,fun e' he'=>?_,by rw[h.len];exact(List.getElem?_eq_some_iff.1 g2).1,h1 _ _ (h.put g2 hv)⟩
  rw[(h.key i e' _ he' g2).1];exact hb k
 ·exact⟨b,es,ck,_,rfl,g2,h1 _ _ (h.more g1 hv)⟩
theorem aV.HY{P:Program}{kt:TypeId}{zero:Value}{ok:Bool}{k:κ}{x:β}{K:Value→Prop}(hk:∀a b,AL P kt (ke a) (ke b) (decide (a=b)))(hc:∀a,lM P kt (ke a))(h:aV ke vr es ck m)(hm:(b,Obj.map es ck)∈H)(hx:ew m k=some x)
 (h1:∀v,vr v x→K (cond ok (.tuple #[v,.bool true]) v)):jB P kt zero ok H (.map (some b)) (ke k) K:=by
 rcases h.Ah hk k with⟨i,y,e,g1,g2,g3,g4⟩|⟨g1,g2⟩
 ·have:ew m k=some y:=(eC h.nd).2 (List.mem_of_getElem? g2)
  rw[hx]at this;cases this
  exact⟨es,_,.inr ⟨b,ck,rfl,hm⟩,hc k,g4,h1 _ g3⟩
 ·rw[gv.2 g1]at hx;cases hx
theorem aV.vS{P:Program}{kt:TypeId}{zero:Value}{ok:Bool}{k:κ}{K:Value→Prop}(hk:∀a b,AL P kt (ke a) (ke b) (decide (a=b)))(hc:∀a,lM P kt (ke a))(h:aV ke vr es ck m)(hm:(b,Obj.map es ck)∈H)(hx:ew m k=none)
 (h1:K (cond ok (.tuple #[zero,.bool false]) zero)):jB P kt zero ok H (.map (some b)) (ke k) K:=by
 rcases h.Ah hk k with⟨i,y,e,g1,g2,g3,g4⟩|⟨g1,g2⟩
 ·exact absurd (List.mem_map.2 ⟨_,List.mem_of_getElem? g2,rfl⟩) (gv.1 hx)
 ·exact⟨es,_,.inr ⟨b,ck,rfl,hm⟩,hc k,g2,h1⟩
theorem aV.Ot{P:Program}{kt:TypeId}{k:κ}{x:β}{val:Value}{K:Hp→Prop}(hk:∀a b,AL P kt (ke a) (ke b) (decide (a=b)))(hc:∀a,lM P kt (ke a))(hb:∀a,Instr.sameBits 10000 (ke a) (ke a)=true)(h:aV ke vr es ck m)(hv:vr val x)
 (h1:∀es' cO,aV ke vr es' cO (gY m k x)→∃H',cM b (.map es ck) (.map es' cO) H H'∧K H'):iE P kt H (.map (some b)) (ke k) val K:=by
 rcases h.Ah hk k with⟨i,y,e,g1,g2,g3,g4⟩|⟨g1,g2⟩
 ·refine⟨b,es,ck,_,rfl,hc k,g4,fun e' he'=>?_,by rw[h.len];exact(List.getElem?_eq_some_iff.1 g2).1,h1 _ _ (h.put g2 hv)⟩
  rw[(h.key i e' _ he' g2).1];exact hb k
 ·exact⟨b,es,ck,_,rfl,hc k,g2,h1 _ _ (h.more g1 hv)⟩
theorem aV.Lt(h:aV ke vr es ck m)(hm:(b,Obj.map es ck)∈H){K:Value→Prop}(hk:K (.int .i64 m.length)):yl H (.map (some b)) K:=⟨_,rfl,.inr ⟨b,es,ck,rfl,hm,by rw[h.len];exact hk⟩⟩
def cJ(es:Array MapEntry)(m:List (κ×β))(seen:Array Nat):List (κ×β):=((es.toList.zip m).filter fun p=> !seen.contains p.1.born).map Prod.snd
omit [DecidableEq κ] in
theorem og(h:aV ke vr es ck m):cJ es m #[]=m:=by
 unfold cJ
 rw[List.filter_eq_self.2 (by simp),←List.unzip_snd,List.unzip_zip]
 simpa using h.len
omit [DecidableEq κ] in
theorem yU(h:aV ke vr es ck m){seen:Array Nat}{i:Nat}{e:MapEntry}{x:κ×β}(he:es[i]? =some e)(hx:m[i]? =some x)(hs:e.born∉seen):(cJ es m seen).Perm (x::cJ es m (seen.push e.born)):=by
 unfold cJ
 have hz:(es.toList.zip m)[i]? =some (e,x):=by rw[List.getElem?_zip_eq_some];exact⟨by simpa using he,hx⟩
 obtain⟨A,C,hAC,hlen⟩:∃A C,es.toList.zip m=A++(e,x)::C∧A.length=i:=by
  obtain⟨hlt,hg⟩:=List.getElem?_eq_some_iff.1 hz
  exact⟨(es.toList.zip m).take i,(es.toList.zip m).drop (i+1),by rw[←hg,List.getElem_cons_drop,List.take_append_drop],by simp only[List.length_take];omega⟩
 have ab1:(es.toList.zip m).map (fun p=>p.1.born)=es.toList.map MapEntry.born:=by
  have:(es.toList.zip m).map Prod.fst=es.toList:=by rw[←List.unzip_fst,List.unzip_zip];simpa using h.len
  rw[show(fun p:MapEntry×(κ×β)=>p.1.born)=MapEntry.born∘Prod.fst from rfl,←List.map_map,this]
 have ig:=h.born
 rw[←ab1,hAC,List.map_append,List.map_cons]at ig
 have WJ:=List.perm_middle.nodup_iff.1 ig
 rw[List.nodup_cons,←List.map_append]at WJ
 have hne:∀p∈A++C,p.1.born≠e.born:=fun p hp e0=>WJ.1 (List.mem_map.2 ⟨p,hp,e0⟩)
 have Rj:∀L:List (MapEntry×(κ×β)),(∀p∈L,p.1.born≠e.born)→(L.filter fun p=> !(seen.push e.born).contains p.1.born)=L.filter fun p=> !seen.contains p.1.born:=fun L hL=>by
  apply List.filter_congr
  intro p hp
  have:=hL p hp
  simp[Array.mem_push,this]
 rw[hAC,List.filter_append,List.filter_append,List.filter_cons,List.filter_cons]
 rw[if_pos (by simpa using hs),if_neg (by simp),Rj A fun p hp=>hne p (List.mem_append_left _ hp),Rj C fun p hp=>hne p (List.mem_append_right _ hp)]
 rw[List.map_append,List.map_append,List.map_cons]
 exact List.perm_middle
omit [DecidableEq κ] in
theorem aV.next{bi bm:Nat}{seen:Array Nat}{K:Value→Hp→Prop}(h:aV ke vr es ck m)(hm:(bm,Obj.map es ck)∈H)(hi:(bi,Obj.mapIter (some bm) ck seen ck)∈H)
 (h1:∀e x seen',e∈es.toList→e.key=ke x.1→vr e.val x.2→(cJ es m seen).Perm (x::cJ es m seen')→seen'.back?=some e.born→es.find? (·.born==e.born)=some e→
   ∃H',cM bi (.mapIter (some bm) ck seen ck) (.mapIter (some bm) ck seen' ck) H H'∧K (.tuple #[.bool true,e.key,e.val]) H')
 (h2:cJ es m seen=[]→K (.tuple #[.bool false]) H):Uu H (.pointer (some ⟨bi,0,none⟩)) K:=by
 refine⟨bi,some bm,ck,seen,ck,rfl,hi,es,ck,hm,fun e he=>⟨h.lt e he,h.lt e he⟩,fun e he hs=>?_,fun aJ=>h2 ?_⟩
 ·obtain⟨i,hi',rfl⟩:=List.mem_iff_getElem.1 he
  have zR:i<m.length:=by rw[←h.len];simpa using hi'
  have g1:es[i]? =some es.toList[i]:=by rw[←Array.getElem?_toList];exact List.getElem?_eq_getElem hi'
  have g2:m[i]? =some m[i]:=List.getElem?_eq_getElem zR
  obtain⟨k1,k2⟩:=h.key i _ _ g1 g2
  refine h1 _ m[i] _ he k1 k2 (yU h g1 g2 hs) (by simp) ?_
  rw[←Array.find?_toList]
  have ig:=h.born
  rw[List.find?_eq_some_iff_append]
  refine⟨by simp,es.toList.take i,es.toList.drop (i+1),by rw[List.getElem_cons_drop,List.take_append_drop],fun a ha=>?_⟩
  simp only[Bool.not_eq_true',beq_eq_false_iff_ne,ne_eq]
  intro e0
  obtain⟨j,hj,rfl⟩:=List.mem_iff_getElem.1 ha
  simp only[List.length_take]at hj
  rw[List.getElem_take]at e0
  have:=(List.getElem_inj (by simpa using h.born) (xs:=es.toList.map MapEntry.born) (i:=j) (j:=i) (h₀:=by rw[List.length_map];omega) (h₁:=by rw[List.length_map];exact hi')).1 (by simpa using e0)
  omega
 ·unfold cJ
  rw[List.filter_eq_nil_iff.2,List.map_nil]
  intro p hp
  have:=aJ p.1 (List.of_mem_zip hp).1
  simpa using this
end
end Go.Sx
namespace aG
def jL(w:Nat):List UInt8:=(List.range 8).map fun i=>UInt8.ofNat (w>>>(8*i))
def gg(ws:List Nat):List UInt8:=ws.flatMap jL
theorem fk(w:Nat):(jL w).length=8:=by simp[jL]
theorem rE:∀l:List Nat,(gg l).length=8*l.length
 | []=>rfl
 |x::l=>by rw[gg,List.flatMap_cons,List.length_append,fk];have:=rE l;unfold gg at this;rw[this,List.length_cons];omega
theorem B7{a b:Nat}(ha:a<18446744073709551616)(hb:b<18446744073709551616)(h:jL a=jL b):a=b:=by
 apply Nat.eq_of_testBit_eq
 intro j
 by_cases hj:j<64
 ·have hi:j/8<8:=by omega
  have h1:=congrArg (fun l=>l[j/8]?) h
  simp only[jL,List.getElem?_map,List.getElem?_range hi,Option.map_some,Option.some.injEq]at h1
  have h2:=congrArg UInt8.toNat h1
  simp only[UInt8.toNat_ofNat']at h2
  have h3:=congrArg (fun x=>x.testBit (j%8)) h2
  simp only[Nat.testBit_mod_two_pow,Nat.testBit_shiftRight]at h3
  rw[show 8*(j/8)+j%8=j by omega]at h3
  have:decide (j%8<8)=true:=by simp;omega
  simpa[this]using h3
 ·rw[Nat.testBit_lt_two_pow (Nat.lt_of_lt_of_le ha (Nat.pow_le_pow_right (n:=2) (by decide) (by omega:64≤j))),Nat.testBit_lt_two_pow (Nat.lt_of_lt_of_le hb (Nat.pow_le_pow_right (n:=2) (by decide) (by omega:64≤j)))]
theorem zA:∀{a b:List Nat},(∀w∈a,w<18446744073709551616)→(∀w∈b,w<18446744073709551616)→gg a=gg b→a=b
 | [],[],_,_,_=>rfl
 | [],y::b,_,_,h=>by have:=congrArg List.length h;simp[gg,fk]at this;omega
 |x::a,[],_,_,h=>by have:=congrArg List.length h;simp[gg,fk]at this
 |x::a,y::b,ha,hb,h=>by
  simp only[gg,List.flatMap_cons]at h
  obtain⟨h1,h2⟩:=List.append_inj h (by rw[fk,fk])
  rw[B7 (ha x (by simp)) (hb y (by simp)) h1,zA (fun w hw=>ha w (by simp[hw])) (fun w hw=>hb w (by simp[hw])) h2]
theorem fA.key_inj{n:Nat}{a b:List Nat}(ha:fA n a)(hb:fA n b)(h:gg a=gg b):a=b:=zA (fun w hw=>ha.lt hw) (fun w hw=>hb.lt hw) h
abbrev Fs:=List (List Nat)
def add(l:Fs)(t:List Nat):Fs:=if t∈l then l else l++[t]
def lV(L:Fs):Fs:=L.foldl add []
def given(n:Nat)(l:Fs)(v:Nat):Fs:=l.foldl (fun acc t=>add (add acc (kz n t v false)) (kz n t v true)) []
def nodes(n:Nat)(l:Fs)(v:Nat):Fs:=l.filter fun t=>dep n t v
def st(n:Nat)(L:Fs)(A:Nat):Nat→Fs
 |0=>lV L
 |k+1=>if A.testBit k then given n (st n L A k) k else st n L A k
def lvl(n:Nat)(L:Fs)(A v:Nat):Nat:=(nodes n (st n L A n) v).length
theorem xH{l:Fs}{t x:List Nat}:x∈add l t↔x∈l∨x=t:=by
 unfold add
 split
 ·constructor
  ·exact .inl
  ·rintro(h|rfl)<;>assumption
 ·simp
theorem qX{l:Fs}{t:List Nat}(h:l.Nodup):(add l t).Nodup:=by
 unfold add
 split
 ·exact h
 ·rename_i hn
  rw[List.nodup_append]
  exact⟨h,by simp,fun a ha b hb=>by simp at hb;subst hb;rintro rfl;exact hn ha⟩
theorem jJ{α:Type}(f:α→Fs→Fs)(g:α→List Nat→Prop)(hf:∀a l x,x∈f a l↔x∈l∨g a x):∀(L:List α) (acc:Fs) (x:List Nat),x∈L.foldl (fun acc a=>f a acc) acc↔x∈acc∨∃a∈L,g a x
 | [],acc,x=>by simp
 |a::L,acc,x=>by
  rw[List.foldl_cons,jJ f g hf L,hf]
  simp only[List.mem_cons,exists_eq_or_imp,or_assoc]
theorem g6{α:Type}(f:α→Fs→Fs)(hf:∀a l,l.Nodup→(f a l).Nodup):∀(L:List α) (acc:Fs),acc.Nodup→(L.foldl (fun acc a=>f a acc) acc).Nodup
 | [],acc,h=>h
 |a::L,acc,h=>g6 f hf L _ (hf a acc h)
theorem dK{L:Fs}{x:List Nat}:x∈lV L↔x∈L:=by
 unfold lV
 have:=jJ (fun a l=>add l a) (fun a x=>x=a) (fun a l x=>xH) L [] x
 rw[this];simp
theorem kK(L:Fs):(lV L).Nodup:=g6 (fun a l=>add l a) (fun a l h=>qX h) L [] (by simp)
theorem nr{n v:Nat}{l:Fs}{x:List Nat}:x∈given n l v↔∃t∈l,∃b,x=kz n t v b:=by
 unfold given
 have:=jJ (fun t acc=>add (add acc (kz n t v false)) (kz n t v true)) (fun t x=>∃b,x=kz n t v b) (fun t l x=>by
  rw[xH,xH]
  constructor
  ·rintro((h|h)|h)
   ·exact .inl h
   ·exact .inr ⟨false,h⟩
   ·exact .inr ⟨true,h⟩
  ·rintro(h|⟨b,h⟩)
   ·exact .inl (.inl h)
   ·cases b
    ·exact .inl (.inr h)
    ·exact .inr h) l [] x
 rw[this];simp
theorem Ac(n:Nat)(l:Fs)(v:Nat):(given n l v).Nodup:=g6 (fun t acc=>add (add acc (kz n t v false)) (kz n t v true)) (fun a l h=>qX (qX h)) l [] (by simp)
theorem pz{a b:Fs}(ha:a.Nodup)(hb:b.Nodup)(h:∀x,x∈a↔x∈b):a.Perm b:=(List.perm_ext_iff_of_nodup ha hb).2 h
theorem td{n v:Nat}{a b:Fs}(h:a.Perm b):(nodes n a v).length=(nodes n b v).length:=(h.filter _).length_eq
theorem oQ(l:Fs)(t:List Nat):(add l t).length≤l.length+1:=by unfold add;split<;>simp
theorem gC{α:Type}(f:α→Fs→Fs)(c:Nat)(hf:∀a l,(f a l).length≤l.length+c):∀(L:List α) (acc:Fs),(L.foldl (fun acc a=>f a acc) acc).length≤acc.length+c*L.length
 | [],acc=>by simp
 |a::L,acc=>by
  have h1:=gC f c hf L (f a acc)
  have h2:=hf a acc
  rw[List.foldl_cons,List.length_cons,Nat.mul_succ];omega
end aG
