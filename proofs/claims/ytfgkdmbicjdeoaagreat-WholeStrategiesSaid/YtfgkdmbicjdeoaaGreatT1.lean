import Derived.WalkKit
import Derived.Still
import Derived.KernelRfl
import Derived.Deep.Quiet
import Derived.OrdersHeld
import Derived.ProofKit
import Derived.OpenShut
import Derived.Below
set_option linter.unusedVariables false
set_option linter.unusedSimpArgs false
set_option linter.unusedSectionVars false
theorem zM{α:Type _}{x:α}{l:List α}(h:x∈l:=by repeat (first|assumption|exact List.Mem.head _|apply List.Mem.tail|apply List.mem_append_right)):x∈l:=h
theorem zS{α:Type _}{A B:List α}(h:∀x∈A,x∈B:=by intro _ h;repeat (first|exact h|apply List.mem_cons_of_mem|apply List.mem_append_right)):∀x∈A,x∈B:=h
namespace Go.Sx
open Go
abbrev Hp:=List (Nat×Obj)
structure Gh where
 w:World
 fr:Hp
def Gh.add(g:Gh)(F:Hp):Gh:=⟨g.w,F++g.fr⟩
structure Own(g:Gh)(H:Hp)(w:World):Prop where
 os:w.os=g.w.os
 out:w.output=g.w.output
 tape:w.tape=g.w.tape
 nd:((H++g.fr).map Prod.fst).Nodup
 uJ:∀x,x∈H++g.fr→w.heap[x.1]? =some x.2
theorem Own.has{g:Gh}{H:Hp}{w:World}(h:Own g H w)(x:Nat×Obj)(hx:x∈H):w.heap[x.1]? =some x.2:=h.uJ x (List.mem_append_left _ hx)
theorem Own.perm{g:Gh}{H H':Hp}{w:World}(h:Own g H w)(p:H.Perm H'):Own g H' w:=
 ⟨h.os,h.out,h.tape,((p.append_right _).map _).nodup_iff.1 h.nd,fun x hx=>h.uJ x ((p.append_right _).mem_iff.2 hx)⟩
theorem Own.right{g:Gh}{A B:Hp}{w:World}(h:Own g (A++B) w):Own g B w:=
 ⟨h.os,h.out,h.tape,by have:=h.nd;rw[List.append_assoc,List.map_append]at this;exact(List.nodup_append.1 this).2.1,fun x hx=>h.uJ x (by rw[List.append_assoc];exact List.mem_append_right _ hx)⟩
theorem Own.left{g:Gh}{A B:Hp}{w:World}(h:Own g (A++B) w):Own g A w:=Own.right (A:=B) (h.perm List.perm_append_comm)
theorem Own.tail{g:Gh}{x:Nat×Obj}{B:Hp}{w:World}(h:Own g (x::B) w):Own g B w:=Own.right (A:=[x]) h
theorem Own.eL{g:Gh}{A F:Hp}{w:World}:Own g (A++F) w↔Own (g.add F) A w:=by
 constructor
 ·intro h;exact⟨h.os,h.out,h.tape,by have:=h.nd;rw[List.append_assoc]at this;exact this,fun x hx=>h.uJ x (by rw[List.append_assoc];exact hx)⟩
 ·intro h;exact⟨h.os,h.out,h.tape,by have:=h.nd;rw[List.append_assoc];exact this,fun x hx=>h.uJ x (by rw[List.append_assoc]at hx;exact hx)⟩
def aM(H H':Hp):Prop:=∀g w,Own g H w→Own g H' w
theorem aM.refl(H:Hp):aM H H:=fun _ _ h=>h
theorem aM.trans{A B C:Hp}(h:aM A B)(h':aM B C):aM A C:=fun g w x=>h' g w (h g w x)
theorem aM.perm{A B:Hp}(p:A.Perm B):aM A B:=fun _ _ h=>h.perm p
theorem aM.right{A B:Hp}:aM (A++B) B:=fun _ _ h=>h.right
theorem aM.left{A B:Hp}:aM (A++B) A:=fun _ _ h=>h.left
theorem aM.tail{x:Nat×Obj}{B:Hp}:aM (x::B) B:=fun _ _ h=>h.tail
theorem aM.frame{A B:Hp}(h:aM A B)(F:Hp):aM (A++F) (B++F):=fun _ _ o=>Own.eL.2 (h _ _ (Own.eL.1 o))
theorem aM.cQ{A B:Hp}(h:aM A B)(F:Hp):aM (F++A) (F++B):=(aM.perm List.perm_append_comm).trans ((h.frame F).trans (.perm List.perm_append_comm))
inductive cD(b:Nat)(o o':Obj):Hp→Hp→Prop
 |head (R:Hp):cD b o o' ((b,o)::R) ((b,o')::R)
 |tail {x:Nat×Obj} {R R':Hp} (h:cD b o o' R R'):cD b o o' (x::R) (x::R')
theorem cD.mem{b:Nat}{o o':Obj}{H H':Hp}(h:cD b o o' H H'):(b,o)∈H:=by
 induction h with
 |head R=>simp
 |tail _ ih=>simp[ih]
theorem cD.keys{b:Nat}{o o':Obj}{H H':Hp}(h:cD b o o' H H'):H'.map Prod.fst=H.map Prod.fst:=by
 induction h with
 |head R=>simp
 |tail _ ih=>simp[ih]
theorem cD.Hq{b:Nat}{o o':Obj}{H H':Hp}(h:cD b o o' H H')(nd:(H.map Prod.fst).Nodup):∀x∈H',x=(b,o')∨(x∈H∧x.1≠b):=by
 induction h with
 |head R=>
  intro x hx
  rcases List.mem_cons.1 hx with rfl|hx
  ·exact .inl rfl
  ·refine .inr ⟨by simp[hx],fun e=>?_⟩
   simp only[List.map_cons,List.nodup_cons]at nd
   exact nd.1 (e▸List.mem_map_of_mem hx)
 | @tail y R R' h ih=>
  intro x hx
  simp only[List.map_cons,List.nodup_cons]at nd
  rcases List.mem_cons.1 hx with rfl|hx
  ·refine .inr ⟨by simp,fun e=>?_⟩
   exact nd.1 (e▸List.mem_map_of_mem (f:=Prod.fst) h.mem)
  ·rcases ih nd.2 x hx with h1|h1
   ·exact .inl h1
   ·exact .inr ⟨by simp[h1.1],h1.2⟩
theorem cD.append{b:Nat}{o o':Obj}{C C':Hp}(h:cD b o o' C C')(B:Hp):cD b o o' (C++B) (C'++B):=by
 induction h with
 |head R=>exact .head _
 |tail _ ih=>exact .tail ih
theorem Own.bS{g:Gh}{H H':Hp}{w w':World}{b:Nat}{o o':Obj}(h:Own g H w)(u:cD b o o' H H')
 (hos:w'.os=w.os)(hout:w'.output=w.output)(KX:w'.tape=w.tape)
 (hb:w'.heap[b]? =some o')(hr:∀c,c≠b→w'.heap[c]? =w.heap[c]?):Own g H' w':=
 ⟨hos.trans h.os,hout.trans h.out,KX.trans h.tape,by rw[(u.append g.fr).keys];exact h.nd,fun x hx=>by
  rcases(u.append g.fr).Hq h.nd x hx with rfl|⟨h1,h2⟩
  ·exact hb
  ·rw[hr _ h2];exact h.uJ x h1⟩
theorem Own.same{g:Gh}{H:Hp}{w w':World}(h:Own g H w)(hos:w'.os=w.os)(hout:w'.output=w.output)(KX:w'.tape=w.tape)
 (hr:∀(c:Nat) (o:Obj),w.heap[c]? =some o→w'.heap[c]? =some o):Own g H w':=
 ⟨hos.trans h.os,hout.trans h.out,KX.trans h.tape,h.nd,fun x hx=>hr _ _ (h.uJ x hx)⟩
theorem Own.drew{g:Gh}{H:Hp}{w:World}(h:Own g H w):Own g H w.drew:=h.same rfl rfl rfl fun _ _ h=>h
theorem Own.v5{g:Gh}{H:Hp}{w:World}(h:Own g H w):Own g H {w with drawn:=w.drawn+1}:=h.drew
theorem Own.XG{g:Gh}{H:Hp}{w:World}(h:Own g H w){x:Nat×Obj}(hx:x∈H++g.fr):x.1<w.heap.size:=by
 have:=h.uJ x hx
 exact(Array.getElem?_eq_some_iff.1 this).1
theorem Own.lt{g:Gh}{H:Hp}{w:World}(h:Own g H w){x:Nat×Obj}(hx:x∈H):x.1<w.heap.size:=h.XG (List.mem_append_left _ hx)
theorem Own.L4{g:Gh}{H:Hp}{w:World}(h:Own g H w):w.heap.size∉(H++g.fr).map Prod.fst:=by
 intro hm
 obtain⟨x,hx,e⟩:=List.mem_map.1 hm
 have:=h.XG hx
 omega
theorem Own.fresh{g:Gh}{H:Hp}{w:World}(h:Own g H w):w.heap.size∉H.map Prod.fst:=fun hm=>h.L4 (by rw[List.map_append];exact List.mem_append_left _ hm)
theorem Own.alloc{g:Gh}{H:Hp}{w:World}(h:Own g H w)(o:Obj):Own g ((w.heap.size,o)::H) (w.alloc o):=by
 refine⟨h.os,h.out,h.tape,?_,?_⟩
 ·rw[List.cons_append,List.map_cons,List.nodup_cons];exact⟨h.L4,h.nd⟩
 ·intro x hx
  rw[List.cons_append]at hx
  rcases List.mem_cons.1 hx with rfl|hx
  ·show(w.heap.push o)[w.heap.size]? =some o
   rw[Array.getElem?_push,if_pos rfl]
  ·have:=h.uJ x hx
   have hl:=h.XG hx
   show(w.heap.push o)[x.1]? =some x.2
   rw[Array.getElem?_push,if_neg (by omega)]
   exact this
theorem Own.cell{g:Gh}{H:Hp}{w:World}(h:Own g H w){b:Nat}{c:Array Value}{T:TypeId}{fz:Nat×Nat}(hm:(b,Obj.cells c T fz)∈H)(off:Nat):
  w.cell? ⟨b,off,none⟩=c[off]? :=by
 have:=h.has _ hm
 simp only[World.cell?]
 simp only at this
 rw[this]
 rfl
theorem Own.frozen{g:Gh}{H:Hp}{w:World}(h:Own g H w){b:Nat}{c:Array Value}{T:TypeId}(hm:(b,Obj.cells c T (0,0))∈H)(off:Nat)(sp:Option Nat):
  w.frozen? ⟨b,off,sp⟩=false:=by
 have:=h.has _ hm
 simp only at this
 simp[World.frozen?,this]
def iy(c:Array Value)(off:Nat):List Value→Array Value
 | []=>c
 |v::r=>iy (c.setIfInBounds off v) (off+1) r
theorem Own.setCell{g:Gh}{H:Hp}{w:World}(h:Own g H w){b:Nat}{c:Array Value}{T:TypeId}{fz:Nat×Nat}{H':Hp}(off:Nat)(v:Value)
 (u:cD b (.cells c T fz) (.cells (c.setIfInBounds off v) T fz) H H'):Own g H' (w.setCell ⟨b,off,none⟩ v):=by
 refine h.bS u rfl rfl rfl ?_ ?_
 ·have:=h.has _ u.mem
  simp only at this
  simp[World.setCell,Array.getElem?_modify,this]
 ·intro d hd
  simp only[World.setCell]
  rw[Array.getElem?_modify,if_neg (fun e=>hd (Eq.symm e))]
theorem cD.re{b:Nat}{o o':Obj}{H H':Hp}(u:cD b o o' H H')(o₁:Obj):∃H₁,cD b o o₁ H H₁∧cD b o₁ o' H₁ H':=by
 induction u with
 |head R=>exact⟨_,.head R,.head R⟩
 |tail _ ih=>obtain⟨H₁,u1,u2⟩:=ih;exact⟨_,.tail u1,.tail u2⟩
theorem fi{P:Program}{g:Gh}{b:Nat}{T:TypeId}(off:Nat):∀(l:List Value) (i:Nat) (c:Array Value) (H H':Hp) (w:World),Own g H w→
  cD b (.cells c T (0,0)) (.cells (iy c (off+i) l) T (0,0)) H H'→(∀v∈l,v.oneCell'=true)→off+i+l.length≤c.size→
  ∃w',(storeCells ⟨b,off,none⟩ l i).run P w=.ok () w'∧Own g H' w'
 | [],i,c,H,H',w,h,u,_,_=>by
  refine⟨w,rfl,?_⟩
  exact h.bS u rfl rfl rfl (h.has _ u.mem) fun _ _=>rfl
 |v::r,i,c,H,H',w,h,u,h1,hs=>by
  obtain⟨H₁,u1,u2⟩:=u.re (.cells (c.setIfInBounds (off+i) v) T (0,0))
  have jj:=h.setCell (off+i) v u1
  simp only[List.length_cons]at hs
  obtain⟨w',hr,ho⟩:=fi (P:=P) off r (i+1) (c.setIfInBounds (off+i) v) H₁ H' _ jj (by simpa[iy,Nat.add_assoc]using u2) (fun x hx=>h1 x (by simp[hx])) (by simp;omega)
  refine⟨w',?_,ho⟩
  have hc:w.cell? ⟨b,off+i,none⟩=some c[off+i]:=by
   rw[h.cell u.mem,Array.getElem?_eq_getElem]
  have hf:=h.frozen u.mem (off+i) none
  have ha:Addr.add ⟨b,off,none⟩ i=⟨b,off+i,none⟩:=Addr.add_lit _ _ _
  simp only[storeCells,Sem.run_bind,ha,run_store P w _ v .plain (h1 v (by simp)),hc,hf,Bool.false_eq_true,if_false,Result.andThen_ok,hr]
theorem iN{P:Program}{g:Gh}{H:Hp}{w:World}(h:Own g H w){b:Nat}{c:Array Value}{T:TypeId}{fz:Nat×Nat}(hm:(b,Obj.cells c T fz)∈H)
 (off n:Nat)(hs:off+n≤c.size):(loadCells ⟨b,off,none⟩ n).run P w=.ok (c.extract off (off+n)) w:=by
 have hl:((c.extract off (off+n)).toList).length=n:=by simp;omega
 have:=run_loadCells_list (P:=P) w ⟨b,off,none⟩ (c.extract off (off+n)).toList (fun j v hj=>by
  rw[Addr.add_lit,h.cell hm]
  have Nh:j<n:=by
   have:=(List.getElem?_eq_some_iff.1 hj).1
   omega
  rw[Array.getElem?_toList,Array.getElem?_extract]at hj
  rw[if_pos (by omega)]at hj
  exact hj)
 rw[hl]at this
 exact this
end Go.Sx
namespace Go.Sx
open Go
abbrev Fr:=Nat→Value
def bS(fr:Fr)(d:Option Nat)(v:Value):Fr:=
 match d with
 |none=>fr
 |some d=>fun s=>cond (Nat.beq s d) v (fr s)
def ev(fr:Fr):Operand→Value
 | .tmp t=>fr t
 | .const v=>v
 | .global g=>.pointer (some ⟨g,0,none⟩)
 | .func f=>.func (.func f) #[] #[]
def dG(n:Nat):Option Nat→Bool
 |none=>true
 |some d=>Nat.blt d n
structure bX(ds:List Deferred)(n:Nat)(a:Act)(fr:Fr):Prop where
 defers:a.defers=ds
 size:a.tmps.size=n
 get:∀s,a.tmps.getD s undef=fr s
theorem bX.eval{ds:List Deferred}{n:Nat}{a:Act}{fr:Fr}(h:bX ds n a fr):a.eval=ev fr:=by
 funext x
 cases x<;>simp only[Act.eval,ev]
 exact h.get _
theorem bX.put{ds:List Deferred}{n:Nat}{a:Act}{fr:Fr}(h:bX ds n a fr){d:Option Nat}(hd:dG n d=true)(v:Value):bX ds n (a.put d v) (bS fr d v):=by
 cases d with
 |none=>exact h
 |some d=>
  have hlt:d<n:=by simpa[dG,Nat.blt_eq]using hd
  refine⟨h.defers,by simp[Act.put,h.size],fun s=>?_⟩
  simp only[Act.put,bS]
  have hs:=h.size
  by_cases e:s=d
  ·subst e;simp[hs,hlt]
  ·have e':d≠s:=fun x=>e x.symm
   have hb:Nat.beq s d=false:=by
    cases hh:Nat.beq s d
    ·rfl
    ·exact absurd (Nat.eq_of_beq_eq_true hh) e
   rw[hb]
   simp only[cond_false]
   have:=h.get s
   simpa[Array.getD_eq_getD_getElem?,Array.getElem?_setIfInBounds_ne e']using this
def bW(P:Program)(g:Gh)(f:FuncId)(args:Array Value)(H:Hp)(R:Ending→Hp→Prop):Prop:=
 ∀w,Own g H w→Calls P f args w fun e w'=>∃H',Own g H' w'∧R e H'
theorem bW.mono{P:Program}{g:Gh}{f:FuncId}{args:Array Value}{H:Hp}{R R':Ending→Hp→Prop}(h:bW P g f args H R)(hr:∀e H',R e H'→R' e H'):
  bW P g f args H R':=fun w hw=>(h w hw).mono fun e w' ⟨H',o,r⟩=>⟨H',o,hr _ _ r⟩
theorem bW.pre{P:Program}{g:Gh}{f:FuncId}{args:Array Value}{H H':Hp}{R:Ending→Hp→Prop}(h:bW P g f args H' R)(he:aM H H'):
  bW P g f args H R:=fun w hw=>h w (he _ _ hw)
theorem bW.post{P:Program}{g:Gh}{f:FuncId}{args:Array Value}{H:Hp}{R R':Ending→Hp→Prop}(h:bW P g f args H R)
 (hr:∀e H',R e H'→∃kZ,aM H' kZ∧R' e kZ):bW P g f args H R':=fun w hw=>(h w hw).mono fun e w' ⟨H',o,r⟩=>
 let ⟨kZ,en,r'⟩:=hr _ _ r;⟨kZ,en _ _ o,r'⟩
def Wo(K:Value→Hp→Prop)(KP:List PanicEntry→Hp→Prop):Ending→Hp→Prop
 | .returned v,H=>K v H
 | .panicked ch,H=>KP ch H
 | .outgrown,_=>False
def mM(P:Program)(g:Gh)(K:Value→Hp→Prop)(KP:List PanicEntry→Hp→Prop):Result Next→Prop
 | .ok (.value v) w=>∃H,Own g H w∧K v H
 | .ok .skip w=>∃H,Own g H w∧K undef H
 | .ok (.enter f args) w=>Calls P f args w fun e w'=>∃H,Own g H w'∧Wo K KP e H
 | .halt (.panic v) w=>∃H,Own g H w∧KP [{v,recovered:=false}] H
 |_=>False
def mJ(P:Program)(g:Gh)(o:Oper)(ρ:Operand→Value)(H:Hp)(K:Value→Hp→Prop)(KP:List PanicEntry→Hp→Prop):Prop:=
 ∀w,Own g H w→mM P g K KP ((execOp ρ o).run P w)
def cW(H:Hp)(o:Obj)(k:Nat→Hp→Prop):Prop:=∀b,b∉H.map Prod.fst→k b ((b,o)::H)
def ay(c a b:Value)(k:Value→Prop):Prop:=∃t,c=.bool t∧k (cond t a b)
def Ld(H:Hp)(p:Value)(k:Value→Prop):Prop:=
 ∃b off c T fz v,p=.pointer (some ⟨b,off,none⟩)∧(b,Obj.cells c T fz)∈H∧c[off]? =some v∧k v
def av(n:Nat)(H:Hp)(p:Value)(k:Value→Prop):Prop:=
 ∃b off c T fz,p=.pointer (some ⟨b,off,none⟩)∧(b,Obj.cells c T fz)∈H∧off+n≤c.size∧k (.agg (c.extract off (off+n)))
def St(n:Nat)(H:Hp)(p x:Value)(k:Hp→Prop):Prop:=
 ∃b off c T H',p=.pointer (some ⟨b,off,none⟩)∧x.cells.size=n∧off+n≤c.size∧(∀v∈x.cells.toList,v.oneCell'=true)∧
  cD b (.cells c T (0,0)) (.cells (iy c off x.cells.toList) T (0,0)) H H'∧k H'
inductive BK|num|bool|ptr|slice|map|func|str|other
def xN:TypeDesc→BK
 | .bool=>.bool
 | .int _=>.num
 | .pointer _=>.ptr
 | .slice _=>.slice
 | .map _ _=>.map
 | .func _ _ _=>.func
 | .string=>.str
 |_=>.other
def jb(op:BinOp)(k:IntKind)(a b:Int):Option Value:=
 match op with
 | .add=>some (.int k (k.wrap (a+b)))
 | .sub=>some (.int k (k.wrap (a-b)))
 | .mul=>some (.int k (k.wrap (a*b)))
 | .quo=>if b=0 then none else some (.int k (k.wrap (a.tdiv b)))
 | .rem=>if b=0 then none else some (.int k (a.tmod b))
 | .and=>some (.int k (bits .and k a b))
 | .or=>some (.int k (bits .or k a b))
 | .xor=>some (.int k (bits .xor k a b))
 | .andNot=>some (.int k (bits .andNot k a b))
 | .eql=>some (.bool (a==b))
 | .neq=>some (.bool (a !=b))
 | .lss=>some (.bool (decide (a<b)))
 | .leq=>some (.bool (decide (a≤b)))
 | .gtr=>some (.bool (decide (b<a)))
 | .geq=>some (.bool (decide (b≤a)))
 |_=>none
def eX(kd:BK)(op:BinOp)(x y:Value):Option Value:=
 match x with
 | .int k a=>
  match y with
  | .int k' b=>
   match op with
   | .shl=>if b<0 then none else some (.int k (k.wrap (a*2^(min b.toNat k.bits))))
   | .shr=>if b<0 then none else some (.int k (a.fdiv (2^(min b.toNat k.bits))))
   |op=>if k=k' then jb op k a b else none
  |_=>none
 | .bool a=>
  match kd,op,y with
  | .bool,.eql,.bool b=>some (.bool (a==b))
  | .bool,.neq,.bool b=>some (.bool (!(a==b)))
  |_,_,_=>none
 | .string a=>
  match op,y with
  | .eql,.string b=>some (.bool (a.toList==b.toList))
  | .neq,.string b=>some (.bool (!(a.toList==b.toList)))
  |_,_=>none
 | .pointer a=>
  match kd,op,y with
  | .ptr,.eql,.pointer b=>if a.isNone∨b.isNone then some (.bool (a.isNone&&b.isNone))else none
  | .ptr,.neq,.pointer b=>if a.isNone∨b.isNone then some (.bool (!(a.isNone&&b.isNone)))else none
  |_,_,_=>none
 | .slice a n c=>
  match kd,op,y with
  | .slice,.eql,.slice b _ _=>if a.isNone∨b.isNone then some (.bool (a.isNone&&b.isNone))else none
  | .slice,.neq,.slice b _ _=>if a.isNone∨b.isNone then some (.bool (!(a.isNone&&b.isNone)))else none
  |_,_,_=>none
 | .map a=>
  match kd,op,y with
  | .map,.eql,.map b=>if a.isNone∨b.isNone then some (.bool (a.isNone&&b.isNone))else none
  | .map,.neq,.map b=>if a.isNone∨b.isNone then some (.bool (!(a.isNone&&b.isNone)))else none
  |_,_,_=>none
 |_=>none
def aa(kd:BK)(op:BinOp)(x y:Value)(k:Value→Prop):Prop:=∃v,eX kd op x y=some v∧k v
def WA(op:UnOp)(x:Value):Option Value:=
 match op,x with
 | .neg,.int k n=>some (.int k (k.wrap (0-n)))
 | .not,.bool b=>some (.bool !b)
 | .xor,.int k n=>some (.int k (bits .xor k (if k.signed then-1 else k.max) n))
 |_,_=>none
def Un(op:UnOp)(x:Value)(k:Value→Prop):Prop:=∃v,WA op x=some v∧k v
def aQ(kd:IntKind)(x:Value)(k:Value→Prop):Prop:=∃j n,x=.int j n∧k (.int kd (kd.wrap n))
def ag(off:Nat)(x:Value)(k:Value→Prop):Prop:=∃b o,x=.pointer (some ⟨b,o,none⟩)∧k (.pointer (some ⟨b,o+off,none⟩))
def Gx(off:Nat)(x:Value)(k:Value→Prop):Prop:=∃cs v,x=.agg cs∧cs[off]? =some v∧k v
def PU(off n:Nat)(x:Value)(k:Value→Prop):Prop:=∃cs,x=.agg cs∧k (.agg (cs.extract off (off+n)))
def an(size:Nat)(x ix:Value)(k:Value→Prop):Prop:=
 ∃b o n c kd i,x=.slice (some ⟨b,o,none⟩) n c∧ix=.int kd i∧0≤i∧i<(n:Int)∧k (.pointer (some ⟨b,o+i.toNat*size,none⟩))
def gD(len size:Nat)(x ix:Value)(k:Value→Prop):Prop:=
 ∃b o kd i,x=.pointer (some ⟨b,o,none⟩)∧ix=.int kd i∧0≤i∧i<(len:Int)∧k (.pointer (some ⟨b,o+i.toNat*size,none⟩))
def Ol:Option Value→Option Int
 |none=>some 0
 |some (.int _ n)=>some n
 |_=>none
def HJ(len:Nat):Option Value→Option Int
 |none=>some len
 |some (.int _ n)=>some n
 |_=>none
def ef(size:Nat)(x:Value)(lo hi:Option Value)(k:Value→Prop):Prop:=
 ∃a n c l h,x=.slice a n c∧Ol lo=some l∧HJ n hi=some h∧0≤l∧l≤h∧h≤(c:Int)∧
  k (.slice (if c=l.toNat then a else a.map (·.add (l.toNat*size))) (h.toNat-l.toNat) (c-l.toNat))
def Ext(i:Nat)(x:Value)(k:Value→Prop):Prop:=∃vs v,x=.tuple vs∧vs[i]? =some v∧k v
def aF(x:Value)(k:Value→Prop):Prop:=∃a n c,x=.slice a n c∧k (.int .i64 n)
def xW(H:Hp)(x:Value)(k:Value→Prop):Prop:=
 ∃m,x=.map m∧((m=none∧k (.int .i64 0))∨∃b es clock,m=some b∧(b,Obj.map es clock)∈H∧k (.int .i64 es.size))
def Cells(H:Hp)(base:Option Addr)(n:Nat)(cs:Array Value):Prop:=
 match base with
 |none=>cs=#[]
 |some a=>(n=0∧cs=#[])∨(a.spot=none∧∃c T fz,(a.block,Obj.cells c T fz)∈H∧a.off+n≤c.size∧cs=c.extract a.off (a.off+n))
def App(P:Program)(elem size bytes:Nat)(zero:Value)(H:Hp)(s x:Value)(k:Value→Hp→Prop):Prop:=
 ∃base n cap xb m xc olds news,s=.slice base n cap∧x=.slice xb m xc∧Cells H base (n*size) olds∧Cells H xb (m*size) news∧
  news.size=m*size∧olds.size=n*size∧(∀v∈news.toList,v.oneCell'=true)∧
  (n+m≤cap→match base with
   |none=>k (.slice none (n+m) cap) H
   |some a=>∃c T H',a.spot=none∧a.off+n*size+m*size≤c.size∧cD a.block (.cells c T (0,0)) (.cells (iy c (a.off+n*size) news.toList) T (0,0)) H H'∧k (.slice (some a) (n+m) cap) H')∧
  (cap<n+m→(n+m)*bytes≤140737488355328∧(n+m:Nat)≤9223372036854775807∧∀fk,n+m≤fk→
   cW H (.cells (olds++news++Builtin.zeroCells zero.cells (fk-(n+m))) elem (0,0)) fun b H'=>∃kZ,aM H' kZ∧k (.slice (some ⟨b,0,none⟩) (n+m) fk) kZ)
def cO(elem size bytes:Nat)(zero:Value)(H:Hp)(l c:Value)(k:Value→Hp→Prop):Prop:=
 ∃kl kc ln cn,l=.int kl (ln:Nat)∧c=.int kc (cn:Nat)∧ln≤cn∧(cn:Int)≤9223372036854775807∧cn*bytes≤281474976710656∧
  cW H (.cells (madeCells zero.cells (cn*size)) elem (0,0)) fun b H'=>k (.slice (some ⟨b,0,none⟩) ln cn) H'
def jQ(H:Hp)(k:Value→Hp→Prop):Prop:=cW H (.map #[] 0) fun b H'=>k (.map (some b)) H'
def Gu(H:Hp)(m:Value)(es:Array MapEntry):Prop:=(m=.map none∧es=#[])∨∃b clock,m=.map (some b)∧(b,Obj.map es clock)∈H
def mK(kd:TypeDesc)(zero:Value)(ok:Bool)(H:Hp)(m key:Value)(k:Value→Prop):Prop:=
 ∃es r,Gu H m es∧Instr.findNow kd key es.toList 0=some r∧
  k (match r with
   |some (_,v)=>cond ok (.tuple #[v,.bool true]) v
   |none=>cond ok (.tuple #[zero,.bool false]) zero)
def ei(kd:TypeDesc)(H:Hp)(m key val:Value)(k:Hp→Prop):Prop:=
 ∃b es clock r,m=.map (some b)∧Instr.findNow kd key es.toList 0=some r∧
  match r with
  |some (i,_)=>(∀e,es[i]? =some e→Instr.sameBits 10000 e.key key=true)∧i<es.size∧∃H',cD b (.map es clock) (.map (es.modify i fun e=>{e with key,val}) clock) H H'∧k H'
  |none=>∃H',cD b (.map es clock) (.map (es.push {key,val,born:=clock}) (clock+1)) H H'∧k H'
def oF(kd:TypeDesc)(H:Hp)(m key:Value)(k:Hp→Prop):Prop:=
 (m=.map none∧k H)∨∃b es clock r,m=.map (some b)∧Instr.findNow kd key es.toList 0=some r∧
  match r with
  |some (i,_)=>∃H',cD b (.map es clock) (.map (es.eraseIdxIfInBounds i) clock) H H'∧k H'
  |none=>(b,Obj.map es clock)∈H∧k H
def bu(P:Program)(f:FuncId):Bool:=
 match P.funcs[f]? with
 |none=>false
 |some fn=> !(fn.name== "runtime.NumGoroutine") &&fn.body.isSome
def ae(P:Program)(g:Gh)(f:FuncId)(args:Array Value)(H:Hp)(K:Value→Hp→Prop)(KP:List PanicEntry→Hp→Prop):Prop:=
 bW P g f args H (Wo K KP)
def bI(P:Program)(g:Gh)(fv:Value)(args:Array Value)(H:Hp)(K:Value→Hp→Prop)(KP:List PanicEntry→Hp→Prop):Prop:=
 ∃f first captured,fv=.func (.func f) first captured∧bu P f=true∧ae P g f (first++args++captured) H K KP
def xY(P:Program)(kt:TypeId)(x y:Value)(b:Bool):Prop:=∀w,(Op.equal kt x y).run P w=.ok b w
def jW(P:Program)(kt:TypeId)(x:Value):Prop:=∀e w,(Instr.checkKey e 10000 kt x).run P w=.ok () w
def kS(P:Program)(kt:TypeId)(key:Value):List MapEntry→Nat→Option (Nat×Value)→Prop
 | [],_,r=>r=none
 |e::es,i,r=>∃b,xY P kt key e.key b∧(b=true→r=some (i,e.val))∧(b=false→kS P kt key es (i+1) r)
def iI(P:Program)(kt:TypeId)(zero:Value)(ok:Bool)(H:Hp)(m key:Value)(k:Value→Prop):Prop:=
 ∃es r,Gu H m es∧jW P kt key∧kS P kt key es.toList 0 r∧
  k (match r with
   |some (_,v)=>cond ok (.tuple #[v,.bool true]) v
   |none=>cond ok (.tuple #[zero,.bool false]) zero)
def gn(P:Program)(kt:TypeId)(H:Hp)(m key val:Value)(k:Hp→Prop):Prop:=
 ∃b es clock r,m=.map (some b)∧jW P kt key∧kS P kt key es.toList 0 r∧
  match r with
  |some (i,_)=>(∀e,es[i]? =some e→Instr.sameBits 10000 e.key key=true)∧i<es.size∧∃H',cD b (.map es clock) (.map (es.modify i fun e=>{e with key,val}) clock) H H'∧k H'
  |none=>∃H',cD b (.map es clock) (.map (es.push {key,val,born:=clock}) (clock+1)) H H'∧k H'
def pR(P:Program)(kt:TypeId)(H:Hp)(m key:Value)(k:Hp→Prop):Prop:=
 jW P kt key∧((m=.map none∧k H)∨∃b es clock r,m=.map (some b)∧kS P kt key es.toList 0 r∧
  match r with
  |some (i,_)=>∃H',cD b (.map es clock) (.map (es.eraseIdxIfInBounds i) clock) H H'∧k H'
  |none=>(b,Obj.map es clock)∈H∧k H)
def TU(H:Hp)(x:Value)(k:Value→Hp→Prop):Prop:=
 (x=.map none∧cW H (.mapIter none 0 #[] 0) fun b H'=>k (.pointer (some ⟨b,0,none⟩)) H')∨
 ∃m es clock,x=.map (some m)∧(m,Obj.map es clock)∈H∧cW H (.mapIter (some m) clock #[] clock) fun b H'=>k (.pointer (some ⟨b,0,none⟩)) H'
def S6(H:Hp)(it:Value)(k:Value→Hp→Prop):Prop:=
 ∃b mo since seen last,it=.pointer (some ⟨b,0,none⟩)∧(b,Obj.mapIter mo since seen last)∈H∧
  match mo with
  |none=>k (.tuple #[.bool false]) H
  |some m=>∃es clock,(m,Obj.map es clock)∈H∧(∀e∈es.toList,e.born<since∧e.born<last)∧
   (∀e∈es.toList,e.born∉seen→∃H',cD b (.mapIter (some m) since seen last) (.mapIter (some m) since (seen.push e.born) clock) H H'∧k (.tuple #[.bool true,e.key,e.val]) H')∧
   ((∀e∈es.toList,e.born∈seen)→k (.tuple #[.bool false]) H)
def I8(H:Hp)(it:Value)(k:Value→Prop):Prop:=
 ∃b m since seen stamp clock es e,it=.pointer (some ⟨b,0,none⟩)∧(b,Obj.mapIter (some m) since seen clock)∈H∧seen.back?=some stamp∧(m,Obj.map es clock)∈H∧es.find? (·.born==stamp)=some e∧k (.tuple #[e.key,e.val])
def An(x y:Value)(k:Value→Prop):Prop:=∃kd a b,x=.int kd a∧y=.int kd b∧k (.int kd (if b>a then b else a))
def S7(x y:Value)(k:Value→Prop):Prop:=∃kd a b,x=.int kd a∧y=.int kd b∧k (.int kd (if b<a then b else a))
def ji(H:Hp)(x:Value)(k:Value→Prop):Prop:=
 ∃base n c,∃bs:List UInt8,x=.slice base n c∧Cells H base n ((bs.map fun b=>Value.int .u8 b.toNat).toArray)∧bs.length=n∧k (.string ⟨bs.toArray⟩)
def QY(x i:Value)(k:Value→Prop):Prop:=∃s kd j b,x=.string s∧i=.int kd j∧0≤j∧s[j.toNat]? =some b∧k (.int .u8 b.toNat)
def S8(x:Value)(k:Value→Prop):Prop:=∃s,x=.string s∧k (.int .i64 s.size)
def plainKey:TypeDesc→Bool
 | .int _| .string| .bool=>true
 |_=>false
def cu:TypeDesc→Bool
 | .struct _| .array _ _=>true
 |_=>false
end Go.Sx
namespace Go.Sx
open Go
section
variable {P:Program} {g:Gh} {H:Hp} {K:Value→Hp→Prop} {KP:List PanicEntry→Hp→Prop}
theorem dj{t:TypeId}{i:TypeInfo}{z:Value}(hi:P.info? t=some i)(hz:i.zero=some z)(w:World):(zeroValue t).run P w=.ok z w:=by
 simp[zeroValue,typeInfo,hi,hz]
theorem mR{t:TypeId}{d:TypeDesc}(hd:P.underlying t=some d)(w:World):(isAgg t).run P w=.ok (cu d) w:=by
 simp only[isAgg,Sem.run_bind,run_underlying hd,Result.andThen_ok]
 cases d<;>rfl
theorem run_sizeOf{t:TypeId}{i:TypeInfo}(hi:P.info? t=some i)(w:World):(sizeOf t).run P w=.ok i.size w:=by
 simp[sizeOf,typeInfo,hi]
theorem Ld.run{p:Value}{k:Value→Prop}(h:Ld H p k){w:World}(hw:Own g H w){t:TypeId}{d:TypeDesc}(hd:P.underlying t=some d)(ha:cu d=false):
  ∃v,(Instr.loadAt t p).run P w=.ok v w∧k v:=by
 obtain⟨b,off,c,T,fz,v,rfl,hm,hc,hk⟩:=h
 refine⟨v,?_,hk⟩
 have:=hw.cell hm off
 rw[hc]at this
 simp only[Instr.loadAt,Instr.sureAddr,loadVar,Sem.run_bind,Sem.run_pure,Result.andThen_ok,mR hd,ha,Sem.run_ite,Bool.false_eq_true,if_false,run_load,this]
theorem av.run{n:Nat}{p:Value}{k:Value→Prop}(h:av n H p k){w:World}(hw:Own g H w){t:TypeId}{d:TypeDesc}(hd:P.underlying t=some d)(ha:cu d=true)
 {i:TypeInfo}(hi:P.info? t=some i)(hn:i.size=n):
  ∃v,(Instr.loadAt t p).run P w=.ok v w∧k v:=by
 obtain⟨b,off,c,T,fz,rfl,hm,hs,hk⟩:=h
 refine⟨_,?_,hk⟩
 simp only[Instr.loadAt,Instr.sureAddr,loadVar,Sem.run_bind,Sem.run_pure,Result.andThen_ok,mR hd,ha,Sem.run_ite,if_true,run_sizeOf hi,hn,iN hw hm off n hs]
theorem St.run{n:Nat}{p x:Value}{k:Hp→Prop}(h:St n H p x k){w:World}(hw:Own g H w){t:TypeId}{i:TypeInfo}(hi:P.info? t=some i)(hn:i.size=n):
  ∃w' H',(Instr.storeAt t p x).run P w=.ok () w'∧Own g H' w'∧k H':=by
 obtain⟨b,off,c,T,H',rfl,hx,hs,hv,hu,hk⟩:=h
 obtain⟨w',hr,ho⟩:=fi (P:=P) off x.cells.toList 0 c H H' w hw (by simpa using hu) hv (by simp;omega)
 refine⟨w',H',?_,ho,hk⟩
 simp only[Instr.storeAt,Instr.sureAddr,storeVar,Sem.run_bind,Sem.run_pure,Result.andThen_ok,run_sizeOf hi,hn,hx,ne_eq,not_true,if_false,hr]
theorem KO{op:BinOp}{k:IntKind}{a b:Int}{v:Value}{t:TypeId}(h:jb op k a b=some v)(w:World)(hs:op≠.shl∧op≠.shr):
  (binOp op t (.int k a) (.int k b)).run P w=.ok v w:=by
 cases op<;>simp[jb]at h hs<;>try subst h
 case quo=> 
  obtain⟨h0,rfl⟩:=h
  simp[binOp,Op.intDiv,h0]
 case rem=>
  obtain⟨h0,rfl⟩:=h
  simp[binOp,Op.intDiv,h0]
 all_goals first
  |simp[binOp,Op.intArith];done
  |simp[binOp,Op.intCmp];done
  |(simp only[binOp_and,binOp_or,binOp_xor,binOp_andNot,intBits_and,intBits_or,intBits_xor,intBits_andNot];rfl)
theorem gU{t:TypeId}{x y:Value}{r:Result Bool}{w:World}(h:∀d,(Op.equalIn (d+1) t x y).run P w=r):(Op.equal t x y).run P w=r:=h 9999
theorem run_eql_bool{t:TypeId}(hd:P.underlying t=some .bool)(a b:Bool)(w:World):(Op.equal t (.bool a) (.bool b)).run P w=.ok (a==b) w:=
 gU fun d=>by simp[Op.equalIn,run_underlying hd]
theorem yB{t e:TypeId}(hd:P.underlying t=some (.pointer e))(a b:Option Addr)(hab:a.isNone∨b.isNone)(w:World):(Op.equal t (.pointer a) (.pointer b)).run P w=.ok (a.isNone&&b.isNone) w:=
 gU fun d=>by cases a<;>cases b<;>simp at hab<;>simp[Op.equalIn,run_underlying hd]
theorem uB{t e:TypeId}(hd:P.underlying t=some (.slice e))(a b:Option Addr)(n c n' c':Nat)(hab:a.isNone∨b.isNone)(w:World):(Op.equal t (.slice a n c) (.slice b n' c')).run P w=.ok (a.isNone&&b.isNone) w:=
 gU fun d=>by cases a<;>cases b<;>simp at hab<;>simp[Op.equalIn,run_underlying hd]
theorem yC{t e f:TypeId}(hd:P.underlying t=some (.map e f))(a b:Option Nat)(hab:a.isNone∨b.isNone)(w:World):(Op.equal t (.map a) (.map b)).run P w=.ok (a.isNone&&b.isNone) w:=
 gU fun d=>by cases a<;>cases b<;>simp at hab<;>simp[Op.equalIn,run_underlying hd]
theorem Mv{kd:BK}{op:BinOp}{x y v:Value}{t:TypeId}{d:TypeDesc}(hd:P.underlying t=some d)(hk:xN d=kd)(h:eX kd op x y=some v)(w:World):
  (binOp op t x y).run P w=.ok v w:=by
 cases x<;>simp only[eX]at h<;>try (simp at h;done)
 case int k a=>
  cases y<;>simp only at h<;>try (simp at h;done)
  rename_i k' b
  by_cases hs:op=.shl
  ·subst hs
   simp only at h
   split at h
   ·simp at h
   ·simp only[Option.some.injEq]at h;subst h;rename_i hb;simp[binOp,Op.shift,hb]
  by_cases hs':op=.shr
  ·subst hs'
   simp only at h
   split at h
   ·simp at h
   ·simp only[Option.some.injEq]at h;subst h;rename_i hb;simp[binOp,Op.shift,hb]
  have h2:(if k=k' then jb op k a b else none)=some v:=by
   cases op<;>first|exact h|exact absurd rfl hs|exact absurd rfl hs'
  split at h2
  ·rename_i e;subst e;exact KO h2 w ⟨hs,hs'⟩
  ·simp at h2
 case bool a=>
  split at h<;>simp only[Option.some.injEq,reduceCtorEq]at h
  all_goals
   subst h
   have:d=.bool:=by cases d<;>simp_all[xN]
   subst this
   simp[binOp,run_eql_bool hd]
 case string a=>
  split at h<;>simp only[Option.some.injEq,reduceCtorEq]at h
  all_goals
   subst h
   first|rfl|(simp only[binOp,Op.stringOp];rfl)
 case pointer a=>
  split at h<;>try (simp at h;done)
  all_goals
   have:∃e,d=.pointer e:=by cases d<;>simp_all[xN]
   obtain⟨e,rfl⟩:=this
   split at h<;>simp only[Option.some.injEq,reduceCtorEq]at h
   subst h
   rename_i bb hab
   simp[binOp,yB hd _ _ hab]
 case slice a n c=>
  split at h<;>try (simp at h;done)
  all_goals
   have:∃e,d=.slice e:=by cases d<;>simp_all[xN]
   obtain⟨e,rfl⟩:=this
   split at h<;>simp only[Option.some.injEq,reduceCtorEq]at h
   subst h
   rename_i bb _ _ hab
   simp[binOp,uB hd _ _ _ _ _ _ hab]
 case map a=>
  split at h<;>try (simp at h;done)
  all_goals
   have:∃e f,d=.map e f:=by cases d<;>simp_all[xN]
   obtain⟨e,f,rfl⟩:=this
   split at h<;>simp only[Option.some.injEq,reduceCtorEq]at h
   subst h
   rename_i bb hab
   simp[binOp,yC hd _ _ hab]
theorem B9{kd:BK}{op:BinOp}{x y v:Value}{t:TypeId}{ox oy:Operand}(h:eX kd op x y=some v):eqGuard op t ox oy x y=pure ():=by
 cases x<;>simp[eX]at h<;>cases op<;>rfl
theorem aa.run{kd:BK}{op:BinOp}{x y:Value}{k:Value→Prop}(h:aa kd op x y k)(w:World){t:TypeId}{d:TypeDesc}{ox oy:Operand}(hd:P.underlying t=some d)(hk:xN d=kd):
  ∃v,(do eqGuard op t ox oy x y;binOp op t x y:Sem Value).run P w=.ok v w∧k v:=by
 obtain⟨v,hv,hkv⟩:=h
 refine⟨v,?_,hkv⟩
 rw[Sem.run_bind,B9 hv]
 simp only[Sem.run_pure,Result.andThen_ok]
 exact Mv hd hk hv w
theorem Un.run{op:UnOp}{x:Value}{k:Value→Prop}(h:Un op x k)(w:World):∃v,(Op.unary op x).run P w=.ok v w∧k v:=by
 obtain⟨v,hv,hk⟩:=h
 refine⟨v,?_,hk⟩
 cases op<;>cases x<;>simp[WA]at hv<;>subst hv
 all_goals first|(simp[Op.unary,Op.intArith];done)|rfl
theorem aQ.run{kd:IntKind}{x:Value}{k:Value→Prop}(h:aQ kd x k)(w:World){src dst:TypeId}{ds dd:TypeDesc}(hs:P.underlying src=some ds)(hd:P.underlying dst=some dd)(hk:dd=.int kd):
  ∃v,(convert src dst x).run P w=.ok v w∧k v:=by
 obtain⟨j,n,rfl,hkv⟩:=h
 subst hk
 refine⟨_,?_,hkv⟩
 simp only[convert,Sem.run_bind,run_underlying hs,run_underlying hd,Result.andThen_ok]
 cases ds<;>rfl
theorem ag.run{off:Nat}{x:Value}{k:Value→Prop}(h:ag off x k)(w:World){s:TypeId}{fs:Array Field}{f:Nat}{fl:Field}{i:TypeInfo}(hs:P.underlying s=some (.struct fs))(hf:fs[f]? =some fl)
 (hi:P.info? fl.type=some i)(h0:i.size≠0)(ho:fl.offset=off):∃v,(Instr.fieldAt s x f).run P w=.ok v w∧k v:=by
 obtain⟨b,o,rfl,hk⟩:=h
 refine⟨_,?_,hk⟩
 subst ho
 simp[Instr.fieldAt,run_underlying hs,hf,Instr.sureAddr,fieldPlace,run_sizeOf hi,h0,Addr.add_lit]
theorem Gx.run{off:Nat}{x:Value}{k:Value→Prop}(h:Gx off x k)(w:World){s:TypeId}{fs:Array Field}{f:Nat}{fl:Field}{d:TypeDesc}(hs:P.underlying s=some (.struct fs))(hf:fs[f]? =some fl)
 (hd:P.underlying fl.type=some d)(ha:cu d=false)(ho:fl.offset=off):∃v,(Instr.field s x f).run P w=.ok v w∧k v:=by
 obtain⟨cs,v,rfl,hc,hk⟩:=h
 refine⟨v,?_,hk⟩
 subst ho
 simp[Instr.field,run_underlying hs,hf,asAgg,part,mR hd,ha,hc]
theorem PU.run{off n:Nat}{x:Value}{k:Value→Prop}(h:PU off n x k)(w:World){s:TypeId}{fs:Array Field}{f:Nat}{fl:Field}{d:TypeDesc}{i:TypeInfo}(hs:P.underlying s=some (.struct fs))(hf:fs[f]? =some fl)
 (hd:P.underlying fl.type=some d)(ha:cu d=true)(hi:P.info? fl.type=some i)(hn:i.size=n)(ho:fl.offset=off):∃v,(Instr.field s x f).run P w=.ok v w∧k v:=by
 obtain⟨cs,rfl,hk⟩:=h
 refine⟨_,?_,hk⟩
 subst ho;subst hn
 simp[Instr.field,run_underlying hs,hf,asAgg,part,mR hd,ha,run_sizeOf hi]
theorem an.run{size:Nat}{x ix:Value}{k:Value→Prop}(h:an size x ix k)(w:World){t e:TypeId}{i:TypeInfo}(ht:P.underlying t=some (.slice e))(hi:P.info? e=some i)(hn:i.size=size):
  ∃v,(Instr.indexAt t x ix).run P w=.ok v w∧k v:=by
 obtain⟨b,o,n,c,kd,j,rfl,rfl,h0,h1,hk⟩:=h
 refine⟨_,?_,hk⟩
 subst hn
 simp[Instr.indexAt,run_underlying ht,asIntOf,h0,h1,run_sizeOf hi,Addr.add_lit]
theorem gD.run{len size:Nat}{x ix:Value}{k:Value→Prop}(h:gD len size x ix k)(w:World){t e:TypeId}{i:TypeInfo}(ht:P.underlying t=some (.array len e))(hi:P.info? e=some i)(hn:i.size=size):
  ∃v,(Instr.indexAt t x ix).run P w=.ok v w∧k v:=by
 obtain⟨b,o,kd,j,rfl,rfl,h0,h1,hk⟩:=h
 refine⟨_,?_,hk⟩
 subst hn
 simp[Instr.indexAt,run_underlying ht,asIntOf,h0,h1,run_sizeOf hi,Addr.add_lit,Instr.sureAddr]
theorem ef.run{size:Nat}{x:Value}{lo hi:Option Value}{k:Value→Prop}(h:ef size x lo hi k)(w:World){t e:TypeId}{i:TypeInfo}(ht:P.underlying t=some (.slice e))(hi':P.info? e=some i)(hn:i.size=size):
  ∃v,(Instr.sliceAt t x lo hi none).run P w=.ok v w∧k v:=by
 obtain⟨a,n,c,l,hh,rfl,hl,oM,h0,h1,h2,hk⟩:=h
 refine⟨_,?_,hk⟩
 subst hn
 have bl:∀(kk:IntKind) (z:Int) (y:Nat) (cd:BoundsCode),0≤z→z≤y→(Instr.sliceBound (.int kk z) y cd).run P w=.ok z.toNat w:=by
  intro kk z y cd a1 a2
  simp[Instr.sliceBound,asIntOf,a1,a2]
 have gg:∀(m l:Nat),(if m=l then a else a.map (·.add (l*i.size)))=(if m=l then a else a.map fun x=>x.add (l*i.size)):=fun _ _=>rfl
 have e1:l≤((hh.toNat:Nat):Int):=by omega
 cases lo with
 |none=>
  simp only[Ol,Option.some.injEq]at hl
  subst hl
  cases hi with
  |none=>
   simp only[HJ,Option.some.injEq]at oM
   subst oM
   simp[Instr.sliceAt,run_underlying ht,Instr.slice,Instr.sliceBounds,run_sizeOf hi']
  |some v=>
   cases v<;>simp only[HJ,reduceCtorEq,Option.some.injEq]at oM
   subst oM
   simp[Instr.sliceAt,run_underlying ht,Instr.slice,Instr.sliceBounds,run_sizeOf hi',bl _ _ c .sliceAcap (by omega) h2]
 |some vl=>
  cases vl<;>simp only[Ol,reduceCtorEq,Option.some.injEq]at hl
  subst hl
  cases hi with
  |none=>
   simp only[HJ,Option.some.injEq]at oM
   subst oM
   have:=bl ‹_› _ n .sliceB h0 h1
   simp[Instr.sliceAt,run_underlying ht,Instr.slice,Instr.sliceBounds,run_sizeOf hi',this]
  |some v=>
   cases v<;>simp only[HJ,reduceCtorEq,Option.some.injEq]at oM
   subst oM
   rename_i k1 n1 k2 n2
   have b1:=bl k2 n2 c .sliceAcap (by omega) h2
   have b2:=bl k1 n1 n2.toNat .sliceB h0 (by omega)
   simp[Instr.sliceAt,run_underlying ht,Instr.slice,Instr.sliceBounds,run_sizeOf hi',b1,b2]
theorem Ext.run{i:Nat}{x:Value}{k:Value→Prop}(h:Ext i x k)(w:World):∃v,(Instr.extract x i).run P w=.ok v w∧k v:=by
 obtain⟨vs,v,rfl,hv,hk⟩:=h
 exact⟨v,by simp[Instr.extract,hv],hk⟩
theorem aF.run{x:Value}{k:Value→Prop}(h:aF x k)(w:World){t e ty:TypeId}(ht:P.underlying t=some (.slice e)):∃v,(Builtin.len_ #[t] ty #[x]).run P w=.ok v w∧k v:=by
 obtain⟨a,n,c,rfl,hk⟩:=h
 exact⟨_,by simp[Builtin.len_,run_underlying ht,goInt],hk⟩
theorem aV{w:World}(hw:Own g H w){b:Nat}{es:Array MapEntry}{clock:Nat}(hm:(b,Obj.map es clock)∈H):(getObj b).run P w=.ok (.map es clock) w:=by
 have:=hw.has _ hm
 simp only at this
 simp[getObj,Sem.run,this]
theorem xW.run{x:Value}{k:Value→Prop}(h:xW H x k){w:World}(hw:Own g H w){t e e' ty:TypeId}(ht:P.underlying t=some (.map e e')):∃v,(Builtin.len_ #[t] ty #[x]).run P w=.ok v w∧k v:=by
 obtain⟨m,rfl,⟨rfl,hk⟩|⟨b,es,clock,rfl,hm,hk⟩⟩:=h
 ·exact⟨_,by simp[Builtin.len_,run_underlying ht,goInt],hk⟩
 ·exact⟨_,by simp[Builtin.len_,run_underlying ht,goInt,aV hw hm],hk⟩
end
end Go.Sx
namespace Go.Sx
open Go
section
variable {P:Program} {g:Gh} {H:Hp} {K:Value→Hp→Prop} {KP:List PanicEntry→Hp→Prop}
theorem Cells.run{w:World}(hw:Own g H w){base:Option Addr}{size n cap:Nat}{cs:Array Value}(h:Cells H base (n*size) cs):
  (Builtin.firstCells size n (.slice base n cap)).run P w=.ok cs w:=by
 cases base with
 |none=>simp only[Cells]at h;subst h;simp[Builtin.firstCells]
 |some a=>
  rcases h with⟨hn,rfl⟩|⟨h0,c,T,fz,hm,hs,rfl⟩
  ·simp only[Builtin.firstCells,hn];rfl
  obtain⟨b,o,sp⟩:=a
  simp only at h0 hm hs;subst h0
  simp only[Builtin.firstCells,iN hw hm _ _ hs]
theorem App.run{elem size bytes:Nat}{zero:Value}{s x:Value}{k:Value→Hp→Prop}(h:App P elem size bytes zero H s x k){w:World}(hw:Own g H w){t t' ty:TypeId}{i:TypeInfo}
 (ht:P.underlying t=some (.slice elem))(ht':∃e,P.underlying t'=some (.slice e))(hi:P.info? elem=some i)(hz:i.zero=some zero)(hn:i.size=size)(hb:i.bytes=bytes):
  ∃v w' H',(Builtin.append_ #[t,t'] ty #[s,x]).run P w=.ok v w'∧Own g H' w'∧k v H':=by
 obtain⟨base,n,cap,xb,m,xc,olds,news,rfl,rfl,hco,Vo,OH,hso,hone,hfit,hgrow⟩:=h
 obtain⟨e',ht'⟩:=ht'
 subst hn;subst hb
 by_cases hc:n+m≤cap
 ·have hk:=hfit hc
  have hnew:=Cells.run (P:=P) (cap:=xc) hw Vo
  cases base with
  |none=>
   refine⟨_,w,H,?_,hw,hk⟩
   simp[Builtin.append_,run_underlying ht,run_underlying ht',run_sizeOf hi,Builtin.lenOf,hc,hnew]
  |some a=>
   obtain⟨c,T,H',h0,hs,hu,hk⟩:=hk
   obtain⟨b,o,sp⟩:=a
   simp only at h0 hu hs;subst h0
   obtain⟨w',hr,ho⟩:=fi (P:=P) (o+n*i.size) news.toList 0 c H H' w hw (by simpa using hu) hone (by simp;omega)
   refine⟨_,w',H',?_,ho,hk⟩
   simp[Builtin.append_,run_underlying ht,run_underlying ht',run_sizeOf hi,Builtin.lenOf,hc,hnew,Addr.add_lit,hr]
 ·obtain⟨YL,h63,hk⟩:=hgrow (by omega)
  have jj:=hw.drew
  have hnew:=Cells.run (P:=P) (cap:=xc) jj Vo
  have hold:=Cells.run (P:=P) (cap:=cap) jj hco
  have hnx:Builtin.nextslicecap (n+m) cap*i.bytes≤281474976710656:=growslice_fits (by omega) YL
  have Zj:¬(281474976710656<Builtin.nextslicecap (n+m) cap*i.bytes):=by omega
  have Zi:¬(9223372036854775807<((n:Int)+(m:Int))):=by omega
  obtain⟨kZ,tc,hkk⟩:=hk (grownCap w (n+m) cap elem) (by simp only[grownCap,Question.cut];omega) _ jj.fresh
  refine⟨_,_,_,?_,tc _ _ (jj.alloc _),hkk⟩
  ·simp[Builtin.append_,run_underlying ht,run_underlying ht',sizeOf,typeInfo,zeroValue,hi,hz,Builtin.lenOf,hc,Zi,Zj,Question.forced,hnew,hold,newRow,grownCap]
theorem cO.run{elem size bytes:Nat}{zero:Value}{l c:Value}{k:Value→Hp→Prop}(h:cO elem size bytes zero H l c k){w:World}(hw:Own g H w){t:TypeId}{i:TypeInfo}
 (ht:P.underlying t=some (.slice elem))(hi:P.info? elem=some i)(hz:i.zero=some zero)(hn:i.size=size)(hb:i.bytes=bytes):
  ∃v w' H',(Instr.makeSlice t l c).run P w=.ok v w'∧Own g H' w'∧k v H':=by
 obtain⟨kl,kc,ln,cn,rfl,rfl,hlc,bH,hby,hk⟩:=h
 subst hn;subst hb
 refine⟨_,_,_,?_,hw.alloc _,hk _ hw.fresh⟩
 have e1:IntKind.i64.wrap (ln:Int)=ln:=IntWalk.i64_in _ (by omega)
 have e2:IntKind.i64.wrap (cn:Int)=cn:=IntWalk.i64_in _ (by omega)
 have e3:¬((i.bytes:Int)*(cn:Int)>281474976710656):=by
  have:((cn*i.bytes:Nat):Int)≤281474976710656:=by omega
  rw[Int.mul_comm];push_cast at this;omega
 have e4:¬((cn:Int)<ln):=by omega
 by_cases h0:cn*i.size=0
 ·simp[Instr.makeSlice,run_underlying ht,asInt,asIntOf,typeInfo,hi,e1,e2,e3,e4,sizeOf,zeroValue,hz,newRow,madeCells,h0,show¬((cn:Int)<0)from by omega,show¬((ln:Int)<0)from by omega]
  have:Array.range 0=#[]:=rfl
  simp[this]
 ·simp[Instr.makeSlice,run_underlying ht,asInt,asIntOf,typeInfo,hi,e1,e2,e3,e4,sizeOf,zeroValue,hz,newRow,madeCells,h0,show¬((cn:Int)<0)from by omega,show¬((ln:Int)<0)from by omega]
theorem Gu.run{m:Value}{es:Array MapEntry}(h:Gu H m es){w:World}(hw:Own g H w):
  (m=.map none∧es=#[])∨∃b clock,m=.map (some b)∧(getObj b).run P w=.ok (.map es clock) w:=by
 rcases h with h|⟨b,clock,hm,hb⟩
 ·exact .inl h
 ·exact .inr ⟨b,clock,hm,aV hw hb⟩
theorem run_checkKey(e:Bool){t:TypeId}{d:TypeDesc}(hd:P.underlying t=some d)(hp:plainKey d=true)(v:Value)(w:World):(Instr.checkKey e 10000 t v).run P w=.ok () w:=by
 have:∀n,(Instr.checkKey e (n+1) t v).run P w=.ok () w:=fun n=>by
  simp only[Instr.checkKey,Sem.run_bind,run_underlying hd,Result.andThen_ok]
  cases d<;>first|(simp[plainKey]at hp;done)|rfl
 exact this 9999
theorem run_findKey{t:TypeId}{d:TypeDesc}(hd:P.underlying t=some d){key:Value}{es:List MapEntry}{r:Option (Nat×Value)}(h:Instr.findNow d key es 0=some r)(w:World):
  (Instr.findKey t key es).run P w=.ok r w:=by
 simp[Instr.findKey,run_underlying hd,h]
theorem mK.run{kd:TypeDesc}{zero:Value}{ok:Bool}{m key:Value}{k:Value→Prop}(h:mK kd zero ok H m key k){w:World}(hw:Own g H w){t kt e:TypeId}{i:TypeInfo}
 (ht:P.underlying t=some (.map kt e))(hk:P.underlying kt=some kd)(hp:plainKey kd=true)(hi:P.info? e=some i)(hz:i.zero=some zero):
  ∃v,(Instr.lookup t m key ok).run P w=.ok v w∧k v:=by
 obtain⟨es,r,hm,hf,hkv⟩:=h
 have eB:=fun b=>run_checkKey (P:=P) b hk hp key w
 have nx:=run_findKey (P:=P) hk hf w
 refine⟨_,?_,hkv⟩
 rcases hm.run (P:=P) hw with⟨rfl,rfl⟩|⟨b,clock,rfl,hg⟩
 ·cases r with
  |none=>cases ok<;>simp[Instr.lookup,run_underlying ht,eB,nx,dj hi hz]
  |some x=>obtain⟨j,v⟩:=x;cases ok<;>simp[Instr.lookup,run_underlying ht,eB,nx]
 ·cases r with
  |none=>cases ok<;>simp[Instr.lookup,run_underlying ht,eB,nx,dj hi hz,hg]
  |some x=>obtain⟨j,v⟩:=x;cases ok<;>simp[Instr.lookup,run_underlying ht,eB,nx,hg]
theorem bG{w:World}(hw:Own g H w){b:Nat}{es:Array MapEntry}{clock:Nat}(es':Array MapEntry)(clock':Nat){H':Hp}(hu:cD b (.map es clock) (.map es' clock') H H'):
  ∃w',(setObj b (.map es' clock')).run P w=.ok () w'∧Own g H' w':=by
 have hm:=hw.has _ hu.mem
 simp only at hm
 refine⟨{w with heap:=w.heap.setIfInBounds b (.map es' clock')},by simp[setObj,Sem.run,hm],?_⟩
 have hlt:=hw.lt hu.mem
 refine hw.bS hu rfl rfl rfl ?_ ?_
 ·simp only at hlt;simp[hlt]
 ·intro c hc;rw[Array.getElem?_setIfInBounds,if_neg (fun e=>hc (Eq.symm e))]
theorem ei.run{kd:TypeDesc}{m key val:Value}{k:Hp→Prop}(h:ei kd H m key val k){w:World}(hw:Own g H w){t kt e:TypeId}
 (ht:P.underlying t=some (.map kt e))(hk:P.underlying kt=some kd)(hp:plainKey kd=true):
  ∃w' H',(Instr.mapUpdate t m key val).run P w=.ok () w'∧Own g H' w'∧k H':=by
 obtain⟨b,es,clock,r,rfl,hf,hr⟩:=h
 have eB:=fun b=>run_checkKey (P:=P) b hk hp key w
 have nx:=run_findKey (P:=P) hk hf w
 cases r with
 |none=>
  obtain⟨H',hu,hkk⟩:=hr
  obtain⟨w',hs,ho⟩:=bG (P:=P) hw _ _ hu
  refine⟨w',H',?_,ho,hkk⟩
  simp[Instr.mapUpdate,run_underlying ht,aV hw hu.mem,eB,nx,hs]
 |some x=>
  obtain⟨j,v⟩:=x
  obtain⟨hsame,hj,H',hu,hkk⟩:=hr
  obtain⟨w',hs,ho⟩:=bG (P:=P) hw _ _ hu
  refine⟨w',H',?_,ho,hkk⟩
  have XZ:=hsame es[j] (Array.getElem?_eq_getElem hj)
  simp[Instr.mapUpdate,run_underlying ht,aV hw hu.mem,eB,nx,hj,Instr.keyThatStays,XZ,hs]
theorem oF.run{kd:TypeDesc}{m key:Value}{k:Hp→Prop}(h:oF kd H m key k){w:World}(hw:Own g H w){t kt e ty:TypeId}{as:Array TypeId}(has:as[0]? =some t)
 (ht:P.underlying t=some (.map kt e))(hk:P.underlying kt=some kd)(hp:plainKey kd=true):
  ∃w' H',(Builtin.delete_ as ty #[m,key]).run P w=.ok (.tuple #[]) w'∧Own g H' w'∧k H':=by
 have eB:=fun b=>run_checkKey (P:=P) b hk hp key w
 rcases h with⟨rfl,hkk⟩|⟨b,es,clock,r,rfl,hf,hr⟩
 ·exact⟨w,H,by simp[Builtin.delete_,has,run_underlying ht,eB],hw,hkk⟩
 ·have nx:=run_findKey (P:=P) hk hf w
  cases r with
  |none=>
   obtain⟨hm,hkk⟩:=hr
   have hu:∃H',cD b (.map es clock) (.map es clock) H H'∧H'=H:=by
    clear hkk hf nx hw
    induction H with
    |nil=>simp at hm
    |cons x R ih=>
     rcases List.mem_cons.1 hm with e|hm'
     ·subst e;exact⟨_,.head _,rfl⟩
     ·obtain⟨H',u,rfl⟩:=ih hm';exact⟨_,.tail u,rfl⟩
   obtain⟨H',hu,rfl⟩:=hu
   obtain⟨w',hs,ho⟩:=bG (P:=P) hw _ _ hu
   exact⟨w',_,by simp[Builtin.delete_,has,run_underlying ht,aV hw hm,eB,nx,hs],ho,hkk⟩
  |some x=>
   obtain⟨j,v⟩:=x
   obtain⟨H',hu,hkk⟩:=hr
   obtain⟨w',hs,ho⟩:=bG (P:=P) hw _ _ hu
   exact⟨w',_,by simp[Builtin.delete_,has,run_underlying ht,aV hw hu.mem,eB,nx,hs],ho,hkk⟩
theorem zP{kd:TypeDesc}(h:cu kd=true)(key:Value)(es:List MapEntry)(i:Nat):Instr.findNow kd key es i=if es=[]then some none else none:=by
 cases es with
 |nil=>rfl
 |cons e r=>
  simp only[Instr.findNow,reduceCtorEq,if_false]
  cases kd<;>simp[cu]at h<;>rfl
theorem lJ{kt:TypeId}{key:Value}:∀{es:List MapEntry} {i:Nat} {r:Option (Nat×Value)},kS P kt key es i r→∀w,(Instr.findAsking kt key es i).run P w=.ok r w
 | [],i,r,h,w=>by simp only[kS]at h;subst h;rfl
 |e::es,i,r,h,w=>by
  obtain⟨b,he,h1,h2⟩:=h
  simp only[Instr.findAsking,Sem.run_bind,he w,Result.andThen_ok]
  cases b
  ·simp only[Bool.false_eq_true,if_false];exact lJ (h2 rfl) w
  ·simp only[if_true,h1 rfl,Sem.run_pure]
theorem fH{t:TypeId}{d:TypeDesc}(hd:P.underlying t=some d)(ha:cu d=true){key:Value}{es:List MapEntry}{r:Option (Nat×Value)}(h:kS P t key es 0 r)(w:World):
  (Instr.findKey t key es).run P w=.ok r w:=by
 simp only[Instr.findKey,Sem.run_bind,run_underlying hd,Result.andThen_ok,zP ha]
 cases es with
 |nil=>simp only[kS]at h;subst h;simp
 |cons e es=>simp only[reduceCtorEq,if_false];exact lJ h w
theorem iI.run{zero:Value}{ok:Bool}{m key:Value}{k:Value→Prop}{t kt e:TypeId}{kd:TypeDesc}(h:iI P kt zero ok H m key k){w:World}(hw:Own g H w){i:TypeInfo}
 (ht:P.underlying t=some (.map kt e))(hk:P.underlying kt=some kd)(hp:cu kd=true)(hi:P.info? e=some i)(hz:i.zero=some zero):
  ∃v,(Instr.lookup t m key ok).run P w=.ok v w∧k v:=by
 obtain⟨es,r,hm,hc,hf,hkv⟩:=h
 have eB:=fun b=>hc b w
 have nx:=fH (P:=P) hk hp hf w
 refine⟨_,?_,hkv⟩
 rcases hm.run (P:=P) hw with⟨rfl,rfl⟩|⟨b,clock,rfl,hg⟩
 ·cases r with
  |none=>cases ok<;>simp[Instr.lookup,run_underlying ht,eB,nx,dj hi hz]
  |some x=>obtain⟨j,v⟩:=x;cases ok<;>simp[Instr.lookup,run_underlying ht,eB,nx]
 ·cases r with
  |none=>cases ok<;>simp[Instr.lookup,run_underlying ht,eB,nx,dj hi hz,hg]
  |some x=>obtain⟨j,v⟩:=x;cases ok<;>simp[Instr.lookup,run_underlying ht,eB,nx,hg]
theorem gn.run{m key val:Value}{k:Hp→Prop}{t kt e:TypeId}{kd:TypeDesc}(h:gn P kt H m key val k){w:World}(hw:Own g H w)
 (ht:P.underlying t=some (.map kt e))(hk:P.underlying kt=some kd)(hp:cu kd=true):
  ∃w' H',(Instr.mapUpdate t m key val).run P w=.ok () w'∧Own g H' w'∧k H':=by
 obtain⟨b,es,clock,r,rfl,hc,hf,hr⟩:=h
 have eB:=fun b=>hc b w
 have nx:=fH (P:=P) hk hp hf w
 cases r with
 |none=>
  obtain⟨H',hu,hkk⟩:=hr
  obtain⟨w',hs,ho⟩:=bG (P:=P) hw _ _ hu
  refine⟨w',H',?_,ho,hkk⟩
  simp[Instr.mapUpdate,run_underlying ht,aV hw hu.mem,eB,nx,hs]
 |some x=>
  obtain⟨j,v⟩:=x
  obtain⟨hsame,hj,H',hu,hkk⟩:=hr
  obtain⟨w',hs,ho⟩:=bG (P:=P) hw _ _ hu
  refine⟨w',H',?_,ho,hkk⟩
  have XZ:=hsame es[j] (Array.getElem?_eq_getElem hj)
  simp[Instr.mapUpdate,run_underlying ht,aV hw hu.mem,eB,nx,hj,Instr.keyThatStays,XZ,hs]
theorem cD.same{b:Nat}{o:Obj}{H:Hp}(hm:(b,o)∈H):cD b o o H H:=by
 induction H with
 |nil=>simp at hm
 |cons x R ih=>
  rcases List.mem_cons.1 hm with e|hm'
  ·subst e;exact .head _
  ·exact .tail (ih hm')
theorem pR.run{m key:Value}{k:Hp→Prop}{t kt e ty:TypeId}{kd:TypeDesc}{as:Array TypeId}(h:pR P kt H m key k){w:World}(hw:Own g H w)(has:as[0]? =some t)
 (ht:P.underlying t=some (.map kt e))(hk:P.underlying kt=some kd)(hp:cu kd=true):
  ∃w' H',(Builtin.delete_ as ty #[m,key]).run P w=.ok (.tuple #[]) w'∧Own g H' w'∧k H':=by
 obtain⟨hc,h⟩:=h
 have eB:=fun b=>hc b w
 rcases h with⟨rfl,hkk⟩|⟨b,es,clock,r,rfl,hf,hr⟩
 ·exact⟨w,H,by simp[Builtin.delete_,has,run_underlying ht,eB],hw,hkk⟩
 ·have nx:=fH (P:=P) hk hp hf w
  cases r with
  |none=>
   obtain⟨hm,hkk⟩:=hr
   obtain⟨w',hs,ho⟩:=bG (P:=P) hw _ _ (cD.same hm)
   exact⟨w',_,by simp[Builtin.delete_,has,run_underlying ht,aV hw hm,eB,nx,hs],ho,hkk⟩
  |some x=>
   obtain⟨j,v⟩:=x
   obtain⟨H',hu,hkk⟩:=hr
   obtain⟨w',hs,ho⟩:=bG (P:=P) hw _ _ hu
   exact⟨w',_,by simp[Builtin.delete_,has,run_underlying ht,aV hw hu.mem,eB,nx,hs],ho,hkk⟩
theorem TU.run{x:Value}{k:Value→Hp→Prop}(h:TU H x k){w:World}(hw:Own g H w){t kt e:TypeId}(ht:P.underlying t=some (.map kt e)):
  ∃v w' H',(Instr.range t x).run P w=.ok v w'∧Own g H' w'∧k v H':=by
 rcases h with⟨rfl,hk⟩|⟨m,es,clock,rfl,hm,hk⟩
 ·refine⟨_,_,_,?_,hw.alloc _,hk _ hw.fresh⟩
  simp[Instr.range,run_underlying ht]
 ·refine⟨_,_,_,?_,hw.alloc _,hk _ hw.fresh⟩
  simp[Instr.range,run_underlying ht,aV hw hm]
theorem kL{w:World}(hw:Own g H w){b:Nat}{mo:Option Nat}{since last:Nat}{seen:Array Nat}(hm:(b,Obj.mapIter mo since seen last)∈H):(getObj b).run P w=.ok (.mapIter mo since seen last) w:=by
 have:=hw.has _ hm
 simp only at this
 simp[getObj,Sem.run,this]
theorem rj{w:World}(hw:Own g H w){b:Nat}{mo XD:Option Nat}{since last since' last':Nat}{seen seen':Array Nat}{H':Hp}(hu:cD b (.mapIter mo since seen last) (.mapIter XD since' seen' last') H H'):
  ∃w',(setObj b (.mapIter XD since' seen' last')).run P w=.ok () w'∧Own g H' w':=by
 have hm:=hw.has _ hu.mem
 simp only at hm
 refine⟨{w with heap:=w.heap.setIfInBounds b (.mapIter XD since' seen' last')},by simp[setObj,Sem.run,hm],?_⟩
 have hlt:=hw.lt hu.mem
 refine hw.bS hu rfl rfl rfl ?_ ?_
 ·simp only at hlt;simp[hlt]
 ·intro c hc;rw[Array.getElem?_setIfInBounds,if_neg (fun e=>hc (Eq.symm e))]
theorem I8.run{it:Value}{k:Value→Prop}(h:I8 H it k){w:World}(hw:Own g H w):∃v,(Instr.entry it).run P w=.ok v w∧k v:=by
 obtain⟨b,m,since,seen,stamp,clock,es,e,rfl,hb,hs,hm,hf,hk⟩:=h
 refine⟨_,?_,hk⟩
 simp[Instr.entry,kL (P:=P) hw hb,hs,aV (P:=P) hw hm,hf]
theorem rp(n:Nat)(hn:0<n){w:World}:∃i w',(choose (.mapNext n)).run P w=.ok i w'∧i<n∧(w'=w∨w'=w.drew):=by
 by_cases h:n≤1
 ·exact⟨0,w,by simp[choose,Sem.run,Question.forced,h],hn,.inl rfl⟩
 ·exact⟨_,_,by simp only[choose,Sem.run,Question.forced,h,decide_false,Bool.false_eq_true,if_false];rfl,Nat.mod_lt _ hn,.inr rfl⟩
theorem S6.run{it:Value}{k:Value→Hp→Prop}(h:S6 H it k){w:World}(hw:Own g H w){ty:TypeId}:
  ∃v w' H',(Instr.next it false ty).run P w=.ok v w'∧Own g H' w'∧k v H':=by
 obtain⟨b,mo,since,seen,last,rfl,hb,h⟩:=h
 have hgi:=kL (P:=P) hw hb
 cases mo with
 |none=>exact⟨_,w,H,by simp[Instr.next,hgi],hw,h⟩
 |some m=>
  obtain⟨es,clock,hm,LF,zo,UP⟩:=h
  have hgm:=aV (P:=P) hw hm
  have U0:(!seen.isEmpty&& !es.isEmpty&&es.all (fun e=>decide (e.born≥last)))=false:=by
   cases he:es.isEmpty
   ·have hne:es≠#[]:=by intro e;rw[e]at he;simp at he
    have:es.all (fun e=>decide (e.born≥last))=false:=by
     rw[←Bool.not_eq_true,Array.all_eq_true]
     intro aE
     have h0:0<es.size:=Array.size_pos_iff.2 hne
     have:=aE 0 h0
     have h2:=(LF es[0] (by simp)).2
     simp only[ge_iff_le,decide_eq_true_eq]at this
     omega
    rw[this];simp
   ·simp
  have hold:((es.filter fun e=> !seen.contains e.born).filter fun e=>decide (e.born<since))=es.filter fun e=> !seen.contains e.born:=by
   rw[Array.filter_eq_self]
   intro e he
   have:=(Array.mem_filter.1 he).1
   exact decide_eq_true (LF e (by simpa using this)).1
  have hnew:((es.filter fun e=> !seen.contains e.born).filter fun e=>decide (e.born≥since))=#[]:=by
   rw[Array.filter_eq_empty_iff]
   intro e he
   have:=(Array.mem_filter.1 he).1
   have:=(LF e (by simpa using this)).1
   simp only[ge_iff_le,decide_eq_true_eq];omega
  generalize hleft:(es.filter fun e=> !seen.contains e.born)=left at hold hnew
  have hrun:∀(rest:Sem Value),(Instr.next (.pointer (some ⟨b,0,none⟩)) false ty).run P w=((choose (.mapNext (((if left.isEmpty then#[none]else#[])++left.map some).size))).run P w).andThen fun i w=>(Sem.run P (match((if left.isEmpty then#[none]else#[])++left.map some)[i]? with
    |some (some e)=>do setObj b (.mapIter (some m) since (seen.push e.born) clock);pure (.tuple #[.bool true,e.key,e.val])
    |some none=>pure (.tuple #[.bool false])
    |none=>stuck "Next: no such candidate" :Sem Value) w):=by
   intro _
   simp only[Instr.next,Sem.run_bind,hgi,Result.andThen_ok,hgm,U0,Bool.false_eq_true,if_false,hleft,hold,hnew,Array.append_empty,Sem.run_pure]
   rfl
  rw[hrun (pure undef)]
  by_cases Sp:left=#[]
  ·subst Sp
   simp only[Array.isEmpty_empty,if_true,Array.map_empty,Array.append_empty]
   refine⟨_,w,H,?_,hw,UP fun e he=>?_⟩
   ·simp[choose,Sem.run,Question.forced]
   ·have:=Array.filter_eq_empty_iff.1 hleft e (by simpa using he)
    simpa using this
  ·have hne:left.isEmpty=false:=by simpa using Sp
   have hpos:0<left.size:=Array.size_pos_iff.2 Sp
   simp only[hne,Bool.false_eq_true,if_false,Array.empty_append,Array.size_map]
   obtain⟨i,w1,hc,hi,jj⟩:=rp (P:=P) (w:=w) left.size hpos
   rw[hc]
   simp only[Result.andThen_ok]
   have gf:(left.map some)[i]? =some (some left[i]):=by simp[hi]
   simp only[gf]
   have hmem:left[i]∈es.filter fun e=> !seen.contains e.born:=by rw[hleft];exact Array.getElem_mem hi
   obtain⟨Jf,Qw⟩:=Array.mem_filter.1 hmem
   obtain⟨H',hu,hk⟩:=zo left[i] (by simpa using Jf) (by simpa using Qw)
   have zm:Own g H w1:=by rcases jj with rfl|rfl;exact hw;exact hw.drew
   obtain⟨w2,hs,uG⟩:=rj (P:=P) zm hu
   exact⟨_,w2,H',by simp[hs],uG,hk⟩
end
end Go.Sx
namespace Go.Sx
open Go
section
variable {P:Program} {g:Gh} {H:Hp} {K:Value→Hp→Prop} {KP:List PanicEntry→Hp→Prop}
def Wk(x:Value):Option Value:=
 match x with
 | .pointer (some a)=>some (.pointer (some a))
 | .func (.func f) a b=>some (.func (.func f) a b)
 | .iface t v=>some (.iface t v)
 |_=>none
def Nil(x:Value)(k:Value→Prop):Prop:=∃v,Wk x=some v∧k v
def PMk(fn:Fn)(a b:List Value)(k:Value→Prop):Prop:=k (.func fn a.toArray b.toArray)
def Build(P:Program)(t:TypeId)(parts:List (Nat×Value))(k:Value→Prop):Prop:=∃v,(∀w,(Instr.build t parts.toArray).run P w=.ok v w)∧k v
def kJ(P:Program)(g:Gh)(o:Oper)(ρ:Operand→Value)(H:Hp)(k:Value→Prop):Prop:=
 ∃v,(∀w,Own g H w→(execOp ρ o).run P w=.ok (.value v) w)∧k v
def cU(P:Program)(t:TypeId):Option Nat:=match P.info? t with|some i=>some i.size|none=>none
def dR(P:Program)(t:TypeId):Option Value:=match P.info? t with|some i=>i.zero|none=>none
def tA(P:Program)(t:TypeId):Option Nat:=match P.info? t with|some i=>some i.bytes|none=>none
def Az(P:Program)(g:Gh)(o:Oper)(ρ:Operand→Value)(H:Hp)(k:Value→Prop):Prop:=
 match o.op with
 | .move x=>k (ρ x)
 | .assign x=>k (ρ x)
 | .pick c a b=>ay (ρ c) (ρ a) (ρ b) k
 | .load t a=>
  match P.underlying t,cU P t with
  |some d,some n=>cond (cu d) (av n H (ρ a) k) (Ld H (ρ a) k)
  |_,_=>False
 | .nilCheck x=>Nil (ρ x) k
 | .binOp op t x y _=>
  match P.underlying t with
  |some d=>match xN d with
   | .other=>kJ P g o ρ H k
   |bk=>aa bk op (ρ x) (ρ y) k
  |none=>False
 | .unOp op _ x=>Un op (ρ x) k
 | .convert s d x=>
  match P.underlying s,P.underlying d with
  |some _,some (.int kd)=>aQ kd (ρ x) k
  |some (.slice e),some .string=>match P.underlying e with
   |some (.int .u8)=>ji H (ρ x) k
   |_=>kJ P g o ρ H k
  |_,_=>kJ P g o ρ H k
 | .index t x i=>
  match P.underlying t with
  |some .string=>QY (ρ x) (ρ i) k
  |_=>kJ P g o ρ H k
 | .fieldAddr s x f=>
  match P.underlying s with
  |some (.struct fs)=>match fs[f]? with
   |some fl=>match cU P fl.type with
    |some (_+1)=>ag fl.offset (ρ x) k
    |_=>False
   |none=>False
  |_=>False
 | .field s x f=>
  match P.underlying s with
  |some (.struct fs)=>match fs[f]? with
   |some fl=>match P.underlying fl.type,cU P fl.type with
    |some d,some n=>cond (cu d) (PU fl.offset n (ρ x) k) (Gx fl.offset (ρ x) k)
    |_,_=>False
   |none=>False
  |_=>False
 | .indexAddr t x i=>
  match P.underlying t with
  |some (.slice e)=>match cU P e with
   |some n=>an n (ρ x) (ρ i) k
   |none=>False
  |some (.array len e)=>match cU P e with
   |some n=>gD len n (ρ x) (ρ i) k
   |none=>False
  |_=>False
 | .slice t x lo hi none=>
  match P.underlying t with
  |some (.slice e)=>match cU P e with
   |some n=>ef n (ρ x) (lo.map ρ) (hi.map ρ) k
   |none=>False
  |_=>kJ P g o ρ H k
 | .extract t i=>Ext i (ρ t) k
 | .lookup t m key ok=>
  match P.underlying t with
  |some (.map kt e)=>match P.underlying kt,dR P e with
   |some kd,some z=>cond (plainKey kd) (mK kd z ok H (ρ m) (ρ key) k) (cond (cu kd) (iI P kt z ok H (ρ m) (ρ key) k) (kJ P g o ρ H k))
   |_,_=>False
  |_=>False
 | .makeFunc fn a b=>PMk fn (a.toList.map ρ) (b.toList.map ρ) k
 | .build t parts=>Build P t (parts.toList.map fun p=>(p.1,ρ p.2)) k
 | .makeInterface t x=>
  match P.underlying t with
  |some (.interface _)=>False
  |some _=>k (.iface t (ρ x))
  |none=>False
 | .call c=>
  match c.callee with
  | .builtin .len=>
   match c.args.toList,c.argTypes.toList with
   | [x],[t]=>match P.underlying t with
    |some (.slice _)=>aF (ρ x) k
    |some (.map _ _)=>xW H (ρ x) k
    |some .string=>S8 (ρ x) k
    |_=>kJ P g o ρ H k
   |_,_=>False
  | .builtin .max=>match c.args.toList,c.argTypes.toList with
   | [x,y],[t,_]=>match P.underlying t with
    |some (.int _)=>An (ρ x) (ρ y) k
    |_=>kJ P g o ρ H k
   |_,_=>kJ P g o ρ H k
  | .builtin .min=>match c.args.toList,c.argTypes.toList with
   | [x,y],[t,_]=>match P.underlying t with
    |some (.int _)=>S7 (ρ x) (ρ y) k
    |_=>kJ P g o ρ H k
   |_,_=>kJ P g o ρ H k
  | .builtin _=>kJ P g o ρ H k
  |_=>False
 |_=>kJ P g o ρ H k
theorem mapList{α β:Type}(f:α→β)(a:Array α):(a.toList.map f).toArray=a.map f:=by rw[←Array.toList_map,Array.toArray_toList]
theorem Wd{α:Type}{a:Array α}{x:α}(h:a.toList=[x]):a=#[x]:=by cases a;simp_all
theorem Ah{α:Type}{a:Array α}{x y:α}(h:a.toList=[x,y]):a=#[x,y]:=by cases a;simp_all
theorem Ld.fix{p:Value}{k:Value→Prop}(h:Ld H p k):∃v,k v∧Ld H p (· =v):=by
 obtain⟨b,off,c,T,fz,v,h1,h2,h3,hk⟩:=h;exact⟨v,hk,b,off,c,T,fz,v,h1,h2,h3,rfl⟩
theorem av.fix{n:Nat}{p:Value}{k:Value→Prop}(h:av n H p k):∃v,k v∧av n H p (· =v):=by
 obtain⟨b,off,c,T,fz,h1,h2,h3,hk⟩:=h;exact⟨_,hk,b,off,c,T,fz,h1,h2,h3,rfl⟩
theorem mK.fix{kd:TypeDesc}{zero:Value}{ok:Bool}{m key:Value}{k:Value→Prop}(h:mK kd zero ok H m key k):∃v,k v∧mK kd zero ok H m key (· =v):=by
 obtain⟨es,r,h1,h2,hk⟩:=h;exact⟨_,hk,es,r,h1,h2,rfl⟩
theorem xW.fix{x:Value}{k:Value→Prop}(h:xW H x k):∃v,k v∧xW H x (· =v):=by
 obtain⟨m,h1,⟨h2,hk⟩|⟨b,es,clock,h2,h3,hk⟩⟩:=h
 ·exact⟨_,hk,m,h1,.inl ⟨h2,rfl⟩⟩
 ·exact⟨_,hk,m,h1,.inr ⟨b,es,clock,h2,h3,rfl⟩⟩
theorem iI.fix{kt:TypeId}{zero:Value}{ok:Bool}{m key:Value}{k:Value→Prop}(h:iI P kt zero ok H m key k):∃v,k v∧iI P kt zero ok H m key (· =v):=by
 obtain⟨es,r,h1,h2,h3,hk⟩:=h;exact⟨_,hk,es,r,h1,h2,h3,rfl⟩
theorem B5{F:Value→ByteArray→Sem (ForInStep ByteArray)}(hF:∀(b:UInt8) s,F (.int .u8 b.toNat) s=pure (.yield (s.push b))){l:List UInt8}(s:ByteArray)(w:World):
  (forIn (l.map fun b=>Value.int .u8 b.toNat) s F).run P w=.ok (⟨s.data++l.toArray⟩:ByteArray) w:=by
 induction l generalizing s with
 |nil=>simp
 |cons b r ih=>
  simp only[List.map_cons,List.forIn_cons,hF,Sem.run_bind,Sem.run_pure,Result.andThen_ok]
  rw[ih]
  congr 1
  simp[ByteArray.push]
theorem ji.run{x:Value}{k:Value→Prop}(h:ji H x k){w:World}(hw:Own g H w):∃v,(Conv.bytesToString x).run P w=.ok v w∧k v:=by
 obtain⟨base,n,c,bs,rfl,hc,hn,hk⟩:=h
 refine⟨_,?_,hk⟩
 cases base with
 |none=>
  simp only[Cells]at hc
  have:bs=[]:=by simpa using congrArg Array.size hc
  subst this;rfl
 |some a=>
  have:=Cells.run (P:=P) (size:=1) (cap:=c) hw (by rw[Nat.mul_one];exact hc)
  simp only[Builtin.firstCells,Nat.mul_one]at this
  simp only[Conv.bytesToString,Sem.run_bind,this,Result.andThen_ok]
  rw[List.forIn_toArray,B5 (P:=P) (l:=bs) (fun b s=>by simp)]
  have e:ByteArray.empty.data=#[]:=rfl
  simp[e]
theorem ji.fix{x:Value}{k:Value→Prop}(h:ji H x k):∃v,k v∧ji H x (· =v):=by
 obtain⟨base,n,c,bs,h1,h2,h3,hk⟩:=h;exact⟨_,hk,base,n,c,bs,h1,h2,h3,rfl⟩
def Reads(P:Program)(g:Gh)(o:Oper)(ρ:Operand→Value)(H:Hp)(k:Value→Prop):Prop:=
 ∃v,k v∧∀w,Own g H w→(execOp ρ o).run P w=.ok (.value v) w
theorem Reads.mk{o:Oper}{ρ:Operand→Value}{k:Value→Prop}{s:Sem Value}(he:execOp ρ o=(do pure (.value (←s))))(h:∃v,k v∧∀w,Own g H w→s.run P w=.ok v w):Reads P g o ρ H k:=by
 obtain⟨v,hk,hr⟩:=h
 refine⟨v,hk,fun w hw=>?_⟩
 rw[he]
 simp only[Sem.run_bind,hr w hw,Result.andThen_ok,Sem.run_pure]
theorem kJ.reads{o:Oper}{ρ:Operand→Value}{k:Value→Prop}(h:kJ P g o ρ H k):Reads P g o ρ H k:=let ⟨v,h1,h2⟩:=h;⟨v,h2,h1⟩
theorem Ti{s:Sem Value}{k:Value→Prop}{C:(Value→Prop)→Prop}(YA:∃v,k v∧C (· =v))(hrun:∀(k:Value→Prop),C k→∀w,Own g H w→∃v,s.run P w=.ok v w∧k v):
  ∃v,k v∧∀w,Own g H w→s.run P w=.ok v w:=by
 obtain⟨v,hk,hc⟩:=YA
 refine⟨v,hk,fun w hw=>?_⟩
 obtain⟨u,hr,rfl⟩:=hrun _ hc w hw
 exact hr
theorem bg{t:TypeId}{n:Nat}(h:cU P t=some n):∃i,P.info? t=some i∧i.size=n:=by
 unfold cU at h
 split at h
 ·rename_i i hi;exact⟨i,hi,by simpa using h⟩
 ·simp at h
theorem cc{t:TypeId}{z:Value}(h:dR P t=some z):∃i,P.info? t=some i∧i.zero=some z:=by
 unfold dR at h
 split at h
 ·rename_i i hi;exact⟨i,hi,by simpa using h⟩
 ·simp at h
theorem jw{o:Oper}{ρ:Operand→Value}{k:Value→Prop}(h:Az P g o ρ H k):Reads P g o ρ H k:=by
 obtain⟨dst,op,type,pos,after,guard⟩:=o
 cases op<;>simp only[Az]at h
 case move x=>exact⟨_,h,fun w _=>rfl⟩
 case assign x=>exact⟨_,h,fun w _=>rfl⟩
 case pick c a b=>
  obtain⟨t,hc,hk⟩:=h
  refine⟨_,hk,fun w _=>?_⟩
  cases t<;>simp[execOp,hc,asBool]
 case load t a=>
  split at h
  ·rename_i d n hd hn
   obtain⟨i,hi,hin⟩:=bg hn
   refine Reads.mk (s:=Instr.loadAt t (ρ a)) rfl ?_
   cases ha:cu d<;>simp only[ha,cond_true,cond_false]at h
   ·exact Ti h.fix fun k hk w hw=>hk.run hw hd ha
   ·exact Ti h.fix fun k hk w hw=>hk.run hw hd ha hi hin
  ·exact h.elim
 case nilCheck x=>
  obtain⟨v,hv,hk⟩:=h
  refine⟨v,hk,fun w _=>?_⟩
  unfold Wk at hv
  simp only[execOp]
  split at hv<;>simp only[Option.some.injEq,reduceCtorEq]at hv<;>subst hv<;>simp_all
 case binOp op t x y yt=>
  split at h
  ·rename_i d hd
   split at h
   ·exact h.reads
   ·rename_i WW
    refine Reads.mk (s:=do eqGuard op t x y (ρ x) (ρ y);binOp op t (ρ x) (ρ y)) rfl ?_
    obtain⟨v,hv,hk⟩:=h
    exact⟨v,hk,fun w _=>by
     obtain⟨u,hr,rfl⟩:=aa.run (P:=P) (k:=(· =v)) ⟨v,hv,rfl⟩ w (ox:=x) (oy:=y) hd rfl
     exact hr⟩
  ·exact h.elim
 case unOp op t x=>
  obtain⟨v,hv,hk⟩:=h
  refine Reads.mk (s:=Op.unary op (ρ x)) rfl ⟨v,hk,fun w _=>?_⟩
  obtain⟨u,hr,rfl⟩:=Un.run (P:=P) (k:=(· =v)) ⟨v,hv,rfl⟩ w
  exact hr
 case convert s d x=>
  split at h
  ·rename_i ds kd hs hd
   obtain⟨j,n,hx,hk⟩:=h
   refine Reads.mk (s:=Go.convert s d (ρ x)) rfl ⟨_,hk,fun w _=>?_⟩
   obtain⟨u,hr,rfl⟩:=aQ.run (P:=P) (kd:=kd) (k:=(· =_)) ⟨j,n,hx,rfl⟩ w hs hd rfl
   exact hr
  ·rename_i e hs hd
   split at h
   ·rename_i he
    refine Reads.mk (s:=Go.convert s d (ρ x)) rfl ?_
    have:∀w,(Go.convert s d (ρ x)).run P w=(Conv.bytesToString (ρ x)).run P w:=fun w=>by
     obtain⟨base,n,c,bs,hx,_⟩:=h
     simp only[Go.convert,Sem.run_bind,run_underlying hs,run_underlying hd,Result.andThen_ok,hx,run_underlying he]
    simp only[this]
    exact Ti h.fix fun k hk w hw=>hk.run hw
   ·exact h.reads
  ·exact h.reads
 case index t x i=>
  split at h
  ·rename_i ht
   obtain⟨s,kd,j,b,hx,hi,h0,hb,hk⟩:=h
   refine Reads.mk (s:=Instr.index t (ρ x) (ρ i)) rfl ⟨_,hk,fun w _=>?_⟩
   simp[Instr.index,run_underlying ht,hx,hi,asIntOf,h0,hb]
  ·exact h.reads
 case fieldAddr s x f=>
  split at h<;>try exact h.elim
  rename_i fs hs
  split at h<;>try exact h.elim
  rename_i fl hf
  split at h<;>try exact h.elim
  rename_i m hm
  obtain⟨i,hi,hin⟩:=bg hm
  obtain⟨b,o,hx,hk⟩:=h
  refine Reads.mk (s:=Instr.fieldAt s (ρ x) f) rfl ⟨_,hk,fun w _=>?_⟩
  obtain⟨u,hr,rfl⟩:=ag.run (P:=P) (k:=(· =_)) ⟨b,o,hx,rfl⟩ w hs hf hi (by omega) rfl
  exact hr
 case field s x f=>
  split at h<;>try exact h.elim
  rename_i fs hs
  split at h<;>try exact h.elim
  rename_i fl hf
  split at h<;>try exact h.elim
  rename_i d n hd hn
  obtain⟨i,hi,hin⟩:=bg hn
  refine Reads.mk (s:=Instr.field s (ρ x) f) rfl ?_
  cases ha:cu d<;>simp only[ha,cond_true,cond_false]at h
  ·obtain⟨cs,v,hx,hv,hk⟩:=h
   refine⟨v,hk,fun w _=>?_⟩
   obtain⟨u,hr,rfl⟩:=Gx.run (P:=P) (k:=(· =v)) ⟨cs,v,hx,hv,rfl⟩ w hs hf hd ha rfl
   exact hr
  ·obtain⟨cs,hx,hk⟩:=h
   refine⟨_,hk,fun w _=>?_⟩
   obtain⟨u,hr,rfl⟩:=PU.run (P:=P) (k:=(· =_)) ⟨cs,hx,rfl⟩ w hs hf hd ha hi hin rfl
   exact hr
 case indexAddr t x ix=>
  refine Reads.mk (s:=Instr.indexAt t (ρ x) (ρ ix)) rfl ?_
  split at h
  ·rename_i e ht
   split at h<;>try exact h.elim
   rename_i n hn
   obtain⟨i,hi,hin⟩:=bg hn
   obtain⟨b,o,n',c,kd,j,hx,Yn,h0,h1,hk⟩:=h
   refine⟨_,hk,fun w _=>?_⟩
   obtain⟨u,hr,rfl⟩:=an.run (P:=P) (k:=(· =_)) ⟨b,o,n',c,kd,j,hx,Yn,h0,h1,rfl⟩ w ht hi hin
   exact hr
  ·rename_i len e ht
   split at h<;>try exact h.elim
   rename_i n hn
   obtain⟨i,hi,hin⟩:=bg hn
   obtain⟨b,o,kd,j,hx,Yn,h0,h1,hk⟩:=h
   refine⟨_,hk,fun w _=>?_⟩
   obtain⟨u,hr,rfl⟩:=gD.run (P:=P) (k:=(· =_)) ⟨b,o,kd,j,hx,Yn,h0,h1,rfl⟩ w ht hi hin
   exact hr
  ·exact h.elim
 case slice t x lo hi mx=>
  cases mx with
  |some m=>simp only at h;exact h.reads
  |none=>
   simp only at h
   split at h
   ·rename_i e ht
    split at h<;>try exact h.elim
    rename_i n hn
    obtain⟨i,hi',hin⟩:=bg hn
    obtain⟨a,n',c,l,hh,hx,hl,oM,h0,h1,h2,hk⟩:=h
    refine Reads.mk (s:=Instr.sliceAt t (ρ x) (lo.map ρ) (hi.map ρ) none) rfl ⟨_,hk,fun w _=>?_⟩
    obtain⟨u,hr,rfl⟩:=ef.run (P:=P) (k:=(· =_)) ⟨a,n',c,l,hh,hx,hl,oM,h0,h1,h2,rfl⟩ w ht hi' hin
    exact hr
   ·exact h.reads
 case extract t i=>
  obtain⟨vs,v,hx,hv,hk⟩:=h
  refine Reads.mk (s:=Instr.extract (ρ t) i) rfl ⟨v,hk,fun w _=>?_⟩
  obtain⟨u,hr,rfl⟩:=Ext.run (P:=P) (k:=(· =v)) ⟨vs,v,hx,hv,rfl⟩ w
  exact hr
 case lookup t m key ok=>
  split at h<;>try exact h.elim
  rename_i kt e ht
  split at h<;>try exact h.elim
  rename_i kd z zw hz
  obtain⟨i,hi,uI⟩:=cc hz
  cases hp:plainKey kd<;>simp only[hp,cond_true,cond_false]at h
  ·cases kE:cu kd<;>simp only[kE,cond_true,cond_false]at h
   ·exact h.reads
   ·exact Reads.mk (s:=Instr.lookup t (ρ m) (ρ key) ok) rfl (Ti h.fix fun k hk w hw=>hk.run hw ht zw kE hi uI)
  ·exact Reads.mk (s:=Instr.lookup t (ρ m) (ρ key) ok) rfl (Ti h.fix fun k hk w hw=>hk.run hw ht zw hp hi uI)
 case makeFunc fn a b=>
  refine⟨_,h,fun w _=>?_⟩
  simp[execOp,Instr.makeFunc,mapList]
 case build t parts=>
  obtain⟨v,hr,hk⟩:=h
  refine Reads.mk (s:=Instr.build t (parts.map fun(i,x)=>(i,ρ x))) rfl ⟨v,hk,fun w _=>?_⟩
  have:=hr w
  rw[mapList (fun p:Nat×Operand=>(p.1,ρ p.2)) parts]at this
  exact this
 case makeInterface t x=>
  split at h
  ·exact h.elim
  ·rename_i d R7 hd
   refine Reads.mk (s:=Instr.makeInterface t (ρ x)) rfl ⟨_,h,fun w _=>?_⟩
   simp only[Instr.makeInterface,Sem.run_bind,run_underlying hd,Result.andThen_ok]
   cases d<;>first|rfl|exact absurd hd (R7 _)
  ·exact h.elim
 case call c=>
  obtain⟨callee,args,argTypes⟩:=c
  cases callee with
  |value f=>simp only at h
  |invoke r m=>simp only at h
  |builtin b=>
   cases b<;>simp only at h<;>try exact h.reads
   case max=>
    split at h<;>try exact h.reads
    rename_i x y t t' hx ht
    split at h<;>try exact h.reads
    have hx:=Ah hx
    have ht:=Ah ht
    subst hx;subst ht
    obtain⟨kd,a,b,h1,h2,hk⟩:=h
    refine Reads.mk (s:=Builtin.max_ #[t,t'] type #[ρ x,ρ y]) (by simp[execOp,resolve,invoke,builtin,bind,Sem.bind];rfl) ⟨_,hk,fun w _=>?_⟩
    simp[Builtin.max_,Builtin.max2,h1,h2]
   case min=>
    split at h<;>try exact h.reads
    rename_i x y t t' hx ht
    split at h<;>try exact h.reads
    have hx:=Ah hx
    have ht:=Ah ht
    subst hx;subst ht
    obtain⟨kd,a,b,h1,h2,hk⟩:=h
    refine Reads.mk (s:=Builtin.min_ #[t,t'] type #[ρ x,ρ y]) (by simp[execOp,resolve,invoke,builtin,bind,Sem.bind];rfl) ⟨_,hk,fun w _=>?_⟩
    simp[Builtin.min_,Builtin.min2,h1,h2]
   split at h<;>try exact h.elim
   rename_i x t hx ht
   have hx:=Wd hx
   have ht:=Wd ht
   subst hx;subst ht
   split at h
   ·rename_i e hd
    refine Reads.mk (s:=Builtin.len_ #[t] type #[ρ x]) (by simp[execOp,resolve,invoke,builtin,bind,Sem.bind];rfl) ?_
    obtain⟨a,n,c,hx,hk⟩:=h
    refine⟨_,hk,fun w _=>?_⟩
    obtain⟨u,hr,rfl⟩:=aF.run (P:=P) (k:=(· =_)) ⟨a,n,c,hx,rfl⟩ w (ty:=type) hd
    exact hr
   ·rename_i e e' hd
    refine Reads.mk (s:=Builtin.len_ #[t] type #[ρ x]) (by simp[execOp,resolve,invoke,builtin,bind,Sem.bind];rfl) ?_
    exact Ti h.fix fun k hk w hw=>hk.run hw hd
   ·rename_i hd
    refine Reads.mk (s:=Builtin.len_ #[t] type #[ρ x]) (by simp[execOp,resolve,invoke,builtin,bind,Sem.bind];rfl) ?_
    obtain⟨s,hx,hk⟩:=h
    exact⟨_,hk,fun w _=>by simp[Builtin.len_,run_underlying hd,hx,goInt]⟩
   ·exact h.reads
 all_goals exact h.reads
def valOf(o:Oper)(ρ:Operand→Value)(v:Value):Prop:=
 match o.op with
 | .move x=>v=ρ x
 | .assign x=>v=ρ x
 | .pick c a b=>∀t,ρ c=.bool t→v=cond t (ρ a) (ρ b)
 |_=>True
theorem mU{o:Oper}{ρ:Operand→Value}{k:Value→Prop}(h:Az P g o ρ H k):∃v,k v∧(∀w,Own g H w→(execOp ρ o).run P w=.ok (.value v) w)∧valOf o ρ v:=by
 obtain⟨dst,op,type,pos,after,guard⟩:=o
 cases op
 case move x=>exact⟨_,h,fun w _=>rfl,rfl⟩
 case assign x=>exact⟨_,h,fun w _=>rfl,rfl⟩
 case pick c a b=>
  obtain⟨t,hc,hk⟩:=h
  refine⟨_,hk,fun w _=>?_,fun t' ht'=>?_⟩
  ·cases t<;>simp[execOp,hc,asBool]
  ·rw[hc]at ht';simp only[Value.bool.injEq]at ht';subst ht';rfl
 all_goals
  obtain⟨v,hk,hr⟩:=jw h
  exact⟨v,hk,hr,trivial⟩
end
end Go.Sx
namespace Go.Sx
open Go
section
variable {P:Program} {g:Gh} {H:Hp} {K:Value→Hp→Prop} {KP:List PanicEntry→Hp→Prop}
def aq(P:Program)(t len:Nat)(parts:List (Nat×Value))(H:Hp)(k:Value→Hp→Prop):Prop:=
 ∃cs,(∃e n z,P.underlying t=some (.slice e)∧cU P e=some n∧dR P e=some z∧len*n≤2^24∧
   Instr.fill (fun i=>some (i*n,n)) ((Array.range (len*n)).map (z.cells[· %z.cells.size]!)) parts=some cs∧
   cW H (.cells cs e (0,0)) fun b H'=>k (.slice (some ⟨b,0,none⟩) len len) H')
def MZ(P:Program)(g:Gh)(o:Oper)(ρ:Operand→Value)(H:Hp)(K:Value→Hp→Prop)(KP:List PanicEntry→Hp→Prop):Prop:=
 match o.op with
 | .alloc t=>match dR P t with
  |some z=>cW H (.cells z.cells t (0,0)) fun b H'=>K (.pointer (some ⟨b,0,none⟩)) H'
  |none=>False
 | .box t x=>cW H (.cells (ρ x).cells t (0,0)) fun b H'=>K (.pointer (some ⟨b,0,none⟩)) H'
 | .store t a x=>match cU P t with
  |some n=>St n H (ρ a) (ρ x) fun H'=>K undef H'
  |none=>False
 | .buildSlice t len parts=>aq P t len (parts.toList.map fun p=>(p.1,ρ p.2)) H K
 | .makeMap _ none=>jQ H K
 | .makeSlice t l c=>match P.underlying t with
  |some (.slice e)=>match cU P e,tA P e,dR P e with
   |some n,some b,some z=>cO e n b z H (ρ l) (ρ c) K
   |_,_,_=>False
  |_=>False
 | .mapUpdate t m key x=>match P.underlying t with
  |some (.map kt _)=>match P.underlying kt with
   |some kd=>cond (plainKey kd) (ei kd H (ρ m) (ρ key) (ρ x) fun H'=>K undef H') (cond (cu kd) (gn P kt H (ρ m) (ρ key) (ρ x) fun H'=>K undef H') (mJ P g o ρ H K KP))
   |none=>False
  |_=>False
 | .insert t m key x=>match P.underlying t with
  |some (.map kt _)=>match P.underlying kt with
   |some kd=>cond (plainKey kd) (ei kd H (ρ m) (ρ key) (ρ x) fun H'=>K undef H') (cond (cu kd) (gn P kt H (ρ m) (ρ key) (ρ x) fun H'=>K undef H') (mJ P g o ρ H K KP))
   |none=>False
  |_=>False
 | .range t x=>match P.underlying t with
  |some (.map _ _)=>TU H (ρ x) K
  |_=>mJ P g o ρ H K KP
 | .next it false=>S6 H (ρ it) K
 | .entry it=>I8 H (ρ it) fun v=>K v H
 | .call c=>
  match c.callee with
  | .value (.func f)=>cond (bu P f) (ae P g f (c.args.toList.map ρ).toArray H K KP) (mJ P g o ρ H K KP)
  | .value f=>bI P g (ρ f) (c.args.toList.map ρ).toArray H K KP
  | .builtin .append=>
   match c.args.toList,c.argTypes.toList with
   | [s,x],[t,t']=>match P.underlying t,P.underlying t' with
    |some (.slice e),some (.slice _)=>match cU P e,tA P e,dR P e with
     |some n,some b,some z=>App P e n b z H (ρ s) (ρ x) K
     |_,_,_=>False
    |_,_=>mJ P g o ρ H K KP
   |_,_=>False
  | .builtin .delete=>
   match c.args.toList,c.argTypes.toList with
   | [m,key],[t,_]=>match P.underlying t with
    |some (.map kt _)=>match P.underlying kt with
     |some kd=>cond (plainKey kd) (oF kd H (ρ m) (ρ key) fun H'=>K (.tuple #[]) H') (cond (cu kd) (pR P kt H (ρ m) (ρ key) fun H'=>K (.tuple #[]) H') (mJ P g o ρ H K KP))
     |none=>False
    |_=>False
   |_,_=>mJ P g o ρ H K KP
  |_=>mJ P g o ρ H K KP
 |_=>mJ P g o ρ H K KP
theorem mB{t:TypeId}{n:Nat}(h:tA P t=some n):∃i,P.info? t=some i∧i.bytes=n:=by
 unfold tA at h
 split at h
 ·rename_i i hi;exact⟨i,hi,by simpa using h⟩
 ·simp at h
theorem mJ.ofValue{o:Oper}{ρ:Operand→Value}{s:Sem Value}(he:execOp ρ o=(do pure (.value (←s))))(h:∀w,Own g H w→∃v w' H',s.run P w=.ok v w'∧Own g H' w'∧K v H'):mJ P g o ρ H K KP:=by
 intro w hw
 obtain⟨v,w',H',hr,ho,hk⟩:=h w hw
 rw[he]
 simp only[Sem.run_bind,hr,Result.andThen_ok,Sem.run_pure]
 exact⟨H',ho,hk⟩
theorem mJ.p9{o:Oper}{ρ:Operand→Value}{s:Sem Unit}(he:execOp ρ o=(do s;pure .skip))(h:∀w,Own g H w→∃w' H',s.run P w=.ok () w'∧Own g H' w'∧K undef H'):mJ P g o ρ H K KP:=by
 intro w hw
 obtain⟨w',H',hr,ho,hk⟩:=h w hw
 rw[he]
 simp only[Sem.run_bind,hr,Result.andThen_ok,Sem.run_pure]
 exact⟨H',ho,hk⟩
theorem eE{f:FuncId}(h:bu P f=true)(args:Array Value)(w:World):(callFunc f args).run P w=.ok (.enter f args) w:=by
 unfold bu at h
 split at h
 ·simp at h
 ·rename_i fn hf
  simp only[Bool.and_eq_true,Bool.not_eq_true']at h
  obtain⟨h1,h2⟩:=h
  have h3:fn.body.isNone=false:=by cases hb:fn.body<;>simp_all
  simp only[callFunc,Sem.run_bind,run_program,Result.andThen_ok,hf,show(fn.name== "runtime.NumGoroutine")=false from h1,h3,Bool.false_eq_true,if_false]
  rfl
theorem bI.op{o:Oper}{c:Call}{ρ:Operand→Value}{x:Operand}(ho:o.op=.call c)(hc:c.callee=.value x)(h:bI P g (ρ x) (c.args.toList.map ρ).toArray H K KP):mJ P g o ρ H K KP:=by
 obtain⟨f,first,captured,hf,gg,QC⟩:=h
 rw[mapList]at QC
 intro w hw
 have hr:(execOp ρ o).run P w=.ok (.enter f (first++c.args.map ρ++captured)) w:=by
  simp only[execOp,ho,resolve,hc,Deferred.ofValue,hf,invoke]
  show(callFunc f (first++c.args.map ρ++captured)).run P w=_
  exact eE gg _ w
 rw[hr]
 exact QC w hw
theorem sE{o:Oper}{ρ:Operand→Value}(hρ:∀f,ρ (.func f)=.func (.func f) #[] #[])(h:MZ P g o ρ H K KP):mJ P g o ρ H K KP:=by
 unfold MZ at h
 split at h
 case h_1 t hop=>
  split at h
  ·rename_i z hz
   obtain⟨i,hi,uI⟩:=cc hz
   refine mJ.ofValue (s:=Instr.alloc t true (.tuple #[])) (by simp only[execOp,hop]) fun w hw=>⟨_,_,_,?_,hw.alloc _,h _ hw.fresh⟩
   simp[Instr.alloc,dj hi uI,newVar,newRow]
  ·exact h.elim
 case h_2 t x hop=>
  refine mJ.ofValue (s:=Instr.box t (ρ x)) (by simp only[execOp,hop]) fun w hw=>⟨_,_,_,?_,hw.alloc _,h _ hw.fresh⟩
  simp[Instr.box,newVar,newRow]
 case h_3 t a x hop=>
  split at h
  ·rename_i n hn
   obtain⟨i,hi,hin⟩:=bg hn
   exact mJ.p9 (s:=Instr.storeAt t (ρ a) (ρ x)) (by simp only[execOp,hop]) fun w hw=>h.run hw hi hin
  ·exact h.elim
 case h_4 t len parts hop=>
  obtain⟨cs,e,n,z,ht,hn,hz,hl,hf,hk⟩:=h
  obtain⟨i,hi,hin⟩:=bg hn
  obtain⟨i',hi',uI⟩:=cc hz
  have:i'=i:=Option.some.inj (hi'.symm.trans hi)
  subst this
  subst hin
  refine mJ.ofValue (s:=Instr.buildSlice t len (parts.map fun(i,x)=>(i,ρ x))) (by simp only[execOp,hop]) fun w hw=>⟨_,_,_,?_,hw.alloc _,hk _ hw.fresh⟩
  have hl':¬(len*i'.size>2^24):=by omega
  have qP:(parts.map fun(x:Nat×Operand)=>(x.1,ρ x.2)).toList=parts.toList.map fun p=>(p.1,ρ p.2):=by rw[Array.toList_map]
  by_cases h0:len*i'.size=0
  ·simp only[Instr.buildSlice,Sem.run_bind,run_underlying ht,Result.andThen_ok,run_sizeOf hi,hl',if_false,h0,if_true,Sem.run_pure]
   rw[h0]at hf
   have RY:Array.range 0=#[]:=rfl
   simp only[RY,Array.map_empty,List.map_toArray,List.map_nil]at hf⊢
   rw[qP,hf]
   simp[newRow]
  ·simp only[Instr.buildSlice,Sem.run_bind,run_underlying ht,Result.andThen_ok,run_sizeOf hi,hl',if_false,h0,dj hi uI,Sem.run_pure]
   simp[hf,newRow]
 case h_5 t hop=>
  refine mJ.ofValue (s:=Instr.makeMap t none) (by simp only[execOp,hop];rfl) fun w hw=>⟨_,_,_,?_,hw.alloc _,h _ hw.fresh⟩
  simp[Instr.makeMap]
 case h_6 t l c hop=>
  split at h<;>try exact h.elim
  rename_i e ht
  split at h<;>try exact h.elim
  rename_i n b z hn hb hz
  obtain⟨i,hi,hin⟩:=bg hn
  obtain⟨i',hi',uI⟩:=cc hz
  obtain⟨i2,BG,s9⟩:=mB hb
  have e1:i'=i:=Option.some.inj (hi'.symm.trans hi)
  have e2:i2=i:=Option.some.inj (BG.symm.trans hi)
  subst e1;subst e2
  exact mJ.ofValue (s:=Instr.makeSlice t (ρ l) (ρ c)) (by simp only[execOp,hop]) fun w hw=>h.run hw ht hi uI hin s9
 case h_7 t m key x hop=>
  split at h<;>try exact h.elim
  rename_i kt e ht
  split at h<;>try exact h.elim
  rename_i kd zw
  cases hp:plainKey kd<;>simp only[hp,cond_true,cond_false]at h
  ·cases kE:cu kd<;>simp only[kE,cond_true,cond_false]at h
   ·exact h
   ·exact mJ.p9 (s:=Instr.mapUpdate t (ρ m) (ρ key) (ρ x)) (by simp only[execOp,hop]) fun w hw=>h.run hw ht zw kE
  ·exact mJ.p9 (s:=Instr.mapUpdate t (ρ m) (ρ key) (ρ x)) (by simp only[execOp,hop]) fun w hw=>h.run hw ht zw hp
 case h_8 t m key x hop=>
  split at h<;>try exact h.elim
  rename_i kt e ht
  split at h<;>try exact h.elim
  rename_i kd zw
  cases hp:plainKey kd<;>simp only[hp,cond_true,cond_false]at h
  ·cases kE:cu kd<;>simp only[kE,cond_true,cond_false]at h
   ·exact h
   ·exact mJ.p9 (s:=Instr.mapUpdate t (ρ m) (ρ key) (ρ x)) (by simp only[execOp,hop]) fun w hw=>h.run hw ht zw kE
  ·exact mJ.p9 (s:=Instr.mapUpdate t (ρ m) (ρ key) (ρ x)) (by simp only[execOp,hop]) fun w hw=>h.run hw ht zw hp
 case h_9 t x hop=>
  split at h
  ·rename_i kt e ht
   exact mJ.ofValue (s:=Instr.range t (ρ x)) (by simp only[execOp,hop]) fun w hw=>h.run hw ht
  ·exact h
 case h_10 it hop=>
  exact mJ.ofValue (s:=Instr.next (ρ it) false o.type) (by simp only[execOp,hop]) fun w hw=>h.run hw
 case h_11 it hop=>
  exact mJ.ofValue (s:=Instr.entry (ρ it)) (by simp only[execOp,hop]) fun w hw=>let ⟨v,hr,hk⟩:=h.run hw;⟨v,w,H,hr,hw,hk⟩
 case h_12 c hop=>
  split at h
  ·rename_i f hc
   cases gg:bu P f<;>simp only[gg,cond_true,cond_false]at h
   ·exact h
   ·rw[mapList]at h
    intro w hw
    have hr:(execOp ρ o).run P w=.ok (.enter f (c.args.map ρ)) w:=by
     simp only[execOp,hop,resolve,hc,Deferred.ofValue,hρ,invoke]
     show(callFunc f ((#[]++c.args.map ρ)++ #[])).run P w=_
     rw[Array.empty_append,Array.append_empty]
     exact eE gg _ w
    rw[hr]
    exact h w hw
  ·rename_i x _ hc
   exact bI.op hop hc h
  ·rename_i hc
   split at h<;>try exact h.elim
   rename_i s x t t' hx ht
   have hx:=Ah hx
   have ht:=Ah ht
   split at h
   ·rename_i e e' hd cN
    split at h<;>try exact h.elim
    rename_i n b z hn hb hz
    obtain⟨i,hi,hin⟩:=bg hn
    obtain⟨i',hi',uI⟩:=cc hz
    obtain⟨i2,BG,s9⟩:=mB hb
    have e1:i'=i:=Option.some.inj (hi'.symm.trans hi)
    have e2:i2=i:=Option.some.inj (BG.symm.trans hi)
    subst e1;subst e2
    refine mJ.ofValue (s:=Builtin.append_ #[t,t'] o.type #[ρ s,ρ x]) ?_ fun w hw=>h.run hw hd ⟨_,cN⟩ hi uI hin s9
    simp only[execOp,hop,resolve,hc,hx,ht,invoke,builtin]
    simp[bind,Sem.bind];rfl
   ·exact h
  ·rename_i hc
   split at h
   ·rename_i m key t t' hx ht
    have hx:=Ah hx
    have ht:=Ah ht
    split at h<;>try exact h.elim
    rename_i kt e hd
    split at h<;>try exact h.elim
    rename_i kd zw
    cases hp:plainKey kd<;>simp only[hp,cond_true,cond_false]at h
    ·cases kE:cu kd<;>simp only[kE,cond_true,cond_false]at h
     ·exact h
     ·refine mJ.ofValue (s:=Builtin.delete_ #[t,t'] o.type #[ρ m,ρ key]) ?_ fun w hw=>?_
      ·simp only[execOp,hop,resolve,hc,hx,ht,invoke,builtin]
       simp[bind,Sem.bind];rfl
      ·obtain⟨w',H',hr,ho,hk⟩:=h.run (P:=P) hw (as:=#[t,t']) (ty:=o.type) rfl hd zw kE
       exact⟨_,w',H',hr,ho,hk⟩
    ·refine mJ.ofValue (s:=Builtin.delete_ #[t,t'] o.type #[ρ m,ρ key]) ?_ fun w hw=>?_
     ·simp only[execOp,hop,resolve,hc,hx,ht,invoke,builtin]
      simp[bind,Sem.bind];rfl
     ·obtain⟨w',H',hr,ho,hk⟩:=h.run (P:=P) hw (as:=#[t,t']) (ty:=o.type) rfl hd zw hp
      exact⟨_,w',H',hr,ho,hk⟩
   ·exact h
  ·exact h
 all_goals exact h
end
end Go.Sx
namespace Go.Sx
open Go
section
variable {P:Program} {g:Gh} {ds:List Deferred}
def sS:Op→Bool
 | .move _| .assign _| .pick .. | .load .. | .nilCheck _| .binOp .. | .unOp .. | .convert .. | .fieldAddr .. | .field .. | .indexAddr .. | .index .. | .slice .. | .extract .. | .lookup .. | .makeFunc .. | .build .. | .makeInterface ..
 | .typeAssert .. =>true
 | .call c=>match c.callee with
  | .builtin .len| .builtin .cap| .builtin .min| .builtin .max=>true
  |_=>false
 |_=>false
def Q1(P:Program)(g:Gh)(f:FuncId)(args:Array Value)(H:Hp)(k:Value→Prop):Prop:=
 ∃v,bW P g f args H (fun e H'=>e=.returned v∧H'=H)∧k v
def Xu(P:Program)(g:Gh)(o:Oper)(ρ:Operand→Value)(H:Hp)(k:Value→Prop):Prop:=
 match o.op with
 | .call c=>match c.callee with
  | .value (.func f)=>cond (bu P f) (Q1 P g f (c.args.toList.map ρ).toArray H k) False
  | .value x=>∃f first captured,ρ x=.func (.func f) first captured∧bu P f=true∧Q1 P g f (first++(c.args.toList.map ρ).toArray++captured) H k
  |_=>False
 |_=>False
def bY:Option (Nat×Bool)→Option (Nat×Bool)→Bool
 |none,none=>true
 |some (i,a),some (j,b)=>Nat.beq i j&& (a==b)
 |_,_=>false
theorem gT{x y:Option (Nat×Bool)}(h:bY x y=true):x=y:=by
 cases x with
 |none=>cases y<;>simp_all[bY]
 |some a=>
  obtain⟨i,a⟩:=a
  cases y with
  |none=>simp[bY]at h
  |some b=>
   obtain⟨j,b⟩:=b
   simp only[bY,Bool.and_eq_true,beq_iff_eq]at h
   rw[Nat.eq_of_beq_eq_true h.1,h.2]
def fV(cur:Option (Nat×Bool)):List Oper→List Oper
 | []=>[]
 |o::r=>cond (bY o.guard cur) [] (o::fV cur r)
def gP(cur:Option (Nat×Bool)):List Oper→List Oper
 | []=>[]
 |o::r=>cond (bY o.guard cur) (o::r) (gP cur r)
theorem qH(cur:Option (Nat×Bool))(l:List Oper):fV cur l++gP cur l=l:=by
 induction l with
 |nil=>rfl
 |cons o r ih=>simp only[fV,gP];cases bY o.guard cur<;>simp[ih]
def qI:List Oper→Fr→Fr
 | [],fr=>fr
 |o::r,fr=>qI r (bS fr o.dst undef)
def bD:List Oper→Nat→Bool
 | [],_=>false
 |o::r,s=>(match o.dst with|some d=>Nat.beq s d|none=>false)||bD r s
def gF(n:Nat):List Oper→Bool
 | []=>true
 |o::r=>dG n o.dst&&gF n r
def xD(G:List Oper)(gs fr:Fr):Fr:=fun s=>cond (bD G s) (gs s) (fr s)
def om(p:Oper)(fr:Fr):Value:=
 match p.op with
 | .pick c a b=>match ev fr c with
  | .bool t=>cond t (ev fr a) (ev fr b)
  |_=>undef
 |_=>undef
def qm(p:Oper):Bool:=match p.op with| .pick .. =>true|_=>false
def dK(ops:Array Oper)(j:Nat):Option Nat:=match ops[j]? with|some oj=>oj.dst|none=>none
def lF(ops:Array Oper)(s:Nat)(want:Bool):List Nat→List Oper→Bool
 |_,[]=>true
 |seen,o::r=>
  (match o.guard with
  |none=>false
  |some (j,w)=>match dK ops j with
   |none=>false
   |some t=>(Nat.beq t s&& (w==want))||seen.any (Nat.beq t)) &&
  lF ops s want (match o.dst with|some d=>d::seen|none=>seen) r
def df(v:Value)(want:Bool)(inner els k:Bool→Prop):Prop:=∃a t:Bool,v=.bool a∧(a=want→inner t)∧(a= !want→els t)∧k t
def Split(v:Value)(want:Bool)(k1 k2:Prop):Prop:=∃a:Bool,v=.bool a∧(a=want→k1)∧(a= !want→k2)
def jC:List (Nat×Bool)→Nat→Option Bool
 | [],_=>none
 |(t,b)::r,s=>cond (Nat.beq t s) (some b) (jC r s)
def kO:List (Nat×Bool)→Option Nat→List (Nat×Bool)
 |kn,none=>kn
 | [],some _=>[]
 |(t,b)::r,some d=>cond (Nat.beq t d) (kO r (some d)) ((t,b)::kO r (some d))
def kB:List (Nat×Bool)→List Oper→List (Nat×Bool)
 |kn,[]=>kn
 |kn,o::r=>kB (kO kn o.dst) r
def pn(kn:List (Nat×Bool)):Operand→Option Bool
 | .const (.bool b)=>some b
 | .tmp t=>jC kn t
 |_=>none
def RJ(kn:List (Nat×Bool))(o:Oper):Option Bool:=
 match o.op with
 | .move x=>pn kn x
 | .assign x=>pn kn x
 | .pick c a b=>match pn kn c with
  |some true=>pn kn a
  |some false=>pn kn b
  |none=>none
 |_=>none
def RI(kn:List (Nat×Bool))(o:Oper):List (Nat×Bool):=
 match RJ kn o,o.dst with
 |some b,some d=>(d,b)::kO kn (some d)
 |_,d=>kO kn d
def gK(kn:List (Nat×Bool))(fr:Fr):Prop:=∀s b,jC kn s=some b→fr s=.bool b
theorem gK.nil(fr:Fr):gK [] fr:=fun s b h=>by simp[jC]at h
theorem vz{kn:List (Nat×Bool)}{d s:Nat}{b:Bool}(h:jC (kO kn (some d)) s=some b):s≠d∧jC kn s=some b:=by
 induction kn with
 |nil=>simp[kO,jC]at h
 |cons x r ih=>
  obtain⟨t,c⟩:=x
  simp only[kO]at h
  cases hb:Nat.beq t d<;>simp only[hb,cond_true,cond_false]at h
  ·simp only[jC]at h⊢
   cases hs:Nat.beq t s<;>simp only[hs,cond_true,cond_false]at h⊢
   ·exact ih h
   ·refine⟨fun e=>?_,h⟩
    have:=Nat.eq_of_beq_eq_true hs
    subst this;subst e;simp at hb
  ·have h':=ih h
   refine⟨h'.1,?_⟩
   simp only[jC]
   have:=Nat.eq_of_beq_eq_true hb
   subst this
   cases hs:Nat.beq t s
   ·exact h'.2
   ·exact absurd (Nat.eq_of_beq_eq_true hs).symm h'.1
theorem gK.del{kn:List (Nat×Bool)}{fr:Fr}(h:gK kn fr)(d:Option Nat)(v:Value):gK (kO kn d) (bS fr d v):=by
 cases d with
 |none=>cases kn<;>exact h
 |some d=>
  intro s b hs
  obtain⟨h1,h2⟩:=vz hs
  simp only[bS]
  cases hb:Nat.beq s d
  ·exact h s b h2
  ·exact absurd (Nat.eq_of_beq_eq_true hb) h1
theorem gK.put{kn:List (Nat×Bool)}{fr:Fr}(h:gK kn fr){s:Nat}{b:Bool}(hs:fr s=.bool b):gK ((s,b)::kn) fr:=by
 intro t c ht
 simp only[jC]at ht
 cases hb:Nat.beq s t<;>simp only[hb,cond_true,cond_false]at ht
 ·exact h t c ht
 ·have:=Nat.eq_of_beq_eq_true hb;subst this;simp only[Option.some.injEq]at ht;subst ht;exact hs
theorem jB{kn:List (Nat×Bool)}{fr:Fr}(h:gK kn fr){x:Operand}{b:Bool}(hx:pn kn x=some b):ev fr x=.bool b:=by
 cases x with
 |tmp t=>exact h t b hx
 |const v=>cases v<;>simp[pn]at hx;subst hx;rfl
 |global g=>simp[pn]at hx
 |func f=>simp[pn]at hx
theorem Ou{kn:List (Nat×Bool)}{fr:Fr}(h:gK kn fr){o:Oper}{v:Value}(hv:valOf o (ev fr) v){b:Bool}(hb:RJ kn o=some b):v=.bool b:=by
 unfold RJ at hb
 unfold valOf at hv
 split at hb
 ·rename_i x hop;rw[hop]at hv;exact hv.trans (jB h hb)
 ·rename_i x hop;rw[hop]at hv;exact hv.trans (jB h hb)
 ·rename_i c a b' hop
  rw[hop]at hv
  split at hb
  ·rename_i hc;rw[hv _ (jB h hc)];exact jB h hb
  ·rename_i hc;rw[hv _ (jB h hc)];exact jB h hb
  ·simp at hb
 ·simp at hb
theorem gK.up{kn:List (Nat×Bool)}{fr:Fr}(h:gK kn fr){o:Oper}{v:Value}(hv:valOf o (ev fr) v):gK (RI kn o) (bS fr o.dst v):=by
 unfold RI
 split
 ·rename_i b d hb hd
  rw[hd]
  exact(h.del (some d) v).put (by simp[bS,Ou h hv hb])
 ·exact h.del _ _
theorem gK.V8{kn:List (Nat×Bool)}{fr fr':Fr}:∀(l:List Oper),gK kn fr→(∀s,bD l s=false→fr' s=fr s)→gK (kB kn l) fr':=by
 intro l
 have key:∀(l:List Oper) (kn:List (Nat×Bool)) (s:Nat) (b:Bool),jC (kB kn l) s=some b→bD l s=false∧jC kn s=some b:=by
  intro l
  induction l with
  |nil=>intro kn s b h;exact⟨rfl,h⟩
  |cons o r ih=>
   intro kn s b h
   simp only[kB]at h
   obtain⟨h1,h2⟩:=ih _ s b h
   simp only[bD,h1,Bool.or_false]
   cases hd:o.dst with
   |none=>rw[hd]at h2;exact⟨rfl,by cases kn<;>exact h2⟩
   |some d=>
    rw[hd]at h2
    obtain⟨h3,h4⟩:=vz h2
    refine⟨?_,h4⟩
    cases hb:Nat.beq s d
    ·exact hb
    ·exact absurd (Nat.eq_of_beq_eq_true hb) h3
 intro h ho s b hs
 obtain⟨h1,h2⟩:=key l kn s b hs
 rw[ho s h1];exact h s b h2
def dM(P:Program)(g:Gh)(n:Nat)(ops:Array Oper)(gq:Bool):Nat→Bool→Option (Nat×Bool)→List (Nat×Bool)→List Oper→Fr→Hp→(List (Nat×Bool)→Fr→Hp→Prop)→(List PanicEntry→Hp→Prop)→Prop
 |0,_,_,_,_,_,_,_,_=>False
 |_+1,_,_,kn,[],fr,H,K,_=>K kn fr H
 |f+1,q,cur,kn,o::r,fr,H,K,KP=>
  cond (bY o.guard cur)
   (cond (dG n o.dst)
    (cond (sS o.op) (Az P g o (ev fr) H fun v=>dM P g n ops gq f q cur (RI kn o) r (bS fr o.dst v) H K KP)
     (cond q (Xu P g o (ev fr) H fun v=>dM P g n ops gq f q cur (kO kn o.dst) r (bS fr o.dst v) H K KP)
      (MZ P g o (ev fr) H (fun v H'=>dM P g n ops gq f q cur (kO kn o.dst) r (bS fr o.dst v) H' K KP) KP))) False)
   (match o.guard with
   |none=>False
   |some (j,want)=>
    match dK ops j with
    |none=>False
    |some s=>
     cond (dG n (some s) &&gF n (fV cur (o::r)) && !bD (fV cur (o::r)) s&&lF ops s want [] (fV cur (o::r)))
     (match jC kn s with
     |some b=>cond (b==want)
       (dM P g n ops gq f q o.guard kn (fV cur (o::r)) fr H (fun oL fr' H'=>dM P g n ops gq f q cur oL (gP cur (o::r)) fr' H' K KP) KP)
       (dM P g n ops gq f q cur (kB kn (fV cur (o::r))) (gP cur (o::r)) (qI (fV cur (o::r)) fr) H K KP)
     |none=>
     cond (q||gq)
      (match gP cur (o::r)with
      | []=>False
      |p::r'=>
       cond (qm p&&dG n p.dst)
       (df (fr s) want
        (fun t=>dM P g n ops gq f true o.guard ((s,want)::kn) (fV cur (o::r)) (bS fr (some s) (.bool want)) H (fun _ fr' H'=>H'=H∧om p fr'=.bool t) (fun _ _=>False))
        (fun t=>om p (qI (fV cur (o::r)) (bS fr (some s) (.bool !want)))=.bool t)
        (fun t=>∀gs,dM P g n ops gq f q cur (kO (kB kn (fV cur (o::r))) p.dst) r' (bS (xD (fV cur (o::r)) gs fr) p.dst (.bool t)) H K KP)) False)
      (Split (fr s) want
       (dM P g n ops gq f q o.guard ((s,want)::kn) (fV cur (o::r)) (bS fr (some s) (.bool want)) H (fun oL fr' H'=>dM P g n ops gq f q cur oL (gP cur (o::r)) fr' H' K KP) KP)
       (dM P g n ops gq f q cur ((s, !want)::kB kn (fV cur (o::r))) (gP cur (o::r)) (qI (fV cur (o::r)) (bS fr (some s) (.bool !want))) H K KP))) False)
theorem jm{fr:Fr}{s:Nat}{v:Value}(h:fr s=v):bS fr (some s) v=fr:=by
 funext x
 simp only[bS]
 cases hb:Nat.beq x s
 ·rfl
 ·have:=Nat.eq_of_beq_eq_true hb;subst this;simp[h]
theorem fh{fr:Fr}{d:Option Nat}{v:Value}{s:Nat}(h:bD [({(default:Oper)with dst:=d})] s=false):bS fr d v s=fr s:=by
 cases d with
 |none=>rfl
 |some d=>simp only[bD,Bool.or_false]at h;simp only[bS,h,cond_false]
theorem c6{o:Oper}{r:List Oper}{s:Nat}:bD (o::r) s=(bD [({(default:Oper)with dst:=o.dst})] s||bD r s):=by
 simp[bD]
theorem bQ{a b:List Oper}{s:Nat}:bD (a++b) s=(bD a s||bD b s):=by
 induction a with
 |nil=>simp[bD]
 |cons o r ih=>simp only[List.cons_append,bD,ih,Bool.or_assoc]
def dI(l:List Oper)(fr fr':Fr):Prop:=∀s,bD l s=false→fr' s=fr s
def jV(ops:Array Oper)(cur:Option (Nat×Bool))(l:List Oper)(fr:Fr):Prop:=
 match cur with
 |none=>True
 |some (j,want)=>∃s,dK ops j=some s∧fr s=.bool want∧bD l s=false
theorem jV.tail{ops:Array Oper}{cur:Option (Nat×Bool)}{o:Oper}{r:List Oper}{fr fr':Fr}(h:jV ops cur (o::r) fr)(he:∀s,bD [({(default:Oper)with dst:=o.dst})] s=false→fr' s=fr s):jV ops cur r fr':=by
 unfold jV at*
 split
 ·trivial
 ·obtain⟨s,h1,h2,h3⟩:=h
  rw[c6,Bool.or_eq_false_iff]at h3
  exact⟨s,h1,(he s h3.1).trans h2,h3.2⟩
theorem jZ{n:Nat}{ops:Array Oper}{a:Act}{fr:Fr}(h:bX ds n a fr){j s:Nat}(hs:dK ops j=some s):yielded ops a.tmps j=match fr s with| .bool b=>some b|_=>none:=by
 unfold dK at hs
 split at hs
 ·rename_i oj hj
  have hg:=h.get s
  rw[Array.getD_eq_getD_getElem?]at hg
  simp only[yielded,hj,Option.bind_some,hs]
  cases ht:a.tmps[s]? with
  |none=>rw[ht]at hg;simp only[Option.getD_none]at hg;rw[←hg];rfl
  |some v=>rw[ht]at hg;simp only[Option.getD_some]at hg;rw[←hg];cases v<;>rfl
 ·simp at hs
theorem jV.wanted{n:Nat}{ops:Array Oper}{cur:Option (Nat×Bool)}{l:List Oper}{fr:Fr}(h:jV ops cur l fr){o:Oper}(ho:o.guard=cur){a:Act}(ha:bX ds n a fr):Region.wanted o (yielded ops a.tmps)=true:=by
 unfold jV at h
 unfold Region.wanted
 rw[ho]
 split at h
 ·rfl
 ·obtain⟨s,h1,h2,_⟩:=h
  simp only[jZ ha h1,h2,beq_self_eq_true]
theorem oh{p:Oper}{fr:Fr}{t:Bool}(hp:qm p=true)(h:om p fr=.bool t)(w:World):(execOp (ev fr) p).run P w=.ok (.value (.bool t)) w:=by
 unfold qm at hp
 split at hp<;>try (simp at hp;done)
 rename_i c a b hop
 simp only[om,hop]at h
 split at h
 ·rename_i t' hc
  simp only[execOp,hop,hc,asBool]
  cases t'<;>simp only[cond_true,cond_false]at h<;>simp[h]
 ·simp[undef]at h
theorem mO{n:Nat}{ops:Array Oper}{Q:Exit→Act→World→Prop}{s:Nat}{want:Bool}{w:World}{rest:List Oper}:∀(l:List Oper) (seen:List Nat) (fr:Fr) (a:Act),gF n l=true→bD l s=false→lF ops s want seen l=true→
  fr s=.bool (!want)→(∀t∈seen,fr t=undef)→bX ds n a fr→(∀a',bX ds n a' (qI l fr)→wpList P ops Q rest a' w)→wpList P ops Q (l++rest) a w
 | [],_,fr,a,_,_,_,_,_,ha,hk=>hk a ha
 |o::r,seen,fr,a,hd,hi,hs,hf,sU,ha,hk=>by
  simp only[gF,Bool.and_eq_true]at hd
  rw[c6,Bool.or_eq_false_iff]at hi
  simp only[lF,Bool.and_eq_true]at hs
  obtain⟨zj,uu⟩:=hs
  have UU:Region.wanted o (yielded ops a.tmps)=false:=by
   unfold Region.wanted
   split at zj
   ·simp at zj
   ·rename_i j w' hg
    rw[hg]
    split at zj
    ·simp at zj
    ·rename_i t ht
     simp only[jZ ha ht]
     simp only[Bool.or_eq_true,Bool.and_eq_true,beq_iff_eq]at zj
     rcases zj with⟨h1,rfl⟩|h1
     ·have:=Nat.eq_of_beq_eq_true h1;subst this
      rw[hf];cases w'<;>rfl
     ·obtain⟨u,hu,hb⟩:=List.any_eq_true.1 h1
      have:=Nat.eq_of_beq_eq_true hb;subst this
      rw[sU _ hu];rfl
  simp only[List.cons_append,wpList,UU,Bool.false_eq_true,if_false]
  refine mO r _ (bS fr o.dst undef) _ hd.2 hi.2 uu ?_ ?_ (ha.put hd.1 undef) (fun a' h'=>hk a' h')
  ·rw[fh hi.1,hf]
  ·intro t ht
   cases Lw:o.dst with
   |none=>rw[Lw]at ht;exact sU t ht
   |some d=>
    rw[Lw]at ht
    simp only[bS]
    cases hb:Nat.beq t d
    ·simp only[cond_false]
     rcases List.mem_cons.1 ht with rfl|ht
     ·simp at hb
     ·exact sU t ht
    ·rfl
theorem nZ{n:Nat}{ops:Array Oper}{C:World→Prop}{Q:Act→Prop}{s:Nat}{want:Bool}{rest:List Oper}:∀(l:List Oper) (seen:List Nat) (fr:Fr) (a:Act),gF n l=true→bD l s=false→lF ops s want seen l=true→
  fr s=.bool (!want)→(∀t∈seen,fr t=undef)→bX ds n a fr→(∀a',bX ds n a' (qI l fr)→wpQuiet P ops C Q rest a')→wpQuiet P ops C Q (l++rest) a
 | [],_,fr,a,_,_,_,_,_,ha,hk=>hk a ha
 |o::r,seen,fr,a,hd,hi,hs,hf,sU,ha,hk=>by
  simp only[gF,Bool.and_eq_true]at hd
  rw[c6,Bool.or_eq_false_iff]at hi
  simp only[lF,Bool.and_eq_true]at hs
  obtain⟨zj,uu⟩:=hs
  have UU:Region.wanted o (yielded ops a.tmps)=false:=by
   unfold Region.wanted
   split at zj
   ·simp at zj
   ·rename_i j w' hg
    rw[hg]
    split at zj
    ·simp at zj
    ·rename_i t ht
     simp only[jZ ha ht]
     simp only[Bool.or_eq_true,Bool.and_eq_true,beq_iff_eq]at zj
     rcases zj with⟨h1,rfl⟩|h1
     ·have:=Nat.eq_of_beq_eq_true h1;subst this
      rw[hf];cases w'<;>rfl
     ·obtain⟨u,hu,hb⟩:=List.any_eq_true.1 h1
      have:=Nat.eq_of_beq_eq_true hb;subst this
      rw[sU _ hu];rfl
  simp only[List.cons_append,wpQuiet,UU,Bool.false_eq_true,if_false]
  refine nZ r _ (bS fr o.dst undef) _ hd.2 hi.2 uu ?_ ?_ (ha.put hd.1 undef) (fun a' h'=>hk a' h')
  ·rw[fh hi.1,hf]
  ·intro t ht
   cases Lw:o.dst with
   |none=>rw[Lw]at ht;exact sU t ht
   |some d=>
    rw[Lw]at ht
    simp only[bS]
    cases hb:Nat.beq t d
    ·simp only[cond_false]
     rcases List.mem_cons.1 ht with rfl|ht
     ·simp at hb
     ·exact sU t ht
    ·rfl
theorem cH:∀(l:List Oper) (fr:Fr),dI l fr (qI l fr)
 | [],fr=>fun s _=>rfl
 |o::r,fr=>fun s hs=>by
  rw[c6,Bool.or_eq_false_iff]at hs
  rw[qI,cH r _ s hs.2,fh hs.1]
end
end Go.Sx
namespace Go.Sx
open Go
section
variable {P:Program} {g:Gh} {ds:List Deferred}
theorem nf(fr:Fr):∀f,ev fr (.func f)=.func (.func f) #[] #[]:=fun _=>rfl
theorem FL{o:Oper}{fr:Fr}{H:Hp}{k:Value→Prop}(h:Xu P g o (ev fr) H k):
  ∃v f args,(∀w,(execOp (ev fr) o).run P w=.ok (.enter f args) w)∧bW P g f args H (fun e H'=>e=.returned v∧H'=H)∧k v:=by
 unfold Xu at h
 split at h<;>try exact h.elim
 rename_i c hop
 split at h<;>try exact h.elim
 ·rename_i f hc
  cases gg:bu P f<;>simp only[gg,cond_true,cond_false]at h
  obtain⟨v,hs,hk⟩:=h
  rw[mapList]at hs
  refine⟨v,f,_,fun w=>?_,hs,hk⟩
  simp only[execOp,hop,resolve,hc,Deferred.ofValue,nf,invoke]
  show(callFunc f ((#[]++c.args.map (ev fr))++ #[])).run P w=_
  rw[Array.empty_append,Array.append_empty]
  exact eE gg _ w
 ·rename_i x _ hc
  obtain⟨f,first,captured,hf,gg,v,hs,hk⟩:=h
  rw[mapList]at hs
  refine⟨v,f,_,fun w=>?_,hs,hk⟩
  simp only[execOp,hop,resolve,hc,Deferred.ofValue,hf,invoke]
  show(callFunc f (first++c.args.map (ev fr)++captured)).run P w=_
  exact eE gg _ w
theorem mM.upon{o:Oper}{a:Act}{K:Value→Hp→Prop}{KP:List PanicEntry→Hp→Prop}{next:Act→World→Prop}{Q:Exit→Act→World→Prop}{r:Result Next}
 (h:mM P g K KP r)(hn:∀v H' w',Own g H' w'→K v H'→next (a.put o.dst v) w')(hp:∀ch H' w',Own g H' w'→KP ch H'→Q (.panic ch) a w'):o.upon P a next Q r:=by
 cases r with
 |ok n w'=>
  cases n<;>simp only[mM]at h<;>simp only[Oper.upon]
  case value v=>obtain⟨H',ho,hk⟩:=h;exact hn _ _ _ ho hk
  case skip=>obtain⟨H',ho,hk⟩:=h;exact hn _ _ _ ho hk
  case enter f args=>
   refine h.mono fun e w'' ⟨H',ho,hk⟩=>?_
   cases e with
   |returned v=>exact hn _ _ _ ho hk
   |panicked ch=>exact hp _ _ _ ho hk
   |outgrown=>exact hk.elim
 |halt x w'=>
  cases x<;>simp only[mM]at h
  case panic v=>obtain⟨H',ho,hk⟩:=h;exact hp _ _ _ ho hk
theorem dI.refl(l:List Oper)(fr:Fr):dI l fr fr:=fun _ _=>rfl
theorem dI.cons{o:Oper}{r:List Oper}{fr fr':Fr}{v:Value}(h:dI r (bS fr o.dst v) fr'):dI (o::r) fr fr':=fun s hs=>by
 rw[c6,Bool.or_eq_false_iff]at hs
 rw[h s hs.2,fh hs.1]
theorem cm{n:Nat}{ops:Array Oper}{gq:Bool}:∀(f:Nat) (q:Bool) (cur:Option (Nat×Bool)) (kn:List (Nat×Bool)) (l:List Oper) (fr:Fr) (H:Hp) (K:List (Nat×Bool)→Fr→Hp→Prop) (KP:List PanicEntry→Hp→Prop),
  dM P g n ops gq f q cur kn l fr H K KP→jV ops cur l fr→gK kn fr→∀(a:Act) (w:World),bX ds n a fr→Own g H w→∀(rest:List Oper) (Q:Exit→Act→World→Prop),
  (∀a' w' oL fr' H',bX ds n a' fr'→Own g H' w'→dI l fr fr'→gK oL fr'→K oL fr' H'→wpList P ops Q rest a' w')→
  (∀ch a' w' fr' H',bX ds n a' fr'→Own g H' w'→KP ch H'→Q (.panic ch) a' w')→wpList P ops Q (l++rest) a w
 |0,_,_,_,_,_,_,_,_,h=>h.elim
 |f+1,q,cur,kn,[],fr,H,K,KP,h=>fun _ hkn a w ha hw rest Q hk _=>hk a w kn fr H ha hw (dI.refl _ _) hkn h
 |f+1,q,cur,kn,o::r,fr,H,K,KP,h=>by
  intro kW hkn a w ha hw rest Q hk hp
  unfold dM at h
  cases UH:bY o.guard cur<;>simp only[UH,cond_true,cond_false]at h
  case true=>
   have hg:=gT UH
   have nI:=kW.wanted hg ha
   cases hd:dG n o.dst<;>simp only[hd,cond_true,cond_false]at h
   simp only[List.cons_append,wpList,nI,if_true]
   refine .inl ?_
   unfold Oper.wp
   rw[ha.eval]
   cases xw:sS o.op<;>simp only[xw,cond_true,cond_false]at h
   case true=>
    obtain⟨v,hk',hr,hv⟩:=mU h
    rw[hr w hw]
    exact cm f q cur _ r _ H K KP hk' (kW.tail fun s hs=>fh hs) (hkn.up hv) _ w (ha.put hd v) hw rest Q (fun a' w' oL fr' H' h1 h2 h3 h5 h4=>hk a' w' oL fr' H' h1 h2 h3.cons h5 h4) hp
   case false=>
    cases q<;>simp only[cond_true,cond_false]at h
    case true=>
     obtain⟨v,f',args,hr,hs,hk'⟩:=FL h
     rw[hr w]
     refine(hs w hw).mono fun e w'' ⟨H',ho,he,hH⟩=>?_
     subst he;subst hH
     exact cm f true cur _ r _ H' K KP hk' (kW.tail fun s hs=>fh hs) (hkn.del _ _) _ w'' (ha.put hd v) ho rest Q (fun a' w' oL fr' H' h1 h2 h3 h5 h4=>hk a' w' oL fr' H' h1 h2 h3.cons h5 h4) hp
    case false=>
     refine(sE (nf fr) h w hw).upon (fun v H' w' ho hk'=>?_) (fun ch H' w' ho hk'=>hp ch a w' fr H' ha ho hk')
     exact cm f false cur _ r _ H' K KP hk' (kW.tail fun s hs=>fh hs) (hkn.del _ _) _ w' (ha.put hd v) ho rest Q (fun a' w' oL fr' H' h1 h2 h3 h5 h4=>hk a' w' oL fr' H' h1 h2 h3.cons h5 h4) hp
  case false=>
   split at h<;>try exact h.elim
   rename_i j want Tq
   split at h<;>try exact h.elim
   rename_i s iR
   generalize hG:fV cur (o::r)=G at h
   generalize hR:gP cur (o::r)=R at h
   have F1:G++R=o::r:=by rw[←hG,←hR];exact qH _ _
   cases eB:(dG n (some s) &&gF n G&& !bD G s&&lF ops s want [] G)<;>simp only[eB,cond_true,cond_false]at h
   simp only[Bool.and_eq_true,Bool.not_eq_true']at eB
   obtain⟨⟨⟨hds,TD⟩,Je⟩,Qn⟩:=eB
   rw[←F1,List.append_assoc]
   have aaD:∀fr',dI G fr fr'→∀s,bD (o::r) s=false→fr' s=fr s:=fun fr' ho s hs=>by
    rw[←F1,bQ,Bool.or_eq_false_iff]at hs
    exact ho s hs.1
   have mc:∀fr',dI G fr fr'→jV ops cur R fr':=fun fr' ho=>by
    unfold jV at kW⊢
    split
    ·trivial
    ·obtain⟨t,h1,h2,h3⟩:=kW
     have yb:=h3
     rw[←F1,bQ,Bool.or_eq_false_iff]at yb
     exact⟨t,h1,(ho t yb.1).trans h2,yb.2⟩
   have HH:∀fr',dI G fr fr'→gK (kB kn G) fr':=fun fr' ho=>hkn.V8 G ho
   split at h
   ·rename_i b hb
    have oN:=hkn s b hb
    cases OV:(b==want)<;>simp only[OV,cond_true,cond_false]at h
    ·have ny:b= !want:=by cases b<;>cases want<;>simp_all
     subst ny
     refine mO G [] fr a TD Je Qn oN (fun t ht=>by simp at ht) ha fun a' dF=>?_
     refine cm f q cur _ R _ H K KP h (mc _ (cH G fr)) (HH _ (cH G fr)) a' w dF hw rest Q (fun a2 w2 Bs qW H2 k1 k2 k3 k5 k4=>hk a2 w2 Bs qW H2 k1 k2 ?_ k5 k4) hp
     intro x hx
     have hx':=hx
     rw[←F1,bQ,Bool.or_eq_false_iff]at hx'
     rw[k3 x hx'.2,cH G fr x hx'.1]
    ·have ny:b=want:=by cases b<;>cases want<;>simp_all
     subst ny
     refine cm f q o.guard kn G fr H _ KP h ?_ hkn a w ha hw (R++rest) Q ?_ hp
     ·rw[Tq];exact⟨s,iR,oN,Je⟩
     ·intro a' w' oL fr' H' g1 g2 g3 g5 g4
      refine cm f q cur oL R fr' H' K KP g4 (mc fr' g3) g5 a' w' g1 g2 rest Q (fun a2 w2 Bs qW H2 k1 k2 k3 k5 k4=>hk a2 w2 Bs qW H2 k1 k2 ?_ k5 k4) hp
      intro x hx
      have hx':=hx
      rw[←F1,bQ,Bool.or_eq_false_iff]at hx'
      rw[k3 x hx'.2,g3 x hx'.1]
   rename_i Sa
   cases X3:(q||gq)<;>simp only[X3,cond_true,cond_false]at h
   case true=>
    split at h<;>try exact h.elim
    rename_i p r' 
    have X7:bY p.guard cur=true:=by
     have:∀l:List Oper,gP cur l=p::r'→bY p.guard cur=true:=by
      intro l
      induction l with
      |nil=>intro e;simp[gP]at e
      |cons x y ih=>
       intro e
       simp only[gP]at e
       cases hx:bY x.guard cur<;>simp only[hx,cond_true,cond_false]at e
       ·exact ih e
       ·simp only[List.cons.injEq]at e;rw[←e.1];exact hx
     exact this _ hR
    cases hpk:(qm p&&dG n p.dst)<;>simp only[hpk,cond_true,cond_false]at h
    simp only[Bool.and_eq_true]at hpk
    obtain⟨b,t,oN,h1,h2,h3⟩:=h
    have gY:∀(a':Act) (w':World) (fr':Fr),bX ds n a' fr'→Own g H w'→dI G fr fr'→om p fr'=.bool t→wpList P ops Q (p::r'++rest) a' w':=by
     intro a' w' fr' dF di ho R1
     have nI:=(mc fr' ho).wanted (gT X7) dF
     simp only[List.cons_append,wpList,nI,if_true]
     refine .inl ?_
     unfold Oper.wp
     rw[dF.eval,oh hpk.1 R1 w']
     have Lr:xD G fr' fr=fr':=by
      funext x
      simp only[xD]
      cases hx:bD G x
      ·exact(ho x hx).symm
      ·rfl
     have yb:=h3 fr'
     rw[Lr]at yb
     refine cm f q cur _ r' _ H K KP yb ((mc fr' ho).tail fun s hs=>fh hs) ((HH fr' ho).del _ _) _ w' (dF.put hpk.2 _) di rest Q (fun a2 w2 Bs qW H2 g1 g2 g3 g5 g4=>hk a2 w2 Bs qW H2 g1 g2 ?_ g5 g4) hp
     intro x hx
     have hx':=hx
     rw[←F1,bQ,Bool.or_eq_false_iff,c6,Bool.or_eq_false_iff]at hx'
     rw[g3 x hx'.2.2,fh hx'.2.1,ho x hx'.1]
    by_cases OV:b=want
    ·subst OV
     have zC:=h1 rfl
     rw[jm oN]at zC
     refine cm f true o.guard _ G fr H _ _ zC ?_ (hkn.put oN) a w ha hw (p::r'++rest) Q ?_ ?_
     ·rw[Tq];exact⟨s,iR,oN,Je⟩
     ·intro a' w' oL fr' H' g1 g2 g3 _ ⟨g4,g5⟩
      subst g4
      exact gY a' w' fr' g1 g2 g3 g5
     ·intro _ _ _ _ _ _ _ h0;exact h0.elim
    ·have ny:b= !want:=by cases b<;>cases want<;>simp_all
     have me:=h2 ny
     subst ny
     rw[jm oN]at me
     refine mO G [] fr a TD Je Qn oN (fun t ht=>by simp at ht) ha fun a' dF=>?_
     exact gY a' w _ dF hw (cH G fr) me
   case false=>
    obtain⟨b,oN,h1,h2⟩:=h
    by_cases OV:b=want
    ·subst OV
     have zC:=h1 rfl
     rw[jm oN]at zC
     refine cm f q o.guard _ G fr H _ KP zC ?_ (hkn.put oN) a w ha hw (R++rest) Q ?_ hp
     ·rw[Tq];exact⟨s,iR,oN,Je⟩
     ·intro a' w' oL fr' H' g1 g2 g3 g5 g4
      refine cm f q cur oL R fr' H' K KP g4 (mc fr' g3) g5 a' w' g1 g2 rest Q (fun a2 w2 Bs qW H2 k1 k2 k3 k5 k4=>hk a2 w2 Bs qW H2 k1 k2 ?_ k5 k4) hp
      intro x hx
      have hx':=hx
      rw[←F1,bQ,Bool.or_eq_false_iff]at hx'
      rw[k3 x hx'.2,g3 x hx'.1]
    ·have ny:b= !want:=by cases b<;>cases want<;>simp_all
     have me:=h2 ny
     subst ny
     rw[jm oN]at me
     refine mO G [] fr a TD Je Qn oN (fun t ht=>by simp at ht) ha fun a' dF=>?_
     refine cm f q cur _ R _ H K KP me (mc _ (cH G fr)) ((HH _ (cH G fr)).put (by rw[cH G fr s Je,oN])) a' w dF hw rest Q (fun a2 w2 Bs qW H2 k1 k2 k3 k5 k4=>hk a2 w2 Bs qW H2 k1 k2 ?_ k5 k4) hp
     intro x hx
     have hx':=hx
     rw[←F1,bQ,Bool.or_eq_false_iff]at hx'
     rw[k3 x hx'.2,cH G fr x hx'.1]
theorem de{n:Nat}{ops:Array Oper}{gq:Bool}:∀(f:Nat) (cur:Option (Nat×Bool)) (kn:List (Nat×Bool)) (l:List Oper) (fr:Fr) (H:Hp) (K:List (Nat×Bool)→Fr→Hp→Prop) (KP:List PanicEntry→Hp→Prop),
  dM P g n ops gq f true cur kn l fr H K KP→jV ops cur l fr→gK kn fr→∀(a:Act),bX ds n a fr→∀(rest:List Oper) (Q:Act→Prop),
  (∀a' oL fr',bX ds n a' fr'→dI l fr fr'→gK oL fr'→K oL fr' H→wpQuiet P ops (Own g H) Q rest a')→wpQuiet P ops (Own g H) Q (l++rest) a
 |0,_,_,_,_,_,_,_,h=>h.elim
 |f+1,cur,kn,[],fr,H,K,KP,h=>fun _ hkn a ha rest Q hk=>hk a kn fr ha (dI.refl _ _) hkn h
 |f+1,cur,kn,o::r,fr,H,K,KP,h=>by
  intro kW hkn a ha rest Q hk
  unfold dM at h
  cases UH:bY o.guard cur<;>simp only[UH,cond_true,cond_false]at h
  case true=>
   have hg:=gT UH
   have nI:=kW.wanted hg ha
   cases hd:dG n o.dst<;>simp only[hd,cond_true,cond_false]at h
   simp only[List.cons_append,wpQuiet,nI,if_true]
   cases xw:sS o.op<;>simp only[xw,cond_true,cond_false]at h
   case true=>
    obtain⟨v,hk',hr,hv⟩:=mU h
    refine⟨v,fun w hw=>?_,?_⟩
    ·unfold Oper.quietAt
     rw[ha.eval,hr w hw]
     exact⟨rfl,rfl⟩
    ·exact de f cur _ r _ H K KP hk' (kW.tail fun s hs=>fh hs) (hkn.up hv) _ (ha.put hd v) rest Q (fun a' oL fr' h1 h3 h5 h4=>hk a' oL fr' h1 h3.cons h5 h4)
   case false=>
    obtain⟨v,f',args,hr,hs,hk'⟩:=FL h
    refine⟨v,fun w hw=>?_,?_⟩
    ·unfold Oper.quietAt
     rw[ha.eval,hr w]
     refine⟨rfl,(hs w hw).mono fun e w'' ⟨H',ho,he,hH⟩=>?_⟩
     subst hH
     exact⟨he,ho⟩
    ·exact de f cur _ r _ H K KP hk' (kW.tail fun s hs=>fh hs) (hkn.del _ _) _ (ha.put hd v) rest Q (fun a' oL fr' h1 h3 h5 h4=>hk a' oL fr' h1 h3.cons h5 h4)
  case false=>
   split at h<;>try exact h.elim
   rename_i j want Tq
   split at h<;>try exact h.elim
   rename_i s iR
   generalize hG:fV cur (o::r)=G at h
   generalize hR:gP cur (o::r)=R at h
   have F1:G++R=o::r:=by rw[←hG,←hR];exact qH _ _
   cases eB:(dG n (some s) &&gF n G&& !bD G s&&lF ops s want [] G)<;>simp only[eB,cond_true,cond_false]at h
   simp only[Bool.and_eq_true,Bool.not_eq_true']at eB
   obtain⟨⟨⟨hds,TD⟩,Je⟩,Qn⟩:=eB
   rw[←F1,List.append_assoc]
   have mc:∀fr',dI G fr fr'→jV ops cur R fr':=fun fr' ho=>by
    unfold jV at kW⊢
    split
    ·trivial
    ·obtain⟨t,h1,h2,h3⟩:=kW
     have yb:=h3
     rw[←F1,bQ,Bool.or_eq_false_iff]at yb
     exact⟨t,h1,(ho t yb.1).trans h2,yb.2⟩
   have HH:∀fr',dI G fr fr'→gK (kB kn G) fr':=fun fr' ho=>hkn.V8 G ho
   split at h
   ·rename_i b hb
    have oN:=hkn s b hb
    cases OV:(b==want)<;>simp only[OV,cond_true,cond_false]at h
    ·have ny:b= !want:=by cases b<;>cases want<;>simp_all
     subst ny
     refine nZ G [] fr a TD Je Qn oN (fun t ht=>by simp at ht) ha fun a' dF=>?_
     refine de f cur _ R _ H K KP h (mc _ (cH G fr)) (HH _ (cH G fr)) a' dF rest Q (fun a2 Bs qW k1 k3 k5 k4=>hk a2 Bs qW k1 ?_ k5 k4)
     intro x hx
     have hx':=hx
     rw[←F1,bQ,Bool.or_eq_false_iff]at hx'
     rw[k3 x hx'.2,cH G fr x hx'.1]
    ·have ny:b=want:=by cases b<;>cases want<;>simp_all
     subst ny
     refine de f o.guard kn G fr H _ KP h ?_ hkn a ha (R++rest) Q ?_
     ·rw[Tq];exact⟨s,iR,oN,Je⟩
     ·intro a' oL fr' g1 g3 g5 g4
      refine de f cur oL R fr' H K KP g4 (mc fr' g3) g5 a' g1 rest Q (fun a2 Bs qW k1 k3 k5 k4=>hk a2 Bs qW k1 ?_ k5 k4)
      intro x hx
      have hx':=hx
      rw[←F1,bQ,Bool.or_eq_false_iff]at hx'
      rw[k3 x hx'.2,g3 x hx'.1]
   rename_i Sa
   simp only[Bool.true_or,cond_true]at h
   split at h<;>try exact h.elim
   rename_i p r' 
   have X7:bY p.guard cur=true:=by
    have:∀l:List Oper,gP cur l=p::r'→bY p.guard cur=true:=by
     intro l
     induction l with
     |nil=>intro e;simp[gP]at e
     |cons x y ih=>
      intro e
      simp only[gP]at e
      cases hx:bY x.guard cur<;>simp only[hx,cond_true,cond_false]at e
      ·exact ih e
      ·simp only[List.cons.injEq]at e;rw[←e.1];exact hx
    exact this _ hR
   cases hpk:(qm p&&dG n p.dst)<;>simp only[hpk,cond_true,cond_false]at h
   simp only[Bool.and_eq_true]at hpk
   obtain⟨b,t,oN,h1,h2,h3⟩:=h
   have gY:∀(a':Act) (fr':Fr),bX ds n a' fr'→dI G fr fr'→om p fr'=.bool t→wpQuiet P ops (Own g H) Q (p::r'++rest) a':=by
    intro a' fr' dF ho R1
    have nI:=(mc fr' ho).wanted (gT X7) dF
    simp only[List.cons_append,wpQuiet,nI,if_true]
    refine⟨.bool t,fun w hw=>?_,?_⟩
    ·unfold Oper.quietAt
     rw[dF.eval,oh hpk.1 R1 w]
     exact⟨rfl,rfl⟩
    have Lr:xD G fr' fr=fr':=by
     funext x
     simp only[xD]
     cases hx:bD G x
     ·exact(ho x hx).symm
     ·rfl
    have yb:=h3 fr'
    rw[Lr]at yb
    refine de f cur _ r' _ H K KP yb ((mc fr' ho).tail fun s hs=>fh hs) ((HH fr' ho).del _ _) _ (dF.put hpk.2 _) rest Q (fun a2 Bs qW g1 g3 g5 g4=>hk a2 Bs qW g1 ?_ g5 g4)
    intro x hx
    have hx':=hx
    rw[←F1,bQ,Bool.or_eq_false_iff,c6,Bool.or_eq_false_iff]at hx'
    rw[g3 x hx'.2.2,fh hx'.2.1,ho x hx'.1]
   by_cases OV:b=want
   ·subst OV
    have zC:=h1 rfl
    rw[jm oN]at zC
    refine de f o.guard _ G fr H _ _ zC ?_ (hkn.put oN) a ha (p::r'++rest) Q ?_
    ·rw[Tq];exact⟨s,iR,oN,Je⟩
    ·intro a' oL fr' g1 g3 _ ⟨_,g5⟩
     exact gY a' fr' g1 g3 g5
   ·have ny:b= !want:=by cases b<;>cases want<;>simp_all
    have me:=h2 ny
    subst ny
    rw[jm oN]at me
    refine nZ G [] fr a TD Je Qn oN (fun t ht=>by simp at ht) ha fun a' dF=>?_
    exact gY a' _ dF (cH G fr) me
end
end Go.Sx
namespace Go.Sx
open Go
section
variable {P:Program} {ops:Array Oper} {Q:Exit→Act→World→Prop} {md:Region.Mode} {S:Nat→World→World→Prop} {S0:World→Prop}
def cM(P:Program)(md:Region.Mode)(ops:Array Oper)(Q:Exit→Act→World→Prop)(S:Nat→World→World→Prop):Nat→Array Bool→Act→World→Prop
 |0,listed,a,w=>Region.ready md ops listed=[]∧Q .normal a w
 |n+1,listed,a,w=>(Region.ready md ops listed=[]→Q .normal a w)∧
  ∀i∈Region.ready md ops listed,wpOp P ops Q i (fun a' w'=>S i w w'∧cM P md ops Q S n (listed.setIfInBounds i true) a' w') a w
theorem cM.any:∀{n:Nat} {listed:Array Bool} {a:Act} {w:World},cM P md ops Q S n listed a w→wpAny P md ops Q n listed a w
 |0,_,_,_,h=>h
 |_+1,_,_,_,h=>⟨h.1,fun i hi=>wpOp_mono (fun _ _ h'=>h'.2.any) (h.2 i hi)⟩
def Kr(md:Region.Mode)(ops:Array Oper)(i j:Nat):Prop:=∀oj,ops[j]? =some oj→∀e∈oj.after,Region.binds md e=true→e.on≠i
def ej(md:Region.Mode)(ops:Array Oper)(listed:Array Bool):Prop:=∀j oj,ops[j]? =some oj→listed.getD j true=true→∀e∈oj.after,Region.binds md e=true→listed.getD e.on true=true
inductive mG(md:Region.Mode)(ops:Array Oper)(i:Nat):Nat→Prop
 |one {j:Nat} {oj:Oper} {e:Edge}:ops[j]? =some oj→e∈oj.after→Region.binds md e=true→e.on=i→mG md ops i j
 |more {j:Nat} {oj:Oper} {e:Edge}:ops[j]? =some oj→e∈oj.after→Region.binds md e=true→mG md ops i e.on→mG md ops i j
theorem xC{a:Array Bool}{i:Nat}(h:a.getD i false=true):a.getD i true=true:=by
 rw[Array.getD_eq_getD_getElem?]at*
 cases hg:a[i]? with
 |none=>rfl
 |some b=>rw[hg]at h;simpa using h
theorem qS{a:Array Bool}{i k:Nat}(h:a.getD k true=true):(a.setIfInBounds i true).getD k true=true:=by
 by_cases e:i=k
 ·subst e
  rw[Array.getD_eq_getD_getElem?,Array.getElem?_setIfInBounds_self]
  split<;>rfl
 ·rw[getD_set_ne true e];exact h
theorem ej.waits{listed:Array Bool}(hc:ej md ops listed){i j:Nat}(h:mG md ops i j):listed.getD j true=true→listed.getD i true=true:=by
 induction h with
 |one h1 h2 h3 h4=>intro h;rw[←h4];exact hc _ _ h1 h _ h2 h3
 |more h1 h2 h3 _ ih=>intro h;exact ih (hc _ _ h1 h _ h2 h3)
theorem ej.ready{listed:Array Bool}(hc:ej md ops listed){i j:Nat}(hj:j∈Region.ready md ops listed)(h:mG md ops i j):listed.getD i true=true:=by
 obtain⟨_,oj,gO,aE⟩:=mem_ready.1 hj
 cases h with
 |one h1 h2 h3 h4=>rw[gO]at h1;cases h1;rw[←h4];exact xC (aE _ h2 h3)
 |more h1 h2 h3 h4=>rw[gO]at h1;cases h1;exact hc.waits h4 (xC (aE _ h2 h3))
theorem ej.step{listed:Array Bool}(hc:ej md ops listed){j:Nat}(hj:j∈Region.ready md ops listed):ej md ops (listed.setIfInBounds j true):=by
 intro k ok hk hl e he hb
 by_cases OR:j=k
 ·subst OR
  obtain⟨_,oj,gO,aE⟩:=mem_ready.1 hj
  rw[hk]at gO;cases gO
  exact qS (xC (aE e he hb))
 ·rw[getD_set_ne true OR]at hl
  exact qS (hc k ok hk hl e he hb)
theorem ej.none(n:Nat)(h:ops.size=n):ej md ops (Array.replicate n false):=by
 intro j oj hj hl
 exfalso
 have hlt:=(Array.getElem?_eq_some_iff.1 hj).1
 rw[Array.getD_eq_getD_getElem?,Array.getElem?_replicate,if_pos (by omega)]at hl
 cases hl
theorem cM.first{i:Nat}{oi:Oper}{v:Value}(hi:ops[i]? =some oi)(hsel:Region.noSelect ops=true)(hQ:∀c a w,Q (.panic c) (a.put oi.dst v) w→Q (.panic c) a w)
 (W3:∀w,S0 w→S i w w)(hS:∀j oj w w',ops[j]? =some oj→j≠i→¬mG md ops i j→S0 w→S j w w'→S0 w'):∀(n:Nat) (listed:Array Bool) (a:Act) (w:World),ej md ops listed→
   (∀j oj,ops[j]? =some oj→j≠i→listed.getD j true=false→Kr md ops i j→oi.apart ops oj=true)→i∈Region.ready md ops listed→YieldsIf P ops S0 oi v a→S0 w→
   cM P md ops Q S n (listed.setIfInBounds i true) (a.put oi.dst v) w→cM P md ops Q S (n+1) listed a w:=by
 have ZX:=Region.noSelect_spec hsel
 intro n
 induction n with
 |zero=>
  intro listed a w hc hfree hr hy h0 h
  refine⟨fun e=>absurd hr (by rw[e];simp),fun j hj=>?_⟩
  by_cases e:j=i
  ·rw[e];exact hy.wpOp hi h0 ⟨W3 _ h0,h⟩
  ·exact absurd (ready_mono hj e) (by rw[h.1];simp)
 |succ n ih=>
  intro listed a w hc hfree hr hy h0 h
  refine⟨fun e=>absurd hr (by rw[e];simp),fun j hj=>?_⟩
  by_cases e:j=i
  ·rw[e];exact hy.wpOp hi h0 ⟨W3 _ h0,h⟩
  ·obtain⟨hun,oj,gO,aE⟩:=mem_ready.1 hj
   have hno:Kr md ops i j:=fun o ho x hx hb he=>by
    rw[gO]at ho;cases ho
    have h1:=aE x hx hb
    have h2:=(mem_ready.1 hr).1
    rw[he]at h1
    rw[Array.getD_eq_getD_getElem?]at h1 h2
    cases hg:listed[i]? with
    |none=>rw[hg]at h1;simp at h1
    |some y=>rw[hg]at h1 h2;simp at h1 h2;rw[h2]at h1;cases h1
   have UU:¬mG md ops i j:=fun hw=>by
    have h1:=hc.ready hj hw
    rw[(mem_ready.1 hr).1]at h1;cases h1
   refine wpOp_mono ?_ (wpOp_putIf gO (hfree j oj gO e hun hno) (fun cs b=>ZX i oi cs b hi) (fun cs b=>ZX j oj cs b gO) hQ hy (h.2 j (ready_mono hj e)))
   rintro a' w' ⟨hy',hs',gN⟩
   refine⟨hs',ih _ _ _ (hc.step hj) (fun k ok hk Se OD zn=>hfree k ok hk Se ?_ zn) (ready_mono hr (Ne.symm e)) hy' (hS j oj w w' gO e UU h0 hs') (by rw[Array.setIfInBounds_comm _ _ e];exact gN)⟩
   by_cases OR:j=k
   ·rw[←OR];exact hun
   ·rw[←OD,getD_set_ne true OR]
theorem cM.take{i:Nat}{oi:Oper}{v:Value}{n:Nat}{listed:Array Bool}{a:Act}{w:World}(hc:ej md ops listed)(hi:ops[i]? =some oi)(hsel:Region.noSelect ops=true)(hf:Region.free md ops listed i=true)
 (hr:(Region.ready md ops listed).contains i=true)(hQ:∀c a w,Q (.panic c) (a.put oi.dst v) w→Q (.panic c) a w)(W3:∀w,S0 w→S i w w)(hS:∀j oj w w',ops[j]? =some oj→j≠i→¬mG md ops i j→S0 w→S j w w'→S0 w')
 (hy:YieldsIf P ops S0 oi v a)(h0:S0 w)(h:cM P md ops Q S n (listed.setIfInBounds i true) (a.put oi.dst v) w):cM P md ops Q S (n+1) listed a w:=
 cM.first hi hsel hQ W3 hS n listed a w hc (fun j oj h1 h2 h3 h4=>Region.free_spec hi hf j oj h1 h2 h3 (h4 oj h1)) (by simpa using hr) hy h0 h
theorem cM.all{rs:List Nat}{n:Nat}{listed:Array Bool}{a:Act}{w:World}(hr:Region.ready md ops listed=rs)(hne:rs≠[])
 (h:∀i∈rs,wpOp P ops Q i (fun a' w'=>S i w w'∧cM P md ops Q S n (listed.setIfInBounds i true) a' w') a w):cM P md ops Q S (n+1) listed a w:=
 ⟨fun h0=>absurd (hr▸h0) hne,hr▸h⟩
theorem cM.done{listed:Array Bool}{a:Act}{w:World}(hr:Region.ready md ops listed=[])(h:Q .normal a w):∀n,cM P md ops Q S n listed a w
 |0=>⟨hr,h⟩
 |_+1=>⟨fun _=>h,by rw[hr];simp⟩
def Xv(j:Oper)(i:Nat):Bool:=j.after.toList.any fun e=>Nat.beq e.on i&&Region.binds .any e
def Ut(P:Program):Op→Bool
 | .move _| .assign _| .pick .. | .nilCheck _| .fieldAddr .. | .field .. | .indexAddr .. | .unOp .. =>true
 | .slice t _ _ _ none=>match P.underlying t with|some (.slice _)=>true|_=>false
 | .binOp _ t _ _ _=>match P.underlying t with
  |some d=>match xN d with| .other=>false|_=>true
  |none=>true
 |_=>false
theorem yL{g:Gh}{o:Oper}(h:Ut P o.op=true)(ρ:Operand→Value)(H H':Hp)(k:Value→Prop):Az P g o ρ H k=Az P g o ρ H' k:=by
 obtain⟨d,op,t,p,a,gd⟩:=o
 cases op<;>first|rfl|(simp only[Ut]at h;first|cases h|skip)
 case binOp op t x y z=>
  simp only[Az]
  cases hu:P.underlying t with
  |none=>rfl
  |some d=>
   simp only[hu]at h
   cases hb:xN d<;>simp only[hb]at h⊢
   cases h
 case slice t x lo hi m=>
  cases m with
  |none=>
   simp only[Az]
   cases hu:P.underlying t with
   |none=>simp[hu]at h
   |some d=>cases d<;>first|rfl|(exfalso;simp[hu]at h)
  |some m=>cases h
def uF(P:Program)(o:Op):Bool:=sS o&& !Ut P o
def FO(P:Program)(ops:Array Oper)(j:Nat):Bool:=match ops[j]? with
 |some oj=>(List.range ops.size).any fun i=>match ops[i]? with|some oi=>uF P oi.op&& !Xv oj i&& !Nat.beq i j|none=>false
 |none=>true
def nS(ops:Array Oper)(i:Nat):Nat→Nat→Bool
 |0,_=>false
 |n+1,j=>match ops[j]? with
  |some oj=>oj.after.toList.any fun e=>Region.binds .any e&& (Nat.beq e.on i||nS ops i n e.on)
  |none=>false
theorem qE{i:Nat}:∀{n j:Nat},nS ops i n j=true→mG .any ops i j
 |0,j,h=>by simp[nS]at h
 |n+1,j,h=>by
  unfold nS at h
  split at h
  ·rename_i oj gO
   obtain⟨e,he,h2⟩:=List.any_eq_true.1 h
   simp only[Bool.and_eq_true,Bool.or_eq_true]at h2
   rcases h2.2 with h3|h3
   ·exact .one gO (Array.mem_toList_iff.1 he) h2.1 (Nat.eq_of_beq_eq_true h3)
   ·exact .more gO (Array.mem_toList_iff.1 he) h2.1 (qE h3)
  ·cases h
def qL(P:Program)(ops:Array Oper)(j:Nat):Bool:=(List.range ops.size).any fun i=>match ops[i]? with|some oi=>uF P oi.op&& !nS ops i 6 j&& !Nat.beq i j|none=>false
def nR(P:Program)(g:Gh)(R:Hp)(ops:Array Oper)(j:Nat)(w w':World):Prop:=∀oj,ops[j]? =some oj→(sS oj.op=true→w'=w)∧(sS oj.op=false→Own g [] w'∧(qL P ops j=true→Own g R w→Own g R w'))
theorem kx{i j:Nat}{oi:Oper}(hi:ops[i]? =some oi)(hp:uF P oi.op=true)(hne:j≠i)(h:¬mG .any ops i j):qL P ops j=true:=by
 unfold qL
 rw[List.any_eq_true]
 refine⟨i,List.mem_range.2 (Array.getElem?_eq_some_iff.1 hi).1,?_⟩
 simp only[hi,hp,Bool.true_and,Bool.and_eq_true,Bool.not_eq_true']
 refine⟨?_,?_⟩
 ·cases hb:nS ops i 6 j
  ·rfl
  ·exact absurd (qE hb) h
 ·cases hb:Nat.beq i j
  ·rfl
  ·exact absurd (Nat.eq_of_beq_eq_true hb).symm hne
theorem sI{j:Nat}(h:qL P ops j=true):FO P ops j=true:=by
 unfold qL at h
 obtain⟨i,hi,h2⟩:=List.any_eq_true.1 h
 unfold FO
 split
 ·rename_i oj gO
  refine List.any_eq_true.2 ⟨i,hi,?_⟩
  split at h2
  ·rename_i oi m6
   simp only[Bool.and_eq_true,Bool.not_eq_true']at h2⊢
   refine⟨⟨h2.1.1,?_⟩,h2.2⟩
   cases hb:Xv oj i
   ·rfl
   ·have h3:=h2.1.2
    unfold nS at h3
    simp only[gO]at h3
    unfold Xv at hb
    obtain⟨e,he,h4⟩:=List.any_eq_true.1 hb
    rw[←Bool.not_eq_true,List.any_eq_true]at h3
    refine absurd ⟨e,he,?_⟩ h3
    simp only[Bool.and_eq_true,Bool.or_eq_true]at h4⊢
    exact⟨h4.2,.inl h4.1⟩
  ·cases h2
 ·rfl
end
end Go.Sx
namespace Go.Sx
open Go
section
variable {P:Program} {g:Gh} {ds:List Deferred}
def GC(b:Bool)(p q:Prop):Prop:=cond b (p∧q) q
theorem GC.of{b:Bool}{p q:Prop}(h:GC b p q):(b=true→p)∧q:=by
  cases b
  · exact⟨fun e=>(by cases e),h⟩
  · exact⟨fun _=>h.1,h.2⟩
def Kt(P:Program)(ops:Array Oper)(T:List Nat)(i:Nat):Bool:=cond T.isEmpty (FO P ops i) (qL P ops i)
theorem Ks{ops:Array Oper}{T:List Nat}{i:Nat}(h:qL P ops i=true):Kt P ops T i=true:=by
  unfold Kt
  cases T.isEmpty
  · exact h
  · exact sI h
def Ia(P:Program)(g:Gh)(n:Nat)(ops:Array Oper)(R:Hp)(K:Fr→Hp→Prop):List Nat→Array Bool→Fr→Hp→Prop
  | [],listed,fr,H=>cond (Region.ready .any ops listed).isEmpty (K fr H) False
  |i::r,listed,fr,H=>
    match ops[i]? with
    |none=>False
    |some o=>
      cond (dG n o.dst&&o.guard.isNone)
        (cond (sS o.op)
          (cond (Region.free .any ops listed i&& (Region.ready .any ops listed).contains i)
            (Az P g o (ev fr) R fun v=>Ia P g n ops R K r (listed.setIfInBounds i true) (bS fr o.dst v) H) False)
          (cond (Region.ready .any ops listed==[i])
            (MZ P g o (ev fr) H (fun v H'=>GC (FO P ops i) (aM H' R) (Ia P g n ops R K r (listed.setIfInBounds i true) (bS fr o.dst v) H')) (fun _ _=>False)) False)) False
def pQ(Q:Exit→Act→World→Prop):Exit→Act→World→Prop
  | .panic _,_,_=>False
  |e,a,w=>Q e a w
theorem iM{o:Oper}(h:o.guard.isNone=true)(y:Nat→Option Bool):Region.wanted o y=true:=by
  unfold Region.wanted
  cases hg:o.guard<;>simp_all
theorem Own.j9{g:Gh}{H:Hp}{w:World}(h:Own g H w):Own g [] w:=Own.right (A:=H) (B:=[]) (by simpa using h)
theorem fu{listed:Array Bool}{i k:Nat}(hun:listed.getD i true=false)(h:(listed.setIfInBounds i true).getD k true=false):listed.getD k true=false:=by
  by_cases e:i=k
  · rw[←e];exact hun
  · rwa [getD_set_ne true e]at h
theorem pI{n:Nat}{ops:Array Oper}{R:Hp}{K:Fr→Hp→Prop}{Q:Exit→Act→World→Prop}(hs:Region.noSelect ops=true)(vU:Fr)
   (hk:∀a w fr H,bX ds n a fr→Own g H w→dI ops.toList vU fr→K fr H→Q .normal a w):
    ∀(l:List Nat) (listed:Array Bool) (fr:Fr) (H:Hp),Ia P g n ops R K l listed fr H→∀(fuel:Nat),l.length≤fuel→ej .any ops listed→∀(a:Act) (w:World),bX ds n a fr→Own g H w→((∃k ok,ops[k]? =some ok∧uF P ok.op=true∧listed.getD k true=false)→Own g R w)→dI ops.toList vU fr→
      cM P .any ops (pQ Q) (nR P g R ops) fuel listed a w
  | [],listed,fr,H,h=>by
    intro fuel _ iC a w ha hw hR ho
    unfold Ia at h
    cases hr:(Region.ready .any ops listed).isEmpty<;>simp only[hr,cond_true,cond_false]at h
    exact cM.done (Q:=pQ Q) (by simpa using hr) (hk a w fr H ha hw ho h) fuel
  |i::r,listed,fr,H,h=>by
    intro fuel hfuel iC a w ha hw hR ho
    unfold Ia at h
    split at h<;>try exact h.elim
    rename_i o m6
    have hmem:o∈ops.toList:=Array.mem_toList_iff.2 (Array.mem_of_getElem? m6)
    have hout:∀v,dI ops.toList vU (bS fr o.dst v):=fun v s hs'=>by
      rw[fh,ho s hs']
      have:∀l:List Oper,o∈l→bD l s=false→bD [({(default:Oper)with dst:=o.dst})] s=false:=by
        intro l
        induction l with
        |nil=>intro h;simp at h
        |cons x y ih=>
          intro hm hi
          rw[c6,Bool.or_eq_false_iff]at hi
          rcases List.mem_cons.1 hm with rfl|hm
          · exact hi.1
          · exact ih hm hi.2
      exact this _ hmem hs'
    cases hc:(dG n o.dst&&o.guard.isNone)<;>simp only[hc,cond_true,cond_false]at h
    simp only[Bool.and_eq_true]at hc
    obtain⟨fuel,rfl⟩:∃f,fuel=f+1:=⟨fuel-1,by simp only[List.length_cons]at hfuel;omega⟩
    have BI:r.length≤fuel:=by simp only[List.length_cons]at hfuel;omega
    cases xw:sS o.op<;>simp only[xw,cond_true,cond_false]at h
    case true=>
      cases jY:(Region.free .any ops listed i&& (Region.ready .any ops listed).contains i)<;>simp only[jY,cond_true,cond_false]at h
      simp only[Bool.and_eq_true]at jY
      have hun:=(mem_ready.1 (by simpa using jY.2:i∈Region.ready .any ops listed)).1
      have gz:∀w,nR P g R ops i w w:=fun w oj kV=>⟨fun _=>rfl,fun hn=>(by rw[m6]at kV;cases kV;rw[xw]at hn;cases hn)⟩
      cases hn:Ut P o.op
      case true=>
        rw[yL hn (ev fr) R []]at h
        obtain⟨v,hk',hr⟩:=jw h
        refine cM.take iC (S0:=Own g []) m6 hs jY.1 jY.2 (fun _ _ _ h=>h) (fun w _=>gz w) (fun j oj w w' gO hj hno h0 hk=>?_) (.inl ⟨iM hc.2 _,fun w' di=>by rw[ha.eval];exact hr w' di⟩) hw.j9 ?_
        · cases xq:sS oj.op
          · exact((hk oj gO).2 xq).1
          · rw[(hk oj gO).1 xq];exact h0
        · refine pI hs vU hk r _ _ H hk' fuel BI (iC.step (by simpa using jY.2)) _ w (ha.put hc.1 v) hw ?_ (hout v)
          rintro⟨k,ok,vJ,sZ,pU⟩
          exact hR ⟨k,ok,vJ,sZ,fu hun pU⟩
      case false=>
        obtain⟨v,hk',hr⟩:=jw h
        have hrd:uF P o.op=true:=by simp[uF,xw,hn]
        have SD:Own g R w:=hR ⟨i,o,m6,hrd,hun⟩
        refine cM.take iC (S0:=Own g R) m6 hs jY.1 jY.2 (fun _ _ _ h=>h) (fun w _=>gz w) (fun j oj w w' gO hj hno h0 hk=>?_) (.inl ⟨iM hc.2 _,fun w' di=>by rw[ha.eval];exact hr w' di⟩) SD ?_
        · cases xq:sS oj.op
          · exact((hk oj gO).2 xq).2 (kx m6 hrd hj hno) h0
          · rw[(hk oj gO).1 xq];exact h0
        · exact pI hs vU hk r _ _ H hk' fuel BI (iC.step (by simpa using jY.2)) _ w (ha.put hc.1 v) hw (fun _=>SD) (hout v)
    case false=>
      cases jY:(Region.ready .any ops listed==[i])<;>simp only[jY,cond_true,cond_false]at h
      have hrd:=beq_iff_eq.1 jY
      have AD:i∈Region.ready .any ops listed:=by rw[hrd];simp
      refine cM.all hrd (by simp) fun j hj=>?_
      simp only[List.mem_singleton]at hj
      subst hj
      unfold wpOp
      simp only[m6,iM hc.2,if_true]
      refine .inl ?_
      unfold Oper.wp
      rw[ha.eval]
      refine(sE (nf fr) h w hw).upon (fun v H' w' cj hb=>?_) (fun ch H' w' _ h0=>h0.elim)
      obtain⟨he,hk'⟩:=hb.of
      refine⟨fun oj kV=>⟨fun hp=>(by rw[m6]at kV;cases kV;rw[xw]at hp;cases hp),fun _=>⟨cj.j9,fun hn _=>he (sI hn) _ _ cj⟩⟩,pI hs vU hk r _ _ H' hk' fuel BI (iC.step AD) _ w' (ha.put hc.1 v) cj ?_ (hout v)⟩
      rintro⟨k,ok,vJ,sZ,pU⟩
      refine he (sI ?_) _ _ cj
      have Se:j≠k:=fun e=>by
        subst e
        rw[Array.getD_eq_getD_getElem?,Array.getElem?_setIfInBounds_self]at pU
        have:=(mem_ready.1 AD).1
        rw[Array.getD_eq_getD_getElem?]at this
        split at pU
        · simp at pU
        · rename_i hlt;rw[Array.getElem?_eq_none (by omega)]at this;simp at this
      rw[getD_set_ne true Se]at pU
      refine kx vJ sZ Se fun hw=>?_
      rw[iC.ready AD hw]at pU;cases pU
abbrev Mk:=Obj×(Nat→Value)
def MP(elem size bytes:Nat)(zero:Value)(l c:Value)(k:Mk→Prop):Prop:=
  ∃kl kc ln cn,l=.int kl (ln:Nat)∧c=.int kc (cn:Nat)∧ln≤cn∧(cn:Int)≤9223372036854775807∧cn*bytes≤281474976710656∧
    k (.cells (madeCells zero.cells (cn*size)) elem (0,0),fun b=>.slice (some ⟨b,0,none⟩) ln cn)
def MV(P:Program)(t len:Nat)(parts:List (Nat×Value))(k:Mk→Prop):Prop:=
  ∃cs e n z,P.underlying t=some (.slice e)∧cU P e=some n∧dR P e=some z∧len*n≤2^24∧
      Instr.fill (fun i=>some (i*n,n)) ((Array.range (len*n)).map (z.cells[· %z.cells.size]!)) parts=some cs∧k (.cells cs e (0,0),fun b=>.slice (some ⟨b,0,none⟩) len len)
def Claim(P:Program)(o:Oper)(ρ:Operand→Value)(k:Mk→Prop):Prop:=
  match o.op with
  | .alloc t=>match dR P t with
    |some z=>k (.cells z.cells t (0,0),fun b=>.pointer (some ⟨b,0,none⟩))
    |none=>False
  | .makeMap _ none=>k (.map #[] 0,fun b=>.map (some b))
  | .makeSlice t l c=>match P.underlying t with
    |some (.slice e)=>match cU P e,tA P e,dR P e with
      |some n,some b,some z=>MP e n b z (ρ l) (ρ c) k
      |_,_,_=>False
    |_=>False
  | .buildSlice t len parts=>MV P t len (parts.toList.map fun p=>(p.1,ρ p.2)) k
  |_=>False
def wx(P:Program)(o:Oper)(ρ:Operand→Value)(x:Mk):Prop:=∀w,(execOp ρ o).run P w=.ok (.value (x.2 w.heap.size)) (w.alloc x.1)
theorem Claim.makes{o:Oper}{ρ:Operand→Value}{k:Mk→Prop}(h:Claim P o ρ k):∃x,wx P o ρ x∧k x:=by
  unfold Claim at h
  split at h
  · rename_i t hop
    split at h<;>try exact h.elim
    rename_i z hz
    obtain⟨i,hi,uI⟩:=cc hz
    refine⟨_,fun w=>?_,h⟩
    simp only[execOp,hop]
    simp[Instr.alloc,dj hi uI,newVar,newRow]
  · rename_i t hop
    refine⟨_,fun w=>?_,h⟩
    simp only[execOp,hop]
    simp[Instr.makeMap]
  · rename_i t l c hop
    split at h<;>try exact h.elim
    rename_i e ht
    split at h<;>try exact h.elim
    rename_i n b z hn hb hz
    obtain⟨i,hi,hin⟩:=bg hn
    obtain⟨i',hi',uI⟩:=cc hz
    obtain⟨i2,BG,s9⟩:=mB hb
    have e1:i'=i:=Option.some.inj (hi'.symm.trans hi)
    have e2:i2=i:=Option.some.inj (BG.symm.trans hi)
    subst e1;subst e2
    obtain⟨kl,kc,ln,cn,hl,hc,hlc,bH,hby,hk⟩:=h
    subst hin;subst s9
    refine⟨_,fun w=>?_,hk⟩
    have e1:IntKind.i64.wrap (ln:Int)=ln:=IntWalk.i64_in _ (by omega)
    have e2:IntKind.i64.wrap (cn:Int)=cn:=IntWalk.i64_in _ (by omega)
    have e3:¬((i2.bytes:Int)*(cn:Int)>281474976710656):=by
      have:((cn*i2.bytes:Nat):Int)≤281474976710656:=by omega
      rw[Int.mul_comm];push_cast at this;omega
    have e4:¬((cn:Int)<ln):=by omega
    simp only[execOp,hop]
    by_cases h0:cn*i2.size=0
    · simp[Instr.makeSlice,run_underlying ht,asInt,asIntOf,typeInfo,hi,hl,hc,e1,e2,e3,e4,sizeOf,zeroValue,uI,newRow,madeCells,h0,show¬((cn:Int)<0)from by omega,show¬((ln:Int)<0)from by omega]
      have:Array.range 0=#[]:=rfl
      simp[this]
    · simp[Instr.makeSlice,run_underlying ht,asInt,asIntOf,typeInfo,hi,hl,hc,e1,e2,e3,e4,sizeOf,zeroValue,uI,newRow,madeCells,h0,show¬((cn:Int)<0)from by omega,show¬((ln:Int)<0)from by omega]
  · rename_i t len parts hop
    obtain⟨cs,e,n,z,ht,hn,hz,hl,hf,hk⟩:=h
    obtain⟨i,hi,hin⟩:=bg hn
    obtain⟨i',hi',uI⟩:=cc hz
    have:i'=i:=Option.some.inj (hi'.symm.trans hi)
    subst this
    subst hin
    refine⟨_,fun w=>?_,hk⟩
    have hl':¬(len*i'.size>2^24):=by omega
    have qP:(parts.map fun(x:Nat×Operand)=>(x.1,ρ x.2)).toList=parts.toList.map fun p=>(p.1,ρ p.2):=by rw[Array.toList_map]
    by_cases h0:len*i'.size=0
    · simp only[execOp,hop,Instr.buildSlice,Sem.run_bind,run_underlying ht,Result.andThen_ok,run_sizeOf hi,hl',if_false,h0,if_true,Sem.run_pure]
      rw[h0]at hf
      have RY:Array.range 0=#[]:=rfl
      simp only[RY,Array.map_empty,List.map_toArray,List.map_nil]at hf⊢
      rw[qP,hf]
      simp[newRow]
    · simp only[execOp,hop,Instr.buildSlice,Sem.run_bind,run_underlying ht,Result.andThen_ok,run_sizeOf hi,hl',if_false,h0,dj hi uI,Sem.run_pure]
      simp[hf,newRow]
  · exact h.elim
abbrev Fi:=List (Nat×Mk)
def marks:Fi→Nat→Array Bool→Array Bool
  | [],_,l=>l
  |x::r,i,l=>marks r i (cond (Nat.beq x.1 i) l (l.setIfInBounds x.1 true))
def dX(ops:Array Oper)(o:Oper)(i:Nat)(listed:Array Bool):Fi→Bool
  | []=>true
  |x::r=>(Nat.beq x.1 i||listed.getD x.1 true||(match ops[x.1]? with|some of=>of.apart ops o|none=>false)) &&dX ops o i listed r
def eM:Fi→Nat→Option Mk
  | [],_=>none
  |x::r,i=>cond (Nat.beq x.1 i) (some x.2) (eM r i)
def MI(listed:Array Bool):Fi→Bool
  | []=>true
  |x::r=>listed.getD x.1 false&&MI listed r
inductive Hn
  |e
  |h(m:Nat)(L I:List Nat)(a b:Hn)
def Hn.m:Hn→Nat| .e=>0| .h m _ _ _ _=>m
def Hn.L:Hn→List Nat| .e=>[]| .h _ L _ _ _=>L
def Hn.I:Hn→List Nat| .e=>[]| .h _ _ I _ _=>I
def Hn.a:Hn→Hn| .e=>.e| .h _ _ _ a _=>a
def Hn.b:Hn→Hn| .e=>.e| .h _ _ _ _ b=>b
def Br(v:Value)(t f:Prop):Prop:=∃b,v=.bool b∧(b=true→t)∧(b=false→f)
def RK(p:Oper)(fr:Fr):Value:=
  match p.op with
  | .move x=>ev fr x
  | .assign x=>ev fr x
  |_=>om p fr
def HD(p:Oper):Bool:=match p.op with| .pick .. =>true| .move _=>true| .assign _=>true|_=>false
theorem KF{p:Oper}{fr:Fr}{t:Bool}(hp:HD p=true)(h:RK p fr=.bool t)(w:World):(execOp (ev fr) p).run P w=.ok (.value (.bool t)) w:=by
  unfold HD at hp
  unfold RK at h
  split at h
  · rename_i x hop;simp only[execOp,hop,h];rfl
  · rename_i x hop;simp only[execOp,hop,h];rfl
  · rename_i h1 h2
    split at hp
    · rename_i hop;exact oh (by unfold qm;rw[hop]) h w
    · rename_i x hop;exact absurd hop (h1 x)
    · rename_i x hop;exact absurd hop (h2 x)
    · cases hp
theorem KL{p:Oper}(hp:HD p=true):sS p.op=true:=by
  unfold HD at hp
  split at hp<;>first|(rename_i hop;rw[hop];rfl)|cases hp
def wD(ops:Array Oper)(fr:Fr)(o:Oper):Option Bool:=
  match o.guard with
  |none=>some true
  |some (j,want)=>match dK ops j with
    |none=>none
    |some s=>match fr s with
      | .bool b=>some (b==want)
      | .tuple _=>some false
      |_=>none
def oD(P:Program)(g:Gh)(n:Nat)(ops:Array Oper)(R:Hp)(K:Fr→Hp→Prop):Hn→Fi→Array Bool→Fr→Hp→Prop
  | .e,cl,listed,fr,H=>cond ((Region.ready .any ops listed).isEmpty&&MI listed cl) (K fr H) False
  | .h m L T pa pb,cl,listed,fr,H=>
    match L with
    | [i]=>
      match ops[i]? with
      |none=>False
      |some o=>
        cond (Nat.beq m 1)
          (cond (dG n o.dst&&o.guard.isNone&& !sS o.op&& !listed.getD i true&&dX ops o i listed cl&& (match eM cl i with|none=>true|some _=>false))
            (Claim P o (ev fr) fun x=>oD P g n ops R K pa ((i,x)::cl) listed fr H) False)
          (cond (dG n o.dst&&dX ops o i listed cl&& (Region.ready .any ops listed).contains i)
            (match wD ops fr o with
            |none=>False
            |some false=>cond (Region.free .any ops listed i&& (match eM cl i with|none=>true|some _=>false)) (oD P g n ops R K pa cl (listed.setIfInBounds i true) (bS fr o.dst undef) H) False
            |some true=>
              cond (Nat.beq m 3) (cond (HD o&&Region.free .any ops listed i) (match RK o fr with
                | .bool b=>oD P g n ops R K pa cl (listed.setIfInBounds i true) (bS fr o.dst (.bool b)) H
                |_=>False) False)
              (cond (sS o.op)
                (cond (Region.free .any ops listed i)
                  (Az P g o (ev fr) R fun v=>cond (Nat.beq m 0) (oD P g n ops R K pa cl (listed.setIfInBounds i true) (bS fr o.dst v) H)
                    (Br v (oD P g n ops R K pa cl (listed.setIfInBounds i true) (bS fr o.dst (.bool true)) H) (oD P g n ops R K pb cl (listed.setIfInBounds i true) (bS fr o.dst (.bool false)) H))) False)
                (cond (Region.ready .any ops (marks cl i listed)==[i])
                  (match eM cl i with
                    |some x=>cW H x.1 fun b H'=>oD P g n ops R K pa cl (listed.setIfInBounds i true) (bS fr o.dst (x.2 b)) H'
                    |none=>∀F,MZ P (g.add F) o (ev fr) H (fun v H'=>GC (Kt P ops T i) (aM H' R) (oD P g n ops R K pa cl (listed.setIfInBounds i true) (bS fr o.dst v) H')) (fun _ _=>False)) False))) False)
    |_=>False
theorem L7{cl:Fi}{i:Nat}{x:Mk}(h:eM cl i=some x):(i,x)∈cl:=by
  induction cl with
  |nil=>simp[eM]at h
  |cons y r ih=>
    simp only[eM]at h
    cases hb:Nat.beq y.1 i<;>simp only[hb,cond_true,cond_false]at h
    · exact List.mem_cons_of_mem _ (ih h)
    · have:=Nat.eq_of_beq_eq_true hb
      simp only[Option.some.injEq]at h
      subst this;subst h;exact List.mem_cons_self
theorem HW{cl:Fi}{i:Nat}(h:i∈cl.map Prod.fst):∃x,eM cl i=some x:=by
  induction cl with
  |nil=>simp at h
  |cons y r ih=>
    simp only[eM]
    cases hb:Nat.beq y.1 i
    · simp only[cond_false]
      rw[List.map_cons,List.mem_cons]at h
      rcases h with h|h
      · subst h;simp at hb
      · exact ih h
    · exact⟨_,rfl⟩
theorem iE{cl:Fi}{i:Nat}{x:Mk}(h:eM cl i=some x):i∈cl.map Prod.fst:=List.mem_map.2 ⟨_,L7 h,rfl⟩
theorem vk{l:Fi}{i:Nat}{b:Array Bool}{k:Nat}:(marks l i b)[k]? =if k∈l.map Prod.fst∧k≠i∧k<b.size then some true else b[k]? :=by
  induction l generalizing b with
  |nil=>simp[marks]
  |cons y r ih=>
    simp only[marks]
    cases hy:Nat.beq y.1 i
    · have hne:y.1≠i:=fun e=>by rw[e]at hy;simp at hy
      simp only[cond_false,ih,Array.size_setIfInBounds]
      by_cases hk:k∈r.map Prod.fst∧k≠i∧k<b.size
      · rw[if_pos hk,if_pos ⟨by rw[List.map_cons];exact List.mem_cons_of_mem _ hk.1,hk.2⟩]
      · rw[if_neg hk]
        by_cases e:y.1=k
        · subst e
          by_cases hlt:y.1<b.size
          · rw[if_pos ⟨by simp,hne,hlt⟩,Array.getElem?_setIfInBounds_self_of_lt hlt]
          · rw[if_neg (fun h=>hlt h.2.2),Array.getElem?_eq_none (by simp;omega),Array.getElem?_eq_none (by omega)]
        · rw[Array.getElem?_setIfInBounds_ne e,if_neg]
          rintro⟨h1,h2⟩
          rw[List.map_cons,List.mem_cons]at h1
          rcases h1 with h1|h1
          · exact e h1.symm
          · exact hk ⟨h1,h2⟩
    · have he:=Nat.eq_of_beq_eq_true hy
      simp only[cond_true,ih]
      by_cases hk:k∈r.map Prod.fst∧k≠i∧k<b.size
      · rw[if_pos hk,if_pos ⟨by rw[List.map_cons];exact List.mem_cons_of_mem _ hk.1,hk.2⟩]
      · rw[if_neg hk,if_neg]
        rintro⟨h1,h2,h3⟩
        rw[List.map_cons,List.mem_cons]at h1
        rcases h1 with h1|h1
        · exact h2 (h1.trans he)
        · exact hk ⟨h1,h2,h3⟩
theorem eY{ops:Array Oper}{o:Oper}{i:Nat}{listed:Array Bool}{l:Fi}(h:dX ops o i listed l=true){f:Nat}(hf:f∈l.map Prod.fst)(hne:f≠i)(hun:listed.getD f true=false):
    ∃of,ops[f]? =some of∧of.apart ops o=true:=by
  induction l with
  |nil=>simp at hf
  |cons x r ih=>
    simp only[dX,Bool.and_eq_true,Bool.or_eq_true]at h
    rw[List.map_cons]at hf
    rcases List.mem_cons.1 hf with rfl|hf
    · rcases h.1 with(h1|h1)|h1
      · exact absurd (Nat.eq_of_beq_eq_true h1) hne
      · rw[hun]at h1;simp at h1
      · split at h1
        · rename_i of ho;exact⟨of,ho,h1⟩
        · simp at h1
    · exact ih h.2 hf
theorem Cg{ops:Array Oper}{x y:Oper}(h:x.apart ops y=true):y.apart ops x=true:=by
  unfold Oper.apart at*
  cases hx:x.dst<;>cases hy:y.dst<;>simp_all
  exact fun e=>h.1.2 e.symm
theorem qs{ops:Array Oper}{l l':Array Bool}{i:Nat}(h:Region.free .any ops l i=true)(hm:∀k,l.getD k true=true→l'.getD k true=true):Region.free .any ops l' i=true:=by
  unfold Region.free at*
  split at h
  · simp at h
  · rename_i oi m6
    rw[List.all_eq_true]at h⊢
    intro j hj
    have:=h j hj
    simp only[Bool.or_eq_true]at this⊢
    rcases this with(h1|h1)|h1
    · exact .inl (.inl h1)
    · exact .inl (.inr (hm j h1))
    · exact .inr h1
abbrev Early:=List (Nat×Nat×Mk)
def QV(E:Early):Hp:=E.map fun x=>(x.2.1,x.2.2.1)
structure Tf(P:Program)(n:Nat)(ops:Array Oper)(listed:Array Bool)(cl:Fi)(fr:Fr)(j:Nat)(x:Mk)(o:Oper):Prop where
  op:ops[j]? =some o
  yN:sS o.op=false
  dst:dG n o.dst=true
  gd:o.guard.isNone=true
  makes:wx P o (ev fr) x
  Xb:∀k y,eM cl k=some y→k≠j→listed.getD k true=false→∃ok,ops[k]? =some ok∧ok.apart ops o=true
structure jS(P:Program)(n:Nat)(ops:Array Oper)(cl:Fi)(listed la:Array Bool)(E:Early)(fr fa:Fr):Prop where
  mem:∀x∈E,eM cl x.1=some x.2.2∧listed.getD x.1 true=false
  nd:(E.map Prod.fst).Nodup
  la:∀k,la[k]? =if k∈E.map Prod.fst then some true else listed[k]?
  out:∀s,(∀x∈E,dK ops x.1≠some s)→fa s=fr s
  at_:∀x∈E,∀d,dK ops x.1=some d→fa d=x.2.2.2 x.2.1
  cl:∀j x,eM cl j=some x→listed.getD j true=false→∃o,Tf P n ops listed cl fr j x o
section
variable {n:Nat} {ops:Array Oper} {cl:Fi} {listed la:Array Bool} {E:Early} {fr fa:Fr}
theorem jS.more(h:jS P n ops cl listed la E fr fa){k:Nat}{b:Bool}(hk:listed.getD k b=true):la.getD k b=true:=by
  have:=h.la k
  rw[Array.getD_eq_getD_getElem?]at hk⊢
  rw[this]
  split
  · rfl
  · exact hk
theorem jS.ready(h:jS P n ops cl listed la E fr fa){i:Nat}(hi:i∉E.map Prod.fst)(hr:i∈Region.ready .any ops listed):i∈Region.ready .any ops la:=by
  rw[mem_ready]at hr⊢
  obtain⟨h1,o,ho,aE⟩:=hr
  refine⟨?_,o,ho,fun e he hb=>h.more (aE e he hb)⟩
  have:=h.la i
  rw[Array.getD_eq_getD_getElem?]at h1⊢
  rw[this,if_neg hi];exact h1
theorem PW{i k:Nat}(h:(listed.setIfInBounds i true).getD k true=false):i≠k∧listed.getD k true=false:=by
  by_cases e:i=k
  · subst e
    rw[Array.getD_eq_getD_getElem?]at h
    rcases Nat.lt_or_ge i listed.size with hl|hl
    · rw[Array.getElem?_setIfInBounds_self_of_lt hl]at h;cases h
    · rw[Array.getElem?_eq_none (by simpa using hl)]at h;cases h
  · exact⟨e,by rwa [getD_set_ne true e]at h⟩
theorem wx.congr{o o':Oper}{x:Mk}{v:Value}(h:wx P o (ev fr) x)(hs:∀cs b,o.op≠.select cs b)(hap:o.apart ops o'=true):wx P o (ev (bS fr o'.dst v)) x:=by
  have e:execOp (ev (bS fr o'.dst v)) o=execOp (ev fr) o:=by
    refine execOp_congr o hs fun y hy=>?_
    cases y with
    |tmp t=>
      obtain⟨_,_,h3⟩:=Oper.apart_spec hap
      cases hd:o'.dst with
      |none=>rfl
      |some d=>
        have:=h3 d hd
        have hne:Nat.beq t d=false:=by
          cases hb:Nat.beq t d
          · rfl
          · have e:=Nat.eq_of_beq_eq_true hb;subst e
            refine absurd ?_ this
            exact List.mem_append_left _ (List.mem_filterMap.2 ⟨Operand.tmp t,by simpa using hy,rfl⟩)
        simp only[ev,bS,hne,cond_false]
    |const v=>rfl
    |global g=>rfl
    |func f=>rfl
  intro w;rw[e];exact h w
theorem Mn(hs:Region.noSelect ops=true)(gg:∀j x,eM cl j=some x→listed.getD j true=false→∃o,Tf P n ops listed cl fr j x o){i:Nat}{o:Oper}(hap:dX ops o i listed cl=true)(v:Value):
    ∀j x,eM cl j=some x→(listed.setIfInBounds i true).getD j true=false→∃oj,Tf P n ops (listed.setIfInBounds i true) cl (bS fr o.dst v) j x oj:=by
  intro j x hx hun
  obtain⟨hne,OD⟩:=PW hun
  obtain⟨oj,h⟩:=gg j x hx OD
  obtain⟨ZY,cj,YN⟩:=eY hap (iE hx) (Ne.symm hne) OD
  rw[h.op]at cj;cases cj
  exact⟨oj,h.op,h.yN,h.dst,h.gd,h.makes.congr (fun cs b=>Region.noSelect_spec hs j oj cs b h.op) YN,fun k y hk Tu Lk=>h.Xb k y hk Tu (PW Lk).2⟩
theorem jS.step(hs:Region.noSelect ops=true)(h:jS P n ops cl listed la E fr fa){i:Nat}{o:Oper}(m6:ops[i]? =some o)(hi:i∉E.map Prod.fst)
   (td:dX ops o i listed cl=true)(v:Value):jS P n ops cl (listed.setIfInBounds i true) (la.setIfInBounds i true) E (bS fr o.dst v) (bS fa o.dst v):=by
  have hap:∀x∈E,∃of,ops[x.1]? =some of∧of.apart ops o=true:=fun x hx=>
      eY td (iE (h.mem x hx).1) (fun e=>hi (e▸List.mem_map_of_mem hx)) (h.mem x hx).2
  have hsz:la[i]? =listed[i]? :=by rw[h.la i,if_neg hi]
  refine⟨fun x hx=>⟨(h.mem x hx).1,?_⟩,h.nd,fun k=>?_,fun s hs=>?_,fun x hx d hd=>?_,Mn hs h.cl td v⟩
  · have hne:i≠x.1:=fun e=>hi (e▸List.mem_map_of_mem hx)
    rw[getD_set_ne true hne];exact(h.mem x hx).2
  · by_cases e:i=k
    · subst e
      rw[if_neg hi,Array.getElem?_setIfInBounds,Array.getElem?_setIfInBounds]
      simp only[if_true]
      have:i<la.size↔i<listed.size:=by
        constructor
        · intro hlt;rw[Array.getElem?_eq_getElem hlt]at hsz;exact(Array.getElem?_eq_some_iff.1 hsz.symm).1
        · intro hlt;rw[Array.getElem?_eq_getElem hlt]at hsz;exact(Array.getElem?_eq_some_iff.1 hsz).1
      by_cases hlt:i<la.size
      · rw[if_pos hlt,if_pos (this.1 hlt)]
      · rw[if_neg hlt,if_neg (fun x=>hlt (this.2 x))]
    · rw[Array.getElem?_setIfInBounds_ne e,Array.getElem?_setIfInBounds_ne e];exact h.la k
  · cases hd:o.dst with
    |none=>exact h.out s hs
    |some d=>
      simp only[bS]
      cases Nat.beq s d
      · exact h.out s hs
      · rfl
  · obtain⟨of,OJ,hap⟩:=hap x hx
    obtain⟨h1,h2,h3⟩:=Oper.apart_spec hap
    have R5:of.dst=some d:=by simpa[dK,OJ]using hd
    have:=h2 d R5
    cases YF:o.dst with
    |none=>exact h.at_ x hx d hd
    |some d'=>
      have hne:Nat.beq d d'=false:=by
        cases hb:Nat.beq d d'
        · rfl
        · have e:=Nat.eq_of_beq_eq_true hb;subst e;exact absurd YF this
      simp only[bS,hne,cond_false];exact h.at_ x hx d hd
theorem jS.exec(h:jS P n ops cl listed la E fr fa){o:Oper}
   (hap:∀x∈E,∃of,ops[x.1]? =some of∧of.apart ops o=true)(hs:∀cs b,o.op≠.select cs b):execOp (ev fa) o=execOp (ev fr) o:=by
  refine execOp_congr o hs fun x hx=>?_
  cases x with
  |tmp t=>
    refine h.out t fun y hy e=>?_
    obtain⟨of,OJ,hap⟩:=hap y hy
    obtain⟨h1,_,_⟩:=Oper.apart_spec hap
    refine h1 t (by simpa[dK,OJ]using e) ?_
    exact List.mem_append_left _ (List.mem_filterMap.2 ⟨.tmp t,by simpa using hx,rfl⟩)
  |const v=>rfl
  |global g=>rfl
  |func f=>rfl
theorem jS.early(h:jS P n ops cl listed la E fr fa){j b:Nat}{x:Mk}(hj:eM cl j=some x)(Lm:j∉E.map Prod.fst)(hun:listed.getD j true=false)
   {o:Oper}(ho:ops[j]? =some o):jS P n ops cl listed (la.setIfInBounds j true) ((j,b,x)::E) fr (bS fa o.dst (x.2 b)):=by
  obtain⟨o',gg⟩:=h.cl j x hj hun
  have cj:=gg.op
  rw[ho]at cj;cases cj
  have Sz:∀y∈E,∃of,ops[y.1]? =some of∧of.apart ops o=true:=fun y hy=>
    gg.Xb y.1 _ (h.mem y hy).1 (fun e=>Lm (e▸List.mem_map_of_mem hy)) (h.mem y hy).2
  have Yl:j<la.size:=by
    have hl:=h.la j
    rw[if_neg Lm]at hl
    have h2:j<listed.size:=by
      rcases Nat.lt_or_ge j listed.size with h2|h2
      · exact h2
      · rw[Array.getD_eq_getD_getElem?,Array.getElem?_eq_none h2]at hun;simp at hun
    rw[Array.getElem?_eq_getElem h2]at hl
    exact(Array.getElem?_eq_some_iff.1 hl).1
  refine⟨fun y hy=>?_,?_,fun k=>?_,fun s hs=>?_,fun y hy d hd=>?_,h.cl⟩
  · rcases List.mem_cons.1 hy with rfl|hy
    · exact⟨hj,hun⟩
    · exact h.mem y hy
  · rw[List.map_cons,List.nodup_cons];exact⟨Lm,h.nd⟩
  · by_cases e:j=k
    · subst e;rw[if_pos (by simp),Array.getElem?_setIfInBounds_self_of_lt Yl]
    · rw[Array.getElem?_setIfInBounds_ne e,h.la k]
      by_cases hk:k∈E.map Prod.fst
      · rw[if_pos hk,if_pos (by rw[List.map_cons];exact List.mem_cons_of_mem _ hk)]
      · rw[if_neg hk,if_neg]
        rw[List.map_cons,List.mem_cons]
        rintro(h1|hk')
        · exact e h1.symm
        · exact hk hk'
  · have hne:=hs (j,b,x) (by simp)
    simp only[dK,ho]at hne
    rw[show bS fa o.dst (x.2 b) s=fa s from ?_]
    · exact h.out s fun y hy=>hs y (by simp[hy])
    · cases hd:o.dst with
      |none=>rfl
      |some d=>
        rw[hd]at hne
        have:Nat.beq s d=false:=by
          cases hb:Nat.beq s d
          · rfl
          · exact absurd (congrArg some (Nat.eq_of_beq_eq_true hb).symm) hne
        simp only[bS,this,cond_false]
  · rcases List.mem_cons.1 hy with rfl|hy
    · simp only[dK,ho]at hd
      rw[hd];simp[bS]
    · obtain⟨of,OJ,hap⟩:=Sz y hy
      obtain⟨_,h2,_⟩:=Oper.apart_spec hap
      have R5:of.dst=some d:=by simpa[dK,OJ]using hd
      have:=h2 d R5
      cases YF:o.dst with
      |none=>exact h.at_ y hy d hd
      |some d'=>
        have hne:Nat.beq d d'=false:=by
          cases hb:Nat.beq d d'
          · rfl
          · have e:=Nat.eq_of_beq_eq_true hb;subst e;exact absurd YF this
        simp only[bS,hne,cond_false];exact h.at_ y hy d hd
theorem jS.wG(hs:Region.noSelect ops=true){E1 E2:Early}{j b:Nat}{x:Mk}(h:jS P n ops cl listed la (E1++(j,b,x)::E2) fr fa){o:Oper}(ho:ops[j]? =some o)(td:dX ops o j listed cl=true):
    jS P n ops cl (listed.setIfInBounds j true) la (E1++E2) (bS fr o.dst (x.2 b)) fa:=by
  have gE:=h.nd
  rw[List.map_append,List.map_cons]at gE
  have Nh:j∉(E1++E2).map Prod.fst:=by
    have:=(List.perm_middle.nodup_iff.1 gE)
    rw[List.nodup_cons]at this
    rw[List.map_append];exact this.1
  have hsub:∀y,y∈E1++E2→y∈E1++(j,b,x)::E2:=fun y hy=>by
    rcases List.mem_append.1 hy with hy|hy<;>simp[hy]
  have Ll:j<listed.size:=by
    have h2:=(h.mem (j,b,x) (by simp)).2
    rcases Nat.lt_or_ge j listed.size with h3|h3
    · exact h3
    · simp only at h2;rw[Array.getD_eq_getD_getElem?,Array.getElem?_eq_none h3]at h2;simp at h2
  refine⟨fun y hy=>⟨(h.mem y (hsub y hy)).1,?_⟩,?_,fun k=>?_,fun s hs=>?_,fun y hy d hd=>h.at_ y (hsub y hy) d hd,Mn hs h.cl td _⟩
  · have hne:j≠y.1:=fun e=>Nh (e▸List.mem_map_of_mem hy)
    rw[getD_set_ne true hne];exact(h.mem y (hsub y hy)).2
  · have:=(List.perm_middle.nodup_iff.1 gE)
    rw[List.nodup_cons]at this
    rw[List.map_append];exact this.2
  · have hk:=h.la k
    by_cases e:j=k
    · subst e
      rw[if_pos (by simp)]at hk
      rw[hk,if_neg Nh,Array.getElem?_setIfInBounds_self_of_lt Ll]
    · rw[Array.getElem?_setIfInBounds_ne e,hk]
      have:k∈(E1++(j,b,x)::E2).map Prod.fst↔k∈(E1++E2).map Prod.fst:=by
        simp only[List.map_append,List.map_cons,List.mem_append,List.mem_cons]
        constructor
        · rintro(h|rfl|h)
          · exact .inl h
          · exact absurd rfl e
          · exact .inr h
        · rintro(h|h)
          · exact .inl h
          · exact .inr (.inr h)
      simp only[this]
  · by_cases e:dK ops j=some s
    · rw[h.at_ (j,b,x) (by simp) s e]
      simp only[dK,ho]at e
      rw[e];simp[bS]
    · rw[h.out s fun y hy=>?_]
      · simp only[dK,ho]at e
        cases hd:o.dst with
        |none=>rfl
        |some d=>
          rw[hd]at e
          have:Nat.beq s d=false:=by
            cases hb:Nat.beq s d
            · rfl
            · exact absurd (congrArg some (Nat.eq_of_beq_eq_true hb).symm) e
          simp only[bS,this,cond_false]
      · rcases List.mem_append.1 hy with hy|hy
        · exact hs y (by simp[hy])
        · rcases List.mem_cons.1 hy with rfl|hy
          · exact e
          · exact hs y (by simp[hy])
theorem jS.Wa(h:jS P n ops cl listed la E fr fa){i:Nat}{o:Oper}{x:Mk}(ho:ops[i]? =some o)(hd:dG n o.dst=true)(hg:o.guard.isNone=true)(hp:sS o.op=false)(hun:listed.getD i true=false)
   (hap:dX ops o i listed cl=true)(hno:eM cl i=none)(hm:wx P o (ev fr) x):jS P n ops ((i,x)::cl) listed la E fr fa:=by
  have hne:∀j y,eM cl j=some y→j≠i:=fun j y hj e=>by subst e;rw[hno]at hj;cases hj
  have hex:∀j y,eM cl j=some y→eM ((i,x)::cl) j=some y:=fun j y hj=>by
    have:Nat.beq i j=false:=by
      cases hb:Nat.beq i j
      · rfl
      · exact absurd (Nat.eq_of_beq_eq_true hb).symm (hne j y hj)
    simp only[eM,this,cond_false];exact hj
  have So:∀j y,eM ((i,x)::cl) j=some y→(j=i∧y=x)∨(j≠i∧eM cl j=some y):=fun j y hj=>by
    simp only[eM]at hj
    cases hb:Nat.beq i j<;>simp only[hb,cond_true,cond_false]at hj
    · exact .inr ⟨fun e=>by subst e;simp at hb,hj⟩
    · exact .inl ⟨(Nat.eq_of_beq_eq_true hb).symm,by simpa using hj.symm⟩
  refine⟨fun y hy=>⟨hex _ _ (h.mem y hy).1,(h.mem y hy).2⟩,h.nd,h.la,h.out,h.at_,fun j y hj hu=>?_⟩
  rcases So j y hj with⟨rfl,rfl⟩|⟨Sf,Qs⟩
  · refine⟨o,ho,hp,hd,hg,hm,fun k z hk Tu Lk=>?_⟩
    rcases So k z hk with⟨rfl,rfl⟩|⟨_,hk⟩
    · exact absurd rfl Tu
    · exact eY hap (iE hk) Tu Lk
  · obtain⟨oj,hc⟩:=h.cl j y Qs hu
    refine⟨oj,hc.op,hc.yN,hc.dst,hc.gd,hc.makes,fun k z hk Tu Lk=>?_⟩
    rcases So k z hk with⟨rfl,rfl⟩|⟨_,hk⟩
    · obtain⟨ZY,h1,h2⟩:=eY hap (iE Qs) Sf hu
      rw[hc.op]at h1;cases h1
      exact⟨o,ho,Cg h2⟩
    · exact hc.Xb k z hk Tu Lk
end
theorem HY{E1 E2:Early}{y:Nat×Nat×Mk}:(QV (E1++y::E2)).Perm ((y.2.1,y.2.2.1)::QV (E1++E2)):=by
  unfold QV
  rw[List.map_append,List.map_cons,List.map_append]
  exact List.perm_middle
def cnt:List Bool→Nat
  | []=>0
  |b::r=>cond b 0 1+cnt r
theorem Gc:∀(l:List Bool) (i:Nat),l[i]? =some false→cnt (l.set i true)+1=cnt l
  | [],i,h=>by simp at h
  |b::r,0,h=>by simp only[List.getElem?_cons_zero,Option.some.injEq]at h;subst h;simp only[List.set_cons_zero,cnt,cond_true,cond_false];omega
  |b::r,i+1,h=>by
    simp only[List.getElem?_cons_succ]at h
    have:=Gc r i h
    simp only[List.set_cons_succ,cnt];omega
theorem uL(n:Nat):cnt (List.replicate n false)=n:=by
  induction n with
  |zero=>rfl
  |succ n ih=>simp only[List.replicate_succ,cnt,ih,cond_false];omega
theorem fg{a:Array Bool}{i:Nat}(h:a.getD i true=false):a[i]? =some false:=by
  rw[Array.getD_eq_getD_getElem?]at h
  cases hg:a[i]? with
  |none=>rw[hg]at h;simp at h
  |some b=>rw[hg]at h;simpa using h
theorem mA{a:Array Bool}{i fuel:Nat}(h:a.getD i true=false)(hf:cnt a.toList≤fuel):∃f,fuel=f+1∧cnt (a.setIfInBounds i true).toList≤f:=by
  have h1:=fg h
  have h2:a.toList[i]? =some false:=by rw[Array.getElem?_toList];exact h1
  have:=Gc _ _ h2
  refine⟨fuel-1,by omega,?_⟩
  have:(a.setIfInBounds i true).toList=a.toList.set i true:=by simp
  rw[this];omega
theorem Ij{listed:Array Bool}{l:Fi}(h:MI listed l=true){f:Nat}(hf:f∈l.map Prod.fst):listed.getD f false=true:=by
  induction l with
  |nil=>simp at hf
  |cons x r ih=>
    simp only[MI,Bool.and_eq_true]at h
    rw[List.map_cons]at hf
    rcases List.mem_cons.1 hf with rfl|hf
    · exact h.1
    · exact ih h.2 hf
theorem Pf{a:Array Bool}{i:Nat}(h:a.getD i false=true):a.getD i true=true:=by
  rw[Array.getD_eq_getD_getElem?]at*
  cases hg:a[i]? with
  |none=>rfl
  |some b=>rw[hg]at h;simpa using h
theorem dV{n:Nat}{ops:Array Oper}{R:Hp}{K:Fr→Hp→Prop}{Q:Exit→Act→World→Prop}(hs:Region.noSelect ops=true)(vU:Fr)
   (hk:∀a w fr H,bX ds n a fr→Own g H w→dI ops.toList vU fr→K fr H→Q .normal a w):
    ∀(fuel:Nat) (l:Hn) (cl:Fi) (listed:Array Bool) (fr:Fr) (H:Hp),oD P g n ops R K l cl listed fr H→∀(E:Early) (la:Array Bool) (fa:Fr),cnt la.toList≤fuel→jS P n ops cl listed la E fr fa→ej .any ops la→
      ∀(a:Act) (w:World),bX ds n a fa→Own (g.add (QV E)) H w→((∃k ok,ops[k]? =some ok∧uF P ok.op=true∧la.getD k true=false)→Own g R w)→dI ops.toList vU fr→
      cM P .any ops (pQ Q) (nR P g R ops) fuel la a w
  |fuel,.e,cl,listed,fr,H,h=>by
    intro E la fa hfuel hE iC a w ha hw hR ho
    unfold oD at h
    cases hr:((Region.ready .any ops listed).isEmpty&&MI listed cl)<;>simp only[hr,cond_true,cond_false]at h
    simp only[Bool.and_eq_true]at hr
    have hr':Region.ready .any ops listed=[]:=by simpa using hr.1
    have hE0:E=[]:=by
      cases E with
      |nil=>rfl
      |cons x y=>
        have h1:=hE.mem x (by simp)
        have h2:=Pf (Ij hr.2 (iE h1.1))
        rw[h1.2]at h2;cases h2
    subst hE0
    have YB:fa=fr:=by funext s;exact hE.out s (by simp)
    subst YB
    refine cM.done (Q:=pQ Q) ?_ (hk a w fa H ha hw ho h) fuel
    rw[List.eq_nil_iff_forall_not_mem]at hr'⊢
    intro k hk'
    refine hr' k ?_
    rw[mem_ready]at hk'⊢
    obtain⟨h1,o,h2,h3⟩:=hk'
    have hla:=fun k=>hE.la k
    simp only[List.map_nil,List.not_mem_nil,if_false]at hla
    refine⟨?_,o,h2,fun e he hb=>?_⟩
    · rw[Array.getD_eq_getD_getElem?,←hla,←Array.getD_eq_getD_getElem?];exact h1
    · rw[Array.getD_eq_getD_getElem?,←hla,←Array.getD_eq_getD_getElem?];exact h3 e he hb
  |fuel,.h m L T pa pb,cl,listed,fr,H,h=>by
    intro E la fa hfuel hE iC a w ha hw hR ho
    have h0:=h
    unfold oD at h
    split at h<;>try exact h.elim
    rename_i i
    split at h<;>try exact h.elim
    rename_i o m6
    cases h1:Nat.beq m 1<;>simp only[h1,cond_true,cond_false]at h
    case true=>
      cases hc:(dG n o.dst&&o.guard.isNone&& !sS o.op&& !listed.getD i true&&dX ops o i listed cl&& (match eM cl i with|none=>true|some _=>false))<;>simp only[hc,cond_true,cond_false]at h
      simp only[Bool.and_eq_true,Bool.not_eq_true']at hc
      obtain⟨⟨⟨⟨⟨hd,hg⟩,hp⟩,hun⟩,hap⟩,hno⟩:=hc
      have zn:eM cl i=none:=by
        split at hno
        · assumption
        · cases hno
      obtain⟨x,hm,hk'⟩:=h.makes
      exact dV hs vU hk fuel pa _ listed fr H hk' E la fa hfuel (hE.Wa m6 hd hg hp hun hap zn hm) iC a w ha hw hR ho
    have hmem:o∈ops.toList:=Array.mem_toList_iff.2 (Array.mem_of_getElem? m6)
    have hout:∀v,dI ops.toList vU (bS fr o.dst v):=fun v s hs'=>by
      rw[fh,ho s hs']
      have:∀l:List Oper,o∈l→bD l s=false→bD [({(default:Oper)with dst:=o.dst})] s=false:=by
        intro l
        induction l with
        |nil=>intro h;simp at h
        |cons x y ih=>
          intro hm hi
          rw[c6,Bool.or_eq_false_iff]at hi
          rcases List.mem_cons.1 hm with rfl|hm
          · exact hi.1
          · exact ih hm hi.2
      exact this _ hmem hs'
    cases hc:(dG n o.dst&&dX ops o i listed cl&& (Region.ready .any ops listed).contains i)<;>simp only[hc,cond_true,cond_false]at h
    simp only[Bool.and_eq_true]at hc
    obtain⟨⟨hd,td⟩,X1⟩:=hc
    have AD:i∈Region.ready .any ops listed:=by simpa using X1
    have hun:=(mem_ready.1 AD).1
    have hap:i∉E.map Prod.fst→∀x∈E,∃of,ops[x.1]? =some of∧of.apart ops o=true:=fun hi x hx=>
      eY td (iE (hE.mem x hx).1) (fun e=>hi (e▸List.mem_map_of_mem hx)) (hE.mem x hx).2
    have hsel:∀cs b,o.op≠.select cs b:=fun cs b=>Region.noSelect_spec hs i o cs b m6
    have T0:∀j,j∈Region.ready .any ops la→j∉E.map Prod.fst∧listed.getD j true=false:=fun j hj=>by
      have h1:=fg (mem_ready.1 hj).1
      have h2:=hE.la j
      by_cases Lm:j∈E.map Prod.fst
      · rw[if_pos Lm,h1]at h2;cases h2
      · rw[if_neg Lm,h1]at h2
        exact⟨Lm,by rw[Array.getD_eq_getD_getElem?,←h2];rfl⟩
    have early:∀f',fuel=f'+1→(∀j,la.getD j true=false→cnt (la.setIfInBounds j true).toList≤f')→∀j x,j∈Region.ready .any ops la→eM cl j=some x→
        wpOp P ops (pQ Q) j (fun a' w'=>nR P g R ops j w w'∧cM P .any ops (pQ Q) (nR P g R ops) f' (la.setIfInBounds j true) a' w') a w:=by
      intro f' zx kX j x hj WS
      obtain⟨Lm,Ll⟩:=T0 j hj
      obtain⟨oj,gg⟩:=hE.cl j x WS Ll
      have gO:=gg.op
      have xq:=gg.yN
      have Yv:=gg.gd
      have YD:execOp (ev fa) oj=execOp (ev fr) oj:=hE.exec (fun y hy=>gg.Xb y.1 _ (hE.mem y hy).1 (fun e=>Lm (e▸List.mem_map_of_mem hy)) (hE.mem y hy).2) (fun cs b=>Region.noSelect_spec hs j oj cs b gO)
      unfold wpOp
      simp only[gO,iM Yv,if_true]
      refine .inl ?_
      unfold Oper.wp
      rw[ha.eval,YD,gg.makes w]
      simp only[Oper.upon]
      have OZ:∀{A:Hp},Own g A w→Own g A (w.alloc x.1):=fun hA=>(hA.alloc x.1).tail
      refine⟨fun ZY kV=>⟨fun hp=>?_,fun _=>⟨OZ (Own.eL.2 hw).j9,fun _ h1=>OZ h1⟩⟩,?_⟩
      · rw[gO]at kV;cases kV;rw[xq]at hp;cases hp
      · have zB:=hE.early (b:=w.heap.size) WS Lm Ll gO
        refine dV hs vU hk f' (.h m [i] T pa pb) cl listed fr H h0 ((j,w.heap.size,x)::E) _ _ (kX j (mem_ready.1 hj).1) zB (iC.step hj) _ _ (ha.put gg.dst _) ?_ ?_ ho
        · have h1:=hw.alloc x.1
          have h2:Own (g.add (QV E)) (H++[(w.heap.size,x.1)]) (w.alloc x.1):=h1.perm (by exact(List.perm_append_comm (l₁:=[(w.heap.size,x.1)]) (l₂:=H)))
          have h3:=Own.eL.1 h2
          exact h3
        · rintro⟨k,ok,vJ,sZ,pU⟩
          refine OZ (hR ⟨k,ok,vJ,sZ,fu (mem_ready.1 hj).1 pU⟩)
    have nI:∀b,wD ops fr o=some b→i∉E.map Prod.fst→Region.wanted o (yielded ops a.tmps)=b:=by
      intro b hb ta
      unfold wD at hb
      unfold Region.wanted
      split at hb
      · rename_i hg;simp only[hg];simpa using hb
      · rename_i j want hg
        simp only[hg]
        split at hb<;>try (cases hb;done)
        rename_i s iR
        rw[jZ ha iR]
        have oN:fa s=fr s:=hE.out s fun y hy e=>by
          obtain⟨of,OJ,hap⟩:=hap ta y hy
          obtain⟨h1,_,_⟩:=Oper.apart_spec hap
          refine h1 s (by simpa[dK,OJ]using e) ?_
          refine List.mem_append_right _ ?_
          rw[hg]
          unfold dK at iR
          cases hj:ops[j]? with
          |none=>rw[hj]at iR;cases iR
          |some oj=>rw[hj]at iR;simp only at iR;simp[hj,iR]
        rw[oN]
        split at hb
        · rename_i c hc;rw[hc];simp only[Option.some.injEq]at hb;subst hb;cases c<;>cases want<;>rfl
        · rename_i c hc;rw[hc];simp only[Option.some.injEq]at hb;subst hb;cases want<;>rfl
        · cases hb
    split at h<;>try exact h.elim
    · -- not wanted
      rename_i XQ
      cases jY:(Region.free .any ops listed i&& (match eM cl i with|none=>true|some _=>false))<;>simp only[jY,cond_true,cond_false]at h
      simp only[Bool.and_eq_true]at jY
      have zn:eM cl i=none:=by
        have:=jY.2
        split at this
        · assumption
        · cases this
      have ta:i∉E.map Prod.fst:=fun hm=>by
        obtain⟨x,hx,e⟩:=List.mem_map.1 hm
        have:=(hE.mem x hx).1
        rw[e,zn]at this;cases this
      have kD:=hE.ready ta AD
      have qn:=(mem_ready.1 kD).1
      obtain⟨f',rfl,kX⟩:=mA qn hfuel
      have hfree:=qs (l':=la) jY.1 (fun k hk=>hE.more hk)
      have HM:(Region.ready .any ops la).contains i=true:=by simpa using kD
      refine cM.take iC (S0:=Own g []) m6 hs hfree HM (fun _ _ _ h=>h) (fun w hw oj gO=>⟨fun _=>rfl,fun _=>⟨hw,fun _ h=>h⟩⟩) (fun j oj w w' gO hj hno h0 hk=>?_) (.inr ⟨nI false XQ ta,rfl⟩) (Own.eL.2 hw).j9 ?_
      · cases xq:sS oj.op
        · exact((hk oj gO).2 xq).1
        · rw[(hk oj gO).1 xq];exact h0
      · refine dV hs vU hk f' pa cl _ _ H h E _ _ kX (hE.step hs m6 ta td _) (iC.step kD) _ w (ha.put hd _) hw ?_ (hout _)
        rintro⟨k,ok,vJ,sZ,pU⟩
        exact hR ⟨k,ok,vJ,sZ,fu qn pU⟩
    rename_i XQ
    have Vb:=nI true XQ
    have Qy:∀v f' Bp a' w',(cond (Nat.beq m 0) (oD P g n ops R K pa cl (listed.setIfInBounds i true) (bS fr o.dst v) H)
                    (Br v (oD P g n ops R K pa cl (listed.setIfInBounds i true) (bS fr o.dst (.bool true)) H) (oD P g n ops R K pb cl (listed.setIfInBounds i true) (bS fr o.dst (.bool false)) H)))→
        cnt Bp.toList≤f'→jS P n ops cl (listed.setIfInBounds i true) Bp E (bS fr o.dst v) (bS fa o.dst v)→ej .any ops Bp→bX ds n a' (bS fa o.dst v)→Own (g.add (QV E)) H w'→
        ((∃k ok,ops[k]? =some ok∧uF P ok.op=true∧Bp.getD k true=false)→Own g R w')→f'<fuel→cM P .any ops (pQ Q) (nR P g R ops) f' Bp a' w':=by
      intro v f' Bp a' w' hv h1 h2 LC h3 h4 h5 hlt
      cases hm:Nat.beq m 0<;>simp only[hm,cond_true,cond_false]at hv
      · obtain⟨b,rfl,WX,Sw⟩:=hv
        cases b
        · exact dV hs vU hk f' pb cl _ _ H (Sw rfl) E Bp _ h1 h2 LC a' w' h3 h4 h5 (hout _)
        · exact dV hs vU hk f' pa cl _ _ H (WX rfl) E Bp _ h1 h2 LC a' w' h3 h4 h5 (hout _)
      · exact dV hs vU hk f' pa cl _ _ H hv E Bp _ h1 h2 LC a' w' h3 h4 h5 (hout _)
    cases h3:Nat.beq m 3<;>simp only[h3,cond_true,cond_false]at h
    case true=>
      cases jY:(HD o&&Region.free .any ops listed i)<;>simp only[jY,cond_true,cond_false]at h
      simp only[Bool.and_eq_true]at jY
      split at h<;>try exact h.elim
      rename_i b R1
      have xw:sS o.op=true:=KL jY.1
      have ta:i∉E.map Prod.fst:=fun hm=>by
        obtain⟨x,hx,e⟩:=List.mem_map.1 hm
        have h2:=hE.mem x hx
        obtain⟨o',gg⟩:=hE.cl _ _ h2.1 h2.2
        have h3:=gg.op
        rw[e,m6]at h3;cases h3
        have:=gg.yN
        rw[xw]at this;cases this
      have kD:=hE.ready ta AD
      have qn:=(mem_ready.1 kD).1
      obtain⟨f',rfl,kX⟩:=mA qn hfuel
      have hfree:=qs (l':=la) jY.2 (fun k hk=>hE.more hk)
      have HM:(Region.ready .any ops la).contains i=true:=by simpa using kD
      have gz:∀w,nR P g R ops i w w:=fun w oj kV=>⟨fun _=>rfl,fun hn=>(by rw[m6]at kV;cases kV;rw[xw]at hn;cases hn)⟩
      have HK:=hE.exec (hap ta) hsel
      refine cM.take iC (S0:=Own g []) m6 hs hfree HM (fun _ _ _ h=>h) (fun w _=>gz w) (fun j oj w w' gO hj hno h0 hk=>?_) (.inl ⟨Vb ta,fun w' di=>by rw[ha.eval,HK];exact KF jY.1 R1 w'⟩) (Own.eL.2 hw).j9 ?_
      · cases xq:sS oj.op
        · exact((hk oj gO).2 xq).1
        · rw[(hk oj gO).1 xq];exact h0
      · refine dV hs vU hk f' pa cl _ _ H h E _ _ kX (hE.step hs m6 ta td _) (iC.step kD) _ w (ha.put hd _) hw ?_ (hout _)
        rintro⟨k,ok,vJ,sZ,pU⟩
        exact hR ⟨k,ok,vJ,sZ,fu qn pU⟩
    cases xw:sS o.op<;>simp only[xw,cond_true,cond_false]at h
    case true=>
      cases jY:(Region.free .any ops listed i)<;>simp only[jY,cond_true,cond_false]at h
      have ta:i∉E.map Prod.fst:=fun hm=>by
        obtain⟨x,hx,e⟩:=List.mem_map.1 hm
        have h2:=hE.mem x hx
        obtain⟨o',gg⟩:=hE.cl _ _ h2.1 h2.2
        have h3:=gg.op
        rw[e,m6]at h3;cases h3
        have:=gg.yN
        rw[xw]at this;cases this
      have kD:=hE.ready ta AD
      have qn:=(mem_ready.1 kD).1
      obtain⟨f',rfl,kX⟩:=mA qn hfuel
      have hfree:=qs (l':=la) jY (fun k hk=>hE.more hk)
      have HM:(Region.ready .any ops la).contains i=true:=by simpa using kD
      have gz:∀w,nR P g R ops i w w:=fun w oj kV=>⟨fun _=>rfl,fun hn=>(by rw[m6]at kV;cases kV;rw[xw]at hn;cases hn)⟩
      have hst:=fun v=>hE.step hs m6 ta td v
      have HK:=hE.exec (hap ta) hsel
      cases hn:Ut P o.op
      case true=>
        rw[yL hn (ev fr) R []]at h
        obtain⟨v,hk',hr⟩:=jw h
        refine cM.take iC (S0:=Own g []) m6 hs hfree HM (fun _ _ _ h=>h) (fun w _=>gz w) (fun j oj w w' gO hj hno h0 hk=>?_) (.inl ⟨Vb ta,fun w' di=>by rw[ha.eval,HK];exact hr w' di⟩) (Own.eL.2 hw).j9 ?_
        · cases xq:sS oj.op
          · exact((hk oj gO).2 xq).1
          · rw[(hk oj gO).1 xq];exact h0
        · refine Qy v f' _ _ w hk' kX (hst v) (iC.step kD) (ha.put hd v) hw ?_ (by omega)
          rintro⟨k,ok,vJ,sZ,pU⟩
          exact hR ⟨k,ok,vJ,sZ,fu qn pU⟩
      case false=>
        obtain⟨v,hk',hr⟩:=jw h
        have hrd:uF P o.op=true:=by simp[uF,xw,hn]
        have SD:Own g R w:=hR ⟨i,o,m6,hrd,qn⟩
        refine cM.take iC (S0:=Own g R) m6 hs hfree HM (fun _ _ _ h=>h) (fun w _=>gz w) (fun j oj w w' gO hj hno h0 hk=>?_) (.inl ⟨Vb ta,fun w' di=>by rw[ha.eval,HK];exact hr w' di⟩) SD ?_
        · cases xq:sS oj.op
          · exact((hk oj gO).2 xq).2 (kx m6 hrd hj hno) h0
          · rw[(hk oj gO).1 xq];exact h0
        · exact Qy v f' _ _ w hk' kX (hst v) (iC.step kD) (ha.put hd v) hw (fun _=>SD) (by omega)
    case false=>
      cases jY:(Region.ready .any ops (marks cl i listed)==[i])<;>simp only[jY,cond_true,cond_false]at h
      have hrd:=beq_iff_eq.1 jY
      by_cases ta:i∈E.map Prod.fst
      · obtain⟨⟨i',b,x⟩,hx,e⟩:=List.mem_map.1 ta
        simp only at e;subst e
        have hex:eM cl i'=some x:=(hE.mem _ hx).1
        simp only[hex]at h
        obtain⟨E1,E2,rfl⟩:=List.append_of_mem hx
        have jj:Own (g.add (QV (E1++E2))) ((b,x.1)::H) w:=by
          have h1:=(Own.eL.2 hw).perm ((List.Perm.append_left H (HY (E1:=E1) (E2:=E2) (y:=(i',b,x)))).trans List.perm_middle)
          exact(Own.eL (A:=(b,x.1)::H)).1 h1
        have hb:b∉H.map Prod.fst:=by
          have:=jj.nd
          rw[List.cons_append,List.map_cons,List.nodup_cons,List.map_append,List.mem_append]at this
          exact fun h=>this.1 (.inl h)
        exact dV hs vU hk fuel pa cl _ _ _ (h b hb) (E1++E2) la fa hfuel (hE.wG hs m6 td) iC a w ha jj hR (hout _)
      · have kD:=hE.ready ta AD
        have qn:=(mem_ready.1 kD).1
        obtain⟨f',rfl,kX⟩:=mA qn hfuel
        have Vn:∀j,la.getD j true=false→cnt (la.setIfInBounds j true).toList≤f':=fun j hj=>by
          obtain⟨f2,h1,h2⟩:=mA hj hfuel
          have:f2=f':=by omega
          subst this;exact h2
        have hst:=fun v=>hE.step hs m6 ta td v
        have HK:=hE.exec (hap ta) hsel
        refine cM.all rfl (fun e=>by rw[e]at kD;simp at kD) fun j hj=>?_
        by_cases Sf:j=i
        · subst Sf
          have yN:∀oj,ops[j]? =some oj→sS oj.op=true→False:=fun oj gO hp=>by rw[m6]at gO;cases gO;rw[xw]at hp;cases hp
          unfold wpOp
          simp only[m6,Vb ta,if_true]
          refine .inl ?_
          unfold Oper.wp
          rw[ha.eval,HK]
          cases hex:eM cl j with
          |none=>
            simp only[hex]at h
            have h:=h (QV E)
            refine(sE (nf fr) h w hw).upon (fun v H' w' cj hb=>?_) (fun ch H' w' _ h0=>h0.elim)
            obtain⟨he,hk'⟩:=hb.of
            have VE:qL P ops j=true→Own g R w':=fun hn=>(Own.eL.2 (he (Ks hn) _ _ cj)).left
            refine⟨fun oj kV=>⟨fun hp=>(yN oj kV hp).elim,fun _=>⟨(Own.eL.2 cj).j9,fun hn _=>VE hn⟩⟩,dV hs vU hk f' pa cl _ _ H' hk' E _ _ kX (hst v) (iC.step kD) _ w' (ha.put hd v) cj ?_ (hout v)⟩
            rintro⟨k,ok,vJ,sZ,pU⟩
            refine VE ?_
            have Se:j≠k:=fun e=>by
              subst e
              have h1:=fg qn
              have hlt:=(Array.getElem?_eq_some_iff.1 h1).1
              rw[Array.getD_eq_getD_getElem?,Array.getElem?_setIfInBounds_self_of_lt hlt]at pU
              cases pU
            rw[getD_set_ne true Se]at pU
            refine kx vJ sZ Se fun hw=>?_
            rw[iC.ready kD hw]at pU;cases pU
          |some x=>
            simp only[hex]at h
            obtain⟨oj,gg⟩:=hE.cl j x hex hun
            have gO:=gg.op
            rw[m6]at gO;cases gO
            rw[gg.makes w]
            simp only[Oper.upon]
            have OZ:∀{A:Hp},Own g A w→Own g A (w.alloc x.1):=fun hA=>(hA.alloc x.1).tail
            refine⟨fun oj kV=>⟨fun hp=>(yN oj kV hp).elim,fun _=>⟨OZ (Own.eL.2 hw).j9,fun _ h1=>OZ h1⟩⟩,?_⟩
            refine dV hs vU hk f' pa cl _ _ _ (h _ hw.fresh) E _ _ kX (hst _) (iC.step kD) _ _ (ha.put hd _) (hw.alloc x.1) ?_ (hout _)
            rintro⟨k,ok,vJ,sZ,pU⟩
            exact OZ (hR ⟨k,ok,vJ,sZ,fu qn pU⟩)
        · obtain⟨Lm,Ll⟩:=T0 j hj
          cases U6:eM cl j with
          |some x=>exact early f' rfl Vn j x hj U6
          |none=>
          refine absurd ?_ Sf
          have WS:j∉cl.map Prod.fst:=fun hm=>by
            obtain⟨x,hx⟩:=HW hm
            rw[U6]at hx;cases hx
          have hjm:j∈Region.ready .any ops (marks cl i listed):=by
            obtain⟨_,oj,gO,aE⟩:=mem_ready.1 hj
            rw[mem_ready]
            refine⟨?_,oj,gO,fun e he hb=>?_⟩
            · rw[Array.getD_eq_getD_getElem?,vk,if_neg (fun h=>WS h.1),←Array.getD_eq_getD_getElem?];exact Ll
            · have h1:=aE e he hb
              have h2:=hE.la e.on
              rw[Array.getD_eq_getD_getElem?]at h1⊢
              rw[vk]
              by_cases hm:e.on∈E.map Prod.fst
              · obtain⟨x,hx,e2⟩:=List.mem_map.1 hm
                have Le:=fg (hE.mem x hx).2
                rw[e2]at Le
                have hlt:=(Array.getElem?_eq_some_iff.1 Le).1
                rw[if_pos ⟨e2▸iE (hE.mem x hx).1,fun e3=>ta (e3▸hm),hlt⟩];rfl
              · rw[if_neg hm]at h2
                split
                · rfl
                · rw[←h2];exact h1
          rw[hrd]at hjm
          simpa using hjm
  termination_by fuel l=>(fuel,SizeOf.sizeOf l)
def ru:Code→Nat→Bool
  | .region _ ops _,s=>bD ops.toList s
  | .seq a b,s=>ru a s||ru b s
  | .cond _ a b,s=>ru a s||ru b s
  | .block _ c,s=>ru c s
  | .loop c,s=>ru c s
  | .skip,_=>false
  | .ret,_=>false
  | .exit _,_=>false
  |_,_=>true
def Ob(c:Code):List Nat→Bool
  | []=>true
  |s::r=> !ru c s&&Ob c r
def tq(s:Nat):List Nat→Bool
  | []=>false
  |x::r=>Nat.beq s x||tq s r
def Od:List Nat→List Value→Fr→Fr
  |l::L,v::vs,base=>fun s=>cond (Nat.beq s l) v (Od L vs base s)
  |_,_,base=>base
def mix(L:List Nat)(vs:List Value)(I:List Nat)(fr gs:Fr):Fr:=Od L vs fun s=>cond (tq s I) (fr s) (gs s)
def AL(fr:Fr):List Nat→List Value
  | []=>[]
  |s::r=>fr s::AL fr r
def uj:Nat→(List Value→Prop)→Prop
  |0,p=>p []
  |n+1,p=>∀v,uj n fun vs=>p (v::vs)
theorem uj.intro{p:List Value→Prop}(h:∀vs,p vs):∀n,uj n p
  |0=>h _
  |n+1=>fun v=>uj.intro (fun vs=>h (v::vs)) n
theorem uj.elim{p:List Value→Prop}:∀{n:Nat},uj n p→∀vs:List Value,vs.length=n→p vs
  |0,h,vs,e=>by cases vs with|nil=>exact h|cons x y=>simp at e
  |n+1,h,vs,e=>by
    cases vs with
    |nil=>simp at e
    |cons x y=>exact uj.elim (h x) y (by simpa using e)
theorem BS(fr:Fr)(L:List Nat):(AL fr L).length=L.length:=by induction L<;>simp[AL, *]
theorem sJ{L I:List Nat}{fr fr':Fr}(h:∀s,tq s I=true→fr' s=fr s):mix L (AL fr' L) I fr fr'=fr':=by
  funext s
  unfold mix
  induction L with
  |nil=>
    simp only[AL,Od]
    cases he:tq s I
    · rfl
    · exact(h s he).symm
  |cons l L ih=>
    simp only[AL,Od]
    cases hb:Nat.beq s l
    · exact ih
    · have:=Nat.eq_of_beq_eq_true hb;subst this;rfl
theorem sH{c:Code}{I:List Nat}(h:Ob c I=true):∀s,tq s I=true→ru c s=false:=by
  induction I with
  |nil=>intro s hs;simp[tq]at hs
  |cons x r ih=>
    intro s hs
    simp only[Ob,Bool.and_eq_true,Bool.not_eq_true']at h
    simp only[tq,Bool.or_eq_true]at hs
    rcases hs with hs|hs
    · rw[Nat.eq_of_beq_eq_true hs];exact h.1
    · exact ih h.2 s hs
def ym(next:Fr→Hp→Prop)(Q:Exit→Fr→Hp→Prop):Exit→Fr→Hp→Prop
  | .normal,fr,H=>next fr H
  |e,fr,H=>Q e fr H
def Mu(id:Nat)(Q:Exit→Fr→Hp→Prop):Exit→Fr→Hp→Prop
  | .exit id',fr,H=>cond (Nat.beq id' id) (Q .normal fr H) (Q (.exit id') fr H)
  |e,fr,H=>Q e fr H
def JE(J:List Value→Hp→Prop)(vs:List Value)(H:Hp):Prop:=∃H',aM H H'∧J vs H'
def aB(I:List Value→Hp→Prop)(m:List Value→Hp→Nat)(vs':List Value)(H':Hp)(vs:List Value)(H:Hp):Prop:=∃kZ,aM H' kZ∧I vs' kZ∧m vs' kZ<m vs H
def Loop(L:List Nat)(vs:List Value)(H:Hp)(body:(List Value→Hp→Prop)→List Value→Hp→Prop):Prop:=
  ∃(I:List Value→Hp→Prop) (m:List Value→Hp→Nat),JE I vs H∧uj L.length fun vs=>∀H',I vs H'→body (fun vs' kZ=>aB I m vs' kZ vs H') vs H'
def Wq(k:Nat)(rest:List Value→Hp→Prop)(body:(List Value→Hp→Prop)→Prop):Prop:=
  ∀J:List Value→Hp→Prop,(uj k fun vs=>∀H,rest vs H→J vs H)→body J
def DR(H:Hp)(body:Hp→Prop):Prop:=∃R,aM H R∧body R
def oe:Code→Nat→Option (Array Oper)
  | .region id ops _,k=>cond (Nat.beq id k) (some ops) none
  | .seq a b,k=>match oe a k with|some x=>some x|none=>oe b k
  | .cond _ a b,k=>match oe a k with|some x=>some x|none=>oe b k
  | .block _ c,k=>oe c k
  | .loop c,k=>oe c k
  |_,_=>none
def SZ(P:Program)(g:Gh)(id:Nat)(ops:Array Oper)(L:List Nat)(vs:List Value)(H:Hp)(K:Hp→Prop):Prop:=
  ∀a w,gF a.tmps.size ops.toList=true→(L.map fun s=>a.tmps.getD s undef)=vs→Own g H w→
    (Code.region id ops true).wp P (fun e a' w'=>e=.normal∧a'.defers=a.defers∧a'.tmps.size=a.tmps.size∧(∀s,bD ops.toList s=false→a'.tmps.getD s undef=a.tmps.getD s undef)∧∃H',Own g H' w'∧K H') a w
def nt(f:Func)(r:Nat):Array Oper:=match f.body with|some c=>(match oe c r with|some ops=>ops|none=>#[])|none=>#[]
theorem Pk(fr:Fr)(L:List Nat):AL fr L=L.map fr:=by induction L<;>simp[AL, *]
def den(P:Program)(g:Gh)(n:Nat):Code→Hn→(Exit→Fr→Hp→Prop)→Fr→Hp→Prop
  | .skip,_,Q,fr,H=>Q .normal fr H
  | .ret,_,Q,fr,H=>Q .ret fr H
  | .exit id,_,Q,fr,H=>Q (.exit id) fr H
  | .seq x y,hn,Q,fr,H=>
    match hn.m with
    |0=>den P g n x hn.a (ym (den P g n y hn.b Q) Q) fr H
    |_=>cond (Ob x hn.I)
        (Wq hn.L.length (fun vs H'=>∀gs,den P g n y hn.b Q (mix hn.L vs hn.I fr gs) H') fun J=>den P g n x hn.a (ym (fun fr' H'=>JE J (AL fr' hn.L) H') Q) fr H) False
  | .cond c x y,hn,Q,fr,H=>Br (ev fr c) (den P g n x hn.a Q fr H) (den P g n y hn.b Q fr H)
  | .block id c,hn,Q,fr,H=>den P g n c hn.a (Mu id Q) fr H
  | .loop c,hn,Q,fr,H=>
    cond (Ob c hn.I)
      (Loop hn.L (AL fr hn.L) H fun J vs H'=>∀gs,den P g n c hn.a (ym (fun fr' kZ=>J (AL fr' hn.L) kZ) Q) (mix hn.L vs hn.I fr gs) H') False
  | .region id ops draw,hn,Q,fr,H=>
    cond draw
      (match hn.m with
      |0=>match hn.L with
       | []=>cond (P.follows .mixedOrders&&Region.lexB .any ops) (dM P g n ops true (ops.toList.length+1) true none [] ops.toList fr H (fun _ fr' H'=>Q .normal fr' H') (fun _ _=>False)) False
       |l=>cond (P.follows .mixedOrders&&Region.noSelect ops&&Nat.ble l.length ops.size)
          (DR H fun R=>Ia P g n ops R (fun fr' H'=>Q .normal fr' H') l (Array.replicate ops.size false) fr H) False
      |9=>cond (gF n ops.toList) (SZ P g id ops hn.L (AL fr hn.L) H fun H'=>∀gs,Q .normal (xD ops.toList gs fr) H') False
      |_=>cond (P.follows .mixedOrders&&Region.noSelect ops)
          (DR H fun R=>oD P g n ops R (fun fr' H'=>Q .normal fr' H') hn.a [] (Array.replicate ops.size false) fr H) False)
      (dM P g n ops (match hn.I with| []=>false|_=>true) (ops.toList.length+1) false none [] ops.toList fr H (fun _ fr' H'=>Q .normal fr' H') (fun ch H'=>∀fr',Q (.panic ch) fr' H'))
  |_,_,_,_,_=>False
theorem yd{c:Code}{Q:Exit→Act→World→Prop}{a:Act}{w:World}(R:Act→World→Nat→Prop)(h₀:∃m,R a w m)
   (round:∀a w m,R a w m→c.wp P (Exit.then (fun a' w'=>∃m',m'<m∧R a' w' m') Q) a w):(Code.loop c).wp P Q a w:=by
  intro b k cs
  have key:∀n a w,R a w n→
      ∃e a' w',Q e a' w'∧Arrives P (lone (b.at a (.code c:: .inLoop c::k)) cs w) b k cs e a' w':=by
    intro n
    induction n using Nat.strongRecOn with
    |_ n ih=>
      intro a w hI
      obtain⟨e,a₁,w₁,hq,zz⟩:=round a w n hI b (.inLoop c::k) cs
      cases e with
      |normal=>
        obtain⟨m',hlt,VW⟩:=hq
        obtain⟨e₂,a₂,w₂,UL,OX⟩:=ih m' hlt a₁ w₁ VW
        exact⟨e₂,a₂,w₂,UL,.of_steps (Steps.trans zz (.one step_inLoop)) OX⟩
      |exit id=>exact⟨_,a₁,w₁,hq,.pass (x:=.inLoop c) rfl (fun _ _=>.inl (by simp)) zz⟩
      |goto l=>exact⟨_,a₁,w₁,hq,.pass (x:=.inLoop c) rfl (fun _ _=>.inl (by simp)) zz⟩
      |ret=>exact⟨_,a₁,w₁,hq,.pass (x:=.inLoop c) rfl (fun _ _=>.inl (by simp)) zz⟩
      |panic ch=>exact⟨_,a₁,w₁,hq,.pass (x:=.inLoop c) rfl (fun _ _=>.inl (by simp)) zz⟩
      |outgrown=>exact⟨_,a₁,w₁,hq,.pass (x:=.inLoop c) rfl (fun _ _=>.inl (by simp)) zz⟩
  obtain⟨m,h₀⟩:=h₀
  obtain⟨e,a',w',hq,zz⟩:=key m a w h₀
  exact⟨e,a',w',hq,.of_steps (.one step_loop) zz⟩
def sR:Exit→Bool
  | .panic _=>true
  |_=>false
theorem jK{n:Nat}:∀(c:Code) (hn:Hn) (Q:Exit→Fr→Hp→Prop) (fr:Fr) (H:Hp),den P g n c hn Q fr H→∀(a:Act) (w:World),bX ds n a fr→Own g H w→c.wp P (fun e a' w'=>∃fr' H',bX ds n a' fr'∧Own g H' w'∧(sR e=false→∀s,ru c s=false→fr' s=fr s)∧Q e fr' H') a w:=by
  intro c
  induction c with
  |skip=>intro hn Q fr H h a w ha hw;exact wp_skip ⟨fr,H,ha,hw,fun _ _ _=>rfl,h⟩
  |ret=>intro hn Q fr H h a w ha hw;exact wp_ret ⟨fr,H,ha,hw,fun _ _ _=>rfl,h⟩
  |exit id=>intro hn Q fr H h a w ha hw;exact wp_exit ⟨fr,H,ha,hw,fun _ _ _=>rfl,h⟩
  |seq x y WJ WI=>
    intro hn Q fr H h a w ha hw
    unfold den at h
    have Uh:∀{Pm qW:Fr},(∀s,ru x s=false→Pm s=fr s)→(∀s,ru y s=false→qW s=Pm s)→∀s,ru (.seq x y) s=false→qW s=fr s:=fun h1 h2 s hs=>by
      simp only[ru,Bool.or_eq_false_iff]at hs
      rw[h2 s hs.2,h1 s hs.1]
    have uD:∀{Pm:Fr},(∀s,ru x s=false→Pm s=fr s)→∀s,ru (.seq x y) s=false→Pm s=fr s:=fun h1 s hs=>by
      simp only[ru,Bool.or_eq_false_iff]at hs
      exact h1 s hs.1
    split at h
    · refine wp_seq (wp_mono (WJ _ _ fr H h a w ha hw) ?_)
      rintro e a' w' ⟨fr',H',dF,di,ho,hq⟩
      cases e with
      |normal=>exact wp_mono (WI _ _ fr' H' hq a' w' dF di) fun e2 a2 w2 ⟨qW,H2,g1,g2,g3,g4⟩=>⟨qW,H2,g1,g2,fun hp=>Uh (ho rfl) (g3 hp),g4⟩
      |exit id=>exact⟨fr',H',dF,di,fun hp=>uD (ho hp),hq⟩
      |goto l=>exact⟨fr',H',dF,di,fun hp=>uD (ho hp),hq⟩
      |ret=>exact⟨fr',H',dF,di,fun hp=>uD (ho hp),hq⟩
      |panic ch=>exact⟨fr',H',dF,di,fun hp=>uD (ho hp),hq⟩
      |outgrown=>exact⟨fr',H',dF,di,fun hp=>uD (ho hp),hq⟩
    · cases hno:Ob x hn.I<;>simp only[hno,cond_true,cond_false]at h
      have h':=h (fun vs H'=>∀gs,den P g n y hn.b Q (mix hn.L vs hn.I fr gs) H') (uj.intro (fun vs H' hh=>hh) _)
      refine wp_seq (wp_mono (WJ _ _ fr H h' a w ha hw) ?_)
      rintro e a' w' ⟨fr',H',dF,di,ho,hq⟩
      cases e with
      |normal=>
        obtain⟨Hj,tc,hq⟩:=hq
        have WO:den P g n y hn.b Q fr' Hj:=by
          have:=hq fr'
          rwa [sJ fun s hs=>ho rfl s (sH hno s hs)]at this
        exact wp_mono (WI _ _ fr' Hj WO a' w' dF (tc _ _ di)) fun e2 a2 w2 ⟨qW,H2,g1,g2,g3,g4⟩=>⟨qW,H2,g1,g2,fun hp=>Uh (ho rfl) (g3 hp),g4⟩
      |exit id=>exact⟨fr',H',dF,di,fun hp=>uD (ho hp),hq⟩
      |goto l=>exact⟨fr',H',dF,di,fun hp=>uD (ho hp),hq⟩
      |ret=>exact⟨fr',H',dF,di,fun hp=>uD (ho hp),hq⟩
      |panic ch=>exact⟨fr',H',dF,di,fun hp=>uD (ho hp),hq⟩
      |outgrown=>exact⟨fr',H',dF,di,fun hp=>uD (ho hp),hq⟩
  |cond c x y WJ WI=>
    intro hn Q fr H h a w ha hw
    obtain⟨b,hb,ht,hf⟩:=h
    refine wp_cond_split (t:=b) (by rw[ha.eval];exact hb) (fun e=>?_) (fun e=>?_)
    · exact wp_mono (WJ _ _ fr H (ht e) a w ha hw) fun e2 a2 w2 ⟨qW,H2,g1,g2,g3,g4⟩=>⟨qW,H2,g1,g2,fun hp s hs=>g3 hp s (by simp only[ru,Bool.or_eq_false_iff]at hs;exact hs.1),g4⟩
    · exact wp_mono (WI _ _ fr H (hf e) a w ha hw) fun e2 a2 w2 ⟨qW,H2,g1,g2,g3,g4⟩=>⟨qW,H2,g1,g2,fun hp s hs=>g3 hp s (by simp only[ru,Bool.or_eq_false_iff]at hs;exact hs.2),g4⟩
  |block id c ih=>
    intro hn Q fr H h a w ha hw
    refine wp_block (wp_mono (ih _ _ fr H h a w ha hw) ?_)
    rintro e a' w' ⟨fr',H',dF,di,ho,hq⟩
    cases e with
    |exit id'=>
      simp only[Mu]at hq
      cases hb:Nat.beq id' id<;>simp only[hb,cond_true,cond_false]at hq
      · have:id'≠id:=fun e=>by subst e;simp at hb
        simp only[Exit.inBlock,this,if_false]
        exact⟨fr',H',dF,di,ho,hq⟩
      · have:=Nat.eq_of_beq_eq_true hb
        simp only[Exit.inBlock,this,if_true]
        exact⟨fr',H',dF,di,ho,hq⟩
    |normal=>exact⟨fr',H',dF,di,ho,hq⟩
    |goto l=>exact⟨fr',H',dF,di,ho,hq⟩
    |ret=>exact⟨fr',H',dF,di,ho,hq⟩
    |panic ch=>exact⟨fr',H',dF,di,ho,hq⟩
    |outgrown=>exact⟨fr',H',dF,di,ho,hq⟩
  |loop c ih=>
    intro hn Q fr H h a w ha hw
    unfold den at h
    cases hno:Ob c hn.I<;>simp only[hno,cond_true,cond_false]at h
    obtain⟨I,m,⟨H0,Vj,h0⟩,hr⟩:=h
    refine yd (fun a w k=>∃fr' H',bX ds n a fr'∧Own g H' w∧(∀s,ru c s=false→fr' s=fr s)∧I (AL fr' hn.L) H'∧m (AL fr' hn.L) H'=k) ⟨_,fr,H0,ha,Vj _ _ hw,fun _ _=>rfl,h0,rfl⟩ ?_
    rintro a w k ⟨Pm,H1,BM,jj,zm,hI,rfl⟩
    have hb:=hr.elim (AL Pm hn.L) (BS _ _) H1 hI Pm
    rw[sJ fun s hs=>zm s (sH hno s hs)]at hb
    refine wp_mono (ih _ _ Pm H1 hb a w BM jj) ?_
    rintro e a' w' ⟨fr',H',dF,di,ho,hq⟩
    have cj:sR e=false→∀s,ru c s=false→fr' s=fr s:=fun hp s hs=>(ho hp s hs).trans (zm s hs)
    cases e with
    |normal=>obtain⟨Hj,tc,RZ,X4⟩:=hq;exact⟨_,X4,fr',Hj,dF,tc _ _ di,cj rfl,RZ,rfl⟩
    |exit id=>exact⟨fr',H',dF,di,cj,hq⟩
    |goto l=>exact⟨fr',H',dF,di,cj,hq⟩
    |ret=>exact⟨fr',H',dF,di,cj,hq⟩
    |panic ch=>exact⟨fr',H',dF,di,cj,hq⟩
    |outgrown=>exact⟨fr',H',dF,di,cj,hq⟩
  |region id ops draw=>
    intro hn Q fr H h a w ha hw
    unfold den at h
    cases draw<;>simp only[cond_true,cond_false]at h
    case false=>
      refine wp_region_list ?_
      have:=cm _ _ _ _ _ fr H _ _ h trivial (gK.nil fr) a w ha hw [] (fun e a' w'=>∃fr' H',bX ds n a' fr'∧Own g H' w'∧(sR e=false→∀s,ru (.region id ops false) s=false→fr' s=fr s)∧Q e fr' H') ?_ ?_
      · simpa using this
      · intro a' w' oL fr' H' h1 h2 h3 _ h4
        exact⟨fr',H',h1,h2,fun _=>h3,h4⟩
      · intro ch a' w' fr' H' h1 h2 h3
        exact⟨fr',H',h1,h2,fun hp=>by simp[sR]at hp,h3 fr'⟩
    case true=>
      split at h
      · split at h
        · cases hc:(P.follows .mixedOrders&&Region.lexB .any ops)<;>simp only[hc,cond_true,cond_false]at h
          simp only[Bool.and_eq_true]at hc
          refine wp_region_quiet (C:=Own g H) hc.1 hc.2 hw.v5 ?_
          have:=de _ none _ ops.toList fr H _ _ h trivial (gK.nil fr) a ha [] (fun a'=>∀w',Own g H w'→∃fr' H',bX ds n a' fr'∧Own g H' w'∧(sR .normal=false→∀s,ru (.region id ops true) s=false→fr' s=fr s)∧Q .normal fr' H') ?_
          · simpa using this
          · intro a' oL fr' h1 h3 _ h4
            exact fun w' di=>⟨fr',H,h1,di,fun _=>h3,h4⟩
        · cases hc:(P.follows .mixedOrders&&Region.noSelect ops&&Nat.ble hn.L.length ops.size)<;>simp only[hc,cond_true,cond_false]at h
          simp only[Bool.and_eq_true]at hc
          obtain⟨R,hR,h⟩:=h
          refine wp_mono (Q:=pQ fun e a' w'=>∃fr' H',bX ds n a' fr'∧Own g H' w'∧(sR e=false→∀s,ru (.region id ops true) s=false→fr' s=fr s)∧Q e fr' H') ?_ ?_
          · refine wp_region_any hc.1.1 (cM.any (S:=nR P g R ops) ?_)
            exact pI hc.1.2 fr (fun a w fr' H' h1 h2 h3 h4=>⟨fr',H',h1,h2,fun _=>h3,h4⟩) _ _ fr H h _ (Nat.le_of_ble_eq_true hc.2) (ej.none _ rfl) _ _ ha hw.v5 (fun _=>(hR _ _ hw).v5) (dI.refl _ _)
          · intro e a w h
            cases e<;>first|exact h|exact h.elim
      · cases hc:gF n ops.toList<;>simp only[hc,cond_true,cond_false]at h
        refine wp_mono (h a w (by rw[ha.size];exact hc) (by rw[Pk];exact List.map_congr_left fun s _=>ha.get s) hw) ?_
        rintro e a' w' ⟨rfl,hd,hs,ho,H',di,hk⟩
        refine⟨xD ops.toList (fun s=>a'.tmps.getD s undef) fr,H',⟨hd.trans ha.defers,hs.trans ha.size,fun s=>?_⟩,di,fun _ s hs=>?_,hk _⟩
        · unfold xD
          cases hb:bD ops.toList s
          · rw[cond_false,ho s hb,ha.get]
          · rfl
        · unfold xD;simp only[ru]at hs;rw[hs,cond_false]
      · cases hc:(P.follows .mixedOrders&&Region.noSelect ops)<;>simp only[hc,cond_true,cond_false]at h
        simp only[Bool.and_eq_true]at hc
        obtain⟨R,hR,h⟩:=h
        refine wp_mono (Q:=pQ fun e a' w'=>∃fr' H',bX ds n a' fr'∧Own g H' w'∧(sR e=false→∀s,ru (.region id ops true) s=false→fr' s=fr s)∧Q e fr' H') ?_ ?_
        · refine wp_region_any hc.1 (cM.any (S:=nR P g R ops) ?_)
          refine dV hc.2 fr (fun a w fr' H' h1 h2 h3 h4=>⟨fr',H',h1,h2,fun _=>h3,h4⟩) _ _ [] _ fr H h [] _ fr (by rw[Array.toList_replicate,uL];exact Nat.le_refl _) ⟨by simp,by simp,by simp,fun _ _=>rfl,by simp,fun j x hx=>by simp[eM]at hx⟩ (ej.none _ rfl) _ _ ha hw.v5 (fun _=>(hR _ _ hw).v5) (dI.refl _ _)
        · intro e a w h
          cases e<;>first|exact h|exact h.elim
  |label l=>intro hn Q fr H h;exact h.elim
  |goto l=>intro hn Q fr H h;exact h.elim
  |scope c _=>intro hn Q fr H h;exact h.elim
  |refuse s=>intro hn Q fr H h;exact h.elim
  |rangeFunc f ps as b _ _=>intro hn Q fr H h;exact h.elim
def rF(R:Ending→Hp→Prop):List PanicEntry→Hp→Prop:=fun ch H=>∀_:Fr,R (.panicked ch) H
def uQ:List PanicEntry→Hp→Prop:=fun _ _=>False
def su:Code→Nat→Option (Array Oper)
  | .region id ops _,k=>cond (Nat.beq id k) (some ops) none
  | .seq a b,k=>match su a k with|some x=>some x|none=>su b k
  | .cond _ a b,k=>match su a k with|some x=>some x|none=>su b k
  | .block _ c,k=>su c k
  | .loop c,k=>su c k
  |_,_=>none
def fI(f:Func)(r i:Nat):Oper:=match f.body with|some c=>(match su c r with|some ops=>(match ops[i]? with|some o=>o|none=>default)|none=>default)|none=>default
def iB:List Value→Nat→Fr
  | [],_=>fun _=>undef
  |v::r,i=>fun s=>cond (Nat.beq s i) v (iB r (i+1) s)
def sr(P:Program)(fr:Fr)(H:Hp):List ResultVar→(List Value→Prop)→Prop
  | [],k=>k []
  | .tmp t::r,k=>sr P fr H r fun vs=>k (fr t::vs)
  | .cell a t::r,k=>match P.underlying t,cU P t with
    |some d,some n=>cond (cu d) (av n H (fr a) fun v=>sr P fr H r fun vs=>k (v::vs)) (Ld H (fr a) fun v=>sr P fr H r fun vs=>k (v::vs))
    |_,_=>False
def AY:List Value→Value
  | [v]=>v
  |vs=>.tuple vs.toArray
def Zt(P:Program)(fn:Func)(R:Ending→Hp→Prop):Exit→Fr→Hp→Prop
  | .normal,fr,H=>sr P fr H fn.results.toList fun vs=>R (.returned (AY vs)) H
  | .ret,fr,H=>sr P fr H fn.results.toList fun vs=>R (.returned (AY vs)) H
  | .panic ch,_,H=>R (.panicked ch) H
  |_,_,_=>False
def BX(P:Program)(g:Gh)(fn:Func)(hn:Hn)(args:List Value)(H:Hp)(R:Ending→Hp→Prop):Prop:=
  match fn.body with
  |some c=>cond (Nat.ble args.length fn.ntmps) (den P g fn.ntmps c hn (Zt P fn R) (iB args 0) H) False
  |none=>False
theorem kC:∀(l:List Value) (i s:Nat),iB l i s=if s<i then undef else l.getD (s-i) undef
  | [],i,s=>by simp[iB]
  |v::r,i,s=>by
    simp only[iB,kC r (i+1) s]
    cases hb:Nat.beq s i
    · have hne:s≠i:=fun e=>by subst e;simp at hb
      simp only[cond_false]
      by_cases h:s<i
      · rw[if_pos (by omega),if_pos h]
      · rw[if_neg (by omega),if_neg h,show s-i=(s-(i+1))+1 by omega]
        simp[List.getD]
    · have:=Nat.eq_of_beq_eq_true hb;subst this
      simp[List.getD]
def G6(fr:Fr):ResultVar→Sem Value
  | .tmp t=>pure (fr t)
  | .cell b t=>do loadVar t (←asAddr (fr b))
theorem qN{fr:Fr}{H:Hp}{w:World}(hw:Own g H w){b:Tmp}{t:TypeId}{v:Value}{p:Addr}(hp:fr b=.pointer (some p))(h:(Instr.loadAt t (fr b)).run P w=.ok v w):(G6 fr (.cell b t)).run P w=.ok v w:=by
  rw[hp]at h
  simp only[G6,hp,asAddr]
  simpa[Instr.loadAt,Instr.sureAddr]using h
theorem oW{fr:Fr}{H:Hp}{w:World}(hw:Own g H w):∀(l:List ResultVar) (k:List Value→Prop),sr P fr H l k→
    ∃vs,(l.mapM (G6 fr)).run P w=.ok vs w∧k vs
  | [],k,h=>⟨[],by simp,h⟩
  | .tmp t::r,k,h=>by
    obtain⟨vs,hr,hk⟩:=oW hw r _ h
    refine⟨fr t::vs,?_,hk⟩
    simp only[List.mapM_cons,Sem.run_bind,Sem.run_pure,Result.andThen_ok,hr,G6]
  | .cell b t::r,k,h=>by
    unfold sr at h
    split at h<;>try exact h.elim
    rename_i d m hd hm
    obtain⟨i,hi,him⟩:=bg hm
    cases YO:cu d<;>simp only[YO,cond_true,cond_false]at h
    · obtain⟨v,hk',hf⟩:=h.fix
      obtain⟨v2,ry,e⟩:=hf.run (P:=P) hw hd YO
      subst e
      obtain⟨bb,off,c,T,fz,u,hp,_⟩:=hf
      obtain⟨vs,hr,hk⟩:=oW hw r _ hk'
      refine⟨v2::vs,?_,hk⟩
      have:=qN hw hp ry
      simp only[List.mapM_cons,Sem.run_bind,Result.andThen_ok,hr,Sem.run_pure,this]
    · obtain⟨v,hk',hf⟩:=h.fix
      obtain⟨v2,ry,e⟩:=hf.run (P:=P) hw hd YO hi him
      subst e
      obtain⟨bb,off,c,T,fz,hp,_⟩:=hf
      obtain⟨vs,hr,hk⟩:=oW hw r _ hk'
      refine⟨v2::vs,?_,hk⟩
      have:=qN hw hp ry
      simp only[List.mapM_cons,Sem.run_bind,Result.andThen_ok,hr,Sem.run_pure,this]
theorem gu{fn:Func}{fr:Fr}{H:Hp}{n:Nat}{a:Act}{w:World}(ha:bX ds n a fr)(hw:Own g H w){k:List Value→Prop}(h:sr P fr H fn.results.toList k):
    ∃vs,(results fn a.tmps).run P w=.ok (AY vs) w∧k vs:=by
  obtain⟨vs,hr,hk⟩:=oW (P:=P) hw _ _ h
  refine⟨vs,?_,hk⟩
  have e:results fn a.tmps=(do let vs ←fn.results.mapM (G6 fr);pure (if h:vs.size=1 then vs[0]else .tuple vs)):=by
    unfold results
    congr 1
    congr 1
    funext x
    cases x<;>simp only[G6,ha.get]
  rw[e,Array.mapM_eq_mapM_toList]
  simp only[Sem.run_bind,Sem.run_map,hr,Result.andThen_ok,Sem.run_pure]
  congr 1
  match vs with
  | []=>rfl
  | [v]=>rfl
  |a::b::r=>simp[AY]
theorem BW{f:FuncId}{fn:Func}{hn:Hn}{args:List Value}{H:Hp}{R:Ending→Hp→Prop}(hf:P.funcs[f]? =some fn)(h:BX P g fn hn args H R):bW P g f args.toArray H R:=by
  intro w hw
  unfold BX at h
  split at h<;>try exact h.elim
  rename_i c hc
  cases hl:Nat.ble args.length fn.ntmps<;>simp only[hl,cond_true,cond_false]at h
  have hle:=Nat.le_of_ble_eq_true hl
  refine calls_of_wp hf hc (wp_mono (jK c hn _ _ H h _ w ⟨rfl,?_,?_⟩ hw) ?_)
  · simp;omega
  · intro s
    rw[kC,Array.getD_eq_getD_getElem?,Array.getElem?_append]
    simp only[List.size_toArray,Nat.not_lt_zero,if_false,Nat.sub_zero]
    by_cases hs:s<args.length
    · simp[hs,List.getD]
    · rw[if_neg hs]
      rw[Array.getElem?_replicate]
      have:args.getD s undef=undef:=by simp[List.getD,List.getElem?_eq_none (Nat.le_of_not_lt hs)]
      rw[this]
      split<;>rfl
  · rintro e a' w' ⟨fr',H',dF,di,_,hq⟩
    cases e with
    |normal=>obtain⟨vs,hr,hk⟩:=gu dF di hq;exact⟨dF.defers,_,hr,H',di,hk⟩
    |ret=>obtain⟨vs,hr,hk⟩:=gu dF di hq;exact⟨dF.defers,_,hr,H',di,hk⟩
    |panic ch=>exact⟨dF.defers,H',di,hq⟩
    |exit id=>exact hq.elim
    |goto l=>exact hq.elim
    |outgrown=>exact hq.elim
end
end Go.Sx
namespace Go.Sx
open Go
section
variable {P:Program} {g:Gh} {H:Hp}
theorem Nil.ptr{a:Addr}{k:Value→Prop}(h:k (.pointer (some a))):Nil (.pointer (some a)) k:=⟨_,rfl,h⟩
theorem ag.mk{b o off:Nat}{k:Value→Prop}(h:k (.pointer (some ⟨b,o+off,none⟩))):ag off (.pointer (some ⟨b,o,none⟩)) k:=⟨b,o,rfl,h⟩
theorem Ld.mk{b off:Nat}{c:Array Value}{T:TypeId}{fz:Nat×Nat}{v:Value}{k:Value→Prop}(hm:(b,Obj.cells c T fz)∈H)(hc:c[off]? =some v)(h:k v):Ld H (.pointer (some ⟨b,off,none⟩)) k:=
 ⟨b,off,c,T,fz,v,rfl,hm,hc,h⟩
theorem av.mk{b off n:Nat}{c:Array Value}{T:TypeId}{fz:Nat×Nat}{vs:Array Value}{k:Value→Prop}(hm:(b,Obj.cells c T fz)∈H)(hs:off+n≤c.size)(hc:c.extract off (off+n)=vs)(h:k (.agg vs)):av n H (.pointer (some ⟨b,off,none⟩)) k:=
 ⟨b,off,c,T,fz,rfl,hm,hs,by rw[hc];exact h⟩
theorem St.mk{b off n:Nat}{c:Array Value}{T:TypeId}{x:Value}{c':Array Value}{H':Hp}{k:Hp→Prop}(hu:cD b (.cells c T (0,0)) (.cells c' T (0,0)) H H')(hx:x.cells.size=n)(hs:off+n≤c.size)
 (h1:∀v∈x.cells.toList,v.oneCell'=true)(hc:iy c off x.cells.toList=c')(h:k H'):St n H (.pointer (some ⟨b,off,none⟩)) x k:=
 ⟨b,off,c,T,H',rfl,hx,hs,h1,by rw[hc];exact hu,h⟩
theorem JE.mk{J:List Value→Hp→Prop}{vs:List Value}(h:J vs H):JE J vs H:=⟨H,.refl _,h⟩
theorem JE.of{J:List Value→Hp→Prop}{vs:List Value}{H':Hp}(e:aM H H')(h:J vs H'):JE J vs H:=⟨H',e,h⟩
theorem aB.mk{I:List Value→Hp→Prop}{m:List Value→Hp→Nat}{vs' vs:List Value}{H0:Hp}(h:I vs' H)(hm:m vs' H<m vs H0):aB I m vs' H vs H0:=⟨H,.refl _,h,hm⟩
theorem aB.of{I:List Value→Hp→Prop}{m:List Value→Hp→Nat}{vs' vs:List Value}{H' H0:Hp}(e:aM H H')(h:I vs' H')(hm:m vs' H'<m vs H0):aB I m vs' H vs H0:=⟨H',e,h,hm⟩
theorem Br.mk{b:Bool}{t f:Prop}(h1:b=true→t)(h2:b=false→f):Br (.bool b) t f:=⟨b,rfl,h1,h2⟩
theorem Br.yes{t f:Prop}(h1:t):Br (.bool true) t f:=⟨true,rfl,fun _=>h1,fun h=>by simp at h⟩
theorem Br.no{t f:Prop}(h1:f):Br (.bool false) t f:=⟨false,rfl,fun h=>by simp at h,fun _=>h1⟩
theorem Br.TY{b:Bool}{t f:Prop}(hb:b=true)(h1:t):Br (.bool b) t f:=by subst hb;exact Br.yes h1
theorem Br.Xx{b:Bool}{t f:Prop}(hb:b=false)(h1:f):Br (.bool b) t f:=by subst hb;exact Br.no h1
theorem df.mk{a:Bool}{want:Bool}{inner els k:Bool→Prop}(t:Bool)(h1:a=want→inner t)(h2:a= !want→els t)(h3:k t):df (.bool a) want inner els k:=⟨a,t,rfl,h1,h2,h3⟩
theorem df.and{a:Bool}{inner els k:Bool→Prop}(b:Bool)(h1:a=true→inner b)(h2:els false)(h3:k (a&&b)):df (.bool a) true inner els k:=
 ⟨a,a&&b,rfl,fun e=>by subst e;exact h1 rfl,fun e=>by subst e;exact h2,h3⟩
theorem df.or{a:Bool}{inner els k:Bool→Prop}(b:Bool)(h1:a=false→inner b)(h2:els true)(h3:k (a||b)):df (.bool a) false inner els k:=
 ⟨a,a||b,rfl,fun e=>by subst e;exact h1 rfl,fun e=>by subst e;exact h2,h3⟩
theorem Split.go{a:Bool}{want:Bool}{k1 k2:Prop}(e:a=want)(h1:k1):Split (.bool a) want k1 k2:=⟨a,rfl,fun _=>h1,fun e'=>by subst e;cases a<;>simp at e'⟩
theorem Split.Kj{a:Bool}{want:Bool}{k1 k2:Prop}(e:a= !want)(h1:k2):Split (.bool a) want k1 k2:=⟨a,rfl,fun e'=>by subst e';cases a<;>simp at e,fun _=>h1⟩
theorem ay.mk{t:Bool}{a b:Value}{k:Value→Prop}(h:k (cond t a b)):ay (.bool t) a b k:=⟨t,rfl,h⟩
theorem Un.not{b:Bool}{k:Value→Prop}(h:k (.bool !b)):Un .not (.bool b) k:=⟨_,rfl,h⟩
theorem Ext.mk{i:Nat}{vs:Array Value}{v:Value}{k:Value→Prop}(hv:vs[i]? =some v)(h:k v):Ext i (.tuple vs) k:=⟨vs,v,rfl,hv,h⟩
theorem aF.mk{a:Option Addr}{n c:Nat}{k:Value→Prop}(h:k (.int .i64 n)):aF (.slice a n c) k:=⟨a,n,c,rfl,h⟩
theorem aQ.of{kd j:IntKind}{n m:Int}{k:Value→Prop}(e:kd.wrap n=m)(h:k (.int kd m)):aQ kd (.int j n) k:=⟨j,n,rfl,by rw[e];exact h⟩
theorem Gx.mk{off:Nat}{cs:Array Value}{v:Value}{k:Value→Prop}(hc:cs[off]? =some v)(h:k v):Gx off (.agg cs) k:=⟨cs,v,rfl,hc,h⟩
theorem an.mk{size b o n c:Nat}{kd:IntKind}{i:Int}{k:Value→Prop}(h0:0≤i)(h1:i<(n:Int))(h:k (.pointer (some ⟨b,o+i.toNat*size,none⟩))):an size (.slice (some ⟨b,o,none⟩) n c) (.int kd i) k:=
 ⟨b,o,n,c,kd,i,rfl,rfl,h0,h1,h⟩
theorem an.nat{size b o n c:Nat}{kd:IntKind}{j:Nat}{k:Value→Prop}(h1:j<n)(h:k (.pointer (some ⟨b,o+j*size,none⟩))):an size (.slice (some ⟨b,o,none⟩) n c) (.int kd (j:Int)) k:=
 an.mk (Int.natCast_nonneg j) (by omega) (by simpa using h)
theorem an.of{size b o n c:Nat}{kd:IntKind}{i:Int}{k:Value→Prop}(j:Nat)(e:i=(j:Int))(h1:j<n)(h:k (.pointer (some ⟨b,o+j*size,none⟩))):an size (.slice (some ⟨b,o,none⟩) n c) (.int kd i) k:=by
 subst e;exact an.nat h1 h
theorem aa.eql{kd:IntKind}{a b:Int}{k:Value→Prop}(h:k (.bool (a==b))):aa .num .eql (.int kd a) (.int kd b) k:=⟨_,by simp[eX,jb],h⟩
theorem aa.neq{kd:IntKind}{a b:Int}{k:Value→Prop}(h:k (.bool (a !=b))):aa .num .neq (.int kd a) (.int kd b) k:=⟨_,by simp[eX,jb],h⟩
theorem aa.lss{kd:IntKind}{a b:Int}{k:Value→Prop}(h:k (.bool (decide (a<b)))):aa .num .lss (.int kd a) (.int kd b) k:=⟨_,by simp[eX,jb],h⟩
theorem aa.leq{kd:IntKind}{a b:Int}{k:Value→Prop}(h:k (.bool (decide (a≤b)))):aa .num .leq (.int kd a) (.int kd b) k:=⟨_,by simp[eX,jb],h⟩
theorem aa.gtr{kd:IntKind}{a b:Int}{k:Value→Prop}(h:k (.bool (decide (b<a)))):aa .num .gtr (.int kd a) (.int kd b) k:=⟨_,by simp[eX,jb],h⟩
theorem aa.geq{kd:IntKind}{a b:Int}{k:Value→Prop}(h:k (.bool (decide (b≤a)))):aa .num .geq (.int kd a) (.int kd b) k:=⟨_,by simp[eX,jb],h⟩
theorem aa.add{kd:IntKind}{a b:Int}{k:Value→Prop}(h:k (.int kd (kd.wrap (a+b)))):aa .num .add (.int kd a) (.int kd b) k:=⟨_,by simp[eX,jb],h⟩
theorem aa.sub{kd:IntKind}{a b:Int}{k:Value→Prop}(h:k (.int kd (kd.wrap (a-b)))):aa .num .sub (.int kd a) (.int kd b) k:=⟨_,by simp[eX,jb],h⟩
theorem aa.mul{kd:IntKind}{a b:Int}{k:Value→Prop}(h:k (.int kd (kd.wrap (a*b)))):aa .num .mul (.int kd a) (.int kd b) k:=⟨_,by simp[eX,jb],h⟩
theorem wrap_i64{a:Int}(h: -9223372036854775808≤a∧a≤9223372036854775807):IntKind.i64.wrap a=a:=IntWalk.i64_in _ h
theorem aa.wo{a b:Int}{c:Int}{k:Value→Prop}(e:a+b=c)(hb: -9223372036854775808≤c∧c≤9223372036854775807)(h:k (.int .i64 c)):aa .num .add (.int .i64 a) (.int .i64 b) k:=
 aa.add (by rw[e,wrap_i64 hb];exact h)
theorem aa.oT{a b:Int}{c:Int}{k:Value→Prop}(e:a-b=c)(hb: -9223372036854775808≤c∧c≤9223372036854775807)(h:k (.int .i64 c)):aa .num .sub (.int .i64 a) (.int .i64 b) k:=
 aa.sub (by rw[e,wrap_i64 hb];exact h)
theorem aa.Ul{a b:Int}{c:Int}{k:Value→Prop}(e:a*b=c)(hb: -9223372036854775808≤c∧c≤9223372036854775807)(h:k (.int .i64 c)):aa .num .mul (.int .i64 a) (.int .i64 b) k:=
 aa.mul (by rw[e,wrap_i64 hb];exact h)
theorem aa.J0{a b:Int}{c:Int}{k:Value→Prop}(hb0:b≠0)(e:a.tdiv b=c)(hb: -9223372036854775808≤c∧c≤9223372036854775807)(h:k (.int .i64 c)):aa .num .quo (.int .i64 a) (.int .i64 b) k:=
 ⟨.int .i64 c,by simp[eX,jb,hb0,e,wrap_i64 hb],h⟩
theorem aa.P2{kd:IntKind}{a b:Int}{c:Int}{k:Value→Prop}(hb0:b≠0)(e:a.tmod b=c)(h:k (.int kd c)):aa .num .rem (.int kd a) (.int kd b) k:=
 ⟨.int kd c,by simp[eX,jb,hb0,e],h⟩
theorem aa.aD{a:Addr}{k:Value→Prop}(h:k (.bool false)):aa .ptr .eql (.pointer (some a)) (.pointer none) k:=⟨.bool false,by simp[eX],h⟩
theorem aa.bB{k:Value→Prop}(h:k (.bool true)):aa .ptr .eql (.pointer none) (.pointer none) k:=⟨.bool true,by simp[eX],h⟩
theorem aa.wU{a:Addr}{k:Value→Prop}(h:k (.bool true)):aa .ptr .neq (.pointer (some a)) (.pointer none) k:=⟨.bool true,by simp[eX],h⟩
theorem aa.bC{a:Option Nat}{k:Value→Prop}(h:k (.bool a.isNone)):aa .map .eql (.map a) (.map none) k:=⟨.bool a.isNone,by simp[eX],h⟩
theorem aa.XA{a b:Bool}{k:Value→Prop}(h:k (.bool (!(a==b)))):aa .bool .neq (.bool a) (.bool b) k:=⟨_,by simp[eX],h⟩
theorem aM.P1(A B C:Hp):aM (A++(B++C)) (B++(A++C)):=.perm (by rw[←List.append_assoc,←List.append_assoc];exact List.perm_append_comm.append_right C)
def flat:List Hp→Hp
 | []=>[]
 | [a]=>a
 |a::b::r=>a++flat (b::r)
theorem qt:∀(l:List Hp),(flat l).Perm l.flatten
 | []=>.refl _
 | [a]=>by simp[flat]
 |a::b::r=>by
  simp only[flat,List.flatten_cons]
  exact List.Perm.append_left _ (by simpa using qt (b::r))
theorem aM.T9(S T:List Hp)(h:S.Perm T):aM (flat S) (flat T):=
 .perm ((qt S).trans (h.flatten.trans (qt T).symm))
def rows(l:List (List Value)):Array Value:=l.flatten.toArray
theorem qX{k:Nat}:∀(l:List (List Value)) (i j:Nat),(∀r∈l,r.length=k)→j<k→l.flatten[i*k+j]? =(l[i]?).bind (·[j]?)
 | [],i,j,_,_=>by simp
 |r::l,0,j,h,hj=>by
  have:=h r (by simp)
  simp[List.getElem?_append,this,hj]
 |r::l,i+1,j,h,hj=>by
  have hr:=h r (by simp)
  have ih:=qX l i j (fun x hx=>h x (by simp[hx])) hj
  rw[List.flatten_cons,List.getElem?_append_right (by rw[hr,Nat.succ_mul];omega),hr,show(i+1)*k+j-k=i*k+j by rw[Nat.succ_mul];omega,ih]
  simp
theorem cJ{k:Nat}:∀(l:List (List Value)),(∀r∈l,r.length=k)→l.flatten.length=l.length*k
 | [],_=>by simp
 |r::l,h=>by
  have hr:=h r (by simp)
  rw[List.flatten_cons,List.length_append,hr,cJ l (fun x hx=>h x (by simp[hx]))]
  simp[Nat.succ_mul];omega
theorem bF{k:Nat}{l:List (List Value)}(h:∀r∈l,r.length=k):(rows l).size=l.length*k:=by simp[rows,cJ l h]
theorem gp{k:Nat}{l:List (List Value)}(h:∀r∈l,r.length=k){i j:Nat}(hj:j<k):(rows l)[i*k+j]? =(l[i]?).bind (·[j]?):=by
 simp only[rows,List.getElem?_toArray];exact qX l i j h hj
theorem wS{k:Nat}{l:List (List Value)}(h:∀r∈l,r.length=k){i:Nat}{r:List Value}(hi:l[i]? =some r):(rows l).extract (i*k) (i*k+k)=r.toArray:=by
 have hr:=h r (List.mem_of_getElem? hi)
 have hlt:=(List.getElem?_eq_some_iff.1 hi).1
 apply Array.ext'
 apply List.ext_getElem?
 intro j
 by_cases hj:j<k
 ·have:=gp h (i:=i) hj
  rw[Array.getElem?_toList,Array.getElem?_extract]
  rw[if_pos (by rw[bF h];have:=Nat.mul_le_mul_right k (Nat.succ_le_of_lt hlt);rw[Nat.succ_mul]at this;omega),this,hi]
  simp
 ·rw[List.getElem?_eq_none (by simp;omega),List.getElem?_eq_none (by simp;omega)]
theorem oZ:∀(vs:List Value) (c:List Value) (off:Nat),off+vs.length≤c.length→iy c.toArray off vs=(c.take off++vs++c.drop (off+vs.length)).toArray
 | [],c,off,_=>by simp[iy]
 |v::r,c,off,h=>by
  simp only[List.length_cons]at h
  have hl:off<c.length:=by omega
  have:c.toArray.setIfInBounds off v=(c.set off v).toArray:=by simp
  rw[iy,this,oZ r (c.set off v) (off+1) (by simp only[List.length_set];omega)]
  congr 1
  have e1:(c.set off v).take (off+1)=c.take off++[v]:=by
   rw[List.set_eq_take_append_cons_drop,if_pos hl,List.take_append]
   simp[List.take_take,hl,Nat.min_eq_left (Nat.le_of_lt hl)]
  have e2:(c.set off v).drop (off+1+r.length)=c.drop (off+(v::r).length):=by
   rw[List.drop_set_of_lt (by omega)]
   simp only[List.length_cons]
   rw[show off+1+r.length=off+(r.length+1)by omega]
  rw[e1,e2];simp
theorem yD{k:Nat}{l:List (List Value)}(h:∀r∈l,r.length=k){i:Nat}(hi:i<l.length){r:List Value}(hr:r.length=k):iy (rows l) (i*k) r=rows (l.set i r):=by
 unfold rows
 have hlen:=cJ l h
 have hle:i*k+k≤l.length*k:=by have:=Nat.mul_le_mul_right k (Nat.succ_le_of_lt hi);rwa [Nat.succ_mul]at this
 rw[oZ r l.flatten (i*k) (by rw[hlen,hr];exact hle)]
 congr 1
 have e:l=l.take i++[l[i]]++l.drop (i+1):=by simp
 have hp:(l.take i).flatten.length=i*k:=by
  rw[cJ _ (fun x hx=>h x (List.mem_of_mem_take hx))];simp[Nat.min_eq_left (Nat.le_of_lt hi)]
 have hm:l[i].length=k:=h _ (List.getElem_mem hi)
 have e3:l.flatten=(l.take i).flatten++(l[i]++(l.drop (i+1)).flatten):=by
  rw[←List.flatten_cons,←List.flatten_append,←List.drop_eq_getElem_cons hi,List.take_append_drop]
 have e4:(l.set i r).flatten=(l.take i).flatten++(r++(l.drop (i+1)).flatten):=by
  rw[List.set_eq_take_append_cons_drop,if_pos hi];simp[List.flatten_append]
 rw[e4,e3,←hp,List.take_left,←List.drop_drop,List.drop_left,hr,←hm,List.drop_left]
 simp
end
end Go.Sx
namespace Go.Sx
open Go
section
variable {P:Program} {g:Gh}
theorem cD.bO{b:Nat}{o o':Obj}{C C':Hp}(h:cD b o o' C C')(A:Hp):cD b o o' (A++C) (A++C'):=by
 induction A with
 |nil=>exact h
 |cons x A ih=>exact .tail ih
def aO(T:TypeId)(k:Nat)(v:Value)(rs:List (List Value))(C:Hp):Prop:=
 (v=.slice none 0 0∧rs=[]∧C=[])∨
 ∃b aJ,v=.slice (some ⟨b,0,none⟩) rs.length (rs.length+aJ.length)∧C=[(b,.cells (rows (rs++aJ)) T (0,0))]∧(∀r∈rs++aJ,r.length=k)
theorem aO.nil(T:TypeId)(k:Nat):aO T k (.slice none 0 0) [] []:=.inl ⟨rfl,rfl,rfl⟩
theorem aO.len{T:TypeId}{k:Nat}{v:Value}{rs:List (List Value)}{C:Hp}(h:aO T k v rs C):∃a c,v=.slice a rs.length c:=by
 rcases h with⟨rfl,rfl,rfl⟩|⟨b,aJ,rfl,_⟩
 ·exact⟨_,_,rfl⟩
 ·exact⟨_,_,rfl⟩
theorem aO.bc{T:TypeId}{k:Nat}{v:Value}{rs:List (List Value)}{C:Hp}(h:aO T k v rs C){K:Value→Prop}(hk:K (.int .i64 rs.length)):aF v K:=by
 obtain⟨a,c,rfl⟩:=h.len;exact aF.mk hk
theorem oO{k:Nat}(z:List Value)(hz:z.length=k)(m:Nat):Builtin.zeroCells z.toArray m=rows (List.replicate m z):=by
 apply Array.ext'
 apply List.ext_getElem?
 intro j
 have aE:∀r∈List.replicate m z,r.length=k:=fun r hr=>by rw[List.eq_of_mem_replicate hr,hz]
 by_cases hj:j<m*k
 ·have hk:0<k:=Nat.pos_of_ne_zero fun e=>by simp[e]at hj
  have hd:j/k<m:=Nat.div_lt_of_lt_mul (by rw[Nat.mul_comm];exact hj)
  have hm:j%k<k:=Nat.mod_lt _ hk
  have he:j/k*k+j%k=j:=by rw[Nat.mul_comm];exact Nat.div_add_mod j k
  have:=gp aE (i:=j/k) hm
  rw[he]at this
  rw[Array.getElem?_toList,Array.getElem?_toList,this]
  simp only[Builtin.zeroCells,List.size_toArray,hz,List.getElem?_replicate,hd,if_true,Option.bind_some]
  rw[Array.getElem?_map,Array.getElem?_range]
  simp[hj,hz,hm]
 ·rw[List.getElem?_eq_none,List.getElem?_eq_none]
  ·simp only[Array.length_toList,bF aE,List.length_replicate];omega
  ·simp[Builtin.zeroCells,hz];omega
theorem dy(a b:List (List Value)):rows a++rows b=rows (a++b):=by simp[rows,List.flatten_append]
theorem aO.Ce{elem k bytes:Nat}{zero:Value}{v:Value}{rs:List (List Value)}{C A B:Hp}(h:aO elem k v rs C){xb:Nat}{r:List Value}{xT:TypeId}{fz:Nat×Nat}{xc:Nat}
 (hx:(xb,Obj.cells r.toArray xT fz)∈A++(C++B))(hr:r.length=k)(h1:∀u∈r,u.oneCell'=true)(hz:∃z:List Value,zero.cells=z.toArray∧z.length=k)
 (hb:(rs.length+1)*bytes≤140737488355328)(bH:rs.length+1≤9223372036854775807){K:Value→Hp→Prop}
 (hk:∀v' C',aO elem k v' (rs++[r]) C'→K v' (A++(C'++B))):App P elem k bytes zero (A++(C++B)) v (.slice (some ⟨xb,0,none⟩) 1 xc) K:=by
 have FZ:∀x∈[r],x.length=k:=fun x hx=>by simp at hx;rw[hx];exact hr
 obtain⟨z,Ux,OB⟩:=hz
 have hnews:Cells (A++(C++B)) (some ⟨xb,0,none⟩) (1*k) (rows [r]):=.inr ⟨rfl,_,_,_,hx,by simp[hr],by simp[rows];rw[←hr,List.take_length]⟩
 have hnone:∀u∈(rows [r]).toList,u.oneCell'=true:=by simpa[rows]using h1
 rcases h with⟨rfl,rfl,rfl⟩|⟨b,aJ,rfl,rfl,aE⟩
 ·refine⟨none,0,0,some ⟨xb,0,none⟩,1,xc,#[],rows [r],rfl,rfl,rfl,hnews,by rw[bF FZ];simp,by simp,hnone,fun h=>by omega,fun _=>⟨hb,by omega,fun fk hn b YK=>?_⟩⟩
  rw[show(#[]:Array Value)++rows [r]++Builtin.zeroCells zero.cells (fk-(0+1))=rows ([]++[r]++List.replicate (fk-1) z)by rw[Ux,oO z OB];simp only[Nat.zero_add,Array.empty_append,List.nil_append];rw[dy]]
  refine⟨_,aM.P1 [(b,_)] A B,hk _ [(b,_)] (.inr ⟨b,List.replicate (fk-1) z,?_,rfl,?_⟩)⟩
  ·simp;omega
  ·intro x hx
   rcases List.mem_append.1 hx with hx|hx
   ·exact FZ x hx
   ·rw[List.eq_of_mem_replicate hx,OB]
 ·have hsz:=bF aE
  have nM:∀x∈rs,x.length=k:=fun x hx=>aE x (by simp[hx])
  have hold:rows rs=(rows (rs++aJ)).extract 0 (0+rs.length*k):=by
   rw[←dy]
   apply Array.ext'
   have:=bF nM
   have h2:(rows rs).toList.length=rs.length*k:=by rw[Array.length_toList];exact this
   rw[Array.toList_extract,Array.toList_append,List.extract_eq_take_drop,List.drop_zero,Nat.zero_add,Nat.sub_zero,←h2,List.take_left]
  refine⟨some ⟨b,0,none⟩,rs.length,rs.length+aJ.length,some ⟨xb,0,none⟩,1,xc,rows rs,rows [r],rfl,rfl,.inr ⟨rfl,_,elem,(0,0),by simp,?_,hold⟩,hnews,by rw[bF FZ];simp,bF nM,hnone,fun hfit=>?_,fun hgrow=>⟨hb,by omega,fun fk hn b' YK=>?_⟩⟩
  ·rw[hsz];simp only[List.length_append,Nat.zero_add];exact Nat.mul_le_mul_right _ (by omega)
  ·obtain⟨j0,KG,rfl⟩:∃j0 KG,aJ=j0::KG:=by cases aJ with|nil=>exact absurd hfit (by simp only[List.length_nil];omega)|cons a b=>exact⟨a,b,rfl⟩
   refine⟨_,elem,_,rfl,?_,((cD.head _).append B).bO A,hk _ [(b,_)] (.inr ⟨b,KG,?_,?_,?_⟩)⟩
   ·rw[hsz];simp[Nat.succ_mul,Nat.add_mul]
   ·simp;omega
   ·have e:(rows [r]).toList=r:=by simp[rows]
    rw[e,show(⟨b,0,none⟩:Addr).off+rs.length*k=rs.length*k by simp,yD aE (by simp) hr]
    simp
   ·intro x hx
    simp only[List.append_assoc,List.cons_append,List.nil_append,List.mem_append,List.mem_cons]at hx
    rcases hx with hx|hx|hx
    ·exact nM x hx
    ·rw[hx];exact hr
    ·exact aE x (by simp[hx])
  ·refine⟨A++([(b',_)]++B),?_,hk _ [(b',_)] (.inr ⟨b',List.replicate (fk-(rs.length+1)) z,?_,rfl,?_⟩)⟩
   ·rw[Ux,oO z OB,dy,dy]
    exact fun g w h=>(aM.T9 [[_],A,[_],B] [[_],A,[_],B] ((List.perm_append_comm (l₁:=[_,A]) (l₂:=[_])).append_right [B]|>.trans (.cons _ (.swap _ _ _))) g w h).tail
   ·simp;omega
   ·intro x hx
    rcases List.mem_append.1 hx with hx|hx
    ·rcases List.mem_append.1 hx with hx|hx
     ·exact nM x hx
     ·exact FZ x hx
    ·rw[List.eq_of_mem_replicate hx,OB]
end
end Go.Sx
namespace Go.Sx
open Go
section
variable {P:Program} {g:Gh} {H:Hp}
theorem aO.pos{T:TypeId}{k:Nat}{v:Value}{rs:List (List Value)}{C:Hp}(h:aO T k v rs C)(hp:0<rs.length):
  ∃b aJ,v=.slice (some ⟨b,0,none⟩) rs.length (rs.length+aJ.length)∧C=[(b,.cells (rows (rs++aJ)) T (0,0))]∧(∀r∈rs++aJ,r.length=k):=by
 rcases h with⟨_,rfl,_⟩|h
 ·simp at hp
 ·exact h
theorem aO.mk{T:TypeId}{k b:Nat}{rs aJ:List (List Value)}(aE:∀r∈rs++aJ,r.length=k):aO T k (.slice (some ⟨b,0,none⟩) rs.length (rs.length+aJ.length)) rs [(b,.cells (rows (rs++aJ)) T (0,0))]:=
 .inr ⟨b,aJ,rfl,rfl,aE⟩
theorem aO.mk'{T:TypeId}{k b n c:Nat}{rs aJ:List (List Value)}(aE:∀r∈rs++aJ,r.length=k)(hn:n=rs.length)(hc:c=rs.length+aJ.length):aO T k (.slice (some ⟨b,0,none⟩) n c) rs [(b,.cells (rows (rs++aJ)) T (0,0))]:=by
 subst hn;subst hc;exact aO.mk aE
theorem av.row{b i k:Nat}{l:List (List Value)}{T:TypeId}{fz:Nat×Nat}{r:List Value}{K:Value→Prop}(hm:(b,Obj.cells (rows l) T fz)∈H)(aE:∀r∈l,r.length=k)(hi:l[i]? =some r)(h:K (.agg r.toArray)):
  av k H (.pointer (some ⟨b,0+i*k,none⟩)) K:=by
 have hlt:=(List.getElem?_eq_some_iff.1 hi).1
 refine av.mk hm ?_ ?_ h
 ·rw[bF aE,Nat.zero_add];have:=Nat.mul_le_mul_right k (Nat.succ_le_of_lt hlt);rwa [Nat.succ_mul]at this
 ·rw[Nat.zero_add];exact wS aE hi
theorem Ld.row{b i j k:Nat}{l:List (List Value)}{T:TypeId}{fz:Nat×Nat}{r:List Value}{v:Value}{K:Value→Prop}(hm:(b,Obj.cells (rows l) T fz)∈H)(aE:∀r∈l,r.length=k)(hi:l[i]? =some r)(hv:r[j]? =some v)(h:K v):
  Ld H (.pointer (some ⟨b,0+i*k+j,none⟩)) K:=by
 have hr:=aE r (List.mem_of_getElem? hi)
 have hj:j<k:=by rw[←hr];exact(List.getElem?_eq_some_iff.1 hv).1
 refine Ld.mk hm ?_ h
 rw[Nat.zero_add,gp aE hj,hi];exact hv
theorem Ld.Ub{b i:Nat}{l:List (List Value)}{T:TypeId}{fz:Nat×Nat}{v:Value}{K:Value→Prop}(hm:(b,Obj.cells (rows l) T fz)∈H)(aE:∀r∈l,r.length=1)(hi:l[i]? =some [v])(h:K v):
  Ld H (.pointer (some ⟨b,0+i*1,none⟩)) K:=by
 have:=Ld.row (j:=0) hm aE hi rfl h
 simpa using this
theorem St.row{b i k:Nat}{l:List (List Value)}{T:TypeId}{r:List Value}{H':Hp}{K:Hp→Prop}(hu:cD b (.cells (rows l) T (0,0)) (.cells (rows (l.set i r)) T (0,0)) H H')(aE:∀r∈l,r.length=k)(hi:i<l.length)
 (hr:r.length=k)(h1:∀v∈r,v.oneCell'=true)(h:K H'):St k H (.pointer (some ⟨b,0+i*k,none⟩)) (.agg r.toArray) K:=by
 refine St.mk hu (by simp[Value.cells,hr]) ?_ (by simpa[Value.cells]using h1) ?_ h
 ·rw[bF aE,Nat.zero_add];have:=Nat.mul_le_mul_right k (Nat.succ_le_of_lt hi);rwa [Nat.succ_mul]at this
 ·simp only[Value.cells,Nat.zero_add];exact yD aE hi hr
theorem nH{k:Nat}{l:List (List Value)}(h:∀r∈l,r.length=k){i j:Nat}{r:List Value}(hi:l[i]? =some r)(hj:j<k)(v:Value):(rows l).setIfInBounds (i*k+j) v=rows (l.set i (r.set j v)):=by
 have hr:=h r (List.mem_of_getElem? hi)
 have hlt:=(List.getElem?_eq_some_iff.1 hi).1
 have LJ:∀x∈l.set i (r.set j v),x.length=k:=fun x hx=>by
  rcases List.mem_or_eq_of_mem_set hx with hx|hx
  ·exact h x hx
  ·rw[hx,List.length_set];exact hr
 have hk:0<k:=by omega
 apply Array.ext'
 apply List.ext_getElem?
 intro m
 rw[Array.getElem?_toList,Array.getElem?_toList,Array.getElem?_setIfInBounds]
 have hm:m%k<k:=Nat.mod_lt _ hk
 have he:m/k*k+m%k=m:=by rw[Nat.mul_comm];exact Nat.div_add_mod m k
 have g1:=gp h (i:=m/k) hm
 have g2:=gp LJ (i:=m/k) hm
 rw[he]at g1 g2
 rw[g1,g2]
 by_cases e:i*k+j=m
 ·have e1:m/k=i:=by rw[←e,Nat.mul_comm,Nat.mul_add_div hk,Nat.div_eq_of_lt hj,Nat.add_zero]
  have e2:m%k=j:=by rw[←e,Nat.mul_comm,Nat.mul_add_mod,Nat.mod_eq_of_lt hj]
  rw[if_pos e,if_pos (by rw[bF h];have:=Nat.mul_le_mul_right k (Nat.succ_le_of_lt hlt);rw[Nat.succ_mul]at this;omega),e1,e2]
  simp[hlt,hr,hj]
 ·rw[if_neg e]
  by_cases e1:m/k=i
  ·have e2:j≠m%k:=fun e2=>e (by rw[e2,←e1];exact he)
   rw[e1,hi]
   simp[hlt,e2]
  ·rw[List.getElem?_set_ne (fun x=>e1 x.symm)]
theorem St.cell{b i j k:Nat}{l:List (List Value)}{T:TypeId}{r:List Value}{v:Value}{H':Hp}{K:Hp→Prop}(hu:cD b (.cells (rows l) T (0,0)) (.cells (rows (l.set i (r.set j v))) T (0,0)) H H')(aE:∀r∈l,r.length=k)
 (hi:l[i]? =some r)(hj:j<k)(h1:v.oneCell'=true)(h:K H'):St 1 H (.pointer (some ⟨b,0+i*k+j,none⟩)) v K:=by
 have hlt:=(List.getElem?_eq_some_iff.1 hi).1
 have hc:v.cells=#[v]:=by cases v<;>first|rfl|(simp[Value.oneCell']at h1)
 refine St.mk hu (by simp[hc]) ?_ (by simp[hc,h1]) ?_ h
 ·rw[bF aE,Nat.zero_add];have:=Nat.mul_le_mul_right k (Nat.succ_le_of_lt hlt);rw[Nat.succ_mul]at this;omega
 ·simp only[hc,Nat.zero_add,iy];exact nH aE hi hj v
theorem St.one{b off:Nat}{c c':Array Value}{T:TypeId}{v:Value}{H':Hp}{K:Hp→Prop}(hu:cD b (.cells c T (0,0)) (.cells c' T (0,0)) H H')(h1:v.oneCell'=true)(hs:off<c.size)(hc:c.setIfInBounds off v=c')(h:K H'):
  St 1 H (.pointer (some ⟨b,off,none⟩)) v K:=by
 have hv:v.cells=#[v]:=by cases v<;>first|rfl|(simp[Value.oneCell']at h1)
 exact St.mk hu (by simp[hv]) (by omega) (by simp[hv,h1]) (by simpa[hv,iy]using hc) h
theorem St.whole{b n:Nat}{c:Array Value}{T:TypeId}{r:List Value}{H':Hp}{K:Hp→Prop}(hu:cD b (.cells c T (0,0)) (.cells r.toArray T (0,0)) H H')(hs:c.size=n)(hr:r.length=n)(h1:∀v∈r,v.oneCell'=true)(h:K H'):
  St n H (.pointer (some ⟨b,0,none⟩)) (.agg r.toArray) K:=by
 refine St.mk hu (by simp[Value.cells,hr]) (by omega) (by simpa[Value.cells]using h1) ?_ h
 have:=oZ r c.toList 0 (by simp;omega)
 rw[Array.toArray_toList]at this
 simp only[Value.cells]
 rw[this]
 simp[List.drop_eq_nil_of_le,hr,hs]
theorem av.whole{b n:Nat}{r:List Value}{T:TypeId}{fz:Nat×Nat}{K:Value→Prop}(hm:(b,Obj.cells r.toArray T fz)∈H)(hr:r.length=n)(h:K (.agg r.toArray)):av n H (.pointer (some ⟨b,0,none⟩)) K:=
 av.mk hm (by simp[hr]) (by simp;rw[←hr,List.take_length]) h
theorem fO{α β:Type}(f:α→β):∀(l:List α) (i:Nat),(l.map f).eraseIdx i=(l.eraseIdx i).map f
 | [],_=>rfl
 |x::l,0=>rfl
 |x::l,i+1=>by simp[fO f l i]
def e7{β:Type}(kd:IntKind)(enc:β→Value)(m:List (Int×β×Nat)):Array MapEntry:=(m.map fun x=>({key:=.int kd x.1,val:=enc x.2.1,born:=x.2.2}:MapEntry)).toArray
def fK{β:Type}(m:List (Int×β×Nat))(x:Int):Option β:=(m.find? (fun y=>x==y.1)).map (·.2.1)
def jh{β:Type}(kd:IntKind)(enc:β→Value)(v:Value)(f:Int→Option β)(C:Hp):Prop:=
 (v=.map none∧C=[]∧f=fun _=>none)∨
 ∃b m ck,v=.map (some b)∧C=[(b,.map (e7 kd enc m) ck)]∧(m.map Prod.fst).Nodup∧f=fK m
theorem gZ{β:Type}(kd:IntKind)(enc:β→Value)(x:Int):∀(m:List (Int×β×Nat)) (i:Nat),
  ∃r,Instr.findNow (.int kd) (.int kd x) (e7 kd enc m).toList i=some r∧
   (match r with
    |none=>fK m x=none∧x∉m.map Prod.fst
    |some (j,v)=>i≤j∧∃p n,m[j-i]? =some (x,p,n)∧v=enc p∧fK m x=some p)
 | [],i=>⟨none,by simp[e7,Instr.findNow],by simp[fK]⟩
 |(y,p,n)::m,i=>by
  simp only[e7,List.map_cons,Instr.findNow,Instr.sameNow,if_true]
  by_cases e:x=y
  ·subst e
   refine⟨some (i,enc p),by simp[Instr.findNow,Instr.sameNow],Nat.le_refl _,p,n,by simp,rfl,by simp[fK]⟩
  ·obtain⟨r,hr,hp⟩:=gZ kd enc x m (i+1)
   have hb:(x==y)=false:=by simpa using e
   refine⟨r,?_,?_⟩
   ·simp only[e7]at hr
    simp[Instr.findNow,Instr.sameNow,hb,hr]
   ·cases r with
    |none=>
     simp only[fK,List.find?_cons,hb]at hp⊢
     exact⟨hp.1,by simpa[e]using hp.2⟩
    |some jv=>
     obtain⟨j,v⟩:=jv
     simp only[fK,List.find?_cons,hb]at hp⊢
     obtain⟨hij,p',n',h1,h2,h3⟩:=hp
     refine⟨by omega,p',n',?_,h2,h3⟩
     rw[show j-i=(j-(i+1))+1 by omega];simpa using h1
theorem jh.look{β:Type}{kd:IntKind}{enc:β→Value}{v zero:Value}{f:Int→Option β}{C:Hp}{ok:Bool}{x:Int}{K:Value→Prop}(h:jh kd enc v f C)(hC:∀y∈C,y∈H)
 (hk:K (match f x with|some p=>cond ok (.tuple #[enc p,.bool true]) (enc p)|none=>cond ok (.tuple #[zero,.bool false]) zero)):mK (.int kd) zero ok H v (.int kd x) K:=by
 rcases h with⟨rfl,rfl,rfl⟩|⟨b,m,ck,rfl,rfl,_,rfl⟩
 ·exact⟨#[],none,.inl ⟨rfl,rfl⟩,rfl,hk⟩
 ·obtain⟨r,hr,hp⟩:=gZ kd enc x m 0
  refine⟨_,r,.inr ⟨b,ck,rfl,hC _ (by simp)⟩,hr,?_⟩
  cases r with
  |none=>simp only[hp.1]at hk;exact hk
  |some jv=>
   obtain⟨j,u⟩:=jv
   obtain⟨_,p,n,_,rfl,h3⟩:=hp
   simp only[h3]at hk;exact hk
def Ja{β:Type}(f:Int→Option β)(x:Int)(p:Option β):Int→Option β:=fun y=>if y=x then p else f y
theorem jh.made{β:Type}{kd:IntKind}{enc:β→Value}(b:Nat):jh kd enc (.map (some b)) (fun _=>none) [(b,.map #[] 0)]:=
 .inr ⟨b,[],0,rfl,rfl,by simp,by funext x;simp[fK]⟩
theorem Bk{β:Type}(m:List (Int×β×Nat))(x:Int)(p:β)(n:Nat)(hx:x∉m.map Prod.fst):fK (m++[(x,p,n)])=Ja (fK m) x (some p):=by
 funext y
 simp only[fK,Ja,List.find?_append]
 by_cases e:y=x
 ·subst e
  have:m.find? (fun z=>y==z.1)=none:=by
   rw[List.find?_eq_none];intro z hz;simp only[beq_iff_eq];intro e;exact hx (e▸List.mem_map_of_mem hz)
  simp[this]
 ·have e':(y==x)=false:=by simpa using e
  rw[if_neg e]
  cases h:m.find? (fun z=>y==z.1)<;>simp[e']
theorem vp{β:Type}:∀(m:List (Int×β×Nat)) (j:Nat) (x:Int) (p q:β) (n:Nat),(m.map Prod.fst).Nodup→m[j]? =some (x,q,n)→fK (m.set j (x,p,n))=Ja (fK m) x (some p)
 | [],j,_,_,_,_,_,h=>by simp at h
 |y::m,0,x,p,q,n,nd,h=>by
  simp at h;subst h
  funext z
  simp only[List.set_cons_zero,fK,Ja,List.find?_cons]
  by_cases e:z=x
  ·subst e;simp
  ·have e':(z==x)=false:=by simpa using e
   rw[if_neg e];simp[e']
 |y::m,j+1,x,p,q,n,nd,h=>by
  simp at h
  simp only[List.map_cons,List.nodup_cons]at nd
  have ih:=vp m j x p q n nd.2 h
  have hne:x≠y.1:=fun e=>nd.1 (e▸List.mem_map_of_mem (f:=Prod.fst) (List.mem_of_getElem? h))
  funext z
  have Uw:=congrFun ih z
  simp only[List.set_cons_succ,fK,Ja,List.find?_cons]at Uw⊢
  by_cases e:z=y.1
  ·have:z≠x:=fun e2=>hne (e2▸e)
   simp[e,Ne.symm hne]
  ·have e':(z==y.1)=false:=by simpa using e
   simp only[e'];exact Uw
theorem qM{β:Type}:∀(m:List (Int×β×Nat)) (j:Nat) (x:Int) (q:β) (n:Nat),(m.map Prod.fst).Nodup→m[j]? =some (x,q,n)→fK (m.eraseIdx j)=Ja (fK m) x none
 | [],j,_,_,_,_,h=>by simp at h
 |y::m,0,x,q,n,nd,h=>by
  simp at h;subst h
  simp only[List.map_cons,List.nodup_cons]at nd
  funext z
  simp only[List.eraseIdx_cons_zero,fK,Ja,List.find?_cons]
  by_cases e:z=x
  ·subst e
   have:m.find? (fun w=>z==w.1)=none:=by
    rw[List.find?_eq_none];intro w hw;simp only[beq_iff_eq];intro e;exact nd.1 (e▸List.mem_map_of_mem hw)
   simp[this]
  ·have e':(z==x)=false:=by simpa using e
   rw[if_neg e];simp[e']
 |y::m,j+1,x,q,n,nd,h=>by
  simp at h
  simp only[List.map_cons,List.nodup_cons]at nd
  have ih:=qM m j x q n nd.2 h
  have hne:x≠y.1:=fun e=>nd.1 (e▸List.mem_map_of_mem (f:=Prod.fst) (List.mem_of_getElem? h))
  funext z
  have Uw:=congrFun ih z
  simp only[List.eraseIdx_cons_succ,fK,Ja,List.find?_cons]at Uw⊢
  by_cases e:z=y.1
  ·simp[e,Ne.symm hne]
  ·have e':(z==y.1)=false:=by simpa using e
   simp only[e'];exact Uw
theorem jh.bS{β:Type}{kd:IntKind}{enc:β→Value}{b:Nat}{f:Int→Option β}{C:Hp}{x:Int}{p:β}{A B:Hp}{K:Hp→Prop}(h:jh kd enc (.map (some b)) f C)
 (hk:∀C',jh kd enc (.map (some b)) (Ja f x (some p)) C'→K (A++(C'++B))):ei (.int kd) (A++(C++B)) (.map (some b)) (.int kd x) (enc p) K:=by
 rcases h with⟨h,_,_⟩|⟨b',m,ck,hb,rfl,nd,rfl⟩
 ·simp at h
 ·simp only[Value.map.injEq,Option.some.injEq]at hb;subst hb
  obtain⟨r,hr,hp⟩:=gZ kd enc x m 0
  refine⟨b,e7 kd enc m,ck,r,rfl,hr,?_⟩
  cases r with
  |none=>
   refine⟨_,((cD.head _).append B).bO A,hk [(b,_)] (.inr ⟨b,m++[(x,p,ck)],ck+1,rfl,?_,?_,?_⟩)⟩
   ·simp[e7]
   ·rw[List.map_append,List.nodup_append];exact⟨nd,by simp,fun a ha c hc=>by simp at hc;subst hc;intro e;subst e;exact hp.2 ha⟩
   ·exact(Bk m x p ck hp.2).symm
  |some jv=>
   obtain⟨j,u⟩:=jv
   obtain⟨_,q,n,h1,rfl,h3⟩:=hp
   rw[Nat.sub_zero]at h1
   have hlt:=(List.getElem?_eq_some_iff.1 h1).1
   refine⟨fun e he=>?_,by simpa[e7]using hlt,_,((cD.head _).append B).bO A,hk [(b,_)] (.inr ⟨b,m.set j (x,p,n),ck,rfl,?_,?_,?_⟩)⟩
   ·have:e={key:=.int kd x,val:=enc q,born:=n}:=by
     simp only[e7,List.getElem?_toArray,List.getElem?_map,h1]at he;simpa using he.symm
    subst this
    simp[Instr.sameBits]
   ·congr 3
    apply Array.ext'
    apply List.ext_getElem?
    intro i
    simp only[e7,Array.getElem?_toList,Array.getElem?_modify,List.getElem?_toArray,List.getElem?_map,List.getElem?_set]
    by_cases e:j=i
    ·subst e
     have hj:m[j]=(x,q,n):=by have:=List.getElem?_eq_getElem hlt;rw[h1]at this;simpa using this.symm
     simp[hlt,hj]
    ·simp[e]
   ·rw[List.map_set]
    have hx:(m.map Prod.fst)[j]? =some x:=by rw[List.getElem?_map,h1];rfl
    rw[show(m.map Prod.fst).set j x=m.map Prod.fst by
     apply List.ext_getElem?;intro i;rw[List.getElem?_set];by_cases e:j=i
     ·subst e;rw[hx];simp[hlt]
     ·simp[e]]
    exact nd
   ·exact(vp m j x p q n nd h1).symm
theorem jh.del{β:Type}{kd:IntKind}{enc:β→Value}{v:Value}{f:Int→Option β}{C:Hp}{x:Int}{A B:Hp}{K:Hp→Prop}(h:jh kd enc v f C)
 (hk:∀C',jh kd enc v (Ja f x none) C'→K (A++(C'++B))):oF (.int kd) (A++(C++B)) v (.int kd x) K:=by
 rcases h with⟨rfl,rfl,rfl⟩|⟨b,m,ck,rfl,rfl,nd,rfl⟩
 ·refine .inl ⟨rfl,hk [] (.inl ⟨rfl,rfl,?_⟩)⟩
  funext y;simp[Ja]
 ·obtain⟨r,hr,hp⟩:=gZ kd enc x m 0
  refine .inr ⟨b,e7 kd enc m,ck,r,rfl,hr,?_⟩
  cases r with
  |none=>
   refine⟨by simp,hk [(b,_)] (.inr ⟨b,m,ck,rfl,rfl,nd,?_⟩)⟩
   funext y;simp only[Ja];split
   ·rename_i e;subst e;exact hp.1.symm
   ·rfl
  |some jv=>
   obtain⟨j,u⟩:=jv
   obtain⟨_,q,n,h1,rfl,h3⟩:=hp
   rw[Nat.sub_zero]at h1
   have hlt:=(List.getElem?_eq_some_iff.1 h1).1
   refine⟨_,((cD.head _).append B).bO A,hk [(b,_)] (.inr ⟨b,m.eraseIdx j,ck,rfl,?_,?_,?_⟩)⟩
   ·congr 3
    apply Array.ext'
    simp[e7,Array.eraseIdxIfInBounds,hlt,fO]
   ·rw[←fO];exact nd.sublist (List.eraseIdx_sublist _ _)
   ·exact(qM m j x q n nd h1).symm
end
end Go.Sx
namespace Go.Sx
open Go
section
variable {P:Program} {g:Gh} {H:Hp}
theorem tp(off:Nat):∀(r:List Value) (i:Nat) (c:Array Value),(r.zipIdx i).foldl (fun cs (x:Value×Nat)=>cs.setIfInBounds (off+x.2) x.1) c=iy c (off+i) r
 | [],i,c=>rfl
 |v::r,i,c=>by
  rw[List.zipIdx_cons,List.foldl_cons,tp off r (i+1)]
  rfl
theorem HU(off:Nat)(a c:Array Value):a.zipIdx.foldl (fun cs (x:Value×Nat)=>cs.setIfInBounds (off+x.2) x.1) c=iy c off a.toList:=by
 rw[←Array.foldl_toList]
 have:a.zipIdx.toList=a.toList.zipIdx 0:=by simp
 rw[this,tp off a.toList 0 c];rfl
def yK:List Value→Nat→List Value→List Value
 |c,_,[]=>c
 |c,off,v::r=>yK (c.set off v) (off+1) r
theorem oq:∀(r c:List Value) (off:Nat),iy c.toArray off r=(yK c off r).toArray
 | [],c,off=>rfl
 |v::r,c,off=>by
  have:c.toArray.setIfInBounds off v=(c.set off v).toArray:=by simp
  rw[iy,yK,this,oq r]
def vW(place:Nat→Option (Nat×Nat)):List Value→List (Nat×Value)→Option (List Value)
 |c,[]=>some c
 |c,(i,v)::r=>
  match place i with
  |none=>none
  |some (off,size)=>cond (Nat.beq v.cells.toList.length size&&Nat.ble (off+v.cells.toList.length) c.length) (vW place (yK c off v.cells.toList) r) none
theorem oB{place:Nat→Option (Nat×Nat)}:∀(r:List (Nat×Value)) (c cs:List Value),vW place c r=some cs→Instr.fill place c.toArray r=some cs.toArray
 | [],c,cs,h=>by simp only[vW,Option.some.injEq]at h;subst h;rfl
 |(i,v)::r,c,cs,h=>by
  simp only[vW]at h
  simp only[Instr.fill]
  split at h
  ·simp at h
  ·rename_i off size hp
   cases hc:(Nat.beq v.cells.toList.length size&&Nat.ble (off+v.cells.toList.length) c.length)<;>simp only[hc,cond_true,cond_false,reduceCtorEq]at h
   simp only[Bool.and_eq_true]at hc
   have h1:=Nat.eq_of_beq_eq_true hc.1
   have h2:=Nat.le_of_ble_eq_true hc.2
   have h3:v.cells.toList.length=v.cells.size:=Array.length_toList
   have hsz:v.cells.size=size:=by rw[←h3];exact h1
   have hle:off+v.cells.size≤c.length:=by rw[←h3];exact h2
   simp only[hp]
   have LA:(decide (v.cells.size≠size)||decide (off+v.cells.size>c.toArray.size))=false:=by
    rw[Bool.or_eq_false_iff];exact⟨by simp[hsz],by simp only[List.size_toArray,decide_eq_false_iff_not];omega⟩
   rw[LA]
   simp only[Bool.false_eq_true,if_false]
   rw[HU,oq]
   exact oB r _ cs h
def oX(P:Program):List Field→Option (List (Nat×Nat))
 | []=>some []
 |f::r=>match cU P f.type,oX P r with
  |some n,some l=>some ((f.offset,n)::l)
  |_,_=>none
def Mr(P:Program)(t:TypeId)(parts:List (Nat×Value)):Option (List Value):=
 match P.underlying t,dR P t with
 |some (.struct fs),some z=>match oX P fs.toList with
  |some pl=>vW (fun i=>pl[i]?) z.cells.toList parts
  |none=>none
 |_,_=>none
theorem qK:∀(fs:List Field) (pl:List (Nat×Nat)),oX P fs=some pl→∀w,(fs.mapM fun f=>(do pure (f.offset,←sizeOf f.type):Sem (Nat×Nat))).run P w=.ok pl w
 | [],pl,h,w=>by simp only[oX,Option.some.injEq]at h;subst h;rfl
 |f::r,pl,h,w=>by
  simp only[oX]at h
  split at h
  ·rename_i n l hn hl
   simp only[Option.some.injEq]at h;subst h
   obtain⟨i,hi,hin⟩:=bg hn
   have ih:=qK r l hl w
   simp only[List.mapM_cons,Sem.run_bind,run_sizeOf hi,Result.andThen_ok,Sem.run_pure,hin,ih]
  ·simp at h
theorem Build.mk{t:TypeId}{parts:List (Nat×Value)}{cs:List Value}{k:Value→Prop}(hb:Mr P t parts=some cs)(h:k (.agg cs.toArray)):Build P t parts k:=by
 refine⟨_,fun w=>?_,h⟩
 unfold Mr at hb
 split at hb
 ·rename_i fs z hu hz
  split at hb
  ·rename_i pl qP
   obtain⟨i,hi,uI⟩:=cc hz
   have hf:=oB _ _ _ hb
   have hp:=qK fs.toList pl qP w
   simp only[Instr.build,Sem.run_bind,dj hi uI,Result.andThen_ok,run_underlying hu]
   have e2:((fs.mapM fun f=>(do pure (f.offset,←sizeOf f.type):Sem (Nat×Nat))).run P w)=.ok pl.toArray w:=by
    rw[Array.mapM_eq_mapM_toList]
    simp only[Sem.run_map,hp,Result.andThen_ok]
   rw[e2]
   show Sem.run P _ w=_
   have e3:Instr.fill (fun x=>pl.toArray[x]?) z.cells parts=some cs.toArray:=by
    simpa using hf
   simp only[e3]
   rfl
  ·simp at hb
 ·simp at hb
theorem aq.one{t e k:Nat}{z:Value}{r:List Value}{K:Value→Hp→Prop}(h1:P.underlying t=some (.slice e))(h2:cU P e=some k)(h3:dR P e=some z)(hk:0<k∧k≤16777216)(hr:r.length=k)
 (h:∀b,K (.slice (some ⟨b,0,none⟩) 1 1) ((b,.cells r.toArray e (0,0))::H)):aq P t 1 [(0,.agg r.toArray)] H K:=by
 refine⟨r.toArray,e,k,z,h1,h2,h3,by omega,?_,fun b _=>h b⟩
 have:((Array.range (1*k)).map (z.cells[· %z.cells.size]!))=(((Array.range (1*k)).map (z.cells[· %z.cells.size]!)).toList).toArray:=by rw[Array.toArray_toList]
 rw[this]
 generalize hc:((Array.range (1*k)).map (z.cells[· %z.cells.size]!)).toList=c
 have hlen:c.length=k:=by rw[←hc];simp
 refine oB _ _ _ ?_
 simp only[vW,Value.cells]
 have hb:(Nat.beq r.toArray.toList.length k&&Nat.ble (0*k+r.toArray.toList.length) c.length)=true:=by simp[hr,hlen]
 rw[hb]
 simp only[cond_true,Option.some.injEq]
 have:=oZ r c 0 (by omega)
 rw[oq]at this
 have h5:yK c 0 r=List.take 0 c++r++List.drop (0+r.length) c:=by simpa using congrArg Array.toList this
 simp only[Nat.zero_mul]
 rw[h5]
 simp[List.drop_eq_nil_of_le,hr,hlen]
end
end Go.Sx
namespace Go.Sx
open Go
section
variable {P:Program} {g:Gh} {H:Hp}
theorem jh.Hu{β:Type}{kd:IntKind}{enc:β→Value}{v zero:Value}{f:Int→Option β}{C:Hp}{ok:Bool}{x:Int}{K:Value→Prop}{p:β}(h:jh kd enc v f C)(hC:∀y∈C,y∈H)(hf:f x=some p)
 (hk:K (cond ok (.tuple #[enc p,.bool true]) (enc p))):mK (.int kd) zero ok H v (.int kd x) K:=h.look hC (by rw[hf];exact hk)
theorem jh.Hv{β:Type}{kd:IntKind}{enc:β→Value}{v zero:Value}{f:Int→Option β}{C:Hp}{ok:Bool}{x:Int}{K:Value→Prop}(h:jh kd enc v f C)(hC:∀y∈C,y∈H)(hf:f x=none)
 (hk:K (cond ok (.tuple #[zero,.bool false]) zero)):mK (.int kd) zero ok H v (.int kd x) K:=h.look hC (by rw[hf];exact hk)
theorem ef.upto{size n c h:Nat}{a:Option Addr}{kd:IntKind}{k:Value→Prop}(hh:h≤c)(hk:k (.slice a h c)):ef size (.slice a n c) none (some (.int kd (h:Int))) k:=by
 refine⟨a,n,c,0,h,rfl,rfl,rfl,by omega,by omega,by omega,?_⟩
 have:(if c=(0:Int).toNat then a else a.map (·.add ((0:Int).toNat*size)))=a:=by
  split
  ·rfl
  ·simp only[Int.toNat_zero,Nat.zero_mul]
   cases a with
   |none=>rfl
   |some x=>simp[Addr.add_zero']
 rw[this]
 simpa using hk
end
end Go.Sx
namespace Go.Sx
open Go
section
variable {P:Program} {g:Gh} {H:Hp}
inductive aZ(C:Hp):Hp→(Hp→Hp)→Prop
 |here:aZ C C (fun X=>X)
 |left {A:Hp}:aZ C (C++A) (fun X=>X++A)
 |cons {x:Nat×Obj} {H:Hp} {c:Hp→Hp} (h:aZ C H c):aZ C (x::H) (fun X=>x::c X)
 |app {A H:Hp} {c:Hp→Hp} (h:aZ C H c):aZ C (A++H) (fun X=>A++c X)
theorem aZ.spec{C H:Hp}{c:Hp→Hp}(h:aZ C H c):H=c C∧∃F,∀X,(c X).Perm (X++F):=by
 induction h with
 |here=>exact⟨rfl,[],fun X=>by simp⟩
 | @left A=>exact⟨rfl,A,fun X=>.refl _⟩
 | @cons x H c h ih=>
  obtain⟨h1,F,h2⟩:=ih
  exact⟨by rw[h1],x::F,fun X=>(List.Perm.cons x (h2 X)).trans List.perm_middle.symm⟩
 | @app A H c h ih=>
  obtain⟨h1,F,h2⟩:=ih
  refine⟨by rw[h1],A++F,fun X=>(List.Perm.append_left A (h2 X)).trans ?_⟩
  rw[←List.append_assoc,←List.append_assoc];exact List.perm_append_comm.append_right F
theorem aZ.ie{C H:Hp}{c:Hp→Hp}(h:aZ C H c){X Y:Hp}(e:aM X Y):aM (c X) (c Y):=by
 obtain⟨_,F,hp⟩:=h.spec
 exact(aM.perm (hp X)).trans ((e.frame F).trans (.perm (hp Y).symm))
theorem aM.cons{x:Nat×Obj}{A B:Hp}(h:aM A B):aM (x::A) (x::B):=aM.cQ h [x]
theorem aM.skip{x:Nat×Obj}{A B:Hp}(h:aM A B):aM (x::A) B:=aM.tail.trans h
theorem aM.eG{X A B:Hp}(h:aM A B):aM (X++A) B:=aM.right.trans h
theorem aM.assoc{A B C:Hp}:aM ((A++B)++C) (A++(B++C)):=fun _ _ h=>by rw[←List.append_assoc];exact h
theorem bW.frame{f:FuncId}{args:Array Value}{C F:Hp}{R:Ending→Hp→Prop}(h:∀g,bW P g f args C R):bW P g f args (C++F) (fun e H'=>∃C',H'=C'++F∧R e C'):=by
 intro w hw
 exact((h (g.add F)) w (Own.eL.1 hw)).mono fun e w' ⟨H',ho,hr⟩=>⟨_,Own.eL.2 ho,H',rfl,hr⟩
theorem bW.hole{f:FuncId}{args:Array Value}{C H:Hp}{c:Hp→Hp}{R:Ending→Hp→Prop}(hh:aZ C H c)(h:∀g,bW P g f args C R):bW P g f args H (fun e H'=>∃C',H'=c C'∧R e C'):=by
 obtain⟨rfl,F,hp⟩:=hh.spec
 exact((bW.frame (F:=F) h).pre (.perm (hp C))).post fun e H' ⟨C',h1,h2⟩=>⟨c C',by rw[h1];exact .perm (hp C').symm,C',rfl,h2⟩
def Fc(P:Program)(f:FuncId)(args:Array Value)(C:Hp)(Q:Value→Hp→Prop):Prop:=
 ∀g,bW P g f args C (fun e H'=>∃v kZ,e=.returned v∧aM H' kZ∧Q v kZ)
def aS(Q:Value→Hp→Prop):Ending→Hp→Prop:=fun e H'=>∃v kZ,e=.returned v∧aM H' kZ∧Q v kZ
theorem aS.mk{Q:Value→Hp→Prop}{v:Value}{H kZ:Hp}(he:aM H kZ)(h:Q v kZ):aS Q (.returned v) H:=⟨v,kZ,rfl,he,h⟩
theorem aS.here{Q:Value→Hp→Prop}{v:Value}{H:Hp}(h:Q v H):aS Q (.returned v) H:=⟨v,H,rfl,.refl _,h⟩
theorem Fc.mono{f:FuncId}{args:Array Value}{C:Hp}{Q Q':Value→Hp→Prop}(h:Fc P f args C Q)(hq:∀v H,Q v H→Q' v H):Fc P f args C Q':=
 fun g=>(h g).mono fun e H' ⟨v,kZ,h1,h2,h3⟩=>⟨v,kZ,h1,h2,hq _ _ h3⟩
def Rd(P:Program)(f:FuncId)(args:Array Value)(B:Hp)(Q:Value→Prop):Prop:=Fc P f args B (fun v H=>H=B∧Q v)
theorem ae.fn{f:FuncId}{args:Array Value}{C H:Hp}{c:Hp→Hp}{Q:Value→Hp→Prop}{K:Value→Hp→Prop}{KP:List PanicEntry→Hp→Prop}(hh:aZ C H c)(hc:Fc P f args C Q)
 (hk:∀v C',Q v C'→K v (c C')):ae P g f args H K KP:=
 (bW.hole hh hc).post fun e H' ⟨C',h1,v,C'',h2,h3,h4⟩=>⟨c C'',by rw[h1];exact hh.ie h3,by subst h2;exact hk _ _ h4⟩
theorem ae.rd{f:FuncId}{args:Array Value}{B H:Hp}{c:Hp→Hp}{Q:Value→Prop}{K:Value→Hp→Prop}{KP:List PanicEntry→Hp→Prop}(hh:aZ B H c)(hc:Rd P f args B Q)
 (hk:∀v,Q v→K v H):ae P g f args H K KP:=
 ae.fn hh hc fun v C' ⟨h1,h2⟩=>by subst h1;rw[←hh.spec.1];exact hk v h2
theorem bI.of{fv:Value}{args:Array Value}{K:Value→Hp→Prop}{KP:List PanicEntry→Hp→Prop}{f:FuncId}{first captured:Array Value}(hf:fv=.func (.func f) first captured)(hc:bu P f=true)
 (h:ae P g f (first++args++captured) H K KP):bI P g fv args H K KP:=⟨f,first,captured,hf,hc,h⟩
theorem DR.self{body:Hp→Prop}(h:body H):DR H body:=⟨H,.refl _,h⟩
theorem DR.of{R:Hp}{body:Hp→Prop}(e:aM H R)(h:body R):DR H body:=⟨R,e,h⟩
def At(B:Hp)(p:Value)(r:List Value):Prop:=∃b o c T fz,p=.pointer (some ⟨b,o,none⟩)∧(b,Obj.cells c T fz)∈B∧∀j v,r[j]? =some v→c[o+j]? =some v
theorem At.block{b:Nat}{l:List Value}{T:TypeId}{fz:Nat×Nat}{B:Hp}(h:(b,Obj.cells l.toArray T fz)∈B):At B (.pointer (some ⟨b,0,none⟩)) l:=
 ⟨b,0,_,T,fz,rfl,h,fun j v hj=>by simpa using hj⟩
theorem Ld.at{p v:Value}{r:List Value}{B:Hp}{k:Value→Prop}(h:At B p (v::r))(hs:∀x∈B,x∈H)(hk:k v):Ld H p k:=by
 obtain⟨b,o,c,T,fz,h1,h2,h3⟩:=h
 exact⟨b,o,c,T,fz,v,h1,hs _ h2,by simpa using h3 0 v rfl,hk⟩
theorem ag.at{p:Value}{r:List Value}{B:Hp}{j:Nat}{k:Value→Prop}(h:At B p r)(hk:∀q,At B q (r.drop j)→k q):ag j p k:=by
 obtain⟨b,o,c,T,fz,h1,h2,h3⟩:=h
 refine⟨b,o,h1,hk _ ⟨b,o+j,c,T,fz,rfl,h2,fun i v hi=>?_⟩⟩
 rw[List.getElem?_drop]at hi
 rw[Nat.add_assoc];exact h3 _ _ hi
theorem av.at{p:Value}{r:List Value}{B:Hp}{n:Nat}{k:Value→Prop}(h:At B p r)(hn:r.length=n)(hp:0<n)(hs:∀x∈B,x∈H)(hk:k (.agg r.toArray)):av n H p k:=by
 obtain⟨b,o,c,T,fz,h1,h2,h3⟩:=h
 have hsz:o+n≤c.size:=by
  have:=h3 (n-1) (r[n-1]'(by omega)) (List.getElem?_eq_getElem _)
  have:=(Array.getElem?_eq_some_iff.1 this).1
  omega
 refine⟨b,o,c,T,fz,h1,hs _ h2,hsz,?_⟩
 have:c.extract o (o+n)=r.toArray:=by
  apply Array.ext
  ·simp;omega
  ·intro i Ty BG
   simp only[List.size_toArray]at BG
   have:=h3 i r[i] (List.getElem?_eq_getElem _)
   rw[Array.getElem_extract]
   have:=(Array.getElem?_eq_some_iff.1 this).2
   simpa using this
 rw[this];exact hk
def Sl(k:Nat)(B:Hp)(v:Value)(rs:List (List Value)):Prop:=
 (∀r∈rs,r.length=k)∧
 ((∃a cap,v=.slice a 0 cap∧rs=[])∨∃b o cap c T fz,v=.slice (some ⟨b,o,none⟩) rs.length cap∧rs.length≤cap∧(b,Obj.cells c T fz)∈B∧o+rs.length*k≤c.size∧∀i r,rs[i]? =some r→∀j v,r[j]? =some v→c[o+i*k+j]? =some v)
theorem Sl.mono{k:Nat}{B B':Hp}{v:Value}{rs:List (List Value)}(h:Sl k B v rs)(hs:∀x∈B,x∈B'):Sl k B' v rs:=by
 obtain⟨h0,h⟩:=h
 refine⟨h0,?_⟩
 rcases h with h|⟨b,o,cap,c,T,fz,h1,h2,h3,h4⟩
 ·exact .inl h
 ·exact .inr ⟨b,o,cap,c,T,fz,h1,h2,hs _ h3,h4⟩
theorem Sl.nil(k:Nat)(B:Hp):Sl k B (.slice none 0 0) []:=⟨by simp,.inl ⟨_,_,rfl,rfl⟩⟩
theorem Sl.shape{k:Nat}{B:Hp}{v:Value}{rs:List (List Value)}(h:Sl k B v rs):∃a cap,v=.slice a rs.length cap∧rs.length≤cap:=by
 rcases h.2 with⟨a,cap,rfl,rfl⟩|⟨b,o,cap,c,T,fz,h1,h2,_⟩
 ·exact⟨_,_,rfl,Nat.zero_le _⟩
 ·exact⟨_,_,h1,h2⟩
theorem Sl.bc{k:Nat}{B:Hp}{v:Value}{rs:List (List Value)}(h:Sl k B v rs){K:Value→Prop}(hk:K (.int .i64 rs.length)):aF v K:=by
 obtain⟨a,c,rfl,_⟩:=h.shape;exact aF.mk hk
theorem an.sl{k:Nat}{B:Hp}{v:Value}{rs:List (List Value)}{kd:IntKind}{i:Nat}{r:List Value}{K:Value→Prop}(h:Sl k B v rs)(hi:rs[i]? =some r)(hk:∀p,At B p r→K p):an k v (.int kd (i:Int)) K:=by
 have hlt:=(List.getElem?_eq_some_iff.1 hi).1
 rcases h.2 with⟨a,cap,rfl,rfl⟩|⟨b,o,cap,c,T,fz,h1,h2,h3,h4,h5⟩
 ·simp at hlt
 ·subst h1
  refine an.nat (by omega) (hk _ ⟨b,_,c,T,fz,rfl,h3,fun j v hj=>h5 i r hi j v hj⟩)
theorem Sl.cells{k:Nat}{B:Hp}{v:Value}{rs:List (List Value)}(h:Sl k B v rs):∃a cap,v=.slice a rs.length cap∧Cells B a (rs.length*k) (rows rs):=by
 rcases h.2 with⟨a,cap,rfl,rfl⟩|⟨b,o,cap,c,T,fz,h1,h2,h3,h4,h5⟩
 ·refine⟨a,cap,rfl,?_⟩
  cases a with
  |none=>simp[Cells,rows]
  |some a=>exact .inl ⟨by simp,rfl⟩
 ·refine⟨_,cap,h1,.inr ⟨rfl,c,T,fz,h3,h4,?_⟩⟩
  apply Array.ext
  ·rw[bF h.1];simp;omega
  ·intro i Ty BG
   rw[bF h.1]at Ty
   have hk:0<k:=Nat.pos_of_ne_zero fun e=>by simp[e]at Ty
   have hd:i/k<rs.length:=Nat.div_lt_of_lt_mul (by rw[Nat.mul_comm];exact Ty)
   have hm:i%k<k:=Nat.mod_lt _ hk
   have he:i/k*k+i%k=i:=by rw[Nat.mul_comm];exact Nat.div_add_mod i k
   have hr:=h.1 rs[i/k] (List.getElem_mem hd)
   have g1:=gp h.1 (i:=i/k) hm
   rw[he,List.getElem?_eq_getElem hd,Option.bind_some,List.getElem?_eq_getElem (by omega)]at g1
   have g2:=h5 (i/k) _ (List.getElem?_eq_getElem hd) (i%k) _ (List.getElem?_eq_getElem (by omega))
   rw[Nat.add_assoc,he]at g2
   have e1:=(Array.getElem?_eq_some_iff.1 g1).2
   have e2:=(Array.getElem?_eq_some_iff.1 g2).2
   rw[Array.getElem_extract]
   exact e1.trans e2.symm
theorem Sl.kM{T:TypeId}{k:Nat}{v:Value}{rs:List (List Value)}{C:Hp}(h:aO T k v rs C)(hk:0<k):Sl k C v rs:=by
 rcases h with⟨rfl,rfl,rfl⟩|⟨b,aJ,rfl,rfl,aE⟩
 ·exact Sl.nil _ _
 ·refine⟨fun r hr=>aE r (by simp[hr]),.inr ⟨b,0,_,rows (rs++aJ),T,(0,0),rfl,by omega,by simp,?_,fun i r hi j v hj=>?_⟩⟩
  ·rw[bF aE,List.length_append,Nat.zero_add];exact Nat.mul_le_mul_right _ (by omega)
  ·have hlt:=(List.getElem?_eq_some_iff.1 hi).1
   have hr:=aE r (List.mem_append_left _ (List.mem_of_getElem? hi))
   have OR:j<k:=by rw[←hr];exact(List.getElem?_eq_some_iff.1 hj).1
   rw[Nat.zero_add,gp aE OR,List.getElem?_append_left hlt,hi];exact hj
end
end Go.Sx
namespace Go.Sx
open Go
def bA:IntKind→Nat
 | .i8=>128| .i16=>32768| .i32=>2147483648| .i64=>9223372036854775808
 | .u8=>256| .u16=>65536| .u32=>4294967296| .u64=>18446744073709551616
theorem eP{kd:IntKind}{n:Nat}(h:n<bA kd):kd.wrap (n:Int)=n:=by
 cases kd<;>simp only[bA]at h<;>simp only[IntKind.wrap,IntKind.bits,IntKind.signed,Bool.false_and,Bool.true_and,Bool.false_eq_true,if_false,decide_eq_true_eq]
 all_goals first
  |omega
  |(rw[if_neg (by simp;omega)];omega)
theorem wrap_u64(n:Int):IntKind.u64.wrap n=n%18446744073709551616:=by simp[IntKind.wrap,IntKind.bits,IntKind.signed]
theorem Kz(kd:IntKind):bA kd≤2^kd.bits:=by cases kd<;>decide
def mC(a b:Nat):Nat:=a^^^(a&&&b)
theorem dA(a b j:Nat):(mC a b).testBit j=(a.testBit j&& !b.testBit j):=by
 unfold mC;rw[Nat.testBit_xor,Nat.testBit_and];cases a.testBit j<;>cases b.testBit j<;>rfl
theorem nk(a b:Nat):mC a b≤a:=by
 have:mC a b=a&&&mC a b:=by
  apply Nat.eq_of_testBit_eq;intro j
  rw[Nat.testBit_and,dA];cases a.testBit j<;>simp
 rw[this];exact Nat.and_le_left
theorem bits_nat{kd:IntKind}{a b:Nat}(ha:a<bA kd)(hb:b<bA kd):
  bits .and kd a b=((a&&&b:Nat):Int)∧bits .or kd a b=((a|||b:Nat):Int)∧bits .xor kd a b=((a^^^b:Nat):Int)∧bits .andNot kd a b=((mC a b:Nat):Int):=by
 have hl:=Kz kd
 have h1:(BitVec.ofInt kd.bits (a:Int)).toNat=a:=by rw[BitVec.ofInt_natCast,BitVec.toNat_ofNat,Nat.mod_eq_of_lt (by omega)]
 have h2:(BitVec.ofInt kd.bits (b:Int)).toNat=b:=by rw[BitVec.ofInt_natCast,BitVec.toNat_ofNat,Nat.mod_eq_of_lt (by omega)]
 obtain⟨n,hn⟩:∃n,bA kd=2^n:=by cases kd<;>first|exact⟨7,rfl⟩|exact⟨15,rfl⟩|exact⟨31,rfl⟩|exact⟨63,rfl⟩|exact⟨8,rfl⟩|exact⟨16,rfl⟩|exact⟨32,rfl⟩|exact⟨64,rfl⟩
 rw[hn]at ha hb
 refine⟨?_,?_,?_,?_⟩
 ·simp only[bits,BitVec.toNat_and,h1,h2]
  exact eP (by rw[hn];exact Nat.lt_of_le_of_lt Nat.and_le_left ha)
 ·simp only[bits,BitVec.toNat_or,h1,h2]
  exact eP (by rw[hn];exact Nat.or_lt_two_pow ha hb)
 ·simp only[bits,BitVec.toNat_xor,h1,h2]
  exact eP (by rw[hn];exact Nat.xor_lt_two_pow ha hb)
 ·simp only[bits]
  have:(BitVec.ofInt kd.bits (a:Int) &&& ~~~BitVec.ofInt kd.bits (b:Int)).toNat=mC a b:=by
   apply Nat.eq_of_testBit_eq;intro j
   rw[dA,←BitVec.getLsbD,BitVec.getLsbD_and,BitVec.getLsbD_not,BitVec.getLsbD,BitVec.getLsbD,h1,h2]
   by_cases hj:j<kd.bits
   ·simp[hj]
   ·have:a.testBit j=false:=Nat.testBit_lt_two_pow (Nat.lt_of_lt_of_le ha (by rw[←hn];exact Nat.le_trans hl (Nat.pow_le_pow_right (by decide) (by omega))))
    simp[this]
  rw[this]
  exact eP (by rw[hn];exact Nat.lt_of_le_of_lt (nk a b) ha)
section
variable {kd uE:IntKind} {a b:Nat} {k:Value→Prop}
theorem aa.iL(ha:a<bA kd)(hb:b<bA kd)(h:k (.int kd ((a&&&b:Nat):Int))):aa .num .and (.int kd a) (.int kd b) k:=⟨_,by simp[eX,jb,(bits_nat ha hb).1],h⟩
theorem aa.Jb(ha:a<bA kd)(hb:b<bA kd)(h:k (.int kd ((a|||b:Nat):Int))):aa .num .or (.int kd a) (.int kd b) k:=⟨_,by simp[eX,jb,(bits_nat ha hb).2.1],h⟩
theorem aa.Q5(ha:a<bA kd)(hb:b<bA kd)(h:k (.int kd ((a^^^b:Nat):Int))):aa .num .xor (.int kd a) (.int kd b) k:=⟨_,by simp[eX,jb,(bits_nat ha hb).2.2.1],h⟩
theorem aa.Gn(ha:a<bA kd)(hb:b<bA kd)(h:k (.int kd ((mC a b:Nat):Int))):aa .num .andNot (.int kd a) (.int kd b) k:=⟨_,by simp[eX,jb,(bits_nat ha hb).2.2.2],h⟩
theorem aa.j7(ha:a<bA kd)(h:k (.int kd ((a>>>b:Nat):Int))):aa .num .shr (.int kd a) (.int uE b) k:=by
 refine⟨_,?_,h⟩
 have h0:¬((b:Int)<0):=by omega
 simp only[eX,h0,if_false,Option.some.injEq,Value.int.injEq,true_and,Int.toNat_natCast]
 rw[Int.fdiv_eq_ediv_of_nonneg _ (Int.le_of_lt (Int.pow_pos (by decide))),Nat.shiftRight_eq_div_pow]
 have hl:=Kz kd
 by_cases hb:b≤kd.bits
 ·rw[Nat.min_eq_left hb];push_cast;rfl
 ·rw[Nat.min_eq_right (by omega)]
  have h1:a/2^kd.bits=0:=Nat.div_eq_of_lt (by omega)
  have h2:a/2^b=0:=Nat.div_eq_of_lt (Nat.lt_of_lt_of_le (by omega) (Nat.pow_le_pow_right (by decide) (by omega:kd.bits≤b)))
  have:(a:Int) / (2^kd.bits:Int)=((a/2^kd.bits:Nat):Int):=by push_cast;rfl
  rw[this,h1,h2]
theorem aa.uy(hb:b≤kd.bits)(hr:a<<<b<bA kd)(h:k (.int kd ((a<<<b:Nat):Int))):aa .num .shl (.int kd a) (.int uE b) k:=by
 refine⟨_,?_,h⟩
 have h0:¬((b:Int)<0):=by omega
 simp only[eX,h0,if_false,Option.some.injEq,Value.int.injEq,true_and,Int.toNat_natCast,Nat.min_eq_left hb]
 rw[←eP hr,Nat.shiftLeft_eq];push_cast;rfl
theorem aa.wR(h:k (.int .u64 (((a<<<b)%18446744073709551616:Nat):Int))):aa .num .shl (.int .u64 a) (.int uE b) k:=by
 refine⟨_,?_,h⟩
 have h0:¬((b:Int)<0):=by omega
 simp only[eX,h0,if_false,Option.some.injEq,Value.int.injEq,true_and,Int.toNat_natCast,IntKind.bits,wrap_u64]
 rw[Nat.shiftLeft_eq]
 by_cases hb:b≤64
 ·rw[Nat.min_eq_left hb,Int.natCast_emod,Int.natCast_mul,Int.natCast_pow];rfl
 ·rw[Nat.min_eq_right (by omega)]
  have h1:(a*2^b)%18446744073709551616=0:=by
   have:2^b=18446744073709551616*2^(b-64):=by rw[show(18446744073709551616:Nat)=2^64 by rfl,←Nat.pow_add];congr 1;omega
   rw[this,Nat.mul_left_comm];exact Nat.mul_mod_right _ _
  rw[h1]
  exact Int.mul_emod_left _ _
theorem aa.PM(hr:a+b<bA kd)(h:k (.int kd ((a+b:Nat):Int))):aa .num .add (.int kd a) (.int kd b) k:=by
 refine aa.add ?_
 have:((a:Int)+(b:Int))=((a+b:Nat):Int):=by push_cast;rfl
 rw[this,eP hr];exact h
theorem aa.ux(ha:a<bA kd)(hb:b≤a)(h:k (.int kd ((a-b:Nat):Int))):aa .num .sub (.int kd a) (.int kd b) k:=by
 refine aa.sub ?_
 have:((a:Int) -(b:Int))=((a-b:Nat):Int):=by omega
 rw[this,eP (by omega)];exact h
theorem aa.XC(hr:a*b<bA kd)(h:k (.int kd ((a*b:Nat):Int))):aa .num .mul (.int kd a) (.int kd b) k:=by
 refine aa.mul ?_
 have:((a:Int)*(b:Int))=((a*b:Nat):Int):=by push_cast;rfl
 rw[this,eP hr];exact h
theorem aa.BT(ha:a<bA kd)(hb:b≠0)(h:k (.int kd ((a/b:Nat):Int))):aa .num .quo (.int kd a) (.int kd b) k:=by
 refine⟨_,?_,h⟩
 have h0:¬((b:Int)=0):=by omega
 simp only[eX,jb,if_true,h0,if_false]
 have:(a:Int).tdiv b=((a/b:Nat):Int):=by rw[Int.tdiv_eq_ediv_of_nonneg (by omega)];push_cast;rfl
 rw[this,eP (Nat.lt_of_le_of_lt (Nat.div_le_self _ _) ha)]
theorem aa.Oc(hb:b≠0)(h:k (.int kd ((a%b:Nat):Int))):aa .num .rem (.int kd a) (.int kd b) k:=by
 refine⟨_,?_,h⟩
 have h0:¬((b:Int)=0):=by omega
 simp only[eX,jb,if_true,h0,if_false]
 have:(a:Int).tmod b=((a%b:Nat):Int):=by rw[Int.tmod_eq_emod_of_nonneg (by omega)];push_cast;rfl
 rw[this]
theorem aa.gA{x y:Int}(h:k (.bool (decide (x=y)))):aa .num .eql (.int kd x) (.int kd y) k:=aa.eql (by rw[show(x==y)=decide (x=y)from by cases hb:decide (x=y)<;>simp_all];exact h)
theorem aa.cG{x y:Int}(h:k (.bool (decide (x≠y)))):aa .num .neq (.int kd x) (.int kd y) k:=aa.neq (by rw[show(x !=y)=decide (x≠y)from by cases hb:decide (x=y)<;>simp_all];exact h)
theorem aa.cE(h:k (.bool (decide (a=b)))):aa .num .eql (.int kd a) (.int kd b) k:=aa.gA (by simpa[Int.natCast_inj]using h)
theorem aa.uk(h:k (.bool (decide (a≠b)))):aa .num .neq (.int kd a) (.int kd b) k:=aa.cG (by simpa[Int.natCast_inj]using h)
theorem aa.dH(h:k (.bool (decide (a<b)))):aa .num .lss (.int kd a) (.int kd b) k:=aa.lss (by simpa[Int.ofNat_lt]using h)
theorem aa.y4(h:k (.bool (decide (a≤b)))):aa .num .leq (.int kd a) (.int kd b) k:=aa.leq (by simpa[Int.ofNat_le]using h)
theorem aa.iU(h:k (.bool (decide (b<a)))):aa .num .gtr (.int kd a) (.int kd b) k:=aa.gtr (by simpa[Int.ofNat_lt]using h)
theorem aa.qT(h:k (.bool (decide (b≤a)))):aa .num .geq (.int kd a) (.int kd b) k:=aa.geq (by simpa[Int.ofNat_le]using h)
theorem aQ.nat(ha:a<bA kd)(h:k (.int kd (a:Int))):aQ kd (.int uE a) k:=aQ.of (eP ha) h
theorem aQ.Zz(h:k (.int .u8 ((a%256:Nat):Int))):aQ .u8 (.int uE a) k:=aQ.of (by simp[IntKind.wrap,IntKind.bits,IntKind.signed]) h
theorem Un.XB(ha:a<18446744073709551616)(h:k (.int .u64 (((18446744073709551616-a)%18446744073709551616:Nat):Int))):Un .neg (.int .u64 a) k:=by
 refine⟨_,?_,h⟩
 simp only[WA,wrap_u64,Option.some.injEq,Value.int.injEq,true_and];omega
theorem Un.GF(ha:a<18446744073709551616)(h:k (.int .u64 ((18446744073709551615-a:Nat):Int))):Un .xor (.int .u64 a) k:=by
 refine⟨_,?_,h⟩
 have e:(if IntKind.u64.signed=true then(-1:Int)else IntKind.u64.max)=((18446744073709551615:Nat):Int):=by decide
 simp only[WA,e,(bits_nat (kd:=.u64) (a:=18446744073709551615) (b:=a) (by decide) ha).2.2.1,Option.some.injEq,Value.int.injEq,true_and]
 congr 1
 have:18446744073709551615^^^a=18446744073709551615-a:=by
  have xB:a<2^64:=ha
  rw[show(18446744073709551615:Nat)=2^64-1 by rfl]
  apply Nat.eq_of_testBit_eq;intro j
  rw[Nat.testBit_xor,show 2^64-1-a=2^64-(a+1)by omega,Nat.testBit_two_pow_sub_succ xB,Nat.testBit_two_pow_sub_one]
  by_cases hj:j<64
  ·simp[hj]
  ·simp[hj];exact Nat.testBit_lt_two_pow (Nat.lt_of_lt_of_le xB (Nat.pow_le_pow_right (by decide) (by omega)))
 exact this
end
theorem Br.dec{p:Prop}[Decidable p]{t f:Prop}(h1:p→t)(h2:¬p→f):Br (.bool (decide p)) t f:=⟨_,rfl,fun h=>h1 (by simpa using h),fun h=>h2 (by simpa using h)⟩
theorem Br.SP{p:Prop}[Decidable p]{t f:Prop}(hp:p)(h1:t):Br (.bool (decide p)) t f:=Br.dec (fun _=>h1) fun h=>absurd hp h
theorem Br.Md{p:Prop}[Decidable p]{t f:Prop}(hp:¬p)(h1:f):Br (.bool (decide p)) t f:=Br.dec (fun h=>absurd h hp) fun _=>h1
end Go.Sx
namespace aj
open Go.Sx
def wN(n:Nat):Nat:=max 1 (2^n/64)
def dc(n:Nat):Nat:=if 6≤n then 18446744073709551615 else 2^2^n-1
structure dh(n:Nat)(ws:List Nat):Prop where
 qd:n≤16
 len:ws.length=wN n
 full:∀w∈ws,w≤dc n
instance (n:Nat)(ws:List Nat):Decidable (dh n ws):=decidable_of_iff (n≤16∧ws.length=wN n∧∀w∈ws,w≤dc n) ⟨fun⟨a,b,c⟩=>⟨a,b,c⟩,fun⟨a,b,c⟩=>⟨a,b,c⟩⟩
def bit(ws:List Nat)(x:Nat):Bool:=(ws.getD (x/64) 0).testBit (x%64)
def aA(x v:Nat)(b:Bool):Nat:=if b then x|||2^v else mC x (2^v)
theorem Q6(n:Nat):0<wN n:=Nat.le_max_left _ _
theorem Fo{n:Nat}(h:6≤n):wN n=2^(n-6):=by
 unfold wN
 have:2^n/64=2^(n-6):=by
  rw[show(64:Nat)=2^6 by rfl,Nat.pow_div h (by decide)]
 rw[this];exact Nat.max_eq_right (Nat.two_pow_pos _)
theorem Fm{n:Nat}(h:n<7):wN n=1:=by
 have:n=0∨n=1∨n=2∨n=3∨n=4∨n=5∨n=6:=by omega
 rcases this with rfl|rfl|rfl|rfl|rfl|rfl|rfl<;>rfl
theorem rX{n:Nat}(h:n≤16):wN n≤1024:=by
 by_cases h6:6≤n
 ·rw[Fo h6];exact Nat.pow_le_pow_right (by decide) (by omega:n-6≤10)
 ·rw[Fm (by omega)];decide
theorem pE(n:Nat):dc n<18446744073709551616:=by
 unfold dc
 split
 ·decide
 ·have h1:2^n≤32:=Nat.pow_le_pow_right (n:=2) (by decide) (by omega:n≤5)
  have h2:2^2^n≤2^32:=Nat.pow_le_pow_right (by decide) h1
  omega
theorem dh.lt{n:Nat}{ws:List Nat}(h:dh n ws){w:Nat}(hw:w∈ws):w<18446744073709551616:=Nat.lt_of_le_of_lt (h.full w hw) (pE n)
theorem tE{n w:Nat}(h:w≤dc n):w&&&dc n=w:=by
 unfold dc at*
 split at h
 ·rename_i h6
  rw[if_pos h6,show(18446744073709551615:Nat)=2^64-1 by rfl,Nat.and_two_pow_sub_one_eq_mod,Nat.mod_eq_of_lt (by omega)]
 ·rename_i h6
  rw[if_neg h6,Nat.and_two_pow_sub_one_eq_mod,Nat.mod_eq_of_lt]
  have:=Nat.two_pow_pos (2^n);omega
theorem j4(n j:Nat):(dc n).testBit j=decide (j<if 6≤n then 64 else 2^n):=by
 unfold dc
 split
 ·rw[show(18446744073709551615:Nat)=2^64-1 by rfl,Nat.testBit_two_pow_sub_one]
 ·rw[Nat.testBit_two_pow_sub_one]
theorem yY{n x:Nat}(h:x<2^n):x/64<wN n:=by
 by_cases h6:6≤n
 ·rw[Fo h6]
  refine Nat.div_lt_of_lt_mul ?_
  rw[show(64:Nat)=2^6 by rfl,←Nat.pow_add]
  rwa [show 6+(n-6)=n by omega]
 ·have h1:2^n≤32:=Nat.pow_le_pow_right (n:=2) (by decide) (by omega:n≤5)
  rw[Fm (by omega)];omega
theorem dh.ext{n:Nat}{a b:List Nat}(ha:dh n a)(hb:dh n b)(h:∀x,x<2^n→bit a x=bit b x):a=b:=by
 apply List.ext_getElem (by rw[ha.len,hb.len])
 intro i h1 h2
 apply Nat.eq_of_testBit_eq
 intro j
 have YB:=tE (ha.full _ (List.getElem_mem h1))
 have Vh:=tE (hb.full _ (List.getElem_mem h2))
 by_cases hj:j<(if 6≤n then 64 else 2^n)
 ·have adf:j<64:=by
   split at hj
   ·exact hj
   ·have h1:2^n≤32:=Nat.pow_le_pow_right (n:=2) (by decide) (by omega:n≤5)
    omega
  have hx:64*i+j<2^n:=by
   by_cases h6:6≤n
   ·have hi:i<2^(n-6):=by rw[←Fo h6,←ha.len];exact h1
    have:2^n=64*2^(n-6):=by rw[show(64:Nat)=2^6 by rfl,←Nat.pow_add];congr 1;omega
    omega
   ·have hi:i<1:=by rw[←Fm (show n<7 by omega),←ha.len];exact h1
    rw[if_neg h6]at hj;omega
  have:=h _ hx
  unfold bit at this
  rw[show(64*i+j) /64=i by omega,show(64*i+j)%64=j by omega]at this
  simpa[h1,h2]using this
 ·have hd:(dc n).testBit j=false:=by rw[j4];simpa using hj
  rw[←YB,←Vh,Nat.testBit_and,Nat.testBit_and,hd];simp
def xI(v:Nat):Nat→Nat
 |0=>0
 |j+1=>xI v j|||(((j>>>v) &&&1)<<<j)
def mask(v:Nat):Nat:=xI v 64
theorem dY(m:Nat):m&&&1=if m.testBit 0 then 1 else 0:=by
 rw[Nat.and_one_is_mod,Nat.testBit_zero]
 rcases Nat.mod_two_eq_zero_or_one m with h|h<;>simp[h]
theorem oQ(v:Nat):∀J k,(xI v J).testBit k=(decide (k<J) &&k.testBit v)
 |0,k=>by simp[xI]
 |J+1,k=>by
  rw[xI,Nat.testBit_or,oQ v J k,dY,Nat.testBit_shiftRight,Nat.add_zero]
  by_cases e:k=J
  ·subst e
   cases hb:k.testBit v<;>simp[Nat.testBit_shiftLeft]
  ·have:((if(J.testBit v)=true then 1 else 0)<<<J).testBit k=false:=by
    rw[Nat.testBit_shiftLeft]
    split
    ·by_cases hk:J≤k
     ·have h1:Nat.testBit 1 (k-J)=false:=Nat.testBit_lt_two_pow (Nat.one_lt_two_pow (by omega))
      simp[hk,h1]
     ·simp[hk]
    ·simp
   rw[this]
   have:(decide (k<J+1))=decide (k<J):=by simp;omega
   rw[this];simp
theorem xH(v:Nat):∀J,xI v J<2^J
 |0=>by simp[xI]
 |J+1=>by
  have h1:=xH v J
  have h2:((J>>>v) &&&1)<<<J<2^(J+1):=by
   rw[dY,Nat.shiftLeft_eq]
   split
   ·rw[Nat.one_mul];exact Nat.pow_lt_pow_right (by decide) (by omega)
   ·rw[Nat.zero_mul];exact Nat.two_pow_pos _
  exact Nat.or_lt_two_pow (Nat.lt_of_lt_of_le h1 (Nat.pow_le_pow_right (by decide) (by omega))) h2
theorem fF(v k:Nat):(mask v).testBit k=(decide (k<64) &&k.testBit v):=oQ v 64 k
theorem iP(v:Nat):mask v<18446744073709551616:=xH v 64
def pC(ws:List Nat)(v:Nat)(b:Bool)(i:Nat):Nat:=
 if 6≤v then ws.getD (aA i (v-6) b) 0
 else if b then(ws.getD i 0&&&mask v)|||(ws.getD i 0&&&mask v)>>>2^v
 else mC (ws.getD i 0) (mask v)|||(mC (ws.getD i 0) (mask v)<<<2^v)%18446744073709551616
def eV(n:Nat)(ws:List Nat)(v:Nat)(b:Bool):List Nat:=(List.range (wN n)).map fun i=>pC ws v b i&&&dc n
theorem cy{n v:Nat}{ws:List Nat}{b:Bool}(h:n≤16):dh n (eV n ws v b):=by
 refine⟨h,by simp[eV],fun w hw=>?_⟩
 obtain⟨i,_,rfl⟩:=List.mem_map.1 hw
 exact Nat.and_le_right
theorem ak(x v:Nat)(b:Bool)(k:Nat):(aA x v b).testBit k=if k=v then b else x.testBit k:=by
 unfold aA
 cases b<;>simp only[if_true,Bool.false_eq_true,if_false]
 ·rw[dA,Nat.testBit_two_pow]
  by_cases e:k=v
  ·simp[e]
  ·simp[e,Ne.symm e]
 ·rw[Nat.testBit_or,Nat.testBit_two_pow]
  by_cases e:k=v
  ·simp[e]
  ·simp[e,Ne.symm e]
theorem fG{x v n:Nat}{b:Bool}(hx:x<2^n)(hv:v<n):aA x v b<2^n:=by
 unfold aA
 split
 ·exact Nat.or_lt_two_pow hx (Nat.pow_lt_pow_right (by decide) hv)
 ·exact Nat.lt_of_le_of_lt (nk _ _) hx
theorem Rh:∀v:Fin 6,∀j:Fin 64,(j.1.testBit v.1=true→aA j v true=j∧aA j v false=j-2^v.1∧2^v.1≤j.1∧(j.1+2^v.1).testBit v.1=false∧(j.1-2^v.1).testBit v.1=false)∧
  (j.1.testBit v.1=false→aA j v true=j.1+2^v.1∧j.1+2^v.1<64∧aA j v false=j∧(j.1+2^v.1).testBit v.1=true∧(2^v.1≤j.1→(j.1-2^v.1).testBit v.1=true)):=by decide+kernel
theorem n8{x v:Nat}{b:Bool}:(6≤v→aA x v b/64=aA (x/64) (v-6) b∧aA x v b%64=x%64)∧(v<6→aA x v b/64=x/64∧aA x v b%64=aA (x%64) v b):=by
 have xB:∀y:Nat,y/64=y>>>6:=fun y=>by rw[Nat.shiftRight_eq_div_pow]
 have m64:∀y:Nat,y%64=y%2^6:=fun y=>rfl
 refine⟨fun h=>⟨?_,?_⟩,fun h=>⟨?_,?_⟩⟩<;>apply Nat.eq_of_testBit_eq<;>intro k
 ·rw[xB,xB,Nat.testBit_shiftRight,ak,ak,Nat.testBit_shiftRight]
  by_cases e:k=v-6
  ·rw[if_pos e,if_pos (by omega)]
  ·rw[if_neg e,if_neg (by omega)]
 ·rw[m64 (aA x v b),m64 x,Nat.testBit_mod_two_pow,Nat.testBit_mod_two_pow,ak]
  by_cases hk:k<6
  ·rw[if_neg (by omega)]
  ·simp[hk]
 ·rw[xB,xB,Nat.testBit_shiftRight,ak,Nat.testBit_shiftRight,if_neg (by omega)]
 ·rw[m64 (aA x v b),m64 x,Nat.testBit_mod_two_pow,ak,ak,Nat.testBit_mod_two_pow]
  by_cases e:k=v
  ·subst e;simp[h]
  ·simp[e]
theorem dP{n v x:Nat}{ws:List Nat}{b:Bool}(hf:dh n ws)(hv:v<n)(hx:x<2^n):bit (eV n ws v b) x=bit ws (aA x v b):=by
 have hi:=yY hx
 unfold bit
 have gf:(eV n ws v b).getD (x/64) 0=pC ws v b (x/64) &&&dc n:=by
  simp[eV,hi]
 rw[gf,Nat.testBit_and,j4]
 have Vh:decide (x%64<if 6≤n then 64 else 2^n)=true:=by
  rw[decide_eq_true_eq]
  split
  ·exact Nat.mod_lt _ (by decide)
  ·have h1:2^n≤32:=Nat.pow_le_pow_right (n:=2) (by decide) (by omega:n≤5)
   omega
 rw[Vh,Bool.and_true]
 unfold pC
 by_cases h6:6≤v
 ·rw[if_pos h6,(n8.1 h6).1,(n8.1 h6).2]
 ·rw[if_neg h6]
  obtain⟨e1,e2⟩:=(n8 (x:=x) (v:=v) (b:=b)).2 (by omega)
  rw[e1,e2]
  generalize hw:ws.getD (x/64) 0=w
  have WM:w<2^64:=by
   rw[←hw]
   rw[List.getD_eq_getElem?_getD,List.getElem?_eq_getElem (by rw[hf.len];exact hi)]
   exact hf.lt (List.getElem_mem _)
  have hj:x%64<64:=Nat.mod_lt _ (by decide)
  generalize x%64=j at hj
  obtain⟨s1,s2⟩:=Rh ⟨v,by omega⟩ ⟨j,hj⟩
  simp only at s1 s2
  cases b
  ·simp only[Bool.false_eq_true,if_false]
   rw[show(18446744073709551616:Nat)=2^64 by rfl,Nat.testBit_or,Nat.testBit_mod_two_pow,Nat.testBit_shiftLeft,dA,dA,fF,fF]
   cases hb:j.testBit v
   ·obtain⟨t1,t2,t3,t4,t5⟩:=s2 hb
    rw[t3]
    by_cases hle:2^v≤j
    ·have:=t5 hle
     have xB:j-2^v<64:=Nat.lt_of_le_of_lt (Nat.sub_le _ _) hj
     simp[hj,this,xB]
    ·simp[hj,hle]
   ·obtain⟨t1,t2,t3,t4,t5⟩:=s1 hb
    rw[t2]
    simp[hj,t3,t5]
  ·simp only[if_true]
   rw[Nat.testBit_or,Nat.testBit_and,Nat.testBit_shiftRight,Nat.testBit_and,fF,fF]
   cases hb:j.testBit v
   ·obtain⟨t1,t2,t3,t4,t5⟩:=s2 hb
    rw[t1,Nat.add_comm (2^v) j]
    simp[hj,t2,t4]
   ·obtain⟨t1,t2,t3,t4,t5⟩:=s1 hb
    rw[t1,Nat.add_comm (2^v) j]
    simp[hj,t4]
def dep(n:Nat)(ws:List Nat)(v:Nat):Bool:=decide (eV n ws v false≠eV n ws v true)
theorem jt(x v:Nat):aA x v (x.testBit v)=x:=by
 apply Nat.eq_of_testBit_eq;intro k
 rw[ak]
 by_cases e:k=v
 ·rw[if_pos e,e]
 ·rw[if_neg e]
theorem mz{n v:Nat}{ws:List Nat}{b:Bool}(hf:dh n ws)(hv:v<n)(h:dep n ws v=false):eV n ws v b=ws:=by
 have he:eV n ws v false=eV n ws v true:=by simpa[dep]using h
 have aE:∀c d,eV n ws v c=eV n ws v d:=by intro c d;cases c<;>cases d<;>first|rfl|exact he|exact he.symm
 refine(cy hf.qd).ext hf fun x hx=>?_
 rw[aE b (x.testBit v),dP hf hv hx,jt]
theorem rS{n v:Nat}{ws:List Nat}(hf:dh n ws)(hv:v<n):dep n ws v=true↔∃x,x<2^n∧bit ws (aA x v false)≠bit ws (aA x v true):=by
 constructor
 ·intro h
  refine Classical.byContradiction fun hno=>?_
  have:eV n ws v false=eV n ws v true:=(cy hf.qd).ext (cy hf.qd) fun x hx=>by
   rw[dP hf hv hx,dP hf hv hx]
   exact Classical.byContradiction fun hne=>hno ⟨x,hx,hne⟩
  simp[dep,this]at h
 ·rintro⟨x,hx,hne⟩
  simp only[dep,ne_eq,decide_eq_true_eq]
  intro he
  apply hne
  rw[←dP hf hv hx,←dP hf hv hx,he]
end aj
namespace Go.Sx
open Go
inductive aT:Hp→Hp→Prop
 |refl (B:Hp):aT B B
 |cons {x:Nat×Obj} {B H:Hp} (h:aT B H):aT B (x::H)
 |app {N B H:Hp} (h:aT B H):aT B (N++H)
theorem aT.spec{B H:Hp}(h:aT B H):∃N,H=N++B:=by
 induction h with
 |refl=>exact⟨[],rfl⟩
 | @cons x B H h ih=>obtain⟨N,rfl⟩:=ih;exact⟨x::N,rfl⟩
 | @app M B H h ih=>obtain⟨N,rfl⟩:=ih;exact⟨M++N,by rw[List.append_assoc]⟩
theorem aT.sub{B H:Hp}(h:aT B H):∀x∈B,x∈H:=by
 obtain⟨N,rfl⟩:=h.spec;exact fun x hx=>List.mem_append_right _ hx
theorem aT.ie{B H:Hp}(h:aT B H):aM H B:=by
 obtain⟨N,rfl⟩:=h.spec;exact aM.right
theorem aT.trans{A B C:Hp}(h:aT A B)(h':aT B C):aT A C:=by
 obtain⟨N,rfl⟩:=h'.spec;exact .app h
section
variable {P:Program} {g:Gh} {H:Hp}
def Px(P:Program)(f:FuncId)(args:Array Value)(B:Hp)(Q:Value→Hp→Prop):Prop:=Fc P f args B (fun v H=>aT B H∧Q v H)
theorem ae.px{f:FuncId}{args:Array Value}{B H:Hp}{c:Hp→Hp}{Q:Value→Hp→Prop}{K:Value→Hp→Prop}{KP:List PanicEntry→Hp→Prop}(hh:aZ B H c)(hc:Px P f args B Q)
 (hk:∀v N,Q v (N++B)→K v (c (N++B))):ae P g f args H K KP:=
 ae.fn hh hc fun v C' ⟨h1,h2⟩=>by obtain⟨N,rfl⟩:=h1.spec;exact hk v N h2
theorem ae.pre{f:FuncId}{args:Array Value}{H':Hp}{K:Value→Hp→Prop}{KP:List PanicEntry→Hp→Prop}(he:aM H H')(h:ae P g f args H' K KP):ae P g f args H K KP:=bW.pre h he
theorem aM.swap{x y:Nat×Obj}{A:Hp}:aM (x::y::A) (y::x::A):=.perm (.swap _ _ _)
theorem tL.mk{Q:Value→Hp→Prop}{v:Value}{B H:Hp}(he:aT B H)(h:Q v H):aS (fun v H=>aT B H∧Q v H) (.returned v) H:=⟨v,H,rfl,.refl _,he,h⟩
theorem bN.mk{Q:Value→Prop}{v:Value}{B H:Hp}(he:aM H B)(h:Q v):aS (fun v H=>H=B∧Q v) (.returned v) H:=⟨v,B,rfl,he,rfl,h⟩
def ax(kd:IntKind)(l:List Int):Array Value:=(l.map fun n=>Value.int kd n).toArray
theorem By(kd:IntKind)(l:List Int)(i:Nat)(n:Int):(ax kd l).setIfInBounds i (.int kd n)=ax kd (l.set i n):=by
 simp[ax,List.map_set]
@[simp] theorem Qi(kd:IntKind)(l:List Int):(ax kd l).size=l.length:=by simp[ax]
theorem Ht(kd:IntKind)(n:Nat):madeCells (Value.cells (.int kd 0)) (n*1)=ax kd (List.replicate n 0):=by
 apply Array.ext
 ·simp[madeCells,ax]
 ·intro i h1 h2
  simp[madeCells,ax,Value.cells,Nat.mod_one]
def cS(kd:IntKind)(B:Hp)(v:Value)(l:List Int):Prop:=Sl 1 B v (l.map fun n=>[Value.int kd n])
theorem cS.mono{kd:IntKind}{B B':Hp}{v:Value}{l:List Int}(h:cS kd B v l)(hs:∀x∈B,x∈B'):cS kd B' v l:=Sl.mono h hs
theorem cS.bc{kd:IntKind}{B:Hp}{v:Value}{l:List Int}(h:cS kd B v l){K:Value→Prop}(hk:K (.int .i64 l.length)):aF v K:=Sl.bc h (by simpa using hk)
theorem cS.block{kd:IntKind}{B:Hp}{b cap:Nat}{l:List Int}{T:TypeId}{fz:Nat×Nat}(hm:(b,Obj.cells (ax kd l) T fz)∈B)(hc:l.length≤cap):cS kd B (.slice (some ⟨b,0,none⟩) l.length cap) l:=by
 refine⟨by simp,.inr ⟨b,0,cap,_,T,fz,by simp,by simpa using hc,hm,by simp[ax],fun i r hi j v hj=>?_⟩⟩
 rw[List.getElem?_map]at hi
 cases hl:l[i]? with
 |none=>rw[hl]at hi;simp at hi
 |some n=>
  rw[hl]at hi
  simp only[Option.map_some,Option.some.injEq]at hi
  subst hi
  cases j with
  |zero=>
   simp only[List.getElem?_cons_zero,Option.some.injEq]at hj
   subst hj
   simp[ax,hl]
  |succ j=>simp at hj
theorem cS.at{kd uE:IntKind}{B:Hp}{v:Value}{l:List Int}(h:cS kd B v l){i:Nat}{n:Int}(hi:l[i]? =some n){K:Value→Prop}(hk:∀p,At B p [.int kd n]→K p):an 1 v (.int uE (i:Int)) K:=
 an.sl h (by rw[List.getElem?_map,hi];rfl) hk
theorem cS.ld{kd uE:IntKind}{B:Hp}{v:Value}{l:List Int}(h:cS kd B v l){i:Nat}{n:Int}(hi:l[i]? =some n)(hs:∀x∈B,x∈H){K:Value→Prop}(hk:K (.int kd n)):an 1 v (.int uE (i:Int)) (fun p=>Ld H p K):=
 h.at hi fun p hp=>Ld.at hp hs hk
theorem cO.ints{T:TypeId}{kd kl:IntKind}{bytes n:Nat}{K:Value→Hp→Prop}(bH:n≤9223372036854775807)(hb:n*bytes≤281474976710656)
 (h:∀b,K (.slice (some ⟨b,0,none⟩) n n) ((b,.cells (ax kd (List.replicate n 0)) T (0,0))::H)):cO T 1 bytes (.int kd 0) H (.int kl n) (.int kl n) K:=
 ⟨kl,kl,n,n,rfl,rfl,Nat.le_refl _,by omega,hb,fun b _=>by rw[Ht];exact h b⟩
theorem St.ints{b i:Nat}{kd:IntKind}{l:List Int}{x:Int}{T:TypeId}{H':Hp}{K:Hp→Prop}(hu:cD b (.cells (ax kd l) T (0,0)) (.cells (ax kd (l.set i x)) T (0,0)) H H')(hi:i<l.length)(h:K H'):
  St 1 H (.pointer (some ⟨b,0+i*1,none⟩)) (.int kd x) K:=
 St.one (c:=ax kd l) (c':=ax kd (l.set i x)) hu rfl (by simpa using hi) (by rw[Nat.zero_add,Nat.mul_one];exact By kd l i x) h
end
def br:List Value→Nat→Nat
 | .int _ q::_,0=>q.toNat
 |_::r,i+1=>br r i
 |_,_=>0
structure Tb where
 n:Int
 ws:List Nat
 deriving DecidableEq
def iw(ws:List Nat):List Int:=ws.map (Nat.cast:Nat→Int)
@[simp] theorem ai(ws:List Nat):(iw ws).length=ws.length:=by simp[iw]
theorem bV{ws:List Nat}{i w:Nat}(h:ws[i]? =some w):(iw ws)[i]? =some (w:Int):=by simp[iw,h]
def Words(B:Hp)(s:Value)(ws:List Nat):Prop:=cS .u64 B s (iw ws)∧∀w∈ws,w<18446744073709551616
theorem Words.mono{B B':Hp}{v:Value}{ws:List Nat}(h:Words B v ws)(hs:∀x∈B,x∈B'):Words B' v ws:=⟨h.1.mono hs,h.2⟩
theorem Words.block{B:Hp}{b cap:Nat}{ws:List Nat}{T:TypeId}{fz:Nat×Nat}(hm:(b,Obj.cells (ax .u64 (iw ws)) T fz)∈B)(hc:ws.length≤cap)(hw:∀w∈ws,w<18446744073709551616):Words B (.slice (some ⟨b,0,none⟩) ws.length cap) ws:=by
 have:=cS.block (cap:=cap) hm (by simpa using hc)
 rw[ai]at this
 exact⟨this,hw⟩
def AO(B:Hp)(v:Value)(t:Tb):Prop:=∃s,v=.agg #[.int .i64 t.n,s]∧Words B s t.ws
theorem AO.mono{B B':Hp}{v:Value}{t:Tb}(h:AO B v t)(hs:∀x∈B,x∈B'):AO B' v t:=let ⟨s,h1,h2⟩:=h;⟨s,h1,h2.mono hs⟩
def xV(B:Hp)(r:List Value)(t:Tb):Prop:=∃s,r=[.int .i64 t.n,s]∧Words B s t.ws
theorem xV.mono{B B':Hp}{r:List Value}{t:Tb}(h:xV B r t)(hs:∀x∈B,x∈B'):xV B' r t:=let ⟨s,h1,h2⟩:=h;⟨s,h1,h2.mono hs⟩
def jT{α:Type}(p:List Value→α→Prop)(rs:List (List Value))(l:List α):Prop:=rs.length=l.length∧∀(i:Nat) (r:List Value) (x:α),rs[i]? =some r→l[i]? =some x→p r x
theorem jT.nil{α:Type}{p:List Value→α→Prop}:jT p [] []:=⟨rfl,by simp⟩
theorem jT.get{α:Type}{p:List Value→α→Prop}{rs:List (List Value)}{l:List α}(h:jT p rs l){i:Nat}{x:α}(hx:l[i]? =some x):∃r,rs[i]? =some r∧p r x:=by
 have hlt:=(List.getElem?_eq_some_iff.1 hx).1
 have:i<rs.length:=by rw[h.1];exact hlt
 exact⟨rs[i],List.getElem?_eq_getElem this,h.2 i _ _ (List.getElem?_eq_getElem this) hx⟩
theorem jT.mono{α:Type}{p q:List Value→α→Prop}{rs:List (List Value)}{l:List α}(h:jT p rs l)(hpq:∀r x,p r x→q r x):jT q rs l:=⟨h.1,fun i r x h1 h2=>hpq _ _ (h.2 i r x h1 h2)⟩
theorem jT.snoc{α:Type}{p:List Value→α→Prop}{rs:List (List Value)}{l:List α}(h:jT p rs l){r:List Value}{x:α}(hx:p r x):jT p (rs++[r]) (l++[x]):=by
 refine⟨by simp[h.1],fun i r' x' h1 h2=>?_⟩
 by_cases e:i<l.length
 ·rw[List.getElem?_append_left e]at h2
  rw[List.getElem?_append_left (by rw[h.1];exact e)]at h1
  exact h.2 i _ _ h1 h2
 ·rw[List.getElem?_append_right (by omega)]at h2
  rw[List.getElem?_append_right (by rw[h.1];omega),h.1]at h1
  cases hi:i-l.length with
  |zero=>rw[hi]at h1 h2;simp at h1 h2;subst h1;subst h2;exact hx
  |succ k=>rw[hi]at h2;simp at h2
def dZ(B:Hp)(v:Value)(ts:List Tb):Prop:=∃rs,Sl 2 B v rs∧jT (xV B) rs ts
theorem dZ.mono{B B':Hp}{v:Value}{ts:List Tb}(h:dZ B v ts)(hs:∀x∈B,x∈B'):dZ B' v ts:=let ⟨rs,h1,h2⟩:=h;⟨rs,h1.mono hs,h2.mono fun _ _ h=>h.mono hs⟩
theorem dZ.bc{B:Hp}{v:Value}{ts:List Tb}(h:dZ B v ts){K:Value→Prop}(hk:K (.int .i64 ts.length)):aF v K:=by
 obtain⟨rs,h1,h2⟩:=h;refine h1.bc ?_;have:=h2.1;rw[this];exact hk
theorem dZ.ld{B H:Hp}{v:Value}{ts:List Tb}{kd:IntKind}(h:dZ B v ts){i:Nat}{t:Tb}(hi:ts[i]? =some t)(hs:∀x∈B,x∈H){K:Value→Prop}(hk:∀s,Words B s t.ws→K (.agg #[.int .i64 t.n,s])):an 2 v (.int kd (i:Int)) (fun p=>av 2 H p K):=by
 obtain⟨rs,h1,h2⟩:=h
 obtain⟨r,hr,s,rfl,hw⟩:=h2.get hi
 exact an.sl h1 hr fun p hp=>av.at hp rfl (by decide) hs (hk s hw)
theorem dZ.Tn{B H:Hp}{v:Value}{ts:List Tb}{kd:IntKind}(h:dZ B v ts){i:Nat}{t:Tb}(hi:ts[i]? =some t)(hs:∀x∈B,x∈H){K:Value→Prop}(hk:K (.int .i64 t.n)):an 2 v (.int kd (i:Int)) (fun p=>ag 0 p (fun q=>Ld H q K)):=by
 obtain⟨rs,h1,h2⟩:=h
 obtain⟨r,hr,s,rfl,hw⟩:=h2.get hi
 exact an.sl h1 hr fun p hp=>ag.at hp fun q hq=>Ld.at hq hs hk
theorem dZ.one{B:Hp}{b cap:Nat}{t:Tb}{s:Value}{T:TypeId}{fz:Nat×Nat}(hm:(b,Obj.cells #[.int .i64 t.n,s] T fz)∈B)(hw:Words B s t.ws):dZ B (.slice (some ⟨b,0,none⟩) 1 (cap+1)) [t]:=by
 refine⟨[[.int .i64 t.n,s]],⟨by simp,.inr ⟨b,0,cap+1,_,T,fz,rfl,by simp,hm,by simp,fun i r hi j v hj=>?_⟩⟩,rfl,fun i r x h1 h2=>?_⟩
 ·cases i with
  |zero=>simp at hi;subst hi;simpa using hj
  |succ i=>simp at hi
 ·cases i with
  |zero=>simp at h1 h2;subst h1;subst h2;exact⟨s,rfl,hw⟩
  |succ i=>simp at h1
def TF(t:Tb):Prop:=0≤t.n∧aj.dh t.n.toNat t.ws
instance (t:Tb):Decidable (TF t):=by unfold TF;infer_instance
end Go.Sx
namespace Go.Sx
open Go Go.RowKit
section
variable {P:Program}
def whole(W:World):Hp:=(List.range W.heap.size).map fun i=>(i,W.heap.getD i default)
theorem u6(W:World):Own ⟨W,[]⟩ (whole W) W:=by
 refine⟨rfl,rfl,rfl,?_,?_⟩
 ·have:(whole W).map Prod.fst=List.range W.heap.size:=by
   unfold whole
   rw[List.map_map]
   have:(Prod.fst∘fun i=>(i,W.heap.getD i default))=id:=by funext i;rfl
   rw[this,List.map_id]
  rw[List.append_nil,this];exact List.nodup_range
 ·intro x hx
  rw[List.append_nil]at hx
  obtain⟨i,hi,rfl⟩:=List.mem_map.1 hx
  have:=List.mem_range.1 hi
  simp[Array.getD_eq_getD_getElem?,this]
theorem vi{W:World}{b:Nat}{o:Obj}(h:W.heap[b]? =some o):(b,o)∈whole W:=by
 have hlt:=(Array.getElem?_eq_some_iff.1 h).1
 exact List.mem_map.2 ⟨b,List.mem_range.2 hlt,by simp[Array.getD_eq_getD_getElem?,h]⟩
theorem Own.below{W W':World}(h:Own ⟨W,[]⟩ (whole W) W'):Below W.heap.size W W':=by
 have hb:∀k,k<W.heap.size→W'.heap[k]? =W.heap[k]? :=fun k hk=>by
  have:=h.has (k,W.heap.getD k default) (List.mem_map.2 ⟨k,List.mem_range.2 hk,rfl⟩)
  simp only at this
  rw[this];simp[Array.getD_eq_getD_getElem?,hk]
 refine⟨h.os,h.tape,h.out,?_,hb⟩
 rcases Nat.eq_zero_or_pos W.heap.size with h0|h0
 ·omega
 ·have:=hb (W.heap.size-1) (by omega)
  rw[show W.heap[W.heap.size-1]? =some (W.heap[W.heap.size-1]'(by omega))from Array.getElem?_eq_getElem (by omega)]at this
  have:=(Array.getElem?_eq_some_iff.1 this).1
  omega
theorem Hx{f:FuncId}{args:Array Value}{W:World}(h:bW P ⟨W,[]⟩ f args (whole W) (fun e H'=>e=.returned (.bool true)∧aM H' (whole W))):
  Calls P f args W fun e W'=>e=.returned (.bool true)∧Below W.heap.size W W':=
 (h W (u6 W)).mono fun e W' ⟨H',ho,he,tc⟩=>⟨he,(tc _ _ ho).below⟩
theorem RF{f:FuncId}{args:Array Value}{W:World}(h:Px P f args (whole W) (fun v _=>v=.bool true)):
  Calls P f args W fun e W'=>e=.returned (.bool true)∧Below W.heap.size W W':=
 Hx ((h ⟨W,[]⟩).post fun e H' ⟨v,C,he,tc,hg,hv⟩=>⟨H',.refl _,by rw[he,hv],tc.trans hg.ie⟩)
section
variable {H:Type} {enc:TypeId×Value→H}
open Go.ChangeShapes Go.WideShapes Go.ChangeAt Go.RowKit
theorem nF(hl:laidOutB P=true){W W':World}{sp:Nat→Bool}(hb:Below W.heap.size W W'):∀(ts:List TypeId) (vs:List Value) (ds:List (DataW H)) (ps:List MemPlace),
  (∀t∈ts,P.readableRec t=true∧t<P.types.size)→DataW.TrodAll enc P W 0 (fun _=>true) true ts vs ds ps→(∀x∈ps,x.block<W.heap.size)→(∀x∈ps,sp x.block=true)→DataW.TrodAll enc P W' 0 sp true ts vs ds ps
 | [],vs,ds,ps,_,h,_,_=>by
  obtain⟨rfl,rfl,rfl⟩:=trodAll_nil h;exact trodAll_mk0
 |t::ts,vs,ds,ps,hr,h,hlt,hsp=>by
  obtain⟨v,vs',d,ds',p,q,rfl,rfl,rfl,h0,h1⟩:=trodAll_cons h
  have ht:=hr t (by simp)
  exact trodAll_cons_mk (WideElems.Trod_stays hl ht.1 ht.2 h0 (fun x hx=>hb.same (hlt x (by simp[hx]))) (fun x hx=>hsp x (by simp[hx])))
   (nF hl hb ts vs' ds' q (fun t' h'=>hr t' (by simp[h'])) h1 (fun x hx=>hlt x (by simp[hx])) (fun x hx=>hsp x (by simp[hx])))
theorem KD{f:Func}{s:ChangeSpec}{W W':World}{args:Array Value}{ds gs:List (DataW H)}{before:List MemPlace}{tb:TypeId}(hvars:s.vars=[])
 (hW:DataW.Whole enc P f.params.toList s.vars false W args.toList ds gs before)(hs:s.fn H (ds++gs)={results:=[.lit (.bool true)],args:=ds})(hb:Below W.heap.size W W')
 (hl:laidOutB P=true)(hr:∀t∈f.params.toList,P.readableRec t=true∧t<P.types.size)(hrt:f.resultTypes=#[tb])(Vr:P.underlying tb=some .bool):
  s.post enc P f false true false false W args (.bool true) W':=by
 have WZ:=hW
 have hlt:=hW.lt
 obtain⟨p,q,hA,hV,rfl,hfz,gE⟩:=hW
 rw[hvars]at hV
 obtain⟨rfl,rfl⟩:=trodVars_none hV
 refine⟨ds,_,_,[],p,[],WZ,?_,?_,?_,World.keptBut_mono (fun p hp=>⟨hp,?_⟩) (hb.frame (· ∈p++[])),fun h=>by cases h⟩
 ·rw[hs,hrt];exact trodAll_cons_mk (shut_bool Vr _) trodAll_mk0
 ·rw[hs]
  exact nF hl hb _ _ _ _ hr hA (fun x hx=>hlt x (by simp[hx])) (fun x hx=>by simpa using hlt x (by simp[hx]))
 ·rw[hvars,hs];rfl
 ·right;simpa using hp
end
end
end Go.Sx
namespace Go.Sx
open Go
section
variable {P:Program} {g:Gh} {H:Hp}
theorem aO.aa6{T:TypeId}{v x:Value}{rs:List (List Value)}{C:Hp}(hs:aO T 1 v rs C){i:Nat}(hi:i<rs.length)(hr:rs[i]? =some [x])(hC:∀y∈C,y∈H){K:Value→Prop}(hk:K x):
  an 1 v (.int .i64 (i:Int)) fun p=>Ld H p K:=by
 obtain⟨b',aJ,rfl,rfl,aE⟩:=hs.pos (by omega)
 refine an.nat hi ?_
 exact Ld.Ub (l:=rs++aJ) (hC _ (List.Mem.head _)) aE (by rw[List.getElem?_append_left hi];exact hr) hk
theorem aO.Xt{T:TypeId}{v x y:Value}{rs:List (List Value)}{C A B:Hp}(hs:aO T 1 v rs C){i:Nat}(hi:i<rs.length)(hr:rs[i]? =some [y])(h1:x.oneCell'=true){K:Hp→Prop}
 (hk:∀C',aO T 1 v (rs.set i [x]) C'→K (A++(C'++B))):an 1 v (.int .i64 (i:Int)) fun p=>St 1 (A++(C++B)) p x K:=by
 obtain⟨b',aJ,rfl,rfl,aE⟩:=hs.pos (by omega)
 refine an.nat hi ?_
 refine St.cell (l:=rs++aJ) (i:=i) (k:=1) (j:=0) (r:=[y]) (((cD.head _).append B).bO A) aE (by rw[List.getElem?_append_left hi];exact hr) (by omega) h1 ?_
 have e:(rs++aJ).set i ([y].set 0 x)=rs.set i [x]++aJ:=by rw[List.set_append_left _ _ hi];rfl
 rw[e]
 refine hk [(b',_)] (aO.mk' (aJ:=aJ) (fun r hr'=>?_) (by simp) (by simp))
 rcases List.mem_append.1 hr' with hr'|hr'
 ·rcases List.mem_or_eq_of_mem_set hr' with hr'|rfl
  ·exact aE r (by simp[hr'])
  ·rfl
 ·exact aE r (by simp[hr'])
end
end Go.Sx
namespace Go.Sx
open Go
section
variable {κ β:Type} [DecidableEq κ]
structure aN(ke:κ→Value)(vr:Value→β→Prop)(es:Array MapEntry)(ck:Nat)(m:List (κ×β)):Prop where
 len:es.size=m.length
 key:∀(i:Nat) (e:MapEntry) (x:κ×β),es[i]? =some e→m[i]? =some x→e.key=ke x.1∧vr e.val x.2
 nd:(m.map Prod.fst).Nodup
 born:(es.toList.map MapEntry.born).Nodup
 lt:∀e∈es.toList,e.born<ck
variable {ke:κ→Value} {vr:Value→β→Prop} {es:Array MapEntry} {ck:Nat} {m:List (κ×β)}
theorem aN.empty:aN ke vr #[] 0 []:=⟨rfl,by simp,by simp,by simp,by simp⟩
theorem aN.mono{qF:Value→β→Prop}(h:aN ke vr es ck m)(hv:∀v x,vr v x→qF v x):aN ke qF es ck m:=⟨h.len,fun i e x h1 h2=>⟨(h.key i e x h1 h2).1,hv _ _ (h.key i e x h1 h2).2⟩,h.nd,h.born,h.lt⟩
def fm(m:List (κ×β))(k:κ)(x:β):List (κ×β):=if k∈m.map Prod.fst then m.map (fun y=>if y.1=k then(k,x)else y)else m++[(k,x)]
def cR(m:List (κ×β))(k:κ):Option β:=(m.find? (fun y=>y.1=k)).map Prod.snd
theorem dS{m:List (κ×β)}{k:κ}{x:β}(nd:(m.map Prod.fst).Nodup):cR m k=some x↔(k,x)∈m:=by
 induction m with
 |nil=>simp[cR]
 |cons y r ih=>
  rw[List.map_cons,List.nodup_cons]at nd
  obtain⟨a,b⟩:=y
  simp only[cR,List.find?_cons]at ih⊢
  by_cases e:a=k
  ·subst e
   simp only[decide_true,Option.map_some,Option.some.injEq,List.mem_cons,Prod.mk.injEq,true_and]
   constructor
   ·intro h;exact .inl h.symm
   ·rintro(h|h)
    ·exact h.symm
    ·exact absurd (List.mem_map.2 ⟨_,h,rfl⟩) nd.1
  ·simp only[e,decide_false,List.mem_cons,Prod.mk.injEq,Ne.symm e,false_and,false_or]
   exact ih nd.2
theorem fX{m:List (κ×β)}{k:κ}:cR m k=none↔k∉m.map Prod.fst:=by
 simp only[cR,Option.map_eq_none_iff,List.find?_eq_none,decide_eq_true_eq,List.mem_map,not_exists,not_and]
theorem aN.findNow{kd:TypeDesc}(hk:∀a b,Instr.sameNow kd (ke a) (ke b)=some (decide (a=b)))(h:aN ke vr es ck m)(k:κ):
  (∃(i:Nat) (x:β) (e:MapEntry),es[i]? =some e∧m[i]? =some (k,x)∧vr e.val x∧Instr.findNow kd (ke k) es.toList 0=some (some (i,e.val)))∨(k∉m.map Prod.fst∧Instr.findNow kd (ke k) es.toList 0=some none):=by
 have key:∀(l:List MapEntry) (q:List (κ×β)) (j:Nat),l.length=q.length→(∀(i:Nat) (e:MapEntry) (x:κ×β),l[i]? =some e→q[i]? =some x→e.key=ke x.1∧vr e.val x.2)→
   (∃(i:Nat) (x:β) (e:MapEntry),l[i]? =some e∧q[i]? =some (k,x)∧vr e.val x∧Instr.findNow kd (ke k) l j=some (some (j+i,e.val)))∨(k∉q.map Prod.fst∧Instr.findNow kd (ke k) l j=some none):=by
  intro l
  induction l with
  |nil=>intro q j hl _;cases q with|nil=>exact .inr ⟨by simp,rfl⟩|cons a b=>simp at hl
  |cons e r ih=>
   intro q j hl hkey
   cases q with
   |nil=>simp at hl
   |cons y q=>
    obtain⟨h1,h2⟩:=hkey 0 e y rfl rfl
    simp only[Instr.findNow,h1,hk]
    by_cases e0:k=y.1
    ·subst e0
     exact .inl ⟨0,y.2,e,rfl,rfl,h2,by simp⟩
    ·rw[decide_eq_false e0]
     rcases ih q (j+1) (by simpa using hl) (fun i e x h1 h2=>hkey (i+1) e x (by simpa using h1) (by simpa using h2))with⟨i,x,e',g1,g2,g3,g4⟩|⟨g1,g2⟩
     ·exact .inl ⟨i+1,x,e',by simpa using g1,by simpa using g2,g3,by simp only[g4];rw[show j+1+i=j+(i+1)by omega]⟩
     ·exact .inr ⟨by rw[List.map_cons,List.mem_cons];rintro(h|h);exact e0 h;exact g1 h,by simpa using g2⟩
 have:=key es.toList m 0 (by simpa using h.len) (fun i e x h1 h2=>h.key i e x (by simpa using h1) h2)
 rcases this with⟨i,x,e,g1,g2,g3,g4⟩|h2
 ·exact .inl ⟨i,x,e,by simpa using g1,g2,g3,by simpa using g4⟩
 ·exact .inr h2
theorem aN.zO{P:Program}{kt:TypeId}(hk:∀a b,xY P kt (ke a) (ke b) (decide (a=b)))(h:aN ke vr es ck m)(k:κ):
  (∃(i:Nat) (x:β) (e:MapEntry),es[i]? =some e∧m[i]? =some (k,x)∧vr e.val x∧kS P kt (ke k) es.toList 0 (some (i,e.val)))∨(k∉m.map Prod.fst∧kS P kt (ke k) es.toList 0 none):=by
 have key:∀(l:List MapEntry) (q:List (κ×β)) (j:Nat),l.length=q.length→(∀(i:Nat) (e:MapEntry) (x:κ×β),l[i]? =some e→q[i]? =some x→e.key=ke x.1∧vr e.val x.2)→
   (∃(i:Nat) (x:β) (e:MapEntry),l[i]? =some e∧q[i]? =some (k,x)∧vr e.val x∧kS P kt (ke k) l j (some (j+i,e.val)))∨(k∉q.map Prod.fst∧kS P kt (ke k) l j none):=by
  intro l
  induction l with
  |nil=>intro q j hl _;cases q with|nil=>exact .inr ⟨by simp,rfl⟩|cons a b=>simp at hl
  |cons e r ih=>
   intro q j hl hkey
   cases q with
   |nil=>simp at hl
   |cons y q=>
    obtain⟨h1,h2⟩:=hkey 0 e y rfl rfl
    have hb:=hk k y.1
    rw[←h1]at hb
    by_cases e0:k=y.1
    ·refine .inl ⟨0,y.2,e,rfl,by rw[e0];rfl,h2,?_⟩
     exact⟨_,hb,fun _=>by simp,fun h=>by simp[e0]at h⟩
    ·rcases ih q (j+1) (by simpa using hl) (fun i e x h1 h2=>hkey (i+1) e x (by simpa using h1) (by simpa using h2))with⟨i,x,e',g1,g2,g3,g4⟩|⟨g1,g2⟩
     ·refine .inl ⟨i+1,x,e',by simpa using g1,by simpa using g2,g3,_,hb,fun h=>by simp[e0]at h,fun _=>?_⟩
      rw[show j+(i+1)=j+1+i by omega];exact g4
     ·exact .inr ⟨by rw[List.map_cons,List.mem_cons];rintro(h|h);exact e0 h;exact g1 h,_,hb,fun h=>by simp[e0]at h,fun _=>g2⟩
 have:=key es.toList m 0 (by simpa using h.len) (fun i e x h1 h2=>h.key i e x (by simpa using h1) h2)
 rcases this with⟨i,x,e,g1,g2,g3,g4⟩|h2
 ·exact .inl ⟨i,x,e,by simpa using g1,g2,g3,by simpa using g4⟩
 ·exact .inr h2
theorem aN.put(h:aN ke vr es ck m){i:Nat}{k:κ}{y x:β}{val:Value}(hi:m[i]? =some (k,y))(hv:vr val x):aN ke vr (es.modify i fun e=>{e with key:=ke k,val}) ck (fm m k x):=by
 have hmem:k∈m.map Prod.fst:=List.mem_map.2 ⟨_,List.mem_of_getElem? hi,rfl⟩
 have hlt:=(List.getElem?_eq_some_iff.1 hi).1
 have UA:∀j z,m[j]? =some z→z.1=k→j=i:=fun j z hj hz=>by
  have hj':=(List.getElem?_eq_some_iff.1 hj).1
  have e1:(m.map Prod.fst)[j]? =some k:=by rw[List.getElem?_map,hj];simp[hz]
  have e2:(m.map Prod.fst)[i]? =some k:=by rw[List.getElem?_map,hi];rfl
  exact(List.getElem?_inj (by simpa using hj') h.nd).1 (e1.trans e2.symm)
 have hb:((es.modify i fun e=>{e with key:=ke k,val}).toList.map MapEntry.born)=es.toList.map MapEntry.born:=by
  apply List.ext_getElem?;intro j
  simp only[List.getElem?_map,Array.getElem?_toList,Array.getElem?_modify]
  split
  ·cases es[j]? <;>rfl
  ·rfl
 refine⟨by simp[fm,hmem,h.len],fun j e z he hz=>?_,?_,by rw[hb];exact h.born,fun e he=>?_⟩
 ·simp only[fm,hmem,if_true,List.getElem?_map]at hz
  rw[Array.getElem?_modify]at he
  cases hm:m[j]? with
  |none=>rw[hm]at hz;simp at hz
  |some z0=>
   rw[hm]at hz
   simp only[Option.map_some,Option.some.injEq]at hz
   cases Vi:es[j]? with
   |none=>rw[Vi]at he;split at he<;>simp at he
   |some e0=>
    rw[Vi]at he
    by_cases ek:z0.1=k
    ·have:=UA j z0 hm ek
     subst this
     rw[if_pos ek]at hz;subst hz
     simp only[if_true,Option.map_some,Option.some.injEq]at he
     subst he;exact⟨rfl,hv⟩
    ·rw[if_neg ek]at hz;subst hz
     rw[if_neg (fun e=>by subst e;rw[hi]at hm;cases hm;exact ek rfl)]at he
     simp only[Option.some.injEq]at he
     subst he;exact h.key j _ _ Vi hm
 ·have:(fm m k x).map Prod.fst=m.map Prod.fst:=by
   simp only[fm,hmem,if_true,List.map_map]
   apply List.map_congr_left
   intro z _
   simp only[Function.comp]
   split
   ·rename_i hz;exact hz.symm
   ·rfl
  rw[this];exact h.nd
 ·have:e.born∈(es.modify i fun e=>{e with key:=ke k,val}).toList.map MapEntry.born:=List.mem_map_of_mem he
  rw[hb]at this
  obtain⟨e0,h1,h2⟩:=List.mem_map.1 this
  rw[←h2];exact h.lt e0 h1
theorem aN.more(h:aN ke vr es ck m){k:κ}{x:β}{val:Value}(hk:k∉m.map Prod.fst)(hv:vr val x):aN ke vr (es.push {key:=ke k,val,born:=ck}) (ck+1) (fm m k x):=by
 have hs:fm m k x=m++[(k,x)]:=by unfold fm;rw[if_neg hk]
 rw[hs]
 refine⟨by simp[h.len],fun j e z he hz=>?_,?_,?_,fun e he=>?_⟩
 ·by_cases hj:j<m.length
  ·rw[List.getElem?_append_left hj]at hz
   rw[Array.getElem?_push,if_neg (by rw[h.len];omega)]at he
   exact h.key j _ _ he hz
  ·have Qs:=(List.getElem?_eq_some_iff.1 hz).1
   simp only[List.length_append,List.length_cons,List.length_nil]at Qs
   have:j=m.length:=by omega
   subst this
   rw[List.getElem?_append_right (Nat.le_refl _)]at hz
   simp at hz;subst hz
   rw[Array.getElem?_push,if_pos h.len.symm]at he
   simp at he;subst he
   exact⟨rfl,hv⟩
 ·rw[List.map_append,List.nodup_append]
  refine⟨h.nd,by simp,fun a ha b hb=>?_⟩
  simp at hb;subst hb;rintro rfl;exact hk ha
 ·rw[Array.toList_push,List.map_append,List.nodup_append]
  refine⟨h.born,by simp,fun a ha b hb=>?_⟩
  simp at hb;subst hb
  obtain⟨e,he,rfl⟩:=List.mem_map.1 ha
  have:=h.lt e he;omega
 ·rw[Array.toList_push,List.mem_append]at he
  rcases he with he|he
  ·have:=h.lt e he;omega
  ·simp at he;subst he;simp
variable {H:Hp} {b:Nat}
theorem aN.hit{kd:TypeDesc}{zero:Value}{ok:Bool}{k:κ}{x:β}{K:Value→Prop}(hk:∀a b,Instr.sameNow kd (ke a) (ke b)=some (decide (a=b)))(h:aN ke vr es ck m)(hm:(b,Obj.map es ck)∈H)(hx:cR m k=some x)
 (h1:∀v,vr v x→K (cond ok (.tuple #[v,.bool true]) v)):mK kd zero ok H (.map (some b)) (ke k) K:=by
 rcases h.findNow hk k with⟨i,y,e,g1,g2,g3,g4⟩|⟨g1,g2⟩
 ·have:cR m k=some y:=(dS h.nd).2 (List.mem_of_getElem? g2)
  rw[hx]at this;cases this
  exact⟨es,_,.inr ⟨b,ck,rfl,hm⟩,g4,h1 _ g3⟩
 ·rw[fX.2 g1]at hx;cases hx
theorem aN.bK{kd:TypeDesc}{zero:Value}{ok:Bool}{k:κ}{K:Value→Prop}(hk:∀a b,Instr.sameNow kd (ke a) (ke b)=some (decide (a=b)))(h:aN ke vr es ck m)(hm:(b,Obj.map es ck)∈H)(hx:cR m k=none)
 (h1:K (cond ok (.tuple #[zero,.bool false]) zero)):mK kd zero ok H (.map (some b)) (ke k) K:=by
 rcases h.findNow hk k with⟨i,y,e,g1,g2,g3,g4⟩|⟨g1,g2⟩
 ·exact absurd (List.mem_map.2 ⟨_,List.mem_of_getElem? g2,rfl⟩) (fX.1 hx)
 ·exact⟨es,_,.inr ⟨b,ck,rfl,hm⟩,g2,h1⟩
theorem aN.bS{kd:TypeDesc}{k:κ}{x:β}{val:Value}{K:Hp→Prop}(hk:∀a b,Instr.sameNow kd (ke a) (ke b)=some (decide (a=b)))(hb:∀a,Instr.sameBits 10000 (ke a) (ke a)=true)(h:aN ke vr es ck m)(hv:vr val x)
 (h1:∀es' ca,aN ke vr es' ca (fm m k x)→∃H',cD b (.map es ck) (.map es' ca) H H'∧K H'):ei kd H (.map (some b)) (ke k) val K:=by
 rcases h.findNow hk k with⟨i,y,e,g1,g2,g3,g4⟩|⟨g1,g2⟩
 ·refine⟨b,es,ck,_,rfl,g4,fun e' he'=>?_,by rw[h.len];exact(List.getElem?_eq_some_iff.1 g2).1,h1 _ _ (h.put g2 hv)⟩
  rw[(h.key i e' _ he' g2).1];exact hb k
 ·exact⟨b,es,ck,_,rfl,g2,h1 _ _ (h.more g1 hv)⟩
theorem aN.BE{P:Program}{kt:TypeId}{zero:Value}{ok:Bool}{k:κ}{x:β}{K:Value→Prop}(hk:∀a b,xY P kt (ke a) (ke b) (decide (a=b)))(hc:∀a,jW P kt (ke a))(h:aN ke vr es ck m)(hm:(b,Obj.map es ck)∈H)(hx:cR m k=some x)
 (h1:∀v,vr v x→K (cond ok (.tuple #[v,.bool true]) v)):iI P kt zero ok H (.map (some b)) (ke k) K:=by
 rcases h.zO hk k with⟨i,y,e,g1,g2,g3,g4⟩|⟨g1,g2⟩
 ·have:cR m k=some y:=(dS h.nd).2 (List.mem_of_getElem? g2)
  rw[hx]at this;cases this
  exact⟨es,_,.inr ⟨b,ck,rfl,hm⟩,hc k,g4,h1 _ g3⟩
 ·rw[fX.2 g1]at hx;cases hx
theorem aN.sK{P:Program}{kt:TypeId}{zero:Value}{ok:Bool}{k:κ}{K:Value→Prop}(hk:∀a b,xY P kt (ke a) (ke b) (decide (a=b)))(hc:∀a,jW P kt (ke a))(h:aN ke vr es ck m)(hm:(b,Obj.map es ck)∈H)(hx:cR m k=none)
 (h1:K (cond ok (.tuple #[zero,.bool false]) zero)):iI P kt zero ok H (.map (some b)) (ke k) K:=by
 rcases h.zO hk k with⟨i,y,e,g1,g2,g3,g4⟩|⟨g1,g2⟩
 ·exact absurd (List.mem_map.2 ⟨_,List.mem_of_getElem? g2,rfl⟩) (fX.1 hx)
 ·exact⟨es,_,.inr ⟨b,ck,rfl,hm⟩,hc k,g2,h1⟩
theorem aN.Jy{P:Program}{kt:TypeId}{k:κ}{x:β}{val:Value}{K:Hp→Prop}(hk:∀a b,xY P kt (ke a) (ke b) (decide (a=b)))(hc:∀a,jW P kt (ke a))(hb:∀a,Instr.sameBits 10000 (ke a) (ke a)=true)(h:aN ke vr es ck m)(hv:vr val x)
 (h1:∀es' ca,aN ke vr es' ca (fm m k x)→∃H',cD b (.map es ck) (.map es' ca) H H'∧K H'):gn P kt H (.map (some b)) (ke k) val K:=by
 rcases h.zO hk k with⟨i,y,e,g1,g2,g3,g4⟩|⟨g1,g2⟩
 ·refine⟨b,es,ck,_,rfl,hc k,g4,fun e' he'=>?_,by rw[h.len];exact(List.getElem?_eq_some_iff.1 g2).1,h1 _ _ (h.put g2 hv)⟩
  rw[(h.key i e' _ he' g2).1];exact hb k
 ·exact⟨b,es,ck,_,rfl,hc k,g2,h1 _ _ (h.more g1 hv)⟩
theorem aN.KB(h:aN ke vr es ck m)(hm:(b,Obj.map es ck)∈H){K:Value→Prop}(hk:K (.int .i64 m.length)):xW H (.map (some b)) K:=⟨_,rfl,.inr ⟨b,es,ck,rfl,hm,by rw[h.len];exact hk⟩⟩
def cA(es:Array MapEntry)(m:List (κ×β))(seen:Array Nat):List (κ×β):=((es.toList.zip m).filter fun p=> !seen.contains p.1.born).map Prod.snd
omit [DecidableEq κ] in
theorem nU(h:aN ke vr es ck m):cA es m #[]=m:=by
 unfold cA
 rw[List.filter_eq_self.2 (by simp),←List.unzip_snd,List.unzip_zip]
 simpa using h.len
omit [DecidableEq κ] in
theorem yl(h:aN ke vr es ck m){seen:Array Nat}{i:Nat}{e:MapEntry}{x:κ×β}(he:es[i]? =some e)(hx:m[i]? =some x)(hs:e.born∉seen):(cA es m seen).Perm (x::cA es m (seen.push e.born)):=by
 unfold cA
 have hz:(es.toList.zip m)[i]? =some (e,x):=by rw[List.getElem?_zip_eq_some];exact⟨by simpa using he,hx⟩
 obtain⟨A,C,hAC,hlen⟩:∃A C,es.toList.zip m=A++(e,x)::C∧A.length=i:=by
  obtain⟨hlt,hg⟩:=List.getElem?_eq_some_iff.1 hz
  exact⟨(es.toList.zip m).take i,(es.toList.zip m).drop (i+1),by rw[←hg,List.getElem_cons_drop,List.take_append_drop],by simp only[List.length_take];omega⟩
 have Yx:(es.toList.zip m).map (fun p=>p.1.born)=es.toList.map MapEntry.born:=by
  have:(es.toList.zip m).map Prod.fst=es.toList:=by rw[←List.unzip_fst,List.unzip_zip];simpa using h.len
  rw[show(fun p:MapEntry×(κ×β)=>p.1.born)=MapEntry.born∘Prod.fst from rfl,←List.map_map,this]
 have gE:=h.born
 rw[←Yx,hAC,List.map_append,List.map_cons]at gE
 have UZ:=List.perm_middle.nodup_iff.1 gE
 rw[List.nodup_cons,←List.map_append]at UZ
 have hne:∀p∈A++C,p.1.born≠e.born:=fun p hp e0=>UZ.1 (List.mem_map.2 ⟨p,hp,e0⟩)
 have Qz:∀L:List (MapEntry×(κ×β)),(∀p∈L,p.1.born≠e.born)→(L.filter fun p=> !(seen.push e.born).contains p.1.born)=L.filter fun p=> !seen.contains p.1.born:=fun L hL=>by
  apply List.filter_congr
  intro p hp
  have:=hL p hp
  simp[Array.mem_push,this]
 rw[hAC,List.filter_append,List.filter_append,List.filter_cons,List.filter_cons]
 rw[if_pos (by simpa using hs),if_neg (by simp),Qz A fun p hp=>hne p (List.mem_append_left _ hp),Qz C fun p hp=>hne p (List.mem_append_right _ hp)]
 rw[List.map_append,List.map_append,List.map_cons]
 exact List.perm_middle
omit [DecidableEq κ] in
theorem aN.next{bi bm:Nat}{seen:Array Nat}{K:Value→Hp→Prop}(h:aN ke vr es ck m)(hm:(bm,Obj.map es ck)∈H)(hi:(bi,Obj.mapIter (some bm) ck seen ck)∈H)
 (h1:∀e x seen',e∈es.toList→e.key=ke x.1→vr e.val x.2→(cA es m seen).Perm (x::cA es m seen')→seen'.back?=some e.born→es.find? (·.born==e.born)=some e→
   ∃H',cD bi (.mapIter (some bm) ck seen ck) (.mapIter (some bm) ck seen' ck) H H'∧K (.tuple #[.bool true,e.key,e.val]) H')
 (h2:cA es m seen=[]→K (.tuple #[.bool false]) H):S6 H (.pointer (some ⟨bi,0,none⟩)) K:=by
 refine⟨bi,some bm,ck,seen,ck,rfl,hi,es,ck,hm,fun e he=>⟨h.lt e he,h.lt e he⟩,fun e he hs=>?_,fun aE=>h2 ?_⟩
 ·obtain⟨i,hi',rfl⟩:=List.mem_iff_getElem.1 he
  have BG:i<m.length:=by rw[←h.len];simpa using hi'
  have g1:es[i]? =some es.toList[i]:=by rw[←Array.getElem?_toList];exact List.getElem?_eq_getElem hi'
  have g2:m[i]? =some m[i]:=List.getElem?_eq_getElem BG
  obtain⟨k1,k2⟩:=h.key i _ _ g1 g2
  refine h1 _ m[i] _ he k1 k2 (yl h g1 g2 hs) (by simp) ?_
  rw[←Array.find?_toList]
  have gE:=h.born
  rw[List.find?_eq_some_iff_append]
  refine⟨by simp,es.toList.take i,es.toList.drop (i+1),by rw[List.getElem_cons_drop,List.take_append_drop],fun a ha=>?_⟩
  simp only[Bool.not_eq_true',beq_eq_false_iff_ne,ne_eq]
  intro e0
  obtain⟨j,hj,rfl⟩:=List.mem_iff_getElem.1 ha
  simp only[List.length_take]at hj
  rw[List.getElem_take]at e0
  have:=(List.getElem_inj (by simpa using h.born) (xs:=es.toList.map MapEntry.born) (i:=j) (j:=i) (h₀:=by rw[List.length_map];omega) (h₁:=by rw[List.length_map];exact hi')).1 (by simpa using e0)
  omega
 ·unfold cA
  rw[List.filter_eq_nil_iff.2,List.map_nil]
  intro p hp
  have:=aE p.1 (List.of_mem_zip hp).1
  simpa using this
end
end Go.Sx
